import Derived.Test.YtnhlmmnaanallaaAmM0
set_option linter.unusedVariables false
set_option linter.unusedSimpArgs false
set_option linter.unnecessarySimpa false
set_option linter.deprecated false
set_option linter.unusedSectionVars false
namespace Go.AM
set_option linter.unusedVariables false

theorem told_bd2 {a : List Pt} {p : Pt} {t : Int} (g : Good_ a) (ht : 0 ≤ t ∧ t ≤ 100) (hp : p ∈ dirL a t) : (-20000 ≤ p.x ∧ p.x ≤ 20000) ∧ (-20000 ≤ p.y ∧ p.y ≤ 20000) := by
  have h := vw_of g ht
  unfold dirL at hp
  rw [allD_mem] at hp
  obtain ⟨s, s0, s1, u, u0, u1, e⟩ := hp
  have i0 := h.isIn 0
  have i1 := h.isIn 1
  have i2 := h.isIn 2
  unfold In at i0 i1 i2
  unfold dirOf at e
  split at e
  · cases e
    have m1 := mul_bd (x := s) (y := (pt a 2).y - (pt a 0).y) (A := 100) (B := 80) (by omega) (by omega)
    have m2 := mul_bd (x := u) (y := (pt a 1).y - (pt a 0).y) (A := 100) (B := 80) (by omega) (by omega)
    have m3 := mul_bd (x := u) (y := (pt a 1).x - (pt a 0).x) (A := 100) (B := 80) (by omega) (by omega)
    have m4 := mul_bd (x := s) (y := (pt a 2).x - (pt a 0).x) (A := 100) (B := 80) (by omega) (by omega)
    have b1 := tdiv_bd (a := s * ((pt a 2).y - (pt a 0).y) - u * ((pt a 1).y - (pt a 0).y)) (b := turn (pt a 0) (pt a 1) (pt a 2)) (A := 20000) (by omega)
    have b2 := tdiv_bd (a := u * ((pt a 1).x - (pt a 0).x) - s * ((pt a 2).x - (pt a 0).x)) (b := turn (pt a 0) (pt a 1) (pt a 2)) (A := 20000) (by omega)
    exact ⟨b1, b2⟩
  · cases e

theorem bez_sol1 {L : Nat} {u v : Int} (hx : -20000 ≤ u ∧ u ≤ 20000) (hy : -20000 ≤ v ∧ v ≤ 20000) (hg : Nat.gcd u.natAbs v.natAbs = 1) (hL : 40000 < L) :
    ∃ A B : Int, spec_mvFull L v (-u) = some (A, B) ∧ Sol u v (A, B) ∧ (-20000 ≤ A ∧ A ≤ 20000) ∧ (-20000 ≤ B ∧ B ≤ 20000) := by
  obtain ⟨g1, p1, q1, _, s1, e1, n1, bp, bq, _, _⟩ := bezoutw_eq (L := L) (a := v) (b := -u) (by omega) (by omega) hL
  rw [Int.natAbs_neg, Nat.gcd_comm, hg] at n1
  have bp' : -20000 ≤ p1 ∧ p1 ≤ 20000 := by clear bq e1 hg n1; omega
  have bq' : -20000 ≤ q1 ∧ q1 ≤ 20000 := by clear bp e1 hg n1; omega
  clear bp bq
  unfold Sol
  by_cases hg1 : g1 < 0
  · rw [if_pos hg1] at s1
    refine ⟨-p1, -q1, s1, ?_, by omega, by omega⟩
    simp only
    have : -p1 * v - -q1 * u = -(p1 * v + q1 * -u) := by grind
    rw [this, e1]; omega
  · rw [if_neg hg1] at s1
    refine ⟨p1, q1, s1, ?_, by omega, by omega⟩
    simp only
    have : p1 * v - q1 * u = p1 * v + q1 * -u := by grind
    rw [this, e1]; omega

theorem bez_sol2 {L : Nat} {u v : Int} (hx : -20000 ≤ u ∧ u ≤ 20000) (hy : -20000 ≤ v ∧ v ≤ 20000) (hg : Nat.gcd u.natAbs v.natAbs = 1) (hL : 40000 < L) :
    ∃ g p q A B : Int, impl_bezout L v u = some (g, p, q) ∧ wr IntKind.i64 (imul g p) = A ∧ wr IntKind.i64 (imul (wr IntKind.i64 (isub 0 g)) q) = B ∧ Sol u v (A, B) ∧ (-20000 ≤ A ∧ A ≤ 20000) ∧ (-20000 ≤ B ∧ B ≤ 20000) ∧
      ((A.natAbs : Int) ≤ 1 ∨ (A.natAbs : Int) ≤ u.natAbs) ∧ ((B.natAbs : Int) ≤ 1 ∨ (B.natAbs : Int) ≤ v.natAbs) := by
  obtain ⟨g, p, q, s2, _, e2, n2, bp, bq, _, _⟩ := bezoutw_eq (L := L) (a := v) (b := u) (by omega) (by omega) hL
  rw [Nat.gcd_comm, hg] at n2
  have bp' : -20000 ≤ p ∧ p ≤ 20000 := by clear bq e2 hg n2; omega
  have bq' : -20000 ≤ q ∧ q ≤ 20000 := by clear bp e2 hg n2; omega
  have hg2 : g = 1 ∨ g = -1 := by clear bp bq e2 hg; omega
  rcases hg2 with h | h
  · subst h
    refine ⟨1, p, q, p, -q, s2, ?_, ?_, ?_, bp', by clear bp bq e2 hg; omega, bp.imp (fun h => by exact_mod_cast h) id, by rw [Int.natAbs_neg]; exact bq.imp (fun h => by exact_mod_cast h) id⟩
    · rw [imul_eq, wr_v (by clear bp bq e2 hg; omega)]; omega
    · rw [isub_eq, wr_v (n := 0 - 1) (by omega), imul_eq, wr_v (by clear bp bq e2 hg; omega)]; omega
    · unfold Sol; simp only
      have : p * v - -q * u = p * v + q * u := by grind
      rw [this, e2]
  · subst h
    refine ⟨-1, p, q, -p, q, s2, ?_, ?_, ?_, by clear bp bq e2 hg; omega, bq', by rw [Int.natAbs_neg]; exact bp.imp (fun h => by exact_mod_cast h) id, bq.imp (fun h => by exact_mod_cast h) id⟩
    · rw [imul_eq, wr_v (by clear bp bq e2 hg; omega)]; omega
    · rw [isub_eq, wr_v (n := 0 - -1) (by omega), imul_eq, wr_v (by clear bp bq e2 hg; omega)]; omega
    · unfold Sol; simp only
      have : -p * v - q * u = -(p * v + q * u) := by grind
      rw [this, e2]; rfl

theorem flatMoves0 {L : Nat} {a : List Pt} {P : Pt} (g : Good_ a) (hL : 300000 < L) (hx : -20000 ≤ P.x ∧ P.x ≤ 20000) (hy : -20000 ≤ P.y ∧ P.y ≤ 20000) (hg : Nat.gcd P.x.natAbs P.y.natAbs = 1) (hu : 0 < P.x ∨ (P.x = 0 ∧ P.y = 1)) :
    ∃ (A B gg p q A2 B2 : Int) (z : Int × Int), spec_mvFull L P.y (-P.x) = some (A, B) ∧ (-20000 ≤ A ∧ A ≤ 20000) ∧ (-20000 ≤ B ∧ B ≤ 20000) ∧ ((-10000 ≤ z.1 ∧ z.1 ≤ 10000) ∧ (-20001 ≤ z.2 ∧ z.2 ≤ 20001)) ∧
      spec_wiFlat_l0 L a P.x P.y (A, B) L (-((A.natAbs : Int) + B.natAbs) - 1) A B 0 0 0 0 = some (z.1, z.2, P.x, P.y, -(rngOf z.1 z.2 a).1, -(rngOf P.x P.y a).1) ∧
      impl_bezout L P.y P.x = some (gg, p, q) ∧ wr IntKind.i64 (imul gg p) = A2 ∧ wr IntKind.i64 (imul (wr IntKind.i64 (isub 0 gg)) q) = B2 ∧
      impl_flatMove_l0 L a P P (gg, p, q) L (-2) A2 B2 P.x P.y 0 0 = some (z.1, z.2, P.x, P.y, -(rngOf z.1 z.2 a).1, -(rngOf P.x P.y a).1) := by
  obtain ⟨A, B, s1, o1, bA, bB⟩ := bez_sol1 (L := L) hx hy hg (by omega)
  obtain ⟨gg, p, q, A2, B2, s2, wA, wB, o2, bA2, bB2, cA, cB⟩ := bez_sol2 (L := L) hx hy hg (by omega)
  obtain ⟨z, hz⟩ := bst_ex o1 hu
  have hzb := sol_snd hz hu hy hx.2
  obtain ⟨k1, z1, ka, kb, _⟩ := bst_at hz o1 hu
  obtain ⟨k2, z2, _, _, kc⟩ := bst_at hz o2 hu
  have kc1 : -2 ≤ k2 ∧ k2 ≤ 2 := kc (by
    clear kc ka kb hg cB bA bB z1 z2
    rcases hu with h | ⟨h, _⟩
    · rcases cA with c | c
      · exact .inl c
      · right; simp only; omega
    · rcases cA with c | c
      · exact .inl c
      · left; simp only; omega) (by
    clear kc ka kb hg cA bA bB z1 z2
    rcases hu with h | ⟨_, h⟩
    · exact .inr h
    · left; simp only; rw [h] at cB; omega)
  clear kc cA cB hg
  refine ⟨A, B, gg, p, q, A2, B2, z, s1, bA, bB, hzb, ?_, s2, wA, wB, ?_⟩
  · have b1 := bestF_eq hz o1 z1 (2 * (A.natAbs + B.natAbs) + 3) (-((A.natAbs : Int) + B.natAbs) - 1) (A, B) o1 (by simp only at ka; omega) (by simp only at kb; omega)
    clear hz z1 z2 ka kb o1 o2 hu wA wB s1 s2 kc1
    exact flat_l0 (L := L) hx hy bA bB hzb g (by omega) (2 * (A.natAbs + B.natAbs) + 3) L (-((A.natAbs : Int) + B.natAbs) - 1) (A, B) 0 0 0 0 (by omega) (by omega) (by omega) (by omega) (by simp only; omega) (by simp only; omega) (fun j h0 h1 => cand_bd hx hy bA bB j h0 h1) b1
  · have b2 := bestF_eq hz o2 z2 5 (-2) (A2, B2) o2 (by omega) (by omega)
    clear hz z1 z2 ka kb o1 o2 hu s1 s2 kc1
    exact iflat_l0 (L := L) hx hy bA2 bB2 hzb g (by omega) wA wB 5 L (-2) (A2, B2) (by omega) (by omega) (by omega) (by omega) (by simp only; omega) (by simp only; omega) b2

theorem flatMoves {L : Nat} {a : List Pt} (g : Good_ a) (hL : 300000 < L) : ∃ A B C D X Y : Int, spec_wiFlat L a = some (A, B, C, D, X, Y) ∧ impl_flatMove L a = some (A, B, C, D, X, Y) ∧ Wi X ∧ Wi Y := by
  obtain ⟨h1, h2, h3⟩ := leastW_spec g
  have hne : isort (dirL a (leastW a)) ≠ [] := fun e => h2 (by have := isort_len (dirL a (leastW a)); rw [e] at this; exact List.eq_nil_of_length_eq_zero this.symm)
  have hpos : 0 < ((isort (dirL a (leastW a))).length : Int) := by have := List.length_pos_iff.2 hne; omega
  have hm : pt (isort (dirL a (leastW a))) 0 ∈ dirL a (leastW a) := isort_mem.1 (pt_mem hne 0)
  have hl0 : lget (isort (dirL a (leastW a))) 0 = some (pt (isort (dirL a (leastW a))) 0) := lget_pt (Int.le_refl 0) hpos
  have hr0 : lget ((isort (dirL a (leastW a))).map row) 0 = some (row (pt (isort (dirL a (leastW a))) 0)) := lget_row (Int.le_refl 0) hpos
  obtain ⟨hx, hy⟩ := told_bd2 g (by omega) hm
  obtain ⟨⟨hg, hd⟩, _⟩ := (dirL_mem g (by omega)).1 hm
  generalize pt (isort (dirL a (leastW a))) 0 = P at *
  have hu : 0 < P.x ∨ (P.x = 0 ∧ P.y = 1) := by
    rcases hd with h | ⟨h, h'⟩
    · exact .inl h
    · right
      refine ⟨h, ?_⟩
      rw [h] at hg
      simp at hg
      omega
  obtain ⟨A, B, gg, p, q, A2, B2, z, s1, bA, bB, hzb, r1, s2, wA, wB, r2⟩ := flatMoves0 (L := L) (P := P) g hL hx hy hg hu
  clear hg hu hd
  have hV := vw_of g (t := 0) (by omega)
  have vb : ∀ b c : Int, (-100000 ≤ b ∧ b ≤ 100000) → (-100000 ≤ c ∧ c ≤ 100000) → Wi (-(rngOf b c a).1) := fun b c hb hc => by
    have v0 := val_bd hb hc (hV.isIn 0)
    have bd := rng_bd (f := val b c) (A := -8000000) (B := 8000000) a (val b c (pt a 0)) (val b c (pt a 0)) v0 v0 fun p hp => by
      obtain ⟨i, _, _, e⟩ := mem_pt hp
      rw [← e]; exact val_bd hb hc (hV.isIn i)
    unfold Wi rngOf; clear v0 hzb bA bB hx hy hV; omega
  refine ⟨z.1, z.2, P.x, P.y, _, _, ?_, ?_, vb z.1 z.2 (by omega) (by omega), vb P.x P.y (by omega) (by omega)⟩
  · unfold spec_wiFlat
    have w0 : wr IntKind.i64 (isub 0 P.x) = -P.x := by rw [isub_eq, wr_s (by omega)]; omega
    have wk : wr IntKind.i64 (isub (wr IntKind.i64 (isub (wr IntKind.i64 (isub 0 (A.natAbs : Int))) (B.natAbs : Int))) 1) = -((A.natAbs : Int) + B.natAbs) - 1 := by
      rw [isub_eq, isub_eq, isub_eq, wr_s (i := 0 - (A.natAbs : Int)) (by omega), wr_s (i := 0 - (A.natAbs : Int) - B.natAbs) (by omega), wr_s (by omega)]; omega
    simp only [wiLeast_eq g (show 200000 < L by omega), gbind_eq, Option.bind_some, hr0, row_get0, row_get1, w0, s1, spec_l1Abs_eq (L := L) (n := A) (by omega), spec_l1Abs_eq (L := L) (n := B) (by omega), wk]
    exact r1
  · unfold impl_flatMove
    simp only [impl_least_val g (show 200000 < L by omega), gbind_eq, Option.bind_some, ilen_mapep, ile_eq, ilt_eq, Int.le_refl, hpos, decide_true, Bool.and_self, cond_true, hl0, s2, wA, wB]
    exact r2

theorem flatMove_eq {L : Nat} {a : List Pt} (hL : 300000 < L) : ∃ r, spec_FlatMove L a = some r ∧ impl_FlatMove L a = some r ∧ (r.2.2.2.2.2.2 = true → Good_ a ∧ MvG r.1 r.2.1 r.2.2.1 r.2.2.2.1 r.2.2.2.2.1 r.2.2.2.2.2.1) := by
  unfold spec_FlatMove impl_FlatMove
  rw [spec_pgGood_eq (by omega), impl_IsPolygon_eq (by omega)]
  simp only [gbind_eq, Option.bind_some]
  by_cases g : Good_ a
  · obtain ⟨A, B, C, D, X, Y, e1, e2, hX, hY⟩ := flatMoves g hL
    simp only [g, decide_true, Bool.not_true, cond_false, e1, e2, Option.bind_some]
    unfold spec_mvIf impl_checkedMove
    simp only [spec_mvGood_eq (L := L) (show 10 < L by omega), impl_IsMove_eq (L := L) hX hY (show 10 < L by omega), gbind_eq, Option.bind_some]
    by_cases hm : MvG A B C D X Y
    · simp only [hm, decide_true, Bool.not_true, cond_false, Option.bind_some]
      exact ⟨_, rfl, rfl, fun _ => ⟨trivial, hm⟩⟩
    · simp only [hm, decide_false, Bool.not_false, cond_true, Option.bind_some]
      exact ⟨_, rfl, rfl, fun h => by cases h⟩
  · simp only [g, decide_false, Bool.not_false, cond_true]
    exact ⟨_, rfl, rfl, fun h => by cases h⟩
end Go.AM

namespace Go.AM
set_option linter.unusedVariables false

/-- where a move brings a point -/
def mvP (A B C D X Y : Int) (p : Pt) : Pt := ⟨val A B p + X, val C D p + Y⟩

theorem mvP_bd {A B C D X Y : Int} {p : Pt} (hm : MvG A B C D X Y) (hp : In p) : (-1600 ≤ val A B p ∧ val A B p ≤ 1600) ∧ (-1600 ≤ val C D p ∧ val C D p ≤ 1600) ∧ (-2000 ≤ val A B p + X ∧ val A B p + X ≤ 2000) ∧ (-2000 ≤ val C D p + Y ∧ val C D p + Y ≤ 2000) := by
  obtain ⟨⟨a, b, c, d⟩, ⟨x, y⟩, _⟩ := hm
  unfold Bd20 at a b c d
  unfold Bd80 at x y
  have m1 := mul_bd (x := A) (y := p.x) (A := 20) (B := 40) a hp.1
  have m2 := mul_bd (x := B) (y := p.y) (A := 20) (B := 40) b hp.2
  have m3 := mul_bd (x := C) (y := p.x) (A := 20) (B := 40) c hp.1
  have m4 := mul_bd (x := D) (y := p.y) (A := 20) (B := 40) d hp.2
  unfold val; omega

theorem map_pt {a : List Pt} (H : Pt → Pt) : ((List.range a.length).map fun (j : Nat) => H (pt a j)) = a.map H := by
  refine List.ext_getElem (by simp) fun i h1 h2 => ?_
  simp only [List.getElem_map, List.getElem_range]
  have hi : i < a.length := by simpa using h1
  have e := pt_get (a := a) (i := (i : Int)) (by omega) (by omega)
  rw [Int.toNat_natCast, List.getElem?_eq_getElem hi] at e
  rw [Option.some.inj e]

theorem mv_wr {A B C D X Y : Int} {p : Pt} (hm : MvG A B C D X Y) (hp : In p) : wr IntKind.i64 (iadd (wr IntKind.i64 (iadd (wr IntKind.i64 (imul A p.x)) (wr IntKind.i64 (imul B p.y)))) X) = (mvP A B C D X Y p).x ∧ wr IntKind.i64 (iadd (wr IntKind.i64 (iadd (wr IntKind.i64 (imul C p.x)) (wr IntKind.i64 (imul D p.y)))) Y) = (mvP A B C D X Y p).y := by
  obtain ⟨b1, b2, b3, b4⟩ := mvP_bd hm hp
  obtain ⟨⟨a, b, c, d⟩, ⟨x, y⟩, _⟩ := hm
  unfold Bd20 at a b c d
  have e1 := val_wr (p := p) (b := A) (c := B) (by omega) (by omega) hp
  have e2 := val_wr (p := p) (b := C) (c := D) (by omega) (by omega) hp
  rw [e1, e2, iadd_eq, iadd_eq, wr_s (by omega), wr_s (by omega)]
  exact ⟨rfl, rfl⟩

theorem pgMap_l0 {L : Nat} {a : List Pt} {A B C D X Y : Int} (hm : MvG A B C D X Y) (hin : ∀ i, In (pt a i)) (hs : (a.length : Int) ≤ 1000) : ∀ (m i : Nat), i ≤ a.length → a.length - i < m →
    ((∃ j : Int, (i : Int) ≤ j ∧ j < a.length ∧ ¬ In (mvP A B C D X Y (pt a j))) → spec_pgMap_l0 L a A B C D X Y m i ((a.take i).map (mvP A B C D X Y)) = some ([], false)) ∧
    ((∀ j : Int, (i : Int) ≤ j → j < a.length → In (mvP A B C D X Y (pt a j))) → spec_pgMap_l0 L a A B C D X Y m i ((a.take i).map (mvP A B C D X Y)) = some (a.map (mvP A B C D X Y), true)) := by
  intro m
  induction m with
  | zero => intro i _ h; omega
  | succ m ih =>
    intro i hi hm'
    rw [spec_pgMap_l0]
    by_cases h : (i : Int) < (a.length : Int)
    · have hlt : i < a.length := by omega
      have wi : wr IntKind.i64 (iadd (i : Int) 1) = ((i + 1 : Nat) : Int) := by rw [iadd_eq, wr_s (by omega)]; omega
      obtain ⟨e1, e2⟩ := mv_wr hm (hin i)
      obtain ⟨k1, k2⟩ := ih (i + 1) (by omega) (by omega)
      rw [take_pt hlt, List.map_append] at k1 k2
      simp only [ilen_mapep, ilt_eq, h, decide_true, cond_true, lget_pt (show (0 : Int) ≤ i by omega) h, gbind_eq, Option.bind_some, e1, e2]
      by_cases hI : In (mvP A B C D X Y (pt a i))
      · rw [spec_pgIs_eq.1 hI]
        have hf : fits (iadd ((List.map (mvP A B C D X Y) (List.take i a)).length : Int) (ilen [AV.agg [AV.int IntKind.i64 (mvP A B C D X Y (pt a i)).x, AV.int IntKind.i64 (mvP A B C D X Y (pt a i)).y]])) 16 = true := by
          rw [ilen_eq, iadd_eq]; exact fits_s (by simp; omega)
        simp only [Option.bind_some, Bool.not_true, cond_false, hf, cond_true, wi, lcat_eq]
        refine ⟨fun ⟨j, j0, j1, j2⟩ => k1 ⟨j, ?_, j1, j2⟩, fun hh => k2 fun j j0 j1 => hh j (by omega) j1⟩
        by_cases e : j = i
        · subst e; exact absurd hI j2
        · omega
      · rw [spec_pgIs_eq.2 hI]
        simp only [Option.bind_some, Bool.not_false, cond_true]
        exact ⟨fun _ => trivial, fun hh => absurd (hh i (Int.le_refl _) h) hI⟩
    · simp only [ilen_mapep, ilt_eq, h, decide_false, cond_false]
      refine ⟨fun ⟨j, j0, j1, _⟩ => by omega, fun _ => ?_⟩
      rw [List.take_of_length_le (by omega)]

theorem map_both {L : Nat} {a : List Pt} {A B C D X Y : Int} (hm : MvG A B C D X Y) (g : Good_ a) (hL : 300000 < L) :
    ∃ r, spec_pgMap L a A B C D X Y = some r ∧ impl_changed_impl_Move_bring L a A B C D X Y = some r ∧ (r.1.length : Int) ≤ 10 ∧ (r.2 = true → r.1 = a.map (mvP A B C D X Y) ∧ ∀ i, In (mvP A B C D X Y (pt a i))) := by
  have h := vw_of g (t := 0) (by omega)
  have hlen := h.len
  have hi := g.hi
  have hlo := g.lo
  obtain ⟨k1, k2⟩ := pgMap_l0 (L := L) hm h.isIn (by omega) L 0 (by omega) (by omega)
  unfold spec_pgMap impl_changed_impl_Move_bring
  rw [impl_IsPolygon_eq (by omega)]
  obtain ⟨⟨bA, bB, bC, bD⟩, ⟨bX, bY⟩, _⟩ := id hm
  unfold Bd20 at bA bB bC bD
  unfold Bd80 at bX bY
  have := idxLoop (f := impl_changed_impl_Move_bring_l0 L a A B C D X Y) (H := fun i => mvP A B C D X Y (pt a i)) (n := a.length) (K := fun w => (impl_arePegs L w).bind fun r2 => bif !r2 then some ([], false) else some (w, true)) (fun m w => by
    simp only [impl_changed_impl_Move_bring_l0, ilt_eq, ilen_mapep, Int.lt_irrefl, decide_false, cond_false, gbind_eq]) (fun m v w h0 h1 hw => by
    have hb := bring_val (L := L) (a := a) (A := A) (B := B) (C := C) (D := D) (X := X) (Y := Y) (h.isIn v) (by omega) (by omega) (by omega) (by omega) (by omega) (by omega)
    simp only [impl_changed_impl_Move_bring_l0, ilt_eq, ilen_mapep, h1, decide_true, cond_true, gbind_eq, lget_pt h0 h1, Option.bind_some, hb, iadd_eq, wr_s (i := v + 1) (by omega), lcat_eq]
    simp only [ilen_eq, List.length_cons, List.length_nil, fits_s (n := (w.length : Int) + ((0 + 1 : Nat) : Int)) (b := 16) (by omega), cond_true]
    rfl) L 0 (by omega) (by omega)
  have this' : impl_changed_impl_Move_bring_l0 L a A B C D X Y L 0 [] = (impl_arePegs L ((List.range a.length).map fun (j : Nat) => mvP A B C D X Y (pt a j))).bind fun r2 => bif !r2 then some ([], false) else some (((List.range a.length).map fun (j : Nat) => mvP A B C D X Y (pt a j)), true) := this
  rw [map_pt (mvP A B C D X Y)] at this'
  simp only [g, decide_true, gbind_eq, Option.bind_some, Bool.not_true, cond_false, this']
  have hpm : ∀ i, pt (a.map (mvP A B C D X Y)) i = mvP A B C D X Y (pt a i) := fun i => by
    have hl0 : 0 < (a.length : Int) := by omega
    have h0 := Int.emod_nonneg i (show (a.length : Int) ≠ 0 by omega)
    have h1 := Int.emod_lt_of_pos i hl0
    have h2 : (i % (a.length : Int)).toNat < a.length := by omega
    unfold pt
    simp [h2]
  obtain ⟨p1, p2⟩ := arePegs_eq (L := L) (a := a.map (mvP A B C D X Y)) (by simp; omega) (by simp; omega)
  by_cases hI : ∃ i : Int, 0 ≤ i ∧ i < (a.length : Int) ∧ ¬ In (mvP A B C D X Y (pt a i))
  · rw [p1 (by obtain ⟨i, i0, i1, i2⟩ := hI; exact ⟨i, i0, by simpa using i1, by rw [hpm]; exact i2⟩)]
    simp only [Option.bind_some, Bool.not_false, cond_true]
    obtain ⟨i, i0, i1, i2⟩ := hI
    exact ⟨_, k1 ⟨i, by omega, i1, i2⟩, rfl, by simp, fun h => by cases h⟩
  · have hI' : ∀ i : Int, 0 ≤ i → i < (a.length : Int) → In (mvP A B C D X Y (pt a i)) := fun i i0 i1 => Classical.byContradiction fun e => hI ⟨i, i0, i1, e⟩
    rw [p2 (fun i i0 i1 => by rw [hpm]; exact hI' i i0 (by simpa using i1))]
    simp only [Option.bind_some, Bool.not_true, cond_false]
    refine ⟨_, k2 fun j j0 j1 => hI' j (by omega) j1, rfl, by simp; omega, fun _ => ⟨rfl, fun i => ?_⟩⟩
    have := hI' (i % a.length) (Int.emod_nonneg _ (by omega)) (Int.emod_lt_of_pos _ (by omega))
    rwa [pt_mod] at this

theorem flatPolygon_eq {L : Nat} {a : List Pt} (hL : 300000 < L) : ∃ r, spec_FlatPolygon L a = some r ∧ impl_FlatPolygon L a = some r ∧ (r.1.length : Int) ≤ 10 := by
  obtain ⟨r, r1, r2, r3⟩ := flatMove_eq (L := L) (a := a) hL
  unfold spec_FlatPolygon impl_FlatPolygon
  obtain ⟨A, B, C, D, X, Y, t⟩ := r
  simp only [r1, r2, gbind_eq, Option.bind_some]
  cases t with
  | false => exact ⟨([], false), rfl, rfl, by simp⟩
  | true =>
    obtain ⟨g, hm⟩ := r3 rfl
    obtain ⟨r, q1, q2, q3, _⟩ := map_both (L := L) hm g (by omega)
    unfold spec_MoveCorners
    simp only [Bool.not_true, cond_false, spec_mvGood_eq (L := L) (show 10 < L by omega), hm, decide_true, gbind_eq, Option.bind_some, spec_pgGood_eq (L := L) (a := a) (by omega), g, q1, q2]
    exact ⟨r, rfl, rfl, q3⟩
end Go.AM

namespace Go.AM
set_option linter.unusedVariables false

theorem flatPolygon_law (a : List Pt) (hmax : (a.length : Int) ≤ 9223372036854775807) : ∃ L, laws_FnExactFlatPolygon L a = some true := by
  refine ⟨2000000, ?_⟩
  unfold laws_FnExactFlatPolygon
  by_cases hl : (a.length : Int) ≤ 1048576
  · obtain ⟨r, r1, r2, r3⟩ := flatPolygon_eq (L := 2000000) (a := a) (by omega)
    simp only [sz_small hl, ilt_eq, show ¬ (1048576 - (a.length : Int) < 0) by omega, decide_false, cond_false, gbind_eq, Option.bind_some, toPegS_eq (L := 2000000) (a := a) (by omega) (by omega), r1, r2, eqPegS_eq (L := 2000000) (a := a) (by omega) (by omega), eqPegS_eq (L := 2000000) (a := r.1) (by omega) (by omega),
      mark_eq (L := 2000000) (a := a) (by omega) (by omega), mark_eq (L := 2000000) (a := r.1) (by omega) (by omega), held_eq (L := 2000000) (n := r.1.length) (by omega) (by omega), beqb_eq, beq_self_eq_true, Bool.not_true, ieq_eq, decide_true,
      show ¬ (1 + 2 * (a.length : Int) < 0) by omega, show ¬ (1 + 2 * (r.1.length : Int) < 0) by omega]
  · obtain ⟨n, h1, h2⟩ := sz_big (L := 2000000) hl hmax
    simp only [h1, ilt_eq, h2, gbind_eq, Option.bind_some, decide_true, cond_true]
end Go.AM

