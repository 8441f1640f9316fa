import Derived.Test.YtnhlmmnaanallaaAmM0
set_option linter.unusedVariables false
set_option linter.unusedSimpArgs false
set_option linter.unnecessarySimpa false
set_option linter.deprecated false
set_option linter.unusedSectionVars false
namespace Go.AM
set_option linter.unusedVariables false

theorem told_bd2 {a : List Pt} {p : Pt} {t : Int} (g : Good_ a) (ht : 0 ≤ t ∧ t ≤ 100) (hp : p ∈ dirL a t) : (-20000 ≤ p.x ∧ p.x ≤ 20000) ∧ (-20000 ≤ p.y ∧ p.y ≤ 20000) := by
  have h := vw_of g ht
  unfold dirL at hp
  rw [allD_mem] at hp
  obtain ⟨s, s0, s1, u, u0, u1, e⟩ := hp
  have i0 := h.isIn 0
  have i1 := h.isIn 1
  have i2 := h.isIn 2
  unfold In at i0 i1 i2
  unfold dirOf at e
  split at e
  · cases e
    have m1 := mul_bd (x := s) (y := (pt a 2).y - (pt a 0).y) (A := 100) (B := 80) (by omega) (by omega)
    have m2 := mul_bd (x := u) (y := (pt a 1).y - (pt a 0).y) (A := 100) (B := 80) (by omega) (by omega)
    have m3 := mul_bd (x := u) (y := (pt a 1).x - (pt a 0).x) (A := 100) (B := 80) (by omega) (by omega)
    have m4 := mul_bd (x := s) (y := (pt a 2).x - (pt a 0).x) (A := 100) (B := 80) (by omega) (by omega)
    have b1 := tdiv_bd (a := s * ((pt a 2).y - (pt a 0).y) - u * ((pt a 1).y - (pt a 0).y)) (b := turn (pt a 0) (pt a 1) (pt a 2)) (A := 20000) (by omega)
    have b2 := tdiv_bd (a := u * ((pt a 1).x - (pt a 0).x) - s * ((pt a 2).x - (pt a 0).x)) (b := turn (pt a 0) (pt a 1) (pt a 2)) (A := 20000) (by omega)
    exact ⟨b1, b2⟩
  · cases e

theorem bez_sol1 {L : Nat} {u v : Int} (hx : -20000 ≤ u ∧ u ≤ 20000) (hy : -20000 ≤ v ∧ v ≤ 20000) (hg : Nat.gcd u.natAbs v.natAbs = 1) (hL : 40000 < L) :
    ∃ A B : Int, spec_mvFull L v (-u) = some (A, B) ∧ Sol u v (A, B) ∧ (-20000 ≤ A ∧ A ≤ 20000) ∧ (-20000 ≤ B ∧ B ≤ 20000) := by
  obtain ⟨g1, p1, q1, _, s1, e1, n1, bp, bq, _, _⟩ := bezoutw_eq (L := L) (a := v) (b := -u) (by omega) (by omega) hL
  rw [Int.natAbs_neg, Nat.gcd_comm, hg] at n1
  have bp' : -20000 ≤ p1 ∧ p1 ≤ 20000 := by clear bq e1 hg n1; omega
  have bq' : -20000 ≤ q1 ∧ q1 ≤ 20000 := by clear bp e1 hg n1; omega
  clear bp bq
  unfold Sol
  by_cases hg1 : g1 < 0
  · rw [if_pos hg1] at s1
    refine ⟨-p1, -q1, s1, ?_, by omega, by omega⟩
    simp only
    have : -p1 * v - -q1 * u = -(p1 * v + q1 * -u) := by grind
    rw [this, e1]; omega
  · rw [if_neg hg1] at s1
    refine ⟨p1, q1, s1, ?_, by omega, by omega⟩
    simp only
    have : p1 * v - q1 * u = p1 * v + q1 * -u := by grind
    rw [this, e1]; omega

theorem bez_sol2 {L : Nat} {u v : Int} (hx : -20000 ≤ u ∧ u ≤ 20000) (hy : -20000 ≤ v ∧ v ≤ 20000) (hg : Nat.gcd u.natAbs v.natAbs = 1) (hL : 40000 < L) :
    ∃ g p q A B : Int, impl_bezout L v u = some (g, p, q) ∧ wr IntKind.i64 (imul g p) = A ∧ wr IntKind.i64 (imul (wr IntKind.i64 (isub 0 g)) q) = B ∧ Sol u v (A, B) ∧ (-20000 ≤ A ∧ A ≤ 20000) ∧ (-20000 ≤ B ∧ B ≤ 20000) ∧
      ((A.natAbs : Int) ≤ 1 ∨ (A.natAbs : Int) ≤ u.natAbs) ∧ ((B.natAbs : Int) ≤ 1 ∨ (B.natAbs : Int) ≤ v.natAbs) := by
  obtain ⟨g, p, q, s2, _, e2, n2, bp, bq, _, _⟩ := bezoutw_eq (L := L) (a := v) (b := u) (by omega) (by omega) hL
  rw [Nat.gcd_comm, hg] at n2
  have bp' : -20000 ≤ p ∧ p ≤ 20000 := by clear bq e2 hg n2; omega
  have bq' : -20000 ≤ q ∧ q ≤ 20000 := by clear bp e2 hg n2; omega
  have hg2 : g = 1 ∨ g = -1 := by clear bp bq e2 hg; omega
  rcases hg2 with h | h
  · subst h
    refine ⟨1, p, q, p, -q, s2, ?_, ?_, ?_, bp', by clear bp bq e2 hg; omega, bp.imp (fun h => by exact_mod_cast h) id, by rw [Int.natAbs_neg]; exact bq.imp (fun h => by exact_mod_cast h) id⟩
    · rw [imul_eq, wr_v (by clear bp bq e2 hg; omega)]; omega
    · rw [isub_eq, wr_v (n := 0 - 1) (by omega), imul_eq, wr_v (by clear bp bq e2 hg; omega)]; omega
    · unfold Sol; simp only
      have : p * v - -q * u = p * v + q * u := by grind
      rw [this, e2]
  · subst h
    refine ⟨-1, p, q, -p, q, s2, ?_, ?_, ?_, by clear bp bq e2 hg; omega, bq', by rw [Int.natAbs_neg]; exact bp.imp (fun h => by exact_mod_cast h) id, bq.imp (fun h => by exact_mod_cast h) id⟩
    · rw [imul_eq, wr_v (by clear bp bq e2 hg; omega)]; omega
    · rw [isub_eq, wr_v (n := 0 - -1) (by omega), imul_eq, wr_v (by clear bp bq e2 hg; omega)]; omega
    · unfold Sol; simp only
      have : -p * v - q * u = -(p * v + q * u) := by grind
      rw [this, e2]; rfl

theorem flatMoves0 {L : Nat} {a : List Pt} {P : Pt} (g : Good_ a) (hL : 300000 < L) (hx : -20000 ≤ P.x ∧ P.x ≤ 20000) (hy : -20000 ≤ P.y ∧ P.y ≤ 20000) (hg : Nat.gcd P.x.natAbs P.y.natAbs = 1) (hu : 0 < P.x ∨ (P.x = 0 ∧ P.y = 1)) :
    ∃ (A B gg p q A2 B2 : Int) (z : Int × Int), spec_mvFull L P.y (-P.x) = some (A, B) ∧ (-20000 ≤ A ∧ A ≤ 20000) ∧ (-20000 ≤ B ∧ B ≤ 20000) ∧ ((-10000 ≤ z.1 ∧ z.1 ≤ 10000) ∧ (-20001 ≤ z.2 ∧ z.2 ≤ 20001)) ∧
      spec_wiFlat_l0 L a P.x P.y (A, B) L (-((A.natAbs : Int) + B.natAbs) - 1) A B 0 0 0 0 = some (z.1, z.2, P.x, P.y, -(rngOf z.1 z.2 a).1, -(rngOf P.x P.y a).1) ∧
      impl_bezout L P.y P.x = some (gg, p, q) ∧ wr IntKind.i64 (imul gg p) = A2 ∧ wr IntKind.i64 (imul (wr IntKind.i64 (isub 0 gg)) q) = B2 ∧
      impl_flatMove_l0 L a P P (gg, p, q) L (-2) A2 B2 P.x P.y 0 0 = some (z.1, z.2, P.x, P.y, -(rngOf z.1 z.2 a).1, -(rngOf P.x P.y a).1) := by
  obtain ⟨A, B, s1, o1, bA, bB⟩ := bez_sol1 (L := L) hx hy hg (by omega)
  obtain ⟨gg, p, q, A2, B2, s2, wA, wB, o2, bA2, bB2, cA, cB⟩ := bez_sol2 (L := L) hx hy hg (by omega)
  obtain ⟨z, hz⟩ := bst_ex o1 hu
  have hzb := sol_snd hz hu hy hx.2
  obtain ⟨k1, z1, ka, kb, _⟩ := bst_at hz o1 hu
  obtain ⟨k2, z2, _, _, kc⟩ := bst_at hz o2 hu
  have kc1 : -2 ≤ k2 ∧ k2 ≤ 2 := kc (by
    clear kc ka kb hg cB bA bB z1 z2
    rcases hu with h | ⟨h, _⟩
    · rcases cA with c | c
      · exact .inl c
      · right; simp only; omega
    · rcases cA with c | c
      · exact .inl c
      · left; simp only; omega) (by
    clear kc ka kb hg cA bA bB z1 z2
    rcases hu with h | ⟨_, h⟩
    · exact .inr h
    · left; simp only; rw [h] at cB; omega)
  clear kc cA cB hg
  refine ⟨A, B, gg, p, q, A2, B2, z, s1, bA, bB, hzb, ?_, s2, wA, wB, ?_⟩
  · have b1 := bestF_eq hz o1 z1 (2 * (A.natAbs + B.natAbs) + 3) (-((A.natAbs : Int) + B.natAbs) - 1) (A, B) o1 (by simp only at ka; omega) (by simp only at kb; omega)
    clear hz z1 z2 ka kb o1 o2 hu wA wB s1 s2 kc1
    exact flat_l0 (L := L) hx hy bA bB hzb g (by omega) (2 * (A.natAbs + B.natAbs) + 3) L (-((A.natAbs : Int) + B.natAbs) - 1) (A, B) 0 0 0 0 (by omega) (by omega) (by omega) (by omega) (by simp only; omega) (by simp only; omega) (fun j h0 h1 => cand_bd hx hy bA bB j h0 h1) b1
  · have b2 := bestF_eq hz o2 z2 5 (-2) (A2, B2) o2 (by omega) (by omega)
    clear hz z1 z2 ka kb o1 o2 hu s1 s2 kc1
    exact iflat_l0 (L := L) hx hy bA2 bB2 hzb g (by omega) wA wB 5 L (-2) (A2, B2) (by omega) (by omega) (by omega) (by omega) (by simp only; omega) (by simp only; omega) b2

theorem flatMoves {L : Nat} {a : List Pt} (g : Good_ a) (hL : 300000 < L) : ∃ A B C D X Y : Int, spec_wiFlat L a = some (A, B, C, D, X, Y) ∧ impl_flatMove L a = some (A, B, C, D, X, Y) ∧ Wi X ∧ Wi Y := by
  obtain ⟨h1, h2, h3⟩ := leastW_spec g
  have hne : isort (dirL a (leastW a)) ≠ [] := fun e => h2 (by have := isort_len (dirL a (leastW a)); rw [e] at this; exact List.eq_nil_of_length_eq_zero this.symm)
  have hpos : 0 < ((isort (dirL a (leastW a))).length : Int) := by have := List.length_pos_iff.2 hne; omega
  have hm : pt (isort (dirL a (leastW a))) 0 ∈ dirL a (leastW a) := isort_mem.1 (pt_mem hne 0)
  have hl0 : lget (isort (dirL a (leastW a))) 0 = some (pt (isort (dirL a (leastW a))) 0) := lget_pt (Int.le_refl 0) hpos
  have hr0 : lget ((isort (dirL a (leastW a))).map row) 0 = some (row (pt (isort (dirL a (leastW a))) 0)) := lget_row (Int.le_refl 0) hpos
  obtain ⟨hx, hy⟩ := told_bd2 g (by omega) hm
  obtain ⟨⟨hg, hd⟩, _⟩ := (dirL_mem g (by omega)).1 hm
  generalize pt (isort (dirL a (leastW a))) 0 = P at *
  have hu : 0 < P.x ∨ (P.x = 0 ∧ P.y = 1) := by
    rcases hd with h | ⟨h, h'⟩
    · exact .inl h
    · right
      refine ⟨h, ?_⟩
      rw [h] at hg
      simp at hg
      omega
  obtain ⟨A, B, gg, p, q, A2, B2, z, s1, bA, bB, hzb, r1, s2, wA, wB, r2⟩ := flatMoves0 (L := L) (P := P) g hL hx hy hg hu
  clear hg hu hd
  have hV := vw_of g (t := 0) (by omega)
  have vb : ∀ b c : Int, (-100000 ≤ b ∧ b ≤ 100000) → (-100000 ≤ c ∧ c ≤ 100000) → Wi (-(rngOf b c a).1) := fun b c hb hc => by
    have v0 := val_bd hb hc (hV.isIn 0)
    have bd := rng_bd (f := val b c) (A := -8000000) (B := 8000000) a (val b c (pt a 0)) (val b c (pt a 0)) v0 v0 fun p hp => by
      obtain ⟨i, _, _, e⟩ := mem_pt hp
      rw [← e]; exact val_bd hb hc (hV.isIn i)
    unfold Wi rngOf; clear v0 hzb bA bB hx hy hV; omega
  refine ⟨z.1, z.2, P.x, P.y, _, _, ?_, ?_, vb z.1 z.2 (by omega) (by omega), vb P.x P.y (by omega) (by omega)⟩
  · unfold spec_wiFlat
    have w0 : wr IntKind.i64 (isub 0 P.x) = -P.x := by rw [isub_eq, wr_s (by omega)]; omega
    have wk : wr IntKind.i64 (isub (wr IntKind.i64 (isub (wr IntKind.i64 (isub 0 (A.natAbs : Int))) (B.natAbs : Int))) 1) = -((A.natAbs : Int) + B.natAbs) - 1 := by
      rw [isub_eq, isub_eq, isub_eq, wr_s (i := 0 - (A.natAbs : Int)) (by omega), wr_s (i := 0 - (A.natAbs : Int) - B.natAbs) (by omega), wr_s (by omega)]; omega
    simp only [wiLeast_eq g (show 200000 < L by omega), gbind_eq, Option.bind_some, hr0, row_get0, row_get1, w0, s1, spec_l1Abs_eq (L := L) (n := A) (by omega), spec_l1Abs_eq (L := L) (n := B) (by omega), wk]
    exact r1
  · unfold impl_flatMove
    simp only [impl_least_val g (show 200000 < L by omega), gbind_eq, Option.bind_some, ilen_mapep, ile_eq, ilt_eq, Int.le_refl, hpos, decide_true, Bool.and_self, cond_true, hl0, s2, wA, wB]
    exact r2

theorem flatMove_eq {L : Nat} {a : List Pt} (hL : 300000 < L) : ∃ r, spec_FlatMove L a = some r ∧ impl_FlatMove L a = some r ∧ (r.2.2.2.2.2.2 = true → Good_ a ∧ MvG r.1 r.2.1 r.2.2.1 r.2.2.2.1 r.2.2.2.2.1 r.2.2.2.2.2.1) := by
  unfold spec_FlatMove impl_FlatMove
  rw [spec_pgGood_eq (by omega), impl_IsPolygon_eq (by omega)]
  simp only [gbind_eq, Option.bind_some]
  by_cases g : Good_ a
  · obtain ⟨A, B, C, D, X, Y, e1, e2, hX, hY⟩ := flatMoves g hL
    simp only [g, decide_true, Bool.not_true, cond_false, e1, e2, Option.bind_some]
    unfold spec_mvIf impl_checkedMove
    simp only [spec_mvGood_eq (L := L) (show 10 < L by omega), impl_IsMove_eq (L := L) hX hY (show 10 < L by omega), gbind_eq, Option.bind_some]
    by_cases hm : MvG A B C D X Y
    · simp only [hm, decide_true, Bool.not_true, cond_false, Option.bind_some]
      exact ⟨_, rfl, rfl, fun _ => ⟨trivial, hm⟩⟩
    · simp only [hm, decide_false, Bool.not_false, cond_true, Option.bind_some]
      exact ⟨_, rfl, rfl, fun h => by cases h⟩
  · simp only [g, decide_false, Bool.not_false, cond_true]
    exact ⟨_, rfl, rfl, fun h => by cases h⟩
end Go.AM

namespace Go.AM
set_option linter.unusedVariables false

end Go.AM

namespace Go.AM
set_option linter.unusedVariables false

theorem eqMove_eq {L : Nat} (A B C D X Y : Int) : laws_eqMove L A B C D X Y A B C D X Y = some true := by
  unfold laws_eqMove
  simp only [ieq_eq, decide_true, Bool.not_true, cond_false]

theorem flatMove_law (a : List Pt) (hmax : (a.length : Int) ≤ 9223372036854775807) : ∃ L, laws_FnExactFlatMove L a = some true := by
  refine ⟨2000000, ?_⟩
  unfold laws_FnExactFlatMove
  by_cases hl : (a.length : Int) ≤ 1048576
  · obtain ⟨r, r1, r2, _⟩ := flatMove_eq (L := 2000000) (a := a) (by omega)
    simp only [sz_small hl, ilt_eq, show ¬ (1048576 - (a.length : Int) < 0) by omega, decide_false, cond_false, gbind_eq, Option.bind_some, toPegS_eq (L := 2000000) (a := a) (by omega) (by omega), r1, r2, eqMove_eq, eqPegS_eq (L := 2000000) (a := a) (by omega) (by omega), beqb_eq, beq_self_eq_true, Bool.not_true, ieq_eq, decide_true]
  · obtain ⟨n, h1, h2⟩ := sz_big (L := 2000000) hl hmax
    simp only [h1, ilt_eq, h2, gbind_eq, Option.bind_some, decide_true, cond_true]

end Go.AM

