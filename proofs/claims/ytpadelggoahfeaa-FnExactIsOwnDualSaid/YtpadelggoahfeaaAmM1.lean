import Derived.Test.YtpadelggoahfeaaAmM0
set_option linter.unusedVariables false
set_option linter.unusedSimpArgs false
set_option linter.unnecessarySimpa false
set_option linter.deprecated false
set_option linter.unusedSectionVars false
namespace Go.AM
def Lx (n : Int) (a b : List Pt) : Prop := ∃ i, 0 ≤ i ∧ i < n ∧ (∀ j, 0 ≤ j → j < i → pt a j = pt b j) ∧ Less (pt a i) (pt b i)
theorem Lx.trans {n : Int} {a b c : List Pt} (h : Lx n a b) (k : Lx n b c) : Lx n a c := by
  obtain ⟨i, i0, i1, i2, i3⟩ := h
  obtain ⟨j, j0, j1, j2, j3⟩ := k
  rcases Int.lt_trichotomy i j with h | rfl | h
  · exact ⟨i, i0, i1, fun q q0 q1 => (i2 q q0 q1).trans (j2 q q0 (by omega)), by rw [← j2 i i0 h]; exact i3⟩
  · exact ⟨i, i0, i1, fun q q0 q1 => (i2 q q0 q1).trans (j2 q q0 q1), i3.trans j3⟩
  · exact ⟨j, j0, j1, fun q q0 q1 => (i2 q q0 (by omega)).trans (j2 q q0 q1), by rw [i2 j j0 h]; exact j3⟩
theorem Lx.irrefl {n : Int} {a : List Pt} : ¬ Lx n a a := fun ⟨i, _, _, _, h⟩ => Less.irrefl _ h
theorem list_ext_pt {a b : List Pt} (hl : a.length = b.length) (h : ∀ i, 0 ≤ i → i < (a.length : Int) → pt a i = pt b i) : a = b := by
  apply List.ext_getElem hl
  intro i h1 h2
  have k := h i (by omega) (by omega)
  have e1 := pt_get (a := a) (i := i) (by omega) (by omega)
  have e2 := pt_get (a := b) (i := i) (by omega) (by omega)
  rw [Int.toNat_natCast] at e1 e2
  have f1 := List.getElem?_eq_getElem h1
  have f2 := List.getElem?_eq_getElem h2
  rw [f1] at e1; rw [f2] at e2
  simp only [Option.some.injEq] at e1 e2
  rw [e1, e2, k]
theorem Lx.eq {n : Int} {a b : List Pt} (ha : (a.length : Int) = n) (hb : (b.length : Int) = n) (h : ¬ Lx n a b) (k : ¬ Lx n b a) : a = b := by
  refine list_ext_pt (by omega) ?_
  have key : ∀ m : Nat, ∀ i : Int, 0 ≤ i → i < m → i < n → pt a i = pt b i := by
    intro m
    induction m with
    | zero => intro i _ h; omega
    | succ m ih =>
      intro i i0 i1 i2
      have hj : ∀ j, 0 ≤ j → j < i → pt a j = pt b j := fun j j0 j1 => ih j j0 (by omega) (by omega)
      exact not_less_eq (fun q => h ⟨i, i0, i2, hj, q⟩) (fun q => k ⟨i, i0, i2, fun j j0 j1 => (hj j j0 j1).symm, q⟩)
  intro i i0 i1
  exact key (i.toNat + 1) i i0 (by omega) (by omega)
theorem spec_mvBefore_l0_eq {L : Nat} {n : Int} {a b : List Pt} (ha : (a.length : Int) = n) (hb : (b.length : Int) = n) (hs : n ≤ 1000000) : ∀ (m : Nat) (v : Int), 0 ≤ v → v ≤ n → n - v < m → (∀ j, 0 ≤ j → j < v → pt a j = pt b j) →
    ∃ t, spec_mvBefore_l0 L a b m v = some t ∧ (t = true ↔ Lx n a b)
  | 0, _, _, _, h, _ => by omega
  | m + 1, v, h0, hv, hm, he => by
    by_cases hvn : v < n
    · have g1 := lget_pt (a := a) h0 (by omega)
      have g2 := lget_pt (a := b) h0 (by omega)
      simp only [spec_mvBefore_l0, ilt_eq, ilen_mapep, ha, hvn, decide_true, cond_true, gbind_eq, g1, g2, Option.bind_some, ieq_eq]
      by_cases hp : pt a v = pt b v
      · rw [pt_eq_iff.2 hp]
        simp only [Bool.not_true, cond_false, iadd_eq]
        rw [wr_id (n := v + 1) (by omega)]
        exact spec_mvBefore_l0_eq ha hb hs m (v + 1) (by omega) (by omega) (by omega) fun j j0 j1 => by
          by_cases hj : j = v
          · subst hj; exact hp
          · exact he j j0 (by omega)
      · have : (decide ((pt a v).x = (pt b v).x) && decide ((pt a v).y = (pt b v).y)) = false := by
          cases hc : (decide ((pt a v).x = (pt b v).x) && decide ((pt a v).y = (pt b v).y)) with
          | false => rfl
          | true => exact absurd (pt_eq_iff.1 hc) hp
        rw [this]
        simp only [Bool.not_false, cond_true, spec_pgLess_eq, Option.bind_some]
        refine ⟨_, rfl, ?_⟩
        rw [decide_eq_true_iff]
        constructor
        · intro h; exact ⟨v, h0, hvn, he, h⟩
        · rintro ⟨i, i0, i1, i2, i3⟩
          rcases Int.lt_trichotomy i v with h | rfl | h
          · rw [he i i0 h] at i3; exact absurd i3 (Less.irrefl _)
          · exact i3
          · exact absurd (i2 v h0 h) hp
    · simp only [spec_mvBefore_l0, ilt_eq, ilen_mapep, ha, hvn, decide_false, cond_false]
      refine ⟨false, rfl, by simp; rintro ⟨i, i0, i1, i2, i3⟩; rw [he i i0 (by omega)] at i3; exact Less.irrefl _ i3⟩
theorem spec_mvBefore_eq {L : Nat} {n : Int} {a b : List Pt} (ha : (a.length : Int) = n) (hb : (b.length : Int) = n) (hs : n ≤ 1000000) (hL : n < L) : ∃ t, spec_mvBefore L a b = some t ∧ (t = true ↔ Lx n a b) := by
  unfold spec_mvBefore
  exact spec_mvBefore_l0_eq ha hb hs L 0 (by omega) (by omega) (by omega) fun j _ _ => by omega
def cmpP (p q : Pt) : Int := if p.x < q.x then -1 else if q.x < p.x then 1 else cmpI p.y q.y
theorem cmpP_lt {p q : Pt} : cmpP p q < 0 ↔ Less p q := by
  unfold cmpP cmpI Less
  split
  · simp; omega
  · split
    · simp; omega
    · split
      · simp; omega
      · split <;> simp <;> omega
theorem cmpP_zero {p q : Pt} : cmpP p q = 0 ↔ p = q := by
  obtain ⟨a, b⟩ := p; obtain ⟨c, d⟩ := q
  unfold cmpP cmpI
  simp only [Pt.mk.injEq]
  split
  · simp; omega
  · split
    · simp; omega
    · split
      · simp; omega
      · split <;> simp <;> omega
theorem impl_comparePegs_eq {L : Nat} {p q : Pt} (hL : 5 < L) : impl_comparePegs L p.x p.y q.x q.y = some (cmpP p q) := by
  unfold impl_comparePegs cmp_Or_int
  simp only [gbind_eq, cmp_eq, Option.bind_some]
  obtain ⟨m, rfl⟩ : ∃ m, L = m + 3 := ⟨L - 3, by omega⟩
  have hl : ilen (List.map eI [cmpI p.x q.x, cmpI p.y q.y]) = 2 := by rw [ilen_eq]; rfl
  have g0 : lget [cmpI p.x q.x, cmpI p.y q.y] 0 = some (cmpI p.x q.x) := by rw [lget_eq]; rfl
  have g1 : lget [cmpI p.x q.x, cmpI p.y q.y] 1 = some (cmpI p.y q.y) := by rw [lget_eq]; rfl
  have w1 : wr .i64 (0 + 1) = 1 := wr_id (by decide)
  have w2 : wr .i64 (1 + 1) = 2 := wr_id (by decide)
  simp only [cmp_Or_int_l0, hl, ilt_eq, gbind_eq, g0, g1, iadd_eq, w1, w2, ieq_eq, Option.bind_some, show ((0 : Int) < 2) = True by simp, show ((1 : Int) < 2) = True by simp, show ((2 : Int) < 2) = False by simp, decide_true, decide_false, cond_true, cond_false]
  unfold cmpP cmpI
  by_cases h1 : p.x < q.x
  · simp [h1]
  · by_cases h2 : q.x < p.x
    · simp [h1, h2]
    · by_cases h3 : p.y < q.y
      · simp [h1, h2, h3]
      · by_cases h4 : q.y < p.y <;> simp [h1, h2, h3, h4]
theorem impl_compareL_l0_eq {L : Nat} {n : Int} {a b : List Pt} (ha : (a.length : Int) = n) (hb : (b.length : Int) = n) (hs : n ≤ 1000000) (hL : 5 < L) : ∀ (m : Nat) (v : Int), 0 ≤ v → v ≤ n → n - v < m → (∀ j, 0 ≤ j → j < v → pt a j = pt b j) →
    ∃ t, slices_CompareFunc_impl_Peg_impl_Peg_impl_Peg_impl_Peg_l0 L a b m v = some t ∧ (t < 0 ↔ Lx n a b)
  | 0, _, _, _, h, _ => by omega
  | m + 1, v, h0, hv, hm, he => by
    by_cases hvn : v < n
    · have g1 := lget_pt (a := a) h0 (by omega)
      have g2 := lget_pt (a := b) h0 (by omega)
      simp only [slices_CompareFunc_impl_Peg_impl_Peg_impl_Peg_impl_Peg_l0, ilt_eq, ile_eq, ilen_mapep, ha, hb, hvn, show ¬ n ≤ v by omega, decide_true, decide_false, cond_true, cond_false, gbind_eq, g1, g2, Option.bind_some, ieq_eq, impl_comparePegs_eq hL]
      by_cases hp : pt a v = pt b v
      · simp only [cmpP_zero.2 hp, decide_true, Bool.not_true, cond_false, iadd_eq]
        rw [wr_id (n := v + 1) (by omega)]
        exact impl_compareL_l0_eq ha hb hs hL m (v + 1) (by omega) (by omega) (by omega) fun j j0 j1 => by
          by_cases hj : j = v
          · subst hj; exact hp
          · exact he j j0 (by omega)
      · have hz : ¬ cmpP (pt a v) (pt b v) = 0 := fun e => hp (cmpP_zero.1 e)
        simp only [hz, decide_false, Bool.not_false, cond_true]
        refine ⟨_, rfl, cmpP_lt.trans ?_⟩
        constructor
        · intro h; exact ⟨v, h0, hvn, he, h⟩
        · rintro ⟨i, i0, i1, i2, i3⟩
          rcases Int.lt_trichotomy i v with h | rfl | h
          · rw [he i i0 h] at i3; exact absurd i3 (Less.irrefl _)
          · exact i3
          · exact absurd (i2 v h0 h) hp
    · simp only [slices_CompareFunc_impl_Peg_impl_Peg_impl_Peg_impl_Peg_l0, ilt_eq, ilen_mapep, ha, hb, hvn, Int.lt_irrefl, decide_false, cond_false]
      refine ⟨0, rfl, by simp; rintro ⟨i, i0, i1, i2, i3⟩; rw [he i i0 (by omega)] at i3; exact Less.irrefl _ i3⟩
theorem impl_comparePolygons_eq {L : Nat} {n : Int} {a b : List Pt} (ha : (a.length : Int) = n) (hb : (b.length : Int) = n) (hs : n ≤ 1000000) (hL : n + 5 < L) : ∃ t, impl_comparePolygons L a b = some t ∧ (t < 0 ↔ Lx n a b) := by
  obtain ⟨t, h1, h2⟩ := impl_compareL_l0_eq ha hb hs (show 5 < L by omega) L 0 (by omega) (by omega) (by omega) fun j _ _ => by omega
  refine ⟨t, ?_, h2⟩
  unfold impl_comparePolygons slices_CompareFunc_impl_Peg_impl_Peg_impl_Peg_impl_Peg
  rw [h1]; simp only [gbind_eq, Option.bind_some]
structure Fa (a : List Pt) : Prop where
  lo : 3 ≤ (a.length : Int)
  hi : (a.length : Int) ≤ 1000
  nr : ∀ i, Nr (pt a i)
  turn : ∀ i, turn (pt a i) (pt a (i + 1)) (pt a (i + 2)) ≠ 0
theorem turn_rev (a b c : Pt) : turn c b a = - turn a b c := by unfold turn; grind
theorem Fa.ne {a : List Pt} (h : Fa a) : a ≠ [] := by intro e; subst e; have := h.lo; simp at this
theorem Fa.tour {a : List Pt} (h : Fa a) {k s : Int} (hs : s = 1 ∨ s = -1) : Fa (tour a k s a.length) := by
  have hl := h.lo
  have hpt : ∀ i, pt (AM.tour a k s a.length) i = pt a (k + (i % (a.length : Int)) * s) := fun i => pt_tour h.ne
  refine ⟨by rw [tour_len]; exact h.lo, by rw [tour_len]; exact h.hi, fun i => by rw [hpt]; exact h.nr _, fun i => ?_⟩
  have hm : ∀ i j : Int, pt (AM.tour a k s a.length) (i + j) = pt a (k + (i % (a.length : Int) + j) * s) := fun i j => by
    rw [hpt]
    apply pt_congr
    have e : (i + j) % (a.length : Int) = (i % a.length + j) % a.length := by rw [Int.emod_add_emod]
    rw [e]
    rw [Int.add_emod, Int.mul_emod, Int.emod_emod_of_dvd _ (Int.dvd_refl _), ← Int.mul_emod, ← Int.add_emod]
  have h0 := hm i 0
  rw [Int.add_zero, Int.add_zero] at h0
  rw [h0, hm i 1, hm i 2]
  rcases hs with rfl | rfl
  · have := h.turn (k + (i % (a.length : Int)) * 1)
    rwa [show k + (i % (a.length : Int)) * 1 + 1 = k + (i % (a.length : Int) + 1) * 1 by omega, show k + (i % (a.length : Int)) * 1 + 2 = k + (i % (a.length : Int) + 2) * 1 by omega] at this
  · have := h.turn (k + (i % (a.length : Int) + 2) * -1)
    rw [show k + (i % (a.length : Int) + 2) * -1 + 1 = k + (i % (a.length : Int) + 1) * -1 by omega, show k + (i % (a.length : Int) + 2) * -1 + 2 = k + (i % (a.length : Int)) * -1 by omega, turn_rev] at this
    omega
noncomputable def FR (L : Nat) (a : List Pt) (k s : Int) : List Pt := (spec_mvFrame L (tour a k s a.length)).getD []
theorem FR_eq {L : Nat} {a : List Pt} (h : Fa a) {k s : Int} (hs : s = 1 ∨ s = -1) (hL : 5000 < L) :
    spec_mvFrame L (tour a k s a.length) = some (FR L a k s) ∧ impl_frame L (tour a k s a.length) = some (FR L a k s) ∧ ((FR L a k s).length = a.length) ∧
    ∃ A B C D g b d, FR L a k s = (tour a k s a.length).map (brg A B C D (pt (tour a k s a.length) 0)) ∧ Fr (tour a k s a.length) A B C D g b d := by
  have ht := h.tour (k := k) hs
  obtain ⟨A, B, C, D, g, b, d, h1, h2, h3⟩ := frame_eq (L := L) ht.lo ht.hi ht.nr (by have := ht.turn 0; simpa using this) hL
  have e : FR L a k s = (tour a k s a.length).map (brg A B C D (pt (tour a k s a.length) 0)) := by unfold FR; rw [h1]; rfl
  exact ⟨by rw [h1, e], by rw [h2, e], by rw [e, List.length_map, tour_len], A, B, C, D, g, b, d, e, h3⟩
theorem tour_mod {a : List Pt} {k k' s : Int} (h : k % (a.length : Int) = k' % (a.length : Int)) (n : Nat) : tour a k s n = tour a k' s n :=
  tour_ext fun j _ => pt_congr (by rw [Int.add_emod, h, ← Int.add_emod])
theorem FR_mod {L : Nat} {a : List Pt} {k k' s : Int} (h : k % (a.length : Int) = k' % (a.length : Int)) : FR L a k s = FR L a k' s := by unfold FR; rw [tour_mod h]
theorem tour_id {a : List Pt} (hn : a ≠ []) : tour a 0 1 a.length = a := by
  refine list_ext_pt (tour_len _ _ _ _) fun i h0 h1 => ?_
  rw [pt_tour hn]
  rw [tour_len] at h1
  rw [Int.emod_eq_of_lt h0 h1]
  congr 1; omega
theorem tour_back {a : List Pt} (hn : a ≠ []) (k : Int) : tour (tour a 0 (-1) a.length) k 1 a.length = tour a (-k) (-1) a.length := by
  have hl : 0 < (a.length : Int) := by have := List.length_pos_iff.2 hn; omega
  refine tour_ext fun j hj => ?_
  rw [pt_tour hn]
  apply pt_congr
  rw [Int.zero_add, Int.mul_neg, Int.mul_one, Int.mul_one]
  have h1 := Int.emod_emod_of_dvd (k + (j : Int)) (Int.dvd_refl (a.length : Int))
  have h2 : (-((k + (j : Int)) % a.length)) % (a.length : Int) = (-(k + (j : Int))) % (a.length : Int) := by
    have := Int.mul_ediv_add_emod (k + (j : Int)) a.length
    conv => rhs; rw [← this]
    rw [Int.neg_add, ← Int.mul_neg, Int.mul_add_emod_self_left]
  rw [h2]
  congr 1; omega
end Go.AM
namespace Go.AM
theorem wr_i {v : Int} (h : 0 ≤ v ∧ v ≤ 1000000) : wr IntKind.i64 (v + 1) = v + 1 := wr_id (by omega)
noncomputable def frs (L : Nat) (p : List Pt) (n : Nat) : List (List Pt) := (List.range n).map fun (j : Nat) => FR L p (j : Int) 1
theorem frs_succ (L : Nat) (p : List Pt) (n : Nat) : frs L p (n + 1) = frs L p n ++ [FR L p (n : Int) 1] := by simp [frs, List.range_succ]
theorem frs_len (L : Nat) (p : List Pt) (n : Nat) : (frs L p n).length = n := by simp [frs]
theorem mvFrames_l1 {L : Nat} {κ0 : Int → Int → List (List Pt) → List (List Pt) → Option (List (List Pt))} {v11 v12 : Int} {w1 : List (List Pt)} {p : List Pt} {w : List (List Pt)} (hp : Fa p) (hL : 5000 < L) (h12 : 0 ≤ v12 ∧ v12 ≤ 1000) (hw : w.length ≤ 10000) :
    ∀ (m n : Nat), n ≤ p.length → p.length - n < m → spec_mvFrames_l1 L κ0 v11 v12 w1 p m (n : Int) (w ++ frs L p n) = κ0 v11 (v12 + 1) (w ++ frs L p p.length) w1
  | 0, _, _, h => by omega
  | m + 1, n, hn, hm => by
    have hi := hp.hi
    by_cases h : n < p.length
    · have c1 : lcat (lcat [] (lsub p (n : Int) (p.length : Int))) (lsub p 0 (n : Int)) = tour p (n : Int) 1 p.length := by
        rw [← rot_eq (c := p) (k := (n : Int)) (by omega) (by omega)]
        simp only [lcat_eq, lsub_eq, List.nil_append, Int.toNat_natCast]
        rw [List.take_of_length_le (by simp)]
        simp
      have f1 : fits (iadd (ilen ([] : List AV)) (ilen (lsub (List.map ep p) (n : Int) (p.length : Int)))) 16 = true := by
        refine fits_s ?_
        simp only [iadd_eq, ilen_eq, lsub_eq, List.length_take, List.length_drop, List.length_map, List.length_nil]
        omega
      have f2 : fits (iadd (ilen (lcat [] (lsub (List.map ep p) (n : Int) (p.length : Int)))) (ilen (lsub (List.map ep p) 0 (n : Int)))) 16 = true := by
        refine fits_s ?_
        simp only [iadd_eq, ilen_eq, lcat_eq, lsub_eq, List.length_append, List.length_take, List.length_drop, List.length_map, List.length_nil]
        omega
      have f3 : ∀ x : AV, fits (iadd (ilen (List.map eLP (w ++ frs L p n))) (ilen [x])) 24 = true := fun x => by
        refine fits_s ?_
        simp only [iadd_eq, ilen_eq, List.length_map, List.length_append, frs_len, List.length_cons, List.length_nil]
        omega
      obtain ⟨e1, _⟩ := FR_eq (L := L) hp (k := (n : Int)) (.inl rfl) hL
      have b1 : ((n : Int) < (p.length : Int)) = True := by simp; omega
      have b2 : ((0 : Int) ≤ (n : Int)) = True := by simp
      have b3 : ((n : Int) ≤ (p.length : Int)) = True := by simp; omega
      have wv : wr IntKind.i64 (iadd (n : Int) 1) = ((n + 1 : Nat) : Int) := by simp only [iadd_eq]; rw [wr_i (by omega)]; rfl
      simp only [spec_mvFrames_l1, ilt_eq, ile_eq, ilen_mapep, b1, b2, b3, decide_true, Bool.and_self, cond_true, f1, f2, c1, e1, gbind_eq, Option.bind_some, f3, wv]
      have e : lcat (w ++ frs L p n) [FR L p (n : Int) 1] = w ++ frs L p (n + 1) := by rw [lcat_eq, frs_succ, List.append_assoc]
      rw [e]
      exact mvFrames_l1 hp hL h12 hw m (n + 1) (by omega) (by omega)
    · have e : n = p.length := by omega
      subst e
      simp only [spec_mvFrames_l1, ilt_eq, ilen_mapep, Int.lt_irrefl, decide_false, cond_false, iadd_eq, wr_i (v := v12) (by omega)]
theorem mvFrames_eq {L : Nat} {a : List Pt} (ha : Fa a) (hL : 5000 < L) : spec_mvFrames L a = some (frs L a a.length ++ frs L (tour a 0 (-1) a.length) a.length) := by
  have hi := ha.hi
  have hb := ha.tour (k := 0) (s := -1) (.inr rfl)
  unfold spec_mvFrames
  rw [spec_pgBack_eq ha.ne (by omega) (by omega)]
  simp only [gbind_eq, Option.bind_some]
  have h2 : ilen [AV.lst false false 2 (List.map ep a), AV.lst false false 2 (List.map ep (tour a 0 (-1) a.length))] = 2 := by rw [ilen_eq]; rfl
  have h3 : ilen (List.map eLP (a :: tour a 0 (-1) a.length :: [])) = 2 := by rw [ilen_eq]; rfl
  rw [h2]
  obtain ⟨m, rfl⟩ : ∃ m, L = m + 3 := ⟨L - 3, by omega⟩
  have g0 : lget (a :: tour a 0 (-1) a.length :: []) 0 = some a := by rw [lget_eq]; rfl
  have g1 : lget (a :: tour a 0 (-1) a.length :: []) 1 = some (tour a 0 (-1) a.length) := by rw [lget_eq]; rfl
  have q1 := fun κ0 => mvFrames_l1 (κ0 := κ0) (v11 := 2) (v12 := 0) (w1 := a :: tour a 0 (-1) a.length :: []) (w := []) ha hL (by omega) (by simp) (m + 3) 0 (by omega) (by omega)
  have q2 := fun κ0 => mvFrames_l1 (κ0 := κ0) (v11 := 2) (v12 := 1) (w1 := a :: tour a 0 (-1) a.length :: []) (w := frs (m + 3) a a.length) hb hL (by omega) (by rw [frs_len]; omega) (m + 3) 0 (by omega) (by rw [tour_len]; omega)
  have z : ∀ p, frs (m + 3) p 0 = [] := fun p => rfl
  simp only [z, List.append_nil, List.nil_append, tour_len, show ((0 : Nat) : Int) = 0 from rfl] at q1 q2
  simp only [spec_mvFrames_l0, ilt_eq, ile_eq, h3, show ((0 : Int) < 2) = True by simp, show ((1 : Int) < 2) = True by simp, show ((0 : Int) ≤ 0) = True by simp, show ((0 : Int) ≤ 1) = True by simp, decide_true, Bool.and_self, cond_true, gbind_eq, g0, g1, Option.bind_some, q1, q2,
    show ((0 : Int) + 1) = 1 by rfl, show ((1 : Int) + 1) = 2 by rfl, Int.lt_irrefl, decide_false, cond_false]
theorem mvKind_l0 {L : Nat} {n : Int} {r : List (List Pt)} (hn : 0 < n) (hs : n ≤ 10000) (hr : (r.length : Int) ≤ 100000) (hlen : ∀ f ∈ r, (f.length : Int) = n) (hL : n < L) :
    ∀ (m v : Nat) (best : List Pt), v ≤ r.length → r.length - v < m → ((v = 0 ∧ best = []) ∨ (best ∈ r ∧ ∀ j f, j < v → r[j]? = some f → ¬ Lx n f best)) → r ≠ [] →
      ∃ b, spec_mvKind_l0 L r m best (v : Int) = some b ∧ b ∈ r ∧ ∀ f ∈ r, ¬ Lx n f b
  | 0, _, _, _, h, _, _ => by omega
  | m + 1, v, best, hv, hm, hb, hne => by
    have e0 : ilen (List.map eLP r) = (r.length : Int) := by rw [ilen_map, ilen_eq]
    by_cases h : v < r.length
    · have hg : lget r (v : Int) = some r[v] := by rw [lget_eq, if_pos (by omega), Int.toNat_natCast]; exact List.getElem?_eq_getElem h
      have hm0 : r[v] ∈ r := List.getElem_mem h
      have b1 : ((v : Int) < (r.length : Int)) = True := by simp; omega
      have b2 : ((0 : Int) ≤ (v : Int)) = True := by simp
      have wv : wr IntKind.i64 (iadd (v : Int) 1) = ((v + 1 : Nat) : Int) := by simp only [iadd_eq]; rw [wr_i (by omega)]; rfl
      simp only [spec_mvKind_l0, ilt_eq, ile_eq, e0, b1, b2, decide_true, Bool.and_self, cond_true, gbind_eq, hg, Option.bind_some, ieq_eq, ilen_mapep, wv]
      rcases hb with ⟨rfl, rfl⟩ | ⟨hbr, hmin⟩
      · simp only [List.length_nil, show ((0 : Nat) : Int) = 0 from rfl, decide_true, cond_true]
        refine mvKind_l0 hn hs hr hlen hL m (0 + 1) _ (by omega) (by omega) (.inr ⟨hm0, fun j f hj hf => ?_⟩) hne
        have : j = 0 := by omega
        subst this
        rw [List.getElem?_eq_getElem h] at hf
        cases hf
        exact Lx.irrefl
      · have hz : ¬ ((best.length : Int) = 0) := by rw [hlen best hbr]; omega
        obtain ⟨t, t1, t2⟩ := spec_mvBefore_eq (L := L) (hlen _ hm0) (hlen best hbr) (by omega) hL
        simp only [hz, decide_false, cond_false, t1, Option.bind_some]
        cases t with
        | true =>
          have hlt := t2.1 rfl
          simp only [cond_true]
          refine mvKind_l0 hn hs hr hlen hL m (v + 1) _ (by omega) (by omega) (.inr ⟨hm0, fun j f hj hf hx => ?_⟩) hne
          by_cases hjv : j = v
          · subst hjv
            rw [List.getElem?_eq_getElem h] at hf
            cases hf
            exact Lx.irrefl hx
          · exact hmin j f (by omega) hf (hx.trans hlt)
        | false =>
          have hlt : ¬ Lx n r[v] best := fun e => by have := t2.2 e; cases this
          simp only [cond_false]
          refine mvKind_l0 hn hs hr hlen hL m (v + 1) _ (by omega) (by omega) (.inr ⟨hbr, fun j f hj hf hx => ?_⟩) hne
          by_cases hjv : j = v
          · subst hjv
            rw [List.getElem?_eq_getElem h] at hf
            cases hf
            exact hlt hx
          · exact hmin j f (by omega) hf hx
    · have b1 : ((v : Int) < (r.length : Int)) = False := by simp; omega
      simp only [spec_mvKind_l0, ilt_eq, e0, b1, decide_false, cond_false]
      rcases hb with ⟨rfl, rfl⟩ | ⟨hbr, hmin⟩
      · exact absurd (List.length_eq_zero_iff.1 (by omega)) hne
      · refine ⟨best, rfl, hbr, fun f hf => ?_⟩
        obtain ⟨j, hj, e⟩ := List.getElem_of_mem hf
        exact hmin j f (by omega) (by rw [List.getElem?_eq_getElem hj, e])
def IsKind (L : Nat) (a f : List Pt) : Prop := (∃ k s, (s = 1 ∨ s = -1) ∧ f = FR L a k s) ∧ ∀ k s, (s = 1 ∨ s = -1) → ¬ Lx a.length (FR L a k s) f
theorem FR_back {L : Nat} {a : List Pt} (ha : a ≠ []) (k : Int) : FR L (tour a 0 (-1) a.length) k 1 = FR L a (-k) (-1) := by
  unfold FR
  rw [tour_len, tour_back ha]
theorem mem_frs {L : Nat} {p : List Pt} {n : Nat} {f : List Pt} : f ∈ frs L p n ↔ ∃ j : Nat, j < n ∧ f = FR L p (j : Int) 1 := by
  unfold frs
  simp only [List.mem_map, List.mem_range]
  constructor
  · rintro ⟨j, h1, h2⟩; exact ⟨j, h1, h2.symm⟩
  · rintro ⟨j, h1, h2⟩; exact ⟨j, h1, h2.symm⟩
theorem frames_all {L : Nat} {a f : List Pt} (ha : Fa a) : f ∈ frs L a a.length ++ frs L (tour a 0 (-1) a.length) a.length ↔ ∃ k s, (s = 1 ∨ s = -1) ∧ f = FR L a k s := by
  have hl : 0 < (a.length : Int) := by have := ha.lo; omega
  rw [List.mem_append, mem_frs, mem_frs]
  constructor
  · rintro (⟨j, _, rfl⟩ | ⟨j, _, rfl⟩)
    · exact ⟨j, 1, .inl rfl, rfl⟩
    · exact ⟨-j, -1, .inr rfl, FR_back ha.ne _⟩
  · rintro ⟨k, s, rfl | rfl, rfl⟩
    · left
      have h1 := Int.emod_nonneg k (show (a.length : Int) ≠ 0 by omega)
      have h2 := Int.emod_lt_of_pos k hl
      refine ⟨(k % a.length).toNat, by omega, FR_mod ?_⟩
      rw [Int.toNat_of_nonneg h1, Int.emod_emod_of_dvd _ (Int.dvd_refl _)]
    · right
      have h1 := Int.emod_nonneg (-k) (show (a.length : Int) ≠ 0 by omega)
      have h2 := Int.emod_lt_of_pos (-k) hl
      refine ⟨((-k) % a.length).toNat, by omega, ?_⟩
      rw [FR_back ha.ne]
      refine FR_mod ?_
      rw [Int.toNat_of_nonneg h1]
      have := Int.mul_ediv_add_emod (-k) a.length
      have e : -(-k % (a.length : Int)) = k + a.length * (-k / a.length) := by omega
      rw [e, Int.add_mul_emod_self_left]
theorem mvKind_eq {L : Nat} {a : List Pt} (ha : Fa a) (hL : 5000 < L) : ∃ f, spec_mvKind L a = some f ∧ IsKind L a f := by
  have hi := ha.hi; have lo := ha.lo
  unfold spec_mvKind
  rw [mvFrames_eq ha hL]
  simp only [gbind_eq, Option.bind_some]
  obtain ⟨b, h1, h2, h3⟩ := mvKind_l0 (L := L) (n := (a.length : Int)) (r := frs L a a.length ++ frs L (tour a 0 (-1) a.length) a.length) (by omega) (by omega) (by simp [frs_len]; omega) (fun f hf => by
    obtain ⟨k, s, hs, rfl⟩ := (frames_all ha).1 hf
    exact_mod_cast (FR_eq ha hs hL).2.2.1) (by omega) L 0 [] (by omega) (by simp [frs_len]; omega) (.inl ⟨rfl, rfl⟩) (by
    intro e
    have := congrArg List.length e
    rw [List.length_append, frs_len, frs_len] at this
    simp only [List.length_nil] at this
    omega)
  exact ⟨b, h1, (frames_all ha).1 h2, fun k s hs => h3 _ ((frames_all ha).2 ⟨k, s, hs, rfl⟩)⟩
theorem IsKind.len {L : Nat} {a f : List Pt} (ha : Fa a) (hL : 5000 < L) (h : IsKind L a f) : f.length = a.length := by
  obtain ⟨⟨k, s, hs, rfl⟩, _⟩ := h
  exact (FR_eq ha hs hL).2.2.1
theorem IsKind.eq {L : Nat} {a f g : List Pt} (ha : Fa a) (hL : 5000 < L) (h : IsKind L a f) (k : IsKind L a g) : f = g := by
  refine Lx.eq (n := (a.length : Int)) (by exact_mod_cast h.len ha hL) (by exact_mod_cast k.len ha hL) ?_ ?_
  · obtain ⟨⟨i, s, hs, rfl⟩, _⟩ := h; exact k.2 i s hs
  · obtain ⟨⟨i, s, hs, rfl⟩, _⟩ := k; exact h.2 i s hs
theorem ff_l1 {L : Nat} {κ0 : List Pt → Int → Int → List Pt → Option (List Pt)} {a w : List Pt} {v : Nat} {v11 : Int} (ha : Fa a) (hv : v < a.length) (hL : 5000 < L) (hw : w.length = a.length) :
    ∃ w', impl_firstFrame_l1 L κ0 a v11 (v : Int) L 0 w = κ0 a v11 ((v + 1 : Nat) : Int) w' ∧ (w' = w ∨ ∃ s, (s = 1 ∨ s = -1) ∧ w' = FR L a v s) ∧ (∀ f, ¬ Lx a.length f w → ¬ Lx a.length f w') ∧ ∀ s, (s = 1 ∨ s = -1) → ¬ Lx a.length (FR L a v s) w' := by
  have hi := ha.hi
  obtain ⟨m, hm⟩ : ∃ m, L = m + 3 := ⟨L - 3, by omega⟩
  have h2 : ilen [AV.int IntKind.i64 1, AV.int IntKind.i64 (-1)] = 2 := by rw [ilen_eq]; rfl
  have g0 : lget ((1 : Int) :: (-1 :: [])) 0 = some 1 := by rw [lget_eq]; rfl
  have g1 : lget ((1 : Int) :: (-1 :: [])) 1 = some (-1) := by rw [lget_eq]; rfl
  have t1 := impl_told_eq (L := L) (a := a) (k := (v : Int)) (s := 1) ha.ne (by omega) (by omega) (by omega) (by omega)
  have t2 := impl_told_eq (L := L) (a := a) (k := (v : Int)) (s := -1) ha.ne (by omega) (by omega) (by omega) (by omega)
  obtain ⟨_, f1, l1, _⟩ := FR_eq (L := L) ha (k := (v : Int)) (s := 1) (.inl rfl) hL
  obtain ⟨_, f2, l2, _⟩ := FR_eq (L := L) ha (k := (v : Int)) (s := -1) (.inr rfl) hL
  have step : ∀ (w : List Pt) (x : List Pt), w.length = a.length → x.length = a.length → ∃ c, impl_comparePolygons L x w = some c ∧ (c < 0 ↔ Lx a.length x w) := fun w x hw hx =>
    impl_comparePolygons_eq (by exact_mod_cast hx) (by exact_mod_cast hw) (by omega) (by omega)
  have pick : ∀ (w x : List Pt), w.length = a.length → x.length = a.length → ∃ c w', impl_comparePolygons L x w = some c ∧ ((c < 0 ∧ w' = x) ∨ (¬ c < 0 ∧ w' = w)) ∧ w'.length = a.length ∧ (∀ f, ¬ Lx a.length f w → ¬ Lx a.length f w') ∧ ¬ Lx a.length x w' := fun w x hw hx => by
    obtain ⟨c, c1, c2⟩ := step w x hw hx
    by_cases hc : c < 0
    · exact ⟨c, x, c1, .inl ⟨hc, rfl⟩, hx, fun f hf hfx => hf (hfx.trans (c2.1 hc)), Lx.irrefl⟩
    · exact ⟨c, w, c1, .inr ⟨hc, rfl⟩, hw, fun f hf => hf, fun e => hc (c2.2 e)⟩
  obtain ⟨c1, w1, p1, p2, p3, p4, p5⟩ := pick w _ hw l1
  obtain ⟨c2, w2, q1, q2, q3, q4, q5⟩ := pick w1 _ p3 l2
  refine ⟨w2, ?_, ?_, fun f hf => q4 f (p4 f hf), ?_⟩
  · have wv : wr IntKind.i64 (iadd (v : Int) 1) = ((v + 1 : Nat) : Int) := by simp only [iadd_eq]; rw [wr_i (by omega)]; rfl
    have w01 : wr IntKind.i64 (iadd 0 1) = 1 := by simp only [iadd_eq]; exact wr_id (by omega)
    have w12 : wr IntKind.i64 (iadd 1 1) = 2 := by simp only [iadd_eq]; exact wr_id (by omega)
    have r3 : ∀ m x, impl_firstFrame_l1 L κ0 a v11 (v : Int) (m + 1) 2 x = κ0 a v11 ((v + 1 : Nat) : Int) x := fun m x => by
      rw [impl_firstFrame_l1.eq_2]
      simp only [ilt_eq, h2, Int.lt_irrefl, decide_false, cond_false, wv]
    have r2 : ∀ m, impl_firstFrame_l1 L κ0 a v11 (v : Int) (m + 2) 1 w1 = κ0 a v11 ((v + 1 : Nat) : Int) w2 := fun m => by
      rw [show m + 2 = (m + 1) + 1 from rfl, impl_firstFrame_l1.eq_2]
      simp only [ilt_eq, ile_eq, h2, show ((1 : Int) < 2) = True by simp, show ((0 : Int) ≤ 1) = True by simp, decide_true, Bool.and_self, cond_true, gbind_eq, g1, Option.bind_some, t2, f2, q1, w12]
      rcases q2 with ⟨q2, rfl⟩ | ⟨q2, rfl⟩
      · simp only [q2, decide_true, cond_true]; exact r3 m _
      · simp only [q2, decide_false, cond_false]; exact r3 m _
    have r1 : impl_firstFrame_l1 L κ0 a v11 (v : Int) (m + 3) 0 w = κ0 a v11 ((v + 1 : Nat) : Int) w2 := by
      rw [show m + 3 = (m + 2) + 1 from rfl, impl_firstFrame_l1.eq_2]
      simp only [ilt_eq, ile_eq, h2, show ((0 : Int) < 2) = True by simp, show ((0 : Int) ≤ 0) = True by simp, decide_true, Bool.and_self, cond_true, gbind_eq, g0, Option.bind_some, t1, f1, p1, w01]
      rcases p2 with ⟨p2, rfl⟩ | ⟨p2, rfl⟩
      · simp only [p2, decide_true, cond_true]; exact r2 m
      · simp only [p2, decide_false, cond_false]; exact r2 m
    rw [← r1, ← hm]
  · rcases q2 with ⟨_, rfl⟩ | ⟨_, rfl⟩
    · exact .inr ⟨-1, .inr rfl, rfl⟩
    · rcases p2 with ⟨_, rfl⟩ | ⟨_, rfl⟩
      · exact .inr ⟨1, .inl rfl, rfl⟩
      · exact .inl rfl
  · rintro s (rfl | rfl)
    · exact q4 _ p5
    · exact q5
theorem firstFrame_eq {L : Nat} {a : List Pt} (ha : Fa a) (hL : 5000 < L) : ∃ f, impl_firstFrame L a = some f ∧ IsKind L a f := by
  have hi := ha.hi; have lo := ha.lo
  have f0 : impl_frame L a = some (FR L a 0 1) := by
    have := (FR_eq (L := L) ha (k := 0) (s := 1) (.inl rfl) hL).2.1
    rwa [tour_id ha.ne] at this
  have l0 := (FR_eq (L := L) ha (k := 0) (s := 1) (.inl rfl) hL).2.2.1
  unfold impl_firstFrame
  simp only [gbind_eq, f0, Option.bind_some, ilen_mapep]
  have key : ∀ (m v : Nat) (w : List Pt), v ≤ a.length → a.length - v < m → (∃ k s, (s = 1 ∨ s = -1) ∧ w = FR L a k s) → w.length = a.length → (∀ (j : Nat) s, j < v → (s = 1 ∨ s = -1) → ¬ Lx a.length (FR L a (j : Int) s) w) →
      ∃ f, impl_firstFrame_l0 L m a (a.length : Int) (v : Int) w = some f ∧ (∃ k s, (s = 1 ∨ s = -1) ∧ f = FR L a k s) ∧ ∀ (j : Nat) s, j < a.length → (s = 1 ∨ s = -1) → ¬ Lx a.length (FR L a (j : Int) s) f := by
    intro m
    induction m with
    | zero => intro v w _ h; omega
    | succ m ih =>
      intro v w hv hm hw hwl hmin
      by_cases h : v < a.length
      · have b1 : ((v : Int) < (a.length : Int)) = True := by simp; omega
        obtain ⟨w', e1, e2, e3, e4⟩ := ff_l1 (κ0 := impl_firstFrame_l0 L m) (v11 := (a.length : Int)) ha h hL hwl
        simp only [impl_firstFrame_l0, ilt_eq, b1, decide_true, cond_true, e1]
        have hw' : ∃ k s, (s = 1 ∨ s = -1) ∧ w' = FR L a k s := by
          rcases e2 with rfl | ⟨s, hs, rfl⟩
          · exact hw
          · exact ⟨_, s, hs, rfl⟩
        refine ih (v + 1) w' (by omega) (by omega) hw' ?_ fun j s hj hs => ?_
        · obtain ⟨k, s, hs, rfl⟩ := hw'; exact (FR_eq ha hs hL).2.2.1
        · by_cases hjv : j = v
          · subst hjv; exact e4 s hs
          · exact e3 _ (hmin j s (by omega) hs)
      · have b1 : ((v : Int) < (a.length : Int)) = False := by simp; omega
        simp only [impl_firstFrame_l0, ilt_eq, b1, decide_false, cond_false]
        exact ⟨w, rfl, hw, fun j s hj hs => hmin j s (by omega) hs⟩
  obtain ⟨f, h1, h2, h3⟩ := key L 0 (FR L a 0 1) (by omega) (by omega) ⟨0, 1, .inl rfl, rfl⟩ l0 (fun j s hj => by omega)
  refine ⟨f, h1, h2, fun k s hs => ?_⟩
  have q1 := Int.emod_nonneg k (show (a.length : Int) ≠ 0 by omega)
  have q2 := Int.emod_lt_of_pos k (show 0 < (a.length : Int) by omega)
  have := h3 (k % a.length).toNat s (by omega) hs
  rwa [FR_mod (k' := k) (by rw [Int.toNat_of_nonneg q1, Int.emod_emod_of_dvd _ (Int.dvd_refl _)])] at this
theorem kind_eq {L : Nat} {a : List Pt} (ha : Fa a) (hL : 5000 < L) : ∃ f, spec_mvKind L a = some f ∧ impl_firstFrame L a = some f ∧ IsKind L a f := by
  obtain ⟨f, h1, h2⟩ := mvKind_eq ha hL
  obtain ⟨g, h3, h4⟩ := firstFrame_eq ha hL
  have := h2.eq ha hL h4
  subst this
  exact ⟨f, h1, h3, h2⟩
end Go.AM
namespace Go.AM
open Classical
def it (a : List Int) (i : Int) : Int := a.getD i.toNat 0
theorem lget_it {a : List Int} {i : Int} (h0 : 0 ≤ i) (h1 : i < a.length) : lget a i = some (it a i) := by
  have : i.toNat < a.length := by omega
  rw [lget_eq, if_pos h0]; unfold it; simp [this]
theorem ilen_mapI (a : List Int) : ilen (List.map eI a) = (a.length : Int) := by rw [ilen_map, ilen_eq]
theorem Good_.fa {a : List Pt} (h : Good_ a) : Fa a := by
  have lo := h.lo; have hi := h.hi
  have hne : a ≠ [] := by intro e; subst e; simp at lo
  refine ⟨lo, by omega, fun i => (in_all h.isIn hne i).nr, fun i => ?_⟩
  have q1 := Int.emod_nonneg i (show (a.length : Int) ≠ 0 by omega)
  have q2 := Int.emod_lt_of_pos i (show 0 < (a.length : Int) by omega)
  have := h.turn (i % a.length) q1 q2
  have e : ∀ j : Int, pt a (i % a.length + j) = pt a (i + j) := fun j => pt_congr (by rw [Int.emod_add_emod])
  have e0 : pt a (i % a.length) = pt a i := pt_mod a i
  rwa [e, e, e0] at this
end Go.AM
namespace Go.AM
noncomputable def numb (w : List Pt) (v : Int) : Int :=
  if (pt w v).x = 0 then wr .i64 (iquo (wr .i64 (iadd (pt w (v - 1)).y (pt w (v + 1)).y)) (pt w v).y) else wr .i64 (iquo (wr .i64 (iadd (pt w (v - 1)).x (pt w (v + 1)).x)) (pt w v).x)
theorem ratios_eq {L : Nat} {w : List Pt} (hn : w ≠ []) (hs : (w.length : Int) ≤ 400000) (hL : 600000 < L) (hz : ∀ i, pt w i ≠ ⟨0, 0⟩) : spec_duNumbers L w = some ((List.range w.length).map fun (j : Nat) => numb w j) ∧ impl_ratios L w = some ((List.range w.length).map fun (j : Nat) => numb w j) := by
  have hl : 0 < (w.length : Int) := by have := List.length_pos_iff.2 hn; omega
  have h3 : ¬ ((w.length : Int) = 0) := by omega
  have nz : ∀ v, (pt w v).x = 0 → ¬ (pt w v).y = 0 := fun v h1 h2 => hz v (by
    generalize pt w v = p at *
    obtain ⟨x, y⟩ := p
    simp only at h1 h2
    rw [h1, h2])
  have fit : ∀ (u : List Int) (x : AV), u.length ≤ w.length → fits (iadd (ilen (List.map eI u)) (ilen [x])) 8 = true := fun u x hu => by
    refine fits_s ?_
    simp only [iadd_eq, ilen_eq, List.length_map, List.length_cons, List.length_nil]
    omega
  constructor
  · unfold spec_duNumbers
    have := idxLoop (f := spec_duNumbers_l0 L w) (H := numb w) (n := w.length) (K := fun u => some u) (fun m u => by
      simp only [spec_duNumbers_l0, ilt_eq, ilen_mapep, Int.lt_irrefl, decide_false, cond_false]) (fun m v u h0 h1 hu => by
      have m1 : pt w (v + w.length - 1) = pt w (v - 1) := by
        have := pt_per w (v - 1)
        rwa [show v - 1 + (w.length : Int) = v + w.length - 1 by omega] at this
      have wv : wr IntKind.i64 (iadd v 1) = v + 1 := by simp only [iadd_eq]; exact wr_s (by omega)
      have wn : wr IntKind.i64 (isub (wr IntKind.i64 (iadd v (w.length : Int))) 1) = v + w.length - 1 := by
        simp only [iadd_eq, isub_eq]; rw [wr_s (i := v + w.length) (by omega), wr_s (by omega)]
      simp only [spec_duNumbers_l0, ilt_eq, ieq_eq, ilen_mapep, h1, h3, decide_true, decide_false, cond_true, cond_false, gbind_eq, lget_pt h0 h1, Option.bind_some, wv, wn, lget_rem (show 0 ≤ v + 1 by omega) hn, lget_rem (show 0 ≤ v + w.length - 1 by omega) hn, m1, fit _ _ hu, lcat_eq]
      unfold numb
      by_cases hx : (pt w v).x = 0
      · simp only [hx, nz v hx, decide_true, decide_false, Bool.not_true, cond_false, if_true]
      · simp only [hx, decide_false, Bool.not_false, cond_true, cond_false, if_false]) L 0 (by omega) (by omega)
    exact this
  · unfold impl_ratios
    have := idxLoop (f := impl_ratios_l0 L w) (H := numb w) (n := w.length) (K := fun u => some u) (fun m u => by
      simp only [impl_ratios_l0, ilt_eq, ilen_mapep, Int.lt_irrefl, decide_false, cond_false]) (fun m v u h0 h1 hu => by
      have wv : wr IntKind.i64 (iadd v 1) = v + 1 := by simp only [iadd_eq]; exact wr_s (by omega)
      have wn : wr IntKind.i64 (isub v 1) = v - 1 := by simp only [isub_eq]; exact wr_s (by omega)
      simp only [impl_ratios_l0, ilt_eq, ieq_eq, ilen_mapep, h1, decide_true, cond_true, gbind_eq, lget_pt h0 h1, Option.bind_some, wv, wn, impl_at_eq hn (show (w.length : Int) ≤ 1000000000 by omega), impl_Peg_plus, fit _ _ hu, lcat_eq]
      unfold numb
      by_cases hx : (pt w v).x = 0
      · simp only [hx, nz v hx, decide_true, decide_false, Bool.not_true, cond_false, if_true]
      · simp only [hx, decide_false, Bool.not_false, cond_true, cond_false, if_false]) L 0 (by omega) (by omega)
    exact this
end Go.AM
namespace Go.AM
theorem it_mapr {n : Nat} {f : Nat → Int} {v : Int} (h0 : 0 ≤ v) (h1 : v < n) : it ((List.range n).map f) v = f v.toNat := by
  have : v.toNat < n := by omega
  unfold it
  simp [this]
theorem take_step {T u : List Int} {i : Nat} (hu : u.length = T.length) (hi : i < T.length) (h : u.take i = T.take i) : (u.set i (it T i)).take (i + 1) = T.take (i + 1) := by
  rw [List.take_add_one, List.take_add_one, List.take_set_of_le (by omega), h, List.getElem?_set, if_pos rfl, if_pos (by omega)]
  simp [it, hi]
theorem fill2 {R' : Type} {F : Nat → Int → List Int → List Int → R'} {T T' : List Int} {K : List Int → List Int → R'} (hs : (T.length : Int) ≤ 400000) (hT : T'.length = T.length)
    (he : ∀ m u u', u.length = T.length → u'.length = T.length → F (m + 1) T.length u u' = K u u')
    (hst : ∀ (m : Nat) (v : Int) (u u' : List Int), 0 ≤ v → v < T.length → u.length = T.length → u'.length = T.length → F (m + 1) v u u' = F m (v + 1) (lset u v (it T v)) (lset u' v (it T' v))) :
    ∀ (m : Nat) (v : Int) (u u' : List Int), 0 ≤ v → v ≤ T.length → (T.length : Int) - v < m → u.length = T.length → u'.length = T.length → u.take v.toNat = T.take v.toNat → u'.take v.toNat = T'.take v.toNat → F m v u u' = K T T'
  | 0, v, u, u', h0, h1, hm, hu, hu', ht, ht' => by omega
  | m + 1, v, u, u', h0, h1, hm, hu, hu', ht, ht' => by
    by_cases h : v < (T.length : Int)
    · rw [hst m v u u' h0 h hu hu']
      refine fill2 hs hT he hst m (v + 1) _ _ (by omega) (by omega) (by omega) (by rw [lset_eq]; simpa using hu) (by rw [lset_eq]; simpa using hu') ?_ ?_
      · rw [lset_eq, show (v + 1).toNat = v.toNat + 1 by omega]
        have := take_step hu (show v.toNat < T.length by omega) ht
        rwa [show ((v.toNat : Nat) : Int) = v by omega] at this
      · rw [lset_eq, show (v + 1).toNat = v.toNat + 1 by omega]
        have := take_step (hu'.trans hT.symm) (show v.toNat < T'.length by omega) ht'
        rwa [show ((v.toNat : Nat) : Int) = v by omega] at this
    · have e : v = T.length := by omega
      subst e
      rw [he m u u' hu hu']
      rw [Int.toNat_natCast] at ht ht'
      have e1 : u = T := by
        have := ht
        rw [List.take_length, ← hu, List.take_length] at this
        exact this
      have e2 : u' = T' := by
        have := ht'
        rw [← hT, List.take_length] at this
        rw [show T'.length = u'.length by omega, List.take_length] at this
        exact this
      rw [e1, e2]
def T1 (a : List Int) (f : Int) : List Int := (List.range a.length).map fun (j : Nat) => it a ((f + j) % a.length)
def T2 (a : List Int) (f : Int) : List Int := (List.range a.length).map fun (j : Nat) => it a ((f + a.length - j) % a.length)
theorem T1_len {a : List Int} {f : Int} : (T1 a f).length = a.length := by simp [T1]
theorem T2_len {a : List Int} {f : Int} : (T2 a f).length = a.length := by simp [T2]
theorem T1_it {a : List Int} {f v : Int} (h0 : 0 ≤ v) (h1 : v < a.length) : it (T1 a f) v = it a ((f + v) % a.length) := by
  unfold T1; rw [it_mapr h0 h1, show ((v.toNat : Nat) : Int) = v by omega]
theorem T2_it {a : List Int} {f v : Int} (h0 : 0 ≤ v) (h1 : v < a.length) : it (T2 a f) v = it a ((f + a.length - v) % a.length) := by
  unfold T2; rw [it_mapr h0 h1, show ((v.toNat : Nat) : Int) = v by omega]
theorem lget_remI {a : List Int} {i : Int} (h0 : 0 ≤ i) (hn : 0 < (a.length : Int)) : lget a (irem i (a.length : Int)) = some (it a (i % a.length)) := by
  rw [irem_nn h0]
  exact lget_it (Int.emod_nonneg _ (by omega)) (Int.emod_lt_of_pos _ hn)
end Go.AM
namespace Go.AM
theorem frame_unique {α β γ δ g x y g' x' y' : Int} (hd : α * δ - β * γ = 1 ∨ α * δ - β * γ = -1) (hg : 0 < g) (hg' : 0 < g')
    (h1 : α * g = g') (h2 : γ * g = 0) (hy : 0 < y) (hx : 0 ≤ x) (hxy : x < y) (hy' : 0 < y') (hx' : 0 ≤ x') (hxy' : x' < y')
    (h3 : α * x + β * y = x') (h4 : γ * x + δ * y = y') : α = 1 ∧ β = 0 ∧ γ = 0 ∧ δ = 1 := by
  have c : γ = 0 := by
    rcases Int.mul_eq_zero.1 h2 with h | h
    · exact h
    · omega
  subst c
  have ap : 0 < α := by
    rcases Int.lt_trichotomy α 0 with h | h | h
    · have := Int.mul_neg_of_neg_of_pos h hg; omega
    · subst h; omega
    · exact h
  have dp : 0 < δ := by
    rcases Int.lt_trichotomy δ 0 with h | h | h
    · have := Int.mul_neg_of_neg_of_pos h hy; omega
    · subst h; omega
    · exact h
  have hd' : α * δ = 1 := by
    have := Int.mul_pos ap dp
    simp only [Int.mul_zero, Int.sub_zero] at hd
    omega
  have a1 : α = 1 := Int.eq_one_of_mul_eq_one_right (by omega) hd'
  subst a1
  have d1 : δ = 1 := by omega
  subst d1
  refine ⟨rfl, ?_, rfl, rfl⟩
  have e4 : y = y' := by omega
  subst e4
  rcases Int.lt_trichotomy β 0 with h | h | h
  · have h5 : (β + 1) * y ≤ 0 := Int.mul_nonpos_of_nonpos_of_nonneg (by omega) (by omega)
    rw [Int.add_mul] at h5; omega
  · exact h
  · have h5 : 0 ≤ (β - 1) * y := Int.mul_nonneg (by omega) (by omega)
    rw [Int.sub_mul] at h5; omega
end Go.AM
namespace Go.AM
theorem brg_one {A B C D P Q R S g b d g' b' d' : Int} {o p q : Pt} (e1 : A * D - B * C = 1 ∨ A * D - B * C = -1) (e2 : P * S - Q * R = 1 ∨ P * S - Q * R = -1)
    (h1 : brg A B C D o p = ⟨g, 0⟩) (h2 : brg A B C D o q = ⟨b, d⟩) (k1 : brg P Q R S o p = ⟨g', 0⟩) (k2 : brg P Q R S o q = ⟨b', d'⟩)
    (hg : 0 < g) (hb : 0 ≤ b) (hbd : b < d) (hg' : 0 < g') (hb' : 0 ≤ b') (hbd' : b' < d') : A = P ∧ B = Q ∧ C = R ∧ D = S := by
  unfold brg at h1 h2 k1 k2
  generalize p.x - o.x = px at *
  generalize p.y - o.y = py at *
  generalize q.x - o.x = qx at *
  generalize q.y - o.y = qy at *
  simp only [Pt.mk.injEq] at h1 h2 k1 k2
  obtain ⟨h1, h1'⟩ := h1
  obtain ⟨h2, h2'⟩ := h2
  obtain ⟨k1, k1'⟩ := k1
  obtain ⟨k2, k2'⟩ := k2
  generalize he : A * D - B * C = e at *
  have ee : e * e = 1 := by rcases e1 with rfl | rfl <;> rfl
  have hd : (e * (P * D - Q * C)) * (e * (S * A - R * B)) - (e * (Q * A - P * B)) * (e * (R * D - S * C)) = 1 ∨ (e * (P * D - Q * C)) * (e * (S * A - R * B)) - (e * (Q * A - P * B)) * (e * (R * D - S * C)) = -1 := by
    have : (e * (P * D - Q * C)) * (e * (S * A - R * B)) - (e * (Q * A - P * B)) * (e * (R * D - S * C)) = (e * e) * ((A * D - B * C) * (P * S - Q * R)) := by grind
    rw [this, ee, he]
    rcases e1 with h | h <;> rcases e2 with h' | h' <;> rw [h, h'] <;> simp
  obtain ⟨u1, u2, u3, u4⟩ := frame_unique (α := e * (P * D - Q * C)) (β := e * (Q * A - P * B)) (γ := e * (R * D - S * C)) (δ := e * (S * A - R * B)) (g := g) (x := b) (y := d) (g' := g') (x' := b') (y' := d') hd hg hg'
    (by rw [← k1]; have : e * (P * D - Q * C) * g = (e * e) * (P * px + Q * py) := by grind
        rw [this, ee]; omega)
    (by have : e * (R * D - S * C) * g = (e * e) * (R * px + S * py) := by grind
        rw [this, k1']; omega)
    (by omega) hb hbd (by omega) hb' hbd'
    (by rw [← k2]; have : e * (P * D - Q * C) * b + e * (Q * A - P * B) * d = (e * e) * (P * qx + Q * qy) := by grind
        rw [this, ee]; omega)
    (by rw [← k2']; have : e * (R * D - S * C) * b + e * (S * A - R * B) * d = (e * e) * (R * qx + S * qy) := by grind
        rw [this, ee]; omega)
  have v1 : (e * (P * D - Q * C)) * A + (e * (Q * A - P * B)) * C = (e * e) * P := by grind
  have v2 : (e * (P * D - Q * C)) * B + (e * (Q * A - P * B)) * D = (e * e) * Q := by grind
  have v3 : (e * (R * D - S * C)) * A + (e * (S * A - R * B)) * C = (e * e) * R := by grind
  have v4 : (e * (R * D - S * C)) * B + (e * (S * A - R * B)) * D = (e * e) * S := by grind
  rw [u1, u2, ee] at v1 v2
  rw [u3, u4, ee] at v3 v4
  omega
end Go.AM
namespace Go.AM
def aff (α β γ δ u v : Int) (p : Pt) : Pt := ⟨α * p.x + β * p.y + u, γ * p.x + δ * p.y + v⟩
theorem brg_aff {α β γ δ u v P Q R S : Int} {o p : Pt} : brg P Q R S (aff α β γ δ u v o) (aff α β γ δ u v p) = brg (P * α + Q * γ) (P * β + Q * δ) (R * α + S * γ) (R * β + S * δ) o p := by
  unfold brg aff
  simp only [Pt.mk.injEq]
  constructor <;> grind
theorem pt_maps {a : List Pt} (hn : a ≠ []) (f : Pt → Pt) (i : Int) : pt (a.map f) i = f (pt a i) := by
  have hl : 0 < (a.length : Int) := by have := List.length_pos_iff.2 hn; omega
  have h0 := Int.emod_nonneg i (show (a.length : Int) ≠ 0 by omega)
  have h1 := Int.emod_lt_of_pos i hl
  have h2 : (i % (a.length : Int)).toNat < a.length := by omega
  unfold pt
  simp [h2]
theorem frame_aff {L : Nat} {a : List Pt} {α β γ δ u v : Int} (hd : α * δ - β * γ = 1 ∨ α * δ - β * γ = -1) (hn : 3 ≤ (a.length : Int)) (hs : (a.length : Int) ≤ 1000) (hin : ∀ i, Nr (pt a i)) (hin' : ∀ i, Nr (aff α β γ δ u v (pt a i)))
    (ht : turn (pt a 0) (pt a 1) (pt a 2) ≠ 0) (hL : 5000 < L) : spec_mvFrame L (a.map (aff α β γ δ u v)) = spec_mvFrame L a := by
  have ha : a ≠ [] := by intro e; subst e; simp at hn
  have ht' : turn (pt (a.map (aff α β γ δ u v)) 0) (pt (a.map (aff α β γ δ u v)) 1) (pt (a.map (aff α β γ δ u v)) 2) ≠ 0 := by
    rw [pt_maps ha, pt_maps ha, pt_maps ha]
    have : turn (aff α β γ δ u v (pt a 0)) (aff α β γ δ u v (pt a 1)) (aff α β γ δ u v (pt a 2)) = (α * δ - β * γ) * turn (pt a 0) (pt a 1) (pt a 2) := by
      unfold turn aff; grind
    rw [this]
    rcases hd with h | h <;> rw [h] <;> omega
  obtain ⟨A, B, C, D, g, b, d, s1, _, f1⟩ := frame_eq hn hs hin ht hL
  obtain ⟨P, Q, R, S, g', b', d', s2, _, f2⟩ := frame_eq (a := a.map (aff α β γ δ u v)) (by simpa using hn) (by simpa using hs) (fun i => by rw [pt_maps ha]; exact hin' i) ht' hL
  have k1 := f2.e1; have k2 := f2.e2
  rw [pt_maps ha, pt_maps ha, brg_aff] at k1 k2
  have e2 : (P * α + Q * γ) * (R * β + S * δ) - (P * β + Q * δ) * (R * α + S * γ) = 1 ∨ (P * α + Q * γ) * (R * β + S * δ) - (P * β + Q * δ) * (R * α + S * γ) = -1 := by
    have : (P * α + Q * γ) * (R * β + S * δ) - (P * β + Q * δ) * (R * α + S * γ) = (P * S - Q * R) * (α * δ - β * γ) := by grind
    rw [this]
    rcases f2.det with h | h <;> rcases hd with h' | h' <;> rw [h, h'] <;> simp
  obtain ⟨z1, z2, z3, z4⟩ := brg_one f1.det e2 f1.e1 f1.e2 k1 k2 f1.g0 f1.b0 f1.bd f2.g0 f2.b0 f2.bd
  rw [s1, s2, List.map_map]
  congr 1
  refine List.map_congr_left fun p _ => ?_
  simp only [Function.comp]
  rw [pt_maps ha, brg_aff, z1, z2, z3, z4]
end Go.AM
namespace Go.AM
theorem tour_maps {a : List Pt} (hn : a ≠ []) (f : Pt → Pt) (k s : Int) (n : Nat) : tour (a.map f) k s n = (tour a k s n).map f := by
  unfold tour
  simp only [List.map_map]
  refine List.map_congr_left fun j _ => ?_
  simp only [Function.comp, pt_maps hn]
theorem FR_aff {L : Nat} {a : List Pt} {α β γ δ u v k s : Int} (hd : α * δ - β * γ = 1 ∨ α * δ - β * γ = -1) (ha : Fa a) (hb : Fa (a.map (aff α β γ δ u v))) (hs : s = 1 ∨ s = -1) (hL : 5000 < L) :
    FR L (a.map (aff α β γ δ u v)) k s = FR L a k s := by
  have hn := ha.ne
  have t1 := ha.tour (k := k) hs
  have t2 := hb.tour (k := k) hs
  rw [tour_maps hn, List.length_map] at t2
  unfold FR
  rw [tour_maps hn, List.length_map, frame_aff hd t1.lo t1.hi t1.nr (fun i => by have := t2.nr i; rwa [pt_maps t1.ne] at this) (by have := t1.turn 0; simpa using this) hL]
theorem kind_aff {L : Nat} {a f : List Pt} {α β γ δ u v : Int} (hd : α * δ - β * γ = 1 ∨ α * δ - β * γ = -1) (ha : Fa a) (hb : Fa (a.map (aff α β γ δ u v))) (hL : 5000 < L) (h : IsKind L a f) :
    IsKind L (a.map (aff α β γ δ u v)) f := by
  obtain ⟨⟨k, s, h1, h2⟩, h3⟩ := h
  refine ⟨⟨k, s, h1, by rw [FR_aff hd ha hb h1 hL]; exact h2⟩, fun k s hs => ?_⟩
  rw [FR_aff hd ha hb hs hL, List.length_map]
  exact h3 k s hs
end Go.AM
namespace Go.AM
theorem tour_tours {a : List Pt} (hn : a ≠ []) {k s k' s' : Int} : tour (tour a k s a.length) k' s' a.length = tour a (k + k' * s) (s * s') a.length := by
  unfold tour
  refine List.map_congr_left fun j _ => ?_
  have e := pt_tour' hn (k := k) (s := s) (k' + (j : Int) * s')
  unfold tour at e
  rw [e]
  congr 1
  grind
theorem kind_tour {L : Nat} {a f : List Pt} {k s : Int} (ha : a ≠ []) (hs : s = 1 ∨ s = -1) (h : IsKind L a f) : IsKind L (tour a k s a.length) f := by
  obtain ⟨⟨k0, s0, h1, h2⟩, h3⟩ := h
  have key : ∀ k' s', FR L (tour a k s a.length) k' s' = FR L a (k + k' * s) (s * s') := fun k' s' => by
    unfold FR
    rw [tour_len, tour_tours ha]
  have prod : ∀ {x y : Int}, (x = 1 ∨ x = -1) → (y = 1 ∨ y = -1) → (x * y = 1 ∨ x * y = -1) := fun hx hy => by
    rcases hx with rfl | rfl <;> rcases hy with rfl | rfl <;> simp
  refine ⟨⟨(k0 - k) * s, s * s0, prod hs h1, ?_⟩, fun k' s' hs' => ?_⟩
  · rw [key, h2]
    have e1 : k + (k0 - k) * s * s = k0 := by rcases hs with rfl | rfl <;> omega
    have e2 : s * (s * s0) = s0 := by rcases hs with rfl | rfl <;> omega
    rw [e1, e2]
  · rw [key, tour_len]
    exact h3 _ _ (prod hs hs')
end Go.AM
namespace Go.AM
theorem quo_of {a b n s : Int} (ha : -100000 ≤ a ∧ a ≤ 100000) (hb : -100000 ≤ b ∧ b ≤ 100000) (h : a + b = n * s) (hs : s ≠ 0) : wr .i64 (iquo (wr .i64 (iadd a b)) s) = n := by
  have e : (a + b).tdiv s = n := by rw [h, Int.mul_tdiv_cancel _ hs]
  have bd := tdiv_small (a := a + b) (b := s) (N := 200000) (by omega)
  rw [e] at bd
  rw [iadd_eq, wr_s (i := a + b) (by omega), iquo_eq, e, wr_s (by omega)]
theorem numb_of {w : List Pt} {j n : Int} (hin : ∀ i, Nr (pt w i)) (hx : (pt w (j - 1)).x + (pt w (j + 1)).x = n * (pt w j).x) (hy : (pt w (j - 1)).y + (pt w (j + 1)).y = n * (pt w j).y) (hp : pt w j ≠ ⟨0, 0⟩) : numb w j = n := by
  have n0 := hin (j - 1)
  have n1 := hin (j + 1)
  unfold Nr at n0 n1
  unfold numb
  by_cases h : (pt w j).x = 0
  · have h2 : (pt w j).y ≠ 0 := fun e => hp (by
      generalize pt w j = p at *
      obtain ⟨x, y⟩ := p
      simp only at h e
      rw [h, e])
    rw [if_pos h]
    exact quo_of (by omega) (by omega) hy h2
  · rw [if_neg h]
    exact quo_of (by omega) (by omega) hx h
theorem basis_rel {u v w : Pt} (h1 : u.x * v.y - u.y * v.x = 1) (h2 : v.x * w.y - v.y * w.x = 1) : u.x + w.x = (u.x * w.y - u.y * w.x) * v.x ∧ u.y + w.y = (u.x * w.y - u.y * w.x) * v.y := by
  constructor <;> grind
theorem numb_cross {w : List Pt} {j : Int} (hin : ∀ i, Nr (pt w i)) (h1 : (pt w (j - 1)).x * (pt w j).y - (pt w (j - 1)).y * (pt w j).x = 1) (h2 : (pt w j).x * (pt w (j + 1)).y - (pt w j).y * (pt w (j + 1)).x = 1) :
    numb w j = (pt w (j - 1)).x * (pt w (j + 1)).y - (pt w (j - 1)).y * (pt w (j + 1)).x := by
  obtain ⟨e1, e2⟩ := basis_rel h1 h2
  refine numb_of hin e1 e2 fun e => ?_
  rw [e] at h1
  simp at h1
end Go.AM
namespace Go.AM
theorem turn_aff {α β γ δ u v : Int} {a b c : Pt} : turn (aff α β γ δ u v a) (aff α β γ δ u v b) (aff α β γ δ u v c) = (α * δ - β * γ) * turn a b c := by
  unfold turn aff; grind
theorem uni_e {d : Int} (h : d = 1 ∨ d = -1) : ∃ e : Int, e * d = 1 := by rcases h with h | h; exact ⟨1, by omega⟩; exact ⟨-1, by omega⟩
theorem sm_congr' {f g : Int → Int} (h : ∀ i, f i = g i) (k : Nat) : sm f k = sm g k := by rw [show f = g from funext h]
theorem sm_tele (f : Int → Int) : ∀ k : Nat, sm (fun i => f (i + 1) - f i) k = f k - f 0
  | 0 => by simp [sm]
  | k + 1 => by
    rw [sm, sm_tele f k]
    have : ((k + 1 : Nat) : Int) = (k : Int) + 1 := by omega
    rw [this]; omega
theorem gcd_dvd_lin {A B x y : Int} : (Nat.gcd x.natAbs y.natAbs : Int) ∣ A * x + B * y := by
  have h1 : (Nat.gcd x.natAbs y.natAbs : Int) ∣ x := Int.ofNat_dvd_left.2 (Nat.gcd_dvd_left _ _)
  have h2 : (Nat.gcd x.natAbs y.natAbs : Int) ∣ y := Int.ofNat_dvd_left.2 (Nat.gcd_dvd_right _ _)
  exact Int.dvd_add (Int.dvd_trans h1 ⟨A, by grind⟩) (Int.dvd_trans h2 ⟨B, by grind⟩)
theorem gcd_lin_dvd {A B C D x y : Int} : Nat.gcd x.natAbs y.natAbs ∣ Nat.gcd (A * x + B * y).natAbs (C * x + D * y).natAbs :=
  Nat.dvd_gcd (Int.ofNat_dvd_left.1 gcd_dvd_lin) (Int.ofNat_dvd_left.1 gcd_dvd_lin)
theorem gcd_uni {A B C D x y : Int} (hd : A * D - B * C = 1 ∨ A * D - B * C = -1) : Nat.gcd (A * x + B * y).natAbs (C * x + D * y).natAbs = Nat.gcd x.natAbs y.natAbs := by
  obtain ⟨e, he⟩ := uni_e hd
  refine Nat.dvd_antisymm ?_ gcd_lin_dvd
  have := gcd_lin_dvd (A := e * D) (B := -(e * B)) (C := -(e * C)) (D := e * A) (x := A * x + B * y) (y := C * x + D * y)
  have e1 : e * D * (A * x + B * y) + -(e * B) * (C * x + D * y) = x := by
    have : e * D * (A * x + B * y) + -(e * B) * (C * x + D * y) = (e * (A * D - B * C)) * x := by grind
    rw [this, he]; omega
  have e2 : -(e * C) * (A * x + B * y) + e * A * (C * x + D * y) = y := by
    have : -(e * C) * (A * x + B * y) + e * A * (C * x + D * y) = (e * (A * D - B * C)) * y := by grind
    rw [this, he]; omega
  rwa [e1, e2] at this
theorem step_aff {α β γ δ u v : Int} {p q : Pt} (hd : α * δ - β * γ = 1 ∨ α * δ - β * γ = -1) : step (aff α β γ δ u v p) (aff α β γ δ u v q) = step p q := by
  unfold step
  have e1 : (aff α β γ δ u v p).x - (aff α β γ δ u v q).x = α * (p.x - q.x) + β * (p.y - q.y) := by unfold aff; grind
  have e2 : (aff α β γ δ u v p).y - (aff α β γ δ u v q).y = γ * (p.x - q.x) + δ * (p.y - q.y) := by unfold aff; grind
  rw [e1, e2, gcd_uni hd]
end Go.AM
namespace Go.AM
section
variable {c d w v : Int → Pt} {n m N : Int} {K K' : Int → Int}
theorem int_both {P : Int → Prop} (h0 : P 0) (up : ∀ i, P i → P (i + 1)) (dn : ∀ i, P (i + 1) → P i) : ∀ i, P i := by
  have u : ∀ k : Nat, P (k : Int) := by
    intro k
    induction k with
    | zero => exact h0
    | succ k ih => exact up _ ih
  have l : ∀ k : Nat, P (-(k : Int)) := by
    intro k
    induction k with
    | zero => exact h0
    | succ k ih =>
      refine dn _ ?_
      rw [show -((k + 1 : Nat) : Int) + 1 = -(k : Int) by omega]
      exact ih
  intro i
  rcases Int.le_total 0 i with h | h
  · have := u i.toNat
    rwa [Int.toNat_of_nonneg h] at this
  · have := l (-i).toNat
    rwa [Int.toNat_of_nonneg (by omega), Int.neg_neg] at this
theorem Star.stp_per (h : Star c n) (i : Int) : stp c (i + n) = stp c i := by
  unfold stp
  rw [h.per, show i + n + 1 = i + 1 + n by omega, h.per]
theorem Plc.per (p : Plc c w n N K) (h : Star c n) : ∀ i, K (i + n) = K i + N := by
  refine int_both ?_ (fun i hi => ?_) fun i hi => ?_
  · rw [Int.zero_add, p.kn, p.k0]; omega
  · have a := p.next i
    have b := p.next (i + n)
    rw [h.stp_per] at b
    rw [show i + 1 + n = i + n + 1 by omega]
    omega
  · have a := p.next i
    have b := p.next (i + n)
    rw [h.stp_per] at b
    rw [show i + 1 + n = i + n + 1 by omega] at hi
    omega
theorem places_tour (hc : Star c n) (hd : Star d m) (p : Plc c w n N K) (q : Plc d v m N K') {k s : Int} (hs : s = 1 ∨ s = -1) (hn : ∀ i, nm w i = nm v (k + i * s)) : ∃ f, m = n ∧ ∀ i, K' (f + i * s) = k + K i * s := by
  have img : ∀ i, ∃ i', k + K i * s = K' i' := fun i => (q.is_corner hd _).1 (by rw [← hn]; exact (p.is_corner hc _).2 ⟨i, rfl⟩)
  have back : ∀ j, (∃ i', k + j * s = K' i') → ∃ i, j = K i := fun j hj => (p.is_corner hc j).1 (by rw [hn]; exact (q.is_corner hd _).2 hj)
  obtain ⟨f, hf⟩ := img 0
  have stepUp : ∀ i i', k + K i * s = K' i' → k + K (i + 1) * s = K' (i' + s) := by
    intro i i' hi
    obtain ⟨j', hj⟩ := img (i + 1)
    have m0 := p.mono hc (show i < i + 1 by omega)
    rcases hs with rfl | rfl
    · have lt : i' < j' := by
        rcases Int.lt_trichotomy i' j' with h | h | h
        · exact h
        · subst h; omega
        · have := q.mono hd h; omega
      rcases Int.lt_or_eq_of_le (show i' + 1 ≤ j' by omega) with h | h
      · exfalso
        have h1 := q.mono hd (show i' < i' + 1 by omega)
        have h2 := q.mono hd h
        obtain ⟨a, ha⟩ := back (K' (i' + 1) - k) ⟨i' + 1, by omega⟩
        have l1 : K i < K a := by omega
        have l2 : K a < K (i + 1) := by omega
        have a1 : i < a := by
          rcases Int.lt_trichotomy i a with h | h | h
          · exact h
          · subst h; omega
          · have := p.mono hc h; omega
        have a2 : a < i + 1 := by
          rcases Int.lt_trichotomy a (i + 1) with h | h | h
          · exact h
          · subst h; omega
          · have := p.mono hc h; omega
        omega
      · rw [hj, h]
    · have lt : j' < i' := by
        rcases Int.lt_trichotomy j' i' with h | h | h
        · exact h
        · subst h; omega
        · have := q.mono hd h; omega
      rcases Int.lt_or_eq_of_le (show j' ≤ i' - 1 by omega) with h | h
      · exfalso
        have h1 := q.mono hd (show i' - 1 < i' by omega)
        have h2 := q.mono hd h
        obtain ⟨a, ha⟩ := back (k - K' (i' - 1)) ⟨i' - 1, by omega⟩
        have l1 : K i < K a := by omega
        have l2 : K a < K (i + 1) := by omega
        have a1 : i < a := by
          rcases Int.lt_trichotomy i a with h | h | h
          · exact h
          · subst h; omega
          · have := p.mono hc h; omega
        have a2 : a < i + 1 := by
          rcases Int.lt_trichotomy a (i + 1) with h | h | h
          · exact h
          · subst h; omega
          · have := p.mono hc h; omega
        omega
      · rw [hj, h]; rfl
  have all : ∀ i, K' (f + i * s) = k + K i * s := by
    have ss : s * s = 1 := by rcases hs with rfl | rfl <;> rfl
    refine int_both ?_ (fun i hi => ?_) fun i hi => ?_
    · rw [Int.zero_mul, Int.add_zero]; exact hf.symm
    · have := stepUp i (f + i * s) hi.symm
      rw [this]
      congr 1
      rw [Int.add_mul]; omega
    · obtain ⟨i', h'⟩ := img i
      have := stepUp i i' h'
      rw [← hi] at this
      have e := q.inj hd this
      rw [h']
      congr 1
      rw [Int.add_mul] at e
      omega
  refine ⟨f, ?_, all⟩
  have e1 := all n
  have e0 := all 0
  rw [p.kn] at e1
  simp only [p.k0, Int.zero_mul, Int.add_zero] at e0
  have e2 := q.per hd f
  have e3 := q.per hd (f - m)
  rw [show f - m + m = f by omega] at e3
  rcases hs with rfl | rfl
  · have : K' (f + n * 1) = K' (f + m) := by omega
    have := q.inj hd this
    omega
  · have : K' (f + n * -1) = K' (f - m) := by omega
    have := q.inj hd this
    omega
theorem stars_same (hc : Star c n) (hd : Star d m) (p : Plc c w n N K) (q : Plc d v m N K') {k s : Int} (hs : s = 1 ∨ s = -1) (hn : ∀ i, nm w i = nm v (k + i * s)) :
    m = n ∧ ∃ f α β γ δ : Int, (α * δ - β * γ = 1 ∨ α * δ - β * γ = -1) ∧ ∀ i, d (f + i * s) = lin α β γ δ (c i) := by
  obtain ⟨f, hm, hf⟩ := places_tour hc hd p q hs hn
  obtain ⟨α, β, γ, δ, h1, h2⟩ := ring_tour (p.ring hc) (q.ring hd) hs hn
  refine ⟨hm, f, α, β, γ, δ, h1, fun i => ?_⟩
  rw [← q.corner _ hd, hf, h2, p.corner _ hc]
theorem lin_aff {α β γ δ : Int} (p : Pt) : lin α β γ δ p = aff α β γ δ 0 0 p := by unfold lin aff; simp
theorem stars_img (hc : Star c n) (hd : Star d m) (p : Plc c w n N K) {N' : Int} (q : Plc d v m N' K') {f s α β γ δ : Int} (hs : s = 1 ∨ s = -1) (hdet : α * δ - β * γ = 1 ∨ α * δ - β * γ = -1) (h : ∀ i, d (f + i * s) = lin α β γ δ (c i)) :
    ∀ j, nm w j = nm v (K' f + j * s) := by
  have hst : ∀ i, step (d (f + i * s)) (d (f + (i + 1) * s)) = stp c i := fun i => by
    rw [h, h, lin_aff, lin_aff, step_aff hdet]; rfl
  have hK : ∀ i, K' (f + i * s) = K' f + K i * s := by
    have nx : ∀ i, K' (f + (i + 1) * s) = K' (f + i * s) + stp c i * s := fun i => by
      have := hst i
      rcases hs with rfl | rfl
      · have a := q.next (f + i * 1)
        unfold stp at a
        rw [show f + i * 1 + 1 = f + (i + 1) * 1 by omega, this] at a
        omega
      · have a := q.next (f + (i + 1) * -1)
        unfold stp at a
        rw [show f + (i + 1) * -1 + 1 = f + i * -1 by omega, step_sym, this] at a
        omega
    refine int_both ?_ (fun i hi => ?_) fun i hi => ?_
    · rw [p.k0]; simp
    · rw [nx, hi, p.next, Int.add_mul]; omega
    · rw [nx, p.next, Int.add_mul] at hi; omega
  have hpt : ∀ j, v (K' f + j * s) = lin α β γ δ (w j) := fun j => by
    obtain ⟨i, t, t0, t1, rfl⟩ := p.find j
    have e := p.at_ i t t0 (by omega)
    rw [e]
    have hi := h i
    have hi1 := h (i + 1)
    have k := hK i
    have k1 := hK (i + 1)
    obtain ⟨a1, a2⟩ := hc.ew_mul i
    have st0 := hc.pos i
    rcases hs with rfl | rfl
    · have b := q.at_ (f + i * 1) t t0 (by
        have := hst i
        unfold stp at *
        rw [show f + i * 1 + 1 = f + (i + 1) * 1 by omega, this]; omega)
      obtain ⟨b1, b2⟩ := hd.ew_mul (f + i * 1)
      have hse : stp d (f + i * 1) = stp c i := by
        have := hst i
        unfold stp at *
        rw [show f + i * 1 + 1 = f + (i + 1) * 1 by omega, this]
      rw [hse, show f + i * 1 + 1 = f + (i + 1) * 1 by omega, hi, hi1] at b1 b2
      rw [show K' f + (K i + t) * 1 = K' (f + i * 1) + t by omega, b, hi]
      unfold lin at *
      simp only at b1 b2 ⊢
      have z : stp c i ≠ 0 := by unfold stp; omega
      have x1 : (ew d (f + i * 1)).x = α * (ew c i).x + β * (ew c i).y := by
        refine Int.eq_of_mul_eq_mul_right z ?_
        rw [b1]
        have : (α * (ew c i).x + β * (ew c i).y) * stp c i = α * ((ew c i).x * stp c i) + β * ((ew c i).y * stp c i) := by grind
        rw [this, a1, a2]; grind
      have x2 : (ew d (f + i * 1)).y = γ * (ew c i).x + δ * (ew c i).y := by
        refine Int.eq_of_mul_eq_mul_right z ?_
        rw [b2]
        have : (γ * (ew c i).x + δ * (ew c i).y) * stp c i = γ * ((ew c i).x * stp c i) + δ * ((ew c i).y * stp c i) := by grind
        rw [this, a1, a2]; grind
      rw [x1, x2]
      refine pt_ext ?_ ?_ <;> simp only <;> grind
    · have hse : stp d (f + (i + 1) * -1) = stp c i := by
        have := hst i
        unfold stp at *
        rw [show f + (i + 1) * -1 + 1 = f + i * -1 by omega, step_sym, this]
      have b := q.at_ (f + (i + 1) * -1) (stp c i - t) (by omega) (by omega)
      obtain ⟨b1, b2⟩ := hd.ew_mul (f + (i + 1) * -1)
      rw [hse, show f + (i + 1) * -1 + 1 = f + i * -1 by omega, hi, hi1] at b1 b2
      have kk := p.next i
      rw [show K' f + (K i + t) * -1 = K' (f + (i + 1) * -1) + (stp c i - t) by omega, b, hi1]
      unfold lin at *
      simp only at b1 b2 ⊢
      have z : stp c i ≠ 0 := by unfold stp; omega
      have x1 : (ew d (f + (i + 1) * -1)).x = -(α * (ew c i).x + β * (ew c i).y) := by
        refine Int.eq_of_mul_eq_mul_right z ?_
        rw [b1]
        have : -(α * (ew c i).x + β * (ew c i).y) * stp c i = -(α * ((ew c i).x * stp c i) + β * ((ew c i).y * stp c i)) := by grind
        rw [this, a1, a2]; grind
      have x2 : (ew d (f + (i + 1) * -1)).y = -(γ * (ew c i).x + δ * (ew c i).y) := by
        refine Int.eq_of_mul_eq_mul_right z ?_
        rw [b2]
        have : -(γ * (ew c i).x + δ * (ew c i).y) * stp c i = -(γ * ((ew c i).x * stp c i) + δ * ((ew c i).y * stp c i)) := by grind
        rw [this, a1, a2]; grind
      rw [x1, x2]
      clear b b1 b2 hi hi1 k k1 x1 x2 e
      refine pt_ext ?_ ?_
      · simp only
        have e1 : (c (i + 1)).x = (c i).x + (ew c i).x * stp c i := by omega
        have e2 : (c (i + 1)).y = (c i).y + (ew c i).y * stp c i := by omega
        rw [e1, e2]; grind
      · simp only
        have e1 : (c (i + 1)).x = (c i).x + (ew c i).x * stp c i := by omega
        have e2 : (c (i + 1)).y = (c i).y + (ew c i).y * stp c i := by omega
        rw [e1, e2]; grind
  have hw := p.ring hc
  have hv := q.ring hd
  have hds : α * δ - β * γ = s := by
    have a := hw 0
    rcases hs with rfl | rfl
    · have b := hv (K' f + 0 * 1)
      rw [show K' f + 0 * 1 + 1 = K' f + (0 + 1) * 1 by omega, hpt, hpt, cross_lin, a] at b
      omega
    · have b := hv (K' f + (0 + 1) * -1)
      rw [show K' f + (0 + 1) * -1 + 1 = K' f + 0 * -1 by omega, hpt, hpt, cross_lin] at b
      have : cross (w (0 + 1)) (w 0) = - cross (w 0) (w (0 + 1)) := by unfold cross; grind
      rw [this, a] at b
      omega
  intro j
  unfold nm
  rcases hs with rfl | rfl
  · rw [show K' f + j * 1 - 1 = K' f + (j - 1) * 1 by omega, show K' f + j * 1 + 1 = K' f + (j + 1) * 1 by omega, hpt, hpt, cross_lin, hds]; omega
  · rw [show K' f + j * -1 - 1 = K' f + (j + 1) * -1 by omega, show K' f + j * -1 + 1 = K' f + (j - 1) * -1 by omega, hpt, hpt, cross_lin, hds]
    have : cross (w (j + 1)) (w (j - 1)) = - cross (w (j - 1)) (w (j + 1)) := by unfold cross; grind
    rw [this]; omega
end
end Go.AM
namespace Go.AM
theorem on1_star {c : List Pt} (o : On1 c) : Star (pt c) c.length := ⟨o.lp.n3, pt_per c, o.cr, o.pos, o.lp.left⟩
theorem prim_of {p q : Pt} (h : q.x * p.x + q.y * p.y = 1) : Nat.gcd p.x.natAbs p.y.natAbs = 1 := by
  have h1 : ((Nat.gcd p.x.natAbs p.y.natAbs : Nat) : Int) ∣ q.x * p.x + q.y * p.y := gcd_dvd_lin
  rw [h] at h1
  have := Int.le_of_dvd (by omega) h1
  have h2 : Nat.gcd p.x.natAbs p.y.natAbs ≠ 0 := fun e => by
    rw [e] at h1
    have := Int.zero_dvd.1 h1
    omega
  omega
theorem dual_star {c : List Pt} (o : On1 c) : Star (pt (dlist c)) c.length := by
  have h := on1_star o
  have lo := o.lp.n3
  have hpt := fun i => pt_dlist (c := c) (by omega) i
  have dot : ∀ i, (pt (dlist c) i).x * (pt c i).x + (pt (dlist c) i).y * (pt c i).y = 1 ∧ (pt (dlist c) i).x * (pt c (i + 1)).x + (pt (dlist c) i).y * (pt c (i + 1)).y = 1 := fun i => by
    rw [hpt]; exact dpt_dot (o.pos i) (o.cr i)
  have hcp : ∀ i, 0 < cross (pt (dlist c) i) (pt (dlist c) (i + 1)) := fun i => by
    rw [hpt, hpt]
    have p1 := o.pos i; have p2 := o.pos (i + 1)
    obtain ⟨a1, a2⟩ := dpt_mul p1
    obtain ⟨b1, b2⟩ := dpt_mul p2
    have hl := o.lp.left i
    rw [show i + 1 + 1 = i + 2 by omega] at *
    have e : cross (dpt (pt c i) (pt c (i + 1))) (dpt (pt c (i + 1)) (pt c (i + 2))) * (step (pt c i) (pt c (i + 1)) * step (pt c (i + 1)) (pt c (i + 2))) = turn (pt c i) (pt c (i + 1)) (pt c (i + 2)) := by
      unfold cross turn; grind
    rw [← e] at hl
    have hpp := Int.mul_pos p1 p2
    rcases Int.lt_or_le 0 (cross (dpt (pt c i) (pt c (i + 1))) (dpt (pt c (i + 1)) (pt c (i + 2)))) with h | h
    · exact h
    · have := Int.mul_nonpos_of_nonpos_of_nonneg h (show 0 ≤ step (pt c i) (pt c (i + 1)) * step (pt c (i + 1)) (pt c (i + 2)) by omega); omega
  have way : ∀ i, (pt (dlist c) (i + 1)).x - (pt (dlist c) i).x = -(cross (pt (dlist c) i) (pt (dlist c) (i + 1)) * (pt c (i + 1)).y) ∧ (pt (dlist c) (i + 1)).y - (pt (dlist c) i).y = cross (pt (dlist c) i) (pt (dlist c) (i + 1)) * (pt c (i + 1)).x := fun i => by
    have d1 := (dot i).2
    have d2 := (dot (i + 1)).1
    generalize pt (dlist c) i = p at *
    generalize pt (dlist c) (i + 1) = q at *
    generalize pt c (i + 1) = b at *
    unfold cross
    constructor <;> grind
  refine ⟨lo, fun i => ?_, fun i => ?_, fun i => ?_, fun i => ?_⟩
  · have := pt_per (dlist c) i
    rwa [dlist_len] at this
  · obtain ⟨w1, w2⟩ := way i
    have hk := hcp i
    have hg := prim_of (dot i).2
    generalize cross (pt (dlist c) i) (pt (dlist c) (i + 1)) = k at *
    unfold step
    have e1 : ((pt (dlist c) i).x - (pt (dlist c) (i + 1)).x).natAbs = k.natAbs * (pt c (i + 1)).y.natAbs := by
      rw [← Int.natAbs_mul]; congr 1; omega
    have e2 : ((pt (dlist c) i).y - (pt (dlist c) (i + 1)).y).natAbs = k.natAbs * (pt c (i + 1)).x.natAbs := by
      rw [← Int.natAbs_mul, ← Int.natAbs_neg]; congr 1; omega
    rw [e1, e2, Nat.gcd_mul_left, Nat.gcd_comm, hg]
    omega
  · refine step_pos fun e => ?_
    have hk := hcp i
    rw [← e] at hk
    unfold cross at hk
    have : (pt (dlist c) i).x * (pt (dlist c) i).y - (pt (dlist c) i).y * (pt (dlist c) i).x = 0 := by grind
    omega
  · obtain ⟨w1, w2⟩ := way i
    obtain ⟨x1, x2⟩ := way (i + 1)
    have k1 := hcp i
    have k2 := hcp (i + 1)
    have hb := o.cr (i + 1)
    have hbp := o.pos (i + 1)
    rw [show i + 1 + 1 = i + 2 by omega] at *
    generalize cross (pt (dlist c) i) (pt (dlist c) (i + 1)) = k at *
    generalize cross (pt (dlist c) (i + 1)) (pt (dlist c) (i + 2)) = k' at *
    have e : turn (pt (dlist c) i) (pt (dlist c) (i + 1)) (pt (dlist c) (i + 2)) = k * k' * cross (pt c (i + 1)) (pt c (i + 2)) := by
      have x1' : (pt (dlist c) (i + 2)).x = (pt (dlist c) (i + 1)).x - k' * (pt c (i + 2)).y := by omega
      have x2' : (pt (dlist c) (i + 2)).y = (pt (dlist c) (i + 1)).y + k' * (pt c (i + 2)).x := by omega
      have w1' : (pt (dlist c) (i + 1)).x = (pt (dlist c) i).x - k * (pt c (i + 1)).y := by omega
      have w2' : (pt (dlist c) (i + 1)).y = (pt (dlist c) i).y + k * (pt c (i + 1)).x := by omega
      unfold turn cross
      rw [x1', x2', w1', w2']
      grind
    rw [e, hb]
    exact Int.mul_pos (Int.mul_pos k1 k2) hbp
theorem star_shift {c : Int → Pt} {n : Int} (h : Star c n) (k : Int) : Star (fun i => c (k + i)) n := by
  refine ⟨h.n3, fun i => ?_, fun i => ?_, fun i => ?_, fun i => ?_⟩
  · show c (k + (i + n)) = c (k + i)
    rw [show k + (i + n) = k + i + n by omega, h.per]
  · show cross (c (k + i)) (c (k + (i + 1))) = step (c (k + i)) (c (k + (i + 1)))
    have := h.cr (k + i); rwa [show k + (i + 1) = k + i + 1 by omega]
  · show 0 < step (c (k + i)) (c (k + (i + 1)))
    have := h.pos (k + i); rwa [show k + (i + 1) = k + i + 1 by omega]
  · show 0 < turn (c (k + i)) (c (k + (i + 1))) (c (k + (i + 2)))
    have := h.left (k + i); rwa [show k + (i + 1) = k + i + 1 by omega, show k + (i + 2) = k + i + 2 by omega]
noncomputable def kN (e : List Pt) (i : Nat) : Int := ((allp e i).length : Int)
theorem kN_succ (e : List Pt) (i : Nat) : kN e (i + 1) = kN e i + stp (pt e) (i : Int) := by
  show ((allp e i ++ seg (pt e (i : Int)) (pt e ((i : Int) + 1)) (step (pt e (i : Int)) (pt e ((i : Int) + 1))).toNat).length : Int) = ((allp e i).length : Int) + step (pt e (i : Int)) (pt e ((i : Int) + 1))
  rw [List.length_append, seg_len]
  have := step_nn (pt e (i : Int)) (pt e ((i : Int) + 1))
  omega
theorem kN_mono {e : List Pt} {i k : Nat} (h : i ≤ k) : kN e i ≤ kN e k := by
  induction k with
  | zero => have : i = 0 := by omega
            subst this; omega
  | succ k ih =>
    by_cases hk : i ≤ k
    · have := ih hk
      rw [kN_succ]
      have := step_nn (pt e (k : Int)) (pt e ((k : Int) + 1))
      unfold stp; omega
    · have : i = k + 1 := by omega
      subst this; omega
theorem allp_at {e : List Pt} {i : Nat} {t : Nat} : ∀ {k : Nat}, i < k → (t : Int) < stp (pt e) (i : Int) → (allp e k)[(kN e i).toNat + t]? = some (mkp (pt e (i : Int)) (pt e ((i : Int) + 1)) (t : Int))
  | 0, h, _ => by omega
  | k + 1, h, ht => by
    by_cases hk : i < k
    · have ih := allp_at (e := e) (i := i) (t := t) hk ht
      have hlt := (List.getElem?_eq_some_iff.1 ih).1
      unfold allp
      rw [List.getElem?_append_left hlt, ih]
    · have : i = k := by omega
      subst this
      unfold allp
      have e0 : (kN e i).toNat = (allp e i).length := by unfold kN; omega
      rw [e0, List.getElem?_append_right (by omega)]
      unfold seg
      have : t < (step (pt e (i : Int)) (pt e ((i : Int) + 1))).toNat := by unfold stp at ht; omega
      rw [show (allp e i).length + t - (allp e i).length = t by omega, List.getElem?_map, List.getElem?_range this]
      rfl
noncomputable def kZ (e : List Pt) (i : Int) : Int := kN e (i % (e.length : Int)).toNat + i / (e.length : Int) * kN e e.length
theorem plc_of {e : List Pt} (h : Star (pt e) e.length) : Plc (pt e) (pt (allp e e.length)) e.length (allp e e.length).length (kZ e) := by
  have lo := h.n3
  have hlen : ((allp e e.length).length : Int) = kN e e.length := rfl
  have hpos : 0 < kN e e.length := by
    have h1 := kN_mono (e := e) (show 1 ≤ e.length by omega)
    have h2 : kN e 1 = kN e 0 + stp (pt e) 0 := kN_succ e 0
    have h3 := h.pos 0
    have h4 : kN e 0 = 0 := rfl
    unfold stp at h2
    omega
  have wn : allp e e.length ≠ [] := by intro q; rw [q] at hlen; simp at hlen; omega
  have nx : ∀ i, kZ e (i + 1) = kZ e i + stp (pt e) i := fun i => by
    have q1 := Int.emod_nonneg i (show (e.length : Int) ≠ 0 by omega)
    have q2 := Int.emod_lt_of_pos i (show 0 < (e.length : Int) by omega)
    have q3 := Int.mul_ediv_add_emod i e.length
    have hs : stp (pt e) i = stp (pt e) (i % e.length) := by
      unfold stp
      have e1 : pt e (i % e.length + 1) = pt e (i + 1) := pt_congr (by rw [Int.emod_add_emod])
      rw [e1, pt_mod]
    have hk := kN_succ e (i % (e.length : Int)).toNat
    rw [Int.toNat_of_nonneg q1, ← hs] at hk
    unfold kZ
    by_cases hl : i % (e.length : Int) + 1 < e.length
    · have d : (i + 1) / (e.length : Int) = i / e.length ∧ (i + 1) % (e.length : Int) = i % e.length + 1 :=
        (Int.ediv_emod_unique (by omega)).2 ⟨by omega, by omega, hl⟩
      rw [d.1, d.2, show (i % (e.length : Int) + 1).toNat = (i % (e.length : Int)).toNat + 1 by omega, hk]
      omega
    · have d : (i + 1) / (e.length : Int) = i / e.length + 1 ∧ (i + 1) % (e.length : Int) = 0 :=
        (Int.ediv_emod_unique (by omega)).2 ⟨by rw [Int.mul_add]; omega, by omega, by omega⟩
      rw [d.1, d.2]
      have : (i % (e.length : Int)).toNat + 1 = e.length := by omega
      rw [this] at hk
      have z : kN e (0 : Int).toNat = 0 := rfl
      rw [z, Int.add_mul]
      omega
  have at1 : ∀ i t, 0 ≤ t → t < stp (pt e) i → pt (allp e e.length) (kZ e i + t) = mkp (pt e i) (pt e (i + 1)) t := fun i t t0 t1 => by
    have q1 := Int.emod_nonneg i (show (e.length : Int) ≠ 0 by omega)
    have q2 := Int.emod_lt_of_pos i (show 0 < (e.length : Int) by omega)
    have e1 : pt e (i % e.length + 1) = pt e (i + 1) := pt_congr (by rw [Int.emod_add_emod])
    have e0 := pt_mod e i
    have hs : stp (pt e) i = stp (pt e) (i % e.length) := by unfold stp; rw [e1, e0]
    have g := allp_at (e := e) (i := (i % (e.length : Int)).toNat) (t := t.toNat) (k := e.length) (by omega) (by rw [Int.toNat_of_nonneg q1, Int.toNat_of_nonneg t0, ← hs]; exact t1)
    rw [Int.toNat_of_nonneg q1, Int.toNat_of_nonneg t0, e1, e0] at g
    have hb := (List.getElem?_eq_some_iff.1 g).1
    have hkn : 0 ≤ kN e (i % (e.length : Int)).toNat := by unfold kN; omega
    have p := pt_get (a := allp e e.length) (i := kN e (i % (e.length : Int)).toNat + t) (by omega) (by omega)
    rw [show (kN e (i % (e.length : Int)).toNat + t).toNat = (kN e (i % (e.length : Int)).toNat).toNat + t.toNat by omega, g] at p
    have p' := Option.some.inj p
    rw [p']
    apply pt_congr
    unfold kZ
    rw [hlen, show kN e (i % (e.length : Int)).toNat + i / (e.length : Int) * kN e e.length + t = kN e (i % (e.length : Int)).toNat + t + i / (e.length : Int) * kN e e.length by omega, Int.add_mul_emod_self_right]
  refine ⟨?_, ?_, nx, fun i t t0 t1 => ?_, fun j => ?_⟩
  · unfold kZ
    rw [Int.zero_emod, Int.zero_ediv, Int.zero_mul]
    rfl
  · unfold kZ
    rw [Int.emod_self, Int.ediv_self (by omega)]
    have z : kN e (0 : Int).toNat = 0 := rfl
    rw [z, hlen]; omega
  · by_cases hl : t < stp (pt e) i
    · rw [at1 i t t0 hl]; rfl
    · have : t = stp (pt e) i := by omega
      subst this
      rw [← nx]
      have hp := h.pos (i + 1)
      have := at1 (i + 1) 0 (by omega) (by unfold stp; exact hp)
      rw [Int.add_zero] at this
      rw [this, mkp_ew]
      obtain ⟨a1, a2⟩ := h.ew_mul i
      simp only [Int.mul_zero, Int.add_zero]
      refine pt_ext ?_ ?_
      · simp only; omega
      · simp only; omega
  · have q1 := Int.emod_nonneg j (show kN e e.length ≠ 0 by omega)
    have q2 := Int.emod_lt_of_pos j hpos
    have q3 := Int.mul_ediv_add_emod j (kN e e.length)
    have fnd : ∀ k : Nat, ∀ r : Int, 0 ≤ r → r < kN e k → ∃ i : Nat, i < k ∧ ∃ t, 0 ≤ t ∧ t < stp (pt e) (i : Int) ∧ r = kN e i + t := by
      intro k
      induction k with
      | zero => intro r r0 r1; have : kN e 0 = 0 := rfl
                omega
      | succ k ih =>
        intro r r0 r1
        rw [kN_succ] at r1
        by_cases hr : r < kN e k
        · obtain ⟨i, hi, t, t0, t1, er⟩ := ih r r0 hr
          exact ⟨i, by omega, t, t0, t1, er⟩
        · exact ⟨k, by omega, r - kN e k, by omega, by omega, by omega⟩
    obtain ⟨i, hi, t, t0, t1, er⟩ := fnd e.length _ q1 q2
    have d : ((i : Int) + j / kN e e.length * e.length) / (e.length : Int) = j / kN e e.length ∧ ((i : Int) + j / kN e e.length * e.length) % (e.length : Int) = i :=
      (Int.ediv_emod_unique (by omega)).2 ⟨by rw [Int.mul_comm], by omega, by omega⟩
    refine ⟨(i : Int) + j / kN e e.length * e.length, t, t0, ?_, ?_⟩
    · have hs : stp (pt e) ((i : Int) + j / kN e e.length * e.length) = stp (pt e) (i : Int) := by
        unfold stp
        have x1 : pt e ((i : Int) + j / kN e e.length * e.length) = pt e i := pt_congr (Int.add_mul_emod_self_right ..)
        have x2 : pt e ((i : Int) + j / kN e e.length * e.length + 1) = pt e ((i : Int) + 1) := pt_congr (by rw [show (i : Int) + j / kN e e.length * e.length + 1 = (i : Int) + 1 + j / kN e e.length * e.length by omega, Int.add_mul_emod_self_right])
        rw [x1, x2]
      rw [hs]; exact t1
    · unfold kZ
      rw [d.1, d.2, show ((i : Int)).toNat = i by omega]
      have : j / kN e e.length * kN e e.length = kN e e.length * (j / kN e e.length) := Int.mul_comm _ _
      omega
end Go.AM
namespace Go.AM
theorem it_get {a : List Int} {i : Nat} (h : i < a.length) : it a (i : Int) = a[i] := by
  have h1 := lget_it (a := a) (i := (i : Int)) (by omega) (by omega)
  rw [lget_eq, if_pos (by omega), Int.toNat_natCast, List.getElem?_eq_getElem h] at h1
  exact (Option.some.inj h1).symm
theorem list_ext_it {a b : List Int} (hl : a.length = b.length) (h : ∀ i : Int, 0 ≤ i → i < (a.length : Int) → it a i = it b i) : a = b := by
  refine List.ext_getElem hl fun i h1 h2 => ?_
  have := h i (by omega) (by omega)
  rwa [it_get h1, it_get h2] at this
def Lxi (n : Int) (a b : List Int) : Prop := ∃ i, 0 ≤ i ∧ i < n ∧ (∀ j, 0 ≤ j → j < i → it a j = it b j) ∧ it a i < it b i
theorem Lxi.trans {n : Int} {a b c : List Int} (h : Lxi n a b) (k : Lxi n b c) : Lxi n a c := by
  obtain ⟨i, i0, i1, i2, i3⟩ := h
  obtain ⟨j, j0, j1, j2, j3⟩ := k
  rcases Int.lt_trichotomy i j with h | rfl | h
  · exact ⟨i, i0, i1, fun q q0 q1 => (i2 q q0 q1).trans (j2 q q0 (by omega)), by rw [← j2 i i0 h]; exact i3⟩
  · exact ⟨i, i0, i1, fun q q0 q1 => (i2 q q0 q1).trans (j2 q q0 q1), by omega⟩
  · exact ⟨j, j0, j1, fun q q0 q1 => (i2 q q0 (by omega)).trans (j2 q q0 q1), by rw [i2 j j0 h]; exact j3⟩
theorem Lxi.irrefl {n : Int} {a : List Int} : ¬ Lxi n a a := fun ⟨i, _, _, _, h⟩ => by omega
theorem Lxi.eq {n : Int} {a b : List Int} (ha : (a.length : Int) = n) (hb : (b.length : Int) = n) (h : ¬ Lxi n a b) (k : ¬ Lxi n b a) : a = b := by
  refine list_ext_it (by omega) ?_
  have key : ∀ m : Nat, ∀ i : Int, 0 ≤ i → i < m → i < n → it a i = it b i := by
    intro m
    induction m with
    | zero => intro i _ h; omega
    | succ m ih =>
      intro i i0 i1 i2
      have hj : ∀ j, 0 ≤ j → j < i → it a j = it b j := fun j j0 j1 => ih j j0 (by omega) (by omega)
      rcases Int.lt_trichotomy (it a i) (it b i) with q | q | q
      · exact absurd ⟨i, i0, i2, hj, q⟩ h
      · exact q
      · exact absurd ⟨i, i0, i2, fun j j0 j1 => (hj j j0 j1).symm, q⟩ k
  intro i i0 i1
  exact key (i.toNat + 1) i i0 (by omega) (by omega)
theorem duBefore_l0 {L : Nat} {n : Int} {a b : List Int} (ha : (a.length : Int) = n) (hb : (b.length : Int) = n) (hs : n ≤ 1000000) : ∀ (m : Nat) (v : Int), 0 ≤ v → v ≤ n → n - v < m → (∀ j, 0 ≤ j → j < v → it a j = it b j) →
    ∃ t, spec_duBefore_l0 L a b m v = some t ∧ (t = true ↔ Lxi n a b)
  | 0, _, _, _, h, _ => by omega
  | m + 1, v, h0, hv, hm, he => by
    by_cases hvn : v < n
    · have g1 := lget_it (a := a) h0 (by omega)
      have g2 := lget_it (a := b) h0 (by omega)
      simp only [spec_duBefore_l0, ilt_eq, ilen_mapI, ha, hvn, decide_true, cond_true, gbind_eq, g1, g2, Option.bind_some, ieq_eq]
      by_cases hp : it a v = it b v
      · simp only [hp, decide_true, Bool.not_true, cond_false, iadd_eq]
        rw [wr_id (n := v + 1) (by omega)]
        exact duBefore_l0 ha hb hs m (v + 1) (by omega) (by omega) (by omega) fun j j0 j1 => by
          by_cases hj : j = v
          · subst hj; exact hp
          · exact he j j0 (by omega)
      · simp only [hp, decide_false, Bool.not_false, cond_true]
        refine ⟨_, rfl, ?_⟩
        rw [decide_eq_true_iff]
        constructor
        · intro h; exact ⟨v, h0, hvn, he, h⟩
        · rintro ⟨i, i0, i1, i2, i3⟩
          rcases Int.lt_trichotomy i v with h | rfl | h
          · rw [he i i0 h] at i3; omega
          · exact i3
          · exact absurd (i2 v h0 h) hp
    · simp only [spec_duBefore_l0, ilt_eq, ilen_mapI, ha, hvn, decide_false, cond_false]
      refine ⟨false, rfl, by simp; rintro ⟨i, i0, i1, i2, i3⟩; rw [he i i0 (by omega)] at i3; omega⟩
theorem duBefore_eq {L : Nat} {n : Int} {a b : List Int} (ha : (a.length : Int) = n) (hb : (b.length : Int) = n) (hs : n ≤ 1000000) (hL : n < L) : ∃ t, spec_duBefore L a b = some t ∧ (t = true ↔ Lxi n a b) := by
  unfold spec_duBefore
  exact duBefore_l0 ha hb hs L 0 (by omega) (by omega) (by omega) fun j _ _ => by omega
theorem duLeast_l0 {L : Nat} {a : List Int} (hn : 0 < (a.length : Int)) (hs : (a.length : Int) ≤ 400000) (hL : 600000 < L) : ∀ (m : Nat) (f : Int) (b : List Int), 0 ≤ f → f ≤ a.length → (a.length : Int) - f < m → b.length = a.length →
    ∃ r, spec_duLeast_l0 L m a a.length f b = some r ∧ r.length = a.length ∧ (r = b ∨ ∃ g, 0 ≤ g ∧ g < (a.length : Int) ∧ (r = T1 a g ∨ r = T2 a g)) ∧ (∀ x, ¬ Lxi a.length x b → ¬ Lxi a.length x r) ∧ ∀ g, f ≤ g → g < (a.length : Int) → ¬ Lxi a.length (T1 a g) r ∧ ¬ Lxi a.length (T2 a g) r
  | 0, f, b, h0, h1, hm, hb => by omega
  | m + 1, f, b, h0, h1, hm, hb => by
    have hn' : ¬ ((a.length : Int) = 0) := by omega
    by_cases h : f < (a.length : Int)
    · have ft : fits (a.length : Int) 8 = true := fits_s (by omega)
      have wf : wr IntKind.i64 (f + 1) = f + 1 := wr_s (by omega)
      obtain ⟨t1, q1, e1⟩ := duBefore_eq (L := L) (n := (a.length : Int)) (a := T1 a f) (b := b) (by rw [T1_len]) (by omega) (by omega) (by omega)
      obtain ⟨t2, q2, e2⟩ := duBefore_eq (L := L) (n := (a.length : Int)) (a := T2 a f) (b := T1 a f) (by rw [T2_len]) (by rw [T1_len]) (by omega) (by omega)
      obtain ⟨t3, q3, e3⟩ := duBefore_eq (L := L) (n := (a.length : Int)) (a := T2 a f) (b := b) (by rw [T2_len]) (by omega) (by omega) (by omega)
      have pick : ∃ b', (bif t1 then (bif t2 then some (T2 a f) else some (T1 a f)) else (bif t3 then some (T2 a f) else some b)) = some b' ∧ b'.length = a.length ∧ (b' = b ∨ b' = T1 a f ∨ b' = T2 a f) ∧ (∀ x, ¬ Lxi a.length x b → ¬ Lxi a.length x b') ∧ ¬ Lxi a.length (T1 a f) b' ∧ ¬ Lxi a.length (T2 a f) b' := by
        cases t1 with
        | true =>
          have l1 := e1.1 rfl
          cases t2 with
          | true =>
            have l2 := e2.1 rfl
            exact ⟨T2 a f, rfl, T2_len, .inr (.inr rfl), fun x hx k => hx ((k.trans l2).trans l1), fun k => Lxi.irrefl (k.trans l2), Lxi.irrefl⟩
          | false => exact ⟨T1 a f, rfl, T1_len, .inr (.inl rfl), fun x hx k => hx (k.trans l1), Lxi.irrefl, fun k => (by have := e2.2 k; cases this)⟩
        | false =>
          cases t3 with
          | true =>
            have l3 := e3.1 rfl
            exact ⟨T2 a f, rfl, T2_len, .inr (.inr rfl), fun x hx k => hx (k.trans l3), fun k => (by have := e1.2 (k.trans l3); cases this), Lxi.irrefl⟩
          | false => exact ⟨b, rfl, hb, .inl rfl, fun x hx => hx, fun k => (by have := e1.2 k; cases this), fun k => (by have := e3.2 k; cases this)⟩
      obtain ⟨b', p1, p2, p3, p4, p5, p6⟩ := pick
      obtain ⟨r, r1, r2, r3, r4, r5⟩ := duLeast_l0 hn hs hL m (f + 1) b' (by omega) (by omega) (by omega) p2
      refine ⟨r, ?_, r2, ?_, fun x hx => r4 x (p4 x hx), fun g g0 g1 => ?_⟩
      · simp only [spec_duLeast_l0, ilt_eq, ile_eq, h, ft, decide_true, cond_true, Bool.and_true, show (0 : Int) ≤ (a.length : Int) by omega, Int.le_refl]
        have := fill2 (F := spec_duLeast_l1 L (spec_duLeast_l0 L m) a a.length f b) (T := T1 a f) (T' := T2 a f) (K := fun w1 w2 => gbind (spec_duBefore L w1 b) fun r1 => bif r1 then (gbind (spec_duBefore L w2 w1) fun r2 => bif r2 then (spec_duLeast_l0 L m a a.length (wr IntKind.i64 (iadd f 1)) w2) else (spec_duLeast_l0 L m a a.length (wr IntKind.i64 (iadd f 1)) w1)) else (gbind (spec_duBefore L w2 b) fun r3 => bif r3 then (spec_duLeast_l0 L m a a.length (wr IntKind.i64 (iadd f 1)) w2) else (spec_duLeast_l0 L m a a.length (wr IntKind.i64 (iadd f 1)) b))) (by rw [T1_len]; omega) (by rw [T1_len, T2_len]) (fun m' u u' hu hu' => by
            simp only [spec_duLeast_l1, T1_len, ilt_eq, ilen_mapI, Int.lt_irrefl, decide_false, cond_false]) (fun m' v u u' g0 g1 hu hu' => by
            rw [T1_len] at g1 hu hu'
            have g3 : v < (u.length : Int) := by omega
            have g4 : v < (u'.length : Int) := by omega
            have wv : wr IntKind.i64 (v + 1) = v + 1 := wr_s (by omega)
            rw [T1_it g0 g1, T2_it g0 g1]
            simp only [spec_duLeast_l1, ieq_eq, hn', ilt_eq, ile_eq, iadd_eq, isub_eq, g1, g0, g3, g4, ilen_mapI, decide_true, decide_false, cond_true, cond_false, gbind_eq, Option.bind_some, Bool.and_self, lget_it g0 g3, lget_it g0 g4, wv, wr_s (i := f + v) (by omega), wr_s (i := f + (a.length : Int)) (by omega), wr_s (i := f + (a.length : Int) - v) (by omega), lget_remI (i := f + v) (by omega) hn, lget_remI (i := f + (a.length : Int) - v) (by omega) hn]) L 0 (lrep a.length 0) (lrep a.length 0) (by omega) (by omega) (by rw [T1_len]; omega) (by rw [lrep_eq]; simp [T1_len]) (by rw [lrep_eq]; simp [T1_len]) (by simp) (by simp)
        rw [this]
        simp only [q1, q2, q3, gbind_eq, Option.bind_some, iadd_eq, wf]
        rw [← r1]
        cases t1 <;> cases t2 <;> cases t3 <;> simp only [cond_true, cond_false, Option.some.injEq] at p1 ⊢ <;> rw [p1]
      · rcases r3 with r3 | r3
        · rcases p3 with p3 | p3 | p3
          · exact .inl (r3.trans p3)
          · exact .inr ⟨f, h0, h, .inl (r3.trans p3)⟩
          · exact .inr ⟨f, h0, h, .inr (r3.trans p3)⟩
        · exact .inr r3
      · by_cases hg : g = f
        · subst hg; exact ⟨r4 _ p5, r4 _ p6⟩
        · exact r5 g (by omega) g1
    · have e : f = a.length := by omega
      subst e
      exact ⟨b, by simp only [spec_duLeast_l0, ilt_eq, Int.lt_irrefl, decide_false, cond_false], hb, .inl rfl, fun x hx => hx, fun g g0 g1 => by omega⟩
def IsT (a x : List Int) (g s : Int) : Prop := x.length = a.length ∧ ∀ v, 0 ≤ v → v < (a.length : Int) → it x v = it a ((g + v * s) % a.length)
theorem isT1 {a : List Int} (g : Int) : IsT a (T1 a g) g 1 := ⟨T1_len, fun v v0 v1 => by rw [T1_it v0 v1, Int.mul_one]⟩
theorem isT2 {a : List Int} (g : Int) : IsT a (T2 a g) g (-1) := ⟨T2_len, fun v v0 v1 => by
  rw [T2_it v0 v1, show g + (a.length : Int) - v = g + v * -1 + a.length by omega, Int.add_emod_right]⟩
theorem IsT.uniq {a x y : List Int} {g g' s : Int} (h : IsT a x g s) (k : IsT a y g' s) (e : g % (a.length : Int) = g' % a.length) : x = y := by
  refine list_ext_it (h.1.trans k.1.symm) fun v v0 v1 => ?_
  rw [h.1] at v1
  rw [h.2 v v0 v1, k.2 v v0 v1, Int.add_emod, e, ← Int.add_emod]
theorem duLeast_eq {L : Nat} {a : List Int} (hn : 0 < (a.length : Int)) (hs : (a.length : Int) ≤ 400000) (hL : 600000 < L) :
    ∃ r, spec_duLeast L a = some r ∧ r.length = a.length ∧ (∃ g s, (s = 1 ∨ s = -1) ∧ IsT a r g s) ∧ ∀ x g s, (s = 1 ∨ s = -1) → IsT a x g s → ¬ Lxi a.length x r := by
  obtain ⟨r, r1, r2, r3, _, r5⟩ := duLeast_l0 (L := L) hn hs hL L 0 a (by omega) (by omega) (by omega) rfl
  have ft : fits (iadd (ilen ([] : List AV)) (a.length : Int)) 8 = true := fits_s (by simp only [iadd_eq, ilen_eq, List.length_nil]; omega)
  refine ⟨r, ?_, r2, ?_, fun x g s hs' hx => ?_⟩
  · unfold spec_duLeast spec_l1Own
    simp only [ilen_mapI, ft, cond_true, gbind_eq, Option.bind_some, lcat_eq, List.nil_append]
    exact r1
  · rcases r3 with rfl | ⟨g, _, _, rfl | rfl⟩
    · exact ⟨0, 1, .inl rfl, rfl, fun v v0 v1 => by rw [Int.zero_add, Int.mul_one, Int.emod_eq_of_lt v0 v1]⟩
    · exact ⟨g, 1, .inl rfl, isT1 g⟩
    · exact ⟨g, -1, .inr rfl, isT2 g⟩
  · have g0 := Int.emod_nonneg g (show (a.length : Int) ≠ 0 by omega)
    have g1 := Int.emod_lt_of_pos g hn
    have := r5 (g % a.length) g0 g1
    rcases hs' with rfl | rfl
    · rw [hx.uniq (isT1 (g % a.length)) (Int.emod_emod_of_dvd _ (Int.dvd_refl _)).symm]; exact this.1
    · rw [hx.uniq (isT2 (g % a.length)) (Int.emod_emod_of_dvd _ (Int.dvd_refl _)).symm]; exact this.2
theorem isT_all {a x : List Int} {g s : Int} (h : IsT a x g s) (hn : 0 < (a.length : Int)) (j : Int) : it x (j % a.length) = it a ((g + j * s) % a.length) := by
  have g0 := Int.emod_nonneg j (show (a.length : Int) ≠ 0 by omega)
  have g1 := Int.emod_lt_of_pos j hn
  rw [h.2 _ g0 g1]
  congr 1
  rw [Int.add_emod, Int.mul_emod, Int.emod_emod_of_dvd _ (Int.dvd_refl _), ← Int.mul_emod, ← Int.add_emod]
theorem least_same {L : Nat} {a b : List Int} (hl : b.length = a.length) (hn : 0 < (a.length : Int)) (hs : (a.length : Int) ≤ 400000) (hL : 600000 < L) :
    ∃ r q, spec_duLeast L a = some r ∧ spec_duLeast L b = some q ∧ r.length = a.length ∧ q.length = a.length ∧ (r = q ↔ ∃ k s, (s = 1 ∨ s = -1) ∧ ∀ j, it a (j % a.length) = it b ((k + j * s) % a.length)) := by
  obtain ⟨r, r1, r2, ⟨g, s, hgs, rT⟩, r4⟩ := duLeast_eq (L := L) hn hs hL
  obtain ⟨q, q1, q2, ⟨g', s', hgs', qT⟩, q4⟩ := duLeast_eq (L := L) (a := b) (by omega) (by omega) hL
  refine ⟨r, q, r1, q1, r2, by omega, ?_⟩
  have mul1 : ∀ {x y : Int}, (x = 1 ∨ x = -1) → (y = 1 ∨ y = -1) → (x * y = 1 ∨ x * y = -1) := fun hx hy => by
    rcases hx with rfl | rfl <;> rcases hy with rfl | rfl <;> simp
  constructor
  · rintro rfl
    have ra := isT_all rT hn
    have rb := isT_all qT (by omega)
    rw [hl] at rb
    refine ⟨g' - g * s * s', s * s', mul1 hgs hgs', fun j => ?_⟩
    have e1 := ra ((j - g) * s)
    have e2 := rb ((j - g) * s)
    have z : g + (j - g) * s * s = j := by rcases hgs with rfl | rfl <;> omega
    rw [z] at e1
    rw [← e1, e2]
    congr 2
    rw [Int.sub_mul, Int.sub_mul, Int.mul_assoc j s s']
    omega
  · rintro ⟨k, s0, hs0, hj⟩
    have ss0 : s0 * s0 = 1 := by rcases hs0 with rfl | rfl <;> rfl
    have ra := isT_all rT hn
    have rb := isT_all qT (by omega)
    rw [hl] at rb
    refine Lxi.eq (n := (a.length : Int)) (by omega) (by omega) (fun c => ?_) (fun c => ?_)
    · -- r is b turned
      have : IsT b r (k + g * s0) (s * s0) := ⟨by omega, fun v v0 v1 => by
        rw [hl] at v1
        have e := ra v
        rw [Int.emod_eq_of_lt v0 v1] at e
        rw [e, hj, hl]
        congr 2
        rw [Int.add_mul, Int.mul_assoc]; omega⟩
      have := q4 r _ _ (mul1 hgs hs0) this
      rw [hl] at this
      exact this c
    · have : IsT a q ((g' - k) * s0) (s' * s0) := ⟨by omega, fun v v0 v1 => by
        have e := rb v
        rw [Int.emod_eq_of_lt v0 v1] at e
        rw [e, hj]
        congr 2
        have : k + ((g' - k) * s0 + v * (s' * s0)) * s0 = k + (g' - k) * (s0 * s0) + v * s' * (s0 * s0) := by grind
        rw [this, ss0]; omega⟩
      exact r4 q _ _ (mul1 hgs' hs0) this c
end Go.AM
namespace Go.AM
section
variable {c d w v : Int → Pt} {n N N' : Int} {K K' : Int → Int}
theorem sm_zero_all {g : Int → Int} {k : Nat} (h : ∀ i : Int, 0 ≤ i → i < k → 0 ≤ g i) (hz : sm g k = 0) (i : Int) (i0 : 0 ≤ i) (i1 : i < k) : g i = 0 := by
  have a := (sm_nonneg h).2 i i0 i1
  have b := h i i0 i1
  omega
theorem star_in {k : Nat} (h : Star c k) {x : Pt} (hx : ∀ i, 0 < turn (c i) (c (i + 1)) x) : x = ⟨0, 0⟩ := by
  have n3 := h.n3
  have nn : ∀ i, 0 ≤ cross (ew c i) x := fun i => by
    have t := hx i
    obtain ⟨a1, a2⟩ := h.ew_mul i
    have c1 := (h.cross_ew i).1
    have sp := h.pos i
    have e : turn (c i) (c (i + 1)) x = stp c i * (cross (ew c i) x + 1) := by
      have : turn (c i) (c (i + 1)) x = ((c (i + 1)).x - (c i).x) * (x.y - (c i).y) - ((c (i + 1)).y - (c i).y) * (x.x - (c i).x) := rfl
      rw [this, ← a1, ← a2, ← c1]
      unfold cross; grind
    rw [e] at t
    rcases Int.lt_or_le (cross (ew c i) x) 0 with k | k
    · have : stp c i * (cross (ew c i) x + 1) ≤ 0 := Int.mul_nonpos_of_nonneg_of_nonpos (by unfold stp; omega) (by omega)
      omega
    · exact k
  have tele := sm_tele (fun i => cross (c i) x) k
  have per := h.per 0
  rw [Int.zero_add] at per
  simp only [per, Int.sub_self] at tele
  have tm : ∀ i, cross (c (i + 1)) x - cross (c i) x = stp c i * cross (ew c i) x := fun i => by
    obtain ⟨a1, a2⟩ := h.ew_mul i
    have : cross (c (i + 1)) x - cross (c i) x = ((c (i + 1)).x - (c i).x) * x.y - ((c (i + 1)).y - (c i).y) * x.x := by unfold cross; grind
    rw [this, ← a1, ← a2]; unfold cross; grind
  have tz : sm (fun i => stp c i * cross (ew c i) x) k = 0 := by
    rw [← tele]; exact sm_congr' (fun i => (tm i).symm) k
  have z : ∀ i : Int, 0 ≤ i → i < k → cross (ew c i) x = 0 := fun i i0 i1 => by
    have := sm_zero_all (g := fun i => stp c i * cross (ew c i) x) (k := k) (fun i _ _ => Int.mul_nonneg (by have := h.pos i; unfold stp; omega) (nn i)) tz i i0 i1
    rcases Int.mul_eq_zero.1 this with q | q
    · have := h.pos i; unfold stp at q; omega
    · exact q
  have z0 := z 0 (by omega) (by omega)
  have z1 := z 1 (by omega) (by omega)
  have l := h.ew_left 0
  rw [Int.zero_add] at l
  generalize ew c 0 = p at *
  generalize ew c 1 = q at *
  unfold cross at z0 z1 l
  have x1 : (p.x * q.y - p.y * q.x) * x.x = 0 := by
    have : (p.x * q.y - p.y * q.x) * x.x = q.x * (p.x * x.y - p.y * x.x) - p.x * (q.x * x.y - q.y * x.x) := by grind
    rw [this, z0, z1]; simp
  have x2 : (p.x * q.y - p.y * q.x) * x.y = 0 := by
    have : (p.x * q.y - p.y * q.x) * x.y = q.y * (p.x * x.y - p.y * x.x) - p.y * (q.x * x.y - q.y * x.x) := by grind
    rw [this, z0, z1]; simp
  refine pt_ext ?_ ?_
  · rcases Int.mul_eq_zero.1 x1 with q | q
    · omega
    · exact q
  · rcases Int.mul_eq_zero.1 x2 with q | q
    · omega
    · exact q
theorem star_zero {k : Nat} (hc : Star c k) (hd : Star d k) {f s α β γ δ u v : Int} (hs : s = 1 ∨ s = -1) (hdet : α * δ - β * γ = 1 ∨ α * δ - β * γ = -1) (h : ∀ i, d (f + i * s) = aff α β γ δ u v (c i)) : u = 0 ∧ v = 0 := by
  have hx : aff α β γ δ u v ⟨0, 0⟩ = ⟨u, v⟩ := by unfold aff; simp
  have cr0 : ∀ p q : Pt, turn p q ⟨0, 0⟩ = cross p q := fun p q => by unfold turn cross; grind
  have key : ∀ i, 0 < turn (d i) (d (i + 1)) ⟨u, v⟩ := by
    intro i
    rcases hs with rfl | rfl
    · have l := hd.left f
      have l' := hc.left 0
      rw [show f = f + 0 * 1 by omega, show f + 0 * 1 + 1 = f + (0 + 1) * 1 by omega, show f + 0 * 1 + 2 = f + (0 + 2) * 1 by omega, h, h, h, turn_aff] at l
      have hp : α * δ - β * γ = 1 := by
        rcases hdet with e | e
        · exact e
        · rw [e] at l; omega
      have e1 := h (i - f)
      have e2 := h (i - f + 1)
      rw [show f + (i - f) * 1 = i by omega] at e1
      rw [show f + (i - f + 1) * 1 = i + 1 by omega] at e2
      rw [e1, e2, ← hx, turn_aff, hp, cr0, hc.cr]
      have := hc.pos (i - f)
      omega
    · have l := hd.left (f - 2)
      have l' := hc.left 0
      rw [show f - 2 = f + (0 + 2) * -1 by omega, show f + (0 + 2) * -1 + 1 = f + (0 + 1) * -1 by omega, show f + (0 + 2) * -1 + 2 = f + 0 * -1 by omega, h, h, h, turn_aff] at l
      have tr : turn (c (0 + 2)) (c (0 + 1)) (c 0) = - turn (c 0) (c (0 + 1)) (c (0 + 2)) := turn_rev _ _ _
      have hp : α * δ - β * γ = -1 := by
        rcases hdet with e | e
        · rw [e, tr] at l; omega
        · exact e
      have e1 := h (f - i)
      have e2 := h (f - i - 1)
      rw [show f + (f - i) * -1 = i by omega] at e1
      rw [show f + (f - i - 1) * -1 = i + 1 by omega] at e2
      rw [e1, e2, ← hx, turn_aff, hp, cr0]
      have k1 := hc.cr (f - i - 1)
      have k2 := hc.pos (f - i - 1)
      rw [show f - i - 1 + 1 = f - i by omega] at k1 k2
      have : cross (c (f - i)) (c (f - i - 1)) = - cross (c (f - i - 1)) (c (f - i)) := by unfold cross; grind
      rw [this, k1]; omega
  have := star_in hd key
  simp only [Pt.mk.injEq] at this
  exact this
end
def Img (p q : List Pt) (α β γ δ u v : Int) : Prop := (α * δ - β * γ = 1 ∨ α * δ - β * γ = -1) ∧ ∀ i, pt q i = aff α β γ δ u v (pt p i)
theorem img_of_frames {L : Nat} {p q : List Pt} (hl : q.length = p.length) (hp : Fa p) (hq : Fa q) (hL : 5000 < L) (h : FR L p 0 1 = FR L q 0 1) : ∃ α β γ δ u v, Img p q α β γ δ u v := by
  obtain ⟨_, _, _, A, B, C, D, g, b, d, e, fr⟩ := FR_eq (L := L) hp (k := 0) (s := 1) (.inl rfl) hL
  obtain ⟨_, _, _, P, Q, R, S, g', b', d', e', fr'⟩ := FR_eq (L := L) hq (k := 0) (s := 1) (.inl rfl) hL
  rw [tour_id hp.ne] at e
  rw [tour_id hq.ne] at e'
  have det := fr.det
  have det' := fr'.det
  have key : ∀ i, brg A B C D (pt p 0) (pt p i) = brg P Q R S (pt q 0) (pt q i) := fun i => by
    rw [← pt_maps hp.ne (brg A B C D (pt p 0)), ← pt_maps hq.ne (brg P Q R S (pt q 0)), ← e, ← e', h]
  generalize hE : P * S - Q * R = ε at *
  have ee : ε * ε = 1 := by rcases det' with rfl | rfl <;> rfl
  generalize pt p 0 = o at *
  generalize pt q 0 = o' at *
  refine ⟨ε * (S * A - Q * C), ε * (S * B - Q * D), ε * (P * C - R * A), ε * (P * D - R * B), o'.x - (ε * (S * A - Q * C) * o.x + ε * (S * B - Q * D) * o.y), o'.y - (ε * (P * C - R * A) * o.x + ε * (P * D - R * B) * o.y), ?_, fun i => ?_⟩
  · have : ε * (S * A - Q * C) * (ε * (P * D - R * B)) - ε * (S * B - Q * D) * (ε * (P * C - R * A)) = (ε * ε) * ((P * S - Q * R) * (A * D - B * C)) := by grind
    rw [this, ee, hE]
    rcases det with h | h <;> rcases det' with h' | h' <;> rw [h, h'] <;> simp
  · have k := key i
    unfold brg at k
    simp only [Pt.mk.injEq] at k
    obtain ⟨k1, k2⟩ := k
    have z1 : ε * (S * (P * ((pt q i).x - o'.x) + Q * ((pt q i).y - o'.y)) - Q * (R * ((pt q i).x - o'.x) + S * ((pt q i).y - o'.y))) = (pt q i).x - o'.x := by
      have : ε * (S * (P * ((pt q i).x - o'.x) + Q * ((pt q i).y - o'.y)) - Q * (R * ((pt q i).x - o'.x) + S * ((pt q i).y - o'.y))) = ε * (P * S - Q * R) * ((pt q i).x - o'.x) := by grind
      rw [this, hE, ee]; omega
    have z2 : ε * (P * (R * ((pt q i).x - o'.x) + S * ((pt q i).y - o'.y)) - R * (P * ((pt q i).x - o'.x) + Q * ((pt q i).y - o'.y))) = (pt q i).y - o'.y := by
      have : ε * (P * (R * ((pt q i).x - o'.x) + S * ((pt q i).y - o'.y)) - R * (P * ((pt q i).x - o'.x) + Q * ((pt q i).y - o'.y))) = ε * (P * S - Q * R) * ((pt q i).y - o'.y) := by grind
      rw [this, hE, ee]; omega
    rw [← k1, ← k2] at z1 z2
    have ext : ∀ a b : Pt, a.x = b.x → a.y = b.y → a = b := fun a b h1 h2 => by cases a; cases b; simp only at h1 h2; subst h1; subst h2; rfl
    refine ext _ _ ?_ ?_
    · unfold aff; simp only
      have : (pt q i).x = o'.x + ((pt q i).x - o'.x) := by omega
      rw [this, ← z1]; grind
    · unfold aff; simp only
      have : (pt q i).y = o'.y + ((pt q i).y - o'.y) := by omega
      rw [this, ← z2]; grind
theorem FR_tour {L : Nat} {q : List Pt} {k s : Int} (hn : q ≠ []) : FR L (tour q k s q.length) 0 1 = FR L q k s := by
  unfold FR
  have hn2 : tour q k s q.length ≠ [] := by intro e; have := congrArg List.length e; rw [tour_len] at this; exact hn (List.eq_nil_of_length_eq_zero (by simpa using this))
  rw [tour_id hn2]
theorem star_fa {e : List Pt} (h : Star (pt e) e.length) (hi : (e.length : Int) ≤ 1000) (nr : ∀ i, Nr (pt e i)) : Fa e := ⟨h.n3, hi, nr, fun i => by have := h.left i; omega⟩
theorem kinds_lin {L : Nat} {c d f : List Pt} (hl : d.length = c.length) (hc : Star (pt c) c.length) (hd : Star (pt d) d.length) (hi : (c.length : Int) ≤ 1000) (nc : ∀ i, Nr (pt c i)) (nd : ∀ i, Nr (pt d i)) (hL : 5000 < L) (h1 : IsKind L c f) (h2 : IsKind L d f) :
    ∃ g s α β γ δ : Int, (s = 1 ∨ s = -1) ∧ (α * δ - β * γ = 1 ∨ α * δ - β * γ = -1) ∧ ∀ i, pt d (g + i * s) = lin α β γ δ (pt c i) := by
  have fc := star_fa hc hi nc
  have fd := star_fa hd (by omega) nd
  obtain ⟨⟨k1, s1, hs1, e1⟩, _⟩ := h1
  obtain ⟨⟨k2, s2, hs2, e2⟩, _⟩ := h2
  obtain ⟨α, β, γ, δ, u, v, hdet, hpt⟩ := img_of_frames (L := L) (p := tour c k1 s1 c.length) (q := tour d k2 s2 d.length) (by rw [tour_len, tour_len, hl]) (fc.tour hs1) (fd.tour hs2) hL (by rw [FR_tour fc.ne, FR_tour fd.ne, ← e1, ← e2])
  have all : ∀ i, pt d (k2 - k1 * s1 * s2 + i * (s1 * s2)) = aff α β γ δ u v (pt c i) := fun i => by
    have := hpt ((i - k1) * s1)
    rw [pt_tour' fd.ne, pt_tour' fc.ne] at this
    have x1 : k1 + (i - k1) * s1 * s1 = i := by rcases hs1 with rfl | rfl <;> omega
    have x2 : k2 + (i - k1) * s1 * s2 = k2 - k1 * s1 * s2 + i * (s1 * s2) := by rcases hs1 with rfl | rfl <;> rcases hs2 with rfl | rfl <;> omega
    rwa [x1, x2] at this
  have hs : s1 * s2 = 1 ∨ s1 * s2 = -1 := by rcases hs1 with rfl | rfl <;> rcases hs2 with rfl | rfl <;> simp
  obtain ⟨rfl, rfl⟩ := star_zero (k := c.length) hc (by rw [← hl]; exact hd) hs hdet all
  exact ⟨_, _, α, β, γ, δ, hs, hdet, fun i => by rw [all i, lin_aff]⟩
theorem lin_kinds {L : Nat} {c d f f' : List Pt} (hl : d.length = c.length) (fc : Fa c) (fd : Fa d) (hL : 5000 < L) (h1 : IsKind L c f) (h2 : IsKind L d f') {g s α β γ δ : Int} (hs : s = 1 ∨ s = -1) (hdet : α * δ - β * γ = 1 ∨ α * δ - β * γ = -1) (h : ∀ i, pt d (g + i * s) = lin α β γ δ (pt c i)) : f = f' := by
  have ht := fd.tour (k := g) hs
  have e : tour d g s d.length = c.map (aff α β γ δ 0 0) := by
    refine list_ext_pt (by rw [tour_len, List.length_map, hl]) fun i _ _ => ?_
    rw [pt_tour' fd.ne, pt_maps fc.ne, h, lin_aff]
  have k1 := kind_aff hdet fc (by rw [← e]; exact ht) hL h1
  rw [← e] at k1
  exact k1.eq ht hL (kind_tour fd.ne hs h2)
end Go.AM
namespace Go.AM
theorem tour_pt1 {e : List Pt} (hn : e ≠ []) (k : Int) : pt (tour e k 1 e.length) = fun i => pt e (k + i) := by
  funext i
  rw [pt_tour' hn, Int.mul_one]
theorem tour_star {e : List Pt} (h : Star (pt e) e.length) (k : Int) : Star (pt (tour e k 1 e.length)) (tour e k 1 e.length).length := by
  have hn : e ≠ [] := by intro q; have := h.n3; subst q; simp at this
  rw [tour_pt1 hn, tour_len]
  exact star_shift h k
theorem star_first {L : Nat} {e : List Pt} (h : Star (pt e) e.length) (hi : (e.length : Int) ≤ 1000) (nr : ∀ i, Nr (pt e i)) (hd : ∀ i k, 0 ≤ k → k < i → i < (e.length : Int) → pt e k ≠ pt e i) (hL : 3000 < L) : ∃ k, spec_pgFirst L e = some (tour e k 1 e.length) := by
  have n3 := h.n3
  have hn : e ≠ [] := by intro q; subst q; simp at n3
  have ha : 0 < area e := by
    unfold area
    exact sm_pos (by omega) fun i _ _ => by rw [h.cr]; exact h.pos i
  have hsg : sg (area e) = 1 := by unfold sg; rw [if_pos ha]
  obtain ⟨c, c1, c2, _⟩ := first_eq (L := L) hn hi hL nr hd (by omega) (by omega)
  obtain ⟨k, _, k2, _⟩ := tellFirst_val (L := L) hn hi hL nr (.inl hsg)
  rw [c2, hsg] at k2
  exact ⟨k, by rw [c1]; exact k2⟩
theorem around_nr {e : List Pt} (h : Star (pt e) e.length) (nr : ∀ i, Nr (pt e i)) (j : Int) : Nr (pt (allp e e.length) j) := by
  have p := plc_of h
  obtain ⟨i, t, t0, t1, rfl⟩ := p.find j
  rw [p.at_ i t t0 (by omega)]
  obtain ⟨a1, a2⟩ := h.ew_mul i
  have n0 := nr i
  have n1 := nr (i + 1)
  unfold Nr at *
  have btw : ∀ x y g s : Int, 0 ≤ t → t < s → g * s = y - x → (-1000 ≤ x ∧ x ≤ 1000) → (-1000 ≤ y ∧ y ≤ 1000) → -1000 ≤ x + g * t ∧ x + g * t ≤ 1000 := by
    intro x y g s h0 h1 hg hx hy
    rcases Int.le_total 0 g with q | q
    · have m1 := Int.mul_nonneg q h0
      have m2 := Int.mul_le_mul_of_nonneg_left (show t ≤ s by omega) q
      omega
    · have m1 := Int.mul_nonpos_of_nonpos_of_nonneg q h0
      have m2 := Int.mul_nonneg (show 0 ≤ -g by omega) (show 0 ≤ s - t by omega)
      have m3 : -g * (s - t) = g * t - g * s := by grind
      omega
  exact ⟨btw _ _ _ _ t0 t1 a1 n0.1 n1.1, btw _ _ _ _ t0 t1 a2 n0.2 n1.2⟩
theorem star_nums {L : Nat} {x e : List Pt} (hx : spec_pgFirst L x = some e) (h : Star (pt e) e.length) (hi : (e.length : Int) ≤ 10) (nr : ∀ i, Nr (pt e i)) (hL : 600000 < L) :
    ∃ l, spec_duAround L x = some (allp e e.length) ∧ spec_duNumbers L (allp e e.length) = some l ∧ l.length = (allp e e.length).length ∧ 0 < (l.length : Int) ∧ (l.length : Int) ≤ 400000 ∧ ∀ j, it l (j % (l.length : Int)) = nm (pt (allp e e.length)) j := by
  have n3 := h.n3
  have hn : e ≠ [] := by intro q; subst q; simp at n3
  have p := plc_of h
  have hr := p.ring h
  have e1 := spec_around_l0 (L := L) hn (by omega) (by omega) nr L 0 (by omega) (by omega)
  have z : allp e 0 = [] := rfl
  rw [z] at e1
  simp only [show ((0 : Nat) : Int) = 0 from rfl] at e1
  have hlen := allp_len nr e.length
  have hwn : allp e e.length ≠ [] := by
    intro q
    have := p.mono h (show 0 < (e.length : Int) by omega)
    rw [p.k0, p.kn, q] at this
    simp at this
  have hpos := List.length_pos_iff.2 hwn
  have hnr := around_nr h nr
  have hz : ∀ i, pt (allp e e.length) i ≠ ⟨0, 0⟩ := fun i q => by
    have := hr i
    rw [q] at this
    unfold cross at this
    simp at this
  obtain ⟨r1, _⟩ := ratios_eq (L := L) hwn (by omega) hL hz
  refine ⟨_, ?_, r1, by simp, by simp; omega, by simp; omega, fun j => ?_⟩
  · unfold spec_duAround
    simp only [hx, gbind_eq, Option.bind_some, ilen_mapep]
    exact e1
  · have q0 := Int.emod_nonneg j (show ((allp e e.length).length : Int) ≠ 0 by omega)
    have q1 := Int.emod_lt_of_pos j (show 0 < ((allp e e.length).length : Int) by omega)
    have hl : (((List.range (allp e e.length).length).map fun (j : Nat) => numb (allp e e.length) j).length : Int) = ((allp e e.length).length : Int) := by simp
    rw [hl, it_mapr q0 q1, Int.toNat_of_nonneg q0, numb_cross hnr (by
      have := hr (j % ((allp e e.length).length : Int) - 1)
      rw [show j % ((allp e e.length).length : Int) - 1 + 1 = j % ((allp e e.length).length : Int) by omega] at this
      exact this) (hr _)]
    unfold nm cross
    have c1 : pt (allp e e.length) (j % ((allp e e.length).length : Int) - 1) = pt (allp e e.length) (j - 1) := pt_congr (by rw [Int.emod_sub_emod])
    have c2 : pt (allp e e.length) (j % ((allp e e.length).length : Int) + 1) = pt (allp e e.length) (j + 1) := pt_congr (by rw [Int.emod_add_emod])
    rw [c1, c2]
theorem equal_any_l0 {L : Nat} {a b : List Pt} (hab : a.length = b.length) (hs : (a.length : Int) ≤ 100000) : ∀ (m i : Nat), i ≤ a.length → a.length - i < m →
    ∃ t, slices_Equal_impl_Peg_impl_Peg_l0 L a b m i = some t ∧ (t = true ↔ ∀ j : Int, (i : Int) ≤ j → j < (a.length : Int) → pt a j = pt b j) := by
  intro m
  induction m with
  | zero => intro i _ h; omega
  | succ m ih =>
    intro i hi hm
    rw [slices_Equal_impl_Peg_impl_Peg_l0]
    by_cases h : (i : Int) < (a.length : Int)
    · have wi : wr IntKind.i64 (iadd (i : Int) 1) = ((i + 1 : Nat) : Int) := by rw [iadd_eq, wr_s (by omega)]; omega
      obtain ⟨t, t1, t2⟩ := ih (i + 1) (by omega) (by omega)
      simp only [ilen_mapep, ilt_eq, h, decide_true, cond_true, lget_pt (show (0 : Int) ≤ i by omega) h, lget_pt (a := b) (show (0 : Int) ≤ i by omega) (by omega), gbind_eq, Option.bind_some, ieq_eq, wi]
      by_cases e : pt a i = pt b i
      · rw [pt_eq_iff.2 e]
        simp only [Bool.not_true, cond_false]
        refine ⟨t, t1, t2.trans ⟨fun hh j j0 j1 => ?_, fun hh j j0 j1 => hh j (by omega) j1⟩⟩
        by_cases hj : j = i
        · subst hj; exact e
        · exact hh j (by omega) j1
      · have : (decide ((pt a i).x = (pt b i).x) && decide ((pt a i).y = (pt b i).y)) = false := by
          cases hc : (decide ((pt a i).x = (pt b i).x) && decide ((pt a i).y = (pt b i).y)) with
          | false => rfl
          | true => exact absurd (pt_eq_iff.1 hc) e
        rw [this]
        simp only [Bool.not_false, cond_true]
        exact ⟨false, rfl, by simp; exact ⟨i, Int.le_refl _, h, e⟩⟩
    · simp only [ilen_mapep, ilt_eq, h, decide_false, cond_false]
      exact ⟨true, rfl, by simp; intro j j0 j1; omega⟩
theorem equal_any {L : Nat} {a b : List Pt} (hs : (a.length : Int) ≤ 100000) (hL : (a.length : Int) < L) : slices_Equal_impl_Peg_impl_Peg L a b = some (decide (a = b)) := by
  unfold slices_Equal_impl_Peg_impl_Peg
  simp only [ieq_eq, ilen_mapep]
  by_cases h : (a.length : Int) = (b.length : Int)
  · obtain ⟨t, t1, t2⟩ := equal_any_l0 (L := L) (a := a) (b := b) (by omega) hs L 0 (by omega) (by omega)
    simp only [h, decide_true, Bool.not_true, cond_false]
    have t1' : slices_Equal_impl_Peg_impl_Peg_l0 L a b L 0 = some t := t1
    rw [t1']
    congr 1
    by_cases e : a = b
    · subst e
      rw [t2.2 fun _ _ _ => rfl]; simp
    · cases t with
      | false => simp [e]
      | true => exact absurd (list_ext_pt (by omega) (t2.1 rfl)) e
  · have e : a ≠ b := by intro e; subst e; exact h rfl
    simp only [h, decide_false, Bool.not_false, cond_true, e]
theorem sameS_l0 {L : Nat} {a b : List Int} (hab : a.length = b.length) (hs : (a.length : Int) ≤ 1000000) : ∀ (m : Nat) (v : Int), 0 ≤ v → v ≤ a.length → (a.length : Int) - v < m →
    ∃ t, spec_l1Same_l0 L a b m v = some t ∧ (t = true ↔ ∀ i, v ≤ i → i < (a.length : Int) → it a i = it b i)
  | 0, _, _, _, h => by omega
  | m + 1, v, h0, hv, hm => by
    by_cases h : v < (a.length : Int)
    · obtain ⟨t, q1, q4⟩ := sameS_l0 (L := L) hab hs m (v + 1) (by omega) (by omega) (by omega)
      have hb : v < (b.length : Int) := by omega
      simp only [spec_l1Same_l0, ilt_eq, ilen_mapI, h, decide_true, cond_true, gbind_eq, lget_it h0 h, lget_it h0 hb, Option.bind_some, ieq_eq, iadd_eq, wr_id (n := v + 1) (by omega)]
      by_cases e : it a v = it b v
      · simp only [e, decide_true, Bool.not_true, cond_false]
        refine ⟨t, q1, q4.trans ⟨fun ht i i0 i1 => ?_, fun ht i i0 i1 => ht i (by omega) i1⟩⟩
        by_cases hi : i = v
        · subst hi; exact e
        · exact ht i (by omega) i1
      · simp only [e, decide_false, Bool.not_false, cond_true]
        exact ⟨false, rfl, by simp; exact ⟨v, Int.le_refl _, h, e⟩⟩
    · simp only [spec_l1Same_l0, ilt_eq, ilen_mapI, h, decide_false, cond_false]
      exact ⟨true, rfl, by simp; intro i i0 i1; omega⟩
theorem sameS {L : Nat} {a b : List Int} (hs : (a.length : Int) ≤ 1000000) (hL : (a.length : Int) < L) : spec_l1Same L a b = some (decide (a = b)) := by
  unfold spec_l1Same
  simp only [ieq_eq, ilen_mapI]
  by_cases h : (a.length : Int) = (b.length : Int)
  · obtain ⟨t, q1, q4⟩ := sameS_l0 (L := L) (a := a) (b := b) (by omega) hs L 0 (by omega) (by omega) (by omega)
    have e : t = decide (a = b) := by
      by_cases k : a = b
      · rw [q4.2 fun i _ _ => by rw [k]]; simp [k]
      · cases t with
        | false => simp [k]
        | true => exact absurd (list_ext_it (by omega) fun i i0 i1 => q4.1 rfl i i0 i1) k
    subst e
    simp only [h, decide_true, Bool.not_true, cond_false, q1]
  · have k : a ≠ b := by intro k; subst k; exact h rfl
    simp only [h, decide_false, Bool.not_false, cond_true, k]
theorem stars_least {L : Nat} {x y c d : List Pt} (hx : spec_pgFirst L x = some c) (hy : spec_pgFirst L y = some d) (hl : d.length = c.length) (hc : Star (pt c) c.length) (hd : Star (pt d) d.length) (hi : (c.length : Int) ≤ 10) (nc : ∀ i, Nr (pt c i)) (nd : ∀ i, Nr (pt d i)) (hL : 600000 < L) :
    ∃ b : Bool, spec_duSame L x y = some b ∧ (b = true ↔ ∃ g s α β γ δ : Int, (s = 1 ∨ s = -1) ∧ (α * δ - β * γ = 1 ∨ α * δ - β * γ = -1) ∧ ∀ i, pt d (g + i * s) = lin α β γ δ (pt c i)) := by
  obtain ⟨l, a1, a2, a3, a4, a5, a6⟩ := star_nums (L := L) hx hc hi nc hL
  obtain ⟨l', b1, b2, b3, b4, b5, b6⟩ := star_nums (L := L) hy hd (by omega) nd hL
  have p := plc_of hc
  have q := plc_of hd
  by_cases hN : l'.length = l.length
  · obtain ⟨r, r', r1, r2, r3, r4, r5⟩ := least_same (L := L) hN a4 a5 hL
    refine ⟨decide (r = r'), ?_, ?_⟩
    · unfold spec_duSame
      simp only [a1, a2, r1, b1, b2, r2, sameS (L := L) (a := r) (b := r') (by omega) (by omega), gbind_eq, Option.bind_some]
    · rw [decide_eq_true_iff, r5]
      rw [← a3] at p
      rw [← b3, hN] at q
      constructor
      · rintro ⟨k, s, hs, hj⟩
        obtain ⟨_, g, α, β, γ, δ, h1, h2⟩ := stars_same hc hd p q (k := k) hs (fun i => by
          have := hj i
          rw [← hN] at this
          rw [b6] at this
          rw [hN, a6] at this
          exact this)
        exact ⟨g, s, α, β, γ, δ, hs, h1, h2⟩
      · rintro ⟨g, s, α, β, γ, δ, hs, h1, h2⟩
        have := stars_img hc hd p q hs h1 h2
        refine ⟨kZ d g, s, hs, fun j => ?_⟩
        rw [a6, this j, ← b6, hN]
  · have r := duLeast_eq (L := L) a4 a5 hL
    have r' := duLeast_eq (L := L) b4 b5 hL
    obtain ⟨r, r1, r2, _⟩ := r
    obtain ⟨r', r1', r2', _⟩ := r'
    have hne : r ≠ r' := fun e => hN (by rw [← r2', ← r2, e])
    refine ⟨false, ?_, ?_⟩
    · unfold spec_duSame
      simp only [a1, a2, r1, b1, b2, r1', sameS (L := L) (a := r) (b := r') (by omega) (by omega), gbind_eq, Option.bind_some, hne, decide_false]
    · constructor
      · intro h; cases h
      · rintro ⟨g, s, α, β, γ, δ, hs, h1, h2⟩
        exfalso
        have hst : ∀ i, step (pt d (g + i * s)) (pt d (g + (i + 1) * s)) = stp (pt c) i := fun i => by
          rw [h2, h2, lin_aff, lin_aff, step_aff h1]; rfl
        have hK : ∀ i, kZ d (g + i * s) = kZ d g + kZ c i * s := by
          have nx : ∀ i, kZ d (g + (i + 1) * s) = kZ d (g + i * s) + stp (pt c) i * s := fun i => by
            have := hst i
            rcases hs with rfl | rfl
            · have a := q.next (g + i * 1)
              unfold stp at a
              rw [show g + i * 1 + 1 = g + (i + 1) * 1 by omega, this] at a
              omega
            · have a := q.next (g + (i + 1) * -1)
              unfold stp at a
              rw [show g + (i + 1) * -1 + 1 = g + i * -1 by omega, step_sym, this] at a
              omega
          refine int_both ?_ (fun i hi => ?_) fun i hi => ?_
          · rw [p.k0]; simp
          · rw [nx, hi, p.next, Int.add_mul]; omega
          · rw [nx, p.next, Int.add_mul] at hi; omega
        have e1 := hK c.length
        rw [p.kn] at e1
        have e2 := q.per hd g
        have e3 := q.per hd (g - d.length)
        rw [show g - (d.length : Int) + d.length = g by omega] at e3
        rw [show (d.length : Int) = (c.length : Int) by omega] at e2 e3
        rcases hs with rfl | rfl
        · rw [Int.mul_one, Int.mul_one] at e1; omega
        · rw [show g + (c.length : Int) * -1 = g - c.length by omega] at e1; omega
theorem isOwnDual_eq {L : Nat} {a : List Pt} (hL : 600000 < L) : ∃ r, spec_IsOwnDual L a = some r ∧ impl_IsOwnDual L a = some r := by
  obtain ⟨b, h1, h2, _⟩ := one_eq (L := L) (a := a) (by omega)
  unfold spec_IsOwnDual impl_IsOwnDual
  simp only [h1, h2, gbind_eq, Option.bind_some]
  cases b with
  | false => exact ⟨(false, false), rfl, rfl⟩
  | true =>
    obtain ⟨d, d1, d2, _, k, c, r, hc, hsg, hf, o, g, hd⟩ := dual_eq hL h1
    have lo := o.lp.n3
    have hi := o.hi
    have cn : c ≠ [] := by intro e; subst e; simp at lo
    have hal : a.length = c.length := by rw [hc, tour_len]
    obtain ⟨q1, q2, q3, q4⟩ := dlist_ok o
    have sc := on1_star o
    have sd0 : Star (pt (dlist c)) (dlist c).length := by rw [dlist_len]; exact dual_star o
    have sd : Star (pt d) d.length := by rw [hd]; exact tour_star sd0 r
    have dl : d.length = c.length := by rw [hd, tour_len, dlist_len]
    have dpt' : ∀ i, pt d i = pt (dlist c) (r + i) := fun i => by rw [hd, pt_tour' q1, Int.mul_one]
    have nd : ∀ i, Nr (pt d i) := fun i => by rw [dpt']; exact q2 _
    have nc : ∀ i, Nr (pt c i) := fun i => (o.isIn i).nr
    have dd' : ∀ i k, 0 ≤ k → k < i → i < (d.length : Int) → pt d k ≠ pt d i := fun i k k0 ki i1 e => by
      rw [dpt', dpt'] at e
      have := pt_inj q1 (by rw [dlist_len]; exact q4) e
      rw [dlist_len] at this
      rw [dl] at i1
      have h2 : (r + i - (r + k)) % (c.length : Int) = 0 := Int.emod_eq_emod_iff_emod_sub_eq_zero.1 this.symm
      have h3 := Int.le_of_dvd (by omega) (Int.dvd_of_emod_eq_zero h2)
      omega
    obtain ⟨k', hfd⟩ := star_first (L := L) sd (by omega) nd dd' (by omega)
    have dn : d ≠ [] := by intro e; rw [e] at dl; simp at dl; omega
    have sd2 := tour_star sd k'
    have nd2 : ∀ i, Nr (pt (tour d k' 1 d.length) i) := fun i => by rw [pt_tour' dn]; exact nd _
    obtain ⟨t, t1, t2⟩ := stars_least (L := L) hf hfd (by rw [tour_len, dl]) sc sd2 hi nc nd2 hL
    have fa := g.fa
    have fd := star_fa sd (by omega) nd
    obtain ⟨f, _, f1, f2⟩ := kind_eq (L := L) fa (by omega)
    obtain ⟨f', _, f1', f2'⟩ := kind_eq (L := L) fd (by omega)
    have kc : IsKind L c f := by rw [hc]; exact kind_tour fa.ne hsg f2
    have fc := star_fa sc (by omega) nc
    have kd2 : IsKind L (tour d k' 1 d.length) f' := kind_tour fd.ne (.inl rfl) f2'
    have fd2 := star_fa sd2 (by rw [tour_len]; omega) nd2
    have hff : f = f' ↔ t = true := by
      rw [t2]
      constructor
      · intro e
        subst e
        exact kinds_lin (L := L) (by rw [tour_len, dl]) sc sd2 (by omega) nc nd2 (by omega) kc kd2
      · rintro ⟨g', s, α, β, γ, δ, hs, hdet, hh⟩
        exact lin_kinds (L := L) (by rw [tour_len, dl]) fc fd2 (by omega) kc kd2 hs hdet hh
    have fl := f2.len fa (by omega)
    have eq := equal_any (L := L) (a := f) (b := f') (by omega) (by omega)
    refine ⟨(t, true), ?_, ?_⟩
    · simp only [Bool.not_true, cond_false, d1, t1, Option.bind_some]
    · simp only [Bool.not_true, cond_false, d2, f1, f1', eq, Option.bind_some]
      congr 2
      cases t with
      | true => exact decide_eq_true (hff.2 rfl)
      | false => exact decide_eq_false fun e => by have := hff.1 e; cases this
theorem isOwnDual_law (a : List Pt) (hmax : (a.length : Int) ≤ 9223372036854775807) : ∃ L, laws_FnExactIsOwnDual L a = some true := by
  refine ⟨2000000, ?_⟩
  unfold laws_FnExactIsOwnDual laws_szPegS
  simp only [ilen_mapep, isub_eq, ilt_eq]
  by_cases hl : (a.length : Int) ≤ 1048576
  · rw [wr_id (by omega)]
    have h1 : ¬ (1048576 - (a.length : Int) < 0) := by omega
    obtain ⟨r, r1, r2⟩ := isOwnDual_eq (L := 2000000) (a := a) (by omega)
    simp only [h1, decide_false, cond_false, gbind_eq, Option.bind_some, toPegS_eq (L := 2000000) (a := a) (by omega) (by omega), r1, r2, eqPegS_eq (L := 2000000) (a := a) (by omega) (by omega), beqb_eq, beq_self_eq_true, Bool.not_true]
  · have hw : wr .i64 (1048576 - (a.length : Int)) < 0 := by
      rw [wr_id (by omega)]; omega
    simp only [hw, decide_true, cond_true, gbind_eq, Option.bind_some]
    rfl
end Go.AM
