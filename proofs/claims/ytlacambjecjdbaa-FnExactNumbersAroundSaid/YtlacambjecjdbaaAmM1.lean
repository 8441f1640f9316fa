import Derived.Test.YtlacambjecjdbaaAmM0
set_option linter.unusedVariables false
set_option linter.unusedSimpArgs false
set_option linter.unnecessarySimpa false
/-! The first one of all frames. -/
namespace Go.AM
set_option linter.unusedVariables false

/-- one list of n points comes before another one -/
def Lx (n : Int) (a b : List Pt) : Prop := ∃ i, 0 ≤ i ∧ i < n ∧ (∀ j, 0 ≤ j → j < i → pt a j = pt b j) ∧ Less (pt a i) (pt b i)

theorem Lx.trans {n : Int} {a b c : List Pt} (h : Lx n a b) (k : Lx n b c) : Lx n a c := by
  obtain ⟨i, i0, i1, i2, i3⟩ := h
  obtain ⟨j, j0, j1, j2, j3⟩ := k
  rcases Int.lt_trichotomy i j with h | rfl | h
  · exact ⟨i, i0, i1, fun q q0 q1 => (i2 q q0 q1).trans (j2 q q0 (by omega)), by rw [← j2 i i0 h]; exact i3⟩
  · exact ⟨i, i0, i1, fun q q0 q1 => (i2 q q0 q1).trans (j2 q q0 q1), i3.trans j3⟩
  · exact ⟨j, j0, j1, fun q q0 q1 => (i2 q q0 (by omega)).trans (j2 q q0 q1), by rw [i2 j j0 h]; exact j3⟩

theorem Lx.irrefl {n : Int} {a : List Pt} : ¬ Lx n a a := fun ⟨i, _, _, _, h⟩ => Less.irrefl _ h

theorem list_ext_pt {a b : List Pt} (hl : a.length = b.length) (h : ∀ i, 0 ≤ i → i < (a.length : Int) → pt a i = pt b i) : a = b := by
  apply List.ext_getElem hl
  intro i h1 h2
  have k := h i (by omega) (by omega)
  have e1 := pt_get (a := a) (i := i) (by omega) (by omega)
  have e2 := pt_get (a := b) (i := i) (by omega) (by omega)
  rw [Int.toNat_natCast] at e1 e2
  have f1 := List.getElem?_eq_getElem h1
  have f2 := List.getElem?_eq_getElem h2
  rw [f1] at e1; rw [f2] at e2
  simp only [Option.some.injEq] at e1 e2
  rw [e1, e2, k]

theorem Lx.eq {n : Int} {a b : List Pt} (ha : (a.length : Int) = n) (hb : (b.length : Int) = n) (h : ¬ Lx n a b) (k : ¬ Lx n b a) : a = b := by
  refine list_ext_pt (by omega) ?_
  have key : ∀ m : Nat, ∀ i : Int, 0 ≤ i → i < m → i < n → pt a i = pt b i := by
    intro m
    induction m with
    | zero => intro i _ h; omega
    | succ m ih =>
      intro i i0 i1 i2
      have hj : ∀ j, 0 ≤ j → j < i → pt a j = pt b j := fun j j0 j1 => ih j j0 (by omega) (by omega)
      exact not_less_eq (fun q => h ⟨i, i0, i2, hj, q⟩) (fun q => k ⟨i, i0, i2, fun j j0 j1 => (hj j j0 j1).symm, q⟩)
  intro i i0 i1
  exact key (i.toNat + 1) i i0 (by omega) (by omega)

theorem spec_mvBefore_l0_eq {L : Nat} {n : Int} {a b : List Pt} (ha : (a.length : Int) = n) (hb : (b.length : Int) = n) (hs : n ≤ 1000000) : ∀ (m : Nat) (v : Int), 0 ≤ v → v ≤ n → n - v < m → (∀ j, 0 ≤ j → j < v → pt a j = pt b j) →
    ∃ t, spec_mvBefore_l0 L a b m v = some t ∧ (t = true ↔ Lx n a b)
  | 0, _, _, _, h, _ => by omega
  | m + 1, v, h0, hv, hm, he => by
    by_cases hvn : v < n
    · have g1 := lget_pt (a := a) h0 (by omega)
      have g2 := lget_pt (a := b) h0 (by omega)
      simp only [spec_mvBefore_l0, ilt_eq, ilen_mapep, ha, hvn, decide_true, cond_true, gbind_eq, g1, g2, Option.bind_some, ieq_eq]
      by_cases hp : pt a v = pt b v
      · rw [pt_eq_iff.2 hp]
        simp only [Bool.not_true, cond_false, iadd_eq]
        rw [wr_id (n := v + 1) (by omega)]
        exact spec_mvBefore_l0_eq ha hb hs m (v + 1) (by omega) (by omega) (by omega) fun j j0 j1 => by
          by_cases hj : j = v
          · subst hj; exact hp
          · exact he j j0 (by omega)
      · have : (decide ((pt a v).x = (pt b v).x) && decide ((pt a v).y = (pt b v).y)) = false := by
          cases hc : (decide ((pt a v).x = (pt b v).x) && decide ((pt a v).y = (pt b v).y)) with
          | false => rfl
          | true => exact absurd (pt_eq_iff.1 hc) hp
        rw [this]
        simp only [Bool.not_false, cond_true, spec_pgLess_eq, Option.bind_some]
        refine ⟨_, rfl, ?_⟩
        rw [decide_eq_true_iff]
        constructor
        · intro h; exact ⟨v, h0, hvn, he, h⟩
        · rintro ⟨i, i0, i1, i2, i3⟩
          rcases Int.lt_trichotomy i v with h | rfl | h
          · rw [he i i0 h] at i3; exact absurd i3 (Less.irrefl _)
          · exact i3
          · exact absurd (i2 v h0 h) hp
    · simp only [spec_mvBefore_l0, ilt_eq, ilen_mapep, ha, hvn, decide_false, cond_false]
      refine ⟨false, rfl, by simp; rintro ⟨i, i0, i1, i2, i3⟩; rw [he i i0 (by omega)] at i3; exact Less.irrefl _ i3⟩

theorem spec_mvBefore_eq {L : Nat} {n : Int} {a b : List Pt} (ha : (a.length : Int) = n) (hb : (b.length : Int) = n) (hs : n ≤ 1000000) (hL : n < L) : ∃ t, spec_mvBefore L a b = some t ∧ (t = true ↔ Lx n a b) := by
  unfold spec_mvBefore
  exact spec_mvBefore_l0_eq ha hb hs L 0 (by omega) (by omega) (by omega) fun j _ _ => by omega

def cmpP (p q : Pt) : Int := if p.x < q.x then -1 else if q.x < p.x then 1 else cmpI p.y q.y

theorem cmpP_lt {p q : Pt} : cmpP p q < 0 ↔ Less p q := by
  unfold cmpP cmpI Less
  split
  · simp; omega
  · split
    · simp; omega
    · split
      · simp; omega
      · split <;> simp <;> omega

theorem cmpP_zero {p q : Pt} : cmpP p q = 0 ↔ p = q := by
  obtain ⟨a, b⟩ := p; obtain ⟨c, d⟩ := q
  unfold cmpP cmpI
  simp only [Pt.mk.injEq]
  split
  · simp; omega
  · split
    · simp; omega
    · split
      · simp; omega
      · split <;> simp <;> omega

theorem impl_comparePegs_eq {L : Nat} {p q : Pt} (hL : 5 < L) : impl_comparePegs L p.x p.y q.x q.y = some (cmpP p q) := by
  unfold impl_comparePegs cmp_Or_int
  simp only [gbind_eq, cmp_eq, Option.bind_some]
  obtain ⟨m, rfl⟩ : ∃ m, L = m + 3 := ⟨L - 3, by omega⟩
  have hl : ilen (List.map eI [cmpI p.x q.x, cmpI p.y q.y]) = 2 := by rw [ilen_eq]; rfl
  have g0 : lget [cmpI p.x q.x, cmpI p.y q.y] 0 = some (cmpI p.x q.x) := by rw [lget_eq]; rfl
  have g1 : lget [cmpI p.x q.x, cmpI p.y q.y] 1 = some (cmpI p.y q.y) := by rw [lget_eq]; rfl
  have w1 : wr .i64 (0 + 1) = 1 := wr_id (by decide)
  have w2 : wr .i64 (1 + 1) = 2 := wr_id (by decide)
  simp only [cmp_Or_int_l0, hl, ilt_eq, gbind_eq, g0, g1, iadd_eq, w1, w2, ieq_eq, Option.bind_some, show ((0 : Int) < 2) = True by simp, show ((1 : Int) < 2) = True by simp, show ((2 : Int) < 2) = False by simp, decide_true, decide_false, cond_true, cond_false]
  unfold cmpP cmpI
  by_cases h1 : p.x < q.x
  · simp [h1]
  · by_cases h2 : q.x < p.x
    · simp [h1, h2]
    · by_cases h3 : p.y < q.y
      · simp [h1, h2, h3]
      · by_cases h4 : q.y < p.y <;> simp [h1, h2, h3, h4]

theorem impl_compareL_l0_eq {L : Nat} {n : Int} {a b : List Pt} (ha : (a.length : Int) = n) (hb : (b.length : Int) = n) (hs : n ≤ 1000000) (hL : 5 < L) : ∀ (m : Nat) (v : Int), 0 ≤ v → v ≤ n → n - v < m → (∀ j, 0 ≤ j → j < v → pt a j = pt b j) →
    ∃ t, slices_CompareFunc_impl_Peg_impl_Peg_impl_Peg_impl_Peg_l0 L a b m v = some t ∧ (t < 0 ↔ Lx n a b)
  | 0, _, _, _, h, _ => by omega
  | m + 1, v, h0, hv, hm, he => by
    by_cases hvn : v < n
    · have g1 := lget_pt (a := a) h0 (by omega)
      have g2 := lget_pt (a := b) h0 (by omega)
      simp only [slices_CompareFunc_impl_Peg_impl_Peg_impl_Peg_impl_Peg_l0, ilt_eq, ile_eq, ilen_mapep, ha, hb, hvn, show ¬ n ≤ v by omega, decide_true, decide_false, cond_true, cond_false, gbind_eq, g1, g2, Option.bind_some, ieq_eq, impl_comparePegs_eq hL]
      by_cases hp : pt a v = pt b v
      · simp only [cmpP_zero.2 hp, decide_true, Bool.not_true, cond_false, iadd_eq]
        rw [wr_id (n := v + 1) (by omega)]
        exact impl_compareL_l0_eq ha hb hs hL m (v + 1) (by omega) (by omega) (by omega) fun j j0 j1 => by
          by_cases hj : j = v
          · subst hj; exact hp
          · exact he j j0 (by omega)
      · have hz : ¬ cmpP (pt a v) (pt b v) = 0 := fun e => hp (cmpP_zero.1 e)
        simp only [hz, decide_false, Bool.not_false, cond_true]
        refine ⟨_, rfl, cmpP_lt.trans ?_⟩
        constructor
        · intro h; exact ⟨v, h0, hvn, he, h⟩
        · rintro ⟨i, i0, i1, i2, i3⟩
          rcases Int.lt_trichotomy i v with h | rfl | h
          · rw [he i i0 h] at i3; exact absurd i3 (Less.irrefl _)
          · exact i3
          · exact absurd (i2 v h0 h) hp
    · simp only [slices_CompareFunc_impl_Peg_impl_Peg_impl_Peg_impl_Peg_l0, ilt_eq, ilen_mapep, ha, hb, hvn, Int.lt_irrefl, decide_false, cond_false]
      refine ⟨0, rfl, by simp; rintro ⟨i, i0, i1, i2, i3⟩; rw [he i i0 (by omega)] at i3; exact Less.irrefl _ i3⟩

theorem impl_comparePolygons_eq {L : Nat} {n : Int} {a b : List Pt} (ha : (a.length : Int) = n) (hb : (b.length : Int) = n) (hs : n ≤ 1000000) (hL : n + 5 < L) : ∃ t, impl_comparePolygons L a b = some t ∧ (t < 0 ↔ Lx n a b) := by
  obtain ⟨t, h1, h2⟩ := impl_compareL_l0_eq ha hb hs (show 5 < L by omega) L 0 (by omega) (by omega) (by omega) fun j _ _ => by omega
  refine ⟨t, ?_, h2⟩
  unfold impl_comparePolygons slices_CompareFunc_impl_Peg_impl_Peg_impl_Peg_impl_Peg
  rw [h1]; simp only [gbind_eq, Option.bind_some]

/-- what a polygon's frames ask for -/
structure Fa (a : List Pt) : Prop where
  lo : 3 ≤ (a.length : Int)
  hi : (a.length : Int) ≤ 1000
  nr : ∀ i, Nr (pt a i)
  turn : ∀ i, turn (pt a i) (pt a (i + 1)) (pt a (i + 2)) ≠ 0

theorem turn_rev (a b c : Pt) : turn c b a = - turn a b c := by unfold turn; grind

theorem Fa.ne {a : List Pt} (h : Fa a) : a ≠ [] := by intro e; subst e; have := h.lo; simp at this

theorem Fa.tour {a : List Pt} (h : Fa a) {k s : Int} (hs : s = 1 ∨ s = -1) : Fa (tour a k s a.length) := by
  have hl := h.lo
  have hpt : ∀ i, pt (AM.tour a k s a.length) i = pt a (k + (i % (a.length : Int)) * s) := fun i => pt_tour h.ne
  refine ⟨by rw [tour_len]; exact h.lo, by rw [tour_len]; exact h.hi, fun i => by rw [hpt]; exact h.nr _, fun i => ?_⟩
  have hm : ∀ i j : Int, pt (AM.tour a k s a.length) (i + j) = pt a (k + (i % (a.length : Int) + j) * s) := fun i j => by
    rw [hpt]
    apply pt_congr
    have e : (i + j) % (a.length : Int) = (i % a.length + j) % a.length := by rw [Int.emod_add_emod]
    rw [e]
    rw [Int.add_emod, Int.mul_emod, Int.emod_emod_of_dvd _ (Int.dvd_refl _), ← Int.mul_emod, ← Int.add_emod]
  have h0 := hm i 0
  rw [Int.add_zero, Int.add_zero] at h0
  rw [h0, hm i 1, hm i 2]
  rcases hs with rfl | rfl
  · have := h.turn (k + (i % (a.length : Int)) * 1)
    rwa [show k + (i % (a.length : Int)) * 1 + 1 = k + (i % (a.length : Int) + 1) * 1 by omega, show k + (i % (a.length : Int)) * 1 + 2 = k + (i % (a.length : Int) + 2) * 1 by omega] at this
  · have := h.turn (k + (i % (a.length : Int) + 2) * -1)
    rw [show k + (i % (a.length : Int) + 2) * -1 + 1 = k + (i % (a.length : Int) + 1) * -1 by omega, show k + (i % (a.length : Int) + 2) * -1 + 2 = k + (i % (a.length : Int)) * -1 by omega, turn_rev] at this
    omega

/-- the frame of a told polygon -/
noncomputable def FR (L : Nat) (a : List Pt) (k s : Int) : List Pt := (spec_mvFrame L (tour a k s a.length)).getD []

theorem FR_eq {L : Nat} {a : List Pt} (h : Fa a) {k s : Int} (hs : s = 1 ∨ s = -1) (hL : 5000 < L) :
    spec_mvFrame L (tour a k s a.length) = some (FR L a k s) ∧ impl_frame L (tour a k s a.length) = some (FR L a k s) ∧ ((FR L a k s).length = a.length) ∧
    ∃ A B C D g b d, FR L a k s = (tour a k s a.length).map (brg A B C D (pt (tour a k s a.length) 0)) ∧ Fr (tour a k s a.length) A B C D g b d := by
  have ht := h.tour (k := k) hs
  obtain ⟨A, B, C, D, g, b, d, h1, h2, h3⟩ := frame_eq (L := L) ht.lo ht.hi ht.nr (by have := ht.turn 0; simpa using this) hL
  have e : FR L a k s = (tour a k s a.length).map (brg A B C D (pt (tour a k s a.length) 0)) := by unfold FR; rw [h1]; rfl
  exact ⟨by rw [h1, e], by rw [h2, e], by rw [e, List.length_map, tour_len], A, B, C, D, g, b, d, e, h3⟩

theorem tour_mod {a : List Pt} {k k' s : Int} (h : k % (a.length : Int) = k' % (a.length : Int)) (n : Nat) : tour a k s n = tour a k' s n :=
  tour_ext fun j _ => pt_congr (by rw [Int.add_emod, h, ← Int.add_emod])

theorem FR_mod {L : Nat} {a : List Pt} {k k' s : Int} (h : k % (a.length : Int) = k' % (a.length : Int)) : FR L a k s = FR L a k' s := by unfold FR; rw [tour_mod h]

theorem tour_id {a : List Pt} (hn : a ≠ []) : tour a 0 1 a.length = a := by
  refine list_ext_pt (tour_len _ _ _ _) fun i h0 h1 => ?_
  rw [pt_tour hn]
  rw [tour_len] at h1
  rw [Int.emod_eq_of_lt h0 h1]
  congr 1; omega

theorem tour_back {a : List Pt} (hn : a ≠ []) (k : Int) : tour (tour a 0 (-1) a.length) k 1 a.length = tour a (-k) (-1) a.length := by
  have hl : 0 < (a.length : Int) := by have := List.length_pos_iff.2 hn; omega
  refine tour_ext fun j hj => ?_
  rw [pt_tour hn]
  apply pt_congr
  rw [Int.zero_add, Int.mul_neg, Int.mul_one, Int.mul_one]
  have h1 := Int.emod_emod_of_dvd (k + (j : Int)) (Int.dvd_refl (a.length : Int))
  have h2 : (-((k + (j : Int)) % a.length)) % (a.length : Int) = (-(k + (j : Int))) % (a.length : Int) := by
    have := Int.mul_ediv_add_emod (k + (j : Int)) a.length
    conv => rhs; rw [← this]
    rw [Int.neg_add, ← Int.mul_neg, Int.mul_add_emod_self_left]
  rw [h2]
  congr 1; omega
end Go.AM

/-! Kinds: both programs tell the same. -/
namespace Go.AM
set_option linter.unusedVariables false

theorem wr_i {v : Int} (h : 0 ≤ v ∧ v ≤ 1000000) : wr IntKind.i64 (v + 1) = v + 1 := wr_id (by omega)

/-- all frames of a list told on -/
noncomputable def frs (L : Nat) (p : List Pt) (n : Nat) : List (List Pt) := (List.range n).map fun (j : Nat) => FR L p (j : Int) 1
theorem frs_succ (L : Nat) (p : List Pt) (n : Nat) : frs L p (n + 1) = frs L p n ++ [FR L p (n : Int) 1] := by simp [frs, List.range_succ]
theorem frs_len (L : Nat) (p : List Pt) (n : Nat) : (frs L p n).length = n := by simp [frs]

theorem mvFrames_l1 {L : Nat} {κ0 : Int → Int → List (List Pt) → List (List Pt) → Option (List (List Pt))} {v11 v12 : Int} {w1 : List (List Pt)} {p : List Pt} {w : List (List Pt)} (hp : Fa p) (hL : 5000 < L) (h12 : 0 ≤ v12 ∧ v12 ≤ 1000) (hw : w.length ≤ 10000) :
    ∀ (m n : Nat), n ≤ p.length → p.length - n < m → spec_mvFrames_l1 L κ0 v11 v12 w1 p m (n : Int) (w ++ frs L p n) = κ0 v11 (v12 + 1) (w ++ frs L p p.length) w1
  | 0, _, _, h => by omega
  | m + 1, n, hn, hm => by
    have hi := hp.hi
    by_cases h : n < p.length
    · have c1 : lcat (lcat [] (lsub p (n : Int) (p.length : Int))) (lsub p 0 (n : Int)) = tour p (n : Int) 1 p.length := by
        rw [← rot_eq (c := p) (k := (n : Int)) (by omega) (by omega)]
        simp only [lcat_eq, lsub_eq, List.nil_append, Int.toNat_natCast]
        rw [List.take_of_length_le (by simp)]
        simp
      have f1 : fits (iadd (ilen ([] : List AV)) (ilen (lsub (List.map ep p) (n : Int) (p.length : Int)))) 16 = true := by
        refine fits_s ?_
        simp only [iadd_eq, ilen_eq, lsub_eq, List.length_take, List.length_drop, List.length_map, List.length_nil]
        omega
      have f2 : fits (iadd (ilen (lcat [] (lsub (List.map ep p) (n : Int) (p.length : Int)))) (ilen (lsub (List.map ep p) 0 (n : Int)))) 16 = true := by
        refine fits_s ?_
        simp only [iadd_eq, ilen_eq, lcat_eq, lsub_eq, List.length_append, List.length_take, List.length_drop, List.length_map, List.length_nil]
        omega
      have f3 : ∀ x : AV, fits (iadd (ilen (List.map eLP (w ++ frs L p n))) (ilen [x])) 24 = true := fun x => by
        refine fits_s ?_
        simp only [iadd_eq, ilen_eq, List.length_map, List.length_append, frs_len, List.length_cons, List.length_nil]
        omega
      obtain ⟨e1, _⟩ := FR_eq (L := L) hp (k := (n : Int)) (.inl rfl) hL
      have b1 : ((n : Int) < (p.length : Int)) = True := by simp; omega
      have b2 : ((0 : Int) ≤ (n : Int)) = True := by simp
      have b3 : ((n : Int) ≤ (p.length : Int)) = True := by simp; omega
      have wv : wr IntKind.i64 (iadd (n : Int) 1) = ((n + 1 : Nat) : Int) := by simp only [iadd_eq]; rw [wr_i (by omega)]; rfl
      simp only [spec_mvFrames_l1, ilt_eq, ile_eq, ilen_mapep, b1, b2, b3, decide_true, Bool.and_self, cond_true, f1, f2, c1, e1, gbind_eq, Option.bind_some, f3, wv]
      have e : lcat (w ++ frs L p n) [FR L p (n : Int) 1] = w ++ frs L p (n + 1) := by rw [lcat_eq, frs_succ, List.append_assoc]
      rw [e]
      exact mvFrames_l1 hp hL h12 hw m (n + 1) (by omega) (by omega)
    · have e : n = p.length := by omega
      subst e
      simp only [spec_mvFrames_l1, ilt_eq, ilen_mapep, Int.lt_irrefl, decide_false, cond_false, iadd_eq, wr_i (v := v12) (by omega)]

theorem mvFrames_eq {L : Nat} {a : List Pt} (ha : Fa a) (hL : 5000 < L) : spec_mvFrames L a = some (frs L a a.length ++ frs L (tour a 0 (-1) a.length) a.length) := by
  have hi := ha.hi
  have hb := ha.tour (k := 0) (s := -1) (.inr rfl)
  unfold spec_mvFrames
  rw [spec_pgBack_eq ha.ne (by omega) (by omega)]
  simp only [gbind_eq, Option.bind_some]
  have h2 : ilen [AV.lst false false 2 (List.map ep a), AV.lst false false 2 (List.map ep (tour a 0 (-1) a.length))] = 2 := by rw [ilen_eq]; rfl
  have h3 : ilen (List.map eLP (a :: tour a 0 (-1) a.length :: [])) = 2 := by rw [ilen_eq]; rfl
  rw [h2]
  obtain ⟨m, rfl⟩ : ∃ m, L = m + 3 := ⟨L - 3, by omega⟩
  have g0 : lget (a :: tour a 0 (-1) a.length :: []) 0 = some a := by rw [lget_eq]; rfl
  have g1 : lget (a :: tour a 0 (-1) a.length :: []) 1 = some (tour a 0 (-1) a.length) := by rw [lget_eq]; rfl
  have q1 := fun κ0 => mvFrames_l1 (κ0 := κ0) (v11 := 2) (v12 := 0) (w1 := a :: tour a 0 (-1) a.length :: []) (w := []) ha hL (by omega) (by simp) (m + 3) 0 (by omega) (by omega)
  have q2 := fun κ0 => mvFrames_l1 (κ0 := κ0) (v11 := 2) (v12 := 1) (w1 := a :: tour a 0 (-1) a.length :: []) (w := frs (m + 3) a a.length) hb hL (by omega) (by rw [frs_len]; omega) (m + 3) 0 (by omega) (by rw [tour_len]; omega)
  have z : ∀ p, frs (m + 3) p 0 = [] := fun p => rfl
  simp only [z, List.append_nil, List.nil_append, tour_len, show ((0 : Nat) : Int) = 0 from rfl] at q1 q2
  simp only [spec_mvFrames_l0, ilt_eq, ile_eq, h3, show ((0 : Int) < 2) = True by simp, show ((1 : Int) < 2) = True by simp, show ((0 : Int) ≤ 0) = True by simp, show ((0 : Int) ≤ 1) = True by simp, decide_true, Bool.and_self, cond_true, gbind_eq, g0, g1, Option.bind_some, q1, q2,
    show ((0 : Int) + 1) = 1 by rfl, show ((1 : Int) + 1) = 2 by rfl, Int.lt_irrefl, decide_false, cond_false]

theorem mvKind_l0 {L : Nat} {n : Int} {r : List (List Pt)} (hn : 0 < n) (hs : n ≤ 10000) (hr : (r.length : Int) ≤ 100000) (hlen : ∀ f ∈ r, (f.length : Int) = n) (hL : n < L) :
    ∀ (m v : Nat) (best : List Pt), v ≤ r.length → r.length - v < m → ((v = 0 ∧ best = []) ∨ (best ∈ r ∧ ∀ j f, j < v → r[j]? = some f → ¬ Lx n f best)) → r ≠ [] →
      ∃ b, spec_mvKind_l0 L r m best (v : Int) = some b ∧ b ∈ r ∧ ∀ f ∈ r, ¬ Lx n f b
  | 0, _, _, _, h, _, _ => by omega
  | m + 1, v, best, hv, hm, hb, hne => by
    have e0 : ilen (List.map eLP r) = (r.length : Int) := by rw [ilen_map, ilen_eq]
    by_cases h : v < r.length
    · have hg : lget r (v : Int) = some r[v] := by rw [lget_eq, if_pos (by omega), Int.toNat_natCast]; exact List.getElem?_eq_getElem h
      have hm0 : r[v] ∈ r := List.getElem_mem h
      have b1 : ((v : Int) < (r.length : Int)) = True := by simp; omega
      have b2 : ((0 : Int) ≤ (v : Int)) = True := by simp
      have wv : wr IntKind.i64 (iadd (v : Int) 1) = ((v + 1 : Nat) : Int) := by simp only [iadd_eq]; rw [wr_i (by omega)]; rfl
      simp only [spec_mvKind_l0, ilt_eq, ile_eq, e0, b1, b2, decide_true, Bool.and_self, cond_true, gbind_eq, hg, Option.bind_some, ieq_eq, ilen_mapep, wv]
      rcases hb with ⟨rfl, rfl⟩ | ⟨hbr, hmin⟩
      · simp only [List.length_nil, show ((0 : Nat) : Int) = 0 from rfl, decide_true, cond_true]
        refine mvKind_l0 hn hs hr hlen hL m (0 + 1) _ (by omega) (by omega) (.inr ⟨hm0, fun j f hj hf => ?_⟩) hne
        have : j = 0 := by omega
        subst this
        rw [List.getElem?_eq_getElem h] at hf
        cases hf
        exact Lx.irrefl
      · have hz : ¬ ((best.length : Int) = 0) := by rw [hlen best hbr]; omega
        obtain ⟨t, t1, t2⟩ := spec_mvBefore_eq (L := L) (hlen _ hm0) (hlen best hbr) (by omega) hL
        simp only [hz, decide_false, cond_false, t1, Option.bind_some]
        cases t with
        | true =>
          have hlt := t2.1 rfl
          simp only [cond_true]
          refine mvKind_l0 hn hs hr hlen hL m (v + 1) _ (by omega) (by omega) (.inr ⟨hm0, fun j f hj hf hx => ?_⟩) hne
          by_cases hjv : j = v
          · subst hjv
            rw [List.getElem?_eq_getElem h] at hf
            cases hf
            exact Lx.irrefl hx
          · exact hmin j f (by omega) hf (hx.trans hlt)
        | false =>
          have hlt : ¬ Lx n r[v] best := fun e => by have := t2.2 e; cases this
          simp only [cond_false]
          refine mvKind_l0 hn hs hr hlen hL m (v + 1) _ (by omega) (by omega) (.inr ⟨hbr, fun j f hj hf hx => ?_⟩) hne
          by_cases hjv : j = v
          · subst hjv
            rw [List.getElem?_eq_getElem h] at hf
            cases hf
            exact hlt hx
          · exact hmin j f (by omega) hf hx
    · have b1 : ((v : Int) < (r.length : Int)) = False := by simp; omega
      simp only [spec_mvKind_l0, ilt_eq, e0, b1, decide_false, cond_false]
      rcases hb with ⟨rfl, rfl⟩ | ⟨hbr, hmin⟩
      · exact absurd (List.length_eq_zero_iff.1 (by omega)) hne
      · refine ⟨best, rfl, hbr, fun f hf => ?_⟩
        obtain ⟨j, hj, e⟩ := List.getElem_of_mem hf
        exact hmin j f (by omega) (by rw [List.getElem?_eq_getElem hj, e])

/-- the least one of all frames -/
def IsKind (L : Nat) (a f : List Pt) : Prop := (∃ k s, (s = 1 ∨ s = -1) ∧ f = FR L a k s) ∧ ∀ k s, (s = 1 ∨ s = -1) → ¬ Lx a.length (FR L a k s) f

theorem FR_back {L : Nat} {a : List Pt} (ha : a ≠ []) (k : Int) : FR L (tour a 0 (-1) a.length) k 1 = FR L a (-k) (-1) := by
  unfold FR
  rw [tour_len, tour_back ha]

theorem mem_frs {L : Nat} {p : List Pt} {n : Nat} {f : List Pt} : f ∈ frs L p n ↔ ∃ j : Nat, j < n ∧ f = FR L p (j : Int) 1 := by
  unfold frs
  simp only [List.mem_map, List.mem_range]
  constructor
  · rintro ⟨j, h1, h2⟩; exact ⟨j, h1, h2.symm⟩
  · rintro ⟨j, h1, h2⟩; exact ⟨j, h1, h2.symm⟩

theorem frames_all {L : Nat} {a f : List Pt} (ha : Fa a) : f ∈ frs L a a.length ++ frs L (tour a 0 (-1) a.length) a.length ↔ ∃ k s, (s = 1 ∨ s = -1) ∧ f = FR L a k s := by
  have hl : 0 < (a.length : Int) := by have := ha.lo; omega
  rw [List.mem_append, mem_frs, mem_frs]
  constructor
  · rintro (⟨j, _, rfl⟩ | ⟨j, _, rfl⟩)
    · exact ⟨j, 1, .inl rfl, rfl⟩
    · exact ⟨-j, -1, .inr rfl, FR_back ha.ne _⟩
  · rintro ⟨k, s, rfl | rfl, rfl⟩
    · left
      have h1 := Int.emod_nonneg k (show (a.length : Int) ≠ 0 by omega)
      have h2 := Int.emod_lt_of_pos k hl
      refine ⟨(k % a.length).toNat, by omega, FR_mod ?_⟩
      rw [Int.toNat_of_nonneg h1, Int.emod_emod_of_dvd _ (Int.dvd_refl _)]
    · right
      have h1 := Int.emod_nonneg (-k) (show (a.length : Int) ≠ 0 by omega)
      have h2 := Int.emod_lt_of_pos (-k) hl
      refine ⟨((-k) % a.length).toNat, by omega, ?_⟩
      rw [FR_back ha.ne]
      refine FR_mod ?_
      rw [Int.toNat_of_nonneg h1]
      have := Int.mul_ediv_add_emod (-k) a.length
      have e : -(-k % (a.length : Int)) = k + a.length * (-k / a.length) := by omega
      rw [e, Int.add_mul_emod_self_left]

theorem mvKind_eq {L : Nat} {a : List Pt} (ha : Fa a) (hL : 5000 < L) : ∃ f, spec_mvKind L a = some f ∧ IsKind L a f := by
  have hi := ha.hi; have lo := ha.lo
  unfold spec_mvKind
  rw [mvFrames_eq ha hL]
  simp only [gbind_eq, Option.bind_some]
  obtain ⟨b, h1, h2, h3⟩ := mvKind_l0 (L := L) (n := (a.length : Int)) (r := frs L a a.length ++ frs L (tour a 0 (-1) a.length) a.length) (by omega) (by omega) (by simp [frs_len]; omega) (fun f hf => by
    obtain ⟨k, s, hs, rfl⟩ := (frames_all ha).1 hf
    exact_mod_cast (FR_eq ha hs hL).2.2.1) (by omega) L 0 [] (by omega) (by simp [frs_len]; omega) (.inl ⟨rfl, rfl⟩) (by
    intro e
    have := congrArg List.length e
    rw [List.length_append, frs_len, frs_len] at this
    simp only [List.length_nil] at this
    omega)
  exact ⟨b, h1, (frames_all ha).1 h2, fun k s hs => h3 _ ((frames_all ha).2 ⟨k, s, hs, rfl⟩)⟩

theorem IsKind.len {L : Nat} {a f : List Pt} (ha : Fa a) (hL : 5000 < L) (h : IsKind L a f) : f.length = a.length := by
  obtain ⟨⟨k, s, hs, rfl⟩, _⟩ := h
  exact (FR_eq ha hs hL).2.2.1

theorem IsKind.eq {L : Nat} {a f g : List Pt} (ha : Fa a) (hL : 5000 < L) (h : IsKind L a f) (k : IsKind L a g) : f = g := by
  refine Lx.eq (n := (a.length : Int)) (by exact_mod_cast h.len ha hL) (by exact_mod_cast k.len ha hL) ?_ ?_
  · obtain ⟨⟨i, s, hs, rfl⟩, _⟩ := h; exact k.2 i s hs
  · obtain ⟨⟨i, s, hs, rfl⟩, _⟩ := k; exact h.2 i s hs

/-- one round of the first frame's search -/
theorem ff_l1 {L : Nat} {κ0 : List Pt → Int → Int → List Pt → Option (List Pt)} {a w : List Pt} {v : Nat} {v11 : Int} (ha : Fa a) (hv : v < a.length) (hL : 5000 < L) (hw : w.length = a.length) :
    ∃ w', impl_firstFrame_l1 L κ0 a v11 (v : Int) L 0 w = κ0 a v11 ((v + 1 : Nat) : Int) w' ∧ (w' = w ∨ ∃ s, (s = 1 ∨ s = -1) ∧ w' = FR L a v s) ∧ (∀ f, ¬ Lx a.length f w → ¬ Lx a.length f w') ∧ ∀ s, (s = 1 ∨ s = -1) → ¬ Lx a.length (FR L a v s) w' := by
  have hi := ha.hi
  obtain ⟨m, hm⟩ : ∃ m, L = m + 3 := ⟨L - 3, by omega⟩
  have h2 : ilen [AV.int IntKind.i64 1, AV.int IntKind.i64 (-1)] = 2 := by rw [ilen_eq]; rfl
  have g0 : lget ((1 : Int) :: (-1 :: [])) 0 = some 1 := by rw [lget_eq]; rfl
  have g1 : lget ((1 : Int) :: (-1 :: [])) 1 = some (-1) := by rw [lget_eq]; rfl
  have t1 := impl_told_eq (L := L) (a := a) (k := (v : Int)) (s := 1) ha.ne (by omega) (by omega) (by omega) (by omega)
  have t2 := impl_told_eq (L := L) (a := a) (k := (v : Int)) (s := -1) ha.ne (by omega) (by omega) (by omega) (by omega)
  obtain ⟨_, f1, l1, _⟩ := FR_eq (L := L) ha (k := (v : Int)) (s := 1) (.inl rfl) hL
  obtain ⟨_, f2, l2, _⟩ := FR_eq (L := L) ha (k := (v : Int)) (s := -1) (.inr rfl) hL
  have step : ∀ (w : List Pt) (x : List Pt), w.length = a.length → x.length = a.length → ∃ c, impl_comparePolygons L x w = some c ∧ (c < 0 ↔ Lx a.length x w) := fun w x hw hx =>
    impl_comparePolygons_eq (by exact_mod_cast hx) (by exact_mod_cast hw) (by omega) (by omega)
  have pick : ∀ (w x : List Pt), w.length = a.length → x.length = a.length → ∃ c w', impl_comparePolygons L x w = some c ∧ ((c < 0 ∧ w' = x) ∨ (¬ c < 0 ∧ w' = w)) ∧ w'.length = a.length ∧ (∀ f, ¬ Lx a.length f w → ¬ Lx a.length f w') ∧ ¬ Lx a.length x w' := fun w x hw hx => by
    obtain ⟨c, c1, c2⟩ := step w x hw hx
    by_cases hc : c < 0
    · exact ⟨c, x, c1, .inl ⟨hc, rfl⟩, hx, fun f hf hfx => hf (hfx.trans (c2.1 hc)), Lx.irrefl⟩
    · exact ⟨c, w, c1, .inr ⟨hc, rfl⟩, hw, fun f hf => hf, fun e => hc (c2.2 e)⟩
  obtain ⟨c1, w1, p1, p2, p3, p4, p5⟩ := pick w _ hw l1
  obtain ⟨c2, w2, q1, q2, q3, q4, q5⟩ := pick w1 _ p3 l2
  refine ⟨w2, ?_, ?_, fun f hf => q4 f (p4 f hf), ?_⟩
  · have wv : wr IntKind.i64 (iadd (v : Int) 1) = ((v + 1 : Nat) : Int) := by simp only [iadd_eq]; rw [wr_i (by omega)]; rfl
    have w01 : wr IntKind.i64 (iadd 0 1) = 1 := by simp only [iadd_eq]; exact wr_id (by omega)
    have w12 : wr IntKind.i64 (iadd 1 1) = 2 := by simp only [iadd_eq]; exact wr_id (by omega)
    have r3 : ∀ m x, impl_firstFrame_l1 L κ0 a v11 (v : Int) (m + 1) 2 x = κ0 a v11 ((v + 1 : Nat) : Int) x := fun m x => by
      rw [impl_firstFrame_l1.eq_2]
      simp only [ilt_eq, h2, Int.lt_irrefl, decide_false, cond_false, wv]
    have r2 : ∀ m, impl_firstFrame_l1 L κ0 a v11 (v : Int) (m + 2) 1 w1 = κ0 a v11 ((v + 1 : Nat) : Int) w2 := fun m => by
      rw [show m + 2 = (m + 1) + 1 from rfl, impl_firstFrame_l1.eq_2]
      simp only [ilt_eq, ile_eq, h2, show ((1 : Int) < 2) = True by simp, show ((0 : Int) ≤ 1) = True by simp, decide_true, Bool.and_self, cond_true, gbind_eq, g1, Option.bind_some, t2, f2, q1, w12]
      rcases q2 with ⟨q2, rfl⟩ | ⟨q2, rfl⟩
      · simp only [q2, decide_true, cond_true]; exact r3 m _
      · simp only [q2, decide_false, cond_false]; exact r3 m _
    have r1 : impl_firstFrame_l1 L κ0 a v11 (v : Int) (m + 3) 0 w = κ0 a v11 ((v + 1 : Nat) : Int) w2 := by
      rw [show m + 3 = (m + 2) + 1 from rfl, impl_firstFrame_l1.eq_2]
      simp only [ilt_eq, ile_eq, h2, show ((0 : Int) < 2) = True by simp, show ((0 : Int) ≤ 0) = True by simp, decide_true, Bool.and_self, cond_true, gbind_eq, g0, Option.bind_some, t1, f1, p1, w01]
      rcases p2 with ⟨p2, rfl⟩ | ⟨p2, rfl⟩
      · simp only [p2, decide_true, cond_true]; exact r2 m
      · simp only [p2, decide_false, cond_false]; exact r2 m
    rw [← r1, ← hm]
  · rcases q2 with ⟨_, rfl⟩ | ⟨_, rfl⟩
    · exact .inr ⟨-1, .inr rfl, rfl⟩
    · rcases p2 with ⟨_, rfl⟩ | ⟨_, rfl⟩
      · exact .inr ⟨1, .inl rfl, rfl⟩
      · exact .inl rfl
  · rintro s (rfl | rfl)
    · exact q4 _ p5
    · exact q5

theorem firstFrame_eq {L : Nat} {a : List Pt} (ha : Fa a) (hL : 5000 < L) : ∃ f, impl_firstFrame L a = some f ∧ IsKind L a f := by
  have hi := ha.hi; have lo := ha.lo
  have f0 : impl_frame L a = some (FR L a 0 1) := by
    have := (FR_eq (L := L) ha (k := 0) (s := 1) (.inl rfl) hL).2.1
    rwa [tour_id ha.ne] at this
  have l0 := (FR_eq (L := L) ha (k := 0) (s := 1) (.inl rfl) hL).2.2.1
  unfold impl_firstFrame
  simp only [gbind_eq, f0, Option.bind_some, ilen_mapep]
  have key : ∀ (m v : Nat) (w : List Pt), v ≤ a.length → a.length - v < m → (∃ k s, (s = 1 ∨ s = -1) ∧ w = FR L a k s) → w.length = a.length → (∀ (j : Nat) s, j < v → (s = 1 ∨ s = -1) → ¬ Lx a.length (FR L a (j : Int) s) w) →
      ∃ f, impl_firstFrame_l0 L m a (a.length : Int) (v : Int) w = some f ∧ (∃ k s, (s = 1 ∨ s = -1) ∧ f = FR L a k s) ∧ ∀ (j : Nat) s, j < a.length → (s = 1 ∨ s = -1) → ¬ Lx a.length (FR L a (j : Int) s) f := by
    intro m
    induction m with
    | zero => intro v w _ h; omega
    | succ m ih =>
      intro v w hv hm hw hwl hmin
      by_cases h : v < a.length
      · have b1 : ((v : Int) < (a.length : Int)) = True := by simp; omega
        obtain ⟨w', e1, e2, e3, e4⟩ := ff_l1 (κ0 := impl_firstFrame_l0 L m) (v11 := (a.length : Int)) ha h hL hwl
        simp only [impl_firstFrame_l0, ilt_eq, b1, decide_true, cond_true, e1]
        have hw' : ∃ k s, (s = 1 ∨ s = -1) ∧ w' = FR L a k s := by
          rcases e2 with rfl | ⟨s, hs, rfl⟩
          · exact hw
          · exact ⟨_, s, hs, rfl⟩
        refine ih (v + 1) w' (by omega) (by omega) hw' ?_ fun j s hj hs => ?_
        · obtain ⟨k, s, hs, rfl⟩ := hw'; exact (FR_eq ha hs hL).2.2.1
        · by_cases hjv : j = v
          · subst hjv; exact e4 s hs
          · exact e3 _ (hmin j s (by omega) hs)
      · have b1 : ((v : Int) < (a.length : Int)) = False := by simp; omega
        simp only [impl_firstFrame_l0, ilt_eq, b1, decide_false, cond_false]
        exact ⟨w, rfl, hw, fun j s hj hs => hmin j s (by omega) hs⟩
  obtain ⟨f, h1, h2, h3⟩ := key L 0 (FR L a 0 1) (by omega) (by omega) ⟨0, 1, .inl rfl, rfl⟩ l0 (fun j s hj => by omega)
  refine ⟨f, h1, h2, fun k s hs => ?_⟩
  have q1 := Int.emod_nonneg k (show (a.length : Int) ≠ 0 by omega)
  have q2 := Int.emod_lt_of_pos k (show 0 < (a.length : Int) by omega)
  have := h3 (k % a.length).toNat s (by omega) hs
  rwa [FR_mod (k' := k) (by rw [Int.toNat_of_nonneg q1, Int.emod_emod_of_dvd _ (Int.dvd_refl _)])] at this

/-- both tell the same kind -/
theorem kind_eq {L : Nat} {a : List Pt} (ha : Fa a) (hL : 5000 < L) : ∃ f, spec_mvKind L a = some f ∧ impl_firstFrame L a = some f ∧ IsKind L a f := by
  obtain ⟨f, h1, h2⟩ := mvKind_eq ha hL
  obtain ⟨g, h3, h4⟩ := firstFrame_eq ha hL
  have := h2.eq ha hL h4
  subst this
  exact ⟨f, h1, h3, h2⟩
end Go.AM

/-! The laws' own functions on lists of numbers; kinds of triangles. -/
namespace Go.AM
open Classical
set_option linter.unusedVariables false

def it (a : List Int) (i : Int) : Int := a.getD i.toNat 0
theorem lget_it {a : List Int} {i : Int} (h0 : 0 ≤ i) (h1 : i < a.length) : lget a i = some (it a i) := by
  have : i.toNat < a.length := by omega
  rw [lget_eq, if_pos h0]; unfold it; simp [this]
theorem ilen_mapI (a : List Int) : ilen (List.map eI a) = (a.length : Int) := by rw [ilen_map, ilen_eq]

theorem eqIntS_l0 {L : Nat} {a : List Int} (hs : (a.length : Int) ≤ 1100000) : ∀ (m : Nat) (v : Int), 0 ≤ v → v ≤ a.length → (a.length : Int) - v < m → laws_eqIntS_l0 L a a m v = some true
  | 0, _, _, _, h => by omega
  | m + 1, v, h0, hv, hm => by
    by_cases h : v < (a.length : Int)
    · simp only [laws_eqIntS_l0, ilt_eq, ilen_mapI, h, decide_true, cond_true, gbind_eq, lget_it h0 h, Option.bind_some, ieq_eq, Bool.not_true, cond_false, iadd_eq, wr_id (n := v + 1) (by omega)]
      exact eqIntS_l0 hs m (v + 1) (by omega) (by omega) (by omega)
    · simp only [laws_eqIntS_l0, ilt_eq, ilen_mapI, h, decide_false, cond_false]

theorem eqIntS_eq {L : Nat} {a : List Int} (hs : (a.length : Int) ≤ 1100000) (hL : (a.length : Int) < L) : laws_eqIntS L a a = some true := by
  unfold laws_eqIntS
  simp only [ieq_eq, decide_true, Bool.not_true, cond_false]
  exact eqIntS_l0 hs L 0 (Int.le_refl _) (by omega) (by omega)

def mki (n : Nat) : List Int := (List.range n).map fun (j : Nat) => 1 + (j : Int)
theorem mki_len (n : Nat) : (mki n).length = n := by simp [mki]
theorem mki_succ (n : Nat) : mki (n + 1) = mki n ++ [1 + (n : Int)] := by simp [mki, List.range_succ]

theorem set_midI {pre rest : List Int} {i : Nat} {p x : Int} (h : pre.length = i) : (pre ++ p :: rest).set i x = pre ++ x :: rest := by
  subst h; simp

theorem markI_l0 {L : Nat} {a : List Int} (hs : (a.length : Int) ≤ 1100000) : ∀ (m i : Nat), i ≤ a.length → (a.length : Int) - i < m → laws_markIntS_l0 L m (1 + (i : Int)) i (mki i ++ a.drop i) = some (1 + (a.length : Int), mki a.length)
  | 0, _, _, h => by omega
  | m + 1, i, hi, hm => by
    have hl : ((mki i ++ a.drop i).length : Int) = a.length := by simp [mki_len]; omega
    by_cases h : i < a.length
    · obtain ⟨p, hp⟩ : ∃ p, a.drop i = p :: a.drop (i + 1) := ⟨a[i], List.drop_eq_getElem_cons h⟩
      have g1 : lget (mki i ++ p :: a.drop (i + 1)) (i : Int) = some p := by
        rw [lget_eq, if_pos (by omega), Int.toNat_natCast, List.getElem?_append_right (by rw [mki_len]; omega), mki_len]; simp
      have s1 : ∀ x, lset (mki i ++ p :: a.drop (i + 1)) (i : Int) x = mki i ++ x :: a.drop (i + 1) := fun x => by
        rw [lset_eq, Int.toNat_natCast, set_midI (mki_len i)]
      rw [hp] at hl
      have hlt : (i : Int) < (a.length : Int) := by omega
      rw [hp]
      simp only [laws_markIntS_l0, ilt_eq, ile_eq, ilen_mapI, hl, hlt, show 0 ≤ (i : Int) by omega, decide_true, Bool.and_self, cond_true, gbind_eq, g1, s1, Option.bind_some, iadd_eq, wr_id (n := 1 + (i : Int) + 1) (by omega), wr_id (n := (i : Int) + 1) (by omega)]
      have e : mki i ++ (1 + (i : Int)) :: a.drop (i + 1) = mki (i + 1) ++ a.drop (i + 1) := by
        rw [mki_succ, List.append_assoc]
        simp
      rw [e]
      have := markI_l0 (L := L) hs m (i + 1) (by omega) (by omega)
      rw [show (1 + (i : Int) + 1) = 1 + ((i + 1 : Nat) : Int) by omega]
      exact this
    · have e : i = a.length := by omega
      subst e
      simp only [laws_markIntS_l0, ilt_eq, ilen_mapI, hl, Int.lt_irrefl, decide_false, cond_false]
      simp

theorem markI_eq {L : Nat} {a : List Int} (hs : (a.length : Int) ≤ 1100000) (hL : (a.length : Int) < L) : laws_markIntS L a 1 = some (1 + (a.length : Int), mki a.length) := by
  have := markI_l0 (L := L) hs L 0 (by omega) (by omega)
  simpa [mki, laws_markIntS] using this

theorem heldI_l0 {L : Nat} {n : Nat} (hs : (n : Int) ≤ 1100000) : ∀ (m i : Nat), i ≤ n → (n : Int) - i < m → laws_heldIntS_l0 L (mki n) m (1 + (i : Int)) i = some (1 + (n : Int))
  | 0, _, _, h => by omega
  | m + 1, i, hi, hm => by
    by_cases h : (i : Int) < (n : Int)
    · have g1 : lget (mki n) (i : Int) = some (1 + (i : Int)) := by
        have hin : i < n := by omega
        rw [lget_eq, if_pos (by omega), Int.toNat_natCast]; simp [mki, hin]
      simp only [laws_heldIntS_l0, ilt_eq, ieq_eq, ilen_mapI, mki_len, h, g1, decide_true, Bool.not_true, cond_true, cond_false, gbind_eq, Option.bind_some, iadd_eq, wr_id (n := 1 + (i : Int) + 1) (by omega), wr_id (n := (i : Int) + 1) (by omega)]
      have := heldI_l0 (L := L) hs m (i + 1) (by omega) (by omega)
      rw [show (1 + (i : Int) + 1) = 1 + ((i + 1 : Nat) : Int) by omega]
      exact this
    · have e : i = n := by omega
      subst e
      simp only [laws_heldIntS_l0, ilt_eq, ilen_mapI, mki_len, h, decide_false, cond_false]

theorem heldI_eq {L n : Nat} (hs : (n : Int) ≤ 1100000) (hL : (n : Int) < L) : laws_heldIntS L (mki n) 1 = some (1 + (n : Int)) := by
  have := heldI_l0 (L := L) hs L 0 (by omega) (by omega)
  simpa [laws_heldIntS] using this

theorem toIntS_l0 {L : Nat} {a : List Int} (hs : (a.length : Int) ≤ 1100000) : ∀ (m i : Nat) (w : List Int), i ≤ a.length → w.length = a.length → (a.length : Int) - i < m → w.take i = a.take i → laws_toIntS_l0 L a m i w = some a
  | 0, _, _, _, _, h, _ => by omega
  | m + 1, i, w, hi, hw, hm, ht => by
    by_cases h : (i : Int) < (a.length : Int)
    · have hwl : (w.length : Int) = a.length := by omega
      have gw := lget_it (a := w) (i := (i : Int)) (by omega) (by omega)
      simp only [laws_toIntS_l0, ilt_eq, ile_eq, ilen_mapI, hwl, h, show 0 ≤ (i : Int) by omega, decide_true, Bool.and_self, cond_true, gbind_eq, lget_it (show 0 ≤ (i : Int) by omega) h, gw, Option.bind_some, iadd_eq, wr_id (n := (i : Int) + 1) (by omega)]
      refine toIntS_l0 hs m (i + 1) _ (by omega) (by rw [lset_eq]; simp [hw]) (by omega) ?_
      have hp := lget_it (a := a) (i := (i : Int)) (by omega) h
      rw [lget_eq, if_pos (by omega), Int.toNat_natCast] at hp
      rw [lset_eq, Int.toNat_natCast, List.take_add_one, List.take_add_one, List.take_set_of_le (by omega), ht, hp, List.getElem?_set, if_pos rfl, if_pos (by omega)]
    · have e : i = a.length := by omega
      subst e
      simp only [laws_toIntS_l0, ilt_eq, ilen_mapI, h, decide_false, cond_false]
      rw [List.take_of_length_le (by omega), List.take_of_length_le (by omega)] at ht
      rw [ht]

theorem toIntS_eq {L : Nat} {a : List Int} (hs : (a.length : Int) ≤ 1100000) (hL : (a.length : Int) < L) : laws_toIntS L a = some a := by
  unfold laws_toIntS
  simp only [ile_eq, ilen_mapI, Int.le_refl, show 0 ≤ (a.length : Int) by omega, decide_true, Bool.and_self, fits_s (n := (a.length : Int)) (b := 8) (by omega), cond_true]
  exact toIntS_l0 (L := L) hs L 0 _ (by omega) (by rw [lrep_eq]; simp) (by omega) (by simp)

theorem Good_.fa {a : List Pt} (h : Good_ a) : Fa a := by
  have lo := h.lo; have hi := h.hi
  have hne : a ≠ [] := by intro e; subst e; simp at lo
  refine ⟨lo, by omega, fun i => (in_all h.isIn hne i).nr, fun i => ?_⟩
  have q1 := Int.emod_nonneg i (show (a.length : Int) ≠ 0 by omega)
  have q2 := Int.emod_lt_of_pos i (show 0 < (a.length : Int) by omega)
  have := h.turn (i % a.length) q1 q2
  have e : ∀ j : Int, pt a (i % a.length + j) = pt a (i + j) := fun j => pt_congr (by rw [Int.emod_add_emod])
  have e0 : pt a (i % a.length) = pt a i := pt_mod a i
  rwa [e, e, e0] at this

theorem three_eq {L : Nat} {a : List Pt} (hL : 20 < L) : spec_mvThree L a = some (decide ((a.length : Int) = 3 ∧ Good_ a)) ∧ impl_isThree L a = some (decide ((a.length : Int) = 3 ∧ Good_ a)) := by
  unfold spec_mvThree impl_isThree
  simp only [ieq_eq, ilen_mapep]
  by_cases h : (a.length : Int) = 3
  · simp only [h, decide_true, cond_true, spec_pgGood_eq hL, impl_IsPolygon_eq hL, gbind_eq, Option.bind_some, true_and, and_self]
  · simp only [h, decide_false, cond_false, false_and, and_self]

theorem list3 {f : List Pt} (h : (f.length : Int) = 3) : lget f 1 = some (pt f 1) ∧ lget f 2 = some (pt f 2) ∧ ilen (List.map ep f) = 3 := by
  exact ⟨lget_pt (by omega) (by omega), lget_pt (by omega) (by omega), by rw [ilen_mapep, h]⟩

/-- both tell the same three numbers -/
theorem mvList_eq {L : Nat} {a : List Pt} (h3 : (a.length : Int) = 3) (hg : Good_ a) (hL : 5000 < L) : ∃ x y z, spec_mvList L a = some [x, y, z] ∧ impl_kindOf L a = some [x, y, z] ∧ 0 < x ∧ 0 ≤ y ∧ 0 < z := by
  have ha := hg.fa
  obtain ⟨f, h1, h2, h4⟩ := kind_eq (L := L) ha hL
  have hl := h4.len ha hL
  obtain ⟨l1, l2, l4⟩ := list3 (f := f) (by omega)
  refine ⟨(pt f 1).x, (pt f 2).x, (pt f 2).y, ?_, ?_, ?_⟩
  · unfold spec_mvList
    simp only [h1, l1, l2, gbind_eq, Option.bind_some]
  · unfold impl_kindOf
    simp only [h2, l1, l2, l4, gbind_eq, Option.bind_some, ile_eq, ilt_eq, show ((0 : Int) ≤ 1) = True by simp, show ((0 : Int) ≤ 2) = True by simp, show ((1 : Int) < 3) = True by simp, show ((2 : Int) < 3) = True by simp, decide_true, Bool.and_self, cond_true]
  · obtain ⟨⟨k, s, hs, rfl⟩, _⟩ := h4
    obtain ⟨_, _, hfl, A, B, C, D, g, b, d, e, fr⟩ := FR_eq (L := L) ha (k := k) hs hL
    have ht := ha.tour (k := k) hs
    have hm : ∀ i : Int, 0 ≤ i → i < (a.length : Int) → pt (FR L a k s) i = brg A B C D (pt (tour a k s a.length) 0) (pt (tour a k s a.length) i) := fun i i0 i1 => by
      have h1 := pt_get (a := FR L a k s) (i := i) i0 (by omega)
      have h2 := pt_get (a := tour a k s a.length) (i := i) i0 (by rw [tour_len]; omega)
      rw [e, List.getElem?_map, h2] at h1
      simp only [Option.map_some, Option.some.injEq] at h1
      rw [← e] at h1
      exact h1.symm
    rw [hm 1 (by omega) (by omega), hm 2 (by omega) (by omega), fr.e1, fr.e2]
    have := fr.g0; have := fr.b0; have := fr.bd
    simp only
    omega

theorem kindOf_eq {L : Nat} {a : List Pt} (hL : 5000 < L) : ∃ r, spec_KindOfTriangle L a = some r ∧ impl_KindOfTriangle L a = some r ∧ (r.1.length : Int) ≤ 3 := by
  obtain ⟨t1, t2⟩ := three_eq (L := L) (a := a) (by omega)
  unfold spec_KindOfTriangle impl_KindOfTriangle
  simp only [t1, t2, gbind_eq, Option.bind_some]
  by_cases h : (a.length : Int) = 3 ∧ Good_ a
  · obtain ⟨x, y, z, h1, h2, _⟩ := mvList_eq (L := L) h.1 h.2 hL
    simp only [h, and_self, decide_true, Bool.not_true, cond_false, h1, h2, Option.bind_some]
    exact ⟨_, rfl, rfl, by simp⟩
  · simp only [h, decide_false, Bool.not_false, cond_true]
    exact ⟨_, rfl, rfl, by simp⟩

theorem kindOf_law (a : List Pt) (hmax : (a.length : Int) ≤ 9223372036854775807) : ∃ L, laws_FnExactKindOfTriangle L a = some true := by
  refine ⟨2000000, ?_⟩
  unfold laws_FnExactKindOfTriangle laws_szPegS
  simp only [ilen_mapep, isub_eq, ilt_eq]
  by_cases hl : (a.length : Int) ≤ 1048576
  · rw [wr_id (by omega)]
    have h1 : ¬ (1048576 - (a.length : Int) < 0) := by omega
    obtain ⟨r, r1, r2, r3⟩ := kindOf_eq (L := 2000000) (a := a) (by omega)
    simp only [h1, decide_false, cond_false, gbind_eq, Option.bind_some, toPegS_eq (L := 2000000) (a := a) (by omega) (by omega), r1, r2, eqIntS_eq (L := 2000000) (a := r.1) (by omega) (by omega), eqPegS_eq (L := 2000000) (a := a) (by omega) (by omega),
      mark_eq (L := 2000000) (a := a) (by omega) (by omega), markI_eq (L := 2000000) (a := r.1) (by omega) (by omega), heldI_eq (L := 2000000) (n := r.1.length) (by omega) (by omega), beqb_eq, beq_self_eq_true, Bool.not_true, ieq_eq, decide_true,
      show ¬ (1 + 2 * (a.length : Int) < 0) by omega, show ¬ (1 + (r.1.length : Int) < 0) by omega]
  · have hw : wr .i64 (1048576 - (a.length : Int)) < 0 := by
      rw [wr_id (by omega)]; omega
    simp only [hw, decide_true, cond_true, gbind_eq, Option.bind_some]
    rfl

theorem same_l0 {L : Nat} {a b : List Int} (hab : a.length = b.length) (hs : (a.length : Int) ≤ 1000000) : ∀ (m : Nat) (v : Int), 0 ≤ v → v ≤ a.length → (a.length : Int) - v < m → slices_Equal_int_int_l0 L a b m v = spec_l1Same_l0 L a b m v ∧ ∃ t, spec_l1Same_l0 L a b m v = some t ∧ (t = true → ∀ i, v ≤ i → i < (a.length : Int) → it a i = it b i)
  | 0, _, _, _, h => by omega
  | m + 1, v, h0, hv, hm => by
    by_cases h : v < (a.length : Int)
    · obtain ⟨q1, t, q2, q3⟩ := same_l0 (L := L) hab hs m (v + 1) (by omega) (by omega) (by omega)
      have hb : v < (b.length : Int) := by omega
      simp only [slices_Equal_int_int_l0, spec_l1Same_l0, ilt_eq, ilen_mapI, h, decide_true, cond_true, gbind_eq, lget_it h0 h, lget_it h0 hb, Option.bind_some, ieq_eq, iadd_eq, wr_id (n := v + 1) (by omega)]
      by_cases e : it a v = it b v
      · simp only [e, decide_true, Bool.not_true, cond_false]
        refine ⟨q1, t, q2, fun ht i i0 i1 => ?_⟩
        by_cases hi : i = v
        · subst hi; exact e
        · exact q3 ht i (by omega) i1
      · simp only [e, decide_false, Bool.not_false, cond_true]
        exact ⟨trivial, false, rfl, fun h => by cases h⟩
    · simp only [slices_Equal_int_int_l0, spec_l1Same_l0, ilt_eq, ilen_mapI, h, decide_false, cond_false]
      exact ⟨trivial, true, rfl, fun _ i i0 i1 => by omega⟩

theorem same_eq {L : Nat} {a b : List Int} (hab : a.length = b.length) (hs : (a.length : Int) ≤ 1000000) (hL : (a.length : Int) < L) : slices_Equal_int_int L a b = spec_l1Same L a b ∧ ∃ t, spec_l1Same L a b = some t ∧ (t = true → ∀ i, 0 ≤ i → i < (a.length : Int) → it a i = it b i) := by
  unfold slices_Equal_int_int spec_l1Same
  simp only [ieq_eq, ilen_mapI, show ((a.length : Int) = (b.length : Int)) by omega, decide_true, Bool.not_true, cond_false]
  have := same_l0 (L := L) hab hs L 0 (by omega) (by omega) (by omega)
  rwa [show (a.length : Int) = b.length by omega] at this

theorem all_eq {L : Nat} {a : List Int} {lo hi : Int} (hs : (a.length : Int) ≤ 1000000) : ∀ (m : Nat) (v : Int), 0 ≤ v → v ≤ a.length → (a.length : Int) - v < m → ∃ t, spec_l1All_l0 L a lo hi m v = some t ∧ (t = true ↔ ∀ i, v ≤ i → i < (a.length : Int) → lo ≤ it a i ∧ it a i ≤ hi)
  | 0, _, _, _, h => by omega
  | m + 1, v, h0, hv, hm => by
    by_cases h : v < (a.length : Int)
    · simp only [spec_l1All_l0, ilt_eq, ilen_mapI, h, decide_true, cond_true, gbind_eq, lget_it h0 h, Option.bind_some, spec_l1In_eq, iadd_eq, wr_id (n := v + 1) (by omega)]
      by_cases e : lo ≤ it a v ∧ it a v ≤ hi
      · obtain ⟨t, q1, q2⟩ := all_eq (L := L) (lo := lo) (hi := hi) hs m (v + 1) (by omega) (by omega) (by omega)
        simp only [e, and_self, decide_true, Bool.not_true, cond_false]
        refine ⟨t, q1, q2.trans ⟨fun hh i i0 i1 => ?_, fun hh i i0 i1 => hh i (by omega) i1⟩⟩
        by_cases hi : i = v
        · subst hi; exact e
        · exact hh i (by omega) i1
      · simp only [e, decide_false, Bool.not_false, cond_true]
        exact ⟨false, rfl, by simp; exact ⟨v, Int.le_refl _, h, fun h1 => by omega⟩⟩
    · simp only [spec_l1All_l0, ilt_eq, ilen_mapI, h, decide_false, cond_false]
      exact ⟨true, rfl, by simp; intro i i0 i1; omega⟩

theorem triangleOf_eq {L : Nat} {a : List Int} (hL : 5000 < L) : ∃ r, spec_TriangleOfKind L a = some r ∧ impl_TriangleOfKind L a = some r ∧ (r.1.length : Int) ≤ 3 := by
  unfold spec_TriangleOfKind impl_TriangleOfKind
  simp only [ieq_eq, ilen_mapI]
  by_cases h3 : (a.length : Int) = 3
  · have g0 := lget_it (a := a) (i := 0) (by omega) (by omega)
    have g1 := lget_it (a := a) (i := 1) (by omega) (by omega)
    have g2 := lget_it (a := a) (i := 2) (by omega) (by omega)
    simp only [h3, decide_true, Bool.not_true, cond_false, gbind_eq, g0, g1, g2, Option.bind_some, spec_mvMade, impl_triangle]
    obtain ⟨t1, t2⟩ := three_eq (L := L) (a := [⟨0, 0⟩, ⟨it a 0, 0⟩, ⟨it a 1, it a 2⟩]) (by omega)
    obtain ⟨t, k1, k2⟩ := all_eq (L := L) (a := a) (lo := 0) (hi := 40) (by omega) L 0 (by omega) (by omega) (by omega)
    unfold spec_l1All
    simp only [k1, t1, t2, Option.bind_some]
    by_cases hg : (([⟨0, 0⟩, ⟨it a 0, 0⟩, ⟨it a 1, it a 2⟩] : List Pt).length : Int) = 3 ∧ Good_ [⟨0, 0⟩, ⟨it a 0, 0⟩, ⟨it a 1, it a 2⟩]
    · obtain ⟨x, y, z, m1, m2, x0, y0, z0⟩ := mvList_eq (L := L) hg.1 hg.2 hL
      obtain ⟨s1, b, s2, s3⟩ := same_eq (L := L) (a := [x, y, z]) (b := a) (by simp; omega) (by simp) (by simp; omega)
      simp only [hg, and_self, decide_true, Bool.not_true, cond_false, m1, m2, s1, s2, Option.bind_some]
      cases t with
      | true =>
        simp only [Bool.not_true, cond_false]
        cases b with
        | true => exact ⟨_, rfl, rfl, by simp⟩
        | false => exact ⟨_, rfl, rfl, by simp⟩
      | false =>
        cases b with
        | false => exact ⟨_, rfl, rfl, by simp⟩
        | true =>
          exfalso
          have e0 := s3 rfl 0 (by omega) (by simp)
          have e1 := s3 rfl 1 (by omega) (by simp)
          have e2 := s3 rfl 2 (by omega) (by simp)
          have i1 := hg.2.isIn 1 (by omega) (by simp)
          have i2 := hg.2.isIn 2 (by omega) (by simp)
          have : (false = true) := k2.2 fun i i0 i1' => by
            have hi : i = 0 ∨ i = 1 ∨ i = 2 := by omega
            have e0' : x = it a 0 := e0
            have e1' : y = it a 1 := e1
            have e2' : z = it a 2 := e2
            have i1'' : In ⟨it a 0, 0⟩ := i1
            have i2'' : In ⟨it a 1, it a 2⟩ := i2
            unfold In at i1'' i2''
            simp only at i1'' i2''
            rcases hi with rfl | rfl | rfl <;> omega
          cases this
    · simp only [hg, decide_false, Bool.not_false, cond_true]
      cases t with
      | true => exact ⟨_, rfl, rfl, by simp⟩
      | false => exact ⟨_, rfl, rfl, by simp⟩
  · simp only [h3, decide_false, Bool.not_false, cond_true]
    exact ⟨_, rfl, rfl, by simp⟩

theorem triangleOf_law (a : List Int) : ∃ L, laws_FnExactTriangleOfKind L a = some true := by
  refine ⟨2000000, ?_⟩
  unfold laws_FnExactTriangleOfKind
  simp only [ilen_mapI, ilt_eq]
  by_cases hl : (1048576 : Int) < a.length
  · simp only [hl, decide_true, cond_true]
  · obtain ⟨r, r1, r2, r3⟩ := triangleOf_eq (L := 2000000) (a := a) (by omega)
    simp only [hl, decide_false, cond_false, gbind_eq, Option.bind_some, toIntS_eq (L := 2000000) (a := a) (by omega) (by omega), r1, r2, eqPegS_eq (L := 2000000) (a := r.1) (by omega) (by omega), eqIntS_eq (L := 2000000) (a := a) (by omega) (by omega),
      markI_eq (L := 2000000) (a := a) (by omega) (by omega), mark_eq (L := 2000000) (a := r.1) (by omega) (by omega), held_eq (L := 2000000) (n := r.1.length) (by omega) (by omega), beqb_eq, beq_self_eq_true, Bool.not_true, ieq_eq, decide_true,
      show ¬ (1 + (a.length : Int) < 0) by omega, show ¬ (1 + 2 * (r.1.length : Int) < 0) by omega]
end Go.AM

/-! Numbers around. -/
namespace Go.AM
set_option linter.unusedVariables false

/-- points on the lines -/
theorem mkp_on {p q : Pt} {j : Int} (h0 : 0 ≤ j) (h1 : j < step p q) : OnL p q (mkp p q j) := by
  obtain ⟨d1, d2⟩ := step_dvd p q
  have e1 : (q.x - p.x).tdiv (step p q) * step p q = q.x - p.x := Int.tdiv_mul_cancel d1
  have e2 : (q.y - p.y).tdiv (step p q) * step p q = q.y - p.y := Int.tdiv_mul_cancel d2
  unfold OnL mkp turn
  simp only
  generalize (q.x - p.x).tdiv (step p q) = X at *
  generalize (q.y - p.y).tdiv (step p q) = Y at *
  generalize step p q = g at *
  have s : ∀ D : Int, (p.x - (p.x + D * j)) * 0 = 0 := fun D => by simp
  refine ⟨?_, ?_, ?_⟩
  · rw [← e1, ← e2]; grind
  · have e : (p.x - (p.x + X * j)) * (q.x - (p.x + X * j)) = -((X * X) * (j * (g - j))) := by
      have : q.x = p.x + X * g := by omega
      rw [this]; grind
    rw [e]
    have := Int.mul_nonneg (mul_self_nn X) (Int.mul_nonneg h0 (show 0 ≤ g - j by omega))
    omega
  · have e : (p.y - (p.y + Y * j)) * (q.y - (p.y + Y * j)) = -((Y * Y) * (j * (g - j))) := by
      have : q.y = p.y + Y * g := by omega
      rw [this]; grind
    rw [e]
    have := Int.mul_nonneg (mul_self_nn Y) (Int.mul_nonneg h0 (show 0 ≤ g - j by omega))
    omega

theorem mem_allp {c : List Pt} {x : Pt} : ∀ {n : Nat}, x ∈ allp c n → ∃ i j : Int, x = mkp (pt c i) (pt c (i + 1)) j ∧ 0 ≤ j ∧ j < step (pt c i) (pt c (i + 1))
  | 0, h => by simp [allp] at h
  | n + 1, h => by
    simp only [allp, List.mem_append] at h
    rcases h with h | h
    · exact mem_allp h
    · unfold seg at h
      simp only [List.mem_map, List.mem_range] at h
      obtain ⟨j, hj, e⟩ := h
      exact ⟨n, j, e.symm, by omega, by omega⟩

theorem around_val {L : Nat} {a : List Pt} (hL : 600000 < L) (h : spec_duOne L a = some true) : ∃ w, spec_duAround L a = some w ∧ impl_AroundOf L a = some (w, true) ∧ w ≠ [] ∧ (w.length : Int) ≤ 400000 ∧ (∀ i, pt w i ≠ ⟨0, 0⟩) := by
  obtain ⟨k, c, hc, hk, hsg, c1, c2, o, g⟩ := one_told (by omega) h
  have lo := o.lp.n3; have hi := o.hi
  have hn : c ≠ [] := by intro e; subst e; simp at lo
  have han : a ≠ [] := by intro e; subst e; have := g.lo; simp at this
  have hin : ∀ i, Nr (pt c i) := fun i => (o.isIn i).nr
  have hmin : ∀ i, ¬ Less (pt c i) (pt c 0) := fun i => by
    rw [hc, pt_tour' han, pt_tour' han, Int.zero_mul, Int.add_zero]
    exact isMin_all han hk _
  have hst : 0 < step (pt c 0) (pt c 1) := o.pos 0
  have e1 := spec_around_l0 (L := L) hn (by omega) (by omega) hin L 0 (by omega) (by omega)
  have e2 := impl_pegsA_l0 (L := L) hn (by omega) hL hin hmin hst L 0 (by omega) (by omega)
  have z : allp c 0 = [] := rfl
  rw [z] at e1 e2
  simp only [show ((0 : Nat) : Int) = 0 from rfl] at e1 e2
  have hlen := allp_len hin c.length
  have hne : allp c c.length ≠ [] := by
    have hh := allp_head (c := c) hst c.length (by omega)
    intro e; rw [e] at hh; simp at hh
  refine ⟨allp c c.length, ?_, ?_, hne, by omega, fun i hz => ?_⟩
  · unfold spec_duAround
    simp only [c1, gbind_eq, Option.bind_some, ilen_mapep, e1]
  · obtain ⟨b, h1, h2, _⟩ := one_eq (L := L) (a := a) (by omega)
    rw [h] at h1
    cases h1
    unfold impl_AroundOf impl_pegsAround
    simp only [h2, gbind_eq, Option.bind_some, Bool.not_true, cond_false, c2, ilen_mapep, e2]
  · have hl : 0 < ((allp c c.length).length : Int) := by have := List.length_pos_iff.2 hne; omega
    have q1 := Int.emod_nonneg i (show ((allp c c.length).length : Int) ≠ 0 by omega)
    have q2 := Int.emod_lt_of_pos i hl
    have hg := pt_get (a := allp c c.length) q1 q2
    rw [pt_mod] at hg
    obtain ⟨i', j, e, j0, j1⟩ := mem_allp (List.mem_of_getElem? hg)
    have := mkp_on j0 j1
    rw [← e, hz] at this
    exact o.rim i' this

/-- the number of the i-th point around -/
noncomputable def numb (w : List Pt) (v : Int) : Int :=
  if (pt w v).x = 0 then wr .i64 (iquo (wr .i64 (iadd (pt w (v - 1)).y (pt w (v + 1)).y)) (pt w v).y) else wr .i64 (iquo (wr .i64 (iadd (pt w (v - 1)).x (pt w (v + 1)).x)) (pt w v).x)

theorem ratios_eq {L : Nat} {w : List Pt} (hn : w ≠ []) (hs : (w.length : Int) ≤ 400000) (hL : 600000 < L) (hz : ∀ i, pt w i ≠ ⟨0, 0⟩) : spec_duNumbers L w = some ((List.range w.length).map fun (j : Nat) => numb w j) ∧ impl_ratios L w = some ((List.range w.length).map fun (j : Nat) => numb w j) := by
  have hl : 0 < (w.length : Int) := by have := List.length_pos_iff.2 hn; omega
  have h3 : ¬ ((w.length : Int) = 0) := by omega
  have nz : ∀ v, (pt w v).x = 0 → ¬ (pt w v).y = 0 := fun v h1 h2 => hz v (by
    generalize pt w v = p at *
    obtain ⟨x, y⟩ := p
    simp only at h1 h2
    rw [h1, h2])
  have fit : ∀ (u : List Int) (x : AV), u.length ≤ w.length → fits (iadd (ilen (List.map eI u)) (ilen [x])) 8 = true := fun u x hu => by
    refine fits_s ?_
    simp only [iadd_eq, ilen_eq, List.length_map, List.length_cons, List.length_nil]
    omega
  constructor
  · unfold spec_duNumbers
    have := idxLoop (f := spec_duNumbers_l0 L w) (H := numb w) (n := w.length) (K := fun u => some u) (fun m u => by
      simp only [spec_duNumbers_l0, ilt_eq, ilen_mapep, Int.lt_irrefl, decide_false, cond_false]) (fun m v u h0 h1 hu => by
      have m1 : pt w (v + w.length - 1) = pt w (v - 1) := by
        have := pt_per w (v - 1)
        rwa [show v - 1 + (w.length : Int) = v + w.length - 1 by omega] at this
      have wv : wr IntKind.i64 (iadd v 1) = v + 1 := by simp only [iadd_eq]; exact wr_s (by omega)
      have wn : wr IntKind.i64 (isub (wr IntKind.i64 (iadd v (w.length : Int))) 1) = v + w.length - 1 := by
        simp only [iadd_eq, isub_eq]; rw [wr_s (i := v + w.length) (by omega), wr_s (by omega)]
      simp only [spec_duNumbers_l0, ilt_eq, ieq_eq, ilen_mapep, h1, h3, decide_true, decide_false, cond_true, cond_false, gbind_eq, lget_pt h0 h1, Option.bind_some, wv, wn, lget_rem (show 0 ≤ v + 1 by omega) hn, lget_rem (show 0 ≤ v + w.length - 1 by omega) hn, m1, fit _ _ hu, lcat_eq]
      unfold numb
      by_cases hx : (pt w v).x = 0
      · simp only [hx, nz v hx, decide_true, decide_false, Bool.not_true, cond_false, if_true]
      · simp only [hx, decide_false, Bool.not_false, cond_true, cond_false, if_false]) L 0 (by omega) (by omega)
    exact this
  · unfold impl_ratios
    have := idxLoop (f := impl_ratios_l0 L w) (H := numb w) (n := w.length) (K := fun u => some u) (fun m u => by
      simp only [impl_ratios_l0, ilt_eq, ilen_mapep, Int.lt_irrefl, decide_false, cond_false]) (fun m v u h0 h1 hu => by
      have wv : wr IntKind.i64 (iadd v 1) = v + 1 := by simp only [iadd_eq]; exact wr_s (by omega)
      have wn : wr IntKind.i64 (isub v 1) = v - 1 := by simp only [isub_eq]; exact wr_s (by omega)
      simp only [impl_ratios_l0, ilt_eq, ieq_eq, ilen_mapep, h1, decide_true, cond_true, gbind_eq, lget_pt h0 h1, Option.bind_some, wv, wn, impl_at_eq hn (show (w.length : Int) ≤ 1000000000 by omega), impl_Peg_plus, fit _ _ hu, lcat_eq]
      unfold numb
      by_cases hx : (pt w v).x = 0
      · simp only [hx, nz v hx, decide_true, decide_false, Bool.not_true, cond_false, if_true]
      · simp only [hx, decide_false, Bool.not_false, cond_true, cond_false, if_false]) L 0 (by omega) (by omega)
    exact this

theorem numbers_eq {L : Nat} {a : List Pt} (hL : 600000 < L) : ∃ r, spec_NumbersAround L a = some r ∧ impl_NumbersAround L a = some r ∧ (r.1.length : Int) ≤ 400000 := by
  obtain ⟨b, h1, h2, _⟩ := one_eq (L := L) (a := a) (by omega)
  unfold spec_NumbersAround impl_NumbersAround
  simp only [h1, gbind_eq, Option.bind_some]
  cases b with
  | false =>
    refine ⟨([], false), rfl, ?_, by simp⟩
    unfold impl_AroundOf
    simp only [h2, gbind_eq, Option.bind_some, Bool.not_false, cond_true]
  | true =>
    obtain ⟨w, w1, w2, w3, w4, w5⟩ := around_val hL h1
    obtain ⟨r1, r2⟩ := ratios_eq w3 w4 hL w5
    simp only [Bool.not_true, cond_false, w1, w2, r1, r2, Option.bind_some]
    exact ⟨_, rfl, rfl, by simpa using w4⟩

theorem numbers_law (a : List Pt) (hmax : (a.length : Int) ≤ 9223372036854775807) : ∃ L, laws_FnExactNumbersAround L a = some true := by
  refine ⟨2000000, ?_⟩
  unfold laws_FnExactNumbersAround laws_szPegS
  simp only [ilen_mapep, isub_eq, ilt_eq]
  by_cases hl : (a.length : Int) ≤ 1048576
  · rw [wr_id (by omega)]
    have h1 : ¬ (1048576 - (a.length : Int) < 0) := by omega
    obtain ⟨r, r1, r2, r3⟩ := numbers_eq (L := 2000000) (a := a) (by omega)
    simp only [h1, decide_false, cond_false, gbind_eq, Option.bind_some, toPegS_eq (L := 2000000) (a := a) (by omega) (by omega), r1, r2, eqIntS_eq (L := 2000000) (a := r.1) (by omega) (by omega), eqPegS_eq (L := 2000000) (a := a) (by omega) (by omega),
      mark_eq (L := 2000000) (a := a) (by omega) (by omega), markI_eq (L := 2000000) (a := r.1) (by omega) (by omega), heldI_eq (L := 2000000) (n := r.1.length) (by omega) (by omega), beqb_eq, beq_self_eq_true, Bool.not_true, ieq_eq, decide_true,
      show ¬ (1 + 2 * (a.length : Int) < 0) by omega, show ¬ (1 + (r.1.length : Int) < 0) by omega]
  · have hw : wr .i64 (1048576 - (a.length : Int)) < 0 := by
      rw [wr_id (by omega)]; omega
    simp only [hw, decide_true, cond_true, gbind_eq, Option.bind_some]
    rfl
end Go.AM

