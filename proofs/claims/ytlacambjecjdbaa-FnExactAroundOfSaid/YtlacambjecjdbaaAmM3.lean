import Derived.Test.YtlacambjecjdbaaAmM2
set_option linter.unusedVariables false
set_option linter.unusedSimpArgs false
set_option linter.unnecessarySimpa false
/-! Polygons: both sides tell the same. -/
namespace Go.AM
set_option linter.unusedVariables false

theorem good_l0 {L : Nat} {a : List Pt} (hn : 3 ≤ (a.length : Int)) (hs : (a.length : Int) ≤ 10) (hL : 20 < L) {m : Nat} (hm : (a.length : Int) < m) :
    ((∃ i, 0 ≤ i ∧ i < (a.length : Int) ∧ (¬ In (pt a i) ∨ ∃ k, 0 ≤ k ∧ k < i ∧ pt a k = pt a i)) → spec_pgGood_l0 L m a a.length a a.length 0 = some false) ∧
    ((∀ i, 0 ≤ i → i < (a.length : Int) → ¬ (¬ In (pt a i) ∨ ∃ k, 0 ≤ k ∧ k < i ∧ pt a k = pt a i)) → spec_pgGood_l0 L m a a.length a a.length 0 = spec_pgGood_l2 L L a a.length a a.length 0) := by
  refine search (f := fun m v => spec_pgGood_l0 L m a a.length a a.length v) (lo := 0) (n := (a.length : Int)) (hi := 10)
    (bad := fun i => ¬ In (pt a i) ∨ ∃ k, 0 ≤ k ∧ k < i ∧ pt a k = pt a i) hs ?_ ?_ ?_ m 0 (Int.le_refl _) (by omega) (by omega) (by omega)
  · intro m v h0 _ h
    simp only [spec_pgGood_l0, ilt_eq, h, decide_false, cond_false, ilen_mapep]
  · intro m v h0 h hb
    simp only [spec_pgGood_l0, ilt_eq, ile_eq, h, h0, ilen_mapep, show v ≤ (a.length : Int) by omega, decide_true, Bool.and_self, cond_true, gbind_eq, lget_pt h0 h, Option.bind_some]
    by_cases hi : In (pt a v)
    · rw [spec_pgIs_eq.1 hi]
      simp only [Option.bind_some, Bool.not_true, cond_false]
      obtain ⟨k, q1, q2, q3⟩ := hb.resolve_left fun h => h hi
      exact (good_l1 h0 (by omega) hs (by omega)).1 ⟨k, q1, q2, q3⟩
    · rw [spec_pgIs_eq.2 hi]
      simp only [Option.bind_some, Bool.not_false, cond_true]
  · intro m v h0 h hb
    simp only [spec_pgGood_l0, ilt_eq, ile_eq, h, h0, ilen_mapep, show v ≤ (a.length : Int) by omega, decide_true, Bool.and_self, cond_true, gbind_eq, lget_pt h0 h, Option.bind_some]
    have hi : In (pt a v) := Classical.byContradiction fun e => hb (.inl e)
    rw [spec_pgIs_eq.1 hi]
    simp only [Option.bind_some, Bool.not_true, cond_false]
    exact (good_l1 h0 (by omega) hs (by omega)).2 fun k q1 q2 q3 => hb (.inr ⟨k, q1, q2, q3⟩)

theorem spec_l1In_eq {L : Nat} {n lo hi : Int} : spec_l1In L n lo hi = some (decide (lo ≤ n ∧ n ≤ hi)) := by
  unfold spec_l1In
  simp only [ile_eq]
  by_cases h1 : lo ≤ n <;> by_cases h2 : n ≤ hi <;> simp [h1, h2]
theorem impl_within_eq {L : Nat} {n lo hi : Int} : impl_within L n lo hi = some (decide (lo ≤ n ∧ n ≤ hi)) := by
  unfold impl_within
  simp only [ile_eq]
  by_cases h1 : lo ≤ n <;> by_cases h2 : n ≤ hi <;> simp [h1, h2]

open Classical in
theorem spec_pgGood_eq {L : Nat} {a : List Pt} (hL : 20 < L) : spec_pgGood L a = some (decide (Good_ a)) := by
  unfold spec_pgGood
  simp only [ilen_mapep, spec_l1In_eq, gbind_eq, Option.bind_some]
  by_cases hn : 3 ≤ (a.length : Int) ∧ (a.length : Int) ≤ 10
  · simp only [hn, and_self, decide_true, Bool.not_true, cond_false]
    have hne : a ≠ [] := by intro e; subst e; simp at hn
    by_cases h0 : ∃ i, 0 ≤ i ∧ i < (a.length : Int) ∧ (¬ In (pt a i) ∨ ∃ k, 0 ≤ k ∧ k < i ∧ pt a k = pt a i)
    · rw [(good_l0 hn.1 hn.2 hL (by omega)).1 h0]
      have : ¬ Good_ a := fun g => by
        obtain ⟨i, q1, q2, q3⟩ := h0
        rcases q3 with q3 | ⟨k, q4, q5, q6⟩
        · exact q3 (g.isIn i q1 q2)
        · exact g.ne i k q4 q5 q2 q6
      simp [this]
    · have h0' : ∀ i, 0 ≤ i → i < (a.length : Int) → ¬ (¬ In (pt a i) ∨ ∃ k, 0 ≤ k ∧ k < i ∧ pt a k = pt a i) := fun i q1 q2 q3 => h0 ⟨i, q1, q2, q3⟩
      rw [(good_l0 hn.1 hn.2 hL (by omega)).2 h0']
      have hIn : ∀ i, 0 ≤ i → i < (a.length : Int) → In (pt a i) := fun i q1 q2 => Classical.byContradiction fun e => h0' i q1 q2 (.inl e)
      have hin := in_all hIn hne
      by_cases h1 : ∃ i, 0 ≤ i ∧ i < (a.length : Int) ∧ (turn (pt a i) (pt a (i + 1)) (pt a (i + 2)) = 0 ∨ ∃ k, i + 2 ≤ k ∧ k < (if i = 0 then (a.length : Int) - 1 else a.length) ∧ Meet (pt a i) (pt a (i + 1)) (pt a k) (pt a (k + 1)))
      · rw [(good_l2 hn.1 hn.2 hL hin (by omega)).1 h1]
        have : ¬ Good_ a := fun g => by
          obtain ⟨i, q1, q2, q3⟩ := h1
          rcases q3 with q3 | ⟨k, q4, q5, q6⟩
          · exact g.turn i q1 q2 q3
          · exact g.apart i k q1 q4 (by split at q5 <;> omega) (by split at q5 <;> omega) q6
        simp [this]
      · have h1' : ∀ i, 0 ≤ i → i < (a.length : Int) → ¬ (turn (pt a i) (pt a (i + 1)) (pt a (i + 2)) = 0 ∨ ∃ k, i + 2 ≤ k ∧ k < (if i = 0 then (a.length : Int) - 1 else a.length) ∧ Meet (pt a i) (pt a (i + 1)) (pt a k) (pt a (k + 1))) := fun i q1 q2 q3 => h1 ⟨i, q1, q2, q3⟩
        rw [(good_l2 hn.1 hn.2 hL hin (by omega)).2 h1']
        have : Good_ a := ⟨hn.1, hn.2, hIn, fun i k q1 q2 q3 q4 => h0' i (by omega) q3 (.inr ⟨k, q1, q2, q4⟩), fun i q1 q2 q3 => h1' i q1 q2 (.inl q3), fun i k q1 q2 q3 q4 q5 => h1' i q1 (by omega) (.inr ⟨k, q2, by split <;> omega, q5⟩)⟩
        simp [this]
  · have : ¬ Good_ a := fun g => hn ⟨g.lo, g.hi⟩
    simp only [hn, this, decide_false, Bool.not_false, cond_true]

/-! the program's side -/
theorem arePegs_eq {L : Nat} {a : List Pt} (hs : (a.length : Int) ≤ 1000000) (hL : (a.length : Int) < L) :
    ((∃ i, 0 ≤ i ∧ i < (a.length : Int) ∧ ¬ In (pt a i)) → impl_arePegs L a = some false) ∧ ((∀ i, 0 ≤ i → i < (a.length : Int) → In (pt a i)) → impl_arePegs L a = some true) := by
  have key : (∃ i, 0 ≤ i ∧ i < (a.length : Int) ∧ ¬ In (pt a i)) → ∃ i, 0 ≤ i ∧ slices_IndexFunc_impl_Peg_impl_Peg_arePegs_l0 L a L 0 = some i := by
    have : ∀ (m : Nat) (v : Int), 0 ≤ v → (a.length : Int) - v < m → (∃ i, v ≤ i ∧ i < (a.length : Int) ∧ ¬ In (pt a i)) → ∃ i, 0 ≤ i ∧ slices_IndexFunc_impl_Peg_impl_Peg_arePegs_l0 L a m v = some i := by
      intro m
      induction m with
      | zero => rintro v h0 h ⟨i, q1, q2, _⟩; omega
      | succ m ih =>
        rintro v h0 h ⟨i, q1, q2, q3⟩
        have hv : v < (a.length : Int) := by omega
        simp only [slices_IndexFunc_impl_Peg_impl_Peg_arePegs_l0, ilt_eq, ilen_mapep, hv, decide_true, cond_true, gbind_eq, lget_pt h0 hv, Option.bind_some, impl_arePegs_1]
        by_cases hi : In (pt a v)
        · rw [impl_IsPeg_eq.1 hi]
          simp only [Option.bind_some, Bool.not_true, cond_false, iadd_eq]
          rw [wr_s (by omega)]
          refine ih (v + 1) (by omega) (by omega) ⟨i, ?_, q2, q3⟩
          by_cases e : i = v
          · subst e; exact absurd hi q3
          · omega
        · rw [impl_IsPeg_eq.2 hi]
          exact ⟨v, h0, by simp⟩
    exact this L 0 (Int.le_refl _) (by omega)
  constructor
  · intro h
    obtain ⟨i, q1, q2⟩ := key h
    simp only [impl_arePegs, slices_ContainsFunc_impl_Peg_impl_Peg_arePegs, slices_IndexFunc_impl_Peg_impl_Peg_arePegs, gbind_eq, q2, Option.bind_some, ile_eq, q1, decide_true, Bool.not_true]
  · intro h
    have := (search (f := fun m v => slices_IndexFunc_impl_Peg_impl_Peg_arePegs_l0 L a m v) (r := none) (k := some (-1)) (lo := 0) (n := (a.length : Int)) (hi := (a.length : Int)) (bad := fun i => False) (Int.le_refl _) (fun m v h0 _ h => by
        simp only [slices_IndexFunc_impl_Peg_impl_Peg_arePegs_l0, ilt_eq, ilen_mapep, h, decide_false, cond_false]) (fun m v h0 h hb => hb.elim) (fun m v h0 hv _ => by
        simp only [slices_IndexFunc_impl_Peg_impl_Peg_arePegs_l0, ilt_eq, ilen_mapep, hv, decide_true, cond_true, gbind_eq, lget_pt h0 hv, Option.bind_some, impl_arePegs_1]
        rw [impl_IsPeg_eq.1 (h v h0 hv)]
        simp only [Option.bind_some, Bool.not_true, cond_false, iadd_eq]
        rw [wr_s (by omega)]) L 0 (Int.le_refl _) (by omega) (by omega) (by omega)).2 fun _ _ _ h => h
    simp only [impl_arePegs, slices_ContainsFunc_impl_Peg_impl_Peg_arePegs, slices_IndexFunc_impl_Peg_impl_Peg_arePegs, gbind_eq, this, Option.bind_some, ile_eq]
    rfl

theorem contains_eq {L : Nat} {b : List Pt} {p : Pt} (hs : (b.length : Int) ≤ 1000000) (hL : (b.length : Int) < L) :
    ((∃ j, 0 ≤ j ∧ j < (b.length : Int) ∧ pt b j = p) → slices_Contains_impl_Peg_impl_Peg L b p.x p.y = some true) ∧ ((∀ j, 0 ≤ j → j < (b.length : Int) → ¬ pt b j = p) → slices_Contains_impl_Peg_impl_Peg L b p.x p.y = some false) := by
  have heq : ∀ v, (decide (p.x = (pt b v).x) && decide (p.y = (pt b v).y)) = decide (pt b v = p) := fun v => by
    rw [Bool.eq_iff_iff, pt_eq_iff]
    simp [eq_comm]
  have key : (∃ j, 0 ≤ j ∧ j < (b.length : Int) ∧ pt b j = p) → ∃ i, 0 ≤ i ∧ slices_Index_impl_Peg_impl_Peg_l0 L b p.x p.y L 0 = some i := by
    have : ∀ (m : Nat) (v : Int), 0 ≤ v → (b.length : Int) - v < m → (∃ i, v ≤ i ∧ i < (b.length : Int) ∧ pt b i = p) → ∃ i, 0 ≤ i ∧ slices_Index_impl_Peg_impl_Peg_l0 L b p.x p.y m v = some i := by
      intro m
      induction m with
      | zero => rintro v h0 h ⟨i, q1, q2, _⟩; omega
      | succ m ih =>
        rintro v h0 h ⟨i, q1, q2, q3⟩
        have hv : v < (b.length : Int) := by omega
        simp only [slices_Index_impl_Peg_impl_Peg_l0, ilt_eq, ilen_mapep, hv, decide_true, cond_true, gbind_eq, lget_pt h0 hv, Option.bind_some, ieq_eq, heq]
        by_cases hi : pt b v = p
        · exact ⟨v, h0, by simp [hi]⟩
        · simp only [hi, decide_false, cond_false, iadd_eq]
          rw [wr_s (by omega)]
          refine ih (v + 1) (by omega) (by omega) ⟨i, ?_, q2, q3⟩
          by_cases e : i = v
          · subst e; exact absurd q3 hi
          · omega
    exact this L 0 (Int.le_refl _) (by omega)
  constructor
  · intro h
    obtain ⟨i, q1, q2⟩ := key h
    simp only [slices_Contains_impl_Peg_impl_Peg, slices_Index_impl_Peg_impl_Peg, gbind_eq, q2, Option.bind_some, ile_eq, q1, decide_true]
  · intro h
    have := (search (f := fun m v => slices_Index_impl_Peg_impl_Peg_l0 L b p.x p.y m v) (r := none) (k := some (-1)) (lo := 0) (n := (b.length : Int)) (hi := (b.length : Int)) (bad := fun i => False) (Int.le_refl _) (fun m v h0 _ h => by
        simp only [slices_Index_impl_Peg_impl_Peg_l0, ilt_eq, ilen_mapep, h, decide_false, cond_false]) (fun m v h0 h hb => hb.elim) (fun m v h0 hv _ => by
        simp only [slices_Index_impl_Peg_impl_Peg_l0, ilt_eq, ilen_mapep, hv, decide_true, cond_true, gbind_eq, lget_pt h0 hv, Option.bind_some, ieq_eq, heq, h v h0 hv, decide_false, cond_false, iadd_eq]
        rw [wr_s (by omega)]) L 0 (Int.le_refl _) (by omega) (by omega) (by omega)).2 fun _ _ _ h => h
    simp only [slices_Contains_impl_Peg_impl_Peg, slices_Index_impl_Peg_impl_Peg, gbind_eq, this, Option.bind_some, ile_eq]
    rfl

theorem pt_take {a : List Pt} {i j : Int} (h0 : 0 ≤ j) (hj : j < i) (h1 : i ≤ a.length) : pt (lsub a 0 i) j = pt a j := by
  have h2 := lsub0_get h0 hj h1
  have h3 : ((lsub a 0 i).length : Int) = i := by rw [lsub0 (by omega) h1]; simp; omega
  rw [lget_pt h0 (by omega)] at h2
  exact Option.some.inj h2

def BadM (a : List Pt) (i k : Int) : Prop := k + 1 ≠ i ∧ ¬ (i + 1 = (a.length : Int) ∧ k = 0) ∧ Meet (pt a k) (pt a (k + 1)) (pt a i) (pt a (i + 1))

theorem poly_l1 {L : Nat} {κ0 : (List Pt) → Int → (List Pt) → Int → Int → Option Bool} {a v17 : List Pt} {v18 i : Int} (hi : 0 ≤ i) (hil : i < a.length) (hs : (a.length : Int) ≤ 10) (hin : ∀ i, In (pt a i)) {m : Nat} (hm : i < m) :
    ((∃ k, 0 ≤ k ∧ k < i ∧ BadM a i k) → impl_IsPolygon_l1 L κ0 a a.length v17 v18 i (pt a i) m 0 = some false) ∧
    ((∀ k, 0 ≤ k → k < i → ¬ BadM a i k) → impl_IsPolygon_l1 L κ0 a a.length v17 v18 i (pt a i) m 0 = κ0 a a.length v17 v18 (i + 1)) := by
  have hne : a ≠ [] := by intro e; subst e; simp at hil; omega
  refine search (lo := 0) (n := i) (hi := i) (bad := BadM a i) (Int.le_refl _) ?_ ?_ ?_ m 0 (Int.le_refl _) (by omega) (by omega) (by omega)
  · intro m v h0 _ h
    simp only [impl_IsPolygon_l1, ilt_eq, h, decide_false, cond_false, iadd_eq]
    rw [wr_s (by omega)]
  · intro m v h0 h hb
    obtain ⟨b1, b2, b3⟩ := hb
    simp only [impl_IsPolygon_l1, ilt_eq, ieq_eq, iadd_eq, wr_s (i := v + 1) (by omega), wr_s (i := i + 1) (by omega), h, b1, decide_true, decide_false, cond_true, cond_false, gbind_eq,
      lget_pt h0 (show v < (a.length : Int) by omega), lget_pt (show 0 ≤ v + 1 by omega) (show v + 1 < (a.length : Int) by omega), impl_at_eq hne (show (a.length : Int) ≤ 1000000000 by omega), Option.bind_some]
    rw [impl_meet_eq (hin _).nr (hin _).nr (hin _).nr (hin _).nr]
    rw [decide_eq_true b3]
    by_cases c1 : i + 1 = (a.length : Int)
    · have c2 : ¬ v = 0 := fun e => b2 ⟨c1, e⟩
      simp [c1, c2]
    · simp [c1]
  · intro m v h0 h hb
    simp only [impl_IsPolygon_l1, ilt_eq, ieq_eq, iadd_eq, wr_s (i := v + 1) (by omega), wr_s (i := i + 1) (by omega), h, decide_true, decide_false, cond_true, cond_false, gbind_eq,
      lget_pt h0 (show v < (a.length : Int) by omega), lget_pt (show 0 ≤ v + 1 by omega) (show v + 1 < (a.length : Int) by omega), impl_at_eq hne (show (a.length : Int) ≤ 1000000000 by omega), Option.bind_some]
    rw [impl_meet_eq (hin _).nr (hin _).nr (hin _).nr (hin _).nr]
    by_cases c0 : v + 1 = i
    · simp only [c0, decide_true, cond_true]
    · simp only [c0, decide_false, cond_false]
      by_cases c1 : i + 1 = (a.length : Int)
      · by_cases c2 : v = 0
        · simp [c1, c2]
        · have b3 : ¬ Meet (pt a v) (pt a (v + 1)) (pt a i) (pt a (i + 1)) := fun e => hb ⟨c0, fun q => c2 q.2, e⟩
          simp [c1, c2]
          rw [← c1]
          simp [b3]
      · have b3 : ¬ Meet (pt a v) (pt a (v + 1)) (pt a i) (pt a (i + 1)) := fun e => hb ⟨c0, fun q => c1 q.1, e⟩
        simp [c1, b3]

theorem poly_l0 {L : Nat} {a : List Pt} (hn : 3 ≤ (a.length : Int)) (hs : (a.length : Int) ≤ 10) (hL : 20 < L) (hin : ∀ i, In (pt a i)) {m : Nat} (hm : (a.length : Int) < m) :
    ((∃ i, 0 ≤ i ∧ i < (a.length : Int) ∧ ((∃ k, 0 ≤ k ∧ k < i ∧ pt a k = pt a i) ∨ turn (pt a (i - 1)) (pt a i) (pt a (i + 1)) = 0 ∨ ∃ k, 0 ≤ k ∧ k < i ∧ BadM a i k)) → impl_IsPolygon_l0 L m a a.length a a.length 0 = some false) ∧
    ((∀ i, 0 ≤ i → i < (a.length : Int) → ¬ ((∃ k, 0 ≤ k ∧ k < i ∧ pt a k = pt a i) ∨ turn (pt a (i - 1)) (pt a i) (pt a (i + 1)) = 0 ∨ ∃ k, 0 ≤ k ∧ k < i ∧ BadM a i k)) → impl_IsPolygon_l0 L m a a.length a a.length 0 = some true) := by
  have hne : a ≠ [] := by intro e; subst e; simp at hn
  have hc : ∀ v, 0 ≤ v → v < (a.length : Int) → ((∃ k, 0 ≤ k ∧ k < v ∧ pt a k = pt a v) → slices_Contains_impl_Peg_impl_Peg L (lsub a 0 v) (pt a v).x (pt a v).y = some true) ∧ ((¬ ∃ k, 0 ≤ k ∧ k < v ∧ pt a k = pt a v) → slices_Contains_impl_Peg_impl_Peg L (lsub a 0 v) (pt a v).x (pt a v).y = some false) := by
    intro v h0 h
    have hl : ((lsub a 0 v).length : Int) = v := by rw [lsub0 (by omega) (by omega)]; simp; omega
    obtain ⟨h1, h2⟩ := contains_eq (L := L) (b := lsub a 0 v) (p := pt a v) (by omega) (by omega)
    rw [hl] at h1 h2
    refine ⟨fun ⟨k, q1, q2, q3⟩ => h1 ⟨k, q1, q2, by rw [pt_take q1 q2 (by omega)]; exact q3⟩, fun hno => h2 fun j q1 q2 q3 => hno ⟨j, q1, q2, ?_⟩⟩
    rwa [pt_take q1 q2 (by omega)] at q3
  refine search (f := fun m v => impl_IsPolygon_l0 L m a a.length a a.length v) (lo := 0) (n := (a.length : Int)) (hi := 10)
    (bad := fun i => (∃ k, 0 ≤ k ∧ k < i ∧ pt a k = pt a i) ∨ turn (pt a (i - 1)) (pt a i) (pt a (i + 1)) = 0 ∨ ∃ k, 0 ≤ k ∧ k < i ∧ BadM a i k) hs ?_ ?_ ?_ m 0 (Int.le_refl _) (by omega) (by omega) (by omega)
  · intro m v h0 _ h
    simp only [impl_IsPolygon_l0, ilt_eq, h, decide_false, cond_false]
  · intro m v h0 h hb
    simp only [impl_IsPolygon_l0, ilt_eq, ile_eq, isub_eq, iadd_eq, h, h0, ilen_mapep, show v ≤ (a.length : Int) by omega, decide_true, Bool.and_self, cond_true, gbind_eq, lget_pt h0 h, Option.bind_some, wr_s (i := v + 1) (by omega), wr_s (i := v - 1) (by omega),
      impl_at_eq hne (show (a.length : Int) ≤ 1000000000 by omega)]
    rw [impl_turn_eq (hin _).nr (hin _).nr (hin _).nr]
    by_cases c : ∃ k, 0 ≤ k ∧ k < v ∧ pt a k = pt a v
    · rw [(hc v h0 h).1 c]; rfl
    · rw [(hc v h0 h).2 c]
      simp only [Option.bind_some, cond_false, ieq_eq]
      by_cases t : turn (pt a (v - 1)) (pt a v) (pt a (v + 1)) = 0
      · simp only [t, decide_true, cond_true]
      · simp only [t, decide_false, cond_false]
        exact (poly_l1 h0 h hs hin (by omega)).1 ((hb.resolve_left c).resolve_left t)
  · intro m v h0 h hb
    simp only [impl_IsPolygon_l0, ilt_eq, ile_eq, isub_eq, iadd_eq, h, h0, ilen_mapep, show v ≤ (a.length : Int) by omega, decide_true, Bool.and_self, cond_true, gbind_eq, lget_pt h0 h, Option.bind_some, wr_s (i := v + 1) (by omega), wr_s (i := v - 1) (by omega),
      impl_at_eq hne (show (a.length : Int) ≤ 1000000000 by omega)]
    rw [impl_turn_eq (hin _).nr (hin _).nr (hin _).nr, (hc v h0 h).2 fun c => hb (.inl c)]
    have t : ¬ turn (pt a (v - 1)) (pt a v) (pt a (v + 1)) = 0 := fun e => hb (.inr (.inl e))
    simp only [Option.bind_some, cond_false, ieq_eq, t, decide_false]
    exact (poly_l1 h0 h hs hin (by omega)).2 fun k q1 q2 q3 => hb (.inr (.inr ⟨k, q1, q2, q3⟩))

open Classical in
theorem impl_IsPolygon_eq {L : Nat} {a : List Pt} (hL : 20 < L) : impl_IsPolygon L a = some (decide (Good_ a)) := by
  unfold impl_IsPolygon
  simp only [ilen_mapep, impl_within_eq, gbind_eq, Option.bind_some]
  by_cases hn : 3 ≤ (a.length : Int) ∧ (a.length : Int) ≤ 10
  · simp only [hn, and_self, decide_true, Bool.not_true, cond_false]
    have hne : a ≠ [] := by intro e; subst e; simp at hn
    have hl : 0 < (a.length : Int) := by omega
    by_cases hI : ∀ i, 0 ≤ i → i < (a.length : Int) → In (pt a i)
    · rw [(arePegs_eq (by omega) (by omega)).2 hI]
      simp only [Option.bind_some, Bool.not_true, cond_false]
      have hin := in_all hI hne
      by_cases h0 : ∃ i, 0 ≤ i ∧ i < (a.length : Int) ∧ ((∃ k, 0 ≤ k ∧ k < i ∧ pt a k = pt a i) ∨ turn (pt a (i - 1)) (pt a i) (pt a (i + 1)) = 0 ∨ ∃ k, 0 ≤ k ∧ k < i ∧ BadM a i k)
      · rw [(poly_l0 hn.1 hn.2 hL hin (by omega)).1 h0]
        have : ¬ Good_ a := fun g => by
          obtain ⟨i, q1, q2, q3⟩ := h0
          rcases q3 with ⟨k, q4, q5, q6⟩ | q3 | ⟨k, q4, q5, q6, q7, q8⟩
          · exact g.ne i k q4 q5 q2 q6
          · refine g.turn ((i - 1) % a.length) (Int.emod_nonneg _ (by omega)) (Int.emod_lt_of_pos _ hl) ?_
            rw [pt_congr (a := a) (i := (i - 1) % a.length) (j := i - 1) (Int.emod_emod_of_dvd _ (Int.dvd_refl _)), pt_congr (a := a) (i := (i - 1) % a.length + 1) (j := i) (by rw [Int.emod_add_emod]; congr 1; omega),
              pt_congr (a := a) (i := (i - 1) % a.length + 2) (j := i + 1) (by rw [Int.emod_add_emod]; congr 1; omega)]
            exact q3
          · exact g.apart k i q4 (by omega) q2 (by
              rcases Int.lt_or_le (i - k) ((a.length : Int) - 1) with h | h
              · exact h
              · exact absurd ⟨by omega, by omega⟩ q7) q8
        simp [this]
      · have h0' : ∀ i, 0 ≤ i → i < (a.length : Int) → ¬ ((∃ k, 0 ≤ k ∧ k < i ∧ pt a k = pt a i) ∨ turn (pt a (i - 1)) (pt a i) (pt a (i + 1)) = 0 ∨ ∃ k, 0 ≤ k ∧ k < i ∧ BadM a i k) := fun i q1 q2 q3 => h0 ⟨i, q1, q2, q3⟩
        rw [(poly_l0 hn.1 hn.2 hL hin (by omega)).2 h0']
        have : Good_ a := ⟨hn.1, hn.2, hI, fun i k q1 q2 q3 q4 => h0' i (by omega) q3 (.inl ⟨k, q1, q2, q4⟩), fun i q1 q2 q3 => by
            refine h0' ((i + 1) % a.length) (Int.emod_nonneg _ (by omega)) (Int.emod_lt_of_pos _ hl) (.inr (.inl ?_))
            rw [pt_congr (a := a) (i := (i + 1) % a.length - 1) (j := i) (by rw [Int.emod_sub_emod]; congr 1; omega), pt_congr (a := a) (i := (i + 1) % a.length) (j := i + 1) (Int.emod_emod_of_dvd _ (Int.dvd_refl _)),
              pt_congr (a := a) (i := (i + 1) % a.length + 1) (j := i + 2) (by rw [Int.emod_add_emod]; congr 1; omega)]
            exact q3, fun i k q1 q2 q3 q4 q5 => h0' k (by omega) q3 (.inr (.inr ⟨i, q1, by omega, by omega, fun q => by omega, q5⟩))⟩
        simp [this]
    · have : ¬ Good_ a := fun g => hI g.isIn
      rw [(arePegs_eq (by omega) (by omega)).1 (by
        refine Classical.byContradiction fun h => hI fun i q1 q2 => Classical.byContradiction fun e => h ⟨i, q1, q2, e⟩)]
      simp [this]
  · have : ¬ Good_ a := fun g => hn ⟨g.lo, g.hi⟩
    simp only [hn, this, decide_false, Bool.not_false, cond_true]
end Go.AM
