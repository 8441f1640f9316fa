import Derived.Test.YtlacambjecjdbaaAmM6
set_option linter.unusedVariables false
set_option linter.unusedSimpArgs false
set_option linter.unnecessarySimpa false
/-! The first one in order; lists told round. -/
namespace Go.AM
set_option linter.unusedVariables false

def Less (p q : Pt) : Prop := p.x < q.x ∨ (p.x = q.x ∧ p.y < q.y)
instance (p q : Pt) : Decidable (Less p q) := by unfold Less; infer_instance

theorem Less.trans {p q r : Pt} (h : Less p q) (k : Less q r) : Less p r := by unfold Less at *; omega
theorem Less.irrefl (p : Pt) : ¬ Less p p := by unfold Less; omega
theorem not_less_eq {p q : Pt} (h : ¬ Less p q) (k : ¬ Less q p) : p = q := by
  unfold Less at *
  cases p; cases q
  simp only [Pt.mk.injEq] at *
  omega
theorem not_less_trans {p q r : Pt} (h : ¬ Less p q) (k : ¬ Less q r) : ¬ Less p r := by unfold Less at *; omega

theorem spec_pgLess_eq {L : Nat} {p q : Pt} : spec_pgLess L p.x p.y q.x q.y = some (decide (Less p q)) := by
  unfold spec_pgLess Less
  simp only [ilt_eq, ieq_eq]
  by_cases h1 : p.x < q.x <;> by_cases h2 : p.x = q.x <;> by_cases h3 : p.y < q.y <;> simp [h1, h2, h3]

def cmpI (a b : Int) : Int := if a < b then -1 else if b < a then 1 else 0

theorem cmp_eq {L : Nat} {a b : Int} : cmp_Compare_int L a b = some (cmpI a b) := by
  unfold cmp_Compare_int cmp_isNaN_int cmpI
  simp only [gbind_eq, ieq_eq, decide_true, Bool.not_true, Option.bind_some, cond_false, ilt_eq]
  by_cases h1 : a < b <;> by_cases h2 : b < a <;> simp [h1, h2]

theorem impl_compare_eq {L : Nat} {p q : Pt} (hL : 5 < L) : ∃ c, impl_comparePegs L p.x p.y q.x q.y = some c ∧ (c < 0 ↔ Less p q) := by
  unfold impl_comparePegs cmp_Or_int
  simp only [gbind_eq, cmp_eq, Option.bind_some]
  obtain ⟨m, rfl⟩ : ∃ m, L = m + 3 := ⟨L - 3, by omega⟩
  have hl : ilen (List.map eI [cmpI p.x q.x, cmpI p.y q.y]) = 2 := by rw [ilen_eq]; rfl
  have g0 : lget [cmpI p.x q.x, cmpI p.y q.y] 0 = some (cmpI p.x q.x) := by rw [lget_eq]; rfl
  have g1 : lget [cmpI p.x q.x, cmpI p.y q.y] 1 = some (cmpI p.y q.y) := by rw [lget_eq]; rfl
  have w1 : wr .i64 (0 + 1) = 1 := wr_id (by decide)
  have w2 : wr .i64 (1 + 1) = 2 := wr_id (by decide)
  simp only [cmp_Or_int_l0, hl, ilt_eq, gbind_eq, g0, g1, iadd_eq, w1, w2, ieq_eq, Option.bind_some, show ((0 : Int) < 2) = True by simp, show ((1 : Int) < 2) = True by simp, show ((2 : Int) < 2) = False by simp, decide_true, decide_false, cond_true, cond_false]
  unfold cmpI Less
  by_cases h1 : p.x < q.x
  · exact ⟨-1, by simp [h1], by simp [h1]⟩
  · by_cases h2 : q.x < p.x
    · exact ⟨1, by simp [h1, h2], by simp [h1]; omega⟩
    · have e : p.x = q.x := by omega
      by_cases h3 : p.y < q.y
      · exact ⟨-1, by simp [h1, h2, h3], by simp [e, h3]⟩
      · by_cases h4 : q.y < p.y
        · exact ⟨1, by simp [h1, h2, h3, h4], by simp [e, h3]⟩
        · exact ⟨0, by simp [h1, h2, h3, h4], by simp [e, h3]⟩

/-- k is a first one in order -/
def IsMin (a : List Pt) (k : Int) (n : Int) : Prop := 0 ≤ k ∧ k < (a.length : Int) ∧ ∀ i, 0 ≤ i → i < n → ¬ Less (pt a i) (pt a k)

theorem impl_first_l0_eq {L : Nat} {a : List Pt} (hs : (a.length : Int) ≤ 900000) (hL : 5 < L) : ∀ (m : Nat) (k v : Int), IsMin a k v → 0 ≤ v → v ≤ a.length → (a.length : Int) - v < m →
    ∃ r, impl_first_l0 L a m k v = some r ∧ IsMin a r a.length ∧ ((∀ i, 0 ≤ i → i < (a.length : Int) → ¬ Less (pt a i) (pt a k)) → r = k)
  | 0, _, _, _, _, _, h => by omega
  | m + 1, k, v, hk, h0, hv, hm => by
    by_cases h : v < (a.length : Int)
    · obtain ⟨c, hc, hc2⟩ := impl_compare_eq (p := pt a v) (q := pt a k) hL
      simp only [impl_first_l0, ilt_eq, ilen_mapep, h, decide_true, cond_true, gbind_eq, lget_pt h0 h, lget_pt hk.1 hk.2.1, Option.bind_some, hc, iadd_eq, wr_s (i := v + 1) (by omega)]
      by_cases hl : Less (pt a v) (pt a k)
      · simp only [hc2.2 hl, decide_true, cond_true]
        obtain ⟨r, r1, r2, r3⟩ := impl_first_l0_eq (L := L) hs hL m v (v + 1) ⟨h0, h, fun i q1 q2 => by
          by_cases e : i = v
          · subst e; exact Less.irrefl _
          · exact fun q => hk.2.2 i q1 (by omega) (q.trans hl)⟩ (by omega) (by omega) (by omega)
        exact ⟨r, r1, r2, fun hh => absurd hl (hh v h0 h)⟩
      · simp only [show ¬ c < 0 from fun q => hl (hc2.1 q), decide_false, cond_false]
        obtain ⟨r, r1, r2, r3⟩ := impl_first_l0_eq (L := L) hs hL m k (v + 1) ⟨hk.1, hk.2.1, fun i q1 q2 => by
          by_cases e : i = v
          · subst e; exact hl
          · exact hk.2.2 i q1 (by omega)⟩ (by omega) (by omega) (by omega)
        exact ⟨r, r1, r2, r3⟩
    · have e : v = a.length := by omega
      subst e
      simp only [impl_first_l0, ilt_eq, ilen_mapep, h, decide_false, cond_false]
      exact ⟨k, rfl, hk, fun _ => rfl⟩

theorem impl_first_eq {L : Nat} {a : List Pt} (hn : a ≠ []) (hs : (a.length : Int) ≤ 900000) (hL : (a.length : Int) + 5 < L) : ∃ r, impl_first L a = some r ∧ IsMin a r a.length ∧ ((∀ i, 0 ≤ i → i < (a.length : Int) → ¬ Less (pt a i) (pt a 0)) → r = 0) := by
  have hl : 0 < (a.length : Int) := by have := List.length_pos_iff.2 hn; omega
  exact impl_first_l0_eq hs (by omega) L 0 0 ⟨Int.le_refl _, hl, fun i q1 q2 => by omega⟩ (Int.le_refl _) (by omega) (by omega)

/-- so many of a list told round, from one on, by a step -/
def tour (a : List Pt) (k s : Int) (n : Nat) : List Pt := (List.range n).map fun (j : Nat) => pt a (k + (j : Int) * s)

theorem fits_s {n : Int} {b : Nat} (h : n * b ≤ 140737488355328) : fits n b = true := by rw [fits_eq]; exact decide_eq_true h

theorem impl_told_l0_eq {L : Nat} {a : List Pt} {k s : Int} (hn : a ≠ []) (hs : (a.length : Int) ≤ 900000) (hk : 0 ≤ k ∧ k ≤ 900000) (hst : -1 ≤ s ∧ s ≤ 1) : ∀ (m : Nat) (v : Nat), v ≤ a.length → (a.length : Int) - v < m →
    impl_told_l0 L a k s m v (tour a k s v) = some (tour a k s a.length)
  | 0, _, _, h => by omega
  | m + 1, v, hv, hm => by
    by_cases h : (v : Int) < (a.length : Int)
    · have hb := mul_bd (x := v) (y := s) (A := 900000) (B := 1) (by omega) (by omega)
      have hlen : ((tour a k s v).length : Int) = v := by simp [tour]
      simp only [impl_told_l0, ilt_eq, ilen_mapep, h, decide_true, cond_true, gbind_eq, iadd_eq, imul_eq, wr_s (i := (v : Int) * s) (by omega), wr_id (n := k + (v : Int) * s) (by omega), impl_at_eq hn (show (a.length : Int) ≤ 1000000000 by omega), Option.bind_some, hlen, wr_s (i := (v : Int) + 1) (by omega)]
      rw [fits_s (by rw [ilen_eq]; simp; omega)]
      simp only [cond_true]
      have e : lcat (tour a k s v) [{ x := (pt a (k + v * s)).x, y := (pt a (k + v * s)).y }] = tour a k s (v + 1) := by
        rw [lcat_eq]; simp [tour, List.range_succ]
      rw [e]
      exact impl_told_l0_eq hn hs hk hst m (v + 1) (by omega) (by omega)
    · have e : v = a.length := by omega
      subst e
      simp only [impl_told_l0, ilt_eq, ilen_mapep, h, decide_false, cond_false]

theorem impl_told_eq {L : Nat} {a : List Pt} {k s : Int} (hn : a ≠ []) (hs : (a.length : Int) ≤ 900000) (hk : 0 ≤ k ∧ k ≤ 900000) (hst : -1 ≤ s ∧ s ≤ 1) (hL : (a.length : Int) < L) : impl_told L a k s = some (tour a k s a.length) := by
  unfold impl_told
  simp only [ile_eq, ilen_mapep, Int.le_refl, show 0 ≤ (a.length : Int) by omega, decide_true, Bool.and_self, fits_s (n := (a.length : Int)) (b := 16) (by omega), cond_true]
  have := impl_told_l0_eq (L := L) hn hs hk hst L 0 (by omega) (by omega)
  have e : tour a k s 0 = [] := rfl
  rw [e] at this
  rw [lrep_eq]
  exact this
end Go.AM
