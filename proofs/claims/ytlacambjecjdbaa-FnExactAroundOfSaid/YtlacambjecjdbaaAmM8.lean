import Derived.Test.YtlacambjecjdbaaAmM7
set_option linter.unusedVariables false
set_option linter.unusedSimpArgs false
set_option linter.unnecessarySimpa false
/-! A polygon told from its first corner to the left. -/
namespace Go.AM
set_option linter.unusedVariables false

theorem tour_len (a : List Pt) (k s : Int) (n : Nat) : (tour a k s n).length = n := by simp [tour]

theorem tour_get {a : List Pt} {k s : Int} {n j : Nat} (h : j < n) : (tour a k s n)[j]? = some (pt a (k + (j : Int) * s)) := by simp [tour, h]

theorem pt_tour {a : List Pt} {k s i : Int} (hn : a ≠ []) : pt (tour a k s a.length) i = pt a (k + (i % (a.length : Int)) * s) := by
  have hl : 0 < (a.length : Int) := by have := List.length_pos_iff.2 hn; omega
  have h1 := Int.emod_nonneg i (show (a.length : Int) ≠ 0 by omega)
  have h2 := Int.emod_lt_of_pos i hl
  conv => lhs; unfold pt
  rw [tour_len, List.getD_eq_getElem?_getD, tour_get (by omega), Int.toNat_of_nonneg h1]
  rfl

theorem tour_ext {a b : List Pt} {k s k' s' : Int} {n : Nat} (h : ∀ j : Nat, j < n → pt a (k + (j : Int) * s) = pt b (k' + (j : Int) * s')) : tour a k s n = tour b k' s' n := by
  unfold tour
  refine List.map_congr_left fun j hj => h j (by simpa using hj)

theorem rot_eq {c : List Pt} {k : Int} (h0 : 0 ≤ k) (h1 : k < c.length) : c.drop k.toNat ++ c.take k.toNat = tour c k 1 c.length := by
  apply List.ext_getElem?
  intro j
  by_cases hj : j < c.length
  · rw [tour_get hj, List.getElem?_append]
    simp only [List.length_drop, List.getElem?_drop, List.getElem?_take]
    split
    · have := pt_get (a := c) (i := k + j) (by omega) (by omega)
      rw [show k + (j : Int) * 1 = k + j by omega, ← this]
      congr 1; omega
    · rw [if_pos (by omega)]
      have := pt_get (a := c) (i := k + j - c.length) (by omega) (by omega)
      rw [show k + (j : Int) * 1 = k + j by omega]
      have e : pt c (k + j) = pt c (k + j - c.length) := pt_congr (by simp)
      rw [e, ← this]
      congr 1; omega
  · rw [List.getElem?_eq_none (by simp; omega), List.getElem?_eq_none (by rw [tour_len]; omega)]

theorem back_l0 {L : Nat} {a : List Pt} (hn : a ≠ []) (hs : (a.length : Int) ≤ 900000) : ∀ (m : Nat) (v : Int), 0 ≤ v → v < a.length → v < m → spec_pgBack_l0 L a m v (tour a 0 (-1) (a.length - v.toNat)) = some (tour a 0 (-1) a.length)
  | 0, _, _, _, h => by omega
  | m + 1, v, h0, hv, hm => by
    by_cases h : 0 < v
    · simp only [spec_pgBack_l0, ilt_eq, ilen_mapep, h, decide_true, cond_true, gbind_eq, iadd_eq, isub_eq, lget_pt h0 hv, Option.bind_some, tour_len, wr_s (i := v - 1) (by omega)]
      rw [fits_s (by rw [ilen_eq]; simp; omega)]
      simp only [cond_true]
      have e : lcat (tour a 0 (-1) (a.length - v.toNat)) [pt a v] = tour a 0 (-1) (a.length - (v - 1).toNat) := by
        rw [lcat_eq, show a.length - (v - 1).toNat = (a.length - v.toNat) + 1 by omega]
        have : pt a v = pt a (0 + ((a.length - v.toNat : Nat) : Int) * (-1)) := by
          rw [show 0 + ((a.length - v.toNat : Nat) : Int) * (-1) = v - a.length by omega]
          exact pt_congr (by simp)
        rw [this]
        simp [tour, List.range_succ]
      rw [e]
      exact back_l0 hn hs m (v - 1) (by omega) (by omega) (by omega)
    · have e : v = 0 := by omega
      subst e
      simp only [spec_pgBack_l0, ilt_eq, h, decide_false, cond_false]
      rfl

theorem spec_pgBack_eq {L : Nat} {a : List Pt} (hn : a ≠ []) (hs : (a.length : Int) ≤ 900000) (hL : (a.length : Int) < L) : spec_pgBack L a = some (tour a 0 (-1) a.length) := by
  have hl : 0 < (a.length : Int) := by have := List.length_pos_iff.2 hn; omega
  unfold spec_pgBack
  simp only [gbind_eq, lget_pt (Int.le_refl 0) hl, Option.bind_some, ilen_mapep, isub_eq, wr_s (i := (a.length : Int) - 1) (by omega)]
  have := back_l0 (L := L) hn hs L ((a.length : Int) - 1) (by omega) (by omega) (by omega)
  have e : tour a 0 (-1) (a.length - ((a.length : Int) - 1).toNat) = [pt a 0] := by
    rw [show a.length - ((a.length : Int) - 1).toNat = 1 by omega]
    rfl
  rw [e] at this
  exact this

theorem first_l1 {L : Nat} {c : List Pt} (hs : (c.length : Int) ≤ 900000) : ∀ (m : Nat) (k v : Int), IsMin c k v → 0 ≤ v → v ≤ c.length → (c.length : Int) - v < m →
    ∃ r, IsMin c r c.length ∧ spec_pgFirst_l1 L c m k v = some (tour c r 1 c.length)
  | 0, _, _, _, _, _, h => by omega
  | m + 1, k, v, hk, h0, hv, hm => by
    by_cases h : v < (c.length : Int)
    · simp only [spec_pgFirst_l1, ilt_eq, ilen_mapep, h, decide_true, cond_true, gbind_eq, lget_pt h0 h, lget_pt hk.1 hk.2.1, Option.bind_some, iadd_eq, wr_s (i := v + 1) (by omega), spec_pgLess_eq]
      by_cases hl : Less (pt c v) (pt c k)
      · simp only [hl, decide_true, cond_true]
        exact first_l1 (L := L) hs m v (v + 1) ⟨h0, h, fun i q1 q2 => by
          by_cases e : i = v
          · subst e; exact Less.irrefl _
          · exact fun q => hk.2.2 i q1 (by omega) (q.trans hl)⟩ (by omega) (by omega) (by omega)
      · simp only [hl, decide_false, cond_false]
        exact first_l1 (L := L) hs m k (v + 1) ⟨hk.1, hk.2.1, fun i q1 q2 => by
          by_cases e : i = v
          · subst e; exact hl
          · exact hk.2.2 i q1 (by omega)⟩ (by omega) (by omega) (by omega)
    · have e : v = c.length := by omega
      subst e
      have k0 := hk.1
      have k1 := hk.2.1
      refine ⟨k, hk, ?_⟩
      simp only [spec_pgFirst_l1, ilt_eq, ile_eq, ilen_mapep, h, decide_false, cond_false, k0, show k ≤ (c.length : Int) by omega, decide_true, Bool.and_self, cond_true, iadd_eq]
      rw [fits_s (by simp only [ilen_eq, lsub_eq]; simp; omega), fits_s (by simp only [ilen_eq, lsub_eq, lcat_eq]; simp; omega)]
      simp only [cond_true]
      rw [← rot_eq k0 k1, lcat_eq, lcat_eq, lsub_eq, lsub_eq]
      congr 1
      rw [List.nil_append, List.take_of_length_le (by simp; omega)]
      simp

theorem first_l0 {L : Nat} {c : List Pt} (hs : (c.length : Int) ≤ 900000) : ∀ (m : Nat) (k v : Int), IsMin c k v → 0 ≤ v → v ≤ c.length → (c.length : Int) - v < m →
    ∃ r, IsMin c r c.length ∧ spec_pgFirst_l0 L c m k v = some (tour c r 1 c.length)
  | 0, _, _, _, _, _, h => by omega
  | m + 1, k, v, hk, h0, hv, hm => by
    by_cases h : v < (c.length : Int)
    · simp only [spec_pgFirst_l0, ilt_eq, ile_eq, ilen_mapep, h, h0, hk.1, hk.2.1, Bool.and_self, decide_true, cond_true, gbind_eq, lget_pt h0 h, lget_pt hk.1 hk.2.1, Option.bind_some, iadd_eq, wr_s (i := v + 1) (by omega), spec_pgLess_eq]
      by_cases hl : Less (pt c v) (pt c k)
      · simp only [hl, decide_true, cond_true]
        exact first_l0 (L := L) hs m v (v + 1) ⟨h0, h, fun i q1 q2 => by
          by_cases e : i = v
          · subst e; exact Less.irrefl _
          · exact fun q => hk.2.2 i q1 (by omega) (q.trans hl)⟩ (by omega) (by omega) (by omega)
      · simp only [hl, decide_false, cond_false]
        exact first_l0 (L := L) hs m k (v + 1) ⟨hk.1, hk.2.1, fun i q1 q2 => by
          by_cases e : i = v
          · subst e; exact hl
          · exact hk.2.2 i q1 (by omega)⟩ (by omega) (by omega) (by omega)
    · have e : v = c.length := by omega
      subst e
      have k0 := hk.1
      have k1 := hk.2.1
      refine ⟨k, hk, ?_⟩
      simp only [spec_pgFirst_l0, ilt_eq, ile_eq, ilen_mapep, h, decide_false, cond_false, k0, show k ≤ (c.length : Int) by omega, decide_true, Bool.and_self, cond_true, iadd_eq, isub_eq]
      rw [fits_s (by simp only [ilen_eq, lsub_eq]; simp; omega), fits_s (by simp only [ilen_eq, lsub_eq, lcat_eq]; simp; omega)]
      simp only [cond_true]
      rw [← rot_eq k0 k1, lcat_eq, lcat_eq, lsub_eq, lsub_eq]
      congr 1
      rw [List.nil_append, List.take_of_length_le (by simp; omega)]
      simp
end Go.AM
