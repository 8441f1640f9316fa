import Derived.Test.YtlacambjecjdbaaAmM8
set_option linter.unusedVariables false
set_option linter.unusedSimpArgs false
set_option linter.unnecessarySimpa false
/-! Both sides tell a polygon from the same corner on. -/
namespace Go.AM
set_option linter.unusedVariables false

theorem pt_mod (a : List Pt) (i : Int) : pt a (i % (a.length : Int)) = pt a i := pt_congr (Int.emod_emod_of_dvd _ (Int.dvd_refl _))

theorem isMin_all {a : List Pt} {k : Int} (hn : a ≠ []) (h : IsMin a k a.length) (i : Int) : ¬ Less (pt a i) (pt a k) := by
  have hl : 0 < (a.length : Int) := by have := List.length_pos_iff.2 hn; omega
  have := h.2.2 (i % a.length) (Int.emod_nonneg _ (by omega)) (Int.emod_lt_of_pos _ hl)
  rwa [pt_mod] at this

theorem pt_inj {a : List Pt} (hn : a ≠ []) (hd : ∀ i k, 0 ≤ k → k < i → i < (a.length : Int) → pt a k ≠ pt a i) {i j : Int} (h : pt a i = pt a j) : i % (a.length : Int) = j % (a.length : Int) := by
  have hl : 0 < (a.length : Int) := by have := List.length_pos_iff.2 hn; omega
  rw [← pt_mod a i, ← pt_mod a j] at h
  have h1 := Int.emod_nonneg i (show (a.length : Int) ≠ 0 by omega)
  have h2 := Int.emod_lt_of_pos i hl
  have h3 := Int.emod_nonneg j (show (a.length : Int) ≠ 0 by omega)
  have h4 := Int.emod_lt_of_pos j hl
  rcases Int.lt_trichotomy (i % (a.length : Int)) (j % (a.length : Int)) with q | q | q
  · exact absurd h (hd _ _ h1 q h4)
  · exact q
  · exact absurd h.symm (hd _ _ h3 q h2)

/-- a list told from its first one on: what both sides return -/
structure Told (a c : List Pt) : Prop where
  ex : ∃ k s : Int, (s = 1 ∨ s = -1) ∧ c = tour a k s a.length ∧ IsMin a k a.length

theorem first_eq {L : Nat} {a : List Pt} (hn : a ≠ []) (hs : (a.length : Int) ≤ 1000) (hL : 3000 < L) (hin : ∀ i, Nr (pt a i)) (hd : ∀ i k, 0 ≤ k → k < i → i < (a.length : Int) → pt a k ≠ pt a i) (h2 : 2 ≤ (a.length : Int)) (hz : area a ≠ 0) :
    ∃ c, spec_pgFirst L a = some c ∧ impl_tellFirst L a = some c ∧ Told a c := by
  have hl : 0 < (a.length : Int) := by have := List.length_pos_iff.2 hn; omega
  obtain ⟨k, k1, k2, _⟩ := impl_first_eq (L := L) hn (by omega) (by omega)
  have hsg := sg_bd (area a)
  have key : ∀ s : Int, (s = 1 ∨ s = -1) → sg (area a) = s → impl_tellFirst L a = some (tour a k s a.length) := by
    intro s h1 h2
    unfold impl_tellFirst
    simp only [k1, gbind_eq, Option.bind_some, impl_twice_eq hn (show (a.length : Int) ≤ 1000 by omega) (show (a.length : Int) < L by omega) hin, impl_sign_eq, h2]
    rw [impl_told_eq hn (by omega) ⟨k2.1, by have := k2.2.1; omega⟩ (by omega) (by omega)]
    rfl
  unfold spec_pgFirst
  rw [spec_pgArea_eq h2 hs (by omega) hin]
  simp only [gbind_eq, Option.bind_some, ilt_eq]
  by_cases hneg : area a < 0
  · simp only [hneg, decide_true, cond_true]
    rw [spec_pgBack_eq hn (by omega) (by omega)]
    simp only [Option.bind_some]
    have hbl : (tour a 0 (-1) a.length).length = a.length := tour_len _ _ _ _
    have hbn : tour a 0 (-1) a.length ≠ [] := by intro e; rw [e] at hbl; simp at hbl; omega
    obtain ⟨r, r1, r2⟩ := first_l0 (L := L) (c := tour a 0 (-1) a.length) (by omega) L 0 0 ⟨Int.le_refl _, by omega, fun i q1 q2 => by omega⟩ (Int.le_refl _) (by omega) (by omega)
    have hsg1 : sg (area a) = -1 := by unfold sg; rw [if_neg (by omega), if_pos hneg]
    have hpb : ∀ i, pt (tour a 0 (-1) a.length) i = pt a (-i) := fun i => by
      rw [pt_tour hn]
      apply pt_congr
      rw [Int.mul_neg_one, Int.zero_add]
      have := Int.emod_add_mul_ediv i (a.length : Int)
      conv => rhs; rw [← this, show -(i % (a.length : Int) + (a.length : Int) * (i / (a.length : Int))) = -(i % (a.length : Int)) + (a.length : Int) * (-(i / (a.length : Int))) by rw [Int.neg_add, Int.mul_neg]]
      rw [Int.add_mul_emod_self_left]
    have hmin : pt a (-r) = pt a k := by
      refine not_less_eq (isMin_all hn k2 _) fun q => ?_
      have := isMin_all hbn r1 (-k)
      rw [hpb, hpb, Int.neg_neg] at this
      exact this q
    have hmod := pt_inj hn hd hmin
    refine ⟨tour a k (-1) a.length, ?_, key (-1) (.inr rfl) hsg1, ⟨k, -1, .inr rfl, rfl, k2⟩⟩
    rw [r2, hbl]
    congr 1
    refine tour_ext fun j hj => ?_
    rw [hpb]
    apply pt_congr
    rw [show -(r + (j : Int) * 1) = -r + (-(j : Int)) by omega, show k + (j : Int) * -1 = k + (-(j : Int)) by omega, Int.add_emod, hmod, ← Int.add_emod]
  · simp only [hneg, decide_false, cond_false]
    obtain ⟨r, r1, r2⟩ := first_l1 (L := L) (c := a) (by omega) L 0 0 ⟨Int.le_refl _, by omega, fun i q1 q2 => by omega⟩ (Int.le_refl _) (by omega) (by omega)
    have hsg1 : sg (area a) = 1 := by unfold sg; rw [if_pos (by omega)]
    have hmin : pt a r = pt a k := not_less_eq (isMin_all hn k2 _) (isMin_all hn r1 _)
    have hmod := pt_inj hn hd hmin
    refine ⟨tour a k 1 a.length, ?_, key 1 (.inl rfl) hsg1, ⟨k, 1, .inl rfl, rfl, k2⟩⟩
    rw [r2]
    congr 1
    refine tour_ext fun j hj => ?_
    apply pt_congr
    rw [Int.add_emod, hmod, ← Int.add_emod]
end Go.AM
