import Derived.Test.YtlacambjecjdbaaAmM5
set_option linter.unusedVariables false
set_option linter.unusedSimpArgs false
set_option linter.unnecessarySimpa false
/-! Where a point is. -/
namespace Go.AM
set_option linter.unusedVariables false

theorem turn_swap (a b p : Pt) : turn b a p = - turn a b p := by unfold turn; grind

theorem mul_self_nn (x : Int) : 0 ≤ x * x := by
  rcases Int.le_total 0 x with h | h
  · exact Int.mul_nonneg h h
  · have := Int.mul_nonneg (show 0 ≤ -x by omega) (show 0 ≤ -x by omega); rw [Int.neg_mul_neg] at this; exact this

/-- on the straight line and between in height: on the line -/
theorem on_of {a b p : Pt} (ht : turn a b p = 0) (h1 : (a.y - p.y) * (b.y - p.y) ≤ 0) (h2 : a.y ≠ b.y) : OnL a b p := by
  refine ⟨ht, ?_, h1⟩
  have e : ((a.x - p.x) * (b.x - p.x)) * ((b.y - a.y) * (b.y - a.y)) = ((b.x - a.x) * (b.x - a.x)) * ((a.y - p.y) * (b.y - p.y)) := by
    unfold turn at ht
    have e1 : (b.x - a.x) * (p.y - a.y) = (b.y - a.y) * (p.x - a.x) := by omega
    grind
  have h3 := mul_self_nn (b.x - a.x)
  have h4 : ((b.x - a.x) * (b.x - a.x)) * ((a.y - p.y) * (b.y - p.y)) ≤ 0 := Int.mul_nonpos_of_nonneg_of_nonpos h3 h1
  have h5 : 0 < (b.y - a.y) * (b.y - a.y) := by
    have := mul_self_nn (b.y - a.y)
    rcases Int.lt_or_eq_of_le this with h | h
    · exact h
    · have := Int.mul_eq_zero.1 h.symm
      omega
  rw [← e] at h4
  rcases Int.le_total ((a.x - p.x) * (b.x - p.x)) 0 with h | h
  · exact h
  · rcases Int.lt_or_eq_of_le h with h | h
    · have := Int.mul_pos h h5
      omega
    · omega

theorem where_eq {L : Nat} {a : List Pt} {q : Pt} (hn : a ≠ []) (hs : (a.length : Int) ≤ 1000) (hin : ∀ i, Nr (pt a i)) (hq : Nr q) : ∀ (m : Nat) (v : Int) (s : Bool), 0 ≤ v → v ≤ a.length → (a.length : Int) - v < m →
    ∃ r, spec_pgWhere_l0 L a q.x q.y m s v = some r ∧ impl_where_l0 L a q.x q.y m (if s then 1 else -1) v = some r
  | 0, _, _, _, _, h => by omega
  | m + 1, v, s, h0, hv, hm => by
    have h3 : ¬ ((a.length : Int) = 0) := by have := List.length_pos_iff.2 hn; omega
    by_cases h : v < (a.length : Int)
    · obtain ⟨r, r1, r2⟩ := where_eq (L := L) hn hs hin hq m (v + 1) s (by omega) (by omega) (by omega)
      obtain ⟨r', r1', r2'⟩ := where_eq (L := L) hn hs hin hq m (v + 1) (!s) (by omega) (by omega) (by omega)
      have eneg : wr .i64 (0 - (if s then 1 else -1)) = (if (!s) = true then 1 else -1) := by cases s <;> exact wr_id (by decide)
      simp only [spec_pgWhere_l0, impl_where_l0, ilt_eq, ile_eq, ieq_eq, iadd_eq, isub_eq, beqb_eq, ilen_mapep, h, h3, decide_true, decide_false, cond_true, cond_false, gbind_eq, wr_s (i := v + 1) (by omega), lget_pt h0 h, lget_rem (show 0 ≤ v + 1 by omega) hn,
        impl_at_eq hn (show (a.length : Int) ≤ 1000000000 by omega), Option.bind_some]
      rw [spec_pgOn_eq (hin _) (hin _) hq, impl_isOn_eq (hin _) (hin _) hq, spec_pgTurn_eq (hin _) (hin _) hq, spec_pgTurn_eq (hin _) (hin _) hq, impl_turn_eq (hin _) (hin _) hq]
      simp only [Option.bind_some, eneg]
      generalize pt a v = A at *
      generalize pt a (v + 1) = B at *
      by_cases hO : OnL A B q
      · exact ⟨0, by simp [hO], by simp [hO]⟩
      · simp only [hO, decide_false, cond_false]
        rw [turn_swap A B q]
        have hz : turn A B q = 0 → ¬ ((A.y - q.y) * (B.y - q.y) ≤ 0 ∧ A.y ≠ B.y) := fun e h => hO (on_of e h.1 h.2)
        rw [mul_le0] at hz
        by_cases c1 : B.y < A.y
        · simp only [c1, decide_true, cond_true]
          by_cases c2 : B.y ≤ q.y
          · by_cases c3 : q.y < A.y
            · have c4 : ¬ q.y < B.y := by omega
              have c5 : ¬ A.y < B.y := by omega
              by_cases c6 : 0 < turn A B q
              · have c7 : ¬ turn A B q < 0 := by omega
                exact ⟨r, by simp [c2, c3, c7, r1], by simp [c3, c4, c5, c6, r2]⟩
              · have c7 : turn A B q < 0 := by
                  have : turn A B q ≠ 0 := fun e => hz e ⟨by omega, by omega⟩
                  omega
                exact ⟨r', by simp [c2, c3, c7, r1'], by simpa [c3, c4, c5, c6] using r2'⟩
            · have c4 : ¬ q.y < B.y := by omega
              exact ⟨r, by simp [c2, c3, r1], by simp [c3, c4, r2]⟩
          · have c3 : q.y < A.y := by omega
            have c4 : q.y < B.y := by omega
            exact ⟨r, by simp [c2, r1], by simp [c3, c4, r2]⟩
        · simp only [c1, decide_false, cond_false]
          by_cases c2 : A.y ≤ q.y
          · have c3 : ¬ q.y < A.y := by omega
            by_cases c4 : q.y < B.y
            · have c5 : A.y < B.y := by omega
              by_cases c6 : 0 < turn A B q
              · exact ⟨r', by simp [c2, c4, c6, r1'], by simpa [c3, c4, c5, c6] using r2'⟩
              · exact ⟨r, by simp [c2, c4, c6, r1], by simp [c3, c4, c5, c6, r2]⟩
            · exact ⟨r, by simp [c2, c4, r1], by simp [c3, c4, r2]⟩
          · have c3 : q.y < A.y := by omega
            have c4 : q.y < B.y := by omega
            exact ⟨r, by simp [c2, r1], by simp [c3, c4, r2]⟩
    · simp only [spec_pgWhere_l0, impl_where_l0, ilt_eq, ilen_mapep, h, decide_false, cond_false]
      cases s
      · exact ⟨-1, rfl, rfl⟩
      · exact ⟨1, rfl, rfl⟩

/-- one inside: both sides tell the same -/
theorem one_eq {L : Nat} {a : List Pt} (hL : 3000 < L) : ∃ r, spec_duOne L a = some r ∧ impl_isDualist L a = some r ∧ (r = true → Good_ a ∧ Cvx a) := by
  classical
  unfold spec_duOne impl_isDualist
  rw [spec_pgGood_eq (by omega), impl_IsPolygon_eq (by omega)]
  simp only [gbind_eq, Option.bind_some]
  by_cases g : Good_ a
  · have hne : a ≠ [] := by intro e; subst e; have := g.lo; simp at this
    have hin : ∀ i, Nr (pt a i) := fun i => (in_all g.isIn hne i).nr
    have h1 := g.lo
    have h2 := g.hi
    simp only [g, decide_true, Bool.not_true, cond_true, cond_false]
    unfold impl_isOneInside
    rw [spec_pgConvex_eq (by omega) (by omega) (by omega) hin, impl_isConvex_eq (by omega) (by omega) (by omega) hin, (inner_eq (by omega) (by omega) hL hin).1, (inner_eq (by omega) (by omega) hL hin).2]
    simp only [gbind_eq, Option.bind_some, ieq_eq, ilt_eq]
    by_cases c : Cvx a
    · simp only [c, decide_true, Bool.not_true, cond_true, cond_false]
      by_cases i : inside a = 1
      · simp only [i, decide_true, Bool.not_true, cond_true, cond_false]
        obtain ⟨r, r1, r2⟩ := where_eq (L := L) (q := ⟨0, 0⟩) hne (by omega) hin (by unfold Nr; simp) L 0 false (Int.le_refl _) (by omega) (by omega)
        have e1 : spec_pgWhere L a 0 0 = some r := r1
        have e2 : impl_where L a 0 0 = some r := r2
        rw [e1, e2]
        exact ⟨decide (0 < r), rfl, rfl, fun _ => ⟨trivial, trivial⟩⟩
      · simp only [i, decide_false, Bool.not_false, cond_true, cond_false]
        exact ⟨false, rfl, rfl, fun h => by cases h⟩
    · simp only [c, decide_false, Bool.not_false, cond_true, cond_false]
      exact ⟨false, rfl, rfl, fun h => by cases h⟩
  · simp only [g, decide_false, Bool.not_false, cond_true, cond_false]
    exact ⟨false, rfl, rfl, fun h => by cases h⟩
end Go.AM
