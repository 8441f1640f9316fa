import Derived.Test.YtlacambjecjdbaaAmM10
set_option linter.unusedVariables false
set_option linter.unusedSimpArgs false
set_option linter.unnecessarySimpa false
/-! AroundOf: both sides the same. -/
namespace Go.AM
set_option linter.unusedVariables false

theorem conv_id {X p q g j D : Int} (hD : D * g = q - p) : g * (p + D * j - X) = (g - j) * (p - X) + j * (q - X) := by grind

theorem mkp_not_less {p q c : Pt} {j : Int} (h0 : 0 ≤ j) (h1 : j < step p q) (hp : ¬ Less p c) (hq : ¬ Less q c) : ¬ Less (mkp p q j) c := by
  have d1 : (q.x - p.x).tdiv (step p q) * step p q = q.x - p.x := Int.tdiv_mul_cancel (step_dvd p q).1
  have d2 : (q.y - p.y).tdiv (step p q) * step p q = q.y - p.y := Int.tdiv_mul_cancel (step_dvd p q).2
  have e1 := conv_id (X := c.x) (j := j) d1
  have e2 := conv_id (X := c.y) (j := j) d2
  unfold Less at *
  simp only [mkp]
  generalize (q.x - p.x).tdiv (step p q) * j = A at *
  generalize (q.y - p.y).tdiv (step p q) * j = B at *
  have hg : 0 < step p q := by omega
  have px : 0 ≤ p.x - c.x := by omega
  have qx : 0 ≤ q.x - c.x := by omega
  have m1 := Int.mul_nonneg (show 0 ≤ step p q - j by omega) px
  have m2 := Int.mul_nonneg h0 qx
  have hx : 0 ≤ p.x + A - c.x := by
    rcases Int.lt_or_le (p.x + A - c.x) 0 with h | h
    · have := Int.mul_neg_of_pos_of_neg hg h; omega
    · exact h
  rintro (h | ⟨h, h'⟩)
  · omega
  · have z : (step p q) * (p.x + A - c.x) = 0 := by rw [show p.x + A - c.x = 0 by omega, Int.mul_zero]
    have z1 : (step p q - j) * (p.x - c.x) = 0 := by omega
    have z2 : j * (q.x - c.x) = 0 := by omega
    have p0 : p.x - c.x = 0 := by rcases Int.mul_eq_zero.1 z1 with h | h <;> omega
    have py : 0 ≤ p.y - c.y := by omega
    have n1 := Int.mul_nonneg (show 0 ≤ step p q - j by omega) py
    have n2 : 0 ≤ j * (q.y - c.y) := by
      rcases Int.mul_eq_zero.1 z2 with h | h
      · rw [h]; simp
      · exact Int.mul_nonneg h0 (by omega)
    have hy : p.y + B - c.y < 0 := by omega
    have := Int.mul_neg_of_pos_of_neg hg hy
    omega

theorem allp_not_less {c : List Pt} {k : Pt} (h : ∀ i, ¬ Less (pt c i) k) : ∀ (n : Nat), ∀ x ∈ allp c n, ¬ Less x k
  | 0, x, hx => by simp [allp] at hx
  | n + 1, x, hx => by
    simp only [allp, List.mem_append] at hx
    rcases hx with hx | hx
    · exact allp_not_less h n x hx
    · simp only [seg, List.mem_map, List.mem_range] at hx
      obtain ⟨j, hj, rfl⟩ := hx
      exact mkp_not_less (by omega) (by omega) (h _) (h _)

theorem allp_head {c : List Pt} (hst : 0 < step (pt c 0) (pt c 1)) : ∀ n : Nat, 0 < n → (allp c n)[0]? = some (pt c 0)
  | 0, h => by omega
  | 1, _ => by
    have e : (0 : Int) + 1 = 1 := rfl
    simp only [allp, List.nil_append, show ((0 : Nat) : Int) = 0 from rfl, e]
    have : 0 < (step (pt c 0) (pt c 1)).toNat := by omega
    simp [seg, this, mkp]
  | n + 2, _ => by
    have ih := allp_head hst (n + 1) (by omega)
    have hlt := (List.getElem?_eq_some_iff.1 ih).1
    rw [allp, List.getElem?_append_left hlt]
    exact ih

theorem step_pos {p q : Pt} (h : p ≠ q) : 0 < step p q := by
  unfold step
  have : 0 < Nat.gcd (p.x - q.x).natAbs (p.y - q.y).natAbs := by
    rw [Nat.gcd_pos_iff]
    by_cases hx : p.x = q.x
    · right
      have : p.y ≠ q.y := fun e => h (by cases p; cases q; simp_all)
      omega
    · left; omega
  omega

theorem impl_pegsA_l0 {L : Nat} {c : List Pt} (hn : c ≠ []) (hs : (c.length : Int) ≤ 100) (hL : 600000 < L) (hin : ∀ i, Nr (pt c i)) (hmin : ∀ i, ¬ Less (pt c i) (pt c 0)) (hst : 0 < step (pt c 0) (pt c 1)) : ∀ (m : Nat) (i : Nat), i ≤ c.length → (c.length : Int) - i < m → impl_pegsAround_l0 L m c c c.length i (allp c i) = some (allp c c.length)
  | 0, _, _, h => by omega
  | m + 1, i, hi, hm => by
    have hl : 0 < (c.length : Int) := by have := List.length_pos_iff.2 hn; omega
    by_cases h : (i : Int) < (c.length : Int)
    · have ha := allp_len hin i
      simp only [impl_pegsAround_l0, impl_Peg_less, ilt_eq, iadd_eq, isub_eq, h, decide_true, cond_true, gbind_eq, lget_pt (show 0 ≤ (i : Int) by omega) h, Option.bind_some, wr_s (i := (i : Int) + 1) (by omega), impl_at_eq hn (show (c.length : Int) ≤ 1000000000 by omega)]
      rw [impl_steps_eq (hin _) (hin _) (by omega)]
      simp only [Option.bind_some]
      have hsb := sub_bd (hin (i + 1)) (hin i)
      rw [wr_id (n := (pt c (i + 1)).x - (pt c i).x) (by omega), wr_id (n := (pt c (i + 1)).y - (pt c i).y) (by omega)]
      have hstep := step_bd (hin i) (hin (i + 1))
      have := impl_seg (L := L) (κ0 := impl_pegsAround_l0 L m) (n := c.length) (v := i) (c := c) (c' := c) (w := allp c i) (hin i) (hin (i + 1)) (by omega) (by omega) L 0 (step_nn _ _) (by omega)
      have e0 : seg (pt c i) (pt c (i + 1)) 0 = [] := rfl
      rw [e0, List.append_nil] at this
      refine this.trans ?_
      exact impl_pegsA_l0 hn hs hL hin hmin hst m (i + 1) (by omega) (by omega)
    · have e : i = c.length := by omega
      subst e
      simp only [impl_pegsAround_l0, ilt_eq, h, decide_false, cond_false]
      have ha := allp_len hin c.length
      have hh := allp_head hst c.length (by omega)
      have hne : allp c c.length ≠ [] := by intro e; rw [e] at hh; simp at hh
      have hp0 : pt (allp c c.length) 0 = pt c 0 := by
        have hlt := (List.getElem?_eq_some_iff.1 hh).1
        have := pt_get (a := allp c c.length) (i := 0) (Int.le_refl _) (by omega)
        rw [show (0 : Int).toNat = 0 from rfl, hh] at this
        exact (Option.some.inj this).symm
      obtain ⟨r, r1, r2, r3⟩ := impl_first_eq (L := L) hne (by omega) (by omega)
      have hr := r3 fun i q1 q2 => by
        rw [hp0]
        exact allp_not_less hmin _ _ (List.mem_of_getElem? (pt_get q1 q2))
      subst hr
      rw [r1]
      simp only [gbind_eq, Option.bind_some]
      rw [impl_told_eq hne (by omega) (by omega) (by omega) (by omega)]
      have hlt := List.length_pos_iff.2 hne
      rw [← rot_eq (Int.le_refl 0) (by omega)]
      simp

theorem aroundOf_eq {L : Nat} {a : List Pt} (hL : 600000 < L) : ∃ r, spec_AroundOf L a = some r ∧ impl_AroundOf L a = some r ∧ ((r.1.length : Int) ≤ 400000) := by
  obtain ⟨b, h1, h2, h3⟩ := one_eq (L := L) (a := a) (by omega)
  unfold spec_AroundOf impl_AroundOf
  simp only [h1, h2, gbind_eq, Option.bind_some]
  cases b with
  | false => exact ⟨([], false), rfl, rfl, by simp⟩
  | true =>
    obtain ⟨g, cv⟩ := h3 rfl
    have g1 := g.lo
    have g2 := g.hi
    have hne : a ≠ [] := by intro e; subst e; simp at g1
    have hin : ∀ i, Nr (pt a i) := fun i => (in_all g.isIn hne i).nr
    have hz : area a ≠ 0 := fun e => by
      have q1 := cv 0 (Int.le_refl _) (by omega)
      have q2 := g.turn 0 (Int.le_refl _) (by omega)
      rw [e] at q1
      unfold sg at q1
      split at q1
      · simp at q1
      · split at q1
        · simp at q1
        · omega
    obtain ⟨c, c1, c2, ⟨k, s, hs, rfl, hk⟩⟩ := first_eq (L := L) hne (by omega) (by omega) hin g.ne (by omega) hz
    have hl : (tour a k s a.length).length = a.length := tour_len _ _ _ _
    have hcn : tour a k s a.length ≠ [] := by intro e; rw [e] at hl; simp at hl; omega
    have hpt : ∀ i, pt (tour a k s a.length) i = pt a (k + (i % (a.length : Int)) * s) := fun i => pt_tour hne
    have hcin : ∀ i, Nr (pt (tour a k s a.length) i) := fun i => by rw [hpt]; exact hin _
    have p0 : pt (tour a k s a.length) 0 = pt a k := by rw [hpt]; simp
    have hmin : ∀ i, ¬ Less (pt (tour a k s a.length) i) (pt (tour a k s a.length) 0) := fun i => by rw [p0, hpt]; exact isMin_all hne hk _
    have hst : 0 < step (pt (tour a k s a.length) 0) (pt (tour a k s a.length) 1) := by
      refine step_pos fun e => ?_
      rw [p0, hpt, Int.emod_eq_of_lt (by omega) (by omega)] at e
      have := pt_inj hne g.ne e
      have h5 := Int.emod_emod_of_dvd (k + 1 * s - k) (Int.dvd_refl (a.length : Int))
      have h6 : (k + 1 * s - k) % (a.length : Int) = 0 := by rw [Int.sub_emod, ← this]; simp
      have h7 : (a.length : Int) ∣ s := by
        have := Int.dvd_of_emod_eq_zero h6
        rwa [show k + 1 * s - k = s by omega] at this
      rcases hs with rfl | rfl
      · have := Int.le_of_dvd (by omega) h7; omega
      · have := Int.le_of_dvd (show (0 : Int) < 1 by omega) (Int.dvd_neg.1 (by simpa using h7)); omega
    have e1 := spec_around_l0 (L := L) hcn (by omega) (by omega) hcin L 0 (by omega) (by omega)
    have e2 := impl_pegsA_l0 (L := L) hcn (by omega) hL hcin hmin hst L 0 (by omega) (by omega)
    simp only [Bool.not_true, cond_false, spec_duAround, c1, c2, gbind_eq, Option.bind_some, impl_pegsAround, ilen_mapep]
    have z : allp (tour a k s a.length) 0 = [] := rfl
    rw [z] at e1 e2
    simp only [show ((0 : Nat) : Int) = 0 from rfl] at e1 e2
    rw [e1, e2]
    refine ⟨_, rfl, rfl, ?_⟩
    have := allp_len hcin (tour a k s a.length).length
    simp only
    omega
end Go.AM
