import Derived.Test.YtokhceheoccfhaaAmM0
set_option linter.unusedVariables false
set_option linter.unusedSimpArgs false
set_option linter.unnecessarySimpa false
set_option linter.deprecated false
set_option linter.unusedSectionVars false
namespace Go.AM
set_option linter.unusedVariables false

theorem pop_round {L : Nat} {t : List Pt} {b : List Int} {n v7 v24 s0 s1 : Int} {p : Pt} {m : Nat} (hb : b.length = 3) (h0 : 0 ≤ v24) (h3 : v24 < 3) (hg : lget b v24 = some n) (ht : lget t v24 = some p) (hn : Ml n) (hp : In p)
    (hv : -10000000 ≤ v7 ∧ v7 ≤ 10000000) (hs0 : -200000000 ≤ s0 ∧ s0 ≤ 200000000) (hs1 : -200000000 ≤ s1 ∧ s1 ≤ 200000000) :
    impl_PegOfParts_l0 L t b (m + 1) v7 v24 s0 s1 = impl_PegOfParts_l0 L t b m (v7 + n) (v24 + 1) (s0 + n * p.x) (s1 + n * p.y) := by
  have hlen : ilen (List.map eI b) = 3 := by rw [ilen_eq]; simp [hb]
  have m1 := mul_bd (x := n) (y := p.x) (A := 1000000) (B := 40) hn hp.1
  have m2 := mul_bd (x := n) (y := p.y) (A := 1000000) (B := 40) hn hp.2
  have hn' : -1000000 ≤ n ∧ n ≤ 1000000 := hn
  rw [impl_PegOfParts_l0]
  unfold impl_Peg_plus
  simp only [hlen, ilt_eq, h3, decide_true, cond_true, hg, ht, gbind_eq, Option.bind_some, impl_within_eq, hn', and_self, Bool.not_true, cond_false, imul_eq, iadd_eq]
  rw [wr_id (n := n * p.x) (by omega), wr_id (n := n * p.y) (by omega), wr_id (n := s0 + n * p.x) (by omega), wr_id (n := s1 + n * p.y) (by omega), wr_id (n := v7 + n) (by omega), wr_id (n := v24 + 1) (by omega)]

theorem pop_bad {L : Nat} {t : List Pt} {b : List Int} {n v7 v24 s0 s1 : Int} {m : Nat} (hb : b.length = 3) (h3 : v24 < 3) (hg : lget b v24 = some n) (hn : ¬ Ml n) :
    impl_PegOfParts_l0 L t b (m + 1) v7 v24 s0 s1 = some (0, 0, false) := by
  have hlen : ilen (List.map eI b) = 3 := by rw [ilen_eq]; simp [hb]
  have hn' : ¬ (-1000000 ≤ n ∧ n ≤ 1000000) := hn
  rw [impl_PegOfParts_l0]
  simp only [hlen, ilt_eq, h3, decide_true, cond_true, hg, gbind_eq, Option.bind_some, impl_within_eq, hn', decide_false, Bool.not_false]

theorem pop_impl {L : Nat} {t : List Pt} {n0 n1 n2 : Int} (h : Tri t) (h0 : Ml n0) (h1 : Ml n1) (h2 : Ml n2) (hL : 20 < L) : impl_PegOfParts L t [n0, n1, n2] = some (pop t n0 n1 n2) := by
  have b := h.tb
  have hz := tri_ne h
  have g0 : lget [n0, n1, n2] 0 = some n0 := by rw [lget_eq]; rfl
  have g1 : lget [n0, n1, n2] 1 = some n1 := by rw [lget_eq]; rfl
  have g2 : lget [n0, n1, n2] 2 = some n2 := by rw [lget_eq]; rfl
  have hlen : ilen (List.map eI [n0, n1, n2]) = 3 := by rw [ilen_eq]; rfl
  obtain ⟨x1, x2, x3, _⟩ := lin3 h0 h1 h2 b.i0.1 b.i1.1 b.i2.1
  obtain ⟨y1, y2, y3, _⟩ := lin3 h0 h1 h2 b.i0.2 b.i1.2 b.i2.2
  have qx := quo_wr (X := n0 * (pt t 0).x + n1 * (pt t 1).x + n2 * (pt t 2).x) (A := area t) (by omega)
  have qy := quo_wr (X := n0 * (pt t 0).y + n1 * (pt t 1).y + n2 * (pt t 2).y) (A := area t) (by omega)
  obtain ⟨m, rfl⟩ : ∃ m, L = m + 4 := ⟨L - 4, by omega⟩
  have hln := b.ln
  unfold Ml at h0 h1 h2
  have r1 := pop_round (L := m + 4) (m := m + 3) (b := [n0, n1, n2]) rfl (show (0 : Int) ≤ 0 by omega) (by omega) g0 b.l0 h0 b.i0 (v7 := 0) (s0 := 0) (s1 := 0) (by omega) (by omega) (by omega)
  have r2 := pop_round (L := m + 4) (m := m + 2) (b := [n0, n1, n2]) rfl (show (0 : Int) ≤ 1 by omega) (by omega) g1 b.l1 h1 b.i1 (v7 := n0) (s0 := n0 * (pt t 0).x) (s1 := n0 * (pt t 0).y) (by omega) (by omega) (by omega)
  have r3 := pop_round (L := m + 4) (m := m + 1) (b := [n0, n1, n2]) rfl (show (0 : Int) ≤ 2 by omega) (by omega) g2 b.l2 h2 b.i2 (v7 := n0 + n1) (s0 := n0 * (pt t 0).x + n1 * (pt t 1).x) (s1 := n0 * (pt t 0).y + n1 * (pt t 1).y) (by omega) (by omega) (by omega)
  simp only [Int.zero_add, show (1 : Int) + 1 = 2 by omega, show (2 : Int) + 1 = 3 by omega] at r1 r2 r3
  unfold impl_PegOfParts
  simp only [(threes_eq (L := m + 4) (t := t) hL).2, h, decide_true, Bool.not_true, cond_false, gbind_eq, Option.bind_some, hlen, ieq_eq]
  rw [show m + 4 = (m + 3) + 1 by omega] at r1 ⊢
  rw [r1]
  rw [show m + 3 + 1 = m + 4 by omega] at *
  rw [r2, r3, impl_PegOfParts_l0]
  unfold pop
  simp only [hlen, ilt_eq, Int.lt_irrefl, decide_false, cond_false, gbind_eq, Option.bind_some, impl_twice_eq b.nn (show (t.length : Int) ≤ 1000 by omega) (show (t.length : Int) < ((m + 4 : Nat) : Int) by omega) b.nr, ieq_eq, hz, irem_eq, qx, qy]
  by_cases c1 : n0 + n1 + n2 = area t
  · by_cases c2 : (n0 * (pt t 0).x + n1 * (pt t 1).x + n2 * (pt t 2).x).tmod (area t) = 0
    · by_cases c3 : (n0 * (pt t 0).y + n1 * (pt t 1).y + n2 * (pt t 2).y).tmod (area t) = 0
      · by_cases c4 : In ⟨(n0 * (pt t 0).x + n1 * (pt t 1).x + n2 * (pt t 2).x).tdiv (area t), (n0 * (pt t 0).y + n1 * (pt t 1).y + n2 * (pt t 2).y).tdiv (area t)⟩
        · simp only [c1, c2, c3, c4, decide_true, Bool.not_true, cond_false, ((isPeg_eq (L := m + 4)).1 c4).1, Option.bind_some, if_true]
        · simp only [c1, c2, c3, c4, decide_true, Bool.not_true, cond_false, ((isPeg_eq (L := m + 4)).2 c4).1, Option.bind_some, Bool.not_false, cond_true, if_false]
      · simp only [c1, c2, c3, decide_true, decide_false, Bool.not_true, Bool.not_false, cond_false, cond_true]
    · simp only [c1, c2, decide_true, decide_false, Bool.not_true, Bool.not_false, cond_false, cond_true]
  · simp only [c1, decide_false, Bool.not_false, cond_true]
end Go.AM

namespace Go.AM
set_option linter.unusedVariables false

theorem pop_true {t : List Pt} {n0 n1 n2 : Int} (h : Tri t) (hp : (pop t n0 n1 n2).2.2 = true) : In ⟨(pop t n0 n1 n2).1, (pop t n0 n1 n2).2.1⟩ ∧ [n0, n1, n2] = prt t ⟨(pop t n0 n1 n2).1, (pop t n0 n1 n2).2.1⟩ := by
  have hz := tri_ne h
  have hA := tri_area h.len
  unfold pop at hp ⊢
  by_cases c1 : n0 + n1 + n2 = area t
  · by_cases c2 : (n0 * (pt t 0).x + n1 * (pt t 1).x + n2 * (pt t 2).x).tmod (area t) = 0
    · by_cases c3 : (n0 * (pt t 0).y + n1 * (pt t 1).y + n2 * (pt t 2).y).tmod (area t) = 0
      · by_cases c4 : In ⟨(n0 * (pt t 0).x + n1 * (pt t 1).x + n2 * (pt t 2).x).tdiv (area t), (n0 * (pt t 0).y + n1 * (pt t 1).y + n2 * (pt t 2).y).tdiv (area t)⟩
        · simp only [c1, c2, c3, c4, decide_true, Bool.not_true, cond_false, if_true]
          refine ⟨trivial, ?_⟩
          have mx := Int.tdiv_mul_cancel (Int.dvd_of_tmod_eq_zero c2)
          have my := Int.tdiv_mul_cancel (Int.dvd_of_tmod_eq_zero c3)
          generalize (n0 * (pt t 0).x + n1 * (pt t 1).x + n2 * (pt t 2).x).tdiv (area t) = qx at *
          generalize (n0 * (pt t 0).y + n1 * (pt t 1).y + n2 * (pt t 2).y).tdiv (area t) = qy at *
          unfold prt
          generalize hAA : area t = A at *
          generalize pt t 0 = a at *
          generalize pt t 1 = b at *
          generalize pt t 2 = c at *
          have e0 : turn ⟨qx, qy⟩ b c * A = n0 * A := by
            have : turn ⟨qx, qy⟩ b c * A = (b.x * c.y - b.y * c.x) * A + (qx * A) * (b.y - c.y) + (qy * A) * (c.x - b.x) := by unfold turn; simp only; grind
            rw [this, mx, my]
            have h2 : n0 * A = n0 * turn a b c := by rw [hA]
            rw [h2, ← c1]; unfold turn; grind
          have e1 : turn a ⟨qx, qy⟩ c * A = n1 * A := by
            have : turn a ⟨qx, qy⟩ c * A = (c.x * a.y - c.y * a.x) * A + (qx * A) * (c.y - a.y) + (qy * A) * (a.x - c.x) := by unfold turn; simp only; grind
            rw [this, mx, my]
            have h2 : n1 * A = n1 * turn a b c := by rw [hA]
            rw [h2, ← c1]; unfold turn; grind
          have e2 : turn a b ⟨qx, qy⟩ * A = n2 * A := by
            have : turn a b ⟨qx, qy⟩ * A = (a.x * b.y - a.y * b.x) * A + (qx * A) * (a.y - b.y) + (qy * A) * (b.x - a.x) := by unfold turn; simp only; grind
            rw [this, mx, my]
            have h2 : n2 * A = n2 * turn a b c := by rw [hA]
            rw [h2, ← c1]; unfold turn; grind
          rw [Int.eq_of_mul_eq_mul_right hz e0, Int.eq_of_mul_eq_mul_right hz e1, Int.eq_of_mul_eq_mul_right hz e2]
        · simp only [c1, c2, c3, c4, decide_true, Bool.not_true, cond_false, if_false] at hp; cases hp
      · simp only [c1, c2, c3, decide_true, decide_false, Bool.not_true, Bool.not_false, cond_false, cond_true] at hp; cases hp
    · simp only [c1, c2, decide_true, decide_false, Bool.not_true, Bool.not_false, cond_false, cond_true] at hp; cases hp
  · simp only [c1, decide_false, Bool.not_false, cond_true] at hp; cases hp

theorem pop_prt {t : List Pt} {p : Pt} (h : Tri t) (hp : In p) : pop t (turn p (pt t 1) (pt t 2)) (turn (pt t 0) p (pt t 2)) (turn (pt t 0) (pt t 1) p) = (p.x, p.y, true) := by
  have hz := tri_ne h
  have hA := tri_area h.len
  have s := parts_sum (pt t 0) (pt t 1) (pt t 2) p
  have sx := parts_x (pt t 0) (pt t 1) (pt t 2) p
  have sy := parts_y (pt t 0) (pt t 1) (pt t 2) p
  rw [← hA] at s sx sy
  unfold pop
  rw [s, sx, sy, Int.mul_tmod_right, Int.mul_tmod_right, Int.mul_tdiv_cancel_left _ hz, Int.mul_tdiv_cancel_left _ hz]
  simp only [decide_true, Bool.not_true, cond_false]
  exact if_pos hp

theorem turn_ml {a b c : Pt} (ha : In a) (hb : In b) (hc : In c) : Ml (turn a b c) := by
  unfold In at ha hb hc
  have m1 := mul_bd (x := b.x - a.x) (y := c.y - a.y) (A := 80) (B := 80) (by omega) (by omega)
  have m2 := mul_bd (x := b.y - a.y) (y := c.x - a.x) (A := 80) (B := 80) (by omega) (by omega)
  unfold Ml turn; omega

theorem pegOfParts_back {L : Nat} {t : List Pt} {p : Pt} (h : Tri t) (hp : In p) (hL : 20 < L) : impl_PegOfParts L t (prt t p) = some (p.x, p.y, true) := by
  have b := h.tb
  unfold prt
  rw [pop_impl h (turn_ml hp b.i1 b.i2) (turn_ml b.i0 hp b.i2) (turn_ml b.i0 b.i1 hp) hL, pop_prt h hp]

theorem len3 : ∀ {b : List Int}, b.length = 3 → ∃ n0 n1 n2, b = [n0, n1, n2]
  | [x, y, z], _ => ⟨x, y, z, rfl⟩

theorem pegOfParts_eq {L : Nat} {t : List Pt} {b : List Int} (hL : 20 < L) (hb3 : (b.length : Int) ≤ 1000) : ∃ r, spec_PegOfParts L t b = some r ∧ impl_PegOfParts L t b = some r ∧ (r.2.2 = true → Tri t ∧ In ⟨r.1, r.2.1⟩ ∧ b = prt t ⟨r.1, r.2.1⟩) := by
  obtain ⟨e1, e2⟩ := threes_eq (L := L) (t := t) hL
  have hlen : ilen (List.map eI b) = (b.length : Int) := by rw [ilen_eq]; simp
  by_cases h : Tri t
  · by_cases h3 : b.length = 3
    · obtain ⟨n0, n1, n2, rfl⟩ : ∃ n0 n1 n2, b = [n0, n1, n2] := by
        exact len3 h3
      have hl3 : ilen (List.map eI [n0, n1, n2]) = 3 := by rw [ilen_eq]; rfl
      by_cases hm : Ml n0 ∧ Ml n1 ∧ Ml n2
      · exact ⟨_, pop_spec h hm.1 hm.2.1 hm.2.2 hL, pop_impl h hm.1 hm.2.1 hm.2.2 hL, fun hp => ⟨h, pop_true h hp⟩⟩
      · refine ⟨(0, 0, false), ?_, ?_, fun e => by cases e⟩
        · have hAll : spec_l1All L [n0, n1, n2] (-1000000) 1000000 = some false := by
            rw [l1All_eq (by simp) (by simp; omega)]
            congr 1
            rw [decide_eq_false_iff_not]
            intro ha
            exact hm ⟨ha n0 (by simp), ha n1 (by simp), ha n2 (by simp)⟩
          unfold spec_PegOfParts
          simp only [e1, h, hl3, decide_true, Bool.not_true, cond_false, gbind_eq, Option.bind_some, ieq_eq, hAll, Bool.not_false, cond_true]
        · have tb := h.tb
          have g0 : lget [n0, n1, n2] 0 = some n0 := by rw [lget_eq]; rfl
          have g1 : lget [n0, n1, n2] 1 = some n1 := by rw [lget_eq]; rfl
          have g2 : lget [n0, n1, n2] 2 = some n2 := by rw [lget_eq]; rfl
          obtain ⟨m, rfl⟩ : ∃ m, L = m + 4 := ⟨L - 4, by omega⟩
          have key : impl_PegOfParts_l0 (m + 4) t [n0, n1, n2] (m + 4) 0 0 0 0 = some (0, 0, false) := by
            by_cases h0 : Ml n0
            · have r1 := pop_round (L := m + 4) (m := m + 3) (b := [n0, n1, n2]) rfl (show (0 : Int) ≤ 0 by omega) (by omega) g0 tb.l0 h0 tb.i0 (v7 := 0) (s0 := 0) (s1 := 0) (by omega) (by omega) (by omega)
              rw [show m + 4 = (m + 3) + 1 by omega] at r1 ⊢
              rw [r1]
              rw [show m + 3 + 1 = m + 4 by omega]
              simp only [Int.zero_add]
              have m1 := mul_bd (x := n0) (y := (pt t 0).x) (A := 1000000) (B := 40) h0 tb.i0.1
              have m2 := mul_bd (x := n0) (y := (pt t 0).y) (A := 1000000) (B := 40) h0 tb.i0.2
              have h0' := h0
              unfold Ml at h0'
              by_cases h1 : Ml n1
              · have r2 := pop_round (L := m + 4) (m := m + 2) (b := [n0, n1, n2]) rfl (show (0 : Int) ≤ 1 by omega) (by omega) g1 tb.l1 h1 tb.i1 (v7 := n0) (s0 := n0 * (pt t 0).x) (s1 := n0 * (pt t 0).y) (by omega) (by omega) (by omega)
                rw [show m + 3 = (m + 2) + 1 by omega, r2]
                have h2 : ¬ Ml n2 := fun h2 => hm ⟨h0, h1, h2⟩
                exact pop_bad (L := m + 4) (m := m + 1) rfl (by omega) (by rw [show (1 : Int) + 1 = 2 by omega]; exact g2) h2
              · exact pop_bad (L := m + 4) (m := m + 2) rfl (by omega) g1 h1
            · exact pop_bad (L := m + 4) (m := m + 3) rfl (by omega) g0 h0
          unfold impl_PegOfParts
          simp only [e2, h, hl3, decide_true, Bool.not_true, cond_false, gbind_eq, Option.bind_some, ieq_eq]
          exact key
    · refine ⟨(0, 0, false), ?_, ?_, fun e => by cases e⟩
      · unfold spec_PegOfParts
        simp only [e1, h, hlen, show ¬ (b.length : Int) = 3 by omega, decide_true, decide_false, Bool.not_true, Bool.not_false, cond_false, cond_true, gbind_eq, Option.bind_some, ieq_eq]
      · unfold impl_PegOfParts
        simp only [e2, h, hlen, show ¬ (b.length : Int) = 3 by omega, decide_true, decide_false, Bool.not_true, Bool.not_false, cond_false, cond_true, gbind_eq, Option.bind_some, ieq_eq]
  · refine ⟨(0, 0, false), ?_, ?_, fun e => by cases e⟩
    · unfold spec_PegOfParts
      simp only [e1, h, decide_false, Bool.not_false, cond_true, gbind_eq, Option.bind_some]
    · unfold impl_PegOfParts
      simp only [e2, h, decide_false, Bool.not_false, cond_true, gbind_eq, Option.bind_some]
end Go.AM

namespace Go.AM
set_option linter.unusedVariables false

theorem three_l0 {L : Nat} {r3 r4 r5 : Int × Int × Int × Int} {r6 : Bool × Int × Int} : ∀ (k m : Nat) (M : Int) (w : List Pt), w.length = 3 → k ≤ 3 → k < m → 2 ^ k * M ≤ 1000000 → 0 ≤ M → (∀ p ∈ w, (-M ≤ p.x ∧ p.x ≤ M) ∧ (-M ≤ p.y ∧ p.y ≤ M)) →
    ∃ w', spec_l1Cur_three_l0 L r3 r4 r5 r6 m (3 - k) w = some (w', r6.2.1, r6.2.2) ∧ w'.length = 3 ∧ ∀ p ∈ w', Wd p := by
  intro k
  induction k with
  | zero =>
    intro m M w hw _ hm hM h0 hp
    obtain ⟨m, rfl⟩ : ∃ q, m = q + 1 := ⟨m - 1, by omega⟩
    have hlen : ilen [AV.agg [AV.int IntKind.i64 r3.1, AV.int IntKind.i64 r3.2.1], AV.agg [AV.int IntKind.i64 r4.1, AV.int IntKind.i64 r4.2.1], AV.agg [AV.int IntKind.i64 r5.1, AV.int IntKind.i64 r5.2.1]] = 3 := by rw [ilen_eq]; rfl
    rw [spec_l1Cur_three_l0]
    simp only [hlen, ilt_eq, show ¬ (3 : Int) - ((0 : Nat) : Int) < 3 by omega, decide_false, cond_false]
    refine ⟨w, rfl, hw, fun p h => ?_⟩
    have := hp p h
    simp at hM
    unfold Wd; omega
  | succ k ih =>
    intro m M w hw hk hm hM h0 hp
    obtain ⟨m, rfl⟩ : ∃ q, m = q + 1 := ⟨m - 1, by omega⟩
    have hlen : ilen [AV.agg [AV.int IntKind.i64 r3.1, AV.int IntKind.i64 r3.2.1], AV.agg [AV.int IntKind.i64 r4.1, AV.int IntKind.i64 r4.2.1], AV.agg [AV.int IntKind.i64 r5.1, AV.int IntKind.i64 r5.2.1]] = 3 := by rw [ilen_eq]; rfl
    have hM' : 2 ^ k * (2 * M) ≤ 1000000 := by
      have : (2 : Int) ^ (k + 1) * M = 2 ^ k * (2 * M) := by rw [Int.pow_succ]; grind
      rwa [this] at hM
    have hMs : M ≤ 1000000 := by
      have hp' : (1 : Int) ≤ 2 ^ (k + 1) := by
        have : (0 : Int) < 2 ^ (k + 1) := Int.pow_pos (by omega)
        omega
      have := Int.mul_le_mul_of_nonneg_right hp' h0
      omega
    have i0 : (0 : Int) ≤ 3 - ((k + 1 : Nat) : Int) := by omega
    have i1 : (3 : Int) - ((k + 1 : Nat) : Int) < (w.length : Int) := by omega
    have hne : w ≠ [] := by intro e; subst e; simp at hw
    have hq := hp _ (pt_mem2 hne (3 - ((k + 1 : Nat) : Int)))
    have w1 : wr IntKind.i64 (iadd (3 - ((k + 1 : Nat) : Int)) 1) = 3 - (k : Int) := by rw [iadd_eq, wr_id (by omega)]; omega
    rw [spec_l1Cur_three_l0]
    simp only [hlen, ilt_eq, ile_eq, ilen_mapep, show (3 : Int) - ((k + 1 : Nat) : Int) < 3 by omega, i0, i1, decide_true, Bool.and_self, cond_true, lget_pt i0 i1, gbind_eq, Option.bind_some, w1, imul_eq]
    rw [wr_id (n := 2 * (pt w (3 - ((k + 1 : Nat) : Int))).x) (by omega), wr_id (n := 2 * (pt w (3 - ((k + 1 : Nat) : Int))).y) (by omega)]
    refine ih m (2 * M) _ (by rw [lset_eq]; simpa using hw) (by omega) (by omega) hM' (by omega) fun p hp' => ?_
    rw [lset_eq] at hp'
    rcases List.mem_or_eq_of_mem_set hp' with h | h
    · have := hp p h; omega
    · rw [h]; simp only; omega

theorem three_dr {L : Nat} {a : List Int} {t s n : Int} (hb : By a) (ht : 0 ≤ t ∧ t ≤ 200000) (hn : 1 ≤ n ∧ n ≤ 20) (hL : 1000 < L) : ∃ r t' s', spec_l1Cur_three L a t s n = some (r, t', s') ∧ (r.length : Int) ≤ 30 ∧ (∀ p ∈ r, Wd p) ∧ t ≤ t' ∧ t' ≤ t + 400 := by
  have inwd : ∀ p, In p → Wd p := fun p h => by unfold In at h; unfold Wd; omega
  obtain ⟨k, t1, s1, e1, k0, h1, h2⟩ := pick_dr (L := L) (s := s) (n := 12) hb (t := t) (by omega) (by omega)
  unfold spec_l1Cur_three
  simp only [e1, gbind_eq, Option.bind_some, ieq_eq]
  by_cases c0 : k = 0
  · obtain ⟨r, t2, s2, e2, q1, q2, q3, q4⟩ := polygon_dr (L := L) (s := s1) (n := 4) hb (t := t1) (by omega) (by omega) hL
    simp only [c0, decide_true, cond_true, e2, Option.bind_some]
    exact ⟨_, _, _, rfl, q1, q2, by omega, by omega⟩
  · by_cases c1 : k = 1
    · obtain ⟨x, t2, s2, e2, x0, h3, h4⟩ := pick_dr (L := L) (s := s1) (n := 3) hb (t := t1) (by omega) (by omega)
      simp only [c0, c1, decide_true, decide_false, cond_true, cond_false, e2, Option.bind_some]
      refine ⟨_, _, _, rfl, by simp, fun p hp => ?_, by omega, by omega⟩
      simp only [List.mem_cons, List.not_mem_nil, or_false] at hp
      have wx : wr IntKind.i64 (isub x 1) = x - 1 := by rw [isub_eq, wr_id (by omega)]
      rcases hp with rfl | rfl | rfl <;> unfold Wd <;> simp only [wx] <;> omega
    · obtain ⟨x1, y1, t2, s2, e2, m2, h3, h4⟩ := surePeg_dr (L := L) (s := s1) (n := n) hb (t := t1) (by omega) hn
      obtain ⟨x2, y2, t3, s3, e3, m3, h5, h6⟩ := surePeg_dr (L := L) (s := s2) (n := n) hb (t := t2) (by omega) hn
      obtain ⟨x3, y3, t4, s4, e4, m4, h7, h8⟩ := surePeg_dr (L := L) (s := s3) (n := n) hb (t := t3) (by omega) hn
      obtain ⟨b, t5, s5, e5, h9, h10⟩ := one_dr (L := L) (s := s4) (n := 3) hb (t := t4) (by omega) (by omega)
      simp only [c0, c1, decide_false, cond_false, e2, e3, e4, e5, Option.bind_some]
      cases b with
      | true =>
        obtain ⟨w', e6, l6, p6⟩ := three_l0 (L := L) (r3 := (x1, y1, t2, s2)) (r4 := (x2, y2, t3, s3)) (r5 := (x3, y3, t4, s4)) (r6 := (true, t5, s5)) 3 L 40 [⟨x1, y1⟩, ⟨x2, y2⟩, ⟨x3, y3⟩] rfl (by omega) (by omega) (by decide) (by omega) (fun p hp => by
          simp only [List.mem_cons, List.not_mem_nil, or_false] at hp
          unfold In at m2 m3 m4
          rcases hp with rfl | rfl | rfl <;> simp only at * <;> omega)
        rw [show (3 : Int) - ((3 : Nat) : Int) = 0 by omega] at e6
        simp only [cond_true, e6]
        exact ⟨_, _, _, rfl, by omega, p6, by omega, by omega⟩
      | false =>
        simp only [cond_false]
        refine ⟨_, _, _, rfl, by simp, fun p hp => ?_, by omega, by omega⟩
        simp only [List.mem_cons, List.not_mem_nil, or_false] at hp
        rcases hp with rfl | rfl | rfl
        · exact inwd _ m2
        · exact inwd _ m3
        · exact inwd _ m4

theorem isEmpty_dr {L : Nat} {a : List Int} (hb : By a) (hL : 1000 < L) : ∃ r, spec_DrawIsEmptyThree L a = some r ∧ (r.length : Int) ≤ 30 := by
  obtain ⟨r, t1, s1, e1, l1, _, _, _⟩ := three_dr (L := L) (a := a) (t := 0) (s := 0) (n := 2) hb (by omega) (by omega) hL
  unfold spec_DrawIsEmptyThree
  simp only [e1, gbind_eq, Option.bind_some]
  exact ⟨r, rfl, l1⟩

theorem partsOf_dr {L : Nat} {a : List Int} (hb : By a) (hL : 1000 < L) : ∃ r x y, spec_DrawPartsOfPeg L a = some (r, x, y) ∧ (r.length : Int) ≤ 30 := by
  obtain ⟨r, t1, s1, e1, l1, _, h1, h2⟩ := three_dr (L := L) (a := a) (t := 0) (s := 0) (n := 3) hb (by omega) (by omega) hL
  unfold spec_DrawPartsOfPeg spec_DrawInCircle
  simp only [e1, gbind_eq, Option.bind_some, ilen_mapep, ieq_eq]
  by_cases c : (r.length : Int) = 3
  · obtain ⟨b, t2, s2, e2, h3, h4⟩ := one_dr (L := L) (s := s1) (n := 4) hb (t := t1) (by omega) (by omega)
    simp only [c, decide_true, cond_true, e2, Option.bind_some]
    cases b with
    | true =>
      obtain ⟨x, t3, s3, e3, x0, _, _⟩ := pick_dr (L := L) (s := s2) (n := 3) hb (t := t2) (by omega) (by omega)
      simp only [cond_true, e3, Option.bind_some, ile_eq, ilt_eq, x0.1, x0.2, decide_true, Bool.and_self, lget_pt x0.1 (show x < (r.length : Int) by omega)]
      exact ⟨_, _, _, rfl, l1⟩
    | false =>
      obtain ⟨x, y, t3, s3, e3, _, _, _⟩ := peg_dr (L := L) (s := s2) hb (t := t2) (by omega)
      simp only [cond_false, e3, Option.bind_some]
      exact ⟨_, _, _, rfl, l1⟩
  · obtain ⟨x, y, t3, s3, e3, _, _, _⟩ := peg_dr (L := L) (s := s1) hb (t := t1) (by omega)
    simp only [c, decide_false, cond_false, e3, Option.bind_some]
    exact ⟨_, _, _, rfl, l1⟩

theorem pgList_l1 {L : Nat} {κ0 : List Pt → Int → List Pt → Option (List Pt)} {t : List Pt} {x : Int} (hn : t ≠ []) (hs : (t.length : Int) ≤ 1000) (hin : ∀ i, Nr (pt t i)) (hL : (t.length : Int) < L) (hx : -40 ≤ x ∧ x ≤ 40) : ∀ (k m : Nat) (y : Int) (w : List Pt), y + k = 41 → -40 ≤ y → k < m → (w.length : Int) + k ≤ 100000 →
    ∃ w', spec_pgList_l1 L κ0 t x m y w = κ0 t (wr IntKind.i64 (iadd x 1)) w' ∧ (w'.length : Int) ≤ w.length + k := by
  intro k
  induction k with
  | zero =>
    intro m y w hy h0 hm hw
    obtain ⟨m, rfl⟩ : ∃ q, m = q + 1 := ⟨m - 1, by omega⟩
    rw [spec_pgList_l1]
    simp only [ile_eq, show ¬ y ≤ 40 by omega, decide_false, cond_false]
    exact ⟨w, rfl, by omega⟩
  | succ k ih =>
    intro m y w hy h0 hm hw
    obtain ⟨m, rfl⟩ : ∃ q, m = q + 1 := ⟨m - 1, by omega⟩
    have hq : Nr ⟨x, y⟩ := by unfold Nr; simp only; omega
    have hwv := (where_val (L := L) hn hs hin hq hL).1
    simp only at hwv
    have wy : wr IntKind.i64 (iadd y 1) = y + 1 := by rw [iadd_eq, wr_id (by omega)]
    rw [spec_pgList_l1]
    simp only [ile_eq, show y ≤ 40 by omega, decide_true, cond_true, hwv, gbind_eq, Option.bind_some, ilt_eq, wy]
    by_cases h : 0 < wh t ⟨x, y⟩
    · have hf : fits (iadd (ilen (List.map ep w)) (ilen [AV.agg [AV.int IntKind.i64 x, AV.int IntKind.i64 y]])) 16 = true := by
        rw [ilen_mapep, ilen_eq, iadd_eq]; exact fits_s (by simp; omega)
      simp only [h, decide_true, cond_true, hf]
      obtain ⟨w', e, l⟩ := ih m (y + 1) (lcat w [⟨x, y⟩]) (by omega) (by omega) (by omega) (by rw [lcat_eq]; simp; omega)
      rw [lcat_eq] at l
      simp at l
      exact ⟨w', e, by omega⟩
    · simp only [h, decide_false, cond_false]
      obtain ⟨w', e, l⟩ := ih m (y + 1) w (by omega) (by omega) (by omega) (by omega)
      exact ⟨w', e, by omega⟩

theorem pgList_l0 {L : Nat} {t : List Pt} (hn : t ≠ []) (hs : (t.length : Int) ≤ 1000) (hin : ∀ i, Nr (pt t i)) (hL : 2000 < L) : ∀ (k m : Nat) (x : Int) (w : List Pt), x + k = 41 → -40 ≤ x → k < m → (w.length : Int) + 81 * k ≤ 10000 →
    ∃ w', spec_pgList_l0 L m t x w = some w' ∧ (w'.length : Int) ≤ 10000 := by
  intro k
  induction k with
  | zero =>
    intro m x w hx h0 hm hw
    obtain ⟨m, rfl⟩ : ∃ q, m = q + 1 := ⟨m - 1, by omega⟩
    rw [spec_pgList_l0]
    simp only [ile_eq, show ¬ x ≤ 40 by omega, decide_false, cond_false]
    exact ⟨w, rfl, by omega⟩
  | succ k ih =>
    intro m x w hx h0 hm hw
    obtain ⟨m, rfl⟩ : ∃ q, m = q + 1 := ⟨m - 1, by omega⟩
    obtain ⟨w', e, l⟩ := pgList_l1 (L := L) (κ0 := spec_pgList_l0 L m) (t := t) (x := x) hn hs hin (by omega) (by omega) 81 L (-40) w (by omega) (by omega) (by omega) (by omega)
    rw [spec_pgList_l0]
    have wx : wr IntKind.i64 (iadd x 1) = x + 1 := by rw [iadd_eq, wr_id (by omega)]
    simp only [ile_eq, show x ≤ 40 by omega, decide_true, cond_true, e, wx]
    exact ih m (x + 1) w' (by omega) (by omega) (by omega) (by omega)

theorem split_dr {L : Nat} {a : List Int} (hb : By a) (hL : 2000 < L) : ∃ r x y, spec_DrawSplitThree L a = some (r, x, y) ∧ (r.length : Int) ≤ 30 := by
  obtain ⟨r, t1, s1, e1, l1, _, h1, h2⟩ := three_dr (L := L) (a := a) (t := 0) (s := 0) (n := 5) hb (by omega) (by omega) (by omega)
  unfold spec_DrawSplitThree
  simp only [e1, gbind_eq, Option.bind_some, (threes_eq (L := L) (t := r) (by omega)).1]
  have fin : ∀ t2 s2, 0 ≤ t2 → t2 ≤ 1000 → ∃ x y t3 s3, spec_l1Cur_peg L a t2 s2 = some (x, y, t3, s3) := fun t2 s2 h0 h1 => by
    obtain ⟨x, y, t3, s3, e3, _⟩ := peg_dr (L := L) (a := a) (t := t2) (s := s2) hb (by omega)
    exact ⟨x, y, t3, s3, e3⟩
  by_cases h : Tri r
  · have tb := h.tb
    have hln := tb.ln
    obtain ⟨b, t2, s2, e2, h3, h4⟩ := one_dr (L := L) (s := s1) (n := 3) hb (t := t1) (by omega) (by omega)
    simp only [h, decide_true, cond_true, e2, Option.bind_some]
    cases b with
    | false =>
      obtain ⟨w, e3, l3⟩ := pgList_l0 (L := L) (t := r) tb.nn (by omega) tb.nr hL 81 L (-40) [] (by omega) (by omega) (by omega) (by simp)
      have e3' : spec_pgList L r = some w := e3
      simp only [Bool.not_false, cond_true, e3', Option.bind_some, ilen_mapep, ilt_eq]
      by_cases hw : 0 < (w.length : Int)
      · obtain ⟨x, t4, s4, e4, x0, _, _⟩ := pick_dr (L := L) (s := s2) (n := (w.length : Int)) hb (t := t2) (by omega) (by omega)
        simp only [hw, decide_true, cond_true, e4, Option.bind_some, ile_eq, x0.1, x0.2, Bool.and_self, lget_pt x0.1 x0.2]
        exact ⟨_, _, _, rfl, l1⟩
      · obtain ⟨x, y, t3, s3, e4⟩ := fin t2 s2 (by omega) (by omega)
        simp only [hw, decide_false, cond_false, e4, Option.bind_some]
        exact ⟨_, _, _, rfl, l1⟩
    | true =>
      obtain ⟨x, y, t3, s3, e4⟩ := fin t2 s2 (by omega) (by omega)
      simp only [Bool.not_true, cond_false, e4, Option.bind_some]
      exact ⟨_, _, _, rfl, l1⟩
  · obtain ⟨x, y, t3, s3, e4⟩ := fin t1 s1 (by omega) (by omega)
    simp only [h, decide_false, cond_false, e4, Option.bind_some]
    exact ⟨_, _, _, rfl, l1⟩
end Go.AM

namespace Go.AM
set_option linter.unusedVariables false

theorem pegOf_dr {L : Nat} {a : List Int} (hb : By a) (hL : 2000 < L) : ∃ r b, spec_DrawPegOfParts L a = some (r, b) ∧ (r.length : Int) ≤ 30 ∧ (b.length : Int) ≤ 10 := by
  obtain ⟨r, t1, s1, e1, l1, _, h1, h2⟩ := three_dr (L := L) (a := a) (t := 0) (s := 0) (n := 4) hb (by omega) (by omega) (by omega)
  unfold spec_DrawPegOfParts
  simp only [e1, gbind_eq, Option.bind_some, (threes_eq (L := L) (t := r) (by omega)).1]
  by_cases h : Tri r
  · have tb := h.tb
    have hln := tb.ln
    obtain ⟨x, y, t2, s2, e2, m2, h3, h4⟩ := surePeg_dr (L := L) (s := s1) (n := 6) hb (t := t1) (by omega) (by omega)
    have hp := (parts_eq (L := L) h m2).1
    simp only at hp
    obtain ⟨k, t3, s3, e3, k0, h5, h6⟩ := pick_dr (L := L) (s := s2) (n := 8) hb (t := t2) (by omega) (by omega)
    simp only [h, decide_true, Bool.not_true, cond_false, e2, hp, e3, Option.bind_some, ieq_eq]
    by_cases c0 : k = 0
    · obtain ⟨i, t4, s4, e4, i0, h7, h8⟩ := pick_dr (L := L) (s := s3) (n := 3) hb (t := t3) (by omega) (by omega)
      obtain ⟨j, t5, s5, e5, j0, _, _⟩ := pick_dr (L := L) (s := s4) (n := 3) hb (t := t4) (by omega) (by omega)
      have hlen : ilen (List.map eI (prt r ⟨x, y⟩)) = 3 := by rw [ilen_eq]; rfl
      have hlt : i.toNat < (prt r ⟨x, y⟩).length := by show i.toNat < 3; omega
      have hg : lget (prt r ⟨x, y⟩) i = some (prt r ⟨x, y⟩)[i.toNat] := by rw [lget_eq, if_pos i0.1, List.getElem?_eq_getElem hlt]
      simp only [c0, decide_true, cond_true, e4, e5, hlen, ile_eq, ilt_eq, i0.1, i0.2, Bool.and_self, hg, Option.bind_some, osame_same rfl]
      exact ⟨_, _, rfl, l1, by rw [lset_eq, List.length_set]; show ((3 : Nat) : Int) ≤ 10; omega⟩
    · by_cases c1 : k = 1
      · obtain ⟨i, t4, s4, e4, _, _, _⟩ := among_dr (L := L) (s := s3) (w := [1000000, 1000001, 0, -9223372036854775808]) hb (t := t3) (by omega) (by simp)
        simp only [c0, c1, decide_true, decide_false, cond_true, cond_false, e4, Option.bind_some]
        exact ⟨_, _, rfl, l1, by simp⟩
      · by_cases c2 : k = 2
        · obtain ⟨i, t4, s4, e4, _, _, _⟩ := pick_dr (L := L) (s := s3) (n := 9) hb (t := t3) (by omega) (by omega)
          simp only [c0, c1, c2, decide_true, decide_false, cond_true, cond_false, spec_pgArea_eq (L := L) (show 2 ≤ (r.length : Int) by omega) (show (r.length : Int) ≤ 1000 by omega) (show (r.length : Int) < L by omega) tb.nr, e4, Option.bind_some]
          exact ⟨_, _, rfl, l1, by simp⟩
        · simp only [c0, c1, c2, decide_false, cond_false]
          exact ⟨_, _, rfl, l1, by show ((3 : Nat) : Int) ≤ 10; omega⟩
  · simp only [h, decide_false, Bool.not_false, cond_true]
    exact ⟨_, _, rfl, l1, by simp⟩

def spl (t : List Pt) (q : Pt) : List (List Pt) := [[q, pt t 1, pt t 2], [pt t 0, q, pt t 2], [pt t 0, pt t 1, q]]

theorem split_eq {L : Nat} {t : List Pt} {x y : Int} (hL : 20 < L) : ∃ r, spec_SplitThree L t x y = some r ∧ impl_SplitThree L t x y = some r ∧ (r.1.length : Int) ≤ 3 ∧ (∀ l ∈ r.1, (l.length : Int) ≤ 3) ∧ (r.2 = true → Tri t ∧ In ⟨x, y⟩ ∧ 0 < wh t ⟨x, y⟩ ∧ r.1 = spl t ⟨x, y⟩) := by
  obtain ⟨e1, e2⟩ := threes_eq (L := L) (t := t) hL
  unfold spec_SplitThree impl_SplitThree
  simp only [e1, e2, gbind_eq, Option.bind_some]
  by_cases h : Tri t
  · have tb := h.tb
    have hln := tb.ln
    by_cases hp : In ⟨x, y⟩
    · obtain ⟨i1, i2⟩ := (isPeg_eq (L := L) (x := x) (y := y)).1 hp
      obtain ⟨w1, w2⟩ := where_val (L := L) tb.nn (show (t.length : Int) ≤ 1000 by omega) tb.nr hp.nr (show (t.length : Int) < L by omega)
      simp only at w1 w2
      have hw : wh t ⟨x, y⟩ = 0 ∨ wh t ⟨x, y⟩ = 1 ∨ wh t ⟨x, y⟩ = -1 := by
        unfold wh; split
        · exact .inl rfl
        · split
          · exact .inr (.inl rfl)
          · exact .inr (.inr rfl)
      by_cases c : wh t ⟨x, y⟩ = 1
      · simp only [h, decide_true, Bool.not_true, cond_false, i1, i2, w1, w2, c, ile_eq, ieq_eq, show ¬ (1 : Int) ≤ 0 by omega, decide_false, tb.l0, tb.l1, tb.l2, Option.bind_some]
        refine ⟨(spl t ⟨x, y⟩, true), rfl, rfl, by simp [spl], fun l hl => ?_, fun _ => ⟨trivial, hp, by omega, rfl⟩⟩
        simp only [spl, List.mem_cons, List.not_mem_nil, or_false] at hl
        rcases hl with e | e | e <;> subst e <;> simp
      · simp only [h, decide_true, Bool.not_true, cond_false, i1, i2, w1, w2, ile_eq, ieq_eq, c, show wh t ⟨x, y⟩ ≤ 0 by omega, decide_false, Bool.not_false, cond_true, Option.bind_some]
        exact ⟨([], false), rfl, rfl, by simp, (fun l hl => by cases hl), fun e => by cases e⟩
    · obtain ⟨i1, i2⟩ := (isPeg_eq (L := L) (x := x) (y := y)).2 hp
      simp only [h, decide_true, Bool.not_true, Bool.not_false, cond_false, cond_true, i1, i2, Option.bind_some]
      exact ⟨([], false), rfl, rfl, by simp, (fun l hl => by cases hl), fun e => by cases e⟩
  · simp only [h, decide_false, Bool.not_false, cond_true]
    exact ⟨([], false), rfl, rfl, by simp, (fun l hl => by cases hl), fun e => by cases e⟩

open Classical in
theorem isEmpty_eq {L : Nat} {t : List Pt} (hL : 20 < L) : spec_IsEmptyThree L t = some (decide (Tri t ∧ (area t).natAbs = 1), decide (Tri t)) ∧ impl_IsEmptyThree L t = some (decide (Tri t ∧ (area t).natAbs = 1), decide (Tri t)) := by
  obtain ⟨e1, e2⟩ := threes_eq (L := L) (t := t) hL
  unfold spec_IsEmptyThree impl_IsEmptyThree
  simp only [e1, e2, gbind_eq, Option.bind_some]
  by_cases h : Tri t
  · have tb := h.tb
    have hln := tb.ln
    have hA := turn_ml tb.i0 tb.i1 tb.i2
    rw [← tri_area h.len] at hA
    unfold Ml at hA
    simp only [h, decide_true, Bool.not_true, cond_false, true_and, spec_pgArea_eq (L := L) (show 2 ≤ (t.length : Int) by omega) (show (t.length : Int) ≤ 1000 by omega) (show (t.length : Int) < L by omega) tb.nr, impl_twice_eq (L := L) tb.nn (show (t.length : Int) ≤ 1000 by omega) (show (t.length : Int) < L by omega) tb.nr, Option.bind_some, spec_l1Abs_eq (L := L) (n := area t) (by omega), impl_size_eq (L := L) (n := area t) (by omega), ieq_eq]
    have : decide (((area t).natAbs : Int) = 1) = decide ((area t).natAbs = 1) := by rw [decide_eq_decide]; omega
    rw [this]
    exact ⟨rfl, rfl⟩
  · simp only [h, decide_false, Bool.not_false, cond_true, false_and, and_self]

open Classical in
theorem isHollow_eq {L : Nat} {t : List Pt} (hL : 3000 < L) : spec_IsHollowThree L t = some (decide (Tri t ∧ inside t = 0), decide (Tri t)) ∧ impl_IsHollowThree L t = some (decide (Tri t ∧ inside t = 0), decide (Tri t)) := by
  obtain ⟨e1, e2⟩ := threes_eq (L := L) (t := t) (by omega)
  unfold spec_IsHollowThree impl_IsHollowThree
  simp only [e1, e2, gbind_eq, Option.bind_some]
  by_cases h : Tri t
  · have tb := h.tb
    have hln := tb.ln
    obtain ⟨q1, q2⟩ := inner_eq (L := L) (a := t) (by omega) (by omega) hL tb.nr
    simp only [h, decide_true, Bool.not_true, cond_false, true_and, q1, q2, Option.bind_some, ieq_eq]
  · simp only [h, decide_false, Bool.not_false, cond_true, false_and, and_self]

/-- the number of points inside a triangle, in plain numbers; sides -/
theorem tri_pick {t : List Pt} (h : Tri t) : inside t = (((area t).natAbs : Int) + 2 - round t).tdiv 2 ∧ 3 ≤ round t ∧ (area t + round t) % 2 = 0 ∧ ((area t).natAbs = 1 → round t = 3) := by
  have tb := h.tb
  have hln := tb.ln
  have hA := turn_ml tb.i0 tb.i1 tb.i2
  rw [← tri_area h.len] at hA
  unfold Ml at hA
  have hz := tri_ne h
  have e3 : pt t ((2 : Nat) + 1) = pt t 0 := by rw [show (((2 : Nat) : Int) + 1) = 0 + (t.length : Int) by omega, pt_per]
  have hr : round t = step (pt t 0) (pt t 1) + step (pt t 1) (pt t 2) + step (pt t 2) (pt t 0) := by
    unfold round
    rw [h.len]
    simp only [sm]
    rw [e3]
    show 0 + step (pt t 0) (pt t (0 + 1)) + step (pt t 1) (pt t (1 + 1)) + step (pt t 2) (pt t 0) = _
    rw [show (0 : Int) + 1 = 1 by omega, show (1 : Int) + 1 = 2 by omega]; omega
  have dv : ∀ p q r : Pt, step p q ∣ turn p q r := fun p q r => by
    obtain ⟨d1, d2⟩ := step_dvd p q
    unfold turn
    exact Int.dvd_sub (Int.dvd_trans d1 ⟨_, rfl⟩) (Int.dvd_trans d2 ⟨_, rfl⟩)
  have a0 := tri_turns h.len 0
  have a1 := tri_turns h.len 1
  have a2 := tri_turns h.len 2
  have m3 : pt t (2 + 1) = pt t 0 := e3
  have m4 : pt t (2 + 2) = pt t 1 := by rw [show (2 : Int) + 2 = 1 + (t.length : Int) by omega, pt_per]
  have m5 : pt t (1 + 2) = pt t 0 := e3
  rw [m3, m4] at a2
  rw [m5, show (1 : Int) + 1 = 2 by omega] at a1
  rw [show (0 : Int) + 1 = 1 by omega, show (0 : Int) + 2 = 2 by omega] at a0
  have d0 := dv (pt t 0) (pt t 1) (pt t 2)
  have d1 := dv (pt t 1) (pt t 2) (pt t 0)
  have d2 := dv (pt t 2) (pt t 0) (pt t 1)
  rw [a0] at d0; rw [a1] at d1; rw [a2] at d2
  have nn : ∀ p q : Pt, 0 ≤ step p q := fun p q => by unfold step; omega
  have pos : ∀ {s : Int}, 0 ≤ s → s ∣ area t → 1 ≤ s := fun {s} h0 hd => by
    rcases Int.lt_or_le s 1 with h | h
    · obtain rfl : s = 0 := by omega
      exact absurd (Int.zero_dvd.1 hd) hz
    · exact h
  have p0 := pos (nn _ _) d0
  have p1 := pos (nn _ _) d1
  have p2 := pos (nn _ _) d2
  have sb : ∀ {p q : Pt}, In p → In q → step p q ≤ 4000 := fun hp hq => (step_bd hp.nr hq.nr).2
  have b0 := sb tb.i0 tb.i1
  have b1 := sb tb.i1 tb.i2
  have b2 := sb tb.i2 tb.i0
  refine ⟨?_, by omega, area_round t, fun h1 => ?_⟩
  · unfold inside
    have q1 : wr IntKind.i64 (((area t).natAbs : Int) + 2) = ((area t).natAbs : Int) + 2 := wr_id (by omega)
    have q2 : wr IntKind.i64 (((area t).natAbs : Int) + 2 - round t) = ((area t).natAbs : Int) + 2 - round t := wr_id (by omega)
    rw [q1, q2]
    have := tdiv_bd (a := ((area t).natAbs : Int) + 2 - round t) (b := 2) (A := 10000000) (by omega)
    rw [wr_id (by omega)]
  · have one : ∀ {s : Int}, 1 ≤ s → s ∣ area t → s = 1 := fun {s} h0 hd => by
      have h2 : s.natAbs ∣ (area t).natAbs := Int.natAbs_dvd_natAbs.2 hd
      rw [h1] at h2
      have := Nat.dvd_one.1 h2
      omega
    rw [hr, one p0 d0, one p1 d1, one p2 d2]
    rfl
end Go.AM

namespace Go.AM
set_option linter.unusedVariables false

theorem zSame_l0 {L : Nat} {a : List Int} (hs : (a.length : Int) ≤ 100000) : ∀ (m i : Nat), i ≤ a.length → a.length - i < m → laws_zSame_l0 L a a m i = some true := by
  have hlen : ilen (List.map eI a) = (a.length : Int) := by rw [ilen_eq]; simp
  intro m
  induction m with
  | zero => intro i _ h; omega
  | succ m ih =>
    intro i hi hm
    rw [laws_zSame_l0]
    by_cases h : (i : Int) < (a.length : Int)
    · have hlt : i < a.length := by omega
      have wi : wr IntKind.i64 (iadd (i : Int) 1) = ((i + 1 : Nat) : Int) := by rw [iadd_eq, wr_s (by omega)]; omega
      have hg : lget a (i : Int) = some a[i] := by rw [lget_eq, if_pos (by omega), Int.toNat_natCast, List.getElem?_eq_getElem hlt]
      simp only [hlen, ilt_eq, h, decide_true, cond_true, hg, gbind_eq, Option.bind_some, ieq_eq, Bool.not_true, cond_false, wi]
      exact ih (i + 1) (by omega) (by omega)
    · simp only [hlen, ilt_eq, h, decide_false, cond_false]
theorem zSame_eq {L : Nat} {a : List Int} (hs : (a.length : Int) ≤ 100000) (hL : (a.length : Int) < L) : laws_zSame L a a = some true := by
  unfold laws_zSame
  simp only [ieq_eq, decide_true, Bool.not_true, cond_false]
  exact zSame_l0 hs L 0 (by omega) (by omega)

theorem zLists_l0 {L : Nat} {a : List (List Pt)} (hs : (a.length : Int) ≤ 100000) (hl : ∀ l ∈ a, (l.length : Int) ≤ 1000) (hL : 1000 < L) : ∀ (m i : Nat), i ≤ a.length → a.length - i < m → laws_zLists_l0 L a a m i = some true := by
  have hlen : ilen (List.map eLP a) = (a.length : Int) := by rw [ilen_eq]; simp
  intro m
  induction m with
  | zero => intro i _ h; omega
  | succ m ih =>
    intro i hi hm
    rw [laws_zLists_l0]
    by_cases h : (i : Int) < (a.length : Int)
    · have hlt : i < a.length := by omega
      have wi : wr IntKind.i64 (iadd (i : Int) 1) = ((i + 1 : Nat) : Int) := by rw [iadd_eq, wr_s (by omega)]; omega
      have hg : lget a (i : Int) = some a[i] := by rw [lget_eq, if_pos (by omega), Int.toNat_natCast, List.getElem?_eq_getElem hlt]
      have hli := hl a[i] (List.getElem_mem hlt)
      simp only [hlen, ilt_eq, h, decide_true, cond_true, hg, gbind_eq, Option.bind_some, zPegs_eq (L := L) (a := a[i]) (by omega) (by omega), Bool.not_true, cond_false, wi]
      exact ih (i + 1) (by omega) (by omega)
    · simp only [hlen, ilt_eq, h, decide_false, cond_false]
theorem zLists_eq {L : Nat} {a : List (List Pt)} (hs : (a.length : Int) ≤ 1000) (hl : ∀ l ∈ a, (l.length : Int) ≤ 1000) (hL : 1000 < L) : laws_zLists L a a = some true := by
  unfold laws_zLists
  simp only [ieq_eq, decide_true, Bool.not_true, cond_false]
  exact zLists_l0 (by omega) hl hL L 0 (by omega) (by omega)

open Classical in
theorem part_j3 {L : Nat} {e : List Pt} (hL : 5000 < L) : laws_FnThreesParted_j3 L (decide (Tri e ∧ (area e).natAbs = 1)) (decide (Tri e)) (decide (Tri e ∧ inside e = 0)) e = some true := by
  unfold laws_FnThreesParted_j3
  by_cases h : Tri e
  · have tb := h.tb
    have hln := tb.ln
    obtain ⟨_, q2⟩ := inner_eq (L := L) (a := e) (by omega) (by omega) (by omega) tb.nr
    obtain ⟨pk, r3, par2, one⟩ := tri_pick h
    have i1 : impl_PegsInside L e = some (inside e, true) := by
      unfold impl_PegsInside
      rw [impl_IsPolygon_eq (by omega)]
      simp only [h.good, decide_true, Bool.not_true, cond_false, gbind_eq, Option.bind_some, q2]
    have i2 : impl_PegsOn L e = some (round e, true) := by
      unfold impl_PegsOn
      rw [impl_IsPolygon_eq (by omega)]
      simp only [h.good, decide_true, Bool.not_true, cond_false, gbind_eq, Option.bind_some, impl_around_eq (L := L) tb.nn (show (e.length : Int) ≤ 1000 by omega) (show 3000 < L by omega) tb.nr]
    have hz := tri_ne h
    simp only [h, decide_true, cond_true, true_and, i1, i2, gbind_eq, Option.bind_some, ieq_eq, beqb_eq, beq_self_eq_true]
    have k1 : inside e = 0 → ((area e).natAbs : Int) = round e - 2 := fun h0 => by
      rw [h0] at pk
      have h2 : (((area e).natAbs : Int) + 2 - round e).tdiv 2 = 0 := pk.symm
      have h5 := Int.tmod_add_mul_tdiv (((area e).natAbs : Int) + 2 - round e) 2
      rw [h2] at h5
      have h6 : ((((area e).natAbs : Int) + 2 - round e).tmod 2).natAbs = (((area e).natAbs : Int) + 2 - round e).natAbs % 2 := by rw [Int.natAbs_tmod]; rfl
      have h7 : (((area e).natAbs : Int) + 2 - round e).natAbs % 2 < 2 := Nat.mod_lt _ (by omega)
      rw [← h6] at h7
      generalize (((area e).natAbs : Int) + 2 - round e).tmod 2 = z at *
      omega
    by_cases c : inside e = 0
    · have h3 := k1 c
      simp only [c, decide_true, cond_true]
      congr 1
      rw [beq_iff_eq, decide_eq_decide]
      constructor
      · intro h1; exact one h1
      · intro h1; omega
    · have hn : ¬ (area e).natAbs = 1 := fun h1 => c (by
        have h4 := one h1
        rw [pk, h1, h4]; rfl)
      simp only [c, hn, decide_false, cond_false, beq_self_eq_true]
  · simp only [h, decide_false, cond_false]

open Classical in
theorem part_j2 {L : Nat} {e t : List Pt} {b : List Int} {r : Int × Int × Bool} (hr : r.2.2 = true → Tri t ∧ In ⟨r.1, r.2.1⟩ ∧ b = prt t ⟨r.1, r.2.1⟩) (hL : 5000 < L) :
    laws_FnThreesParted_j2 L r.2.2 (decide (Tri e ∧ (area e).natAbs = 1)) (decide (Tri e)) (decide (Tri e ∧ inside e = 0)) t b r.1 r.2.1 e = some true := by
  unfold laws_FnThreesParted_j2
  by_cases h : r.2.2 = true
  · obtain ⟨h1, h2, h3⟩ := hr h
    obtain ⟨q, _, q2, _, _, q5⟩ := partsOfPeg_eq (L := L) (t := t) (x := r.1) (y := r.2.1) (by omega)
    rw [q5 h1 h2] at q2
    subst h3
    simp only [h, cond_true, q2, gbind_eq, Option.bind_some, Bool.not_true, cond_false, zSame_eq (L := L) (a := prt t ⟨r.1, r.2.1⟩) (show ((prt t ⟨r.1, r.2.1⟩).length : Int) ≤ 100000 by show ((3 : Nat) : Int) ≤ 100000; omega) (show ((prt t ⟨r.1, r.2.1⟩).length : Int) < L by show ((3 : Nat) : Int) < L; omega)]
    exact part_j3 hL
  · simp only [Bool.not_eq_true] at h
    simp only [h, cond_false]
    exact part_j3 hL

theorem twice_tri {L : Nat} {a b c : Pt} (ha : In a) (hb : In b) (hc : In c) (ht : turn a b c ≠ 0) (hL : 20 < L) : impl_TwiceArea L [a, b, c] = some (turn a b c, true) := by
  have h := tri_good ha hb hc ht
  have tb := h.tb
  have hA : area [a, b, c] = turn a b c := tri_area rfl
  unfold impl_TwiceArea
  rw [impl_IsPolygon_eq (by omega)]
  simp only [h.good, decide_true, Bool.not_true, cond_false, gbind_eq, Option.bind_some, impl_twice_eq (L := L) tb.nn (by simp) (by simp; omega) tb.nr, hA]

open Classical in
theorem part_j1 {L : Nat} {s t e : List Pt} {x y : Int} {r6 : List (List Pt) × Bool} {b : List Int} {r9 : Int × Int × Bool} (h6 : r6.2 = true → Tri s ∧ In ⟨x, y⟩ ∧ 0 < wh s ⟨x, y⟩ ∧ r6.1 = spl s ⟨x, y⟩)
    (hr : r9.2.2 = true → Tri t ∧ In ⟨r9.1, r9.2.1⟩ ∧ b = prt t ⟨r9.1, r9.2.1⟩) (hL : 5000 < L) :
    laws_FnThreesParted_j1 L (s, x, y) r6 (t, b) r9 e (decide (Tri e ∧ (area e).natAbs = 1), decide (Tri e)) (decide (Tri e ∧ inside e = 0), decide (Tri e)) = some true := by
  have hj2 := part_j2 (L := L) (e := e) hr hL
  unfold laws_FnThreesParted_j1
  by_cases h : r6.2 = true
  · obtain ⟨hs, hq, hw, hspl⟩ := h6 h
    have tb := hs.tb
    obtain ⟨q, _, q2, _, _, q5⟩ := partsOfPeg_eq (L := L) (t := s) (x := x) (y := y) (by omega)
    rw [q5 hs hq] at q2
    obtain ⟨r61, r62⟩ := r6
    simp only at h hspl
    subst h; subst hspl
    have n0 := tri_strict hs hw 0
    have n1 := tri_strict hs hw 1
    have n2 := tri_strict hs hw 2
    have m3 : pt s (2 + 1) = pt s 0 := by rw [show (2 : Int) + 1 = 0 + (s.length : Int) by have := tb.ln; omega, pt_per]
    rw [m3] at n2
    rw [show (1 : Int) + 1 = 2 by omega] at n1
    rw [show (0 : Int) + 1 = 1 by omega] at n0
    have v0 : turn ⟨x, y⟩ (pt s 1) (pt s 2) ≠ 0 := by
      have : turn ⟨x, y⟩ (pt s 1) (pt s 2) = turn (pt s 1) (pt s 2) ⟨x, y⟩ := by unfold turn; grind
      rw [this]; exact n1
    have v1 : turn (pt s 0) ⟨x, y⟩ (pt s 2) ≠ 0 := by
      have : turn (pt s 0) ⟨x, y⟩ (pt s 2) = turn (pt s 2) (pt s 0) ⟨x, y⟩ := by unfold turn; grind
      rw [this]; exact n2
    have a0 := twice_tri (L := L) hq tb.i1 tb.i2 v0 (by omega)
    have a1 := twice_tri (L := L) tb.i0 hq tb.i2 v1 (by omega)
    have a2 := twice_tri (L := L) tb.i0 tb.i1 hq n0 (by omega)
    have hl1 : ilen (List.map eLP (spl s ⟨x, y⟩)) = 3 := by rw [ilen_eq]; rfl
    have hl2 : ilen (List.map eI (prt s ⟨x, y⟩)) = 3 := by rw [ilen_eq]; rfl
    have g0 : lget (spl s ⟨x, y⟩) 0 = some [⟨x, y⟩, pt s 1, pt s 2] := by rw [lget_eq]; rfl
    have g1 : lget (spl s ⟨x, y⟩) 1 = some [pt s 0, ⟨x, y⟩, pt s 2] := by rw [lget_eq]; rfl
    have g2 : lget (spl s ⟨x, y⟩) 2 = some [pt s 0, pt s 1, ⟨x, y⟩] := by rw [lget_eq]; rfl
    have f0 : lget (prt s ⟨x, y⟩) 0 = some (turn ⟨x, y⟩ (pt s 1) (pt s 2)) := by rw [lget_eq]; rfl
    have f1 : lget (prt s ⟨x, y⟩) 1 = some (turn (pt s 0) ⟨x, y⟩ (pt s 2)) := by rw [lget_eq]; rfl
    have f2 : lget (prt s ⟨x, y⟩) 2 = some (turn (pt s 0) (pt s 1) ⟨x, y⟩) := by rw [lget_eq]; rfl
    have w : ∀ i : Int, 0 ≤ i → i ≤ 10 → wr IntKind.i64 (iadd i 1) = i + 1 := fun i h0 h1 => by rw [iadd_eq, wr_s (by omega)]
    have key : ∀ m, laws_FnThreesParted_l4 L (spl s ⟨x, y⟩, true) (t, b) r9 e (decide (Tri e ∧ (area e).natAbs = 1), decide (Tri e)) (decide (Tri e ∧ inside e = 0), decide (Tri e)) (prt s ⟨x, y⟩, true) (m + 4) 0 = some true := by
      intro m
      rw [laws_FnThreesParted_l4]
      simp only [hl1, hl2, ilt_eq, ile_eq, show (0 : Int) < 3 by omega, Int.le_refl, decide_true, Bool.and_self, cond_true, g0, f0, a0, gbind_eq, Option.bind_some, Bool.not_true, cond_false, ieq_eq, w 0 (by omega) (by omega)]
      rw [laws_FnThreesParted_l4]
      simp only [hl1, hl2, ilt_eq, ile_eq, show (0 : Int) + 1 = 1 by omega, show (1 : Int) < 3 by omega, show (0 : Int) ≤ 1 by omega, decide_true, Bool.and_self, cond_true, g1, f1, a1, gbind_eq, Option.bind_some, Bool.not_true, cond_false, ieq_eq, w 1 (by omega) (by omega)]
      rw [laws_FnThreesParted_l4]
      simp only [hl1, hl2, ilt_eq, ile_eq, show (1 : Int) + 1 = 2 by omega, show (2 : Int) < 3 by omega, show (0 : Int) ≤ 2 by omega, decide_true, Bool.and_self, cond_true, g2, f2, a2, gbind_eq, Option.bind_some, Bool.not_true, cond_false, ieq_eq, w 2 (by omega) (by omega)]
      rw [laws_FnThreesParted_l4]
      simp only [hl1, ilt_eq, show (2 : Int) + 1 = 3 by omega, Int.lt_irrefl, decide_false, cond_false]
      exact hj2
    obtain ⟨m, hm⟩ : ∃ m, L = m + 4 := ⟨L - 4, by omega⟩
    have hk := key m
    rw [← hm] at hk
    simp only [cond_true, q2, gbind_eq, Option.bind_some, Bool.not_true, cond_false, hl1, ieq_eq, decide_true]
    exact hk
  · simp only [Bool.not_eq_true] at h
    simp only [h, cond_false]
    exact hj2
end Go.AM

namespace Go.AM
set_option linter.unusedVariables false

open Classical in
theorem part_j0 {L : Nat} {c : List Int} (hc : By c) (hL : 5000 < L) : laws_FnThreesParted_j0 L c = some true := by
  obtain ⟨s, x, y, d1, l1⟩ := split_dr (L := L) hc (by omega)
  obtain ⟨t, b, d2, l2, l2'⟩ := pegOf_dr (L := L) hc (by omega)
  obtain ⟨e, d3, l3⟩ := isEmpty_dr (L := L) hc (by omega)
  obtain ⟨r6, s1, s2, s3, s4, s5⟩ := split_eq (L := L) (t := s) (x := x) (y := y) (by omega)
  obtain ⟨r9, p1, p2, p3⟩ := pegOfParts_eq (L := L) (t := t) (b := b) (by omega) (by omega)
  obtain ⟨m1, m2⟩ := isEmpty_eq (L := L) (t := e) (by omega)
  obtain ⟨h1, h2⟩ := isHollow_eq (L := L) (t := e) (by omega)
  have hj := part_j1 (L := L) (e := e) s5 p3 hL
  have hempty : (Tri e ∧ (area e).natAbs = 1) → (Tri e ∧ inside e = 0) := fun ⟨q1, q2⟩ => by
    obtain ⟨pk, _, _, one⟩ := tri_pick q1
    refine ⟨q1, ?_⟩
    rw [pk, q2, one q2]; rfl
  unfold laws_FnThreesParted_j0
  simp only [d1, d2, d3, s1, s2, p1, p2, m1, m2, h1, h2, gbind_eq, Option.bind_some, beqb_eq, beq_self_eq_true, Bool.not_true, cond_false, zLists_eq (L := L) (a := r6.1) (by omega) (fun l hl => by have := s4 l hl; omega) (by omega), ieq_eq, decide_true, Bool.and_self]
  by_cases he : Tri e ∧ (area e).natAbs = 1
  · have hh := hempty he
    have hd1 : decide (Tri e ∧ (area e).natAbs = 1) = true := decide_eq_true he
    have hd2 : decide (Tri e ∧ inside e = 0) = true := decide_eq_true hh
    rw [hd1, hd2] at hj ⊢
    simp only [cond_true, Bool.not_true, cond_false]
    exact hj
  · have hd1 : decide (Tri e ∧ (area e).natAbs = 1) = false := decide_eq_false he
    rw [hd1] at hj ⊢
    simp only [cond_false]
    exact hj

/-- is the part's sign that of the area? -/
def okS (A x : Int) : Bool := decide ((0 < A ∧ 0 ≤ x) ∨ (A < 0 ∧ x ≤ 0))

theorem l5_round {L : Nat} {b : List Int} {t : List Pt} {p : Pt} {A W : Int} {m : Nat} {v : Bool} {i x : Int} (h0 : 0 ≤ i) (h3 : i < 3) (hg : lget (prt t p) i = some x) :
    laws_FnThreesParted_l5 L b (prt t p, true) (A, true) (W, true) (m + 1) v i = laws_FnThreesParted_l5 L b (prt t p, true) (A, true) (W, true) m (v && okS A x) (i + 1) := by
  have hl2 : ilen (List.map eI (prt t p)) = 3 := by rw [ilen_eq]; rfl
  have w : wr IntKind.i64 (iadd i 1) = i + 1 := by rw [iadd_eq, wr_s (by omega)]
  rw [laws_FnThreesParted_l5]
  simp only [hl2, ilt_eq, ile_eq, h3, h0, decide_true, Bool.and_self, cond_true, hg, gbind_eq, Option.bind_some, w]
  unfold okS
  cases v with
  | false => simp only [cond_false, Bool.false_and]
  | true =>
    simp only [cond_true, Bool.true_and]
    by_cases a1 : 0 < A
    · by_cases a2 : 0 ≤ x
      · simp only [a1, a2, decide_true, cond_true, and_self, true_or]
      · have a3 : ¬ A < 0 := by omega
        simp only [a1, a2, a3, decide_true, decide_false, cond_true, cond_false, and_false, false_and, or_self]
    · by_cases a3 : A < 0
      · simp only [a1, a3, decide_true, decide_false, cond_true, cond_false, false_and, true_and, false_or]
      · simp only [a1, a3, decide_false, cond_false, false_and, or_self]

open Classical in
theorem signs {t : List Pt} {p : Pt} (h : Tri t) : (okS (area t) (turn p (pt t 1) (pt t 2)) && okS (area t) (turn (pt t 0) p (pt t 2)) && okS (area t) (turn (pt t 0) (pt t 1) p)) = decide (0 ≤ wh t p) := by
  have hz := tri_ne h
  have hln := h.tb.ln
  have e0 : turn p (pt t 1) (pt t 2) = turn (pt t 1) (pt t 2) p := by unfold turn; grind
  have e1 : turn (pt t 0) p (pt t 2) = turn (pt t 2) (pt t 0) p := by unfold turn; grind
  have m3 : pt t (2 + 1) = pt t 0 := by rw [show (2 : Int) + 1 = 0 + (t.length : Int) by omega, pt_per]
  have all : ∀ P : Int → Prop, ((∀ i, P (turn (pt t i) (pt t (i + 1)) p)) ↔ (P (turn (pt t 0) (pt t 1) p) ∧ P (turn (pt t 1) (pt t 2) p) ∧ P (turn (pt t 2) (pt t 0) p))) := fun P => by
    constructor
    · intro hh
      have q0 := hh 0; have q1 := hh 1; have q2 := hh 2
      rw [m3] at q2
      exact ⟨q0, q1, q2⟩
    · rintro ⟨q0, q1, q2⟩ i
      have hm : ∀ k : Int, pt t k = pt t (k % 3) := fun k => by
        have := pt_mod t k
        rw [hln] at this
        exact this.symm
      rw [hm i, hm (i + 1)]
      have h3 : i % 3 = 0 ∨ i % 3 = 1 ∨ i % 3 = 2 := by omega
      rcases h3 with e | e | e
      · rw [e, show (i + 1) % 3 = 1 by omega]; exact q0
      · rw [e, show (i + 1) % 3 = 2 by omega]; exact q1
      · rw [e, show (i + 1) % 3 = 0 by omega]; exact q2
  rw [e0, e1, Bool.eq_iff_iff]
  simp only [Bool.and_eq_true, okS, decide_eq_true_eq]
  rw [tri_in h, all (fun z => 0 ≤ z), all (fun z => z ≤ 0)]
  omega

theorem part_l5 {L : Nat} {b : List Int} {t : List Pt} {p : Pt} (hb : By b) (h : Tri t) (hL : 5000 < L) : laws_FnThreesParted_l5 L b (prt t p, true) (area t, true) (wh t p, true) L true 0 = some true := by
  have f0 : lget (prt t p) 0 = some (turn p (pt t 1) (pt t 2)) := by rw [lget_eq]; rfl
  have f1 : lget (prt t p) 1 = some (turn (pt t 0) p (pt t 2)) := by rw [lget_eq]; rfl
  have f2 : lget (prt t p) 2 = some (turn (pt t 0) (pt t 1) p) := by rw [lget_eq]; rfl
  have hl2 : ilen (List.map eI (prt t p)) = 3 := by rw [ilen_eq]; rfl
  have hj := part_j0 (L := L) hb hL
  have key : ∀ m, laws_FnThreesParted_l5 L b (prt t p, true) (area t, true) (wh t p, true) (m + 4) true 0 = some true := by
    intro m
    rw [show m + 4 = (m + 3) + 1 by omega, l5_round (by omega) (by omega) f0, show m + 3 = (m + 2) + 1 by omega, show (0 : Int) + 1 = 1 by omega, l5_round (by omega) (by omega) f1, show m + 2 = (m + 1) + 1 by omega, show (1 : Int) + 1 = 2 by omega, l5_round (by omega) (by omega) f2, laws_FnThreesParted_l5]
    have hs := signs (p := p) h
    simp only [Bool.true_and, hs, hl2, ilt_eq, ile_eq, show (2 : Int) + 1 = 3 by omega, Int.lt_irrefl, decide_false, cond_false, beqb_eq]
    have hbq : (@decide (0 ≤ wh t p) (Classical.propDecidable _) == decide (0 ≤ wh t p)) = true := by
      rw [beq_iff_eq, decide_eq_decide]
    first
      | (simp only [hbq, Bool.not_true, cond_false]; exact hj)
      | (simp only [beq_self_eq_true, Bool.not_true, cond_false]; exact hj)
  obtain ⟨m, hm⟩ : ∃ m, L = m + 4 := ⟨L - 4, by omega⟩
  have hk := key m
  rw [← hm] at hk
  exact hk

theorem threesParted_law (a b : List Int) (ha : By a) (hb : By b) : ∃ L, laws_FnThreesParted L a b = some true := by
  refine ⟨2000000, ?_⟩
  unfold laws_FnThreesParted
  obtain ⟨r, hr⟩ := big_eq (L := 2000000) (a := a) (b := b)
  simp only [hr, gbind_eq, Option.bind_some]
  cases r with
  | true => rfl
  | false =>
    obtain ⟨t, x, y, d1, l1⟩ := partsOf_dr (L := 2000000) ha (by omega)
    obtain ⟨q, q1, q2, q3, q4, q5⟩ := partsOfPeg_eq (L := 2000000) (t := t) (x := x) (y := y) (by omega)
    simp only [cond_false, d1, q1, q2, Option.bind_some, beqb_eq, beq_self_eq_true, Bool.not_true, zSame_eq (L := 2000000) (a := q.1) (by omega) (by omega)]
    by_cases hf : q.2 = true
    · obtain ⟨h, hp, hq⟩ := q4 hf
      obtain ⟨qq1, qq2⟩ := q
      simp only at hf hq
      subst hf; subst hq
      have tb := h.tb
      have hln := tb.ln
      have a1 : impl_TwiceArea 2000000 t = some (area t, true) := by
        unfold impl_TwiceArea
        rw [impl_IsPolygon_eq (by omega)]
        simp only [h.good, decide_true, Bool.not_true, cond_false, gbind_eq, Option.bind_some, impl_twice_eq (L := 2000000) tb.nn (show (t.length : Int) ≤ 1000 by omega) (show (t.length : Int) < (2000000 : Nat) by omega) tb.nr]
      have a2 := pegOfParts_back (L := 2000000) h hp (by omega)
      have a3 : impl_WhereIs 2000000 t x y = some (wh t ⟨x, y⟩, true) := by
        obtain ⟨i1, i2⟩ := (isPeg_eq (L := 2000000) (x := x) (y := y)).1 hp
        have w2 := (where_val (L := 2000000) tb.nn (show (t.length : Int) ≤ 1000 by omega) tb.nr hp.nr (show (t.length : Int) < (2000000 : Nat) by omega)).2
        simp only at w2
        unfold impl_WhereIs
        rw [impl_IsPolygon_eq (by omega)]
        simp only [h.good, decide_true, Bool.not_true, cond_false, gbind_eq, Option.bind_some, i1, w2]
      have f0 : lget (prt t ⟨x, y⟩) 0 = some (turn ⟨x, y⟩ (pt t 1) (pt t 2)) := by rw [lget_eq]; rfl
      have f1 : lget (prt t ⟨x, y⟩) 1 = some (turn (pt t 0) ⟨x, y⟩ (pt t 2)) := by rw [lget_eq]; rfl
      have f2 : lget (prt t ⟨x, y⟩) 2 = some (turn (pt t 0) (pt t 1) ⟨x, y⟩) := by rw [lget_eq]; rfl
      have hl2 : ilen (List.map eI (prt t ⟨x, y⟩)) = 3 := by rw [ilen_eq]; rfl
      have b0 := turn_ml hp tb.i1 tb.i2
      have b1 := turn_ml tb.i0 hp tb.i2
      have b2 := turn_ml tb.i0 tb.i1 hp
      have hsum : wr IntKind.i64 (iadd (wr IntKind.i64 (iadd (turn ⟨x, y⟩ (pt t 1) (pt t 2)) (turn (pt t 0) ⟨x, y⟩ (pt t 2)))) (turn (pt t 0) (pt t 1) ⟨x, y⟩)) = area t := by
        unfold Ml at b0 b1 b2
        rw [iadd_eq, iadd_eq, wr_id (n := turn ⟨x, y⟩ (pt t 1) (pt t 2) + turn (pt t 0) ⟨x, y⟩ (pt t 2)) (by omega), wr_id (by omega), parts_sum, ← tri_area h.len]
      have l5 := part_l5 (L := 2000000) (p := ⟨x, y⟩) hb h (by omega)
      simp only [cond_true, a1, a2, a3, hl2, Option.bind_some, Bool.not_true, cond_false, ieq_eq, ile_eq, ilt_eq, decide_true, Int.le_refl, show (0 : Int) < 3 by omega, show (0 : Int) ≤ 1 by omega, show (1 : Int) < 3 by omega, show (0 : Int) ≤ 2 by omega, show (2 : Int) < 3 by omega, Bool.and_self, f0, f1, f2, hsum]
      exact l5
    · simp only [Bool.not_eq_true] at hf
      simp only [hf, cond_false, part_j0 (L := 2000000) hb (by omega)]
end Go.AM

