import Derived.Test.YtokhceheoccfhaaAmM0
set_option linter.unusedVariables false
set_option linter.unusedSimpArgs false
set_option linter.unnecessarySimpa false
set_option linter.deprecated false
set_option linter.unusedSectionVars false
namespace Go.AM
set_option linter.unusedVariables false

def no7 : Int × Int × Int × Int × Int × Int × Bool := (0, 0, 0, 0, 0, 0, false)
def mv7 (A B C D X Y : Int) : Int × Int × Int × Int × Int × Int × Bool := if MvG A B C D X Y then (A, B, C, D, X, Y, true) else no7

theorem checked_eq {L : Nat} {A B C D X Y : Int} (hX : Wi X) (hY : Wi Y) (hL : 10 < L) : spec_mvIf L A B C D X Y = some (mv7 A B C D X Y) ∧ impl_checkedMove L A B C D X Y = some (mv7 A B C D X Y) := by
  unfold spec_mvIf impl_checkedMove mv7
  simp only [spec_mvGood_eq hL, impl_IsMove_eq hX hY hL, gbind_eq, Option.bind_some]
  by_cases h : MvG A B C D X Y
  · simp only [h, decide_true, Bool.not_true, cond_false, if_true, and_self]
  · simp only [h, decide_false, Bool.not_false, cond_true, if_false, no7, and_self]

theorem wi_of80 {n : Int} (h : Bd80 n) : Wi n := by unfold Bd80 at h; unfold Wi; omega

theorem lin_wr {a b x y : Int} (ha : -100 ≤ a ∧ a ≤ 100) (hb : -100 ≤ b ∧ b ≤ 100) (hx : -4000 ≤ x ∧ x ≤ 4000) (hy : -4000 ≤ y ∧ y ≤ 4000) : wr IntKind.i64 (iadd (wr IntKind.i64 (imul a x)) (wr IntKind.i64 (imul b y))) = a * x + b * y ∧ (-800000 ≤ a * x + b * y ∧ a * x + b * y ≤ 800000) := by
  have m1 := mul_bd (x := a) (y := x) (A := 100) (B := 4000) ha hx
  have m2 := mul_bd (x := b) (y := y) (A := 100) (B := 4000) hb hy
  rw [imul_eq, imul_eq, iadd_eq, wr_id (n := a * x) (by omega), wr_id (n := b * y) (by omega), wr_id (by omega)]
  exact ⟨rfl, by omega⟩

theorem join_val {L : Nat} {a0 a1 a2 a3 a4 a5 b0 b1 b2 b3 b4 b5 : Int} (ha : MvG a0 a1 a2 a3 a4 a5) (hb : MvG b0 b1 b2 b3 b4 b5) (hL : 10 < L) :
    spec_JoinMoves L a0 a1 a2 a3 a4 a5 b0 b1 b2 b3 b4 b5 = some (mv7 (a0 * b0 + a1 * b2) (a0 * b1 + a1 * b3) (a2 * b0 + a3 * b2) (a2 * b1 + a3 * b3) (a0 * b4 + a1 * b5 + a4) (a2 * b4 + a3 * b5 + a5)) ∧
    impl_JoinMoves L a0 a1 a2 a3 a4 a5 b0 b1 b2 b3 b4 b5 = some (mv7 (a0 * b0 + a1 * b2) (a0 * b1 + a1 * b3) (a2 * b0 + a3 * b2) (a2 * b1 + a3 * b3) (a0 * b4 + a1 * b5 + a4) (a2 * b4 + a3 * b5 + a5)) := by
  obtain ⟨⟨p0, p1, p2, p3⟩, ⟨p4, p5⟩, _⟩ := id ha
  obtain ⟨⟨q0, q1, q2, q3⟩, ⟨q4, q5⟩, _⟩ := id hb
  have w1 := wi_of80 p4; have w2 := wi_of80 p5; have w3 := wi_of80 q4; have w4 := wi_of80 q5
  unfold Bd20 at p0 p1 p2 p3 q0 q1 q2 q3
  unfold Bd80 at p4 p5 q4 q5
  have l1 := (lin_wr (a := a0) (b := a1) (x := b0) (y := b2) (by omega) (by omega) (by omega) (by omega)).1
  have l2 := (lin_wr (a := a0) (b := a1) (x := b1) (y := b3) (by omega) (by omega) (by omega) (by omega)).1
  have l3 := (lin_wr (a := a2) (b := a3) (x := b0) (y := b2) (by omega) (by omega) (by omega) (by omega)).1
  have l4 := (lin_wr (a := a2) (b := a3) (x := b1) (y := b3) (by omega) (by omega) (by omega) (by omega)).1
  have l5 := (lin_wr (a := a0) (b := a1) (x := b4) (y := b5) (by omega) (by omega) (by omega) (by omega)).2
  have l6 := (lin_wr (a := a2) (b := a3) (x := b4) (y := b5) (by omega) (by omega) (by omega) (by omega)).2
  have hp := spec_mvPeg_eq (L := L) (A := a0) (B := a1) (C := a2) (D := a3) (X := a4) (Y := a5) (x := b4) (y := b5) (by omega) (by omega) (by omega) (by omega) (by omega) (by omega) (by omega) (by omega)
  obtain ⟨c1, c2⟩ := checked_eq (L := L) (A := a0 * b0 + a1 * b2) (B := a0 * b1 + a1 * b3) (C := a2 * b0 + a3 * b2) (D := a2 * b1 + a3 * b3) (X := a0 * b4 + a1 * b5 + a4) (Y := a2 * b4 + a3 * b5 + a5) (by unfold Wi; omega) (by unfold Wi; omega) hL
  unfold spec_JoinMoves impl_JoinMoves
  simp only [spec_mvGood_eq hL, impl_IsMove_eq w1 w2 hL, impl_IsMove_eq w3 w4 hL, ha, hb, decide_true, Bool.not_true, cond_false, gbind_eq, Option.bind_some, impl_bring_eq, hp, l1, l2, l3, l4, c1, c2]
  constructor <;> first | trivial | rfl

theorem join_no {L : Nat} {a0 a1 a2 a3 a4 a5 b0 b1 b2 b3 b4 b5 : Int} (h4 : Wi a4) (h5 : Wi a5) (h6 : Wi b4) (h7 : Wi b5) (h : ¬ (MvG a0 a1 a2 a3 a4 a5 ∧ MvG b0 b1 b2 b3 b4 b5)) (hL : 10 < L) :
    spec_JoinMoves L a0 a1 a2 a3 a4 a5 b0 b1 b2 b3 b4 b5 = some no7 ∧ impl_JoinMoves L a0 a1 a2 a3 a4 a5 b0 b1 b2 b3 b4 b5 = some no7 := by
  unfold spec_JoinMoves impl_JoinMoves no7
  simp only [spec_mvGood_eq hL, impl_IsMove_eq h4 h5 hL, impl_IsMove_eq h6 h7 hL, gbind_eq, Option.bind_some]
  by_cases ha : MvG a0 a1 a2 a3 a4 a5
  · have hb : ¬ MvG b0 b1 b2 b3 b4 b5 := fun hb => h ⟨ha, hb⟩
    simp only [ha, hb, decide_true, decide_false, Bool.not_true, Bool.not_false, cond_true, cond_false, and_self]
  · simp only [ha, decide_false, Bool.not_false, cond_true, and_self]

theorem side_eq {L : Nat} {A B C D X Y : Int} (hX : Wi X) (hY : Wi Y) (hL : 10 < L) : spec_SideOfMove L A B C D X Y = some (if MvG A B C D X Y then (A * D - B * C, true) else (0, false)) ∧ impl_SideOfMove L A B C D X Y = some (if MvG A B C D X Y then (A * D - B * C, true) else (0, false)) := by
  unfold spec_SideOfMove impl_SideOfMove impl_Move_side
  simp only [spec_mvGood_eq hL, impl_IsMove_eq hX hY hL, gbind_eq, Option.bind_some]
  by_cases h : MvG A B C D X Y
  · have d := (det_wr h.1).1
    simp only [h, decide_true, Bool.not_true, cond_false, d, if_true, and_self]
  · simp only [h, decide_false, Bool.not_false, cond_true, if_false, and_self]

theorem uni_of {A B C D X Y : Int} (h : MvG A B C D X Y) : A * D - B * C = 1 ∨ A * D - B * C = -1 := by have := h.2.2; omega

theorem back_val {L : Nat} {A B C D X Y s : Int} (h : MvG A B C D X Y) (hs : A * D - B * C = s) (hL : 10 < L) :
    spec_BackMove L A B C D X Y = some (mv7 (s * D) (-s * B) (-s * C) (s * A) (-(s * D * X + -s * B * Y)) (-(-s * C * X + s * A * Y))) ∧
    impl_BackMove L A B C D X Y = some (mv7 (s * D) (-s * B) (-s * C) (s * A) (-(s * D * X + -s * B * Y)) (-(-s * C * X + s * A * Y))) := by
  obtain ⟨⟨p0, p1, p2, p3⟩, ⟨p4, p5⟩, _⟩ := id h
  have w1 := wi_of80 p4; have w2 := wi_of80 p5
  have d := (det_wr h.1).1
  have u := uni_of h
  unfold Bd20 at p0 p1 p2 p3
  unfold Bd80 at p4 p5
  rw [hs] at d u
  have ws : wr IntKind.i64 (isub 0 s) = -s := by rw [isub_eq, wr_s (by omega)]; omega
  have wm : ∀ e n : Int, (e = 1 ∨ e = -1) → (-20 ≤ n ∧ n ≤ 20) → wr IntKind.i64 (imul e n) = e * n ∧ (-20 ≤ e * n ∧ e * n ≤ 20) := fun e n he hn => by
    rcases he with rfl | rfl <;> rw [imul_eq, wr_s (by omega)] <;> exact ⟨rfl, by omega⟩
  obtain ⟨e1, b1⟩ := wm s D u p3
  obtain ⟨e2, b2⟩ := wm (-s) B (by omega) p1
  obtain ⟨e3, b3⟩ := wm (-s) C (by omega) p2
  obtain ⟨e4, b4⟩ := wm s A u p0
  have l5 := (lin_wr (a := s * D) (b := -s * B) (x := X) (y := Y) (by omega) (by omega) (by omega) (by omega)).2
  have l6 := (lin_wr (a := -s * C) (b := s * A) (x := X) (y := Y) (by omega) (by omega) (by omega) (by omega)).2
  have hp := spec_mvPeg_eq (L := L) (A := s * D) (B := -s * B) (C := -s * C) (D := s * A) (X := 0) (Y := 0) (x := X) (y := Y) (by omega) (by omega) (by omega) (by omega) (by omega) (by omega) (by omega) (by omega)
  simp only [Int.add_zero] at hp
  have n1 : wr IntKind.i64 (isub 0 (s * D * X + -s * B * Y)) = -(s * D * X + -s * B * Y) := by rw [isub_eq, wr_id (by omega)]; omega
  have n2 : wr IntKind.i64 (isub 0 (-s * C * X + s * A * Y)) = -(-s * C * X + s * A * Y) := by rw [isub_eq, wr_id (by omega)]; omega
  obtain ⟨c1, c2⟩ := checked_eq (L := L) (A := s * D) (B := -s * B) (C := -s * C) (D := s * A) (X := -(s * D * X + -s * B * Y)) (Y := -(-s * C * X + s * A * Y)) (by unfold Wi; omega) (by unfold Wi; omega) hL
  unfold spec_BackMove impl_BackMove impl_Move_side
  simp only [spec_mvGood_eq hL, impl_IsMove_eq w1 w2 hL, h, decide_true, Bool.not_true, cond_false, gbind_eq, Option.bind_some, impl_bring_eq, d, ws, e1, e2, e3, e4, hp, n1, n2, c1, c2]
  constructor <;> first | trivial | rfl

theorem back_no {L : Nat} {A B C D X Y : Int} (hX : Wi X) (hY : Wi Y) (h : ¬ MvG A B C D X Y) (hL : 10 < L) : spec_BackMove L A B C D X Y = some no7 ∧ impl_BackMove L A B C D X Y = some no7 := by
  unfold spec_BackMove impl_BackMove no7
  simp only [spec_mvGood_eq hL, impl_IsMove_eq hX hY hL, h, decide_false, Bool.not_false, cond_true, gbind_eq, Option.bind_some, and_self]

theorem isPeg_eq {L : Nat} {x y : Int} : (In ⟨x, y⟩ → impl_IsPeg L x y = some true ∧ spec_pgIs L x y = some true) ∧ (¬ In ⟨x, y⟩ → impl_IsPeg L x y = some false ∧ spec_pgIs L x y = some false) := by
  have s := spec_pgIs_eq (L := L) (p := ⟨x, y⟩)
  unfold impl_IsPeg
  simp only [impl_within_eq, gbind_eq, Option.bind_some]
  refine ⟨fun h => ⟨?_, s.1 h⟩, fun h => ⟨?_, s.2 h⟩⟩
  · obtain ⟨h1, h2⟩ := h
    simp only at h1 h2
    simp only [h1, h2, and_self, decide_true, cond_true]
  · by_cases h1 : -40 ≤ x ∧ x ≤ 40
    · have h2 : ¬ (-40 ≤ y ∧ y ≤ 40) := fun h2 => h ⟨h1, h2⟩
      simp only [h1, h2, and_self, decide_true, decide_false, cond_true]
    · simp only [h1, decide_false, cond_false]

theorem movePeg_yes {L : Nat} {A B C D X Y : Int} {p : Pt} (h : MvG A B C D X Y) (hp : In p) (hq : In (mvP A B C D X Y p)) (hL : 10 < L) :
    spec_MovePeg L A B C D X Y p.x p.y = some ((mvP A B C D X Y p).x, (mvP A B C D X Y p).y, true) ∧ impl_MovePeg L A B C D X Y p.x p.y = some ((mvP A B C D X Y p).x, (mvP A B C D X Y p).y, true) := by
  obtain ⟨⟨p0, p1, p2, p3⟩, ⟨p4, p5⟩, _⟩ := id h
  have w1 := wi_of80 p4; have w2 := wi_of80 p5
  unfold Bd20 at p0 p1 p2 p3
  unfold Bd80 at p4 p5
  have hb := bring_val (L := L) (a := []) (A := A) (B := B) (C := C) (D := D) (X := X) (Y := Y) hp (by omega) (by omega) (by omega) (by omega) (by omega) (by omega)
  have hs := hb
  rw [impl_bring_eq] at hs
  obtain ⟨i1, i2⟩ := (isPeg_eq (L := L) (x := p.x) (y := p.y)).1 hp
  obtain ⟨j1, j2⟩ := (isPeg_eq (L := L) (x := val A B p + X) (y := val C D p + Y)).1 hq
  unfold spec_MovePeg impl_MovePeg
  simp only [spec_mvGood_eq hL, impl_IsMove_eq w1 w2 hL, h, decide_true, Bool.not_true, cond_false, gbind_eq, Option.bind_some, i1, i2, hb, hs, j1, j2]
  exact ⟨rfl, rfl⟩

theorem movePeg_no {L : Nat} {A B C D X Y : Int} {p : Pt} (hX : Wi X) (hY : Wi Y) (h : ¬ (MvG A B C D X Y ∧ In p ∧ In (mvP A B C D X Y p))) (hL : 10 < L) :
    spec_MovePeg L A B C D X Y p.x p.y = some (0, 0, false) ∧ impl_MovePeg L A B C D X Y p.x p.y = some (0, 0, false) := by
  unfold spec_MovePeg impl_MovePeg
  simp only [spec_mvGood_eq hL, impl_IsMove_eq hX hY hL, gbind_eq, Option.bind_some]
  by_cases hm : MvG A B C D X Y
  · by_cases hp : In p
    · have hq : ¬ In (mvP A B C D X Y p) := fun hq => h ⟨hm, hp, hq⟩
      obtain ⟨⟨p0, p1, p2, p3⟩, ⟨p4, p5⟩, _⟩ := id hm
      unfold Bd20 at p0 p1 p2 p3
      unfold Bd80 at p4 p5
      have hb := bring_val (L := L) (a := []) (A := A) (B := B) (C := C) (D := D) (X := X) (Y := Y) hp (by omega) (by omega) (by omega) (by omega) (by omega) (by omega)
      have hs := hb
      rw [impl_bring_eq] at hs
      obtain ⟨i1, i2⟩ := (isPeg_eq (L := L) (x := p.x) (y := p.y)).1 hp
      obtain ⟨j1, j2⟩ := (isPeg_eq (L := L) (x := val A B p + X) (y := val C D p + Y)).2 hq
      simp only [hm, decide_true, Bool.not_true, Bool.not_false, cond_false, cond_true, i1, i2, hb, hs, j1, j2, Option.bind_some, and_self]
    · obtain ⟨i1, i2⟩ := (isPeg_eq (L := L) (x := p.x) (y := p.y)).2 hp
      simp only [hm, decide_true, Bool.not_true, Bool.not_false, cond_false, cond_true, i1, i2, Option.bind_some, and_self]
  · simp only [hm, decide_false, Bool.not_false, cond_true, and_self]

theorem shearMove_eq {L : Nat} {k : Int} (hL : 10 < L) : spec_ShearMove L k = some (if Bd20 k then (1, k, 0, 1, 0, 0, true) else no7) ∧ impl_ShearMove L k = some (if Bd20 k then (1, k, 0, 1, 0, 0, true) else no7) := by
  obtain ⟨c1, c2⟩ := checked_eq (L := L) (A := 1) (B := k) (C := 0) (D := 1) (X := 0) (Y := 0) (by unfold Wi; omega) (by unfold Wi; omega) hL
  have hm : MvG 1 k 0 1 0 0 ↔ Bd20 k := by
    unfold MvG Bd20 Bd80
    simp
  unfold spec_ShearMove impl_ShearMove
  simp only [spec_l1In_eq, c2, gbind_eq, Option.bind_some]
  unfold mv7
  by_cases h : Bd20 k
  · have h' : -20 ≤ k ∧ k ≤ 20 := h
    simp only [h', and_self, decide_true, Bool.not_true, cond_false, h, hm.2 h, if_true]
  · have h' : ¬ (-20 ≤ k ∧ k ≤ 20) := h
    have hm' : ¬ MvG 1 k 0 1 0 0 := fun q => h (hm.1 q)
    simp only [h', decide_false, Bool.not_false, cond_true, h, hm', if_false]
    constructor <;> first | trivial | rfl
end Go.AM

namespace Go.AM
set_option linter.unusedVariables false

theorem move_l0 {L : Nat} {a : List Int} {r r1 : Int × Int × Int} (hb : By a) (hr : 0 ≤ r.1 ∧ r.1 < 7) (hr1 : 0 ≤ r1.1 ∧ r1.1 < 7) : ∀ (k m : Nat) (t s M b0 b1 b2 b3 : Int), k < m → k ≤ 5 → (0 ≤ t ∧ t ≤ 500000 - 10 * k) → (-M ≤ b0 ∧ b0 ≤ M) → (-M ≤ b1 ∧ b1 ≤ M) → (-M ≤ b2 ∧ b2 ≤ M) → (-M ≤ b3 ∧ b3 ≤ M) → 2 ^ k * M ≤ 1000 →
    ∃ A B C D X Y t' s', spec_l1Cur_move_l0 L a r r1 m k t s b0 b1 b2 b3 = some (A, B, C, D, X, Y, t', s') ∧ (Wi A ∧ Wi B ∧ Wi C ∧ Wi D) ∧ (Wi X ∧ Wi Y) ∧ t ≤ t' ∧ t' ≤ t + 10 * k + 10 := by
  intro k
  induction k with
  | zero =>
    intro m t s M b0 b1 b2 b3 hm _ ht c0 c1 c2 c3 hM
    obtain ⟨m, rfl⟩ : ∃ q, m = q + 1 := ⟨m - 1, by omega⟩
    obtain ⟨x, t1, s1, e1, x0, h1, h2⟩ := pick_dr (L := L) (s := s) (n := 14) hb (t := t) (by omega) (by omega)
    have wi : ∀ n : Int, -M ≤ n ∧ n ≤ M → Wi n := fun n h => by unfold Wi; simp at hM; omega
    have w3 : ∀ n : Int, 0 ≤ n ∧ n < 7 → wr IntKind.i64 (isub n 3) = n - 3 ∧ Wi (n - 3) := fun n h => by
      rw [isub_eq, wr_id (by omega)]; exact ⟨rfl, by unfold Wi; omega⟩
    rw [spec_l1Cur_move_l0]
    simp only [ilt_eq, show ¬ (0 : Int) < ((0 : Nat) : Int) by omega, decide_false, cond_false, e1, gbind_eq, Option.bind_some, ieq_eq, (w3 _ hr).1, (w3 _ hr1).1]
    by_cases d0 : x = 0
    · obtain ⟨y, t2, s2, e2, m2, h3, h4⟩ := among_dr (L := L) (s := s1) (w := [0, 2, 21, 4611686018427387904]) hb (t := t1) (by omega) (by simp)
      simp only [d0, decide_true, cond_true, e2, Option.bind_some]
      refine ⟨_, _, _, _, _, _, _, _, rfl, ⟨?_, wi _ c1, wi _ c2, wi _ c3⟩, ⟨(w3 _ hr).2, (w3 _ hr1).2⟩, by omega, by omega⟩
      simp only [List.mem_cons, List.not_mem_nil, or_false] at m2
      unfold Wi; omega
    · by_cases d1 : x = 1
      · obtain ⟨y, t2, s2, e2, m2, h3, h4⟩ := among_dr (L := L) (s := s1) (w := [80, -80, 81, -9223372036854775808]) hb (t := t1) (by omega) (by simp)
        simp only [d0, d1, decide_true, decide_false, cond_true, cond_false, e2, Option.bind_some]
        refine ⟨_, _, _, _, _, _, _, _, rfl, ⟨wi _ c0, wi _ c1, wi _ c2, wi _ c3⟩, ⟨?_, (w3 _ hr1).2⟩, by omega, by omega⟩
        simp only [List.mem_cons, List.not_mem_nil, or_false] at m2
        unfold Wi; omega
      · simp only [d0, d1, decide_false, cond_false]
        exact ⟨_, _, _, _, _, _, _, _, rfl, ⟨wi _ c0, wi _ c1, wi _ c2, wi _ c3⟩, ⟨(w3 _ hr).2, (w3 _ hr1).2⟩, by omega, by omega⟩
  | succ k ih =>
    intro m t s M b0 b1 b2 b3 hm hk ht c0 c1 c2 c3 hM
    obtain ⟨m, rfl⟩ : ∃ q, m = q + 1 := ⟨m - 1, by omega⟩
    obtain ⟨x, t1, s1, e1, x0, h1, h2⟩ := pick_dr (L := L) (s := s) (n := 3) hb (t := t) (by omega) (by omega)
    obtain ⟨y, t2, s2, e2, y0, h3, h4⟩ := pick_dr (L := L) (s := s1) (n := 3) hb (t := t1) (by omega) (by omega)
    have hM' : 2 ^ k * (2 * M) ≤ 1000 := by
      have : (2 : Int) ^ (k + 1) * M = 2 ^ k * (2 * M) := by rw [Int.pow_succ]; grind
      rwa [this] at hM
    have hMs : M ≤ 1000 := by
      rcases Int.lt_or_le 1000 M with h | h
      · have hp : (1 : Int) ≤ 2 ^ (k + 1) := by
          have : (0 : Int) < 2 ^ (k + 1) := Int.pow_pos (by omega)
          omega
        have := Int.mul_le_mul_of_nonneg_right hp (show 0 ≤ M by omega)
        omega
      · exact h
    have wk : wr IntKind.i64 (isub ((k + 1 : Nat) : Int) 1) = (k : Int) := by rw [isub_eq, wr_id (by omega)]; omega
    have wx : wr IntKind.i64 (isub x 1) = x - 1 := by rw [isub_eq, wr_id (by omega)]
    have wl : ∀ p q : Int, (-M ≤ p ∧ p ≤ M) → (-M ≤ q ∧ q ≤ M) → wr IntKind.i64 (iadd p (wr IntKind.i64 (imul (x - 1) q))) = p + (x - 1) * q ∧ (-(2 * M) ≤ p + (x - 1) * q ∧ p + (x - 1) * q ≤ 2 * M) := fun p q hp hq => by
      have hx : x - 1 = -1 ∨ x - 1 = 0 ∨ x - 1 = 1 := by omega
      rcases hx with h | h | h <;> rw [h, imul_eq, iadd_eq, wr_id (n := _ * q) (by omega), wr_id (by omega)] <;> exact ⟨rfl, by omega⟩
    have wn : ∀ p : Int, (-M ≤ p ∧ p ≤ M) → wr IntKind.i64 (isub 0 p) = -p := fun p hp => by rw [isub_eq, wr_id (by omega)]; omega
    have fin : ∀ (t2 s2 b0 b1 b2 b3 : Int), (t ≤ t2 ∧ t2 ≤ t + 4) → (-(2 * M) ≤ b0 ∧ b0 ≤ 2 * M) → (-(2 * M) ≤ b1 ∧ b1 ≤ 2 * M) → (-(2 * M) ≤ b2 ∧ b2 ≤ 2 * M) → (-(2 * M) ≤ b3 ∧ b3 ≤ 2 * M) →
        ∃ A B C D X Y t' s', spec_l1Cur_move_l0 L a r r1 m k t2 s2 b0 b1 b2 b3 = some (A, B, C, D, X, Y, t', s') ∧ (Wi A ∧ Wi B ∧ Wi C ∧ Wi D) ∧ (Wi X ∧ Wi Y) ∧ t ≤ t' ∧ t' ≤ t + 10 * ((k + 1 : Nat) : Int) + 10 := by
      intro t2 s2 b0 b1 b2 b3 ht2 d0 d1 d2 d3
      obtain ⟨A, B, C, D, X, Y, t', s', e, g1, g2, g3, g4⟩ := ih m t2 s2 (2 * M) b0 b1 b2 b3 (by omega) (by omega) (by omega) d0 d1 d2 d3 hM'
      exact ⟨A, B, C, D, X, Y, t', s', e, g1, g2, by omega, by omega⟩
    rw [spec_l1Cur_move_l0]
    simp only [ilt_eq, show (0 : Int) < ((k + 1 : Nat) : Int) by omega, decide_true, cond_true, e1, e2, gbind_eq, Option.bind_some, ieq_eq, wk, wx]
    by_cases d0 : y = 0
    · simp only [d0, decide_true, cond_true, (wl _ _ c0 c2).1, (wl _ _ c1 c3).1]
      exact fin _ _ _ _ _ _ (by omega) (wl _ _ c0 c2).2 (wl _ _ c1 c3).2 (by omega) (by omega)
    · by_cases d1 : y = 1
      · simp only [d0, d1, decide_true, decide_false, cond_true, cond_false, (wl _ _ c2 c0).1, (wl _ _ c3 c1).1]
        exact fin _ _ _ _ _ _ (by omega) (by omega) (by omega) (wl _ _ c2 c0).2 (wl _ _ c3 c1).2
      · simp only [d0, d1, decide_false, cond_false, wn _ c0, wn _ c1]
        exact fin _ _ _ _ _ _ (by omega) (by omega) (by omega) (by omega) (by omega)

theorem move_dr {L : Nat} {a : List Int} {t s : Int} (hb : By a) (ht : 0 ≤ t ∧ t ≤ 400000) (hL : 100 < L) : ∃ A B C D X Y t' s', spec_l1Cur_move L a t s = some (A, B, C, D, X, Y, t', s') ∧ (Wi A ∧ Wi B ∧ Wi C ∧ Wi D) ∧ (Wi X ∧ Wi Y) ∧ t ≤ t' ∧ t' ≤ t + 100 := by
  obtain ⟨x, t1, s1, e1, x0, h1, h2⟩ := pick_dr (L := L) (s := s) (n := 7) hb (t := t) (by omega) (by omega)
  obtain ⟨y, t2, s2, e2, y0, h3, h4⟩ := pick_dr (L := L) (s := s1) (n := 7) hb (t := t1) (by omega) (by omega)
  obtain ⟨k, t3, s3, e3, k0, h5, h6⟩ := pick_dr (L := L) (s := s2) (n := 4) hb (t := t2) (by omega) (by omega)
  unfold spec_l1Cur_move
  simp only [e1, e2, e3, gbind_eq, Option.bind_some]
  have hp : (2 : Int) ^ k.toNat * 1 ≤ 1000 := by
    have : k.toNat = 0 ∨ k.toNat = 1 ∨ k.toNat = 2 ∨ k.toNat = 3 := by omega
    rcases this with h | h | h | h <;> rw [h] <;> decide
  obtain ⟨A, B, C, D, X, Y, t', s', e, g1, g2, g3, g4⟩ := move_l0 (L := L) (r := (x, t1, s1)) (r1 := (y, t2, s2)) hb x0 y0 k.toNat L t3 s3 1 1 0 0 1 (by omega) (by omega) (by omega) (by omega) (by omega) (by omega) (by omega) hp
  rw [Int.toNat_of_nonneg k0.1] at e
  exact ⟨A, B, C, D, X, Y, t', s', e, g1, g2, by omega, by omega⟩

theorem zPegs_l0 {L : Nat} {a : List Pt} (hs : (a.length : Int) ≤ 100000) : ∀ (m i : Nat), i ≤ a.length → a.length - i < m → laws_zPegs_l0 L a a m i = some true := by
  intro m
  induction m with
  | zero => intro i _ h; omega
  | succ m ih =>
    intro i hi hm
    rw [laws_zPegs_l0]
    by_cases h : (i : Int) < (a.length : Int)
    · have wi : wr IntKind.i64 (iadd (i : Int) 1) = ((i + 1 : Nat) : Int) := by rw [iadd_eq, wr_s (by omega)]; omega
      simp only [ilen_mapep, ilt_eq, h, decide_true, cond_true, lget_pt (show (0 : Int) ≤ i by omega) h, gbind_eq, Option.bind_some, ieq_eq, Bool.and_self, Bool.not_true, cond_false, wi]
      exact ih (i + 1) (by omega) (by omega)
    · simp only [ilen_mapep, ilt_eq, h, decide_false, cond_false]

theorem zPegs_eq {L : Nat} {a : List Pt} (hs : (a.length : Int) ≤ 100000) (hL : (a.length : Int) < L) : laws_zPegs L a a = some true := by
  unfold laws_zPegs
  simp only [ieq_eq, decide_true, Bool.not_true, cond_false]
  exact zPegs_l0 hs L 0 (by omega) (by omega)

theorem mv7_some {A B C D X Y : Int} (h : (mv7 A B C D X Y).2.2.2.2.2.2 = true) : MvG A B C D X Y ∧ mv7 A B C D X Y = (A, B, C, D, X, Y, true) := by
  unfold mv7 at *
  by_cases hm : MvG A B C D X Y
  · rw [if_pos hm]; exact ⟨hm, rfl⟩
  · rw [if_neg hm] at h; cases h

theorem keep_j2 {L : Nat} {k : Int} (hL : 10 < L) : laws_FnMovesKeep_j2 L k (if Bd20 k then (1, k, 0, 1, 0, 0, true) else no7) = some true := by
  unfold laws_FnMovesKeep_j2
  by_cases h : Bd20 k
  · have h' : -20 ≤ k ∧ k ≤ 20 := h
    have hk : Bd20 (-k) := by unfold Bd20; omega
    have wk : wr IntKind.i64 (isub 0 k) = -k := by rw [isub_eq, wr_s (by omega)]; omega
    have hm : MvG 1 k 0 1 0 0 := ⟨⟨by decide, h, by decide, by decide⟩, ⟨by decide, by decide⟩, by omega⟩
    have b := (back_val (L := L) (s := 1) hm (by omega) hL).2
    have e : mv7 (1 * 1) (-1 * k) (-1 * 0) (1 * 1) (-(1 * 1 * 0 + -1 * k * 0)) (-(-1 * 0 * 0 + 1 * 1 * 0)) = (1, -k, 0, 1, 0, 0, true) := by
      have hm2 : MvG 1 (-k) 0 1 0 0 := ⟨⟨by decide, hk, by decide, by decide⟩, ⟨by decide, by decide⟩, by omega⟩
      have e1 : -1 * k = -k := by omega
      have e2 : -(1 * 1 * 0 + -1 * k * 0) = (0 : Int) := by omega
      unfold mv7
      rw [e2, e1]
      exact if_pos hm2
    rw [e] at b
    simp only [h, if_true, cond_true, wk, (shearMove_eq (L := L) (k := -k) hL).2, hk, gbind_eq, Option.bind_some, b, ieq_eq, decide_true, Bool.and_self]
  · simp only [h, if_false, no7, cond_false]

theorem keep_j1 {L : Nat} {A B C D X Y k : Int} {r9 : Int × Int × Int × Int × Int × Int × Bool} (hX : Wi X) (hY : Wi Y) (h9 : impl_BackMove L A B C D X Y = some r9) (hL : 10 < L) : laws_FnMovesKeep_j1 L (A, B, C, D, X, Y) r9 k (if Bd20 k then (1, k, 0, 1, 0, 0, true) else no7) = some true := by
  unfold laws_FnMovesKeep_j1
  by_cases hm : MvG A B C D X Y
  · obtain ⟨s, hs⟩ : ∃ s, A * D - B * C = s := ⟨_, rfl⟩
    have u := uni_of hm
    rw [hs] at u
    have hss : s * s = 1 := by rcases u with rfl | rfl <;> rfl
    have b := (back_val (L := L) hm hs hL).2
    rw [h9] at b
    have b' := Option.some.inj b
    by_cases hf : r9.2.2.2.2.2.2 = true
    · rw [b'] at hf
      obtain ⟨hb, e⟩ := mv7_some hf
      rw [e] at b'
      subst b'
      have j := (join_val (L := L) hm hb hL).2
      have e0 : mv7 (A * (s * D) + B * (-s * C)) (A * (-s * B) + B * (s * A)) (C * (s * D) + D * (-s * C)) (C * (-s * B) + D * (s * A)) (A * -(s * D * X + -s * B * Y) + B * -(-s * C * X + s * A * Y) + X) (C * -(s * D * X + -s * B * Y) + D * -(-s * C * X + s * A * Y) + Y) = (1, 0, 0, 1, 0, 0, true) := by
        have a1 : A * (s * D) + B * (-s * C) = 1 := by rw [← hss, ← hs]; grind
        have a2 : A * (-s * B) + B * (s * A) = 0 := by grind
        have a3 : C * (s * D) + D * (-s * C) = 0 := by grind
        have a4 : C * (-s * B) + D * (s * A) = 1 := by rw [← hss, ← hs]; grind
        have a5 : A * -(s * D * X + -s * B * Y) + B * -(-s * C * X + s * A * Y) + X = 0 := by
          have : A * -(s * D * X + -s * B * Y) + B * -(-s * C * X + s * A * Y) + X = -(s * (A * D - B * C)) * X + X := by grind
          rw [this, hs, hss]; omega
        have a6 : C * -(s * D * X + -s * B * Y) + D * -(-s * C * X + s * A * Y) + Y = 0 := by
          have : C * -(s * D * X + -s * B * Y) + D * -(-s * C * X + s * A * Y) + Y = -(s * (A * D - B * C)) * Y + Y := by grind
          rw [this, hs, hss]; omega
        rw [a1, a2, a3, a4, a5, a6]
        unfold mv7
        exact if_pos (by decide)
      rw [e0] at j
      have hs2 : s * D * (s * A) - -s * B * (-s * C) = s := by
        have : s * D * (s * A) - -s * B * (-s * C) = s * s * (A * D - B * C) := by grind
        rw [this, hss, hs]; omega
      have bb := (back_val (L := L) hb hs2 hL).2
      have e1 : mv7 (s * (s * A)) (-s * (-s * B)) (-s * (-s * C)) (s * (s * D)) (-(s * (s * A) * -(s * D * X + -s * B * Y) + -s * (-s * B) * -(-s * C * X + s * A * Y))) (-(-s * (-s * C) * -(s * D * X + -s * B * Y) + s * (s * D) * -(-s * C * X + s * A * Y))) = (A, B, C, D, X, Y, true) := by
        have a1 : s * (s * A) = A := by rw [← Int.mul_assoc, hss]; omega
        have a2 : -s * (-s * B) = B := by have : -s * (-s * B) = s * s * B := by grind
                                          rw [this, hss]; omega
        have a3 : -s * (-s * C) = C := by have : -s * (-s * C) = s * s * C := by grind
                                          rw [this, hss]; omega
        have a4 : s * (s * D) = D := by rw [← Int.mul_assoc, hss]; omega
        rw [a1, a2, a3, a4]
        have a5 : -(A * -(s * D * X + -s * B * Y) + B * -(-s * C * X + s * A * Y)) = X := by
          have : -(A * -(s * D * X + -s * B * Y) + B * -(-s * C * X + s * A * Y)) = (s * (A * D - B * C)) * X := by grind
          rw [this, hs, hss]; omega
        have a6 : -(C * -(s * D * X + -s * B * Y) + D * -(-s * C * X + s * A * Y)) = Y := by
          have : -(C * -(s * D * X + -s * B * Y) + D * -(-s * C * X + s * A * Y)) = (s * (A * D - B * C)) * Y := by grind
          rw [this, hs, hss]; omega
        rw [a5, a6]
        unfold mv7
        exact if_pos hm
      rw [e1] at bb
      simp only [cond_true, j, bb, gbind_eq, Option.bind_some, ieq_eq, decide_true, Bool.and_self, Bool.not_true, cond_false]
      exact keep_j2 hL
    · simp only [Bool.not_eq_true] at hf
      simp only [hf, cond_false]
      exact keep_j2 hL
  · have b := (back_no (L := L) hX hY hm hL).2
    rw [h9] at b
    have b' := Option.some.inj b
    subst b'
    simp only [no7, cond_false]
    exact keep_j2 hL
end Go.AM

namespace Go.AM
set_option linter.unusedVariables false

theorem equal_l0 {L : Nat} {a : List Pt} (hs : (a.length : Int) ≤ 100000) : ∀ (m i : Nat), i ≤ a.length → a.length - i < m → slices_Equal_impl_Peg_impl_Peg_l0 L a a m i = some true := by
  intro m
  induction m with
  | zero => intro i _ h; omega
  | succ m ih =>
    intro i hi hm
    rw [slices_Equal_impl_Peg_impl_Peg_l0]
    by_cases h : (i : Int) < (a.length : Int)
    · have wi : wr IntKind.i64 (iadd (i : Int) 1) = ((i + 1 : Nat) : Int) := by rw [iadd_eq, wr_s (by omega)]; omega
      simp only [ilen_mapep, ilt_eq, h, decide_true, cond_true, lget_pt (show (0 : Int) ≤ i by omega) h, gbind_eq, Option.bind_some, ieq_eq, Bool.and_self, Bool.not_true, cond_false, wi]
      exact ih (i + 1) (by omega) (by omega)
    · simp only [ilen_mapep, ilt_eq, h, decide_false, cond_false]

theorem equal_self {L : Nat} {a : List Pt} (hs : (a.length : Int) ≤ 100000) (hL : (a.length : Int) < L) : slices_Equal_impl_Peg_impl_Peg L a a = some true := by
  unfold slices_Equal_impl_Peg_impl_Peg
  simp only [ieq_eq, decide_true, Bool.not_true, cond_false]
  exact equal_l0 hs L 0 (by omega) (by omega)

theorem join_both {L : Nat} {a0 a1 a2 a3 a4 a5 b0 b1 b2 b3 b4 b5 : Int} (h4 : Wi a4) (h5 : Wi a5) (h6 : Wi b4) (h7 : Wi b5) (hL : 10 < L) : ∃ J, spec_JoinMoves L a0 a1 a2 a3 a4 a5 b0 b1 b2 b3 b4 b5 = some J ∧ impl_JoinMoves L a0 a1 a2 a3 a4 a5 b0 b1 b2 b3 b4 b5 = some J ∧
    (J.2.2.2.2.2.2 = true → MvG a0 a1 a2 a3 a4 a5 ∧ MvG b0 b1 b2 b3 b4 b5 ∧ MvG (a0 * b0 + a1 * b2) (a0 * b1 + a1 * b3) (a2 * b0 + a3 * b2) (a2 * b1 + a3 * b3) (a0 * b4 + a1 * b5 + a4) (a2 * b4 + a3 * b5 + a5) ∧
      J = (a0 * b0 + a1 * b2, a0 * b1 + a1 * b3, a2 * b0 + a3 * b2, a2 * b1 + a3 * b3, a0 * b4 + a1 * b5 + a4, a2 * b4 + a3 * b5 + a5, true)) := by
  by_cases h : MvG a0 a1 a2 a3 a4 a5 ∧ MvG b0 b1 b2 b3 b4 b5
  · obtain ⟨e1, e2⟩ := join_val (L := L) h.1 h.2 hL
    exact ⟨_, e1, e2, fun hf => ⟨h.1, h.2, mv7_some hf⟩⟩
  · obtain ⟨e1, e2⟩ := join_no (L := L) (a0 := a0) (a1 := a1) (a2 := a2) (a3 := a3) (b0 := b0) (b1 := b1) (b2 := b2) (b3 := b3) h4 h5 h6 h7 h hL
    exact ⟨_, e1, e2, fun hf => by cases hf⟩

theorem back_both {L : Nat} {A B C D X Y : Int} (hX : Wi X) (hY : Wi Y) (hL : 10 < L) : ∃ R, spec_BackMove L A B C D X Y = some R ∧ impl_BackMove L A B C D X Y = some R := by
  by_cases h : MvG A B C D X Y
  · obtain ⟨e1, e2⟩ := back_val (L := L) h rfl hL
    exact ⟨_, e1, e2⟩
  · obtain ⟨e1, e2⟩ := back_no (L := L) hX hY h hL
    exact ⟨_, e1, e2⟩

theorem movePeg_both {L : Nat} {A B C D X Y : Int} {x y : Int} (hX : Wi X) (hY : Wi Y) (hL : 10 < L) : ∃ R, spec_MovePeg L A B C D X Y x y = some R ∧ impl_MovePeg L A B C D X Y x y = some R ∧ (R.2.2 = true → MvG A B C D X Y ∧ In ⟨x, y⟩ ∧ In (mvP A B C D X Y ⟨x, y⟩) ∧ R = ((mvP A B C D X Y ⟨x, y⟩).x, (mvP A B C D X Y ⟨x, y⟩).y, true)) := by
  by_cases h : MvG A B C D X Y ∧ In ⟨x, y⟩ ∧ In (mvP A B C D X Y ⟨x, y⟩)
  · obtain ⟨e1, e2⟩ := movePeg_yes (L := L) (p := ⟨x, y⟩) h.1 h.2.1 h.2.2 hL
    exact ⟨_, e1, e2, fun _ => ⟨h.1, h.2.1, h.2.2, rfl⟩⟩
  · obtain ⟨e1, e2⟩ := movePeg_no (L := L) (p := ⟨x, y⟩) hX hY h hL
    exact ⟨_, e1, e2, fun hf => by cases hf⟩

theorem join_mvP {a0 a1 a2 a3 a4 a5 b0 b1 b2 b3 b4 b5 : Int} (q : Pt) : mvP (a0 * b0 + a1 * b2) (a0 * b1 + a1 * b3) (a2 * b0 + a3 * b2) (a2 * b1 + a3 * b3) (a0 * b4 + a1 * b5 + a4) (a2 * b4 + a3 * b5 + a5) q = mvP a0 a1 a2 a3 a4 a5 (mvP b0 b1 b2 b3 b4 b5 q) := by
  unfold mvP val
  simp only [Pt.mk.injEq]
  constructor <;> grind

theorem keep_j0 {L : Nat} {b : List Int} (hb : By b) (hL : 2000 < L) : laws_FnMovesKeep_j0 L b = some true := by
  obtain ⟨x0, x1, x2, x3, x4, x5, t1, s1, e1, ⟨_, _, _, _⟩, ⟨wx4, wx5⟩, g1, g2⟩ := move_dr (L := L) (a := b) (t := 0) (s := 0) hb (by omega) (by omega)
  obtain ⟨y0, y1, y2, y3, y4, y5, t2, s2, e2, ⟨_, _, _, _⟩, ⟨wy4, wy5⟩, _, _⟩ := move_dr (L := L) (a := b) (t := t1) (s := s1) hb (by omega) (by omega)
  obtain ⟨qx, qy, t3, s3, e3, _, _, _⟩ := peg_dr (L := L) (a := b) (t := t1) (s := s1) hb (by omega)
  obtain ⟨k, t4, s4, e4, mk, _, _⟩ := among_dr (L := L) (a := b) (t := 0) (s := 0) (w := [0, 1, -1, 5, 20, -20, 21, -9223372036854775808]) hb (by omega) (by simp)
  have d1 : spec_DrawJoinMoves L b = some (x0, x1, x2, x3, x4, x5, y0, y1, y2, y3, y4, y5) := by
    unfold spec_DrawJoinMoves
    simp only [e1, e2, gbind_eq, Option.bind_some]
  have d2 : spec_DrawBackMove L b = some (x0, x1, x2, x3, x4, x5) := by
    unfold spec_DrawBackMove spec_DrawIsMove
    simp only [e1, gbind_eq, Option.bind_some]
  have d3 : spec_DrawMovePeg L b = some (x0, x1, x2, x3, x4, x5, qx, qy) := by
    unfold spec_DrawMovePeg
    simp only [e1, e3, gbind_eq, Option.bind_some]
  have d4 : spec_DrawShearMove L b = some k := by
    unfold spec_DrawShearMove
    simp only [e4, gbind_eq, Option.bind_some]
  obtain ⟨J, j1, j2, j3⟩ := join_both (L := L) (a0 := x0) (a1 := x1) (a2 := x2) (a3 := x3) (a4 := x4) (a5 := x5) (b0 := y0) (b1 := y1) (b2 := y2) (b3 := y3) (b4 := y4) (b5 := y5) wx4 wx5 wy4 wy5 (by omega)
  obtain ⟨R, r1, r2⟩ := back_both (L := L) (A := x0) (B := x1) (C := x2) (D := x3) (X := x4) (Y := x5) wx4 wx5 (by omega)
  obtain ⟨v1, v2⟩ := side_eq (L := L) (A := x0) (B := x1) (C := x2) (D := x3) (X := x4) (Y := x5) wx4 wx5 (by omega)
  obtain ⟨T, p1, p2, _⟩ := movePeg_both (L := L) (A := x0) (B := x1) (C := x2) (D := x3) (X := x4) (Y := x5) (x := qx) (y := qy) wx4 wx5 (by omega)
  obtain ⟨k1, k2⟩ := shearMove_eq (L := L) (k := k) (by omega)
  have hj1 := keep_j1 (L := L) (k := k) wx4 wx5 r2 (by omega)
  have im := impl_IsMove_eq (L := L) (A := x0) (B := x1) (C := x2) (D := x3) wx4 wx5 (by omega)
  have sm := spec_mvGood_eq (L := L) (A := x0) (B := x1) (C := x2) (D := x3) (X := x4) (Y := x5) (by omega)
  have hside : (if MvG x0 x1 x2 x3 x4 x5 then (x0 * x3 - x1 * x2, true) else (0, false) : Int × Bool).2 = decide (MvG x0 x1 x2 x3 x4 x5) := by
    by_cases h : MvG x0 x1 x2 x3 x4 x5 <;> simp [h]
  generalize hS : (if MvG x0 x1 x2 x3 x4 x5 then (x0 * x3 - x1 * x2, true) else (0, false) : Int × Bool) = S at *
  generalize hK : (if Bd20 k then (1, k, 0, 1, 0, 0, true) else no7) = K at *
  unfold laws_FnMovesKeep_j0 spec_IsMove
  simp only [d1, d2, d3, d4, j1, j2, r1, r2, v1, v2, p1, p2, k1, k2, im, sm, hside, gbind_eq, Option.bind_some, beqb_eq, beq_self_eq_true, ieq_eq, decide_true, Bool.and_self, Bool.not_true, cond_false, hj1]
  by_cases hf : J.2.2.2.2.2.2 = true
  · obtain ⟨ma, mb, mj, eJ⟩ := j3 hf
    subst eJ
    have z1 := (side_eq (L := L) (A := y0) (B := y1) (C := y2) (D := y3) (X := y4) (Y := y5) wy4 wy5 (by omega)).2
    have z2 := (side_eq (L := L) (A := x0 * y0 + x1 * y2) (B := x0 * y1 + x1 * y3) (C := x2 * y0 + x3 * y2) (D := x2 * y1 + x3 * y3) (X := x0 * y4 + x1 * y5 + x4) (Y := x2 * y4 + x3 * y5 + x5) (wi_of80 mj.2.1.1) (wi_of80 mj.2.1.2) (by omega)).2
    rw [if_pos mb] at z1
    rw [if_pos mj] at z2
    rw [if_pos ma] at hS
    subst hS
    have u1 := uni_of ma
    have u2 := uni_of mb
    have hdet : (x0 * y0 + x1 * y2) * (x2 * y1 + x3 * y3) - (x0 * y1 + x1 * y3) * (x2 * y0 + x3 * y2) = wr IntKind.i64 (imul (x0 * x3 - x1 * x2) (y0 * y3 - y1 * y2)) := by
      have : (x0 * y0 + x1 * y2) * (x2 * y1 + x3 * y3) - (x0 * y1 + x1 * y3) * (x2 * y0 + x3 * y2) = (x0 * x3 - x1 * x2) * (y0 * y3 - y1 * y2) := by grind
      rw [this]
      rcases u1 with h | h <;> rcases u2 with h' | h' <;> rw [h, h', imul_eq, wr_s (by omega)]
    simp only [cond_true, z1, z2, Option.bind_some, Bool.not_true, cond_false, hdet, decide_true]
    obtain ⟨F, f1, f2, f3⟩ := movePeg_both (L := L) (A := y0) (B := y1) (C := y2) (D := y3) (X := y4) (Y := y5) (x := qx) (y := qy) wy4 wy5 (by omega)
    simp only [f2, Option.bind_some]
    by_cases hF : F.2.2 = true
    · obtain ⟨_, iq, iq2, eF⟩ := f3 hF
      subst eF
      obtain ⟨G1, q1, q2, q3⟩ := movePeg_both (L := L) (A := x0) (B := x1) (C := x2) (D := x3) (X := x4) (Y := x5) (x := (mvP y0 y1 y2 y3 y4 y5 ⟨qx, qy⟩).x) (y := (mvP y0 y1 y2 y3 y4 y5 ⟨qx, qy⟩).y) wx4 wx5 (by omega)
      have hG : impl_MovePeg L (x0 * y0 + x1 * y2) (x0 * y1 + x1 * y3) (x2 * y0 + x3 * y2) (x2 * y1 + x3 * y3) (x0 * y4 + x1 * y5 + x4) (x2 * y4 + x3 * y5 + x5) qx qy = some G1 := by
        by_cases hg : In (mvP x0 x1 x2 x3 x4 x5 (mvP y0 y1 y2 y3 y4 y5 ⟨qx, qy⟩))
        · have w1 := (movePeg_yes (L := L) (p := mvP y0 y1 y2 y3 y4 y5 ⟨qx, qy⟩) ma iq2 hg (by omega)).2
          rw [q2] at w1
          have w2 := (movePeg_yes (L := L) (p := ⟨qx, qy⟩) mj iq (by rw [join_mvP]; exact hg) (by omega)).2
          rw [w1, ← join_mvP]; exact w2
        · have w1 := (movePeg_no (L := L) (p := mvP y0 y1 y2 y3 y4 y5 ⟨qx, qy⟩) wx4 wx5 (fun h => hg h.2.2) (show 10 < L by omega)).2
          rw [q2] at w1
          have w2 := (movePeg_no (L := L) (p := ⟨qx, qy⟩) (A := x0 * y0 + x1 * y2) (B := x0 * y1 + x1 * y3) (C := x2 * y0 + x3 * y2) (D := x2 * y1 + x3 * y3) (X := x0 * y4 + x1 * y5 + x4) (Y := x2 * y4 + x3 * y5 + x5) (wi_of80 mj.2.1.1) (wi_of80 mj.2.1.2) (fun h => hg (by rw [← join_mvP]; exact h.2.2)) (show 10 < L by omega)).2
          rw [w1]; exact w2
      simp only [cond_true, q2, hG, Option.bind_some, beq_self_eq_true, Bool.not_true, cond_false, decide_true, Bool.and_self, ma]
    · simp only [Bool.not_eq_true] at hF
      simp only [hF, cond_false, ma, decide_true, Bool.not_true]
  · simp only [Bool.not_eq_true] at hf
    simp only [hf, cond_false]

theorem moveCorners_eq {L : Nat} {A B C D X Y : Int} {p : List Pt} (hX : Wi X) (hY : Wi Y) (hL : 6000 < L) : ∃ r, spec_MoveCorners L A B C D X Y p = some r ∧ impl_MoveCorners L A B C D X Y p = some r ∧ (r.1.length : Int) ≤ 10 ∧
    (r.2 = true → MvG A B C D X Y ∧ Good_ p ∧ r.1 = p.map (mvP A B C D X Y) ∧ ∀ i, In (mvP A B C D X Y (pt p i))) := by
  unfold spec_MoveCorners impl_MoveCorners
  simp only [spec_mvGood_eq (L := L) (show 10 < L by omega), impl_IsMove_eq hX hY (show 10 < L by omega), gbind_eq, Option.bind_some, spec_pgGood_eq (L := L) (a := p) (show 20 < L by omega)]
  by_cases h : MvG A B C D X Y
  · by_cases g : Good_ p
    · obtain ⟨r, e1, e2, e3, e4⟩ := map_both (L := L) h g (by omega)
      simp only [h, g, decide_true, Bool.not_true, cond_false, e1, e2, Option.bind_some]
      exact ⟨r, rfl, rfl, e3, fun hr => ⟨trivial, trivial, (e4 hr).1, (e4 hr).2⟩⟩
    · have : impl_changed_impl_Move_bring L p A B C D X Y = some ([], false) := by
        unfold impl_changed_impl_Move_bring
        rw [impl_IsPolygon_eq (by omega)]
        simp only [g, decide_false, gbind_eq, Option.bind_some, Bool.not_false, cond_true]
      simp only [h, g, decide_true, decide_false, Bool.not_true, Bool.not_false, cond_false, cond_true, this, Option.bind_some]
      exact ⟨([], false), rfl, rfl, by simp, fun hr => by cases hr⟩
  · simp only [h, decide_false, Bool.not_false, cond_true]
    exact ⟨([], false), rfl, rfl, by simp, fun hr => by cases hr⟩

theorem mvP_aff (A B C D X Y : Int) : mvP A B C D X Y = aff A B C D X Y := rfl

theorem fa_of {a : List Pt} (g : Good_ a) : Fa a := by
  obtain ⟨h1, h2, h3, h4⟩ := vwl g
  refine ⟨h4, by omega, fun i => (h1 i).nr, fun i => ?_⟩
  have := g.turn (i % a.length) (Int.emod_nonneg _ (by omega)) (Int.emod_lt_of_pos _ (by omega))
  have e : ∀ c : Int, pt a (i % (a.length : Int) + c) = pt a (i + c) := fun c => pt_congr (by rw [Int.emod_add_emod])
  rwa [pt_mod, e, e] at this

theorem alike_moved {L : Nat} {A B C D X Y : Int} {p : List Pt} (h : MvG A B C D X Y) (g : Good_ p) (hin : ∀ i, In (mvP A B C D X Y (pt p i))) (hL : 6000 < L) : impl_AreAlike L p (p.map (mvP A B C D X Y)) = some (true, true) := by
  have g2 : Good_ (p.map (mvP A B C D X Y)) := by rw [mvP_aff]; exact good_aff (uni_of h) g hin
  obtain ⟨f, _, f1, f2⟩ := kind_eq (L := L) (fa_of g) (by omega)
  obtain ⟨f', _, f1', f2'⟩ := kind_eq (L := L) (fa_of g2) (by omega)
  have k := kind_aff (L := L) (α := A) (β := B) (γ := C) (δ := D) (u := X) (v := Y) (uni_of h) (fa_of g) (by rw [← mvP_aff]; exact fa_of g2) (by omega) f2
  rw [← mvP_aff] at k
  have e : f' = f := f2'.eq (fa_of g2) (by omega) k
  subst e
  have hl := f2.len (fa_of g) (by omega)
  obtain ⟨h1, h2, h3, h4⟩ := vwl g
  unfold impl_AreAlike
  rw [impl_IsPolygon_eq (by omega), impl_IsPolygon_eq (by omega)]
  simp only [g, g2, decide_true, Bool.not_true, cond_false, gbind_eq, Option.bind_some, f1, f1', equal_self (L := L) (a := f') (by omega) (by omega)]

theorem keep_l3 {L : Nat} {b : List Int} {A B C D X Y : Int} {p : List Pt} (hb : By b) (h : MvG A B C D X Y) (g : Good_ p) (hin : ∀ i, In (mvP A B C D X Y (pt p i))) (hL : 6000 < L) : ∀ (m i : Nat), i ≤ p.length → p.length - i < m →
    laws_FnMovesKeep_l3 L b (A, B, C, D, X, Y, p) (p.map (mvP A B C D X Y), true) m i = some true := by
  obtain ⟨h1, h2, h3, h4⟩ := vwl g
  intro m
  induction m with
  | zero => intro i _ h; omega
  | succ m ih =>
    intro i hi hm
    rw [laws_FnMovesKeep_l3]
    by_cases hlt : (i : Int) < (p.length : Int)
    · have wi : wr IntKind.i64 (iadd (i : Int) 1) = ((i + 1 : Nat) : Int) := by rw [iadd_eq, wr_s (by omega)]; omega
      have hm2 := (movePeg_yes (L := L) (p := pt p i) h (h1 i) (hin i) (by omega)).2
      have hg : lget (p.map (mvP A B C D X Y)) (i : Int) = some (mvP A B C D X Y (pt p i)) := by
        rw [lget_eq, if_pos (by omega), List.getElem?_map, pt_get (by omega) hlt]; rfl
      simp only [ilen_mapep, List.length_map, ilt_eq, ile_eq, hlt, show (0 : Int) ≤ (i : Int) by omega, decide_true, Bool.and_self, cond_true, lget_pt (show (0 : Int) ≤ (i : Int) by omega) hlt, hg, gbind_eq, Option.bind_some, hm2, Bool.not_true, cond_false, ieq_eq, wi]
      exact ih (i + 1) (by omega) (by omega)
    · simp only [ilen_mapep, ilt_eq, hlt, decide_false, cond_false, alike_moved h g hin hL, gbind_eq, Option.bind_some, Bool.not_true, keep_j0 hb (show 2000 < L by omega)]

theorem big_eq {L : Nat} {a b : List Int} : ∃ r, laws_big L a b = some r := by
  unfold laws_big
  by_cases h : ilt 1048576 (ilen (List.map eU a)) = true
  · rw [h]; exact ⟨_, rfl⟩
  · simp only [Bool.not_eq_true] at h
    rw [h]; exact ⟨_, rfl⟩

theorem movesKeep_law (a b : List Int) (ha : By a) (hb : By b) : ∃ L, laws_FnMovesKeep L a b = some true := by
  refine ⟨2000000, ?_⟩
  unfold laws_FnMovesKeep
  obtain ⟨r, hr⟩ := big_eq (L := 2000000) (a := a) (b := b)
  simp only [hr, gbind_eq, Option.bind_some]
  cases r with
  | true => rfl
  | false =>
    obtain ⟨A, B, C, D, X, Y, t1, s1, e1, _, ⟨wX, wY⟩, _, _⟩ := move_dr (L := 2000000) (a := a) (t := 0) (s := 0) ha (by omega) (by omega)
    obtain ⟨p, t2, s2, e2, pl, pw, _, _⟩ := polygon_dr (L := 2000000) (a := a) (t := t1) (s := s1) (n := 4) ha (by omega) (by omega) (by omega)
    have d1 : spec_DrawMoveCorners 2000000 a = some (A, B, C, D, X, Y, p) := by
      unfold spec_DrawMoveCorners
      simp only [e1, e2, gbind_eq, Option.bind_some]
    obtain ⟨r, q1, q2, q3, q4⟩ := moveCorners_eq (L := 2000000) (A := A) (B := B) (C := C) (D := D) (p := p) wX wY (by omega)
    simp only [cond_false, d1, q1, q2, Option.bind_some, beqb_eq, beq_self_eq_true, Bool.not_true, zPegs_eq (L := 2000000) (a := r.1) (by omega) (by omega)]
    by_cases hf : r.2 = true
    · obtain ⟨h, g, er, hin⟩ := q4 hf
      obtain ⟨v1, v2, v3, v4⟩ := vwl g
      have g2 : Good_ (p.map (mvP A B C D X Y)) := by rw [mvP_aff]; exact good_aff (uni_of h) g hin
      obtain ⟨w1, w2, w3, w4⟩ := vwl g2
      have nr1 : ∀ i, Nr (pt p i) := fun i => (v1 i).nr
      have nr2 : ∀ i, Nr (pt (p.map (mvP A B C D X Y)) i) := fun i => (w1 i).nr
      obtain ⟨r1, r2⟩ := r
      simp only at hf er
      subst hf; subst er
      have a1 : impl_TwiceArea 2000000 p = some (area p, true) := by
        unfold impl_TwiceArea
        rw [impl_IsPolygon_eq (by omega)]
        simp only [g, decide_true, Bool.not_true, cond_false, gbind_eq, Option.bind_some, impl_twice_eq v2 (show (p.length : Int) ≤ 1000 by omega) (show (p.length : Int) < (2000000 : Nat) by omega) nr1]
      have a2 : impl_TwiceArea 2000000 (p.map (mvP A B C D X Y)) = some ((A * D - B * C) * area p, true) := by
        unfold impl_TwiceArea
        rw [impl_IsPolygon_eq (by omega)]
        simp only [g2, decide_true, Bool.not_true, cond_false, gbind_eq, Option.bind_some, impl_twice_eq w2 (show ((p.map (mvP A B C D X Y)).length : Int) ≤ 1000 by omega) (show ((p.map (mvP A B C D X Y)).length : Int) < (2000000 : Nat) by omega) nr2]
        rw [mvP_aff, area_aff v2]
      have b1 : impl_PegsOn 2000000 p = some (round p, true) := by
        unfold impl_PegsOn
        rw [impl_IsPolygon_eq (by omega)]
        simp only [g, decide_true, Bool.not_true, cond_false, gbind_eq, Option.bind_some, impl_around_eq v2 (show (p.length : Int) ≤ 1000 by omega) (show 3000 < 2000000 by omega) nr1]
      have b2 : impl_PegsOn 2000000 (p.map (mvP A B C D X Y)) = some (round p, true) := by
        unfold impl_PegsOn
        rw [impl_IsPolygon_eq (by omega)]
        simp only [g2, decide_true, Bool.not_true, cond_false, gbind_eq, Option.bind_some, impl_around_eq w2 (show ((p.map (mvP A B C D X Y)).length : Int) ≤ 1000 by omega) (show 3000 < 2000000 by omega) nr2]
        rw [mvP_aff, round_aff v2 (uni_of h)]
      have sd := (side_eq (L := 2000000) (A := A) (B := B) (C := C) (D := D) wX wY (by omega)).2
      rw [if_pos h] at sd
      have ab := area_bd (a := p) (by omega) nr1
      have wd : wr IntKind.i64 (imul (A * D - B * C) (area p)) = (A * D - B * C) * area p := by
        rcases uni_of h with e | e <;> rw [e, imul_eq, wr_id (by omega)]
      have l3 := keep_l3 (L := 2000000) hb h g hin (by omega) 2000000 0 (by omega) (by omega)
      simp only [cond_true, sd, a1, a2, b1, b2, impl_IsMove_eq (L := 2000000) (A := A) (B := B) (C := C) (D := D) wX wY (by omega), h, impl_IsPolygon_eq (L := 2000000) (a := p.map (mvP A B C D X Y)) (by omega), g2, decide_true, Option.bind_some, Bool.not_true, cond_false, ieq_eq, wd]
      exact l3
    · simp only [Bool.not_eq_true] at hf
      simp only [hf, cond_false, keep_j0 (L := 2000000) hb (by omega)]
end Go.AM

