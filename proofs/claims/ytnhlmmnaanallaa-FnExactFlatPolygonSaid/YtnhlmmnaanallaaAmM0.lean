import Derived.Test.YtnhlmmnaanallaaAmP0
set_option linter.unusedVariables false
set_option linter.unusedSimpArgs false
set_option linter.unnecessarySimpa false
set_option linter.deprecated false
set_option linter.unusedSectionVars false
open Go Go.AM Go.Proofs
namespace Go.AM

noncomputable def spec_mvPeg (L : Nat) (a_0 : Int) (a_1 : Int) (a_2 : Int) (a_3 : Int) (a_4 : Int) (a_5 : Int) (b_0 : Int) (b_1 : Int) : Option (Int × Int) := some ((wr IntKind.i64 (iadd (wr IntKind.i64 (iadd (wr IntKind.i64 (imul a_0 b_0)) (wr IntKind.i64 (imul a_1 b_1)))) a_4), wr IntKind.i64 (iadd (wr IntKind.i64 (iadd (wr IntKind.i64 (imul a_2 b_0)) (wr IntKind.i64 (imul a_3 b_1)))) a_5)))

end Go.AM

namespace Go.AM
set_option linter.unusedVariables false

theorem wr_id {n : Int} (h : -9223372036854775808 ≤ n ∧ n ≤ 9223372036854775807) : wr .i64 n = n := by
  rw [wr_eq]
  simp only [IntKind.wrap, IntKind.signed, IntKind.bits]
  simp
  omega

theorem mul_bd {x y A B : Int} (hx : -A ≤ x ∧ x ≤ A) (hy : -B ≤ y ∧ y ≤ B) : -(A * B) ≤ x * y ∧ x * y ≤ A * B := by
  have h : (x * y).natAbs ≤ (A * B).natAbs := by
    rw [Int.natAbs_mul, Int.natAbs_mul]
    exact Nat.mul_le_mul (by omega) (by omega)
  have hp : 0 ≤ A * B := Int.mul_nonneg (by omega) (by omega)
  omega

theorem mul_le0 {x y : Int} : x * y ≤ 0 ↔ (x ≤ 0 ∧ 0 ≤ y) ∨ (0 ≤ x ∧ y ≤ 0) := by
  constructor
  · intro h
    rcases Int.lt_trichotomy x 0 with hx | hx | hx
    · rcases Int.lt_trichotomy y 0 with hy | hy | hy
      · have := Int.mul_pos_of_neg_of_neg hx hy; omega
      · omega
      · omega
    · omega
    · rcases Int.lt_trichotomy y 0 with hy | hy | hy
      · omega
      · omega
      · have := Int.mul_pos hx hy; omega
  · rintro (⟨h1, h2⟩ | ⟨h1, h2⟩)
    · exact Int.mul_nonpos_of_nonpos_of_nonneg h1 h2
    · exact Int.mul_nonpos_of_nonneg_of_nonpos h1 h2

def turn (a b c : Pt) : Int := (b.x - a.x) * (c.y - a.y) - (b.y - a.y) * (c.x - a.x)

def Nr (p : Pt) : Prop := (-1000 ≤ p.x ∧ p.x ≤ 1000) ∧ (-1000 ≤ p.y ∧ p.y ≤ 1000)
def In (p : Pt) : Prop := (-40 ≤ p.x ∧ p.x ≤ 40) ∧ (-40 ≤ p.y ∧ p.y ≤ 40)
theorem In.nr {p : Pt} (h : In p) : Nr p := by unfold In at h; unfold Nr; omega

theorem sub_bd {p q : Pt} (hp : Nr p) (hq : Nr q) : (-2000 ≤ p.x - q.x ∧ p.x - q.x ≤ 2000) ∧ (-2000 ≤ p.y - q.y ∧ p.y - q.y ≤ 2000) := by
  unfold Nr at hp hq; omega

theorem spec_pgTurn_eq {L : Nat} {a b c : Pt} (ha : Nr a) (hb : Nr b) (hc : Nr c) : spec_pgTurn L a.x a.y b.x b.y c.x c.y = some (turn a b c) := by
  have h1 := sub_bd hb ha
  have h2 := sub_bd hc ha
  have h3 := mul_bd h1.1 h2.2
  have h4 := mul_bd h1.2 h2.1
  unfold spec_pgTurn turn
  simp only [isub_eq, imul_eq]
  rw [wr_id (n := b.x - a.x) (by omega), wr_id (n := c.y - a.y) (by omega), wr_id (n := b.y - a.y) (by omega), wr_id (n := c.x - a.x) (by omega), wr_id (n := (b.x - a.x) * (c.y - a.y)) (by omega), wr_id (n := (b.y - a.y) * (c.x - a.x)) (by omega), wr_id (by omega)]

theorem impl_turn_eq {L : Nat} {a b c : Pt} (ha : Nr a) (hb : Nr b) (hc : Nr c) : impl_turn L a.x a.y b.x b.y c.x c.y = some (turn a b c) := by
  have h1 := sub_bd hb ha
  have h2 := sub_bd hc ha
  have h3 := mul_bd h1.1 h2.2
  have h4 := mul_bd h1.2 h2.1
  unfold impl_turn impl_Peg_less impl_cross turn
  simp only [gbind_eq, Option.bind_some, isub_eq, imul_eq]
  rw [wr_id (n := b.x - a.x) (by omega), wr_id (n := c.y - a.y) (by omega), wr_id (n := b.y - a.y) (by omega), wr_id (n := c.x - a.x) (by omega), wr_id (n := (b.x - a.x) * (c.y - a.y)) (by omega), wr_id (n := (b.y - a.y) * (c.x - a.x)) (by omega), wr_id (by omega)]

/-- on a line between two points -/
def OnL (a b p : Pt) : Prop := turn a b p = 0 ∧ (a.x - p.x) * (b.x - p.x) ≤ 0 ∧ (a.y - p.y) * (b.y - p.y) ≤ 0
instance (a b p : Pt) : Decidable (OnL a b p) := by unfold OnL; infer_instance

theorem spec_pgOn_eq {L : Nat} {a b p : Pt} (ha : Nr a) (hb : Nr b) (hp : Nr p) : spec_pgOn L a.x a.y b.x b.y p.x p.y = some (decide (OnL a b p)) := by
  have h1 := sub_bd ha hp
  have h2 := sub_bd hb hp
  have h3 := mul_bd h1.1 h2.1
  have h4 := mul_bd h1.2 h2.2
  unfold spec_pgOn
  rw [spec_pgTurn_eq ha hb hp]
  simp only [gbind_eq, Option.bind_some, isub_eq, imul_eq, ieq_eq, ile_eq]
  rw [wr_id (n := a.x - p.x) (by omega), wr_id (n := b.x - p.x) (by omega), wr_id (n := a.y - p.y) (by omega), wr_id (n := b.y - p.y) (by omega), wr_id (n := (a.x - p.x) * (b.x - p.x)) (by omega), wr_id (n := (a.y - p.y) * (b.y - p.y)) (by omega)]
  unfold OnL
  by_cases k1 : turn a b p = 0 <;> by_cases k2 : (a.x - p.x) * (b.x - p.x) ≤ 0 <;> simp [k1, k2]

theorem mid_iff {a b p : Int} : (a - p) * (b - p) ≤ 0 ↔ (if b < a then b else a) ≤ p ∧ p ≤ (if b > a then b else a) := by
  rw [mul_le0]
  split <;> split <;> omega

theorem impl_isOn_eq {L : Nat} {a b p : Pt} (ha : Nr a) (hb : Nr b) (hp : Nr p) : impl_isOn L a.x a.y b.x b.y p.x p.y = some (decide (OnL a b p)) := by
  unfold impl_isOn impl_within OnL
  rw [impl_turn_eq ha hb hp]
  simp only [gbind_eq, Option.bind_some, ieq_eq, ile_eq, imin_eq, imax_eq, mid_iff]
  by_cases k1 : turn a b p = 0
  · simp only [k1, decide_true, cond_true]
    by_cases k2 : (if b.x < a.x then b.x else a.x) ≤ p.x <;> by_cases k3 : p.x ≤ (if b.x > a.x then b.x else a.x) <;>
      by_cases k4 : (if b.y < a.y then b.y else a.y) ≤ p.y <;> by_cases k5 : p.y ≤ (if b.y > a.y then b.y else a.y) <;> simp [k2, k3, k4, k5]
  · simp [k1]

def sg (n : Int) : Int := if 0 < n then 1 else if n < 0 then -1 else 0

theorem spec_l1Sign_eq {L : Nat} {n : Int} : spec_l1Sign L n = some (sg n) := by
  unfold spec_l1Sign sg
  simp only [ilt_eq]
  by_cases h1 : 0 < n <;> by_cases h2 : n < 0 <;> simp [h1, h2]
theorem impl_sign_eq {L : Nat} {n : Int} : impl_sign L n = some (sg n) := by
  unfold impl_sign sg
  simp only [imin_eq, imax_eq]
  congr 1
  split <;> split <;> split <;> (try split) <;> omega

theorem sg_bd (n : Int) : -1 ≤ sg n ∧ sg n ≤ 1 := by unfold sg; split; omega; split <;> omega

/-- two lines have a point in common -/
def Meet (a b c d : Pt) : Prop := OnL a b c ∨ OnL a b d ∨ OnL c d a ∨ OnL c d b ∨ (sg (turn a b c) * sg (turn a b d) < 0 ∧ sg (turn c d a) * sg (turn c d b) < 0)
instance (a b c d : Pt) : Decidable (Meet a b c d) := by unfold Meet; infer_instance

theorem sgm {m n : Int} : wr .i64 (sg m * sg n) = sg m * sg n := by
  have := mul_bd (sg_bd m) (sg_bd n)
  exact wr_id (by omega)

theorem spec_pgMeet_eq {L : Nat} {a b c d : Pt} (ha : Nr a) (hb : Nr b) (hc : Nr c) (hd : Nr d) : spec_pgMeet L a.x a.y b.x b.y c.x c.y d.x d.y = some (decide (Meet a b c d)) := by
  unfold spec_pgMeet Meet
  rw [spec_pgOn_eq ha hb hc, spec_pgOn_eq ha hb hd, spec_pgOn_eq hc hd ha, spec_pgOn_eq hc hd hb, spec_pgTurn_eq ha hb hc, spec_pgTurn_eq ha hb hd, spec_pgTurn_eq hc hd ha, spec_pgTurn_eq hc hd hb]
  simp only [gbind_eq, Option.bind_some, spec_l1Sign_eq, imul_eq, ilt_eq, sgm]
  by_cases k1 : OnL a b c <;> by_cases k2 : OnL a b d <;> by_cases k3 : OnL c d a <;> by_cases k4 : OnL c d b <;> by_cases k5 : sg (turn a b c) * sg (turn a b d) < 0 <;>
    by_cases k6 : sg (turn c d a) * sg (turn c d b) < 0 <;> simp [k1, k2, k3, k4, k5, k6]

theorem impl_meet_eq {L : Nat} {a b c d : Pt} (ha : Nr a) (hb : Nr b) (hc : Nr c) (hd : Nr d) : impl_meet L a.x a.y b.x b.y c.x c.y d.x d.y = some (decide (Meet a b c d)) := by
  unfold impl_meet Meet
  rw [impl_isOn_eq ha hb hc, impl_isOn_eq ha hb hd, impl_isOn_eq hc hd ha, impl_isOn_eq hc hd hb, impl_turn_eq ha hb hc, impl_turn_eq ha hb hd, impl_turn_eq hc hd ha, impl_turn_eq hc hd hb]
  simp only [gbind_eq, Option.bind_some, impl_sign_eq, imul_eq, ilt_eq, sgm]
  by_cases k1 : OnL a b c <;> by_cases k2 : OnL a b d <;> by_cases k3 : OnL c d a <;> by_cases k4 : OnL c d b <;> by_cases k5 : sg (turn a b c) * sg (turn a b d) < 0 <;>
    by_cases k6 : sg (turn c d a) * sg (turn c d b) < 0 <;> simp [k1, k2, k3, k4, k5, k6]
end Go.AM

namespace Go.AM
set_option linter.unusedVariables false

/-- the i-th one of a list, told round -/
def pt (a : List Pt) (i : Int) : Pt := a.getD (i % (a.length : Int)).toNat ⟨0, 0⟩

theorem pt_congr {a : List Pt} {i j : Int} (h : i % (a.length : Int) = j % (a.length : Int)) : pt a i = pt a j := by unfold pt; rw [h]

theorem pt_get {a : List Pt} {i : Int} (h0 : 0 ≤ i) (h1 : i < a.length) : a[i.toNat]? = some (pt a i) := by
  unfold pt
  rw [Int.emod_eq_of_lt h0 h1]
  have : i.toNat < a.length := by omega
  simp [this]

theorem lget_pt {a : List Pt} {i : Int} (h0 : 0 ≤ i) (h1 : i < a.length) : lget a i = some (pt a i) := by
  rw [lget_eq, if_pos h0, pt_get h0 h1]

theorem irem_nn {i n : Int} (h : 0 ≤ i) : irem i n = i % n := by rw [irem_eq]; exact Int.tmod_eq_emod_of_nonneg h

theorem lget_rem {a : List Pt} {i : Int} (h0 : 0 ≤ i) (hn : a ≠ []) : lget a (irem i (a.length : Int)) = some (pt a i) := by
  have hl : 0 < (a.length : Int) := by have := List.length_pos_iff.2 hn; omega
  rw [irem_nn h0, lget_pt (Int.emod_nonneg _ (by omega)) (Int.emod_lt_of_pos _ hl)]
  congr 1
  exact pt_congr (Int.emod_emod_of_dvd _ (Int.dvd_refl _))

theorem ilen_mapep (a : List Pt) : ilen (List.map ep a) = (a.length : Int) := by rw [ilen_map, ilen_eq]

theorem impl_at_eq {L : Nat} {a : List Pt} {i : Int} (hn : a ≠ []) (hs : (a.length : Int) ≤ 1000000000) : impl_at L a i = some ((pt a i).x, (pt a i).y) := by
  have hl : 0 < (a.length : Int) := by have := List.length_pos_iff.2 hn; omega
  unfold impl_at
  simp only [ilen_mapep, ieq_eq, gbind_eq, iadd_eq]
  have h0 : ¬ ((a.length : Int) = 0) := by omega
  simp only [h0, decide_false, cond_false]
  have h1 : -(a.length : Int) < irem i (a.length : Int) ∧ irem i (a.length : Int) < a.length := by
    rw [irem_eq]
    have := Int.tmod_lt_of_pos i hl
    have h2 := Int.natAbs_tmod i (a.length : Int)
    have h3 := Nat.mod_lt i.natAbs (show 0 < (a.length : Int).natAbs by omega)
    omega
  rw [wr_id (by omega), lget_rem (by omega) hn]
  simp only [Option.bind_some]
  have : pt a (irem i (a.length : Int) + a.length) = pt a i := by
    apply pt_congr
    rw [Int.add_emod_right, irem_eq]
    conv => rhs; rw [← Int.tmod_add_mul_tdiv i (a.length : Int), Int.add_mul_emod_self_left]
  rw [this]

/-- a search that goes on from v to n -/
theorem search {β : Type} {f : Nat → Int → Option β} {bad : Int → Prop} {r k : Option β} {lo n hi : Int} (hn : n ≤ hi) (hstop : ∀ m v, lo ≤ v → v ≤ hi → ¬ v < n → f (m + 1) v = k) (hbad : ∀ m v, lo ≤ v → v < n → bad v → f (m + 1) v = r)
    (hgo : ∀ m v, lo ≤ v → v < n → ¬ bad v → f (m + 1) v = f m (v + 1)) : ∀ (m : Nat) (v : Int), lo ≤ v → v ≤ hi → n - v < m → 0 < m → ((∃ j, v ≤ j ∧ j < n ∧ bad j) → f m v = r) ∧ ((∀ j, v ≤ j → j < n → ¬ bad j) → f m v = k) := by
  intro m
  induction m with
  | zero => intro v _ _ _ h; omega
  | succ m ih =>
    intro v hv hvh hm _
    by_cases hvn : v < n
    · by_cases hb : bad v
      · refine ⟨fun _ => hbad m v hv hvn hb, fun h => absurd hb (h v (Int.le_refl _) hvn)⟩
      · rw [hgo m v hv hvn hb]
        obtain ⟨h1, h2⟩ := ih (v + 1) (by omega) (by omega) (by omega) (by omega)
        refine ⟨fun ⟨j, q1, q2, q3⟩ => h1 ⟨j, ?_, q2, q3⟩, fun h => h2 fun j q1 q2 => h j (by omega) q2⟩
        by_cases hj : j = v
        · subst hj; exact absurd q3 hb
        · omega
    · rw [hstop m v hv hvh hvn]
      exact ⟨fun ⟨j, q1, q2, _⟩ => by omega, fun _ => rfl⟩

/-- a polygon -/
structure Good_ (a : List Pt) : Prop where
  lo : 3 ≤ (a.length : Int)
  hi : (a.length : Int) ≤ 10
  isIn : ∀ i, 0 ≤ i → i < (a.length : Int) → In (pt a i)
  ne : ∀ i k, 0 ≤ k → k < i → i < (a.length : Int) → pt a k ≠ pt a i
  turn : ∀ i, 0 ≤ i → i < (a.length : Int) → turn (pt a i) (pt a (i + 1)) (pt a (i + 2)) ≠ 0
  apart : ∀ i k, 0 ≤ i → i + 2 ≤ k → k < (a.length : Int) → k - i < (a.length : Int) - 1 → ¬ Meet (pt a i) (pt a (i + 1)) (pt a k) (pt a (k + 1))

theorem in_all {a : List Pt} (h : ∀ i, 0 ≤ i → i < (a.length : Int) → In (pt a i)) (hn : a ≠ []) (i : Int) : In (pt a i) := by
  have hl : 0 < (a.length : Int) := by have := List.length_pos_iff.2 hn; omega
  have := h (i % a.length) (Int.emod_nonneg _ (by omega)) (Int.emod_lt_of_pos _ hl)
  rwa [pt_congr (Int.emod_emod_of_dvd _ (Int.dvd_refl _))] at this

theorem spec_pgIs_eq {L : Nat} {p : Pt} : (In p → spec_pgIs L p.x p.y = some true) ∧ (¬ In p → spec_pgIs L p.x p.y = some false) := by
  unfold spec_pgIs spec_l1In In
  simp only [gbind_eq, ile_eq]
  by_cases h1 : -40 ≤ p.x <;> by_cases h2 : p.x ≤ 40 <;> by_cases h3 : -40 ≤ p.y <;> by_cases h4 : p.y ≤ 40 <;> simp [h1, h2, h3, h4]

theorem impl_IsPeg_eq {L : Nat} {p : Pt} : (In p → impl_IsPeg L p.x p.y = some true) ∧ (¬ In p → impl_IsPeg L p.x p.y = some false) := by
  unfold impl_IsPeg impl_within In
  simp only [gbind_eq, ile_eq]
  by_cases h1 : -40 ≤ p.x <;> by_cases h2 : p.x ≤ 40 <;> by_cases h3 : -40 ≤ p.y <;> by_cases h4 : p.y ≤ 40 <;> simp [h1, h2, h3, h4]

theorem pt_eq_iff {p q : Pt} : (decide (p.x = q.x) && decide (p.y = q.y)) = true ↔ p = q := by
  cases p; cases q; simp

theorem lsub0 {a : List Pt} {i : Int} (h0 : 0 ≤ i) (h1 : i ≤ a.length) : lsub a 0 i = a.take i.toNat := by
  rw [lsub_eq]; simp

theorem lsub0_len {a : List Pt} {i : Int} (h0 : 0 ≤ i) (h1 : i ≤ a.length) : ilen (lsub (List.map ep a) 0 i) = i := by
  rw [lsub_eq, ilen_eq]; simp; omega

theorem lsub0_get {a : List Pt} {i j : Int} (h0 : 0 ≤ j) (hj : j < i) (h1 : i ≤ a.length) : lget (lsub a 0 i) j = some (pt a j) := by
  rw [lsub0 (by omega) h1, lget_eq, if_pos h0, List.getElem?_take, if_pos (by omega), pt_get h0 (by omega)]

theorem good_l1 {L : Nat} {κ0 : (List Pt) → Int → (List Pt) → Int → Int → Option Bool} {a v17 : List Pt} {v3 v18 i : Int} {p : Pt} (hi : 0 ≤ i) (hl : i ≤ a.length) (hs : (a.length : Int) ≤ 10) {m : Nat} (hm : i < m) :
    ((∃ j, 0 ≤ j ∧ j < i ∧ pt a j = p) → spec_pgGood_l1 L κ0 a v3 v17 v18 i p m 0 = some false) ∧ ((∀ j, 0 ≤ j → j < i → ¬ pt a j = p) → spec_pgGood_l1 L κ0 a v3 v17 v18 i p m 0 = κ0 a v3 v17 v18 (i + 1)) := by
  refine search (lo := 0) (n := i) (hi := i) (bad := fun j => pt a j = p) (Int.le_refl _) ?_ ?_ ?_ m 0 (Int.le_refl _) (by omega) (by omega) (by omega)
  · intro m v h0 _ h
    rw [spec_pgGood_l1]
    simp only [lsub0_len hi hl, ilt_eq, h, decide_false, cond_false, iadd_eq]
    rw [wr_id (by omega)]
  · intro m v h0 h hb
    rw [spec_pgGood_l1]
    simp only [lsub0_len hi hl, ilt_eq, h, decide_true, cond_true, lsub0_get h0 h hl, gbind_eq, Option.bind_some, ieq_eq, hb, Bool.and_self]
  · intro m v h0 h hb
    rw [spec_pgGood_l1]
    simp only [lsub0_len hi hl, ilt_eq, h, decide_true, cond_true, lsub0_get h0 h hl, gbind_eq, Option.bind_some, ieq_eq, iadd_eq]
    have : (decide (p.x = (pt a v).x) && decide (p.y = (pt a v).y)) = false := by
      rw [← Bool.not_eq_true, pt_eq_iff]; exact fun e => hb e.symm
    rw [this, cond_false, wr_id (by omega)]

theorem wr_s {i : Int} (h : -1000000 ≤ i ∧ i ≤ 1000000) : wr .i64 i = i := wr_id (by omega)

theorem good_l3 {L : Nat} {κ1 : (List Pt) → Int → (List Pt) → Int → Int → Option Bool} {a v40 : List Pt} {v41 i : Int} (hi : 0 ≤ i) (hil : i < a.length) (hs : (a.length : Int) ≤ 10) (hin : ∀ i, In (pt a i)) {m : Nat} (hm : (a.length : Int) - (i + 2) < m) (hm0 : 0 < m) :
    ((∃ k, i + 2 ≤ k ∧ k < (if i = 0 then (a.length : Int) - 1 else a.length) ∧ Meet (pt a i) (pt a (i + 1)) (pt a k) (pt a (k + 1))) → spec_pgGood_l3 L κ1 a a.length v40 v41 i (pt a i) (pt a (i + 1)) m (i + 2) = some false) ∧
    ((∀ k, i + 2 ≤ k → k < (if i = 0 then (a.length : Int) - 1 else a.length) → ¬ Meet (pt a i) (pt a (i + 1)) (pt a k) (pt a (k + 1))) → spec_pgGood_l3 L κ1 a a.length v40 v41 i (pt a i) (pt a (i + 1)) m (i + 2) = κ1 a a.length v40 v41 (i + 1)) := by
  have hne : a ≠ [] := by intro e; subst e; simp at hil; omega
  refine search (lo := i + 2) (n := if i = 0 then (a.length : Int) - 1 else a.length) (hi := 12) (bad := fun k => Meet (pt a i) (pt a (i + 1)) (pt a k) (pt a (k + 1))) (by split <;> omega) ?_ ?_ ?_ m (i + 2) (Int.le_refl _) (by omega) (by split <;> omega) hm0
  · intro m v h0 _ h
    rw [spec_pgGood_l3]
    simp only [ilt_eq, isub_eq, iadd_eq]
    rw [wr_s (i := v - i) (by omega), wr_s (i := (a.length : Int) - 1) (by omega), wr_s (i := i + 1) (by omega)]
    by_cases h1 : v < (a.length : Int)
    · have h2 : ¬ (v - i < (a.length : Int) - 1) := by split at h <;> omega
      simp only [h1, h2, decide_true, decide_false, cond_true, cond_false]
    · simp only [h1, decide_false, cond_false]
  · intro m v h0 h hb
    rw [spec_pgGood_l3]
    have h1 : v < (a.length : Int) := by split at h <;> omega
    have h2 : v - i < (a.length : Int) - 1 := by split at h <;> omega
    have h3 : ¬ ((a.length : Int) = 0) := by omega
    simp only [ilt_eq, isub_eq, iadd_eq, ieq_eq]
    rw [wr_s (i := v - i) (by omega), wr_s (i := (a.length : Int) - 1) (by omega), wr_s (i := v + 1) (by omega)]
    simp only [h1, h2, h3, decide_true, decide_false, cond_true, cond_false, gbind_eq, lget_pt (show 0 ≤ v by omega) h1, lget_rem (show 0 ≤ v + 1 by omega) hne, Option.bind_some]
    rw [spec_pgMeet_eq (hin _).nr (hin _).nr (hin _).nr (hin _).nr]
    simp [hb]
  · intro m v h0 h hb
    rw [spec_pgGood_l3]
    have h1 : v < (a.length : Int) := by split at h <;> omega
    have h2 : v - i < (a.length : Int) - 1 := by split at h <;> omega
    have h3 : ¬ ((a.length : Int) = 0) := by omega
    simp only [ilt_eq, isub_eq, iadd_eq, ieq_eq]
    rw [wr_s (i := v - i) (by omega), wr_s (i := (a.length : Int) - 1) (by omega), wr_s (i := v + 1) (by omega)]
    simp only [h1, h2, h3, decide_true, decide_false, cond_true, cond_false, gbind_eq, lget_pt (show 0 ≤ v by omega) h1, lget_rem (show 0 ≤ v + 1 by omega) hne, Option.bind_some]
    rw [spec_pgMeet_eq (hin _).nr (hin _).nr (hin _).nr (hin _).nr]
    simp [hb]

theorem good_l2 {L : Nat} {a : List Pt} (hn : 3 ≤ (a.length : Int)) (hs : (a.length : Int) ≤ 10) (hL : 20 < L) (hin : ∀ i, In (pt a i)) {m : Nat} (hm : (a.length : Int) < m) :
    ((∃ i, 0 ≤ i ∧ i < (a.length : Int) ∧ (turn (pt a i) (pt a (i + 1)) (pt a (i + 2)) = 0 ∨ ∃ k, i + 2 ≤ k ∧ k < (if i = 0 then (a.length : Int) - 1 else a.length) ∧ Meet (pt a i) (pt a (i + 1)) (pt a k) (pt a (k + 1)))) → spec_pgGood_l2 L m a a.length a a.length 0 = some false) ∧
    ((∀ i, 0 ≤ i → i < (a.length : Int) → ¬ (turn (pt a i) (pt a (i + 1)) (pt a (i + 2)) = 0 ∨ ∃ k, i + 2 ≤ k ∧ k < (if i = 0 then (a.length : Int) - 1 else a.length) ∧ Meet (pt a i) (pt a (i + 1)) (pt a k) (pt a (k + 1)))) → spec_pgGood_l2 L m a a.length a a.length 0 = some true) := by
  have hne : a ≠ [] := by intro e; subst e; simp at hn
  have h3 : ¬ ((a.length : Int) = 0) := by omega
  refine search (f := fun m v => spec_pgGood_l2 L m a a.length a a.length v) (lo := 0) (n := (a.length : Int)) (hi := 10)
    (bad := fun i => turn (pt a i) (pt a (i + 1)) (pt a (i + 2)) = 0 ∨ ∃ k, i + 2 ≤ k ∧ k < (if i = 0 then (a.length : Int) - 1 else a.length) ∧ Meet (pt a i) (pt a (i + 1)) (pt a k) (pt a (k + 1))) hs ?_ ?_ ?_ m 0 (Int.le_refl _) (by omega) (by omega) (by omega)
  · intro m v h0 _ h
    simp only [spec_pgGood_l2, ilt_eq, h, decide_false, cond_false]
  · intro m v h0 h hb
    simp only [spec_pgGood_l2, ilt_eq, ieq_eq, iadd_eq, h3, h, decide_true, decide_false, cond_true, cond_false, gbind_eq, wr_s (i := v + 1) (by omega), wr_s (i := v + 2) (by omega), lget_pt h0 h, lget_rem (show 0 ≤ v + 1 by omega) hne, lget_rem (show 0 ≤ v + 2 by omega) hne, Option.bind_some]
    rw [spec_pgTurn_eq (hin _).nr (hin _).nr (hin _).nr]
    simp only [Option.bind_some]
    by_cases ht : turn (pt a v) (pt a (v + 1)) (pt a (v + 2)) = 0
    · simp only [ht, decide_true, cond_true]
    · simp only [ht, decide_false, cond_false]
      exact (good_l3 h0 h hs hin (by omega) (by omega)).1 (hb.resolve_left ht)
  · intro m v h0 h hb
    simp only [spec_pgGood_l2, ilt_eq, ieq_eq, iadd_eq, h3, h, decide_true, decide_false, cond_true, cond_false, gbind_eq, wr_s (i := v + 1) (by omega), wr_s (i := v + 2) (by omega), lget_pt h0 h, lget_rem (show 0 ≤ v + 1 by omega) hne, lget_rem (show 0 ≤ v + 2 by omega) hne, Option.bind_some]
    rw [spec_pgTurn_eq (hin _).nr (hin _).nr (hin _).nr]
    simp only [Option.bind_some]
    have ht : ¬ turn (pt a v) (pt a (v + 1)) (pt a (v + 2)) = 0 := fun e => hb (.inl e)
    simp only [ht, decide_false, cond_false]
    exact (good_l3 h0 h hs hin (by omega) (by omega)).2 fun k h1 h2 h3 => hb (.inr ⟨k, h1, h2, h3⟩)
end Go.AM

namespace Go.AM
set_option linter.unusedVariables false

theorem good_l0 {L : Nat} {a : List Pt} (hn : 3 ≤ (a.length : Int)) (hs : (a.length : Int) ≤ 10) (hL : 20 < L) {m : Nat} (hm : (a.length : Int) < m) :
    ((∃ i, 0 ≤ i ∧ i < (a.length : Int) ∧ (¬ In (pt a i) ∨ ∃ k, 0 ≤ k ∧ k < i ∧ pt a k = pt a i)) → spec_pgGood_l0 L m a a.length a a.length 0 = some false) ∧
    ((∀ i, 0 ≤ i → i < (a.length : Int) → ¬ (¬ In (pt a i) ∨ ∃ k, 0 ≤ k ∧ k < i ∧ pt a k = pt a i)) → spec_pgGood_l0 L m a a.length a a.length 0 = spec_pgGood_l2 L L a a.length a a.length 0) := by
  refine search (f := fun m v => spec_pgGood_l0 L m a a.length a a.length v) (lo := 0) (n := (a.length : Int)) (hi := 10)
    (bad := fun i => ¬ In (pt a i) ∨ ∃ k, 0 ≤ k ∧ k < i ∧ pt a k = pt a i) hs ?_ ?_ ?_ m 0 (Int.le_refl _) (by omega) (by omega) (by omega)
  · intro m v h0 _ h
    simp only [spec_pgGood_l0, ilt_eq, h, decide_false, cond_false, ilen_mapep]
  · intro m v h0 h hb
    simp only [spec_pgGood_l0, ilt_eq, ile_eq, h, h0, ilen_mapep, show v ≤ (a.length : Int) by omega, decide_true, Bool.and_self, cond_true, gbind_eq, lget_pt h0 h, Option.bind_some]
    by_cases hi : In (pt a v)
    · rw [spec_pgIs_eq.1 hi]
      simp only [Option.bind_some, Bool.not_true, cond_false]
      obtain ⟨k, q1, q2, q3⟩ := hb.resolve_left fun h => h hi
      exact (good_l1 h0 (by omega) hs (by omega)).1 ⟨k, q1, q2, q3⟩
    · rw [spec_pgIs_eq.2 hi]
      simp only [Option.bind_some, Bool.not_false, cond_true]
  · intro m v h0 h hb
    simp only [spec_pgGood_l0, ilt_eq, ile_eq, h, h0, ilen_mapep, show v ≤ (a.length : Int) by omega, decide_true, Bool.and_self, cond_true, gbind_eq, lget_pt h0 h, Option.bind_some]
    have hi : In (pt a v) := Classical.byContradiction fun e => hb (.inl e)
    rw [spec_pgIs_eq.1 hi]
    simp only [Option.bind_some, Bool.not_true, cond_false]
    exact (good_l1 h0 (by omega) hs (by omega)).2 fun k q1 q2 q3 => hb (.inr ⟨k, q1, q2, q3⟩)

theorem spec_l1In_eq {L : Nat} {n lo hi : Int} : spec_l1In L n lo hi = some (decide (lo ≤ n ∧ n ≤ hi)) := by
  unfold spec_l1In
  simp only [ile_eq]
  by_cases h1 : lo ≤ n <;> by_cases h2 : n ≤ hi <;> simp [h1, h2]
theorem impl_within_eq {L : Nat} {n lo hi : Int} : impl_within L n lo hi = some (decide (lo ≤ n ∧ n ≤ hi)) := by
  unfold impl_within
  simp only [ile_eq]
  by_cases h1 : lo ≤ n <;> by_cases h2 : n ≤ hi <;> simp [h1, h2]

open Classical in
theorem spec_pgGood_eq {L : Nat} {a : List Pt} (hL : 20 < L) : spec_pgGood L a = some (decide (Good_ a)) := by
  unfold spec_pgGood
  simp only [ilen_mapep, spec_l1In_eq, gbind_eq, Option.bind_some]
  by_cases hn : 3 ≤ (a.length : Int) ∧ (a.length : Int) ≤ 10
  · simp only [hn, and_self, decide_true, Bool.not_true, cond_false]
    have hne : a ≠ [] := by intro e; subst e; simp at hn
    by_cases h0 : ∃ i, 0 ≤ i ∧ i < (a.length : Int) ∧ (¬ In (pt a i) ∨ ∃ k, 0 ≤ k ∧ k < i ∧ pt a k = pt a i)
    · rw [(good_l0 hn.1 hn.2 hL (by omega)).1 h0]
      have : ¬ Good_ a := fun g => by
        obtain ⟨i, q1, q2, q3⟩ := h0
        rcases q3 with q3 | ⟨k, q4, q5, q6⟩
        · exact q3 (g.isIn i q1 q2)
        · exact g.ne i k q4 q5 q2 q6
      simp [this]
    · have h0' : ∀ i, 0 ≤ i → i < (a.length : Int) → ¬ (¬ In (pt a i) ∨ ∃ k, 0 ≤ k ∧ k < i ∧ pt a k = pt a i) := fun i q1 q2 q3 => h0 ⟨i, q1, q2, q3⟩
      rw [(good_l0 hn.1 hn.2 hL (by omega)).2 h0']
      have hIn : ∀ i, 0 ≤ i → i < (a.length : Int) → In (pt a i) := fun i q1 q2 => Classical.byContradiction fun e => h0' i q1 q2 (.inl e)
      have hin := in_all hIn hne
      by_cases h1 : ∃ i, 0 ≤ i ∧ i < (a.length : Int) ∧ (turn (pt a i) (pt a (i + 1)) (pt a (i + 2)) = 0 ∨ ∃ k, i + 2 ≤ k ∧ k < (if i = 0 then (a.length : Int) - 1 else a.length) ∧ Meet (pt a i) (pt a (i + 1)) (pt a k) (pt a (k + 1)))
      · rw [(good_l2 hn.1 hn.2 hL hin (by omega)).1 h1]
        have : ¬ Good_ a := fun g => by
          obtain ⟨i, q1, q2, q3⟩ := h1
          rcases q3 with q3 | ⟨k, q4, q5, q6⟩
          · exact g.turn i q1 q2 q3
          · exact g.apart i k q1 q4 (by split at q5 <;> omega) (by split at q5 <;> omega) q6
        simp [this]
      · have h1' : ∀ i, 0 ≤ i → i < (a.length : Int) → ¬ (turn (pt a i) (pt a (i + 1)) (pt a (i + 2)) = 0 ∨ ∃ k, i + 2 ≤ k ∧ k < (if i = 0 then (a.length : Int) - 1 else a.length) ∧ Meet (pt a i) (pt a (i + 1)) (pt a k) (pt a (k + 1))) := fun i q1 q2 q3 => h1 ⟨i, q1, q2, q3⟩
        rw [(good_l2 hn.1 hn.2 hL hin (by omega)).2 h1']
        have : Good_ a := ⟨hn.1, hn.2, hIn, fun i k q1 q2 q3 q4 => h0' i (by omega) q3 (.inr ⟨k, q1, q2, q4⟩), fun i q1 q2 q3 => h1' i q1 q2 (.inl q3), fun i k q1 q2 q3 q4 q5 => h1' i q1 (by omega) (.inr ⟨k, q2, by split <;> omega, q5⟩)⟩
        simp [this]
  · have : ¬ Good_ a := fun g => hn ⟨g.lo, g.hi⟩
    simp only [hn, this, decide_false, Bool.not_false, cond_true]

theorem arePegs_eq {L : Nat} {a : List Pt} (hs : (a.length : Int) ≤ 1000000) (hL : (a.length : Int) < L) :
    ((∃ i, 0 ≤ i ∧ i < (a.length : Int) ∧ ¬ In (pt a i)) → impl_arePegs L a = some false) ∧ ((∀ i, 0 ≤ i → i < (a.length : Int) → In (pt a i)) → impl_arePegs L a = some true) := by
  have key : (∃ i, 0 ≤ i ∧ i < (a.length : Int) ∧ ¬ In (pt a i)) → ∃ i, 0 ≤ i ∧ slices_IndexFunc_impl_Peg_impl_Peg_172_arePegs_l0 L a L 0 = some i := by
    have : ∀ (m : Nat) (v : Int), 0 ≤ v → (a.length : Int) - v < m → (∃ i, v ≤ i ∧ i < (a.length : Int) ∧ ¬ In (pt a i)) → ∃ i, 0 ≤ i ∧ slices_IndexFunc_impl_Peg_impl_Peg_172_arePegs_l0 L a m v = some i := by
      intro m
      induction m with
      | zero => rintro v h0 h ⟨i, q1, q2, _⟩; omega
      | succ m ih =>
        rintro v h0 h ⟨i, q1, q2, q3⟩
        have hv : v < (a.length : Int) := by omega
        simp only [slices_IndexFunc_impl_Peg_impl_Peg_172_arePegs_l0, ilt_eq, ilen_mapep, hv, decide_true, cond_true, gbind_eq, lget_pt h0 hv, Option.bind_some, impl_arePegs_1]
        by_cases hi : In (pt a v)
        · rw [impl_IsPeg_eq.1 hi]
          simp only [Option.bind_some, Bool.not_true, cond_false, iadd_eq]
          rw [wr_s (by omega)]
          refine ih (v + 1) (by omega) (by omega) ⟨i, ?_, q2, q3⟩
          by_cases e : i = v
          · subst e; exact absurd hi q3
          · omega
        · rw [impl_IsPeg_eq.2 hi]
          exact ⟨v, h0, by simp⟩
    exact this L 0 (Int.le_refl _) (by omega)
  constructor
  · intro h
    obtain ⟨i, q1, q2⟩ := key h
    simp only [impl_arePegs, slices_ContainsFunc_impl_Peg_impl_Peg_158_arePegs, slices_IndexFunc_impl_Peg_impl_Peg_172_arePegs, gbind_eq, q2, Option.bind_some, ile_eq, q1, decide_true, Bool.not_true]
  · intro h
    have := (search (f := fun m v => slices_IndexFunc_impl_Peg_impl_Peg_172_arePegs_l0 L a m v) (r := none) (k := some (-1)) (lo := 0) (n := (a.length : Int)) (hi := (a.length : Int)) (bad := fun i => False) (Int.le_refl _) (fun m v h0 _ h => by
        simp only [slices_IndexFunc_impl_Peg_impl_Peg_172_arePegs_l0, ilt_eq, ilen_mapep, h, decide_false, cond_false]) (fun m v h0 h hb => hb.elim) (fun m v h0 hv _ => by
        simp only [slices_IndexFunc_impl_Peg_impl_Peg_172_arePegs_l0, ilt_eq, ilen_mapep, hv, decide_true, cond_true, gbind_eq, lget_pt h0 hv, Option.bind_some, impl_arePegs_1]
        rw [impl_IsPeg_eq.1 (h v h0 hv)]
        simp only [Option.bind_some, Bool.not_true, cond_false, iadd_eq]
        rw [wr_s (by omega)]) L 0 (Int.le_refl _) (by omega) (by omega) (by omega)).2 fun _ _ _ h => h
    simp only [impl_arePegs, slices_ContainsFunc_impl_Peg_impl_Peg_158_arePegs, slices_IndexFunc_impl_Peg_impl_Peg_172_arePegs, gbind_eq, this, Option.bind_some, ile_eq]
    rfl

theorem contains_eq {L : Nat} {b : List Pt} {p : Pt} (hs : (b.length : Int) ≤ 1000000) (hL : (b.length : Int) < L) :
    ((∃ j, 0 ≤ j ∧ j < (b.length : Int) ∧ pt b j = p) → slices_Contains_impl_Peg_impl_Peg L b p.x p.y = some true) ∧ ((∀ j, 0 ≤ j → j < (b.length : Int) → ¬ pt b j = p) → slices_Contains_impl_Peg_impl_Peg L b p.x p.y = some false) := by
  have heq : ∀ v, (decide (p.x = (pt b v).x) && decide (p.y = (pt b v).y)) = decide (pt b v = p) := fun v => by
    rw [Bool.eq_iff_iff, pt_eq_iff]
    simp [eq_comm]
  have key : (∃ j, 0 ≤ j ∧ j < (b.length : Int) ∧ pt b j = p) → ∃ i, 0 ≤ i ∧ slices_Index_impl_Peg_impl_Peg_l0 L b p.x p.y L 0 = some i := by
    have : ∀ (m : Nat) (v : Int), 0 ≤ v → (b.length : Int) - v < m → (∃ i, v ≤ i ∧ i < (b.length : Int) ∧ pt b i = p) → ∃ i, 0 ≤ i ∧ slices_Index_impl_Peg_impl_Peg_l0 L b p.x p.y m v = some i := by
      intro m
      induction m with
      | zero => rintro v h0 h ⟨i, q1, q2, _⟩; omega
      | succ m ih =>
        rintro v h0 h ⟨i, q1, q2, q3⟩
        have hv : v < (b.length : Int) := by omega
        simp only [slices_Index_impl_Peg_impl_Peg_l0, ilt_eq, ilen_mapep, hv, decide_true, cond_true, gbind_eq, lget_pt h0 hv, Option.bind_some, ieq_eq, heq]
        by_cases hi : pt b v = p
        · exact ⟨v, h0, by simp [hi]⟩
        · simp only [hi, decide_false, cond_false, iadd_eq]
          rw [wr_s (by omega)]
          refine ih (v + 1) (by omega) (by omega) ⟨i, ?_, q2, q3⟩
          by_cases e : i = v
          · subst e; exact absurd q3 hi
          · omega
    exact this L 0 (Int.le_refl _) (by omega)
  constructor
  · intro h
    obtain ⟨i, q1, q2⟩ := key h
    simp only [slices_Contains_impl_Peg_impl_Peg, slices_Index_impl_Peg_impl_Peg, gbind_eq, q2, Option.bind_some, ile_eq, q1, decide_true]
  · intro h
    have := (search (f := fun m v => slices_Index_impl_Peg_impl_Peg_l0 L b p.x p.y m v) (r := none) (k := some (-1)) (lo := 0) (n := (b.length : Int)) (hi := (b.length : Int)) (bad := fun i => False) (Int.le_refl _) (fun m v h0 _ h => by
        simp only [slices_Index_impl_Peg_impl_Peg_l0, ilt_eq, ilen_mapep, h, decide_false, cond_false]) (fun m v h0 h hb => hb.elim) (fun m v h0 hv _ => by
        simp only [slices_Index_impl_Peg_impl_Peg_l0, ilt_eq, ilen_mapep, hv, decide_true, cond_true, gbind_eq, lget_pt h0 hv, Option.bind_some, ieq_eq, heq, h v h0 hv, decide_false, cond_false, iadd_eq]
        rw [wr_s (by omega)]) L 0 (Int.le_refl _) (by omega) (by omega) (by omega)).2 fun _ _ _ h => h
    simp only [slices_Contains_impl_Peg_impl_Peg, slices_Index_impl_Peg_impl_Peg, gbind_eq, this, Option.bind_some, ile_eq]
    rfl

theorem pt_take {a : List Pt} {i j : Int} (h0 : 0 ≤ j) (hj : j < i) (h1 : i ≤ a.length) : pt (lsub a 0 i) j = pt a j := by
  have h2 := lsub0_get h0 hj h1
  have h3 : ((lsub a 0 i).length : Int) = i := by rw [lsub0 (by omega) h1]; simp; omega
  rw [lget_pt h0 (by omega)] at h2
  exact Option.some.inj h2

def BadM (a : List Pt) (i k : Int) : Prop := k + 1 ≠ i ∧ ¬ (i + 1 = (a.length : Int) ∧ k = 0) ∧ Meet (pt a k) (pt a (k + 1)) (pt a i) (pt a (i + 1))

theorem poly_l1 {L : Nat} {κ0 : (List Pt) → Int → (List Pt) → Int → Int → Option Bool} {a v17 : List Pt} {v18 i : Int} (hi : 0 ≤ i) (hil : i < a.length) (hs : (a.length : Int) ≤ 10) (hin : ∀ i, In (pt a i)) {m : Nat} (hm : i < m) :
    ((∃ k, 0 ≤ k ∧ k < i ∧ BadM a i k) → impl_IsPolygon_l1 L κ0 a a.length v17 v18 i (pt a i) m 0 = some false) ∧
    ((∀ k, 0 ≤ k → k < i → ¬ BadM a i k) → impl_IsPolygon_l1 L κ0 a a.length v17 v18 i (pt a i) m 0 = κ0 a a.length v17 v18 (i + 1)) := by
  have hne : a ≠ [] := by intro e; subst e; simp at hil; omega
  refine search (lo := 0) (n := i) (hi := i) (bad := BadM a i) (Int.le_refl _) ?_ ?_ ?_ m 0 (Int.le_refl _) (by omega) (by omega) (by omega)
  · intro m v h0 _ h
    simp only [impl_IsPolygon_l1, ilt_eq, h, decide_false, cond_false, iadd_eq]
    rw [wr_s (by omega)]
  · intro m v h0 h hb
    obtain ⟨b1, b2, b3⟩ := hb
    simp only [impl_IsPolygon_l1, ilt_eq, ieq_eq, iadd_eq, wr_s (i := v + 1) (by omega), wr_s (i := i + 1) (by omega), h, b1, decide_true, decide_false, cond_true, cond_false, gbind_eq,
      lget_pt h0 (show v < (a.length : Int) by omega), lget_pt (show 0 ≤ v + 1 by omega) (show v + 1 < (a.length : Int) by omega), impl_at_eq hne (show (a.length : Int) ≤ 1000000000 by omega), Option.bind_some]
    rw [impl_meet_eq (hin _).nr (hin _).nr (hin _).nr (hin _).nr]
    rw [decide_eq_true b3]
    by_cases c1 : i + 1 = (a.length : Int)
    · have c2 : ¬ v = 0 := fun e => b2 ⟨c1, e⟩
      simp [c1, c2]
    · simp [c1]
  · intro m v h0 h hb
    simp only [impl_IsPolygon_l1, ilt_eq, ieq_eq, iadd_eq, wr_s (i := v + 1) (by omega), wr_s (i := i + 1) (by omega), h, decide_true, decide_false, cond_true, cond_false, gbind_eq,
      lget_pt h0 (show v < (a.length : Int) by omega), lget_pt (show 0 ≤ v + 1 by omega) (show v + 1 < (a.length : Int) by omega), impl_at_eq hne (show (a.length : Int) ≤ 1000000000 by omega), Option.bind_some]
    rw [impl_meet_eq (hin _).nr (hin _).nr (hin _).nr (hin _).nr]
    by_cases c0 : v + 1 = i
    · simp only [c0, decide_true, cond_true]
    · simp only [c0, decide_false, cond_false]
      by_cases c1 : i + 1 = (a.length : Int)
      · by_cases c2 : v = 0
        · simp [c1, c2]
        · have b3 : ¬ Meet (pt a v) (pt a (v + 1)) (pt a i) (pt a (i + 1)) := fun e => hb ⟨c0, fun q => c2 q.2, e⟩
          simp [c1, c2]
          rw [← c1]
          simp [b3]
      · have b3 : ¬ Meet (pt a v) (pt a (v + 1)) (pt a i) (pt a (i + 1)) := fun e => hb ⟨c0, fun q => c1 q.1, e⟩
        simp [c1, b3]

theorem poly_l0 {L : Nat} {a : List Pt} (hn : 3 ≤ (a.length : Int)) (hs : (a.length : Int) ≤ 10) (hL : 20 < L) (hin : ∀ i, In (pt a i)) {m : Nat} (hm : (a.length : Int) < m) :
    ((∃ i, 0 ≤ i ∧ i < (a.length : Int) ∧ ((∃ k, 0 ≤ k ∧ k < i ∧ pt a k = pt a i) ∨ turn (pt a (i - 1)) (pt a i) (pt a (i + 1)) = 0 ∨ ∃ k, 0 ≤ k ∧ k < i ∧ BadM a i k)) → impl_IsPolygon_l0 L m a a.length a a.length 0 = some false) ∧
    ((∀ i, 0 ≤ i → i < (a.length : Int) → ¬ ((∃ k, 0 ≤ k ∧ k < i ∧ pt a k = pt a i) ∨ turn (pt a (i - 1)) (pt a i) (pt a (i + 1)) = 0 ∨ ∃ k, 0 ≤ k ∧ k < i ∧ BadM a i k)) → impl_IsPolygon_l0 L m a a.length a a.length 0 = some true) := by
  have hne : a ≠ [] := by intro e; subst e; simp at hn
  have hc : ∀ v, 0 ≤ v → v < (a.length : Int) → ((∃ k, 0 ≤ k ∧ k < v ∧ pt a k = pt a v) → slices_Contains_impl_Peg_impl_Peg L (lsub a 0 v) (pt a v).x (pt a v).y = some true) ∧ ((¬ ∃ k, 0 ≤ k ∧ k < v ∧ pt a k = pt a v) → slices_Contains_impl_Peg_impl_Peg L (lsub a 0 v) (pt a v).x (pt a v).y = some false) := by
    intro v h0 h
    have hl : ((lsub a 0 v).length : Int) = v := by rw [lsub0 (by omega) (by omega)]; simp; omega
    obtain ⟨h1, h2⟩ := contains_eq (L := L) (b := lsub a 0 v) (p := pt a v) (by omega) (by omega)
    rw [hl] at h1 h2
    refine ⟨fun ⟨k, q1, q2, q3⟩ => h1 ⟨k, q1, q2, by rw [pt_take q1 q2 (by omega)]; exact q3⟩, fun hno => h2 fun j q1 q2 q3 => hno ⟨j, q1, q2, ?_⟩⟩
    rwa [pt_take q1 q2 (by omega)] at q3
  refine search (f := fun m v => impl_IsPolygon_l0 L m a a.length a a.length v) (lo := 0) (n := (a.length : Int)) (hi := 10)
    (bad := fun i => (∃ k, 0 ≤ k ∧ k < i ∧ pt a k = pt a i) ∨ turn (pt a (i - 1)) (pt a i) (pt a (i + 1)) = 0 ∨ ∃ k, 0 ≤ k ∧ k < i ∧ BadM a i k) hs ?_ ?_ ?_ m 0 (Int.le_refl _) (by omega) (by omega) (by omega)
  · intro m v h0 _ h
    simp only [impl_IsPolygon_l0, ilt_eq, h, decide_false, cond_false]
  · intro m v h0 h hb
    simp only [impl_IsPolygon_l0, ilt_eq, ile_eq, isub_eq, iadd_eq, h, h0, ilen_mapep, show v ≤ (a.length : Int) by omega, decide_true, Bool.and_self, cond_true, gbind_eq, lget_pt h0 h, Option.bind_some, wr_s (i := v + 1) (by omega), wr_s (i := v - 1) (by omega),
      impl_at_eq hne (show (a.length : Int) ≤ 1000000000 by omega)]
    rw [impl_turn_eq (hin _).nr (hin _).nr (hin _).nr]
    by_cases c : ∃ k, 0 ≤ k ∧ k < v ∧ pt a k = pt a v
    · rw [(hc v h0 h).1 c]; rfl
    · rw [(hc v h0 h).2 c]
      simp only [Option.bind_some, cond_false, ieq_eq]
      by_cases t : turn (pt a (v - 1)) (pt a v) (pt a (v + 1)) = 0
      · simp only [t, decide_true, cond_true]
      · simp only [t, decide_false, cond_false]
        exact (poly_l1 h0 h hs hin (by omega)).1 ((hb.resolve_left c).resolve_left t)
  · intro m v h0 h hb
    simp only [impl_IsPolygon_l0, ilt_eq, ile_eq, isub_eq, iadd_eq, h, h0, ilen_mapep, show v ≤ (a.length : Int) by omega, decide_true, Bool.and_self, cond_true, gbind_eq, lget_pt h0 h, Option.bind_some, wr_s (i := v + 1) (by omega), wr_s (i := v - 1) (by omega),
      impl_at_eq hne (show (a.length : Int) ≤ 1000000000 by omega)]
    rw [impl_turn_eq (hin _).nr (hin _).nr (hin _).nr, (hc v h0 h).2 fun c => hb (.inl c)]
    have t : ¬ turn (pt a (v - 1)) (pt a v) (pt a (v + 1)) = 0 := fun e => hb (.inr (.inl e))
    simp only [Option.bind_some, cond_false, ieq_eq, t, decide_false]
    exact (poly_l1 h0 h hs hin (by omega)).2 fun k q1 q2 q3 => hb (.inr (.inr ⟨k, q1, q2, q3⟩))

open Classical in
theorem impl_IsPolygon_eq {L : Nat} {a : List Pt} (hL : 20 < L) : impl_IsPolygon L a = some (decide (Good_ a)) := by
  unfold impl_IsPolygon
  simp only [ilen_mapep, impl_within_eq, gbind_eq, Option.bind_some]
  by_cases hn : 3 ≤ (a.length : Int) ∧ (a.length : Int) ≤ 10
  · simp only [hn, and_self, decide_true, Bool.not_true, cond_false]
    have hne : a ≠ [] := by intro e; subst e; simp at hn
    have hl : 0 < (a.length : Int) := by omega
    by_cases hI : ∀ i, 0 ≤ i → i < (a.length : Int) → In (pt a i)
    · rw [(arePegs_eq (by omega) (by omega)).2 hI]
      simp only [Option.bind_some, Bool.not_true, cond_false]
      have hin := in_all hI hne
      by_cases h0 : ∃ i, 0 ≤ i ∧ i < (a.length : Int) ∧ ((∃ k, 0 ≤ k ∧ k < i ∧ pt a k = pt a i) ∨ turn (pt a (i - 1)) (pt a i) (pt a (i + 1)) = 0 ∨ ∃ k, 0 ≤ k ∧ k < i ∧ BadM a i k)
      · rw [(poly_l0 hn.1 hn.2 hL hin (by omega)).1 h0]
        have : ¬ Good_ a := fun g => by
          obtain ⟨i, q1, q2, q3⟩ := h0
          rcases q3 with ⟨k, q4, q5, q6⟩ | q3 | ⟨k, q4, q5, q6, q7, q8⟩
          · exact g.ne i k q4 q5 q2 q6
          · refine g.turn ((i - 1) % a.length) (Int.emod_nonneg _ (by omega)) (Int.emod_lt_of_pos _ hl) ?_
            rw [pt_congr (a := a) (i := (i - 1) % a.length) (j := i - 1) (Int.emod_emod_of_dvd _ (Int.dvd_refl _)), pt_congr (a := a) (i := (i - 1) % a.length + 1) (j := i) (by rw [Int.emod_add_emod]; congr 1; omega),
              pt_congr (a := a) (i := (i - 1) % a.length + 2) (j := i + 1) (by rw [Int.emod_add_emod]; congr 1; omega)]
            exact q3
          · exact g.apart k i q4 (by omega) q2 (by
              rcases Int.lt_or_le (i - k) ((a.length : Int) - 1) with h | h
              · exact h
              · exact absurd ⟨by omega, by omega⟩ q7) q8
        simp [this]
      · have h0' : ∀ i, 0 ≤ i → i < (a.length : Int) → ¬ ((∃ k, 0 ≤ k ∧ k < i ∧ pt a k = pt a i) ∨ turn (pt a (i - 1)) (pt a i) (pt a (i + 1)) = 0 ∨ ∃ k, 0 ≤ k ∧ k < i ∧ BadM a i k) := fun i q1 q2 q3 => h0 ⟨i, q1, q2, q3⟩
        rw [(poly_l0 hn.1 hn.2 hL hin (by omega)).2 h0']
        have : Good_ a := ⟨hn.1, hn.2, hI, fun i k q1 q2 q3 q4 => h0' i (by omega) q3 (.inl ⟨k, q1, q2, q4⟩), fun i q1 q2 q3 => by
            refine h0' ((i + 1) % a.length) (Int.emod_nonneg _ (by omega)) (Int.emod_lt_of_pos _ hl) (.inr (.inl ?_))
            rw [pt_congr (a := a) (i := (i + 1) % a.length - 1) (j := i) (by rw [Int.emod_sub_emod]; congr 1; omega), pt_congr (a := a) (i := (i + 1) % a.length) (j := i + 1) (Int.emod_emod_of_dvd _ (Int.dvd_refl _)),
              pt_congr (a := a) (i := (i + 1) % a.length + 1) (j := i + 2) (by rw [Int.emod_add_emod]; congr 1; omega)]
            exact q3, fun i k q1 q2 q3 q4 q5 => h0' k (by omega) q3 (.inr (.inr ⟨i, q1, by omega, by omega, fun q => by omega, q5⟩))⟩
        simp [this]
    · have : ¬ Good_ a := fun g => hI g.isIn
      rw [(arePegs_eq (by omega) (by omega)).1 (by
        refine Classical.byContradiction fun h => hI fun i q1 q2 => Classical.byContradiction fun e => h ⟨i, q1, q2, e⟩)]
      simp [this]
  · have : ¬ Good_ a := fun g => hn ⟨g.lo, g.hi⟩
    simp only [hn, this, decide_false, Bool.not_false, cond_true]
end Go.AM

namespace Go.AM
set_option linter.unusedVariables false

def sm (g : Int → Int) : Nat → Int
  | 0 => 0
  | k + 1 => sm g k + g k

theorem sm_congr {g h : Int → Int} : ∀ {k : Nat}, (∀ i : Int, 0 ≤ i → i < k → g i = h i) → sm g k = sm h k
  | 0, _ => rfl
  | k + 1, hh => by simp only [sm]; rw [sm_congr fun i h1 h2 => hh i h1 (by omega), hh k (by omega) (by omega)]

def cross (p q : Pt) : Int := p.x * q.y - p.y * q.x

/-- twice the area, as the program adds it -/
def area (a : List Pt) : Int := sm (fun i => cross (pt a i) (pt a (i + 1))) a.length

end Go.AM

namespace Go.AM
set_option linter.unusedVariables false

def Cvx (a : List Pt) : Prop := ∀ i, 0 ≤ i → i < (a.length : Int) → sg (turn (pt a i) (pt a (i + 1)) (pt a (i + 2))) = sg (area a)

theorem impl_size_eq {L : Nat} {n : Int} (h : -1000000000 ≤ n ∧ n ≤ 1000000000) : impl_size L n = some (n.natAbs : Int) := by
  unfold impl_size
  simp only [imax_eq, isub_eq]
  rw [wr_id (by omega)]
  congr 1
  split <;> omega

theorem spec_l1Abs_eq {L : Nat} {n : Int} (h : -1000000000 ≤ n ∧ n ≤ 1000000000) : spec_l1Abs L n = some (n.natAbs : Int) := by
  unfold spec_l1Abs spec_l1Most
  simp only [ilt_eq, isub_eq, gbind_eq]
  rw [wr_id (by omega)]
  by_cases h1 : 0 - n < n
  · simp only [h1, decide_true, cond_true, Option.bind_some]; congr 1; omega
  · simp only [h1, decide_false, cond_false, Option.bind_some]; congr 1; omega

theorem divisor_l0 {L : Nat} : ∀ (m : Nat) (u v : Int), (-1000000000 ≤ u ∧ u ≤ 1000000000) → (-1000000000 ≤ v ∧ v ≤ 1000000000) → v.natAbs < m → impl_divisor_l0 L m u v = some (Nat.gcd u.natAbs v.natAbs : Int)
  | 0, _, _, _, _, h => by omega
  | m + 1, u, v, hu, hv, hm => by
    simp only [impl_divisor_l0, ieq_eq]
    by_cases h0 : v = 0
    · subst h0
      simp only [decide_true, Bool.not_true, cond_false, impl_size_eq hu, gbind_eq, Option.bind_some]
      simp
    · simp only [h0, decide_false, Bool.not_false, cond_true, cond_false]
      have h1 : (irem u v).natAbs = u.natAbs % v.natAbs := by rw [irem_eq, Int.natAbs_tmod]
      have h2 := Nat.mod_lt u.natAbs (show 0 < v.natAbs by omega)
      rw [divisor_l0 m v (irem u v) hv (by omega) (by omega), h1]
      congr 2
      rw [Nat.gcd_comm u.natAbs, Nat.gcd_rec v.natAbs u.natAbs, Nat.gcd_comm]

theorem common_l0 {L : Nat} : ∀ (m : Nat) (u v : Nat), v < m → spec_pgCommon_l0 L m u v = some (Nat.gcd u v : Int)
  | 0, _, _, h => by omega
  | m + 1, u, v, hm => by
    simp only [spec_pgCommon_l0, ilt_eq, ieq_eq]
    by_cases h0 : v = 0
    · subst h0
      simp
    · have h1 : (0 : Int) < (v : Int) := by omega
      have h2 : ¬ ((v : Int) = 0) := by omega
      simp only [h1, h2, decide_true, decide_false, cond_true, cond_false]
      have h3 : irem (u : Int) (v : Int) = ((u % v : Nat) : Int) := by rw [irem_nn (by omega)]; simp
      have h4 := Nat.mod_lt u (show 0 < v by omega)
      rw [h3, common_l0 m v (u % v) (by omega)]
      congr 2
      rw [Nat.gcd_comm u v, Nat.gcd_rec v u, Nat.gcd_comm]

def step (p q : Pt) : Int := (Nat.gcd (p.x - q.x).natAbs (p.y - q.y).natAbs : Int)

def round (a : List Pt) : Int := sm (fun i => step (pt a i) (pt a (i + 1))) a.length

end Go.AM

namespace Go.AM
set_option linter.unusedVariables false

theorem mul_self_nn (x : Int) : 0 ≤ x * x := by
  rcases Int.le_total 0 x with h | h
  · exact Int.mul_nonneg h h
  · have := Int.mul_nonneg (show 0 ≤ -x by omega) (show 0 ≤ -x by omega); rw [Int.neg_mul_neg] at this; exact this

end Go.AM

namespace Go.AM
set_option linter.unusedVariables false

def Less (p q : Pt) : Prop := p.x < q.x ∨ (p.x = q.x ∧ p.y < q.y)
instance (p q : Pt) : Decidable (Less p q) := by unfold Less; infer_instance

theorem Less.trans {p q r : Pt} (h : Less p q) (k : Less q r) : Less p r := by unfold Less at *; omega
theorem Less.irrefl (p : Pt) : ¬ Less p p := by unfold Less; omega
theorem not_less_eq {p q : Pt} (h : ¬ Less p q) (k : ¬ Less q p) : p = q := by
  unfold Less at *
  cases p; cases q
  simp only [Pt.mk.injEq] at *
  omega
def cmpI (a b : Int) : Int := if a < b then -1 else if b < a then 1 else 0

theorem cmp_eq {L : Nat} {a b : Int} : cmp_Compare_int L a b = some (cmpI a b) := by
  unfold cmp_Compare_int cmp_isNaN_int cmpI
  simp only [gbind_eq, ieq_eq, decide_true, Bool.not_true, Option.bind_some, cond_false, ilt_eq]
  by_cases h1 : a < b <;> by_cases h2 : b < a <;> simp [h1, h2]

theorem fits_s {n : Int} {b : Nat} (h : n * b ≤ 140737488355328) : fits n b = true := by rw [fits_eq]; exact decide_eq_true h

end Go.AM

namespace Go.AM
set_option linter.unusedVariables false

end Go.AM

namespace Go.AM
set_option linter.unusedVariables false

theorem pt_mod (a : List Pt) (i : Int) : pt a (i % (a.length : Int)) = pt a i := pt_congr (Int.emod_emod_of_dvd _ (Int.dvd_refl _))

end Go.AM

namespace Go.AM
set_option linter.unusedVariables false

theorem tdiv_bd {a b A : Int} (h : -A ≤ a ∧ a ≤ A) : -A ≤ a.tdiv b ∧ a.tdiv b ≤ A := by
  have h1 : (a.tdiv b).natAbs ≤ a.natAbs := by rw [Int.natAbs_tdiv]; exact Nat.div_le_self _ _
  omega

end Go.AM

namespace Go.AM
set_option linter.unusedVariables false

end Go.AM

namespace Go.AM
set_option linter.unusedVariables false

theorem eqPegS_l0 {L : Nat} {a : List Pt} (hs : (a.length : Int) ≤ 1100000) : ∀ (m : Nat) (v : Int), 0 ≤ v → v ≤ a.length → (a.length : Int) - v < m → laws_eqPegS_l0 L a a m v = some true
  | 0, _, _, _, h => by omega
  | m + 1, v, h0, hv, hm => by
    by_cases h : v < (a.length : Int)
    · simp only [laws_eqPegS_l0, laws_eqPeg, ilt_eq, ilen_mapep, h, decide_true, cond_true, gbind_eq, lget_pt h0 h, Option.bind_some, ieq_eq, Bool.not_true, cond_false, iadd_eq, wr_id (n := v + 1) (by omega)]
      exact eqPegS_l0 hs m (v + 1) (by omega) (by omega) (by omega)
    · simp only [laws_eqPegS_l0, ilt_eq, ilen_mapep, h, decide_false, cond_false]

theorem eqPegS_eq {L : Nat} {a : List Pt} (hs : (a.length : Int) ≤ 1100000) (hL : (a.length : Int) < L) : laws_eqPegS L a a = some true := by
  unfold laws_eqPegS
  simp only [ieq_eq, decide_true, Bool.not_true, cond_false]
  exact eqPegS_l0 hs L 0 (Int.le_refl _) (by omega) (by omega)

def mkd (n : Nat) : List Pt := (List.range n).map fun (j : Nat) => ⟨1 + 2 * (j : Int), 2 + 2 * (j : Int)⟩
theorem mkd_len (n : Nat) : (mkd n).length = n := by simp [mkd]
theorem mkd_succ (n : Nat) : mkd (n + 1) = mkd n ++ [⟨1 + 2 * (n : Int), 2 + 2 * (n : Int)⟩] := by simp [mkd, List.range_succ]

theorem set_mid {pre rest : List Pt} {i : Nat} {p x : Pt} (h : pre.length = i) : (pre ++ p :: rest).set i x = pre ++ x :: rest := by
  subst h; simp

theorem mark_l0 {L : Nat} {a : List Pt} (hs : (a.length : Int) ≤ 1100000) : ∀ (m i : Nat), i ≤ a.length → (a.length : Int) - i < m → laws_markPegS_l0 L m (1 + 2 * (i : Int)) i (mkd i ++ a.drop i) = some (1 + 2 * (a.length : Int), mkd a.length)
  | 0, _, _, h => by omega
  | m + 1, i, hi, hm => by
    have hl : ((mkd i ++ a.drop i).length : Int) = a.length := by simp [mkd_len]; omega
    by_cases h : i < a.length
    · obtain ⟨p, hp⟩ : ∃ p, a.drop i = p :: a.drop (i + 1) := ⟨a[i], List.drop_eq_getElem_cons h⟩
      have g1 : lget (mkd i ++ p :: a.drop (i + 1)) (i : Int) = some p := by
        rw [lget_eq, if_pos (by omega), Int.toNat_natCast, List.getElem?_append_right (by rw [mkd_len]; omega), mkd_len]; simp
      have s1 : ∀ x, lset (mkd i ++ p :: a.drop (i + 1)) (i : Int) x = mkd i ++ x :: a.drop (i + 1) := fun x => by
        rw [lset_eq, Int.toNat_natCast, set_mid (mkd_len i)]
      have g2 : ∀ x, lget (mkd i ++ x :: a.drop (i + 1)) (i : Int) = some x := fun x => by
        rw [lget_eq, if_pos (by omega), Int.toNat_natCast, List.getElem?_append_right (by rw [mkd_len]; omega), mkd_len]; simp
      have s2 : ∀ x y, lset (mkd i ++ x :: a.drop (i + 1)) (i : Int) y = mkd i ++ y :: a.drop (i + 1) := fun x y => by
        rw [lset_eq, Int.toNat_natCast, set_mid (mkd_len i)]
      rw [hp] at hl
      have hlt : (i : Int) < (a.length : Int) := by omega
      rw [hp]
      have hsl : ∀ v : AV, ilen (lset (List.map ep (mkd i ++ p :: a.drop (i + 1))) (i : Int) v) = (a.length : Int) := fun v => by
        rw [ilen_eq, lset_eq, List.length_set, List.length_map, hl]
      simp only [laws_markPegS_l0, ilt_eq, ile_eq, ilen_mapep, hl, hsl, hlt, show 0 ≤ (i : Int) by omega, decide_true, Bool.and_self, cond_true, gbind_eq, g1, s1, g2, s2, Option.bind_some, iadd_eq, wr_id (n := 1 + 2 * (i : Int) + 1) (by omega), wr_id (n := 1 + 2 * (i : Int) + 1 + 1) (by omega), wr_id (n := (i : Int) + 1) (by omega)]
      have e : mkd i ++ { x := 1 + 2 * (i : Int), y := 1 + 2 * (i : Int) + 1 } :: a.drop (i + 1) = mkd (i + 1) ++ a.drop (i + 1) := by
        rw [mkd_succ, List.append_assoc]
        simp
        omega
      rw [e]
      have := mark_l0 (L := L) hs m (i + 1) (by omega) (by omega)
      rw [show (1 + 2 * (i : Int) + 1 + 1) = 1 + 2 * ((i + 1 : Nat) : Int) by omega]
      exact this
    · have e : i = a.length := by omega
      subst e
      simp only [laws_markPegS_l0, ilt_eq, ilen_mapep, hl, Int.lt_irrefl, decide_false, cond_false]
      simp

theorem mark_eq {L : Nat} {a : List Pt} (hs : (a.length : Int) ≤ 1100000) (hL : (a.length : Int) < L) : laws_markPegS L a 1 = some (1 + 2 * (a.length : Int), mkd a.length) := by
  have := mark_l0 (L := L) hs L 0 (by omega) (by omega)
  simpa [mkd, laws_markPegS] using this

theorem held_l0 {L : Nat} {n : Nat} (hs : (n : Int) ≤ 1100000) : ∀ (m i : Nat), i ≤ n → (n : Int) - i < m → laws_heldPegS_l0 L (mkd n) m (1 + 2 * (i : Int)) i = some (1 + 2 * (n : Int))
  | 0, _, _, h => by omega
  | m + 1, i, hi, hm => by
    by_cases h : (i : Int) < (n : Int)
    · have g1 : lget (mkd n) (i : Int) = some ⟨1 + 2 * (i : Int), 2 + 2 * (i : Int)⟩ := by
        have hin : i < n := by omega
        rw [lget_eq, if_pos (by omega), Int.toNat_natCast]; simp [mkd, hin]
      simp only [laws_heldPegS_l0, ilt_eq, ieq_eq, ilen_mapep, mkd_len, h, g1, decide_true, Bool.not_true, cond_true, cond_false, gbind_eq, Option.bind_some, iadd_eq, wr_id (n := 1 + 2 * (i : Int) + 1) (by omega), wr_id (n := 1 + 2 * (i : Int) + 1 + 1) (by omega), wr_id (n := (i : Int) + 1) (by omega),
        show (2 + 2 * (i : Int) = 1 + 2 * (i : Int) + 1) = True from eq_true (by omega)]
      have := held_l0 (L := L) hs m (i + 1) (by omega) (by omega)
      rw [show (1 + 2 * (i : Int) + 1 + 1) = 1 + 2 * ((i + 1 : Nat) : Int) by omega]
      exact this
    · have e : i = n := by omega
      subst e
      simp only [laws_heldPegS_l0, ilt_eq, ilen_mapep, mkd_len, h, decide_false, cond_false]

theorem held_eq {L n : Nat} (hs : (n : Int) ≤ 1100000) (hL : (n : Int) < L) : laws_heldPegS L (mkd n) 1 = some (1 + 2 * (n : Int)) := by
  have := held_l0 (L := L) hs L 0 (by omega) (by omega)
  simpa [laws_heldPegS] using this

theorem toPegS_l0 {L : Nat} {a : List Pt} (hs : (a.length : Int) ≤ 1100000) : ∀ (m i : Nat) (w : List Pt), i ≤ a.length → w.length = a.length → (a.length : Int) - i < m → w.take i = a.take i → laws_toPegS_l0 L a m i w = some a
  | 0, _, _, _, _, h, _ => by omega
  | m + 1, i, w, hi, hw, hm, ht => by
    by_cases h : (i : Int) < (a.length : Int)
    · have hwl : (w.length : Int) = a.length := by omega
      have gw : ∃ x, lget w (i : Int) = some x := ⟨w[i]'(by omega), by rw [lget_eq, if_pos (by omega), Int.toNat_natCast]; exact List.getElem?_eq_getElem _⟩
      obtain ⟨x, gw⟩ := gw
      simp only [laws_toPegS_l0, laws_toPeg, ilt_eq, ile_eq, ilen_mapep, hwl, h, show 0 ≤ (i : Int) by omega, decide_true, Bool.and_self, cond_true, gbind_eq, lget_pt (show 0 ≤ (i : Int) by omega) h, gw, Option.bind_some, iadd_eq, wr_id (n := (i : Int) + 1) (by omega)]
      refine toPegS_l0 hs m (i + 1) _ (by omega) (by rw [lset_eq]; simp [hw]) (by omega) ?_
      have hp := pt_get (a := a) (i := (i : Int)) (by omega) h
      rw [Int.toNat_natCast] at hp
      rw [lset_eq, Int.toNat_natCast, List.take_add_one, List.take_add_one, List.take_set_of_le (by omega), ht, hp, List.getElem?_set, if_pos rfl, if_pos (by omega)]
    · have e : i = a.length := by omega
      subst e
      simp only [laws_toPegS_l0, ilt_eq, ilen_mapep, h, decide_false, cond_false]
      rw [List.take_of_length_le (by omega), List.take_of_length_le (by omega)] at ht
      rw [ht]

theorem toPegS_eq {L : Nat} {a : List Pt} (hs : (a.length : Int) ≤ 1100000) (hL : (a.length : Int) < L) : laws_toPegS L a = some a := by
  unfold laws_toPegS
  simp only [ile_eq, ilen_mapep, Int.le_refl, show 0 ≤ (a.length : Int) by omega, decide_true, Bool.and_self, fits_s (n := (a.length : Int)) (b := 16) (by omega), cond_true]
  exact toPegS_l0 (L := L) hs L 0 _ (by omega) (by rw [lrep_eq]; simp) (by omega) (by simp)

end Go.AM

namespace Go.AM
set_option linter.unusedVariables false

end Go.AM

namespace Go.AM
set_option linter.unusedVariables false

/-- ahead of nothing -/
def Pos (v : Pt) : Prop := 0 < v.x ∨ (v.x = 0 ∧ 0 < v.y)
def Neg (v : Pt) : Prop := v.x < 0 ∨ (v.x = 0 ∧ v.y < 0)
instance (v : Pt) : Decidable (Pos v) := by unfold Pos; infer_instance
instance (v : Pt) : Decidable (Neg v) := by unfold Neg; infer_instance

/-- how often the way from one direction to the other one passes straight down, to the left -/
def dl (u v : Pt) : Int := if Neg u ∧ Pos v ∧ 0 < cross u v then 1 else if Pos u ∧ Neg v ∧ cross u v < 0 then -1 else 0

theorem dl_anti (u v : Pt) : dl v u = - dl u v := by
  have h : cross v u = - cross u v := by unfold cross; grind
  unfold dl
  rw [h]
  have n1 : ∀ w : Pt, Neg w → ¬ Pos w := fun w => by unfold Neg Pos; omega
  by_cases a1 : Neg u <;> by_cases a2 : Pos u <;> by_cases a3 : Neg v <;> by_cases a4 : Pos v <;> simp [a1, a2, a3, a4] <;>
    first
      | exact absurd a2 (n1 u a1)
      | exact absurd a4 (n1 v a3)
      | (by_cases b1 : 0 < cross u v <;> by_cases b2 : cross u v < 0 <;> simp [b1, b2] <;> omega)
      | skip

theorem pos_or_neg {v : Pt} (h : v ≠ ⟨0, 0⟩) : Pos v ∨ Neg v := by
  obtain ⟨x, y⟩ := v
  simp only [ne_eq, Pt.mk.injEq, not_and] at h
  unfold Pos Neg
  simp only
  by_cases hx : x = 0
  · have := h hx; omega
  · omega

/-- of three in the plane -/
theorem three_way (p q s : Pt) : cross q s * p.x + cross s p * q.x + cross p q * s.x = 0 ∧ cross q s * p.y + cross s p * q.y + cross p q * s.y = 0 := by
  unfold cross; constructor <;> grind

/-- a multiple of one ahead that is ahead -/
theorem sign_of {c : Int} {p w : Pt} (hp : Pos p) (hw : Pos w) (hx : c * p.x = w.x) (hy : c * p.y = w.y) : 0 < c := by
  unfold Pos at hp hw
  rcases Int.lt_trichotomy c 0 with h | h | h
  · exfalso
    rcases hp with hp | ⟨hp0, hp⟩
    · have := Int.mul_neg_of_neg_of_pos h hp; omega
    · rw [hp0] at hx
      have := Int.mul_neg_of_neg_of_pos h hp
      simp at hx; omega
  · subst h; simp at hx hy; omega
  · exact h

def comb (a : Int) (p : Pt) (b : Int) (q : Pt) : Pt := ⟨a * p.x + b * q.x, a * p.y + b * q.y⟩

theorem pos_comb {a b : Int} {p q : Pt} (ha : 0 < a) (hb : 0 ≤ b) (hp : Pos p) (hq : Pos q) : Pos (comb a p b q) := by
  unfold Pos comb at *
  simp only
  have bq : 0 ≤ b * q.x := by
    rcases hq with h | ⟨h, _⟩
    · exact Int.mul_nonneg hb (by omega)
    · rw [h]; simp
  rcases hp with h | ⟨h, h'⟩
  · left
    have := Int.mul_pos ha h
    omega
  · rw [h]
    simp only [Int.mul_zero, Int.zero_add]
    rcases Int.lt_or_eq_of_le bq with h1 | h1
    · exact .inl h1
    · right
      refine ⟨h1.symm, ?_⟩
      have := Int.mul_pos ha h'
      have bq' : 0 ≤ b * q.y := by
        rcases Int.mul_eq_zero.1 h1.symm with h2 | h2
        · rw [h2]; simp
        · rcases hq with h3 | ⟨_, h3⟩
          · omega
          · exact Int.mul_nonneg hb (by omega)
      omega

def ngt (v : Pt) : Pt := ⟨-v.x, -v.y⟩
theorem neg_ngt {v : Pt} : Neg v ↔ Pos (ngt v) := by unfold Neg Pos ngt; simp only; omega
theorem pos_ngt {v : Pt} : Pos v ↔ Neg (ngt v) := by unfold Neg Pos ngt; simp only; omega
theorem cross_ngt1 (u v : Pt) : cross (ngt u) v = - cross u v := by unfold cross ngt; grind
/-- p ahead, s and q behind, on both sides: from s to q it goes to the left -/
theorem wedge {p q s : Pt} (hp : Pos p) (hq : Neg q) (hs : Neg s) (h1 : cross p q < 0) (h2 : 0 ≤ cross p s) : 0 < cross s q := by
  obtain ⟨e1, e2⟩ := three_way p q s
  have hw := pos_comb (a := -cross p q) (b := cross p s) (by omega) h2 (neg_ngt.1 hs) (neg_ngt.1 hq)
  refine sign_of hp hw ?_ ?_
  · have : cross s p = - cross p s := by unfold cross; grind
    have : cross q s = - cross s q := by unfold cross; grind
    unfold comb ngt; simp only; grind
  · have : cross s p = - cross p s := by unfold cross; grind
    have : cross q s = - cross s q := by unfold cross; grind
    unfold comb ngt; simp only; grind
end Go.AM

namespace Go.AM
set_option linter.unusedVariables false

structure NM (p q r s : Pt) : Prop where
  sx : p.x + r.x = q.x + s.x
  sy : p.y + r.y = q.y + s.y
  n1 : ¬ (cross p s = 0 ∧ p.x * s.x ≤ 0 ∧ p.y * s.y ≤ 0)
  n2 : ¬ (cross q r = 0 ∧ q.x * r.x ≤ 0 ∧ q.y * r.y ≤ 0)
  n3 : ¬ (cross p q = 0 ∧ p.x * q.x ≤ 0 ∧ p.y * q.y ≤ 0)
  n4 : ¬ (cross s r = 0 ∧ s.x * r.x ≤ 0 ∧ s.y * r.y ≤ 0)
  n5 : ¬ (((cross p q < 0 ∧ 0 < cross s r) ∨ (0 < cross p q ∧ cross s r < 0)) ∧ ((cross p s < 0 ∧ 0 < cross q r) ∨ (0 < cross p s ∧ cross q r < 0)))

theorem cross_anti (u v : Pt) : cross v u = - cross u v := by unfold cross; grind

theorem NM.rot {p q r s : Pt} (h : NM p q r s) : NM q r s p := by
  have e1 := cross_anti q p; have e2 := cross_anti r s
  have h1 := h.n1; have h2 := h.n2; have h3 := h.n3; have h4 := h.n4; have h5 := h.n5
  refine ⟨by have := h.sx; omega, by have := h.sy; omega, ?_, ?_, ?_, ?_, ?_⟩
  · rw [cross_anti p q, Int.mul_comm q.x, Int.mul_comm q.y]; intro ⟨a, b⟩; exact h3 ⟨by omega, b⟩
  · rw [cross_anti s r, Int.mul_comm r.x, Int.mul_comm r.y]; intro ⟨a, b⟩; exact h4 ⟨by omega, b⟩
  · exact h2
  · exact h1
  · intro ⟨a, b⟩
    rw [cross_anti p q, cross_anti s r] at b
    exact h5 ⟨by omega, by omega⟩

theorem NM.swap {p q r s : Pt} (h : NM p q r s) : NM p s r q :=
  ⟨by have := h.sx; omega, by have := h.sy; omega, h.n3, h.n4, h.n1, h.n2, fun ⟨a, b⟩ => h.n5 ⟨b, a⟩⟩

theorem cross_ngt (u v : Pt) : cross (ngt u) (ngt v) = cross u v := by unfold cross ngt; grind

theorem NM.ngt {p q r s : Pt} (h : NM p q r s) : NM (ngt p) (ngt q) (ngt r) (ngt s) := by
  have hm : ∀ u v : Pt, (AM.ngt u).x * (AM.ngt v).x = u.x * v.x ∧ (AM.ngt u).y * (AM.ngt v).y = u.y * v.y := fun u v => by unfold AM.ngt; simp only; constructor <;> grind
  refine ⟨by have := h.sx; unfold AM.ngt; simp only; omega, by have := h.sy; unfold AM.ngt; simp only; omega, ?_, ?_, ?_, ?_, ?_⟩
  · rw [cross_ngt, (hm _ _).1, (hm _ _).2]; exact h.n1
  · rw [cross_ngt, (hm _ _).1, (hm _ _).2]; exact h.n2
  · rw [cross_ngt, (hm _ _).1, (hm _ _).2]; exact h.n3
  · rw [cross_ngt, (hm _ _).1, (hm _ _).2]; exact h.n4
  · simp only [cross_ngt]; exact h.n5

/-- against each other -/
theorem opp {p q : Pt} (hp : Pos p) (hq : Neg q) (h : cross p q = 0) : p.x * q.x ≤ 0 ∧ p.y * q.y ≤ 0 := by
  unfold Pos Neg at *
  have e : p.x * q.y = p.y * q.x := by unfold cross at h; omega
  rcases hp with hp | ⟨hp0, hp⟩
  · rcases hq with hq | ⟨hq0, hq⟩
    · refine ⟨by have := Int.mul_neg_of_pos_of_neg hp hq; omega, ?_⟩
      have e2 : p.x * (p.y * q.y) = (p.y * p.y) * q.x := by grind
      have h1 := mul_self_nn p.y
      have h2 := Int.mul_nonpos_of_nonneg_of_nonpos h1 (show q.x ≤ 0 by omega)
      rcases Int.lt_or_le 0 (p.y * q.y) with h3 | h3
      · have := Int.mul_pos hp h3; omega
      · exact h3
    · exfalso
      rw [hq0] at e
      have := Int.mul_neg_of_pos_of_neg hp hq
      simp at e; omega
  · rw [hp0] at e ⊢
    simp only [Int.zero_mul] at e ⊢
    have hqx : q.x = 0 := by
      rcases Int.mul_eq_zero.1 e.symm with h1 | h1 <;> omega
    refine ⟨Int.le_refl _, ?_⟩
    have : q.y < 0 := by omega
    have := Int.mul_neg_of_pos_of_neg hp this
    omega

theorem cell1 {p q r s : Pt} (h : NM p q r s) (hp : Pos p) (hq : Neg q) (hs : Neg s) : cross p q < 0 → cross p s < 0 := by
  intro h1
  rcases Int.lt_or_le (cross p s) 0 with h2 | h2
  · exact h2
  · exfalso
    have w := wedge hp hq hs h1 h2
    have hr : r = ⟨q.x + s.x - p.x, q.y + s.y - p.y⟩ := by
      have := h.sx; have := h.sy; obtain ⟨a, b⟩ := r; simp only at *; congr 1 <;> omega
    have b1 : cross s r = cross s q + cross p s := by rw [hr]; unfold cross; grind
    have b2 : cross q r = cross p q - cross s q := by rw [hr]; unfold cross; grind
    rcases Int.lt_or_eq_of_le h2 with h3 | h3
    · exact h.n5 ⟨.inl ⟨h1, by omega⟩, .inr ⟨h3, by omega⟩⟩
    · exact h.n1 ⟨h3.symm, opp hp hs h3.symm⟩

theorem cell_1 {p q r s : Pt} (h : NM p q r s) (hp : Pos p) (hq : Neg q) (hs : Neg s) : (cross p q < 0 ↔ cross p s < 0) ∧ cross p q ≠ 0 ∧ cross p s ≠ 0 :=
  ⟨⟨cell1 h hp hq hs, cell1 h.swap hp hs hq⟩, fun e => h.n3 ⟨e, opp hp hq e⟩, fun e => h.n1 ⟨e, opp hp hs e⟩⟩

theorem cell2 {p q r s : Pt} (h : NM p q r s) (hp : Pos p) (hq : Pos q) (hr : Neg r) (hs : Neg s) : ¬ (cross q r < 0 ∧ 0 < cross p s) := by
  rintro ⟨k, g⟩
  have e1 : cross q r = cross q s + cross p q := by
    have hr' : r = ⟨q.x + s.x - p.x, q.y + s.y - p.y⟩ := by
      have := h.sx; have := h.sy; obtain ⟨a, b⟩ := r; simp only at *; congr 1 <;> omega
    rw [hr']; unfold cross; grind
  have e2 : cross q r = cross p r - cross s r := by
    have hq' : q = ⟨p.x + r.x - s.x, p.y + r.y - s.y⟩ := by
      have := h.sx; have := h.sy; obtain ⟨a, b⟩ := q; simp only at *; congr 1 <;> omega
    rw [hq']; unfold cross; grind
  have a1 : cross p q < 0 := by
    rcases Int.lt_or_le (cross p q) 0 with h1 | h1
    · exact h1
    · have hw := pos_comb (a := -cross q s) (b := cross p s) (by omega) (by omega) hp hq
      obtain ⟨t1, t2⟩ := three_way p q s
      have a := cross_anti p s
      have := sign_of (c := -cross p q) (neg_ngt.1 hs) hw (by unfold ngt comb; simp only; grind) (by unfold ngt comb; simp only; grind)
      omega
  have b1 : 0 < cross s r := by
    rcases Int.lt_or_le 0 (cross s r) with h1 | h1
    · exact h1
    · have hw := pos_comb (a := -cross p r) (b := cross p s) (by omega) (by omega) (neg_ngt.1 hs) (neg_ngt.1 hr)
      obtain ⟨t1, t2⟩ := three_way p r s
      have a := cross_anti p s
      have a' := cross_anti s r
      exact sign_of (c := cross s r) hp hw (by unfold ngt comb; simp only; grind) (by unfold ngt comb; simp only; grind)
  exact h.n5 ⟨.inl ⟨a1, b1⟩, .inr ⟨g, k⟩⟩

theorem cell_2 {p q r s : Pt} (h : NM p q r s) (hp : Pos p) (hq : Pos q) (hr : Neg r) (hs : Neg s) : (cross q r < 0 ↔ cross p s < 0) ∧ cross q r ≠ 0 ∧ cross p s ≠ 0 := by
  have z1 : cross q r ≠ 0 := fun e => h.n2 ⟨e, opp hq hr e⟩
  have z2 : cross p s ≠ 0 := fun e => h.n1 ⟨e, opp hp hs e⟩
  have k1 := cell2 h hp hq hr hs
  have h' : NM q p s r := h.swap.rot.rot.rot
  have k2 := cell2 h' hq hp hs hr
  refine ⟨?_, z1, z2⟩
  omega

theorem pos_not_neg {v : Pt} (h : Pos v) : ¬ Neg v := by unfold Pos Neg at *; omega
theorem dl_pp {u v : Pt} (h : Pos u) (k : Pos v) : dl u v = 0 := by unfold dl; simp [pos_not_neg h, pos_not_neg k]
theorem neg_not_pos {v : Pt} (h : Neg v) : ¬ Pos v := fun k => pos_not_neg k h
theorem dl_nn {u v : Pt} (h : Neg u) (k : Neg v) : dl u v = 0 := by unfold dl; simp [neg_not_pos h, neg_not_pos k]
theorem dl_pn {u v : Pt} (h : Pos u) (k : Neg v) : dl u v = if cross u v < 0 then -1 else 0 := by unfold dl; simp [h, k, pos_not_neg h]
theorem dl_np {u v : Pt} (h : Neg u) (k : Pos v) : dl u v = if 0 < cross u v then 1 else 0 := by unfold dl; simp [h, k, neg_not_pos h]

theorem sum1 {p q r s : Pt} (h : NM p q r s) (hp : Pos p) (hq : Neg q) (hr : Neg r) (hs : Neg s) : dl p q + dl q r + dl r s + dl s p = 0 := by
  rw [dl_pn hp hq, dl_nn hq hr, dl_nn hr hs, dl_np hs hp, cross_anti p s]
  obtain ⟨k1, k2, k3⟩ := cell_1 h hp hq hs
  split <;> split <;> omega
theorem sum1n {p q r s : Pt} (h : NM p q r s) (hp : Neg p) (hq : Pos q) (hr : Pos r) (hs : Pos s) : dl p q + dl q r + dl r s + dl s p = 0 := by
  rw [dl_np hp hq, dl_pp hq hr, dl_pp hr hs, dl_pn hs hp, cross_anti p s]
  obtain ⟨k1, k2, k3⟩ := cell_1 h.ngt (neg_ngt.1 hp) (pos_ngt.1 hq) (pos_ngt.1 hs)
  rw [cross_ngt, cross_ngt] at k1
  rw [cross_ngt] at k2 k3
  split <;> split <;> omega
theorem sum2 {p q r s : Pt} (h : NM p q r s) (hp : Pos p) (hq : Pos q) (hr : Neg r) (hs : Neg s) : dl p q + dl q r + dl r s + dl s p = 0 := by
  rw [dl_pp hp hq, dl_pn hq hr, dl_nn hr hs, dl_np hs hp, cross_anti p s]
  obtain ⟨k1, k2, k3⟩ := cell_2 h hp hq hr hs
  split <;> split <;> omega
theorem sum3 {p q r s : Pt} (h : NM p q r s) (hp : Pos p) (hq : Neg q) (hr : Pos r) (hs : Neg s) : False := by
  have := h.sx; have := h.sy
  unfold Pos Neg at *
  omega

/-- a cell passes straight down as often to the left as to the right -/
theorem cell_sum {p q r s : Pt} (h : NM p q r s) (zp : p ≠ ⟨0, 0⟩) (zq : q ≠ ⟨0, 0⟩) (zr : r ≠ ⟨0, 0⟩) (zs : s ≠ ⟨0, 0⟩) : dl p q + dl q r + dl r s + dl s p = 0 := by
  have h1 := h.rot; have h2 := h1.rot; have h3 := h2.rot
  rcases pos_or_neg zp with hp | hp <;> rcases pos_or_neg zq with hq | hq <;> rcases pos_or_neg zr with hr | hr <;> rcases pos_or_neg zs with hs | hs
  · rw [dl_pp hp hq, dl_pp hq hr, dl_pp hr hs, dl_pp hs hp]; rfl
  · have := sum1n h3 hs hp hq hr; omega
  · have := sum1n h2 hr hs hp hq; omega
  · exact sum2 h hp hq hr hs
  · have := sum1n h1 hq hr hs hp; omega
  · exact (sum3 h hp hq hr hs).elim
  · have := sum2 h3 hs hp hq hr; omega
  · exact sum1 h hp hq hr hs
  · exact sum1n h hp hq hr hs
  · have := sum2 h1 hq hr hs hp; omega
  · exact (sum3 h1 hq hr hs hp).elim
  · have := sum1 h1 hq hr hs hp; omega
  · have := sum2 h2 hr hs hp hq; omega
  · have := sum1 h2 hr hs hp hq; omega
  · have := sum1 h3 hs hp hq hr; omega
  · rw [dl_nn hp hq, dl_nn hq hr, dl_nn hr hs, dl_nn hs hp]; rfl

/-- the way between two points -/
def df (a c : Pt) : Pt := ⟨c.x - a.x, c.y - a.y⟩

theorem nm_of {A B C D : Pt} (h : ¬ Meet A B C D) : NM (df A C) (df A D) (df B D) (df B C) := by
  unfold Meet OnL at h
  have t1 : cross (df A C) (df B C) = turn A B C := by unfold cross df turn; grind
  have t2 : cross (df A D) (df B D) = turn A B D := by unfold cross df turn; grind
  have t3 : cross (df A C) (df A D) = turn C D A := by unfold cross df turn; grind
  have t4 : cross (df B C) (df B D) = turn C D B := by unfold cross df turn; grind
  have m : ∀ a b c d : Int, (a - b) * (c - d) = (b - a) * (d - c) := fun a b c d => by grind
  simp only [not_or] at h
  obtain ⟨h1, h2, h3, h4, h5⟩ := h
  refine ⟨by unfold df; simp only; omega, by unfold df; simp only; omega, ?_, ?_, ?_, ?_, ?_⟩
  · rw [t1]; intro ⟨a, b, c⟩; exact h1 ⟨a, by rw [m]; exact b, by rw [m]; exact c⟩
  · rw [t2]; intro ⟨a, b, c⟩; exact h2 ⟨a, by rw [m]; exact b, by rw [m]; exact c⟩
  · rw [t3]; intro ⟨a, b, c⟩; exact h3 ⟨a, b, c⟩
  · rw [t4]; intro ⟨a, b, c⟩; exact h4 ⟨a, b, c⟩
  · rw [t1, t2, t3, t4]
    intro ⟨a, b⟩
    apply h5
    have key : ∀ x y : Int, ((x < 0 ∧ 0 < y) ∨ (0 < x ∧ y < 0)) → sg x * sg y < 0 := fun x y h => by
      unfold sg
      rcases h with ⟨h1, h2⟩ | ⟨h1, h2⟩
      · rw [if_neg (by omega), if_pos h1, if_pos h2]; decide
      · rw [if_pos h1, if_neg (by omega), if_pos h2]; decide
    exact ⟨key _ _ b, key _ _ a⟩

theorem df_ne {A B : Pt} (h : A ≠ B) : df A B ≠ ⟨0, 0⟩ := by
  intro e
  apply h
  obtain ⟨a, b⟩ := A; obtain ⟨c, d⟩ := B
  unfold df at e
  simp only [Pt.mk.injEq] at e ⊢
  omega

theorem not_meet_ne {A B C D : Pt} (h : ¬ Meet A B C D) : A ≠ C ∧ A ≠ D ∧ B ≠ C ∧ B ≠ D := by
  unfold Meet at h
  simp only [not_or] at h
  obtain ⟨h1, h2, h3, h4, h5⟩ := h
  refine ⟨fun e => h1 ?_, fun e => h2 ?_, fun e => h1 ?_, fun e => h2 ?_⟩ <;> subst e <;> unfold OnL turn <;> refine ⟨by grind, by simp, by simp⟩

theorem cell_df {A B C D : Pt} (h : ¬ Meet A B C D) : dl (df A C) (df A D) + dl (df A D) (df B D) + dl (df B D) (df B C) + dl (df B C) (df A C) = 0 := by
  obtain ⟨n1, n2, n3, n4⟩ := not_meet_ne h
  exact cell_sum (nm_of h) (df_ne n1) (df_ne n2) (df_ne n4) (df_ne n3)

/-- the cell of two lines that follow each other -/
theorem tri_sum {u v w : Pt} (hw : w = comb 1 u 1 v) (h : cross u v ≠ 0) : dl u w + dl w v = dl u v := by
  have c1 : cross u w = cross u v := by rw [hw]; unfold cross comb; grind
  have c2 : cross w v = cross u v := by rw [hw]; unfold cross comb; grind
  have zu : u ≠ ⟨0, 0⟩ := fun e => h (by rw [e]; unfold cross; simp)
  have zv : v ≠ ⟨0, 0⟩ := fun e => h (by rw [e]; unfold cross; simp)
  have zw : w ≠ ⟨0, 0⟩ := fun e => h (by rw [← c1, e]; unfold cross; simp)
  have hx : w.x = u.x + v.x := by rw [hw]; unfold comb; simp
  have hy : w.y = u.y + v.y := by rw [hw]; unfold comb; simp
  rcases pos_or_neg zu with hu | hu <;> rcases pos_or_neg zv with hv | hv <;> rcases pos_or_neg zw with hw' | hw'
  · rw [dl_pp hu hw', dl_pp hw' hv, dl_pp hu hv]; rfl
  · exfalso; unfold Pos Neg at *; omega
  · rw [dl_pp hu hw', dl_pn hw' hv, dl_pn hu hv, c2]; omega
  · rw [dl_pn hu hw', dl_nn hw' hv, dl_pn hu hv, c1]; omega
  · rw [dl_np hu hw', dl_pp hw' hv, dl_np hu hv, c1]; omega
  · rw [dl_nn hu hw', dl_np hw' hv, dl_np hu hv, c2]; omega
  · exfalso; unfold Pos Neg at *; omega
  · rw [dl_nn hu hw', dl_nn hw' hv, dl_nn hu hv]; rfl
end Go.AM

namespace Go.AM
set_option linter.unusedVariables false

structure LP (n : Int) (P : Int → Pt) : Prop where
  n3 : 3 ≤ n
  per : ∀ i, P (i + n) = P i
  left : ∀ i, 0 < turn (P i) (P (i + 1)) (P (i + 2))
  apart : ∀ i k, i + 2 ≤ k → k - i < n - 1 → ¬ Meet (P i) (P (i + 1)) (P k) (P (k + 1))

section
variable {n : Int} {P : Int → Pt}

def eg (P : Int → Pt) (i : Int) : Pt := df (P i) (P (i + 1))

theorem turn_eg (P : Int → Pt) (i : Int) : turn (P i) (P (i + 1)) (P (i + 2)) = cross (eg P i) (eg P (i + 1)) := by
  unfold eg df turn cross
  rw [show i + 1 + 1 = i + 2 by omega]
  grind

/-- the path from corner i's line to the k-th corner behind it, as seen from corner i -/
def rowS (P : Int → Pt) (i : Int) : Nat → Int
  | 0 => 0
  | k + 1 => rowS P i k + dl (df (P i) (P (i + 1 + k))) (df (P i) (P (i + 2 + k)))

theorem row_step (h : LP n P) (i : Int) : ∀ k : Nat, (k : Int) + 1 < n - 1 ∨ k = 0 → rowS P i (k + 1) + dl (df (P i) (P (i + 2 + k))) (df (P (i + 1)) (P (i + 2 + k))) = dl (eg P i) (eg P (i + 1)) + rowS P (i + 1) k
  | 0, _ => by
    have hl := h.left i
    rw [turn_eg] at hl
    have := tri_sum (u := eg P i) (v := eg P (i + 1)) (w := df (P i) (P (i + 2))) (by unfold eg df comb; rw [show i + 1 + 1 = i + 2 by omega]; simp only [Pt.mk.injEq]; omega) (by omega)
    simp only [rowS, Int.add_zero, Int.zero_add, show ((0 : Nat) : Int) = 0 from rfl]
    unfold eg at this ⊢
    rw [show i + 1 + 1 = i + 2 by omega] at *
    exact this
  | k + 1, hk => by
    have hk' : (k : Int) + 2 < n - 1 := by have := h.n3; omega
    have ih := row_step h i k (by omega)
    have hm := h.apart i (i + 2 + k) (by omega) (by omega)
    have c := cell_df hm
    rw [show i + 2 + (k : Int) + 1 = i + 2 + ((k + 1 : Nat) : Int) by omega] at c
    have a1 := dl_anti (df (P (i + 1)) (P (i + 2 + k))) (df (P (i + 1)) (P (i + 2 + ((k + 1 : Nat) : Int))))
    have a2 := dl_anti (df (P i) (P (i + 2 + k))) (df (P (i + 1)) (P (i + 2 + k)))
    have r1 : rowS P i (k + 1 + 1) = rowS P i (k + 1) + dl (df (P i) (P (i + 2 + k))) (df (P i) (P (i + 2 + ((k + 1 : Nat) : Int)))) := by
      conv => lhs; unfold rowS
      rw [show i + 1 + ((k + 1 : Nat) : Int) = i + 2 + k by omega]
    have r2 : rowS P (i + 1) (k + 1) = rowS P (i + 1) k + dl (df (P (i + 1)) (P (i + 2 + k))) (df (P (i + 1)) (P (i + 2 + ((k + 1 : Nat) : Int)))) := by
      conv => lhs; unfold rowS
      rw [show i + 1 + 1 + (k : Int) = i + 2 + k by omega, show i + 1 + 2 + (k : Int) = i + 2 + ((k + 1 : Nat) : Int) by omega]
    rw [r1, r2]
    omega

/-- all rows from 1 on -/
theorem rows_sum (h : LP n P) : ∀ (k : Nat), (k : Int) ≤ n - 2 → rowS P (n - 1 - k) k + sm (fun t => dl (df (P (n - 1 - k + t)) (P n)) (df (P (n - 1 - k + t + 1)) (P n))) k = sm (fun t => dl (eg P (n - 1 - k + t)) (eg P (n - 1 - k + t + 1))) k
  | 0, _ => by simp [rowS, sm]
  | k + 1, hk => by
    have ih := rows_sum h k (by omega)
    have hs := row_step h (n - 1 - (k + 1 : Nat)) k (by omega)
    have e1 : n - 1 - ((k + 1 : Nat) : Int) + 1 = n - 1 - k := by omega
    have e2 : n - 1 - ((k + 1 : Nat) : Int) + 2 + k = n := by omega
    rw [e1, e2] at hs
    have shift : ∀ f : Int → Int, sm (fun t => f (n - 1 - ((k + 1 : Nat) : Int) + t)) (k + 1) = f (n - 1 - ((k + 1 : Nat) : Int)) + sm (fun t => f (n - 1 - (k : Int) + t)) k := by
      intro f
      have key : ∀ m : Nat, sm (fun t => f (n - 1 - ((k + 1 : Nat) : Int) + t)) (m + 1) = f (n - 1 - ((k + 1 : Nat) : Int)) + sm (fun t => f (n - 1 - (k : Int) + t)) m := by
        intro m
        induction m with
        | zero => simp [sm]
        | succ m ihm =>
          have : sm (fun t => f (n - 1 - ((k + 1 : Nat) : Int) + t)) (m + 1 + 1) = sm (fun t => f (n - 1 - ((k + 1 : Nat) : Int) + t)) (m + 1) + f (n - 1 - ((k + 1 : Nat) : Int) + ((m + 1 : Nat) : Int)) := rfl
          rw [this, ihm]
          simp only [sm]
          rw [show n - 1 - ((k + 1 : Nat) : Int) + ((m + 1 : Nat) : Int) = n - 1 - (k : Int) + (m : Int) by omega]
          omega
      exact key k
    have s1 := shift fun x => dl (df (P x) (P n)) (df (P (x + 1)) (P n))
    have s2 := shift fun x => dl (eg P x) (eg P (x + 1))
    rw [s1, s2]
    rw [show n - 1 - ((k + 1 : Nat) : Int) + 1 = n - 1 - k by omega]
    omega

/-- corner 0 is the first one in order -/
structure Base (n : Int) (P : Int → Pt) : Prop extends LP n P where
  first : ∀ j, 0 < j → j < n → Pos (df (P 0) (P j))

theorem once (h : Base n P) : sm (fun t => dl (eg P t) (eg P (t + 1))) n.toNat = 1 := by
  have n3 := h.n3
  obtain ⟨k, hk⟩ : ∃ k : Nat, n = k + 3 := ⟨(n - 3).toNat, by omega⟩
  -- row 0
  have r0 : ∀ m : Nat, (m : Int) ≤ n - 2 → rowS P 0 m = 0 := by
    intro m
    induction m with
    | zero => intro _; rfl
    | succ m ih =>
      intro hm
      simp only [rowS]
      rw [ih (by omega), dl_pp (h.first _ (by omega) (by omega)) (h.first _ (by omega) (by omega))]
      rfl
  -- the last column
  have pn : P n = P 0 := by have := h.per 0; rwa [Int.zero_add] at this
  have hneg : ∀ j, 0 < j → j < n → Neg (df (P j) (P n)) := fun j h0 h1 => by
    have := h.first j h0 h1
    rw [pn]
    unfold Pos Neg df at *
    simp only at *
    omega
  have col := rows_sum h.toLP (k + 1) (by omega)
  have e1 : n - 1 - ((k + 1 : Nat) : Int) = 1 := by omega
  rw [e1] at col
  have c0 : sm (fun t => dl (df (P (1 + t)) (P n)) (df (P (1 + t + 1)) (P n))) (k + 1) = 0 := by
    have : sm (fun t => dl (df (P (1 + t)) (P n)) (df (P (1 + t + 1)) (P n))) (k + 1) = sm (fun _ => 0) (k + 1) := sm_congr fun i h0 h1 => dl_nn (hneg _ (by omega) (by omega)) (hneg _ (by omega) (by omega))
    rw [this]
    have z : ∀ m : Nat, sm (fun _ => 0) m = 0 := fun m => by induction m with | zero => rfl | succ m ih => simp [sm, ih]
    exact z _
  rw [c0] at col
  -- the corner where the first line meets the last one
  have s0 := row_step h.toLP 0 k (by omega)
  rw [r0 (k + 1) (by omega)] at s0
  have q1 : (0 : Int) + 2 + k = n - 1 := by omega
  rw [q1, Int.zero_add, show (0 : Int) + 1 = 1 by rfl] at s0
  have rl : rowS P 1 (k + 1) = rowS P 1 k + dl (df (P 1) (P (n - 1))) (df (P 1) (P n)) := by
    simp only [rowS]
    rw [show (1 : Int) + 1 + k = n - 1 by omega, show (1 : Int) + 2 + k = n by omega]
  have hl := h.left (n - 1)
  rw [turn_eg, show n - 1 + 1 = n by omega] at hl
  have pn1 : P (n + 1) = P 1 := by have := h.per 1; rwa [Int.add_comm] at this
  have u1 : df (P 0) (P (n - 1)) = ngt (eg P (n - 1)) := by
    unfold df ngt eg df; rw [show n - 1 + 1 = n by omega, pn]; simp only [Pt.mk.injEq]; omega
  have v1 : df (P 1) (P n) = ngt (eg P n) := by
    unfold df ngt eg df; rw [pn1, pn]; simp only [Pt.mk.injEq]; omega
  have tr := tri_sum (u := df (P 0) (P (n - 1))) (v := df (P 1) (P n)) (w := df (P 1) (P (n - 1))) (by unfold df comb; rw [pn]; simp only [Pt.mk.injEq]; omega) (by rw [u1, v1, cross_ngt]; omega)
  have dlast : dl (df (P 0) (P (n - 1))) (df (P 1) (P n)) = 0 := by
    rw [dl_pn (h.first _ (by omega) (by omega)) (hneg _ (by omega) (by omega)), u1, v1, cross_ngt, if_neg (by omega)]
  have eN : eg P n = eg P 0 := by unfold eg; rw [pn1, pn]; rfl
  have dback : dl (eg P (n - 1)) (eg P (n - 1 + 1)) = 1 := by
    rw [show n - 1 + 1 = n by omega]
    have a1 : Neg (eg P (n - 1)) := by have := hneg (n - 1) (by omega) (by omega); unfold eg; rwa [show n - 1 + 1 = n by omega]
    have a2 : Pos (eg P n) := by rw [eN]; unfold eg; exact h.first _ (by omega) (by omega)
    rw [dl_np a1 a2, if_pos hl]
  -- all together
  have tot : sm (fun t => dl (eg P t) (eg P (t + 1))) n.toNat = dl (eg P 0) (eg P 1) + sm (fun t => dl (eg P (1 + t)) (eg P (1 + t + 1))) (k + 1) + dl (eg P (n - 1)) (eg P (n - 1 + 1)) := by
    rw [show n.toNat = (k + 2) + 1 by omega]
    simp only [sm]
    rw [show ((k + 2 : Nat) : Int) = n - 1 by omega]
    have key : ∀ m : Nat, sm (fun t => dl (eg P t) (eg P (t + 1))) (m + 1) = dl (eg P 0) (eg P 1) + sm (fun t => dl (eg P (1 + t)) (eg P (1 + t + 1))) m := by
      intro m
      induction m with
      | zero => simp [sm]
      | succ m ih =>
        have : sm (fun t => dl (eg P t) (eg P (t + 1))) (m + 1 + 1) = sm (fun t => dl (eg P t) (eg P (t + 1))) (m + 1) + dl (eg P ((m + 1 : Nat) : Int)) (eg P (((m + 1 : Nat) : Int) + 1)) := rfl
        rw [this, ih]
        simp only [sm]
        rw [show ((m + 1 : Nat) : Int) = 1 + (m : Int) by omega]
        omega
    have := key (k + 1)
    simp only [sm] at this
    omega
  rw [tot, dback]
  rw [dlast] at tr
  omega
end
end Go.AM

namespace Go.AM
set_option linter.unusedVariables false

theorem tplus {u v w : Pt} (hu : Pos u) (hv : Pos v) (hw : Pos w) (h1 : 0 ≤ cross u v) (h2 : 0 < cross v w) : 0 < cross u w := by
  obtain ⟨e1, e2⟩ := three_way u v w
  have a := cross_anti u w
  have hc := pos_comb (a := cross v w) (b := cross u v) h2 h1 hu hw
  exact sign_of (c := cross u w) hv hc (by unfold comb; simp only; grind) (by unfold comb; simp only; grind)

theorem tneg {u v w : Pt} (hu : Neg u) (hv : Neg v) (hw : Neg w) (h1 : 0 ≤ cross u v) (h2 : 0 < cross v w) : 0 < cross u w := by
  have := tplus (neg_ngt.1 hu) (neg_ngt.1 hv) (neg_ngt.1 hw) (by rw [cross_ngt]; exact h1) (by rw [cross_ngt]; exact h2)
  rwa [cross_ngt] at this

theorem sm_nonneg {g : Int → Int} : ∀ {k : Nat}, (∀ i : Int, 0 ≤ i → i < k → 0 ≤ g i) → 0 ≤ sm g k ∧ ∀ i : Int, 0 ≤ i → i < k → g i ≤ sm g k
  | 0, _ => ⟨by simp [sm], fun i h0 h1 => by omega⟩
  | k + 1, h => by
    obtain ⟨h1, h2⟩ := sm_nonneg (k := k) fun i h0 h1 => h i h0 (by omega)
    have h3 := h k (by omega) (by omega)
    simp only [sm]
    refine ⟨by omega, fun i i0 i1 => ?_⟩
    by_cases e : i = k
    · subst e; omega
    · have := h2 i i0 (by omega); omega

section
variable {n : Int} {P : Int → Pt}

theorem LP.cr (h : LP n P) (i : Int) : 0 < cross (eg P i) (eg P (i + 1)) := by have := h.left i; rwa [turn_eg] at this

theorem LP.pr (h : LP n P) (i : Int) : eg P (i + n) = eg P i := by
  unfold eg; rw [h.per, show i + n + 1 = i + 1 + n by omega, h.per]

theorem LP.nz (h : LP n P) (i : Int) : eg P i ≠ ⟨0, 0⟩ := fun e => by
  have := h.cr i; rw [e] at this; unfold cross at this; simp at this

theorem LP.ne (h : LP n P) {i j : Int} (h0 : i < j) (h1 : j < i + n) : P i ≠ P j := by
  have n3 := h.n3
  have step : ∀ i, P i ≠ P (i + 1) := fun i e => h.nz i (by unfold eg df; rw [← e]; simp)
  by_cases e1 : j = i + 1
  · subst e1; exact step i
  · by_cases e2 : j = i + n - 1
    · intro e
      have := step j
      rw [show j + 1 = i + n by omega, h.per] at this
      exact this e.symm
    · exact (not_meet_ne (h.apart i j (by omega) (by omega))).1

/-- no line points ahead behind one that points back -/
theorem Base.stay (h : Base n P) {i : Int} (h0 : 0 ≤ i) (h1 : i + 1 < n) : Neg (eg P i) → Neg (eg P (i + 1)) := by
  intro hn
  rcases pos_or_neg (h.nz (i + 1)) with hp | hp
  · exfalso
    have n3 := h.n3
    have ho := once h
    have hnn : ∀ t : Int, 0 ≤ dl (eg P t) (eg P (t + 1)) := fun t => by
      unfold dl
      have := h.cr t
      split
      · omega
      · rw [if_neg (by omega)]; omega
    obtain ⟨m, hm⟩ : ∃ m : Nat, n.toNat = m + 1 := ⟨n.toNat - 1, by omega⟩
    rw [hm] at ho
    simp only [sm] at ho
    have hb := (sm_nonneg (g := fun t => dl (eg P t) (eg P (t + 1))) (k := m) fun t _ _ => hnn t).2 i h0 (by omega)
    have e1 : dl (eg P i) (eg P (i + 1)) = 1 := by rw [dl_np hn hp, if_pos (h.cr i)]
    have e2 : dl (eg P (m : Int)) (eg P ((m : Int) + 1)) = 1 := by
      have hmn : (m : Int) = n - 1 := by omega
      rw [hmn]
      have pn : P n = P 0 := by have := h.per 0; rwa [Int.zero_add] at this
      have a1 : Neg (eg P (n - 1)) := by
        have := h.first (n - 1) (by omega) (by omega)
        unfold eg; rw [show n - 1 + 1 = n by omega, pn]
        unfold Pos Neg df at *; simp only at *; omega
      have a2 : Pos (eg P (n - 1 + 1)) := by
        rw [show n - 1 + 1 = 0 + n by omega, h.pr]
        have := h.first 1 (by omega) (by omega)
        unfold eg; exact this
      rw [dl_np a1 a2, if_pos (h.cr _)]
    omega
  · exact hp

theorem Base.stays (h : Base n P) {i : Int} (h0 : 0 ≤ i) (hn : Neg (eg P i)) : ∀ k : Nat, i + k < n → Neg (eg P (i + k))
  | 0, _ => by simpa using hn
  | k + 1, hk => by
    have := h.stay (i := i + k) (by omega) (by omega) (h.stays h0 hn k (by omega))
    rwa [show i + (k : Int) + 1 = i + ((k + 1 : Nat) : Int) by omega] at this

theorem Base.pos_le (h : Base n P) {i j : Int} (h0 : 0 ≤ i) (hij : i ≤ j) (hj : j < n) (hp : Pos (eg P j)) : Pos (eg P i) := by
  rcases pos_or_neg (h.nz i) with hi | hi
  · exact hi
  · have := h.stays h0 hi (j - i).toNat (by omega)
    rw [show i + ((j - i).toNat : Int) = j by omega] at this
    exact absurd this (pos_not_neg hp)

theorem Base.chain (h : Base n P) {i : Int} (h0 : 0 ≤ i) : ∀ k : Nat, i + 1 + k < n → Pos (eg P (i + 1 + k)) → 0 < cross (eg P i) (eg P (i + 1 + k))
  | 0, _, _ => by simpa using h.cr i
  | k + 1, hk, hp => by
    have e : i + 1 + ((k + 1 : Nat) : Int) = i + 1 + k + 1 := by omega
    rw [e] at hp ⊢
    have hp1 := h.pos_le (i := i + 1 + k) (by omega) (by omega) (by omega) hp
    have hp0 := h.pos_le (i := i) h0 (by omega) (by omega) hp
    exact tplus hp0 hp1 hp (by have := h.chain h0 k (by omega) hp1; omega) (h.cr _)

theorem Base.lt (h : Base n P) {i j : Int} (h0 : 0 ≤ i) (hij : i < j) (hj : j < n) (hp : Pos (eg P j)) : 0 < cross (eg P i) (eg P j) := by
  have := h.chain h0 (j - i - 1).toNat (by omega)
  rw [show i + 1 + ((j - i - 1).toNat : Int) = j by omega] at this
  exact this hp

/-- once the lines turn away from line i, they go on so -/
theorem Base.down (h : Base n P) {i m : Int} (h0 : 0 ≤ i) (h1 : i < n) (hp : Pos (eg P i)) (hm : i < m) (hm2 : m + 1 ≤ i + n - 1) (hd : cross (eg P i) (eg P m) ≤ 0) : cross (eg P i) (eg P (m + 1)) < 0 := by
  by_cases hmn : m < n
  · rcases pos_or_neg (h.nz m) with q | q
    · have := h.lt h0 hm hmn q; omega
    · by_cases hm1 : m + 1 < n
      · have q1 := h.stay (by omega) hm1 q
        have := tneg (pos_ngt.1 hp) q q1 (by rw [cross_ngt1]; omega) (h.cr m)
        rw [cross_ngt1] at this
        omega
      · have e : m + 1 = 0 + n := by omega
        rw [e, h.pr]
        have := h.lt (i := 0) (j := i) (by omega) (by omega) h1 hp
        rw [cross_anti (eg P 0) (eg P i)]
        omega
  · have e : m + 1 = (m + 1 - n) + n := by omega
    rw [e, h.pr]
    have := h.lt (i := m + 1 - n) (j := i) (by omega) (by omega) h1 hp
    rw [cross_anti (eg P (m + 1 - n)) (eg P i)]
    omega

theorem turn_next (P : Int → Pt) (i j : Int) : turn (P i) (P (i + 1)) (P (j + 1)) = turn (P i) (P (i + 1)) (P j) + cross (eg P i) (eg P j) := by
  unfold turn cross eg df; grind

theorem Base.conv (h : Base n P) {i : Int} (h0 : 0 ≤ i) (h1 : i < n) (hp : Pos (eg P i)) {j : Int} (hj : i + 2 ≤ j) (hj2 : j ≤ i + n - 1) : 0 < turn (P i) (P (i + 1)) (P j) := by
  have t1 : turn (P i) (P (i + 1)) (P (i + 1)) = 0 := by unfold turn; grind
  have tn : turn (P i) (P (i + 1)) (P (i + n)) = 0 := by rw [h.per]; unfold turn; grind
  by_cases hall : ∀ m, i < m → m < j → 0 < cross (eg P i) (eg P m)
  · have up : ∀ k : Nat, i + 2 + k ≤ j → 0 < turn (P i) (P (i + 1)) (P (i + 2 + k)) := by
      intro k
      induction k with
      | zero => intro hk; have := turn_next P i (i + 1); have := hall (i + 1) (by omega) (by omega); rw [show i + 1 + 1 = i + 2 by omega] at *; simp; omega
      | succ k ih =>
        intro hk
        have a := turn_next P i (i + 2 + k)
        have b := hall (i + 2 + k) (by omega) (by omega)
        have c := ih (by omega)
        rw [show i + 2 + ((k + 1 : Nat) : Int) = i + 2 + k + 1 by omega, a]
        omega
    have := up (j - i - 2).toNat (by omega)
    rwa [show i + 2 + ((j - i - 2).toNat : Int) = j by omega] at this
  · obtain ⟨m, hm⟩ := Classical.not_forall.1 hall
    simp only [Classical.not_imp] at hm
    obtain ⟨m0, m1, m2⟩ := hm
    have dn : ∀ k : Nat, m + 1 + k ≤ i + n - 1 → cross (eg P i) (eg P (m + 1 + k)) < 0 := by
      intro k
      induction k with
      | zero => intro hk; have := h.down h0 h1 hp m0 (by omega) (by omega); simpa using this
      | succ k ih =>
        intro hk
        have := h.down (m := m + 1 + k) h0 h1 hp (by omega) (by omega) (by have := ih (by omega); omega)
        rwa [show m + 1 + (k : Int) + 1 = m + 1 + ((k + 1 : Nat) : Int) by omega] at this
    have back : ∀ k : Nat, j ≤ i + n - 1 - k → 0 < turn (P i) (P (i + 1)) (P (i + n - 1 - k)) := by
      intro k
      induction k with
      | zero =>
        intro hk
        have a := turn_next P i (i + n - 1)
        rw [show i + n - 1 + 1 = i + n by omega, tn] at a
        have b := dn (i + n - 1 - (m + 1)).toNat (by omega)
        rw [show m + 1 + ((i + n - 1 - (m + 1)).toNat : Int) = i + n - 1 by omega] at b
        simp; omega
      | succ k ih =>
        intro hk
        have a := turn_next P i (i + n - 1 - (k + 1 : Nat))
        rw [show i + n - 1 - ((k + 1 : Nat) : Int) + 1 = i + n - 1 - k by omega] at a
        have b := dn (i + n - 1 - (k + 1 : Nat) - (m + 1)).toNat (by omega)
        rw [show m + 1 + ((i + n - 1 - ((k + 1 : Nat) : Int) - (m + 1)).toNat : Int) = i + n - 1 - ((k + 1 : Nat) : Int) by omega] at b
        have c := ih (by omega)
        omega
    have := back (i + n - 1 - j).toNat (by omega)
    rwa [show i + n - 1 - ((i + n - 1 - j).toNat : Int) = j by omega] at this

theorem LP.shift (h : LP n P) (s : Int) : LP n fun t => P (t + s) where
  n3 := h.n3
  per i := by rw [show i + n + s = i + s + n by omega]; exact h.per _
  left i := by have := h.left (i + s); rwa [show i + s + 1 = i + 1 + s by omega, show i + s + 2 = i + 2 + s by omega] at this
  apart i k h1 h2 := by have := h.apart (i + s) (k + s) (by omega) (by omega); rwa [show i + s + 1 = i + 1 + s by omega, show k + s + 1 = k + 1 + s by omega] at this

theorem LP.base (h : LP n P) : ∃ s, Base n fun t => P (t + s) := by
  have n3 := h.n3
  have hm : ∀ k : Nat, ∃ s : Int, 0 ≤ s ∧ s ≤ k ∧ ∀ j : Int, 0 ≤ j → j ≤ k → ¬ Less (P j) (P s) := by
    intro k
    induction k with
    | zero =>
      refine ⟨0, by omega, by omega, fun j h0 h1 => ?_⟩
      have e : j = 0 := by omega
      rw [e]
      exact Less.irrefl _
    | succ k ih =>
      obtain ⟨s, s0, s1, s2⟩ := ih
      by_cases hl : Less (P ((k + 1 : Nat) : Int)) (P s)
      · refine ⟨((k + 1 : Nat) : Int), by omega, by omega, fun j h0 h1 hx => ?_⟩
        by_cases e : j = ((k + 1 : Nat) : Int)
        · subst e; exact Less.irrefl _ hx
        · exact s2 j h0 (by omega) (hx.trans hl)
      · refine ⟨s, s0, by omega, fun j h0 h1 hx => ?_⟩
        by_cases e : j = ((k + 1 : Nat) : Int)
        · subst e; exact hl hx
        · exact s2 j h0 (by omega) hx
  obtain ⟨s, s0, s1, s2⟩ := hm (n - 1).toNat
  refine ⟨s, h.shift s, fun j j0 j1 => ?_⟩
  have hne := h.ne (i := s) (j := j + s) (by omega) (by omega)
  have hno : ¬ Less (P (j + s)) (P s) := by
    by_cases e : j + s < n
    · exact s2 (j + s) (by omega) (by omega)
    · have := h.per (j + s - n)
      rw [show j + s - n + n = j + s by omega] at this
      rw [this]
      exact s2 (j + s - n) (by omega) (by omega)
  show Pos (df (P (0 + s)) (P (j + s)))
  rw [Int.zero_add]
  rcases pos_or_neg (df_ne hne) with hp | hp
  · exact hp
  · exfalso
    apply hno
    unfold Neg df at hp
    unfold Less
    simp only at hp
    omega

theorem LP.conv_pos (h : LP n P) {i j : Int} (hp : Pos (eg P i)) (hj : i + 2 ≤ j) (hj2 : j ≤ i + n - 1) : 0 < turn (P i) (P (i + 1)) (P j) := by
  have n3 := h.n3
  obtain ⟨s, hb⟩ := h.base
  have hper : ∀ (x q : Int), P (x + q * n) = P x := by
    have up : ∀ (k : Nat) (x : Int), P (x + k * n) = P x := by
      intro k
      induction k with
      | zero => intro x; simp
      | succ k ih => intro x; rw [show x + ((k + 1 : Nat) : Int) * n = (x + k * n) + n by rw [Int.natCast_add, Int.add_mul]; simp; omega, h.per, ih]
    intro x q
    rcases Int.le_total 0 q with hq | hq
    · have := up q.toNat x; rwa [Int.toNat_of_nonneg hq] at this
    · have := up (-q).toNat (x + q * n)
      rw [Int.toNat_of_nonneg (by omega), Int.neg_mul] at this
      rw [← this]; congr 1; omega
  -- i as a corner of the shifted one
  have q1 := Int.emod_nonneg (i - s) (show n ≠ 0 by omega)
  have q2 := Int.emod_lt_of_pos (i - s) (show 0 < n by omega)
  have q3 := Int.mul_ediv_add_emod (i - s) n
  have ex : ∀ d : Int, P ((i - s) % n + d + s) = P (i + d) := fun d => by
    have := hper ((i - s) % n + d + s) ((i - s) / n)
    rw [← this]; congr 1
    rw [Int.mul_comm]; omega
  have e0 := ex 0; have e1 := ex 1; have ej := ex (j - i)
  rw [Int.add_zero, Int.add_zero] at e0
  rw [show i + (j - i) = j by omega] at ej
  have := hb.conv (i := (i - s) % n) (j := (i - s) % n + (j - i)) q1 q2 (by unfold eg; simp only; rw [e0, e1]; exact hp) (by omega) (by omega)
  rwa [e0, e1, ej] at this

theorem turn_ngt (a b c : Pt) : turn (ngt a) (ngt b) (ngt c) = turn a b c := by unfold turn ngt; grind

theorem meet_ngt {A B C D : Pt} : Meet (ngt A) (ngt B) (ngt C) (ngt D) ↔ Meet A B C D := by
  have hm : ∀ a b c d : Pt, ((AM.ngt a).x - (AM.ngt b).x) * ((AM.ngt c).x - (AM.ngt b).x) = (a.x - b.x) * (c.x - b.x) := fun a b c d => by unfold AM.ngt; simp only; grind
  have ho : ∀ a b p : Pt, OnL (ngt a) (ngt b) (ngt p) ↔ OnL a b p := fun a b p => by
    unfold OnL
    rw [turn_ngt]
    have e1 : ((AM.ngt a).x - (AM.ngt p).x) * ((AM.ngt b).x - (AM.ngt p).x) = (a.x - p.x) * (b.x - p.x) := by unfold AM.ngt; simp only; grind
    have e2 : ((AM.ngt a).y - (AM.ngt p).y) * ((AM.ngt b).y - (AM.ngt p).y) = (a.y - p.y) * (b.y - p.y) := by unfold AM.ngt; simp only; grind
    rw [e1, e2]
  unfold Meet
  simp only [ho, turn_ngt]

theorem LP.neg (h : LP n P) : LP n fun t => ngt (P t) where
  n3 := h.n3
  per i := by rw [h.per]
  left i := by rw [turn_ngt]; exact h.left i
  apart i k h1 h2 := by rw [meet_ngt]; exact h.apart i k h1 h2

/-- all corners stand to the left of each line -/
theorem LP.conv (h : LP n P) {i j : Int} (hj : i + 2 ≤ j) (hj2 : j ≤ i + n - 1) : 0 < turn (P i) (P (i + 1)) (P j) := by
  rcases pos_or_neg (h.nz i) with hp | hp
  · exact h.conv_pos hp hj hj2
  · have := h.neg.conv_pos (i := i) (j := j) (by
      have := neg_ngt.1 hp
      unfold eg df ngt at *
      simp only at *
      unfold Pos at *
      simp only at *
      omega) hj hj2
    rwa [turn_ngt] at this
end
end Go.AM

namespace Go.AM
set_option linter.unusedVariables false

/-- spans of a height -/
def Up (A B : Pt) (y : Int) : Prop := A.y ≤ y ∧ y < B.y
def Dn (A B : Pt) (y : Int) : Prop := B.y ≤ y ∧ y < A.y
instance (A B : Pt) (y : Int) : Decidable (Up A B y) := by unfold Up; infer_instance
instance (A B : Pt) (y : Int) : Decidable (Dn A B y) := by unfold Dn; infer_instance

section
variable {n : Int} {P : Int → Pt}

/-- no corner is to the right of a line; it is on it only as its end -/
theorem LP.ge (h : LP n P) (i j : Int) (h0 : 0 ≤ i) (h1 : i < n) (j0 : 0 ≤ j) (j1 : j < n) : 0 ≤ turn (P i) (P (i + 1)) (P j) ∧ (turn (P i) (P (i + 1)) (P j) = 0 → j = i ∨ j = i + 1 ∨ (i = n - 1 ∧ j = 0)) := by
  have n3 := h.n3
  have z0 : turn (P i) (P (i + 1)) (P i) = 0 := by unfold turn; grind
  have z1 : turn (P i) (P (i + 1)) (P (i + 1)) = 0 := by unfold turn; grind
  by_cases e0 : j = i
  · subst e0; exact ⟨by omega, fun _ => .inl rfl⟩
  · by_cases e1 : j = i + 1
    · subst e1; exact ⟨by omega, fun _ => .inr (.inl rfl)⟩
    · by_cases e2 : i = n - 1 ∧ j = 0
      · obtain ⟨rfl, rfl⟩ := e2
        have : P (n - 1 + 1) = P 0 := by rw [show n - 1 + 1 = 0 + n by omega, h.per]
        rw [this] at z1 ⊢
        exact ⟨by omega, fun _ => .inr (.inr ⟨rfl, rfl⟩)⟩
      · have pos : 0 < turn (P i) (P (i + 1)) (P j) := by
          by_cases hij : i < j
          · exact h.conv (by omega) (by omega)
          · have := h.conv (i := i) (j := j + n) (by omega) (by omega)
            rwa [h.per] at this
        exact ⟨by omega, fun e => by omega⟩

/-- between the line up and the line down every line has the point to its left -/
theorem between (h : LP n P) {u d i : Int} {q : Pt} (u0 : 0 ≤ u) (u1 : u < n) (d0 : 0 ≤ d) (d1 : d < n) (i0 : 0 ≤ i) (i1 : i < n) (hu : Up (P u) (P (u + 1)) q.y) (hd : Dn (P d) (P (d + 1)) q.y)
    (tu : 0 < turn (P u) (P (u + 1)) q) (td : 0 < turn (P d) (P (d + 1)) q) (hno : ¬ OnL (P i) (P (i + 1)) q) : 0 < turn (P i) (P (i + 1)) q := by
  have pn : P n = P 0 := by have := h.per 0; rwa [Int.zero_add] at this
  have nxt : ∀ i : Int, 0 ≤ i → i < n → ∃ i', 0 ≤ i' ∧ i' < n ∧ P (i + 1) = P i' ∧ (i' = i + 1 ∨ (i = n - 1 ∧ i' = 0)) := fun i i0 i1 => by
    by_cases e : i + 1 < n
    · exact ⟨i + 1, by omega, e, rfl, .inl rfl⟩
    · exact ⟨0, by omega, by omega, by rw [show i + 1 = n by omega, pn], .inr ⟨by omega, rfl⟩⟩
  obtain ⟨u', u0', u1', eu, eu'⟩ := nxt u u0 u1
  obtain ⟨d', d0', d1', ed, ed'⟩ := nxt d d0 d1
  have gA := h.ge i u i0 i1 u0 u1
  have gB := h.ge i u' i0 i1 u0' u1'
  have gC := h.ge i d i0 i1 d0 d1
  have gD := h.ge i d' i0 i1 d0' d1'
  rw [← eu] at gB; rw [← ed] at gD
  have id : turn (P i) (P (i + 1)) q * (((P d).y - (P (d + 1)).y) * turn (P u) (P (u + 1)) q + ((P (u + 1)).y - (P u).y) * turn (P d) (P (d + 1)) q) =
      (((P (u + 1)).y - q.y) * turn (P i) (P (i + 1)) (P u) + (q.y - (P u).y) * turn (P i) (P (i + 1)) (P (u + 1))) * turn (P d) (P (d + 1)) q +
      (((P d).y - q.y) * turn (P i) (P (i + 1)) (P (d + 1)) + (q.y - (P (d + 1)).y) * turn (P i) (P (i + 1)) (P d)) * turn (P u) (P (u + 1)) q := by
    unfold turn; grind
  unfold Up at hu; unfold Dn at hd
  have b1 := Int.mul_nonneg (show 0 ≤ (P (u + 1)).y - q.y by omega) gA.1
  have b2 := Int.mul_nonneg (show 0 ≤ q.y - (P u).y by omega) gB.1
  have b3 := Int.mul_nonneg (show 0 ≤ (P d).y - q.y by omega) gD.1
  have b4 := Int.mul_nonneg (show 0 ≤ q.y - (P (d + 1)).y by omega) gC.1
  generalize hMu : ((P (u + 1)).y - q.y) * turn (P i) (P (i + 1)) (P u) + (q.y - (P u).y) * turn (P i) (P (i + 1)) (P (u + 1)) = Mu at *
  generalize hMd : ((P d).y - q.y) * turn (P i) (P (i + 1)) (P (d + 1)) + (q.y - (P (d + 1)).y) * turn (P i) (P (i + 1)) (P d) = Md at *
  have cpos : 0 < ((P d).y - (P (d + 1)).y) * turn (P u) (P (u + 1)) q + ((P (u + 1)).y - (P u).y) * turn (P d) (P (d + 1)) q := by
    have := Int.mul_pos (show 0 < (P d).y - (P (d + 1)).y by omega) tu
    have := Int.mul_pos (show 0 < (P (u + 1)).y - (P u).y by omega) td
    omega
  generalize hc : ((P d).y - (P (d + 1)).y) * turn (P u) (P (u + 1)) q + ((P (u + 1)).y - (P u).y) * turn (P d) (P (d + 1)) q = c at *
  have mu0 : 0 ≤ Mu := by omega
  have md0 : 0 ≤ Md := by omega
  by_cases hui : u = i
  · subst hui; exact tu
  by_cases hdi : d = i
  · subst hdi; exact td
  by_cases hz : Mu = 0 ∧ Md = 0
  · exfalso
    obtain ⟨z1, z2⟩ := hz
    have y1 : ((P (u + 1)).y - q.y) * turn (P i) (P (i + 1)) (P u) = 0 := by omega
    have y2 : (q.y - (P u).y) * turn (P i) (P (i + 1)) (P (u + 1)) = 0 := by omega
    have y3 : ((P d).y - q.y) * turn (P i) (P (i + 1)) (P (d + 1)) = 0 := by omega
    have y4 : (q.y - (P (d + 1)).y) * turn (P i) (P (i + 1)) (P d) = 0 := by omega
    have tA : turn (P i) (P (i + 1)) (P u) = 0 := (Int.mul_eq_zero.1 y1).resolve_left (by omega)
    have tD : turn (P i) (P (i + 1)) (P (d + 1)) = 0 := (Int.mul_eq_zero.1 y3).resolve_left (by omega)
    have cA := gA.2 tA
    have cD := gD.2 tD
    have n3 := h.n3
    -- line i leads from the lower end of the one to that of the other
    have eA : P (i + 1) = P u ∧ P (u + 1) = P (i + 2) := by
      rcases cA with e | e | ⟨e1, e2⟩
      · exact absurd e hui
      · subst e; exact ⟨rfl, by rw [show i + 1 + 1 = i + 2 by omega]⟩
      · subst e1; subst e2
        exact ⟨by rw [show n - 1 + 1 = n by omega, pn], by rw [show n - 1 + 2 = (0 + 1) + n by omega, h.per]⟩
    have eD : P i = P (d + 1) ∧ P d = P (i - 1) := by
      rcases ed' with e | ⟨e1, e2⟩
      · rcases cD with e' | e' | ⟨e1', e2'⟩
        · have : i = d + 1 := by omega
          subst this; exact ⟨rfl, by rw [show d + 1 - 1 = d by omega]⟩
        · omega
        · omega
      · rcases cD with e' | e' | ⟨e1', e2'⟩
        · have : i = 0 := by omega
          subst this; subst e1
          refine ⟨by rw [show n - 1 + 1 = n by omega, pn], ?_⟩
          have := h.per (0 - 1)
          rw [show (0 : Int) - 1 + n = n - 1 by omega] at this
          exact this
        · omega
        · omega
    have l1 := h.left i
    have l2 := h.left (i - 1)
    rw [show i - 1 + 1 = i by omega, show i - 1 + 2 = i + 1 by omega] at l2
    have l2' : turn (P i) (P (i + 1)) (P (i - 1)) = turn (P (i - 1)) (P i) (P (i + 1)) := by unfold turn; grind
    rw [eA.2] at y2
    rw [eD.2, l2'] at y4
    have hyA : q.y = (P u).y := by
      rcases Int.mul_eq_zero.1 y2 with h1 | h1 <;> omega
    have hyD : q.y = (P (d + 1)).y := by
      rcases Int.mul_eq_zero.1 y4 with h1 | h1 <;> omega
    have xA : q.x < (P u).x := by
      have e : turn (P u) (P (u + 1)) q = ((P (u + 1)).y - (P u).y) * ((P u).x - q.x) := by unfold turn; rw [hyA]; grind
      rw [e] at tu
      rcases Int.lt_or_le q.x (P u).x with h1 | h1
      · exact h1
      · have := Int.mul_nonpos_of_nonneg_of_nonpos (show 0 ≤ (P (u + 1)).y - (P u).y by omega) (show (P u).x - q.x ≤ 0 by omega); omega
    have xD : (P (d + 1)).x < q.x := by
      have e : turn (P d) (P (d + 1)) q = ((P d).y - (P (d + 1)).y) * (q.x - (P (d + 1)).x) := by unfold turn; rw [hyD]; grind
      rw [e] at td
      rcases Int.lt_or_le (P (d + 1)).x q.x with h1 | h1
      · exact h1
      · have := Int.mul_nonpos_of_nonneg_of_nonpos (show 0 ≤ (P d).y - (P (d + 1)).y by omega) (show q.x - (P (d + 1)).x ≤ 0 by omega); omega
    apply hno
    rw [eD.1, eA.1]
    refine ⟨?_, ?_, ?_⟩
    · unfold turn; rw [← hyA, ← hyD]; simp
    · have := Int.mul_neg_of_neg_of_pos (show (P (d + 1)).x - q.x < 0 by omega) (show 0 < (P u).x - q.x by omega); omega
    · rw [← hyA, ← hyD]; simp
  · have hr : 0 < Mu * turn (P d) (P (d + 1)) q + Md * turn (P u) (P (u + 1)) q := by
      have p1 := Int.mul_nonneg mu0 (show 0 ≤ turn (P d) (P (d + 1)) q by omega)
      have p2 := Int.mul_nonneg md0 (show 0 ≤ turn (P u) (P (u + 1)) q by omega)
      by_cases h1 : Mu = 0
      · have := Int.mul_pos (show 0 < Md by omega) tu; omega
      · have := Int.mul_pos (show 0 < Mu by omega) td; omega
    rw [← id] at hr
    rcases Int.lt_or_le 0 (turn (P i) (P (i + 1)) q) with h1 | h1
    · exact h1
    · have := Int.mul_nonpos_of_nonpos_of_nonneg h1 (show 0 ≤ c by omega); omega

end

end Go.AM

namespace Go.AM
set_option linter.unusedVariables false

theorem Cvx.all {a : List Pt} (hn : a ≠ []) (c : Cvx a) (i : Int) : sg (turn (pt a i) (pt a (i + 1)) (pt a (i + 2))) = sg (area a) := by
  have hl : 0 < (a.length : Int) := by have := List.length_pos_iff.2 hn; omega
  have := c (i % a.length) (Int.emod_nonneg _ (by omega)) (Int.emod_lt_of_pos _ hl)
  have e : ∀ d : Int, pt a (i % a.length + d) = pt a (i + d) := fun d => pt_congr (by rw [Int.emod_add_emod])
  rwa [e, e, pt_mod] at this

end Go.AM

namespace Go.AM
set_option linter.unusedVariables false

theorem less_pos {a b : Pt} : Less a b ↔ Pos (df a b) := by unfold Less Pos df; simp only; omega
theorem turn_df (a b c : Pt) : turn a b c = cross (df a b) (df a c) := by unfold turn cross df; rfl

theorem tp0 {u v w : Pt} (hu : Pos u) (hv : Pos v) (hw : Pos w) (h1 : 0 ≤ cross u v) (h2 : 0 ≤ cross v w) : 0 ≤ cross u w := by
  obtain ⟨e1, _⟩ := three_way u v w
  rw [cross_anti u w] at e1
  rcases Int.lt_or_le (cross u w) 0 with h | h
  · exfalso
    have ux : 0 ≤ u.x := by unfold Pos at hu; omega
    have vx : 0 ≤ v.x := by unfold Pos at hv; omega
    have wx : 0 ≤ w.x := by unfold Pos at hw; omega
    have m1 := Int.mul_nonneg h2 ux
    have m2 := Int.mul_nonneg h1 wx
    by_cases hvx : v.x = 0
    · have hvy : 0 < v.y := by unfold Pos at hv; omega
      have c2 : cross v w = -(v.y * w.x) := by unfold cross; rw [hvx]; grind
      have hwx : w.x = 0 := by
        rcases Int.lt_or_le 0 w.x with h3 | h3
        · have := Int.mul_pos hvy h3; omega
        · omega
      have hwy : 0 < w.y := by unfold Pos at hw; omega
      have c3 : cross u w = u.x * w.y := by unfold cross; rw [hwx]; grind
      have := Int.mul_nonneg ux (Int.le_of_lt hwy)
      omega
    · have := Int.mul_neg_of_neg_of_pos h (show 0 < v.x by omega)
      have e : -cross u w * v.x = -(cross u w * v.x) := by grind
      omega
  · exact h

theorem tp1 {u v w : Pt} (hu : Pos u) (hv : Pos v) (hw : Pos w) (h1 : 0 < cross u v) (h2 : 0 ≤ cross v w) : 0 < cross u w := by
  have h0 := tp0 hu hv hw (by omega) h2
  rcases Int.lt_or_le 0 (cross u w) with h | h
  · exact h
  · exfalso
    have hz : cross u w = 0 := by omega
    obtain ⟨e1, e2⟩ := three_way u v w
    rw [cross_anti u w, hz] at e1 e2
    have ux : 0 ≤ u.x := by unfold Pos at hu; omega
    have wx : 0 ≤ w.x := by unfold Pos at hw; omega
    have m1 := Int.mul_nonneg h2 ux
    have m2 := Int.mul_nonneg (Int.le_of_lt h1) wx
    have z1 : cross u v * w.x = 0 := by simp at e1; omega
    have z2 : cross v w * u.x = 0 := by simp at e1; omega
    have hwx : w.x = 0 := by
      rcases Int.mul_eq_zero.1 z1 with h | h <;> omega
    have hwy : 0 < w.y := by unfold Pos at hw; omega
    have c3 : cross u w = u.x * w.y := by unfold cross; rw [hwx]; grind
    have hux : u.x = 0 := by
      rcases Int.lt_or_le 0 u.x with h3 | h3
      · have := Int.mul_pos h3 hwy; omega
      · omega
    have huy : 0 < u.y := by unfold Pos at hu; omega
    have c4 : cross u v = -(u.y * v.x) := by unfold cross; rw [hux]; grind
    have vx : 0 ≤ v.x := by unfold Pos at hv; omega
    have := Int.mul_nonneg (Int.le_of_lt huy) vx
    omega

theorem tp2 {u v w : Pt} (hu : Pos u) (hv : Pos v) (hw : Pos w) (h1 : 0 ≤ cross u v) (h2 : 0 < cross v w) : 0 < cross u w := by
  have h0 := tp0 hu hv hw h1 (by omega)
  rcases Int.lt_or_le 0 (cross u w) with h | h
  · exact h
  · exfalso
    have hz : cross u w = 0 := by omega
    have := tp1 hw hu hv (by
      rcases Int.lt_or_le 0 (cross w u) with h | h
      · exact h
      · exfalso
        -- w is along u: then v lies along it too
        obtain ⟨e1, e2⟩ := three_way u v w
        rw [cross_anti u w, hz] at e1 e2
        have ux : 0 ≤ u.x := by unfold Pos at hu; omega
        have wx : 0 ≤ w.x := by unfold Pos at hw; omega
        have m1 := Int.mul_nonneg (Int.le_of_lt h2) ux
        have m2 := Int.mul_nonneg h1 wx
        have z2 : cross v w * u.x = 0 := by simp at e1; omega
        have hux : u.x = 0 := by rcases Int.mul_eq_zero.1 z2 with h | h <;> omega
        have huy : 0 < u.y := by unfold Pos at hu; omega
        have c3 : cross u w = -(u.y * w.x) := by unfold cross; rw [hux]; grind
        have hwx : w.x = 0 := by
          rcases Int.lt_or_le 0 w.x with h3 | h3
          · have := Int.mul_pos huy h3; omega
          · omega
        have vx : 0 ≤ v.x := by unfold Pos at hv; omega
        have hwy : 0 < w.y := by unfold Pos at hw; omega
        have c4 : cross u v = -(u.y * v.x) := by unfold cross; rw [hux]; grind
        have hvx : v.x = 0 := by
          rcases Int.lt_or_le 0 v.x with h3 | h3
          · have := Int.mul_pos huy h3; omega
          · omega
        have c5 : cross v w = 0 := by unfold cross; rw [hvx, hwx]; grind
        omega) h1
    rw [cross_anti] at this
    omega

/-- consecutive ones of a stack; the later one is told last -/
def Edges (f : Pt → Pt → Prop) : List Pt → Prop
  | b :: a :: r => f a b ∧ Edges f (a :: r)
  | _ => True
def Trips : List Pt → Prop
  | c :: b :: a :: r => 0 < turn a b c ∧ Trips (b :: a :: r)
  | _ => True

/-- a peg is laid on a stack -/
def stk : List Pt → Pt → List Pt
  | b :: a :: r, p => if turn a b p ≤ 0 then stk (a :: r) p else p :: b :: a :: r
  | s, p => p :: s

/-- what a stack says of the pegs gone along -/
structure CI (Q s : List Pt) : Prop where
  ord : Edges Less s
  cvx : Trips s
  cov : ∀ q ∈ Q, Edges (fun a b => 0 ≤ turn a b q) s
  low : ∀ q ∈ Q, ∀ x, s.getLast? = some x → q = x ∨ Less x q
  sub : ∀ x ∈ s, x ∈ Q

theorem Edges.tail {f : Pt → Pt → Prop} {b : Pt} {s : List Pt} (h : Edges f (b :: s)) : Edges f s := by
  cases s with
  | nil => trivial
  | cons a r => exact h.2
theorem Trips.tail {b : Pt} {s : List Pt} (h : Trips (b :: s)) : Trips s := by
  match s, h with
  | [], _ => trivial
  | [_], _ => trivial
  | _ :: _ :: _, h => exact h.2

theorem turn_self1 (a b : Pt) : turn a b a = 0 := by unfold turn; grind
theorem turn_self2 (a b : Pt) : turn a b b = 0 := by unfold turn; grind

/-- what is to the left of the last line is to the left of all -/
theorem ahead {p : Pt} : ∀ {r : List Pt} {a b : Pt}, Edges Less (b :: a :: r) → Trips (b :: a :: r) → Less b p → 0 < turn a b p → Edges (fun a b => 0 ≤ turn a b p) (b :: a :: r)
  | [], a, b, _, _, _, h => ⟨by omega, trivial⟩
  | z :: r, a, b, ho, ht, hl, h => by
    refine ⟨by omega, ahead ho.tail ht.tail (ho.1.trans hl) ?_⟩
    have h1 : 0 < turn z a b := ht.1
    have hza : Less z a := ho.2.1
    have hab : Less a b := ho.1
    -- u = a - z, v = b - a, w = p - a
    have e1 : turn z a b = cross (df z a) (df a b) := by unfold turn cross df; grind
    have e2 : turn z a p = cross (df z a) (df a p) := by unfold turn cross df; grind
    rw [turn_df] at h
    rw [e1] at h1
    rw [e2]
    exact tp1 (less_pos.1 hza) (less_pos.1 hab) (less_pos.1 (hab.trans hl)) h1 (by omega)

theorem stk_step {Q : List Pt} {p : Pt} (hp : ∀ q ∈ Q, Less q p) : ∀ {s : List Pt} {t : Pt}, CI Q (t :: s) → (∀ q ∈ Q, Less t q → 0 ≤ turn t p q) → CI (p :: Q) (stk (t :: s) p)
  | [], t, h, hk => by
    have ht : t ∈ Q := h.sub t (by simp)
    refine ⟨⟨hp t ht, trivial⟩, trivial, fun q hq => ?_, fun q hq x hx => ?_, fun x hx => ?_⟩
    · rcases List.mem_cons.1 hq with rfl | hq
      · exact ⟨by show 0 ≤ turn _ _ _; rw [turn_self2]; omega, trivial⟩
      · refine ⟨?_, trivial⟩
        rcases h.low q hq t rfl with rfl | h1
        · show 0 ≤ turn _ _ _; rw [turn_self1]; omega
        · exact hk q hq h1
    · simp [stk] at hx; subst hx
      rcases List.mem_cons.1 hq with rfl | hq
      · exact .inr (hp t ht)
      · exact h.low q hq t rfl
    · simp [stk] at hx; rcases hx with rfl | rfl
      · exact List.mem_cons_self
      · exact List.mem_cons_of_mem _ ht
  | a :: r, b, h, hk => by
    have hb : b ∈ Q := h.sub b (by simp)
    have ha : a ∈ Q := h.sub a (by simp)
    have hab : Less a b := h.ord.1
    by_cases hc : turn a b p ≤ 0
    · have e : stk (b :: a :: r) p = stk (a :: r) p := by rw [stk]; simp [hc]
      rw [e]
      refine stk_step hp ⟨h.ord.tail, h.cvx.tail, fun q hq => (h.cov q hq).tail, fun q hq x hx => h.low q hq x (by rw [List.getLast?_cons_cons]; exact hx), fun x hx => h.sub x (List.mem_cons_of_mem _ hx)⟩ fun q hq hl => ?_
      have h1 : 0 ≤ turn a b q := (h.cov q hq).1
      rw [turn_df] at hc h1 ⊢
      have c1 : 0 ≤ cross (df a p) (df a b) := by rw [cross_anti]; omega
      exact tp0 (less_pos.1 (hp a ha)) (less_pos.1 hab) (less_pos.1 hl) c1 h1
    · have e : stk (b :: a :: r) p = p :: b :: a :: r := by rw [stk]; simp [hc]
      rw [e]
      have hbp := hp b hb
      refine ⟨⟨hbp, h.ord⟩, ⟨by omega, h.cvx⟩, fun q hq => ?_, fun q hq x hx => ?_, fun x hx => ?_⟩
      · rcases List.mem_cons.1 hq with rfl | hq
        · exact ⟨by show 0 ≤ turn _ _ _; rw [turn_self2]; omega, ahead h.ord h.cvx hbp (by omega)⟩
        · refine ⟨?_, h.cov q hq⟩
          by_cases e1 : Less b q
          · exact hk q hq e1
          · by_cases e2 : Less q b
            · have h1 : 0 ≤ turn a b q := (h.cov q hq).1
              -- d1 = b - a, e = b - q, d2 = p - b
              have f1 : turn a b q = cross (df q b) (df a b) := by unfold turn cross df; grind
              have f2 : turn a b p = cross (df a b) (df b p) := by unfold turn cross df; grind
              have f3 : turn b p q = cross (df q b) (df b p) := by unfold turn cross df; grind
              have := tp2 (less_pos.1 e2) (less_pos.1 hab) (less_pos.1 hbp) (by omega) (show 0 < cross (df a b) (df b p) by omega)
              omega
            · have := not_less_eq e1 e2
              subst this
              show 0 ≤ turn _ _ _; rw [turn_self1]; omega
      · rcases List.mem_cons.1 hq with rfl | hq
        · have hx' : x ∈ b :: a :: r := List.mem_of_getLast? (by rw [List.getLast?_cons_cons] at hx; exact hx)
          exact .inr (hp x (h.sub x hx'))
        · exact h.low q hq x (by rw [List.getLast?_cons_cons] at hx; exact hx)
      · rcases List.mem_cons.1 hx with rfl | hx
        · exact List.mem_cons_self
        · exact List.mem_cons_of_mem _ (h.sub x hx)

/-- the stack of a list in order -/
def stack (l : List Pt) : List Pt := l.foldl stk []

def Rise : List Pt → Prop
  | a :: b :: r => Less a b ∧ Rise (b :: r)
  | _ => True

theorem stk_head (s : List Pt) (p : Pt) : ∃ r, stk s p = p :: r := by
  match s with
  | [] => exact ⟨[], rfl⟩
  | [a] => exact ⟨[a], rfl⟩
  | b :: a :: r =>
    by_cases hc : turn a b p ≤ 0
    · have e : stk (b :: a :: r) p = stk (a :: r) p := by rw [stk]; simp [hc]
      rw [e]; exact stk_head (a :: r) p
    · have e : stk (b :: a :: r) p = p :: b :: a :: r := by rw [stk]; simp [hc]
      exact ⟨_, e⟩
termination_by s.length

theorem fold_ci : ∀ {l Q : List Pt} {t : Pt} {s : List Pt}, CI Q (t :: s) → (∀ q ∈ Q, q = t ∨ Less q t) → Rise (t :: l) → CI (l.reverse ++ Q) (l.foldl stk (t :: s))
  | [], Q, t, s, h, _, _ => by simpa using h
  | p :: l, Q, t, s, h, ht, hr => by
    have hp : ∀ q ∈ Q, Less q p := fun q hq => by
      rcases ht q hq with rfl | h1
      · exact hr.1
      · exact h1.trans hr.1
    have h1 := stk_step hp h fun q hq hl => by
      rcases ht q hq with rfl | h2
      · exact absurd hl (Less.irrefl _)
      · exact absurd (h2.trans hl) (Less.irrefl _)
    obtain ⟨r, hr1⟩ := stk_head (t :: s) p
    rw [List.foldl_cons, hr1]
    rw [hr1] at h1
    have := fold_ci h1 (fun q hq => by
      rcases List.mem_cons.1 hq with rfl | hq
      · exact .inl rfl
      · exact .inr (hp q hq)) hr.2
    simpa using this

theorem stack_ci {l : List Pt} (hl : l ≠ []) (hr : Rise l) : CI l.reverse (stack l) := by
  match l, hl with
  | a :: l, _ =>
    have h0 : CI [a] [a] := ⟨trivial, trivial, fun _ _ => trivial, fun q hq x hx => by simp at hx hq; subst hx; subst hq; exact .inl rfl, fun x hx => hx⟩
    have := fold_ci (l := l) h0 (fun q hq => by simp at hq; exact .inl hq) hr
    simpa [stack, stk] using this

theorem fold_head : ∀ (l : List Pt) (t : Pt) (s : List Pt), ∃ r, l.foldl stk (t :: s) = ((t :: l).getLast (by simp)) :: r
  | [], t, s => ⟨s, rfl⟩
  | p :: l, t, s => by
    obtain ⟨r, hr⟩ := stk_head (t :: s) p
    rw [List.foldl_cons, hr]
    obtain ⟨r', h'⟩ := fold_head l p r
    exact ⟨r', by rw [h']; simp⟩

theorem stk_last (p : Pt) : ∀ (s : List Pt) (t : Pt), (stk (t :: s) p).getLast? = (t :: s).getLast?
  | [], t => rfl
  | a :: r, b => by
    by_cases hc : turn a b p ≤ 0
    · have e : stk (b :: a :: r) p = stk (a :: r) p := by rw [stk]; simp [hc]
      rw [e, stk_last p r a, List.getLast?_cons_cons]
    · have e : stk (b :: a :: r) p = p :: b :: a :: r := by rw [stk]; simp [hc]
      rw [e, List.getLast?_cons_cons]

theorem fold_last : ∀ (l : List Pt) (t : Pt) (s : List Pt), (l.foldl stk (t :: s)).getLast? = (t :: s).getLast?
  | [], t, s => rfl
  | p :: l, t, s => by
    obtain ⟨r, hr⟩ := stk_head (t :: s) p
    have h1 := stk_last p s t
    rw [List.foldl_cons, hr, fold_last l p r, ← hr, h1]

theorem stk_two {p : Pt} : ∀ (s : List Pt) (t : Pt), 2 ≤ (stk (t :: s) p).length
  | [], t => by simp [stk]
  | a :: r, b => by
    by_cases hc : turn a b p ≤ 0
    · have e : stk (b :: a :: r) p = stk (a :: r) p := by rw [stk]; simp [hc]
      rw [e]; exact stk_two r a
    · have e : stk (b :: a :: r) p = p :: b :: a :: r := by rw [stk]; simp [hc]
      rw [e]; simp

theorem fold_two : ∀ (l : List Pt) (t : Pt) (s : List Pt), l ≠ [] → 2 ≤ (l.foldl stk (t :: s)).length
  | [p], t, s, _ => stk_two s t
  | p :: q :: l, t, s, _ => by
    obtain ⟨r, hr⟩ := stk_head (t :: s) p
    rw [List.foldl_cons, hr]
    exact fold_two (q :: l) p r (by simp)
end Go.AM

namespace Go.AM
set_option linter.unusedVariables false

/-- in order: no later one comes before an earlier one -/
def Ord (l : List Pt) : Prop := l.Pairwise fun a b => ¬ Less b a

theorem ord_one {l l' : List Pt} (h : Ord l) (h' : Ord l') (hp : l.Perm l') : l = l' :=
  hp.eq_of_pairwise (fun _ _ _ _ h1 h2 => not_less_eq h2 h1) h h'

def insP (p : Pt) : List Pt → List Pt
  | [] => [p]
  | a :: l => if Less a p then a :: insP p l else p :: a :: l

/-- in order, by insertion -/
def isort (l : List Pt) : List Pt := l.foldl (fun out p => insP p out) []

theorem insP_perm (p : Pt) : ∀ l : List Pt, (insP p l).Perm (p :: l)
  | [] => .refl _
  | a :: l => by
    unfold insP
    split
    · exact ((insP_perm p l).cons a).trans (List.Perm.swap p a l)
    · exact .refl _

theorem insP_ord {p : Pt} : ∀ {l : List Pt}, Ord l → Ord (insP p l)
  | [], _ => by simp [Ord, insP]
  | a :: l, h => by
    unfold Ord at h ⊢
    rw [List.pairwise_cons] at h
    unfold insP
    split
    · rename_i hl
      rw [List.pairwise_cons]
      refine ⟨fun x hx => ?_, insP_ord h.2⟩
      rcases List.mem_cons.1 ((insP_perm p l).mem_iff.1 hx) with rfl | hx
      · unfold Less at *; omega
      · exact h.1 x hx
    · rename_i hl
      rw [List.pairwise_cons, List.pairwise_cons]
      refine ⟨fun x hx => ?_, h⟩
      rcases List.mem_cons.1 hx with rfl | hx
      · exact hl
      · have := h.1 x hx
        unfold Less at *; omega

theorem isort_go : ∀ (l out : List Pt), Ord out → Ord (l.foldl (fun out p => insP p out) out) ∧ (l.foldl (fun out p => insP p out) out).Perm (l ++ out)
  | [], out, h => ⟨h, .refl _⟩
  | p :: l, out, h => by
    obtain ⟨h1, h2⟩ := isort_go l (insP p out) (insP_ord h)
    refine ⟨h1, h2.trans ?_⟩
    exact ((insP_perm p out).append_left l).trans List.perm_middle

theorem isort_ord (l : List Pt) : Ord (isort l) := (isort_go l [] .nil).1
theorem isort_perm (l : List Pt) : (isort l).Perm l := by have := (isort_go l [] .nil).2; rw [List.append_nil] at this; exact this
theorem isort_len (l : List Pt) : (isort l).length = l.length := (isort_perm l).length_eq
theorem isort_mem {l : List Pt} {p : Pt} : p ∈ isort l ↔ p ∈ l := (isort_perm l).mem_iff

theorem isort_nodup {l : List Pt} (h : l.Nodup) : (isort l).Nodup := (isort_perm l).nodup_iff.2 h

/-- different ones in order rise -/
theorem rise_of : ∀ {l : List Pt}, Ord l → l.Nodup → Rise l
  | [], _, _ => trivial
  | [a], _, _ => trivial
  | a :: b :: l, h, hn => by
    unfold Ord at h
    rw [List.pairwise_cons] at h
    rw [List.nodup_cons] at hn
    refine ⟨?_, rise_of (l := b :: l) h.2 hn.2⟩
    by_cases hl : Less a b
    · exact hl
    · have := not_less_eq hl (h.1 b List.mem_cons_self)
      exact absurd (this ▸ List.mem_cons_self) hn.1

theorem rise_ord : ∀ {l : List Pt}, Rise l → l.Pairwise Less
  | [], _ => .nil
  | [a], _ => by simp
  | a :: b :: l, h => by
    have ih := rise_ord (l := b :: l) h.2
    rw [List.pairwise_cons]
    refine ⟨fun x hx => ?_, ih⟩
    rcases List.mem_cons.1 hx with rfl | hx
    · exact h.1
    · rw [List.pairwise_cons] at ih
      exact h.1.trans (ih.1 x hx)

/-- a list without some of its ones is in order as before -/
theorem ord_filter {l : List Pt} (f : Pt → Bool) (h : Ord l) : Ord (l.filter f) := List.Pairwise.filter f h

theorem isort_filter (l : List Pt) (f : Pt → Bool) : (isort l).filter f = isort (l.filter f) :=
  ord_one (ord_filter f (isort_ord l)) (isort_ord _) (((isort_perm l).filter f).trans (isort_perm _).symm)

end Go.AM

namespace Go.AM
set_option linter.unusedVariables false

def sideL (l : List Pt) : List Pt := (stack l).reverse
def bandL (l : List Pt) : List Pt := if l.length = 1 then l else (sideL l).dropLast ++ (sideL l.reverse).dropLast

theorem edges_get {f : Pt → Pt → Prop} : ∀ {s : List Pt}, Edges f s → ∀ (i : Nat) (a b : Pt), s[i]? = some b → s[i + 1]? = some a → f a b
  | [], _, i, a, b, h, _ => by simp at h
  | [x], _, i, a, b, _, h => by simp at h
  | x :: y :: s, h, 0, a, b, h1, h2 => by simp at h1 h2; subst h1; subst h2; exact h.1
  | x :: y :: s, h, i + 1, a, b, h1, h2 => by
    simp only [List.getElem?_cons_succ] at h1 h2
    exact edges_get (s := y :: s) h.2 i a b h1 h2

theorem trips_get : ∀ {s : List Pt}, Trips s → ∀ (i : Nat) (a b c : Pt), s[i]? = some c → s[i + 1]? = some b → s[i + 2]? = some a → 0 < turn a b c
  | [], _, i, a, b, c, h, _, _ => by simp at h
  | [x], _, i, a, b, c, _, h, _ => by simp at h
  | [x, y], _, i, a, b, c, _, _, h => by simp at h
  | x :: y :: z :: s, h, 0, a, b, c, h1, h2, h3 => by simp at h1 h2 h3; subst h1; subst h2; subst h3; exact h.1
  | x :: y :: z :: s, h, i + 1, a, b, c, h1, h2, h3 => by
    simp only [List.getElem?_cons_succ] at h1 h2 h3
    exact trips_get (s := y :: z :: s) h.2 i a b c h1 h2 h3

theorem edges_rev {f : Pt → Pt → Prop} {s : List Pt} (h : Edges f s) {i : Nat} {a b : Pt} (ha : s.reverse[i]? = some a) (hb : s.reverse[i + 1]? = some b) : f a b := by
  have hl : i + 1 < s.length := by
    have := (List.getElem?_eq_some_iff.1 hb).1
    simpa using this
  rw [List.getElem?_reverse (by omega)] at ha hb
  exact edges_get h (s.length - 1 - (i + 1)) a b hb (by rw [show s.length - 1 - (i + 1) + 1 = s.length - 1 - i by omega]; exact ha)

theorem trips_rev {s : List Pt} (h : Trips s) {i : Nat} {a b c : Pt} (ha : s.reverse[i]? = some a) (hb : s.reverse[i + 1]? = some b) (hc : s.reverse[i + 2]? = some c) : 0 < turn a b c := by
  have hl : i + 2 < s.length := by
    have := (List.getElem?_eq_some_iff.1 hc).1
    simpa using this
  rw [List.getElem?_reverse (by omega)] at ha hb hc
  exact trips_get h (s.length - 1 - (i + 2)) a b c hc (by rw [show s.length - 1 - (i + 2) + 1 = s.length - 1 - (i + 1) by omega]; exact hb) (by rw [show s.length - 1 - (i + 2) + 2 = s.length - 1 - i by omega]; exact ha)

theorem stk_ngt (p : Pt) : ∀ s : List Pt, stk (s.map ngt) (ngt p) = (stk s p).map ngt
  | [] => rfl
  | [a] => rfl
  | b :: a :: r => by
    have ih := stk_ngt p (a :: r)
    simp only [List.map_cons] at ih ⊢
    rw [stk, stk, turn_ngt]
    split
    · exact ih
    · simp
theorem fold_ngt : ∀ (l s : List Pt), (l.map ngt).foldl stk (s.map ngt) = (l.foldl stk s).map ngt
  | [], s => rfl
  | p :: l, s => by simp only [List.map_cons, List.foldl_cons]; rw [stk_ngt, fold_ngt]
theorem stack_ngt (l : List Pt) : stack (l.map ngt) = (stack l).map ngt := fold_ngt l []

theorem ngt_ngt (p : Pt) : ngt (ngt p) = p := by unfold ngt; simp
theorem less_ngt {a b : Pt} : Less (ngt a) (ngt b) ↔ Less b a := by unfold Less ngt; simp only; omega

theorem rise_rev : ∀ {l : List Pt}, Rise l → Rise (l.reverse.map ngt) := by
  intro l h
  have h1 := rise_ord h
  have h2 : (l.reverse.map ngt).Pairwise Less := by
    rw [List.pairwise_map, List.pairwise_reverse]
    exact h1.imp fun h => less_ngt.2 h
  have : ∀ {m : List Pt}, m.Pairwise Less → Rise m := by
    intro m
    induction m with
    | nil => intro _; trivial
    | cons a m ih =>
      intro hp
      rw [List.pairwise_cons] at hp
      cases m with
      | nil => trivial
      | cons b m => exact ⟨hp.1 b List.mem_cons_self, ih hp.2⟩
  exact this h2

/-- one side of a band, told from its first corner -/
structure Side (o : Pt → Pt → Prop) (Q A : List Pt) : Prop where
  ord : ∀ (i : Nat) a b, A[i]? = some a → A[i + 1]? = some b → o a b
  cov : ∀ (i : Nat) a b, A[i]? = some a → A[i + 1]? = some b → ∀ q ∈ Q, 0 ≤ turn a b q
  cvx : ∀ (i : Nat) a b c, A[i]? = some a → A[i + 1]? = some b → A[i + 2]? = some c → 0 < turn a b c
  sub : ∀ x ∈ A, x ∈ Q

theorem side_up {l : List Pt} (hl : l ≠ []) (hr : Rise l) : Side Less l (sideL l) := by
  have h := stack_ci hl hr
  refine ⟨fun i a b ha hb => edges_rev h.ord ha hb, fun i a b ha hb q hq => ?_, fun i a b c ha hb hc => trips_rev h.cvx ha hb hc, fun x hx => ?_⟩
  · exact edges_rev (f := fun a b => 0 ≤ turn a b q) (h.cov q (by simpa using hq)) ha hb
  · have := h.sub x (by simpa [sideL] using hx)
    simpa using this

theorem side_down {l : List Pt} (hl : l ≠ []) (hr : Rise l) : Side (fun a b => Less b a) l (sideL l.reverse) := by
  have h := side_up (l := l.reverse.map ngt) (by simpa using hl) (rise_rev hr)
  have e : sideL (l.reverse.map ngt) = (sideL l.reverse).map ngt := by unfold sideL; rw [stack_ngt, List.map_reverse]
  rw [e] at h
  have g : ∀ {i : Nat} {a : Pt}, (sideL l.reverse)[i]? = some a → ((sideL l.reverse).map ngt)[i]? = some (ngt a) := fun h => by rw [List.getElem?_map, h]; rfl
  refine ⟨fun i a b ha hb => less_ngt.1 (h.ord i _ _ (g ha) (g hb)), fun i a b ha hb q hq => ?_, fun i a b c ha hb hc => ?_, fun x hx => ?_⟩
  · have := h.cov i _ _ (g ha) (g hb) (ngt q) (List.mem_map.2 ⟨q, by simpa using hq, rfl⟩)
    rwa [turn_ngt] at this
  · have := h.cvx i _ _ _ (g ha) (g hb) (g hc)
    rwa [turn_ngt] at this
  · obtain ⟨y, hy, e⟩ := List.mem_map.1 (h.sub (ngt x) (List.mem_map.2 ⟨x, hx, rfl⟩))
    have : y = x := by rw [← ngt_ngt y, e, ngt_ngt]
    subst this
    simpa using hy

theorem side_ends {l : List Pt} (hl : 2 ≤ l.length) : 2 ≤ (sideL l).length ∧ (sideL l)[0]? = l[0]? ∧ (sideL l).getLast? = l.getLast? := by
  match l, hl with
  | a :: b :: l, _ =>
    have e : stack (a :: b :: l) = (b :: l).foldl stk [a] := rfl
    refine ⟨?_, ?_, ?_⟩
    · unfold sideL; rw [List.length_reverse, e]; exact fold_two (b :: l) a [] (by simp)
    · have h1 := fold_last (b :: l) a []
      unfold sideL
      rw [← List.head?_eq_getElem?, List.head?_reverse, e, h1]
      rfl
    · obtain ⟨r, h1⟩ := fold_head (b :: l) a []
      unfold sideL
      rw [List.getLast?_reverse, e, h1]
      simp [List.getLast?_eq_getLast]
end Go.AM

namespace Go.AM
set_option linter.unusedVariables false

/-- two ways ahead along one line see the same side -/
theorem par0 {d1 d2 e : Pt} (h1 : Pos d1) (h2 : Pos d2) (hz : cross d1 d2 = 0) (h : 0 ≤ cross d1 e) : 0 ≤ cross d2 e := by
  obtain ⟨e1, e2⟩ := three_way d1 d2 e
  rw [hz, cross_anti d1 e] at e1 e2
  have x1 : cross d2 e * d1.x = cross d1 e * d2.x := by grind
  have x2 : cross d2 e * d1.y = cross d1 e * d2.y := by grind
  rcases Int.lt_or_le (cross d2 e) 0 with hc | hc
  · exfalso
    have a1 : 0 ≤ d1.x := by unfold Pos at h1; omega
    have a2 : 0 ≤ d2.x := by unfold Pos at h2; omega
    have m2 := Int.mul_nonneg h a2
    have hx1 : d1.x = 0 := by
      rcases Int.lt_or_le 0 d1.x with h3 | h3
      · have := Int.mul_neg_of_neg_of_pos hc h3; omega
      · omega
    have y1 : 0 < d1.y := by unfold Pos at h1; omega
    have c : cross d1 d2 = -(d1.y * d2.x) := by unfold cross; rw [hx1]; grind
    have hx2 : d2.x = 0 := by
      rcases Int.lt_or_le 0 d2.x with h3 | h3
      · have := Int.mul_pos y1 h3; omega
      · omega
    have y2 : 0 < d2.y := by unfold Pos at h2; omega
    have m3 := Int.mul_neg_of_neg_of_pos hc y1
    have m4 := Int.mul_nonneg h (Int.le_of_lt y2)
    omega
  · exact hc

theorem col0 {d x z : Pt} (h : Pos d) (h1 : cross d x = 0) (h2 : cross d z = 0) : cross x z = 0 := by
  obtain ⟨e1, e2⟩ := three_way d x z
  rw [h1, cross_anti d z, h2] at e1 e2
  have e1' : cross x z * d.x = 0 := by omega
  have e2' : cross x z * d.y = 0 := by omega
  unfold Pos at h
  rcases Int.mul_eq_zero.1 e1' with e1 | e1
  · exact e1
  · rcases Int.mul_eq_zero.1 e2' with e2 | e2
    · exact e2
    · omega

theorem cross_neg2 (u v : Pt) : cross u (ngt v) = - cross u v := by unfold cross ngt; grind

/-- a corner that turns to the left lies between no two of the pegs to the left of both its lines -/
theorem mid_corner {X M Z U V : Pt} (hU : Less U M) (hV : Less M V) (hz : turn U M V = 0) (hc : 0 < turn X M Z) (u1 : 0 ≤ turn X M U) (v1 : 0 ≤ turn X M V) (u2 : 0 ≤ turn M Z U) (v2 : 0 ≤ turn M Z V) : False := by
  have p1 := less_pos.1 hU
  have p2 := less_pos.1 hV
  have e0 : cross (df U M) (df M V) = 0 := by rw [← hz]; unfold turn cross df; grind
  have e0' : cross (df M V) (df U M) = 0 := by rw [cross_anti, e0]; rfl
  have f1 : turn X M U = - cross (df X M) (df U M) := by unfold turn cross df; grind
  have f2 : turn X M V = cross (df X M) (df M V) := by unfold turn cross df; grind
  have f3 : turn M Z U = - cross (df M Z) (df U M) := by unfold turn cross df; grind
  have f4 : turn M Z V = cross (df M Z) (df M V) := by unfold turn cross df; grind
  have f5 : turn X M Z = cross (df X M) (df M Z) := by unfold turn cross df; grind
  -- both zero
  have g : ∀ x : Pt, 0 ≤ cross x (df M V) → cross x (df U M) ≤ 0 → cross (df M V) x = 0 := fun x h1 h2 => by
    have a : 0 ≤ cross (df U M) x := by rw [cross_anti]; omega
    have b := par0 p1 p2 e0 a
    rw [cross_anti] at h1
    omega
  have z1 := g (df X M) (by omega) (by omega)
  have z2 := g (df M Z) (by omega) (by omega)
  have := col0 p2 z1 z2
  omega

structure Hull (n : Int) (P : Int → Pt) (Q : List Pt) : Prop where
  n3 : 3 ≤ n
  per : ∀ i, P (i + n) = P i
  left : ∀ i, 0 < turn (P i) (P (i + 1)) (P (i + 2))
  cov : ∀ i, ∀ q ∈ Q, 0 ≤ turn (P i) (P (i + 1)) q
  sub : ∀ i, P i ∈ Q
  inj : ∀ i j, 0 ≤ i → i < j → j < n → P i ≠ P j

section
variable {n : Int} {P : Int → Pt} {Q : List Pt}

theorem Hull.between (h : Hull n P Q) {t : Int} {U V : Pt} (hU : U ∈ Q) (hV : V ∈ Q) (h1 : Less U (P t)) (h2 : Less (P t) V) (hz : turn U (P t) V = 0) : False := by
  have l := h.left (t - 1)
  have c1 := h.cov (t - 1)
  have c2 := h.cov t
  rw [show t - 1 + 1 = t by omega, show t - 1 + 2 = t + 1 by omega] at l
  rw [show t - 1 + 1 = t by omega] at c1
  exact mid_corner h1 h2 hz l (c1 U hU) (c1 V hV) (c2 U hU) (c2 V hV)

theorem turn_p1 (a b c : Pt) : turn b c a = turn a b c := by unfold turn; grind
theorem turn_p2 (a b c : Pt) : turn b a c = - turn a b c := by unfold turn; grind
theorem turn_p3 (a b c : Pt) : turn a c b = - turn a b c := by unfold turn; grind

/-- of three different ones on a line one is between the others -/
theorem Hull.strict (h : Hull n P Q) {i j : Int} (h1 : P j ≠ P i) (h2 : P j ≠ P (i + 1)) : 0 < turn (P i) (P (i + 1)) (P j) := by
  have h0 := h.cov i (P j) (h.sub j)
  rcases Int.lt_or_le 0 (turn (P i) (P (i + 1)) (P j)) with hp | hp
  · exact hp
  · exfalso
    have hz : turn (P i) (P (i + 1)) (P j) = 0 := by omega
    have hne : P i ≠ P (i + 1) := fun e => by
      have := h.left i
      rw [← e] at this
      unfold turn at this
      simp at this
    have tri : ∀ {a b : Pt}, a ≠ b → Less a b ∨ Less b a := fun {a b} hab => by
      by_cases l1 : Less a b
      · exact .inl l1
      · by_cases l2 : Less b a
        · exact .inr l2
        · exact absurd (not_less_eq l1 l2) hab
    have A := h.sub i
    have B := h.sub (i + 1)
    have C := h.sub j
    have z2 := turn_p1 (P i) (P (i + 1)) (P j)
    have z3 := turn_p2 (P i) (P (i + 1)) (P j)
    have z4 := turn_p3 (P i) (P (i + 1)) (P j)
    have z5 := turn_p1 (P (i + 1)) (P j) (P i)
    have z6 := turn_p2 (P j) (P (i + 1)) (P i)
    have z7 := turn_p1 (P i) (P j) (P (i + 1))
    have z8 := turn_p2 (P j) (P i) (P (i + 1))
    have z9 := turn_p2 (P (i + 1)) (P j) (P i)
    rcases tri hne with ab | ba <;> rcases tri h1 with ca | ac <;> rcases tri h2 with cb | bc
    · exact h.between C B ca ab (by omega)
    · exact absurd ((bc.trans ca).trans ab) (Less.irrefl _)
    · exact h.between A B ac cb (by omega)
    · exact h.between A C ab bc (by omega)
    · exact h.between C A cb ba (by omega)
    · exact h.between B A bc ca (by omega)
    · exact absurd ((ac.trans cb).trans ba) (Less.irrefl _)
    · exact h.between B C ba ac (by omega)

theorem Hull.mod (h : Hull n P Q) (i : Int) : P (i % n) = P i := by
  have up : ∀ (k : Nat) (x : Int), P (x + k * n) = P x := by
    intro k
    induction k with
    | zero => intro x; simp
    | succ k ih => intro x; rw [show x + ((k + 1 : Nat) : Int) * n = (x + k * n) + n by rw [Int.natCast_add, Int.add_mul]; simp; omega, h.per, ih]
  have n3 := h.n3
  rcases Int.le_total 0 (i / n) with hq | hq
  · have := up (i / n).toNat (i % n)
    rw [Int.toNat_of_nonneg hq, Int.mul_comm, Int.emod_add_mul_ediv] at this
    exact this.symm
  · have := up (-(i / n)).toNat i
    rw [Int.toNat_of_nonneg (by omega), Int.neg_mul, Int.mul_comm] at this
    rw [← this]; congr 1
    have := Int.emod_add_mul_ediv i n
    omega

theorem Hull.ne (h : Hull n P Q) {i j : Int} (h1 : i < j) (h2 : j < i + n) : P i ≠ P j := fun e => by
  have n3 := h.n3
  have a := Int.emod_nonneg i (b := n) (by omega)
  have b := Int.emod_lt_of_pos i (b := n) (by omega)
  have c := Int.emod_nonneg j (b := n) (by omega)
  have d := Int.emod_lt_of_pos j (b := n) (by omega)
  have ne : i % n ≠ j % n := fun e1 => by
    have := Int.emod_emod_of_dvd (j - i) (Int.dvd_refl n)
    have h3 : (j - i) % n = 0 := by rw [Int.sub_emod, e1]; simp
    have h4 : (j - i) % n = j - i := Int.emod_eq_of_lt (by omega) (by omega)
    omega
  rw [← h.mod i, ← h.mod j] at e
  rcases Int.lt_or_le (i % n) (j % n) with h3 | h3
  · exact h.inj _ _ a h3 d e
  · exact h.inj _ _ c (by omega) b e.symm

theorem Hull.conv (h : Hull n P Q) {i j : Int} (h1 : i + 2 ≤ j) (h2 : j ≤ i + n - 1) : 0 < turn (P i) (P (i + 1)) (P j) :=
  h.strict (fun e => h.ne (i := i) (j := j) (by omega) (by omega) e.symm) (fun e => h.ne (i := i + 1) (j := j) (by omega) (by omega) e.symm)
end
end Go.AM

namespace Go.AM
set_option linter.unusedVariables false

section
variable {l A B : List Pt} {k m : Nat}

/-- the two sides told as one -/
theorem band_get (hA : A.length = k + 1) (hB : B.length = m + 1) (hm : 0 < m) (hk : 0 < k) (e1 : A.getLast? = B[0]?) (e2 : B.getLast? = A[0]?) :
    (A.dropLast ++ B.dropLast).length = k + m ∧ (∀ i : Nat, i ≤ k → A[i]? = some (pt (A.dropLast ++ B.dropLast) i)) ∧ (∀ j : Nat, j ≤ m → B[j]? = some (pt (A.dropLast ++ B.dropLast) ((k + j : Nat) : Int))) := by
  have hl : (A.dropLast ++ B.dropLast).length = k + m := by simp; omega
  have g : ∀ i : Nat, i < k + m → (A.dropLast ++ B.dropLast)[i]? = some (pt (A.dropLast ++ B.dropLast) i) := fun i hi => by
    unfold pt
    rw [hl, Int.emod_eq_of_lt (by omega) (by omega), Int.toNat_natCast, List.getD_eq_getElem?_getD, List.getElem?_eq_getElem (by omega)]
    simp
  have gA : ∀ i : Nat, i < k → A[i]? = some (pt (A.dropLast ++ B.dropLast) i) := fun i hi => by
    rw [← g i (by omega), List.getElem?_append_left (by simp; omega), List.getElem?_dropLast, if_pos (by omega)]
  have gB : ∀ j : Nat, j < m → B[j]? = some (pt (A.dropLast ++ B.dropLast) ((k + j : Nat) : Int)) := fun j hj => by
    rw [← g (k + j) (by omega), List.getElem?_append_right (by simp; omega), List.getElem?_dropLast, List.length_dropLast, hA, show k + j - (k + 1 - 1) = j by omega, if_pos (by omega)]
  refine ⟨hl, fun i hi => ?_, fun j hj => ?_⟩
  · rcases Nat.lt_or_ge i k with h | h
    · exact gA i h
    · obtain rfl : i = k := by omega
      rw [List.getLast?_eq_getElem?, hA, show i + 1 - 1 = i by omega] at e1
      rw [e1, gB 0 hm, Nat.add_zero]
  · rcases Nat.lt_or_ge j m with h | h
    · exact gB j h
    · obtain rfl : j = m := by omega
      rw [List.getLast?_eq_getElem?, hB, show j + 1 - 1 = j by omega] at e2
      rw [e2, gA 0 hk]
      congr 1
      unfold pt
      rw [hl]
      congr 2
      simp

theorem turn_three (Z a b c : Pt) : turn a b c = cross (df Z b) (df Z c) - cross (df Z b) (df Z a) - cross (df Z a) (df Z c) := by unfold turn cross df; grind
/-- all on one line through Z -/
theorem all_col {Q : List Pt} {Z d : Pt} (hd : Pos d) (h : ∀ q ∈ Q, cross d (df Z q) = 0) {a b c : Pt} (ha : a ∈ Q) (hb : b ∈ Q) (hc : c ∈ Q) : turn a b c = 0 := by
  rw [turn_three Z, col0 hd (h b hb) (h c hc), col0 hd (h b hb) (h a ha), col0 hd (h a ha) (h c hc)]
  rfl

structure Sides (l A B : List Pt) (k m : Nat) : Prop where
  up : Side Less l A
  dn : Side (fun a b => Less b a) l B
  lA : A.length = k + 1
  lB : B.length = m + 1
  k0 : 0 < k
  m0 : 0 < m
  e1 : A.getLast? = B[0]?
  e2 : B.getLast? = A[0]?

theorem sides_of_rise {l : List Pt} (hl : 2 ≤ l.length) (hr : Rise l) : ∃ k m, Sides l (sideL l) (sideL l.reverse) k m := by
  have hn : l ≠ [] := by intro h; subst h; simp at hl
  obtain ⟨a1, a2, a3⟩ := side_ends hl
  obtain ⟨b1, b2, b3⟩ := side_ends (l := l.reverse) (by simpa using hl)
  refine ⟨(sideL l).length - 1, (sideL l.reverse).length - 1, side_up hn hr, side_down hn hr, by omega, by omega, by omega, by omega, ?_, ?_⟩
  · rw [a3, b2, ← List.head?_eq_getElem?, List.head?_reverse]
  · rw [b3, a2, ← List.head?_eq_getElem?, List.getLast?_reverse]

namespace Sides
variable (h : Sides l A B k m)
include h

def bd (_ : Sides l A B k m) : List Pt := A.dropLast ++ B.dropLast
omit h in
theorem len (h : Sides l A B k m) : (A.dropLast ++ B.dropLast).length = k + m := (band_get h.lA h.lB h.m0 h.k0 h.e1 h.e2).1
theorem gA (i : Nat) (hi : i ≤ k) : A[i]? = some (pt (A.dropLast ++ B.dropLast) i) := (band_get h.lA h.lB h.m0 h.k0 h.e1 h.e2).2.1 i hi
theorem gB (j : Nat) (hj : j ≤ m) : B[j]? = some (pt (A.dropLast ++ B.dropLast) ((k + j : Nat) : Int)) := (band_get h.lA h.lB h.m0 h.k0 h.e1 h.e2).2.2 j hj

theorem ptmod (i : Int) : pt (A.dropLast ++ B.dropLast) (i % ((k + m : Nat) : Int)) = pt (A.dropLast ++ B.dropLast) i := by
  unfold pt; rw [h.len, Int.emod_emod_of_dvd _ (Int.dvd_refl _)]

/-- each line is one of a side's -/
theorem edge (i : Nat) (hi : i < k + m) : (i < k ∧ A[i]? = some (pt (A.dropLast ++ B.dropLast) i) ∧ A[i + 1]? = some (pt (A.dropLast ++ B.dropLast) ((i + 1 : Nat) : Int))) ∨
    (k ≤ i ∧ B[i - k]? = some (pt (A.dropLast ++ B.dropLast) i) ∧ B[i - k + 1]? = some (pt (A.dropLast ++ B.dropLast) ((i + 1 : Nat) : Int))) := by
  rcases Nat.lt_or_ge i k with h1 | h1
  · exact .inl ⟨h1, h.gA i (by omega), h.gA (i + 1) (by omega)⟩
  · refine .inr ⟨h1, ?_, ?_⟩
    · have := h.gB (i - k) (by omega); rwa [show k + (i - k) = i by omega] at this
    · have := h.gB (i - k + 1) (by omega); rwa [show k + (i - k + 1) = i + 1 by omega] at this

theorem nat_of (f : Int → Prop) (hf : ∀ i : Nat, i < k + m → f i) (hp : ∀ i : Int, f (i % ((k + m : Nat) : Int)) → f i) (i : Int) : f i := by
  have hk := h.k0
  have a := Int.emod_nonneg i (b := ((k + m : Nat) : Int)) (by omega)
  have b := Int.emod_lt_of_pos i (b := ((k + m : Nat) : Int)) (by omega)
  have := hf (i % ((k + m : Nat) : Int)).toNat (by omega)
  rw [Int.toNat_of_nonneg a] at this
  exact hp i this

theorem ptmod1 (i c : Int) : pt (A.dropLast ++ B.dropLast) (i % ((k + m : Nat) : Int) + c) = pt (A.dropLast ++ B.dropLast) (i + c) := by
  rw [← h.ptmod, ← h.ptmod (i + c), Int.add_emod (i % _) c, Int.emod_emod_of_dvd _ (Int.dvd_refl _), ← Int.add_emod]

theorem cov (i : Int) : ∀ q ∈ l, 0 ≤ turn (pt (A.dropLast ++ B.dropLast) i) (pt (A.dropLast ++ B.dropLast) (i + 1)) q := by
  refine h.nat_of (fun i => ∀ q ∈ l, 0 ≤ turn (pt (A.dropLast ++ B.dropLast) i) (pt (A.dropLast ++ B.dropLast) (i + 1)) q) (fun i hi q hq => ?_) (fun i hi => ?_) i
  · rcases h.edge i hi with ⟨_, h2, h3⟩ | ⟨_, h2, h3⟩
    · exact h.up.cov _ _ _ h2 h3 q hq
    · exact h.dn.cov _ _ _ h2 h3 q hq
  · rw [h.ptmod1 i 1, h.ptmod] at hi; exact hi

theorem sub (i : Int) : pt (A.dropLast ++ B.dropLast) i ∈ l := by
  refine h.nat_of (fun i => pt (A.dropLast ++ B.dropLast) i ∈ l) (fun i hi => ?_) (fun i hi => by rwa [h.ptmod] at hi) i
  rcases h.edge i hi with ⟨_, h2, _⟩ | ⟨_, h2, _⟩
  · exact h.up.sub _ (List.mem_of_getElem? h2)
  · exact h.dn.sub _ (List.mem_of_getElem? h2)

/-- the pegs do not all lie on one line if there are three corners -/
theorem not_col (h3 : 3 ≤ k + m) {Z d : Pt} (hd : Pos d) (hc : ∀ q ∈ l, cross d (df Z q) = 0) : False := by
  rcases Nat.lt_or_ge k 2 with hk | hk
  · have hm : 2 ≤ m := by omega
    have c := h.dn.cvx 0 _ _ _ (h.gB 0 (by omega)) (h.gB 1 (by omega)) (h.gB 2 (by omega))
    rw [all_col hd hc (h.sub _) (h.sub _) (h.sub _)] at c
    omega
  · have c := h.up.cvx 0 _ _ _ (h.gA 0 (by omega)) (h.gA 1 (by omega)) (h.gA 2 (by omega))
    rw [all_col hd hc (h.sub _) (h.sub _) (h.sub _)] at c
    omega

theorem joint {U Z V : Pt} (h3 : 3 ≤ k + m) (c1 : ∀ q ∈ l, 0 ≤ turn U Z q) (c2 : ∀ q ∈ l, 0 ≤ turn Z V q) (hV : V ∈ l) (o : (Less U Z ∧ Less V Z) ∨ (Less Z U ∧ Less Z V)) : 0 < turn U Z V := by
  have h0 := c1 V hV
  rcases Int.lt_or_le 0 (turn U Z V) with hp | hp
  · exact hp
  · exfalso
    have hz : turn U Z V = 0 := by omega
    rcases o with ⟨o1, o2⟩ | ⟨o1, o2⟩
    · -- ways from both to Z
      have p1 := less_pos.1 o1
      have p2 := less_pos.1 o2
      have e0 : cross (df U Z) (df V Z) = 0 := by have : turn U Z V = - cross (df U Z) (df V Z) := by unfold turn cross df; grind
                                                  omega
      have e0' : cross (df V Z) (df U Z) = 0 := by rw [cross_anti, e0]; rfl
      refine h.not_col h3 (Z := Z) p1 fun q hq => ?_
      have f1 : turn U Z q = cross (df U Z) (df Z q) := by unfold turn cross df; grind
      have f2 : turn Z V q = - cross (df V Z) (df Z q) := by unfold turn cross df; grind
      have a1 := c1 q hq
      have a2 := c2 q hq
      have b1 := par0 p1 p2 e0 (show 0 ≤ cross (df U Z) (df Z q) by omega)
      have b2 : 0 ≤ cross (df V Z) (ngt (df Z q)) := by rw [cross_neg2]; omega
      have b3 := par0 p2 p1 e0' b2
      rw [cross_neg2] at b3
      omega
    · have p1 := less_pos.1 o1
      have p2 := less_pos.1 o2
      have e0 : cross (df Z U) (df Z V) = 0 := by have : turn U Z V = - cross (df Z U) (df Z V) := by unfold turn cross df; grind
                                                  omega
      have e0' : cross (df Z V) (df Z U) = 0 := by rw [cross_anti, e0]; rfl
      refine h.not_col h3 (Z := Z) p1 fun q hq => ?_
      have f1 : turn U Z q = - cross (df Z U) (df Z q) := by unfold turn cross df; grind
      have f2 : turn Z V q = cross (df Z V) (df Z q) := by unfold turn cross df; grind
      have a1 := c1 q hq
      have a2 := c2 q hq
      have b2 : 0 ≤ cross (df Z U) (ngt (df Z q)) := by rw [cross_neg2]; omega
      have b3 := par0 p2 p1 e0' (show 0 ≤ cross (df Z V) (df Z q) by omega)
      omega

theorem left (h3 : 3 ≤ k + m) (i : Int) : 0 < turn (pt (A.dropLast ++ B.dropLast) i) (pt (A.dropLast ++ B.dropLast) (i + 1)) (pt (A.dropLast ++ B.dropLast) (i + 2)) := by
  refine h.nat_of (fun i => 0 < turn (pt (A.dropLast ++ B.dropLast) i) (pt (A.dropLast ++ B.dropLast) (i + 1)) (pt (A.dropLast ++ B.dropLast) (i + 2))) (fun i hi => ?_) (fun i hi => ?_) i
  · have k0 := h.k0
    have m0 := h.m0
    have cv := h.cov
    rcases Nat.lt_or_ge (i + 1) k with h1 | h1
    · exact h.up.cvx i _ _ _ (h.gA i (by omega)) (h.gA (i + 1) (by omega)) (h.gA (i + 2) (by omega))
    · rcases Nat.lt_or_ge i k with h2 | h2
      · -- the last line up, the first one down
        have c1 := cv i
        have c2 := cv (i + 1)
        rw [show (i : Int) + 1 + 1 = i + 2 by omega] at c2
        refine h.joint h3 c1 c2 (h.sub _) (.inl ⟨?_, ?_⟩)
        · exact h.up.ord i _ _ (h.gA i (by omega)) (h.gA (i + 1) (by omega))
        · have q1 := h.gB 0 (by omega)
          have q2 := h.gB 1 (by omega)
          have := h.dn.ord 0 _ _ q1 q2
          rw [show ((k + 0 : Nat) : Int) = i + 1 by omega, show ((k + 1 : Nat) : Int) = i + 2 by omega] at this
          exact this
      · rcases Nat.lt_or_ge (i + 1) (k + m) with h4 | h4
        · have q0 := h.gB (i - k) (by omega)
          have q1 := h.gB (i - k + 1) (by omega)
          have q2 := h.gB (i - k + 2) (by omega)
          have := h.dn.cvx (i - k) _ _ _ q0 q1 q2
          rw [show ((k + (i - k) : Nat) : Int) = i by omega, show ((k + (i - k + 1) : Nat) : Int) = i + 1 by omega, show ((k + (i - k + 2) : Nat) : Int) = i + 2 by omega] at this
          exact this
        · have c1 := cv i
          have c2 := cv (i + 1)
          rw [show (i : Int) + 1 + 1 = i + 2 by omega] at c2
          have e1 : pt (A.dropLast ++ B.dropLast) ((i : Int) + 1) = pt (A.dropLast ++ B.dropLast) 0 := by
            rw [← h.ptmod, show (i : Int) + 1 = ((k + m : Nat) : Int) by omega]; simp
          have e2 : pt (A.dropLast ++ B.dropLast) ((i : Int) + 2) = pt (A.dropLast ++ B.dropLast) 1 := by
            rw [← h.ptmod, show (i : Int) + 2 = 1 + ((k + m : Nat) : Int) by omega, Int.add_emod_right, h.ptmod]
          refine h.joint h3 c1 c2 (h.sub _) (.inr ⟨?_, ?_⟩)
          · have := h.dn.ord (m - 1) _ _ (h.gB (m - 1) (by omega)) (h.gB (m - 1 + 1) (by omega))
            rw [show ((k + (m - 1) : Nat) : Int) = i by omega, show ((k + (m - 1 + 1) : Nat) : Int) = i + 1 by omega] at this
            exact this
          · rw [e1, e2]
            exact h.up.ord 0 _ _ (h.gA 0 (by omega)) (h.gA 1 (by omega))
  · rw [h.ptmod1 i 1, h.ptmod1 i 2, h.ptmod] at hi; exact hi
end Sides
end
end Go.AM

namespace Go.AM
set_option linter.unusedVariables false

namespace Sides
section
variable {l A B : List Pt} {k m : Nat} (h : Sides l A B k m)
include h

end
end Sides

theorem band_mem {l : List Pt} (hr : Rise l) (hn : l ≠ []) : bandL l ≠ [] ∧ ∀ x ∈ bandL l, x ∈ l := by
  have hpos := List.length_pos_iff.2 hn
  rcases Nat.lt_or_ge l.length 2 with h1 | h1
  · have e : bandL l = l := by unfold bandL; rw [if_pos (by omega)]
    rw [e]; exact ⟨hn, fun x h => h⟩
  · obtain ⟨k, m, h⟩ := sides_of_rise h1 hr
    have e : bandL l = (sideL l).dropLast ++ (sideL l.reverse).dropLast := by unfold bandL; rw [if_neg (by omega)]
    rw [e]
    refine ⟨fun e => ?_, fun x hx => ?_⟩
    · have := h.len; rw [e] at this; have := h.k0; simp at *; omega
    · rcases List.mem_append.1 hx with hx | hx
      · exact h.up.sub x ((List.dropLast_sublist _).subset hx)
      · exact h.dn.sub x ((List.dropLast_sublist _).subset hx)
end Go.AM

namespace Go.AM
set_option linter.unusedVariables false

section
variable {n : Int} {P : Int → Pt}

end

end Go.AM

namespace Go.AM

theorem cmp_valL {L : Nat} {p q : Pt} (hL : 5 < L) : impl_comparePegs L p.x p.y q.x q.y = some (ordP p q) := by
  unfold impl_comparePegs cmp_Or_int
  simp only [gbind_eq, cmp_eq, Option.bind_some]
  obtain ⟨m, rfl⟩ : ∃ m, L = m + 3 := ⟨L - 3, by omega⟩
  have hl : ilen (List.map eI [cmpI p.x q.x, cmpI p.y q.y]) = 2 := by rw [ilen_eq]; rfl
  have g0 : lget [cmpI p.x q.x, cmpI p.y q.y] 0 = some (cmpI p.x q.x) := by rw [lget_eq]; rfl
  have g1 : lget [cmpI p.x q.x, cmpI p.y q.y] 1 = some (cmpI p.y q.y) := by rw [lget_eq]; rfl
  have w1 : wr .i64 (0 + 1) = 1 := wr_id (by decide)
  have w2 : wr .i64 (1 + 1) = 2 := wr_id (by decide)
  simp only [cmp_Or_int_l0, hl, ilt_eq, gbind_eq, g0, g1, iadd_eq, w1, w2, ieq_eq, Option.bind_some, show ((0 : Int) < 2) = True by simp, show ((1 : Int) < 2) = True by simp, show ((2 : Int) < 2) = False by simp, decide_true, decide_false, cond_true, cond_false]
  unfold cmpI ordP
  by_cases h1 : p.x < q.x
  · simp [h1]
  · by_cases h2 : q.x < p.x
    · simp [h1, h2]
    · have e : p.x = q.x := by omega
      by_cases h3 : p.y < q.y
      · simp [h1, h2, h3]
      · by_cases h4 : q.y < p.y
        · simp [h1, h2, h3, h4]
        · simp [h1, h2, h3, h4]

theorem cmp_val (p q : Pt) : impl_comparePegs 10 p.x p.y q.x q.y = some (ordP p q) := cmp_valL (by omega)
end Go.AM

namespace Go.AM
open Go.Proofs Go.Sort

theorem srt_isort (l : List Pt) : srt ordP l = isort l := by
  have hp : (srt ordP l).Perm l := List.mergeSort_perm _ _
  refine ord_one ?_ (isort_ord l) (hp.trans (isort_perm l).symm)
  have h := List.pairwise_mergeSort (le := fun x y => !(ltOf ordP y x)) (fun a b c h1 h2 => by
    simp only [ltOf_ordP, Bool.not_eq_true', decide_eq_false_iff_not] at *; omega) (fun a b => by
    simp only [ltOf_ordP, Bool.or_eq_true, Bool.not_eq_true', decide_eq_false_iff_not]; omega) l
  exact h.imp fun {a b} h => by
    simp only [ltOf_ordP, Bool.not_eq_true', decide_eq_false_iff_not] at h
    unfold Less
    omega

theorem sortP_eq {a : List Pt} (h : (a.length : Int) ≤ 1000000000) : sortP a = some (isort a) := by
  unfold sortP
  rw [if_pos (by omega), srt_isort]
end Go.AM

namespace Go.AM
set_option linter.unusedVariables false

structure Diff (a : List Pt) : Prop where
  lo : 1 ≤ (a.length : Int)
  hi : (a.length : Int) ≤ 30
  isIn : ∀ i, 0 ≤ i → i < (a.length : Int) → In (pt a i)
  ne : ∀ i k, 0 ≤ k → k < i → i < (a.length : Int) → pt a k ≠ pt a i

theorem Diff.nn {a : List Pt} (h : Diff a) : a ≠ [] := fun e => by have := h.lo; subst e; simp at this
theorem Diff.all {a : List Pt} (h : Diff a) (i : Int) : In (pt a i) := in_all h.isIn h.nn i
theorem Diff.nodup {a : List Pt} (h : Diff a) : a.Nodup := by
  rw [List.nodup_iff_pairwise_ne, List.pairwise_iff_getElem]
  intro i j hi hj hij e
  have := h.ne j i (by omega) (by omega) (by omega)
  refine this ?_
  have p1 := pt_get (a := a) (i := (i : Int)) (by omega) (by omega)
  have p2 := pt_get (a := a) (i := (j : Int)) (by omega) (by omega)
  rw [Int.toNat_natCast, List.getElem?_eq_getElem hi] at p1
  rw [Int.toNat_natCast, List.getElem?_eq_getElem hj] at p2
  rw [← Option.some.inj p1, ← Option.some.inj p2, e]

theorem mem_pt {a : List Pt} {p : Pt} (h : p ∈ a) : ∃ i : Int, 0 ≤ i ∧ i < a.length ∧ pt a i = p := by
  obtain ⟨n, hn, e⟩ := List.mem_iff_getElem.1 h
  have p1 := pt_get (a := a) (i := (n : Int)) (by omega) (by omega)
  rw [Int.toNat_natCast, List.getElem?_eq_getElem hn] at p1
  exact ⟨n, by omega, by omega, by rw [← Option.some.inj p1, e]⟩
theorem pt_mem {a : List Pt} (hn : a ≠ []) (i : Int) : pt a i ∈ a := by
  have hl : 0 < (a.length : Int) := by have := List.length_pos_iff.2 hn; omega
  have := pt_get (a := a) (i := i % a.length) (Int.emod_nonneg _ (by omega)) (Int.emod_lt_of_pos _ hl)
  rw [pt_mod] at this
  exact List.mem_of_getElem? this

theorem Diff.mem {a : List Pt} (h : Diff a) {p : Pt} (hp : p ∈ a) : In p := by
  obtain ⟨i, h0, h1, e⟩ := mem_pt hp
  rw [← e]; exact h.isIn i h0 h1

end Go.AM

namespace Go.AM
set_option linter.unusedVariables false

theorem fits_l {n : Int} {b : Nat} (h : n * b ≤ 140737488355328) : fits n b = true := by rw [fits_eq]; exact decide_eq_true h

theorem impl_sorted_eq {L : Nat} {a : List Pt} (hn : a ≠ []) (hs : (a.length : Int) ≤ 1000000) : impl_sorted L a = some (isort a) := by
  have hpos : 0 < (a.length : Int) := by have := List.length_pos_iff.2 hn; omega
  unfold impl_sorted slices_Clone_impl_Peg_impl_Peg slices_SortFunc_impl_Peg_impl_Peg
  simp only [ilen_mapep, ieq_eq, show ¬ (a.length : Int) = 0 by omega, decide_false, cond_false, ilen_eq, List.length_nil, iadd_eq, lcat_eq, List.nil_append, List.length_map]
  rw [fits_l (by omega)]
  simp only [cond_true, gbind_eq, Option.bind_some, sortP_eq (show (a.length : Int) ≤ 1000000000 by omega)]

theorem insP_len (p : Pt) (l : List Pt) : (insP p l).length = l.length + 1 := (insP_perm p l).length_eq

end Go.AM

namespace Go.AM
set_option linter.unusedVariables false

theorem stk_len (p : Pt) : ∀ s : List Pt, (stk s p).length ≤ s.length + 1
  | [] => by simp [stk]
  | [a] => by simp [stk]
  | b :: a :: r => by
    rw [stk]
    split
    · have := stk_len p (a :: r); simp at this ⊢; omega
    · simp

end Go.AM

namespace Go.AM
set_option linter.unusedVariables false

end Go.AM

namespace Go.AM
set_option linter.unusedVariables false

end Go.AM

namespace Go.AM
set_option linter.unusedVariables false

theorem fold_len : ∀ (l s : List Pt), (l.foldl stk s).length ≤ s.length + l.length
  | [], s => by simp
  | p :: l, s => by
    have h1 := fold_len l (stk s p)
    have h2 := stk_len p s
    simp only [List.foldl_cons, List.length_cons]
    omega

theorem band_len (l : List Pt) : (bandL l).length ≤ 2 * l.length + 1 := by
  unfold bandL
  split
  · omega
  · have h1 := fold_len l []
    have h2 := fold_len l.reverse []
    simp only [List.length_append, List.length_dropLast, sideL, List.length_reverse, List.length_nil] at *
    unfold stack
    omega

structure BandOf (a B : List Pt) : Prop where
  nn : B ≠ []
  len : (B.length : Int) ≤ 61
  isIn : ∀ i, In (pt B i)
  mem : ∀ x ∈ B, x ∈ a

theorem Diff.rise {a : List Pt} (h : Diff a) : Rise (isort a) := rise_of (isort_ord a) (isort_nodup h.nodup)
theorem Diff.band {a : List Pt} (h : Diff a) : BandOf a (bandL (isort a)) := by
  have hne : isort a ≠ [] := fun e => h.nn (List.eq_nil_of_length_eq_zero (by rw [← isort_len, e]; rfl))
  obtain ⟨h1, h2⟩ := band_mem h.rise hne
  have hm : ∀ x ∈ bandL (isort a), x ∈ a := fun x hx => isort_mem.1 (h2 x hx)
  refine ⟨h1, ?_, fun i => h.mem (hm _ (pt_mem h1 i)), hm⟩
  have := band_len (isort a)
  rw [isort_len] at this
  have := h.hi
  omega

theorem Diff.nr {a : List Pt} (h : Diff a) : ∀ x ∈ a, Nr x := fun x hx => (h.mem hx).nr

end Go.AM

namespace Go.AM
open Classical
set_option linter.unusedVariables false

end Go.AM

namespace Go.AM
set_option linter.unusedVariables false

end Go.AM

namespace Go.AM
set_option linter.unusedVariables false

theorem sz_small {L : Nat} {a : List Pt} (h : (a.length : Int) ≤ 1048576) : laws_szPegS L a 1048576 = some (1048576 - (a.length : Int)) := by
  unfold laws_szPegS
  simp only [ilen_mapep, isub_eq, ilt_eq]
  rw [wr_id (by omega)]
  simp only [show ¬ (1048576 - (a.length : Int) < 0) by omega, decide_false, cond_false]
theorem sz_big {L : Nat} {a : List Pt} (h : ¬ (a.length : Int) ≤ 1048576) (hmax : (a.length : Int) ≤ 9223372036854775807) : ∃ n, laws_szPegS L a 1048576 = some n ∧ n < 0 := by
  unfold laws_szPegS
  simp only [ilen_mapep, isub_eq, ilt_eq]
  rw [wr_id (by omega)]
  simp only [show (1048576 - (a.length : Int) < 0) by omega, decide_true, cond_true]
  exact ⟨-1, rfl, by omega⟩

end Go.AM

namespace Go.AM
set_option linter.unusedVariables false

theorem wr_v {n : Int} (h : -1000000000 ≤ n ∧ n ≤ 1000000000) : wr .i64 n = n := wr_id (by omega)

theorem common_eq {L : Nat} {b c : Int} (hb : -1000000 ≤ b ∧ b ≤ 1000000) (hc : -1000000 ≤ c ∧ c ≤ 1000000) (hL : c.natAbs < L) : spec_pgCommon L b c = some (Nat.gcd b.natAbs c.natAbs : Int) := by
  unfold spec_pgCommon
  rw [spec_l1Abs_eq (by omega), spec_l1Abs_eq (by omega)]
  simp only [gbind_eq, Option.bind_some]
  exact common_l0 L _ _ hL
theorem divisor_eq {L : Nat} {b c : Int} (hb : -1000000 ≤ b ∧ b ≤ 1000000) (hc : -1000000 ≤ c ∧ c ≤ 1000000) (hL : c.natAbs < L) : impl_divisor L b c = some (Nat.gcd b.natAbs c.natAbs : Int) := by
  unfold impl_divisor
  exact divisor_l0 L _ _ (by omega) (by omega) hL

def val (b c : Int) (p : Pt) : Int := b * p.x + c * p.y

theorem val_bd {b c : Int} {p : Pt} (hb : -100000 ≤ b ∧ b ≤ 100000) (hc : -100000 ≤ c ∧ c ≤ 100000) (hp : In p) : -8000000 ≤ val b c p ∧ val b c p ≤ 8000000 := by
  have h1 := mul_bd (A := 100000) (B := 40) hb hp.1
  have h2 := mul_bd (A := 100000) (B := 40) hc hp.2
  unfold val; omega
theorem val_wr {b c : Int} {p : Pt} (hb : -100000 ≤ b ∧ b ≤ 100000) (hc : -100000 ≤ c ∧ c ≤ 100000) (hp : In p) : wr IntKind.i64 (iadd (wr IntKind.i64 (imul b p.x)) (wr IntKind.i64 (imul c p.y))) = val b c p := by
  have h1 := mul_bd (A := 100000) (B := 40) hb hp.1
  have h2 := mul_bd (A := 100000) (B := 40) hc hp.2
  simp only [imul_eq, iadd_eq]
  rw [wr_v (n := b * p.x) (by omega), wr_v (n := c * p.y) (by omega), wr_v (by omega)]
  rfl

/-- the least and the greatest value, step by step -/
noncomputable def rng (f : Pt → Int) : List Pt → Int → Int → Int × Int
  | [], u, v => (u, v)
  | p :: l, u, v => rng f l (if u < f p then u else f p) (if f p < v then v else f p)

theorem range_l0 {L : Nat} {a : List Pt} {b c : Int} (hb : -100000 ≤ b ∧ b ≤ 100000) (hc : -100000 ≤ c ∧ c ≤ 100000) (hs : (a.length : Int) ≤ 1000) (hin : ∀ i, In (pt a i)) :
    ∀ (m i : Nat) (u v : Int), i ≤ a.length → a.length - i < m →
      spec_wiRange_l0 L a b c m u v i = some (rng (val b c) (a.drop i) u v) ∧ impl_extent_l0 L a b c m u v i = some (rng (val b c) (a.drop i) u v) := by
  intro m
  induction m with
  | zero => intro i u v _ h; omega
  | succ m ih =>
    intro i u v hi hm
    by_cases h : (i : Int) < (a.length : Int)
    · have hlt : i < a.length := by omega
      have hg : a[i]? = some (pt a i) := by have := pt_get (a := a) (i := (i : Int)) (by omega) h; rwa [Int.toNat_natCast] at this
      rw [List.getElem?_eq_getElem hlt] at hg
      have e := Option.some.inj hg
      rw [List.drop_eq_getElem_cons hlt, e, rng]
      have w := val_wr (p := pt a i) hb hc (hin i)
      have wi : wr IntKind.i64 (iadd (i : Int) 1) = ((i + 1 : Nat) : Int) := by rw [iadd_eq, wr_s (by omega)]; omega
      constructor
      · rw [spec_wiRange_l0]
        simp only [ilen_mapep, ilt_eq, h, decide_true, cond_true, lget_pt (show (0 : Int) ≤ i by omega) h, gbind_eq, Option.bind_some, w, wi]
        unfold spec_l1Least spec_l1Most
        simp only [ilt_eq]
        rw [← (ih (i + 1) (if u < val b c (pt a i) then u else val b c (pt a i)) (if val b c (pt a i) < v then v else val b c (pt a i)) (by omega) (by omega)).1]
        by_cases h1 : u < val b c (pt a i) <;> by_cases h2 : val b c (pt a i) < v <;> simp only [h1, h2, decide_true, decide_false, cond_true, cond_false, Option.bind_some, if_true, if_false]
      · rw [impl_extent_l0]
        unfold impl_value
        simp only [ilen_mapep, ilt_eq, h, decide_true, cond_true, lget_pt (show (0 : Int) ≤ i by omega) h, gbind_eq, Option.bind_some, w, wi]
        rw [← (ih (i + 1) (if u < val b c (pt a i) then u else val b c (pt a i)) (if val b c (pt a i) < v then v else val b c (pt a i)) (by omega) (by omega)).2]
        have e1 : imin u (val b c (pt a i)) = if u < val b c (pt a i) then u else val b c (pt a i) := by rw [imin_eq]; split <;> split <;> omega
        have e2 : imax v (val b c (pt a i)) = if val b c (pt a i) < v then v else val b c (pt a i) := by rw [imax_eq]; split <;> split <;> omega
        rw [e1, e2]
    · have hd : a.drop i = [] := List.drop_of_length_le (by omega)
      rw [hd, rng, spec_wiRange_l0, impl_extent_l0]
      simp only [ilen_mapep, ilt_eq, h, decide_false, cond_false, and_self]

noncomputable def rngOf (b c : Int) (a : List Pt) : Int × Int := rng (val b c) a (val b c (pt a 0)) (val b c (pt a 0))

theorem range_eq {L : Nat} {a : List Pt} {b c : Int} (hb : -100000 ≤ b ∧ b ≤ 100000) (hc : -100000 ≤ c ∧ c ≤ 100000) (hn : a ≠ []) (hs : (a.length : Int) ≤ 1000) (hin : ∀ i, In (pt a i)) (hL : (a.length : Int) < L) :
    spec_wiRange L a b c = some (rngOf b c a) ∧ impl_extent L a b c = some (rngOf b c a) := by
  have hpos : 0 < (a.length : Int) := by have := List.length_pos_iff.2 hn; omega
  have w := val_wr (p := pt a 0) hb hc (hin 0)
  have r := range_l0 (L := L) hb hc hs hin L 0 (val b c (pt a 0)) (val b c (pt a 0)) (by omega) (by omega)
  rw [List.drop_zero] at r
  constructor
  · unfold spec_wiRange
    simp only [lget_pt (Int.le_refl 0) hpos, gbind_eq, Option.bind_some, w]
    exact r.1
  · unfold impl_extent impl_value
    simp only [lget_pt (Int.le_refl 0) hpos, gbind_eq, Option.bind_some, w]
    exact r.2

theorem rng_bd {f : Pt → Int} {A B : Int} : ∀ (l : List Pt) (u v : Int), (A ≤ u ∧ u ≤ B) → (A ≤ v ∧ v ≤ B) → (∀ p ∈ l, A ≤ f p ∧ f p ≤ B) → (A ≤ (rng f l u v).1 ∧ (rng f l u v).1 ≤ B) ∧ (A ≤ (rng f l u v).2 ∧ (rng f l u v).2 ≤ B)
  | [], u, v, hu, hv, _ => ⟨hu, hv⟩
  | p :: l, u, v, hu, hv, hl => by
    unfold rng
    have h := hl p (by simp)
    refine rng_bd l _ _ ?_ ?_ fun q hq => hl q (by simp [hq]) <;> split <;> assumption

theorem insP_take {p : Pt} {out : List Pt} {k : Nat} (hO : Ord out) (hk : k ≤ out.length) (h1 : ∀ j, k ≤ j → ∀ x, out[j]? = some x → Less p x) (h2 : ∀ j, j + 1 = k → ∀ x, out[j]? = some x → ¬ Less p x) :
    out.take k ++ p :: out.drop k = insP p out := by
  refine ord_one ?_ (insP_ord hO) ?_
  · have hs : Ord (out.take k ++ out.drop k) := by rw [List.take_append_drop]; exact hO
    obtain ⟨t1, t2, t3⟩ := List.pairwise_append.1 hs
    have hd : ∀ x ∈ out.drop k, Less p x := fun x hx => by
      obtain ⟨n, hn, e⟩ := List.mem_iff_getElem.1 hx
      refine h1 (k + n) (by omega) x ?_
      rw [← List.getElem?_drop, List.getElem?_eq_getElem hn, e]
    refine List.pairwise_append.2 ⟨t1, List.pairwise_cons.2 ⟨fun x hx => ?_, t2⟩, fun x hx y hy => ?_⟩
    · have := hd x hx; unfold Less at *; omega
    · rcases List.mem_cons.1 hy with e | hy
      · subst e
        obtain ⟨n, hn, e⟩ := List.mem_iff_getElem.1 hx
        have hnk : n < k := by rw [List.length_take] at hn; omega
        have en : out[n]? = some x := by rw [← e, List.getElem_take]; exact List.getElem?_eq_getElem (by omega)
        have hk1 : k - 1 < out.length := by omega
        have hl := h2 (k - 1) (by omega) _ (List.getElem?_eq_getElem hk1)
        by_cases h : n = k - 1
        · subst h
          rw [List.getElem?_eq_getElem hk1] at en
          rw [← Option.some.inj en]; exact hl
        · have := List.pairwise_iff_getElem.1 hO n (k - 1) (by omega) hk1 (by omega)
          rw [List.getElem?_eq_getElem (show n < out.length by omega)] at en
          rw [Option.some.inj en] at this
          unfold Less at *; omega
      · exact t3 x hx y hy
  · refine List.perm_middle.trans (List.Perm.trans (List.Perm.cons p ?_) (insP_perm p out).symm)
    rw [List.take_append_drop]

end Go.AM

namespace Go.AM
set_option linter.unusedVariables false

def row (p : Pt) : List Int := [p.x, p.y]

theorem row_get0 (p : Pt) : lget (row p) 0 = some p.x := by rw [lget_eq]; rfl
theorem row_get1 (p : Pt) : lget (row p) 1 = some p.y := by rw [lget_eq]; rfl
theorem lsubk' {α : Type} {a : List α} {i n : Nat} (h : i ≤ n) (hn : a.length = n) : lsub a 0 (i : Int) = a.take i ∧ lsub a (i : Int) (n : Int) = a.drop i := by
  subst hn
  rw [lsub_eq, lsub_eq]
  refine ⟨by simp, ?_⟩
  rw [Int.toNat_natCast, show ((a.length : Int) - i).toNat = a.length - i by omega]
  rw [List.take_of_length_le (by simp)]
theorem lget_row {out : List Pt} {i : Int} (h0 : 0 ≤ i) (h1 : i < out.length) : lget (out.map row) i = some (row (pt out i)) := by
  rw [lget_eq, if_pos h0, List.getElem?_map, pt_get h0 h1]; rfl
theorem ilen_li (out : List (List Int)) : ilen (List.map eLI out) = (out.length : Int) := by rw [ilen_eq]; simp

theorem wiAll_l2 {L : Nat} {κ1 : (List Pt) → Int → Int → (List (List Int)) → Int → Int → Int → Int → Int → Int → Option ((List (List Int)))} {v01 : List Pt} {v11 v71 v91 v10 b0 b1 c0 c1 : Int} {out : List Pt} {p : Pt}
    (hx : wr IntKind.i64 (iquo (wr IntKind.i64 (isub (wr IntKind.i64 (imul v91 c1)) (wr IntKind.i64 (imul v10 b1)))) v71) = p.x)
    (hy : wr IntKind.i64 (iquo (wr IntKind.i64 (isub (wr IntKind.i64 (imul v10 b0)) (wr IntKind.i64 (imul v91 c0)))) v71) = p.y)
    (hO : Ord out) (hs : (out.length : Int) ≤ 100000) (hv : -100000 ≤ v10 ∧ v10 ≤ 100000) :
    ∀ (m k : Nat), k ≤ out.length → (∀ j, k ≤ j → ∀ x, out[j]? = some x → Less p x) → k < m →
      spec_wiAll_l2 L κ1 v01 v11 v71 (out.map row) v91 v10 b0 b1 c0 c1 m k = κ1 v01 v11 v71 ((insP p out).map row) v91 (v10 + 1) b0 b1 c0 c1 := by
  intro m
  induction m with
  | zero => intro k _ _ h; omega
  | succ m ih =>
    intro k hk h1 hm
    have l1 : ilen (lsub (List.map eLI (out.map row)) 0 (k : Int)) = k := by rw [← map_lsub, ilen_li, (lsubk' hk (by simp)).1]; simp; omega
    have l2 : ilen (lsub (List.map eLI (out.map row)) (k : Int) (out.length : Int)) = ((out.length - k : Nat) : Int) := by rw [← map_lsub, ilen_li, (lsubk' hk (by simp)).2]; simp
    have l3 : ilen (lcat ([] : List AV) (lsub (List.map eLI (out.map row)) 0 (k : Int))) = k := by rw [lcat_eq, List.nil_append]; exact l1
    have l4 : ilen (lcat (lcat ([] : List AV) (lsub (List.map eLI (out.map row)) 0 (k : Int))) [AV.lst false false 1 [AV.int IntKind.i64 p.x, AV.int IntKind.i64 p.y]]) = k + 1 := by
      rw [lcat_eq, lcat_eq, List.nil_append, ilen_eq, List.length_append]; have := l1; rw [ilen_eq] at this; simp; simpa using this
    have fin : out.take k ++ p :: out.drop k = insP p out → κ1 v01 v11 v71 (lcat (lcat (lcat [] (lsub (out.map row) 0 (k : Int))) ((p.x :: p.y :: []) :: [])) (lsub (out.map row) (k : Int) (out.length : Int))) v91 (wr IntKind.i64 (v10 + 1)) b0 b1 c0 c1 = κ1 v01 v11 v71 ((insP p out).map row) v91 (v10 + 1) b0 b1 c0 c1 := fun e => by
      rw [wr_s (by omega), ← e, (lsubk' hk (by simp)).1, (lsubk' hk (by simp)).2]
      simp only [lcat_eq, List.nil_append, List.append_assoc, List.singleton_append, List.map_append, List.map_take, List.map_drop, List.map_cons, row]
    rw [spec_wiAll_l2]
    simp only [hx, hy]
    simp only [ieq_eq, ilen_li, List.length_map, ilt_eq, iadd_eq, isub_eq, ile_eq, l1, l2, l3, l4, show ilen ([] : List AV) = 0 by rw [ilen_eq]; rfl, show ilen [AV.lst false false 1 [AV.int IntKind.i64 p.x, AV.int IntKind.i64 p.y]] = 1 by rw [ilen_eq]; rfl]
    rw [fits_l (show ((0 : Int) + k) * (24 : Nat) ≤ 140737488355328 by omega), fits_l (show ((k : Int) + 1) * (24 : Nat) ≤ 140737488355328 by omega), fits_l (show ((k : Int) + 1 + ((out.length - k : Nat) : Int)) * (24 : Nat) ≤ 140737488355328 by omega)]
    simp only [show (0 : Int) ≤ k by omega, show (k : Int) ≤ (out.length : Int) by omega, decide_true, Bool.and_self, cond_true]
    by_cases hkl : (0 : Int) < (k : Int)
    · have hk1 : (k : Int) - 1 < (out.length : Int) := by omega
      have hg : out[k - 1]? = some (pt out ((k : Int) - 1)) := by
        have := pt_get (a := out) (i := (k : Int) - 1) (by omega) hk1
        rwa [show ((k : Int) - 1).toNat = k - 1 by omega] at this
      simp only [hkl, decide_true, cond_true]
      rw [wr_s (i := (k : Int) - 1) (by omega)]
      simp only [lget_row (show (0 : Int) ≤ (k : Int) - 1 by omega) hk1, gbind_eq, Option.bind_some, row_get0, row_get1]
      have go : Less p (pt out ((k : Int) - 1)) → spec_wiAll_l2 L κ1 v01 v11 v71 (out.map row) v91 v10 b0 b1 c0 c1 m ((k : Int) - 1) = κ1 v01 v11 v71 ((insP p out).map row) v91 (v10 + 1) b0 b1 c0 c1 := fun hl => by
        have := ih (k - 1) (by omega) (fun j hj x hx => by
          by_cases e : j = k - 1
          · subst e; rw [hg] at hx; rw [← Option.some.inj hx]; exact hl
          · exact h1 j (by omega) x hx) (by omega)
        rw [show ((k - 1 : Nat) : Int) = (k : Int) - 1 by omega] at this
        exact this
      have stop : ¬ Less p (pt out ((k : Int) - 1)) → out.take k ++ p :: out.drop k = insP p out := fun hl => insP_take hO hk h1 fun j hj x hx => by
        rw [show j = k - 1 by omega, hg] at hx
        rw [← Option.some.inj hx]; exact hl
      by_cases d1 : p.x < (pt out ((k : Int) - 1)).x
      · simp only [d1, decide_true, cond_true]; exact go (.inl d1)
      · simp only [d1, decide_false, cond_false]
        by_cases d2 : p.x = (pt out ((k : Int) - 1)).x
        · simp only [decide_eq_true d2, cond_true]
          by_cases d3 : p.y < (pt out ((k : Int) - 1)).y
          · simp only [d3, decide_true, cond_true]; exact go (.inr ⟨d2, d3⟩)
          · simp only [d3, decide_false, cond_false]; exact fin (stop fun h => by unfold Less at h; omega)
        · simp only [decide_eq_false d2, cond_false]; exact fin (stop fun h => by unfold Less at h; omega)
    · simp only [hkl, decide_false, cond_false]
      exact fin (insP_take hO hk h1 fun j hj => by omega)

theorem wiAll_l3 {L : Nat} {κ1 : (List Pt) → Int → Int → (List (List Int)) → Int → Int → Int → Int → Int → Int → Option ((List (List Int)))} {v01 : List Pt} {v11 v71 v91 v10 b0 b1 c0 c1 : Int} {out : List Pt} {p : Pt}
    (hx : wr IntKind.i64 (iquo (wr IntKind.i64 (isub (wr IntKind.i64 (imul v91 c1)) (wr IntKind.i64 (imul v10 b1)))) v71) = p.x)
    (hy : wr IntKind.i64 (iquo (wr IntKind.i64 (isub (wr IntKind.i64 (imul v10 b0)) (wr IntKind.i64 (imul v91 c0)))) v71) = p.y)
    (hO : Ord out) (hs : (out.length : Int) ≤ 100000) (hv : -100000 ≤ v10 ∧ v10 ≤ 100000) :
    ∀ (m k : Nat), k ≤ out.length → (∀ j, k ≤ j → ∀ x, out[j]? = some x → Less p x) → k < m →
      spec_wiAll_l3 L κ1 v01 v11 v71 (out.map row) v91 v10 b0 b1 c0 c1 m k = κ1 v01 v11 v71 ((insP p out).map row) v91 (v10 + 1) b0 b1 c0 c1 := by
  intro m
  induction m with
  | zero => intro k _ _ h; omega
  | succ m ih =>
    intro k hk h1 hm
    have l1 : ilen (lsub (List.map eLI (out.map row)) 0 (k : Int)) = k := by rw [← map_lsub, ilen_li, (lsubk' hk (by simp)).1]; simp; omega
    have l2 : ilen (lsub (List.map eLI (out.map row)) (k : Int) (out.length : Int)) = ((out.length - k : Nat) : Int) := by rw [← map_lsub, ilen_li, (lsubk' hk (by simp)).2]; simp
    have l3 : ilen (lcat ([] : List AV) (lsub (List.map eLI (out.map row)) 0 (k : Int))) = k := by rw [lcat_eq, List.nil_append]; exact l1
    have l4 : ilen (lcat (lcat ([] : List AV) (lsub (List.map eLI (out.map row)) 0 (k : Int))) [AV.lst false false 1 [AV.int IntKind.i64 p.x, AV.int IntKind.i64 p.y]]) = k + 1 := by
      rw [lcat_eq, lcat_eq, List.nil_append, ilen_eq, List.length_append]; have := l1; rw [ilen_eq] at this; simp; simpa using this
    have fin : out.take k ++ p :: out.drop k = insP p out → κ1 v01 v11 v71 (lcat (lcat (lcat [] (lsub (out.map row) 0 (k : Int))) ((p.x :: p.y :: []) :: [])) (lsub (out.map row) (k : Int) (out.length : Int))) v91 (wr IntKind.i64 (v10 + 1)) b0 b1 c0 c1 = κ1 v01 v11 v71 ((insP p out).map row) v91 (v10 + 1) b0 b1 c0 c1 := fun e => by
      rw [wr_s (by omega), ← e, (lsubk' hk (by simp)).1, (lsubk' hk (by simp)).2]
      simp only [lcat_eq, List.nil_append, List.append_assoc, List.singleton_append, List.map_append, List.map_take, List.map_drop, List.map_cons, row]
    rw [spec_wiAll_l3]
    simp only [hx, hy]
    simp only [ieq_eq, ilen_li, List.length_map, ilt_eq, iadd_eq, isub_eq, ile_eq, l1, l2, l3, l4, show ilen ([] : List AV) = 0 by rw [ilen_eq]; rfl, show ilen [AV.lst false false 1 [AV.int IntKind.i64 p.x, AV.int IntKind.i64 p.y]] = 1 by rw [ilen_eq]; rfl]
    rw [fits_l (show ((0 : Int) + k) * (24 : Nat) ≤ 140737488355328 by omega), fits_l (show ((k : Int) + 1) * (24 : Nat) ≤ 140737488355328 by omega), fits_l (show ((k : Int) + 1 + ((out.length - k : Nat) : Int)) * (24 : Nat) ≤ 140737488355328 by omega)]
    simp only [show (0 : Int) ≤ k by omega, show (k : Int) ≤ (out.length : Int) by omega, decide_true, Bool.and_self, cond_true]
    by_cases hkl : (0 : Int) < (k : Int)
    · have hk1 : (k : Int) - 1 < (out.length : Int) := by omega
      have hg : out[k - 1]? = some (pt out ((k : Int) - 1)) := by
        have := pt_get (a := out) (i := (k : Int) - 1) (by omega) hk1
        rwa [show ((k : Int) - 1).toNat = k - 1 by omega] at this
      simp only [hkl, decide_true, cond_true]
      rw [wr_s (i := (k : Int) - 1) (by omega)]
      simp only [lget_row (show (0 : Int) ≤ (k : Int) - 1 by omega) hk1, gbind_eq, Option.bind_some, row_get0, row_get1]
      have go : Less p (pt out ((k : Int) - 1)) → spec_wiAll_l3 L κ1 v01 v11 v71 (out.map row) v91 v10 b0 b1 c0 c1 m ((k : Int) - 1) = κ1 v01 v11 v71 ((insP p out).map row) v91 (v10 + 1) b0 b1 c0 c1 := fun hl => by
        have := ih (k - 1) (by omega) (fun j hj x hx => by
          by_cases e : j = k - 1
          · subst e; rw [hg] at hx; rw [← Option.some.inj hx]; exact hl
          · exact h1 j (by omega) x hx) (by omega)
        rw [show ((k - 1 : Nat) : Int) = (k : Int) - 1 by omega] at this
        exact this
      have stop : ¬ Less p (pt out ((k : Int) - 1)) → out.take k ++ p :: out.drop k = insP p out := fun hl => insP_take hO hk h1 fun j hj x hx => by
        rw [show j = k - 1 by omega, hg] at hx
        rw [← Option.some.inj hx]; exact hl
      by_cases d1 : p.x < (pt out ((k : Int) - 1)).x
      · simp only [d1, decide_true, cond_true]; exact go (.inl d1)
      · simp only [d1, decide_false, cond_false]
        by_cases d2 : p.x = (pt out ((k : Int) - 1)).x
        · simp only [decide_eq_true d2, cond_true]
          by_cases d3 : p.y < (pt out ((k : Int) - 1)).y
          · simp only [d3, decide_true, cond_true]; exact go (.inr ⟨d2, d3⟩)
          · simp only [d3, decide_false, cond_false]; exact fin (stop fun h => by unfold Less at h; omega)
        · simp only [decide_eq_false d2, cond_false]; exact fin (stop fun h => by unfold Less at h; omega)
    · simp only [hkl, decide_false, cond_false]
      exact fin (insP_take hO hk h1 fun j hj => by omega)

noncomputable def wdth (a : List Pt) (x y : Int) : Int := (rngOf x y a).2 - (rngOf x y a).1

theorem width_eq {L : Nat} {a : List Pt} {b c : Int} (hb : -100000 ≤ b ∧ b ≤ 100000) (hc : -100000 ≤ c ∧ c ≤ 100000) (hn : a ≠ []) (hs : (a.length : Int) ≤ 1000) (hin : ∀ i, In (pt a i)) (hL : (a.length : Int) < L) :
    spec_wiWidth L a b c = some (wdth a b c) ∧ impl_width L a b c = some (wdth a b c) := by
  obtain ⟨r1, r2⟩ := range_eq (L := L) hb hc hn hs hin hL
  have v0 := val_bd hb hc (hin 0)
  have bd := rng_bd (f := val b c) (A := -8000000) (B := 8000000) a (val b c (pt a 0)) (val b c (pt a 0)) v0 v0 fun p hp => by
    obtain ⟨i, _, _, e⟩ := mem_pt hp
    rw [← e]; exact val_bd hb hc (hin i)
  have e : wr IntKind.i64 (isub (rngOf b c a).2 (rngOf b c a).1) = wdth a b c := by
    rw [isub_eq, wr_v (by unfold rngOf; omega)]; rfl
  unfold spec_wiWidth impl_width
  simp only [r1, r2, gbind_eq, Option.bind_some, e, and_self]

open Classical in
/-- the direction of two values, if it is told -/
noncomputable def dirOf (a : List Pt) (vx vy wx wy D t s u : Int) : Option Pt :=
  if (s * wy - u * vy).tmod D = 0 ∧ (u * vx - s * wx).tmod D = 0 ∧ (0 < (s * wy - u * vy).tdiv D ∨ ((s * wy - u * vy).tdiv D = 0 ∧ 1 ≤ (u * vx - s * wx).tdiv D)) ∧
    Nat.gcd ((s * wy - u * vy).tdiv D).natAbs ((u * vx - s * wx).tdiv D).natAbs = 1 ∧ wdth a ((s * wy - u * vy).tdiv D) ((u * vx - s * wx).tdiv D) ≤ t then some ⟨(s * wy - u * vy).tdiv D, (u * vx - s * wx).tdiv D⟩ else none

def col (f : Int → Option Pt) : Nat → Int → List Pt
  | 0, _ => []
  | n + 1, u => (f u).toList ++ col f n (u + 1)

theorem col_len (f : Int → Option Pt) : ∀ (n : Nat) (u : Int), (col f n u).length ≤ n
  | 0, _ => Nat.le_refl _
  | n + 1, u => by
    have := col_len f n (u + 1)
    unfold col
    rw [List.length_append]
    have : (f u).toList.length ≤ 1 := by cases f u <;> simp
    omega

theorem tdvd_bd {x d B : Int} (h : -B ≤ x ∧ x ≤ B) : -B ≤ x.tdiv d ∧ x.tdiv d ≤ B := by
  have h3 : (x.tdiv d).natAbs ≤ x.natAbs := by rw [Int.natAbs_tdiv]; exact Nat.div_le_self _ _
  omega

structure Vw (a : List Pt) (vx vy wx wy D t : Int) : Prop where
  nn : a ≠ []
  len : (a.length : Int) ≤ 1000
  isIn : ∀ i, In (pt a i)
  v : (-80 ≤ vx ∧ vx ≤ 80) ∧ (-80 ≤ vy ∧ vy ≤ 80)
  w : (-80 ≤ wx ∧ wx ≤ 80) ∧ (-80 ≤ wy ∧ wy ≤ 80)
  d : D ≠ 0
  t : 0 ≤ t ∧ t ≤ 100

theorem Vw.X {a : List Pt} {vx vy wx wy D t s u : Int} (h : Vw a vx vy wx wy D t) (hs : -t ≤ s ∧ s ≤ t) (hu : -t ≤ u ∧ u ≤ t) :
    (wr IntKind.i64 (isub (wr IntKind.i64 (imul s wy)) (wr IntKind.i64 (imul u vy))) = s * wy - u * vy ∧ wr IntKind.i64 (isub (wr IntKind.i64 (imul u vx)) (wr IntKind.i64 (imul s wx))) = u * vx - s * wx) ∧
    (-16000 ≤ s * wy - u * vy ∧ s * wy - u * vy ≤ 16000) ∧ (-16000 ≤ u * vx - s * wx ∧ u * vx - s * wx ≤ 16000) := by
  have ht := h.t
  have h1 := mul_bd (A := 100) (B := 80) (show -100 ≤ s ∧ s ≤ 100 by omega) h.w.2
  have h2 := mul_bd (A := 100) (B := 80) (show -100 ≤ u ∧ u ≤ 100 by omega) h.v.2
  have h3 := mul_bd (A := 100) (B := 80) (show -100 ≤ u ∧ u ≤ 100 by omega) h.v.1
  have h4 := mul_bd (A := 100) (B := 80) (show -100 ≤ s ∧ s ≤ 100 by omega) h.w.1
  simp only [imul_eq, isub_eq]
  rw [wr_v (n := s * wy) (by omega), wr_v (n := u * vy) (by omega), wr_v (n := u * vx) (by omega), wr_v (n := s * wx) (by omega), wr_v (n := s * wy - u * vy) (by omega), wr_v (n := u * vx - s * wx) (by omega)]
  exact ⟨⟨rfl, rfl⟩, by omega, by omega⟩

theorem wiAll_l1 {L : Nat} {κ0 : (List Pt) → Int → Int → (List (List Int)) → Int → Int → Int → Int → Int → Option ((List (List Int)))} {a : List Pt} {vx vy wx wy D t s : Int} (h : Vw a vx vy wx wy D t) (hs : -t ≤ s ∧ s ≤ t) (hL : 200000 < L) :
    ∀ (n m : Nat) (u : Int) (out : List Pt), u + n = t + 1 → n < m → -t ≤ u → Ord out → (out.length : Int) + n ≤ 100000 →
      spec_wiAll_l1 L κ0 m a t D (out.map row) s u vx vy wx wy = κ0 a t D (((col (dirOf a vx vy wx wy D t s) n u).foldl (fun o p => insP p o) out).map row) (s + 1) vx vy wx wy := by
  intro n
  induction n with
  | zero =>
    intro m u out hu hm h0 hO hl
    obtain ⟨m, rfl⟩ : ∃ k, m = k + 1 := ⟨m - 1, by omega⟩
    have ht := h.t
    rw [spec_wiAll_l1]
    simp only [ile_eq, show ¬ u ≤ t by omega, decide_false, cond_false, iadd_eq, col, List.foldl_nil]
    rw [wr_s (by omega)]
  | succ n ih =>
    intro m u out hu hm h0 hO hl
    obtain ⟨m, rfl⟩ : ∃ k, m = k + 1 := ⟨m - 1, by omega⟩
    have ht := h.t
    obtain ⟨⟨hX, hY⟩, bX, bY⟩ := h.X hs (show -t ≤ u ∧ u ≤ t by omega)
    have wu : wr IntKind.i64 (iadd u 1) = u + 1 := by rw [iadd_eq, wr_s (by omega)]
    have skip : dirOf a vx vy wx wy D t s u = none → spec_wiAll_l1 L κ0 m a t D (out.map row) s (u + 1) vx vy wx wy = κ0 a t D (((col (dirOf a vx vy wx wy D t s) (n + 1) u).foldl (fun o p => insP p o) out).map row) (s + 1) vx vy wx wy := fun e => by
      rw [ih m (u + 1) out (by omega) (by omega) (by omega) hO (by omega), col, e]; rfl
    have take : ∀ p, dirOf a vx vy wx wy D t s u = some p → spec_wiAll_l1 L κ0 m a t D ((insP p out).map row) s (u + 1) vx vy wx wy = κ0 a t D (((col (dirOf a vx vy wx wy D t s) (n + 1) u).foldl (fun o p => insP p o) out).map row) (s + 1) vx vy wx wy := fun p e => by
      rw [ih m (u + 1) (insP p out) (by omega) (by omega) (by omega) (insP_ord hO) (by rw [insP_len]; omega), col, e]; rfl
    have tX := tdvd_bd (d := D) bX
    have tY := tdvd_bd (d := D) bY
    have qX : wr IntKind.i64 (iquo (wr IntKind.i64 (isub (wr IntKind.i64 (imul s wy)) (wr IntKind.i64 (imul u vy)))) D) = (s * wy - u * vy).tdiv D := by rw [hX, iquo_eq, wr_v (by omega)]
    have qY : wr IntKind.i64 (iquo (wr IntKind.i64 (isub (wr IntKind.i64 (imul u vx)) (wr IntKind.i64 (imul s wx)))) D) = (u * vx - s * wx).tdiv D := by rw [hY, iquo_eq, wr_v (by omega)]
    have i2 := fun p (hx : _ = p.x) (hy : _ = p.y) => wiAll_l2 (L := L) (κ1 := spec_wiAll_l1 L κ0 m) (v01 := a) (v11 := t) (v71 := D) (v91 := s) (v10 := u) (b0 := vx) (b1 := vy) (c0 := wx) (c1 := wy) (out := out) (p := p) hx hy hO (by omega) (by omega) L out.length (Nat.le_refl _) (fun j hj x hx => by rw [List.getElem?_eq_none (by omega)] at hx; cases hx) (by omega)
    have i3 := fun p (hx : _ = p.x) (hy : _ = p.y) => wiAll_l3 (L := L) (κ1 := spec_wiAll_l1 L κ0 m) (v01 := a) (v11 := t) (v71 := D) (v91 := s) (v10 := u) (b0 := vx) (b1 := vy) (c0 := wx) (c1 := wy) (out := out) (p := p) hx hy hO (by omega) (by omega) L out.length (Nat.le_refl _) (fun j hj x hx => by rw [List.getElem?_eq_none (by omega)] at hx; cases hx) (by omega)
    have j2 := i2 ⟨(s * wy - u * vy).tdiv D, (u * vx - s * wx).tdiv D⟩ qX qY
    have j3 := i3 ⟨(s * wy - u * vy).tdiv D, (u * vx - s * wx).tdiv D⟩ qX qY
    obtain ⟨w1, _⟩ := width_eq (L := L) (a := a) (b := (s * wy - u * vy).tdiv D) (c := (u * vx - s * wx).tdiv D) (by omega) (by omega) h.nn h.len h.isIn (by have := h.len; omega)
    have g1 := common_eq (L := L) (b := (s * wy - u * vy).tdiv D) (c := (u * vx - s * wx).tdiv D) (by omega) (by omega) (by omega)
    have rX : wr IntKind.i64 (iquo (s * wy - u * vy) D) = (s * wy - u * vy).tdiv D := by rw [iquo_eq, wr_v (by omega)]
    have rY : wr IntKind.i64 (iquo (u * vx - s * wx) D) = (u * vx - s * wx).tdiv D := by rw [iquo_eq, wr_v (by omega)]
    rw [spec_wiAll_l1]
    have ll : ilen (List.map eLI (out.map row)) = (out.length : Int) := by rw [ilen_li, List.length_map]
    simp only [ile_eq, show u ≤ t by omega, decide_true, cond_true, ieq_eq, h.d, decide_false, cond_false, wu, rX, rY, w1, g1, gbind_eq, Option.bind_some, ll, j2, j3, hX, hY, irem_eq, ilt_eq]
    generalize hx : (s * wy - u * vy).tdiv D = x at *
    generalize hy : (u * vx - s * wx).tdiv D = y at *
    by_cases k1 : (s * wy - u * vy).tmod D = 0
    · simp only [k1, decide_true, Bool.not_true, cond_false]
      by_cases k2 : (u * vx - s * wx).tmod D = 0
      · simp only [k2, decide_true, Bool.not_true, cond_false]
        by_cases k3 : x < 0
        · simp only [k3, decide_true, cond_true]
          exact skip (if_neg fun e => by rw [hx] at e; have := e.2.2.1; omega)
        · simp only [k3, decide_false, cond_false]
          by_cases k4 : x = 0
          · simp only [decide_eq_true k4, cond_true]
            by_cases k5 : y < 1
            · simp only [k5, decide_true, cond_true]
              exact skip (if_neg fun e => by rw [hx, hy] at e; have := e.2.2.1; omega)
            · simp only [k5, decide_false, cond_false]
              by_cases k6 : ((Nat.gcd x.natAbs y.natAbs : Nat) : Int) = 1
              · simp only [k6, decide_true, Bool.not_true, cond_false]
                by_cases k7 : t < wdth a x y
                · simp only [k7, decide_true, cond_true]
                  exact skip (if_neg fun e => by rw [hx, hy] at e; have := e.2.2.2.2; omega)
                · simp only [k7, decide_false, cond_false]
                  exact take ⟨x, y⟩ (by unfold dirOf; rw [hx, hy]; exact if_pos ⟨k1, k2, by omega, by omega, by omega⟩)
              · simp only [k6, decide_false, Bool.not_false, cond_true]
                exact skip (if_neg fun e => by rw [hx, hy] at e; have := e.2.2.2.1; omega)
          · simp only [decide_eq_false k4, cond_false]
            by_cases k6 : ((Nat.gcd x.natAbs y.natAbs : Nat) : Int) = 1
            · simp only [k6, decide_true, Bool.not_true, cond_false]
              by_cases k7 : t < wdth a x y
              · simp only [k7, decide_true, cond_true]
                exact skip (if_neg fun e => by rw [hx, hy] at e; have := e.2.2.2.2; omega)
              · simp only [k7, decide_false, cond_false]
                exact take ⟨x, y⟩ (by unfold dirOf; rw [hx, hy]; exact if_pos ⟨k1, k2, by omega, by omega, by omega⟩)
            · simp only [k6, decide_false, Bool.not_false, cond_true]
              exact skip (if_neg fun e => by rw [hx, hy] at e; have := e.2.2.2.1; omega)
      · simp only [k2, decide_false, Bool.not_false, cond_true]
        exact skip (if_neg fun e => k2 e.2.1)
    · simp only [k1, decide_false, Bool.not_false, cond_true]
      exact skip (if_neg fun e => k1 e.1)
end Go.AM

namespace Go.AM
set_option linter.unusedVariables false

def allD (f : Int → Int → Option Pt) (N : Nat) (u0 : Int) : Nat → Int → List Pt
  | 0, _ => []
  | n + 1, s => col (f s) N u0 ++ allD f N u0 n (s + 1)

theorem ins_len {l out : List Pt} (hO : Ord out) : (l.foldl (fun o p => insP p o) out).length = l.length + out.length := by
  have := (isort_go l out hO).2.length_eq
  rwa [List.length_append] at this

theorem wiAll_l0 {L : Nat} {a : List Pt} {vx vy wx wy D t : Int} (h : Vw a vx vy wx wy D t) (hL : 200000 < L) {N : Nat} (hN : (N : Int) = 2 * t + 1) :
    ∀ (n m : Nat) (s : Int) (out : List Pt), s + n = t + 1 → n < m → -t ≤ s → Ord out → (out.length : Int) + n * 201 ≤ 100000 - 201 →
      spec_wiAll_l0 L m a t D (out.map row) s vx vy wx wy = some (((allD (dirOf a vx vy wx wy D t) N (-t) n s).foldl (fun o p => insP p o) out).map row) := by
  intro n
  induction n with
  | zero =>
    intro m s out hs hm h0 hO hl
    obtain ⟨m, rfl⟩ : ∃ k, m = k + 1 := ⟨m - 1, by omega⟩
    rw [spec_wiAll_l0]
    simp only [ile_eq, show ¬ s ≤ t by omega, decide_false, cond_false, allD, List.foldl_nil]
  | succ n ih =>
    intro m s out hs hm h0 hO hl
    obtain ⟨m, rfl⟩ : ∃ k, m = k + 1 := ⟨m - 1, by omega⟩
    have ht := h.t
    have e0 : wr IntKind.i64 (isub 0 t) = -t := by rw [isub_eq, wr_v (by omega)]; omega
    have cl := col_len (dirOf a vx vy wx wy D t s) N (-t)
    rw [spec_wiAll_l0]
    simp only [ile_eq, show s ≤ t by omega, decide_true, cond_true, e0]
    rw [wiAll_l1 h (by omega) hL N L (-t) out (by omega) (by omega) (by omega) hO (by omega)]
    rw [ih m (s + 1) _ (by omega) (by omega) (by omega) (isort_go _ _ hO).1 (by rw [ins_len hO]; omega), allD, List.foldl_append]

theorem dirs_l1 {L : Nat} {κ0 : (List Pt) → Int → Int → Int → (List Pt) → Int → Int → Int → Int → Option ((List Pt))} {a : List Pt} {vx vy wx wy D t s : Int} (h : Vw a vx vy wx wy D t) (hs : -t ≤ s ∧ s ≤ t) (hL : 200000 < L) :
    ∀ (n m : Nat) (u : Int) (w : List Pt), u + n = t + 1 → n < m → -t ≤ u → (w.length : Int) + n ≤ 100000 →
      impl_directions_l1 L κ0 a t D s vx vy wx wy m u w = κ0 a t D (s + 1) (w ++ col (dirOf a vx vy wx wy D t s) n u) vx vy wx wy := by
  intro n
  induction n with
  | zero =>
    intro m u w hu hm h0 hl
    obtain ⟨m, rfl⟩ : ∃ k, m = k + 1 := ⟨m - 1, by omega⟩
    have ht := h.t
    rw [impl_directions_l1]
    simp only [ile_eq, show ¬ u ≤ t by omega, decide_false, cond_false, iadd_eq, col, List.append_nil]
    rw [wr_s (by omega)]
  | succ n ih =>
    intro m u w hu hm h0 hl
    obtain ⟨m, rfl⟩ : ∃ k, m = k + 1 := ⟨m - 1, by omega⟩
    have ht := h.t
    obtain ⟨⟨hX, hY⟩, bX, bY⟩ := h.X hs (show -t ≤ u ∧ u ≤ t by omega)
    have wu : wr IntKind.i64 (iadd u 1) = u + 1 := by rw [iadd_eq, wr_s (by omega)]
    have skip : dirOf a vx vy wx wy D t s u = none → impl_directions_l1 L κ0 a t D s vx vy wx wy m (u + 1) w = κ0 a t D (s + 1) (w ++ col (dirOf a vx vy wx wy D t s) (n + 1) u) vx vy wx wy := fun e => by
      rw [ih m (u + 1) w (by omega) (by omega) (by omega) (by omega), col, e]; rfl
    have take : ∀ p, dirOf a vx vy wx wy D t s u = some p → impl_directions_l1 L κ0 a t D s vx vy wx wy m (u + 1) (lcat w [p]) = κ0 a t D (s + 1) (w ++ col (dirOf a vx vy wx wy D t s) (n + 1) u) vx vy wx wy := fun p e => by
      rw [ih m (u + 1) (lcat w [p]) (by omega) (by omega) (by omega) (by rw [lcat_eq]; simp; omega), col, e, lcat_eq, List.append_assoc]; rfl
    have tX := tdvd_bd (d := D) bX
    have tY := tdvd_bd (d := D) bY
    have rX : wr IntKind.i64 (iquo (s * wy - u * vy) D) = (s * wy - u * vy).tdiv D := by rw [iquo_eq, wr_v (by omega)]
    have rY : wr IntKind.i64 (iquo (u * vx - s * wx) D) = (u * vx - s * wx).tdiv D := by rw [iquo_eq, wr_v (by omega)]
    obtain ⟨_, w1⟩ := width_eq (L := L) (a := a) (b := (s * wy - u * vy).tdiv D) (c := (u * vx - s * wx).tdiv D) (by omega) (by omega) h.nn h.len h.isIn (by have := h.len; omega)
    have g1 := divisor_eq (L := L) (b := (s * wy - u * vy).tdiv D) (c := (u * vx - s * wx).tdiv D) (by omega) (by omega) (by omega)
    have f1 : fits (iadd (w.length : Int) 1) 16 = true := by rw [iadd_eq]; exact fits_l (by omega)
    have k1' : ∀ x y : Int, ilen [AV.agg [AV.int IntKind.i64 x, AV.int IntKind.i64 y]] = 1 := fun x y => by rw [ilen_eq]; rfl
    rw [impl_directions_l1]
    simp only [ile_eq, show u ≤ t by omega, decide_true, cond_true, ieq_eq, h.d, decide_false, cond_false, wu, rX, rY, w1, g1, gbind_eq, Option.bind_some, ilen_mapep, hX, hY, irem_eq, ilt_eq, k1', f1]
    generalize hx : (s * wy - u * vy).tdiv D = x at *
    generalize hy : (u * vx - s * wx).tdiv D = y at *
    by_cases k1 : (s * wy - u * vy).tmod D = 0
    · simp only [k1, decide_true, Bool.not_true, cond_false]
      by_cases k2 : (u * vx - s * wx).tmod D = 0
      · simp only [k2, decide_true, Bool.not_true, cond_false]
        by_cases k6 : ((Nat.gcd x.natAbs y.natAbs : Nat) : Int) = 1
        · simp only [k6, decide_true, cond_true]
          by_cases k3 : 0 < x
          · simp only [k3, decide_true, cond_true]
            by_cases k7 : wdth a x y ≤ t
            · simp only [k7, decide_true, cond_true]
              exact take ⟨x, y⟩ (by unfold dirOf; rw [hx, hy]; exact if_pos ⟨k1, k2, by omega, by omega, by omega⟩)
            · simp only [k7, decide_false, cond_false]
              exact skip (if_neg fun e => by rw [hx, hy] at e; have := e.2.2.2.2; omega)
          · simp only [k3, decide_false, cond_false]
            by_cases k4 : x = 0
            · have hg : y.natAbs = 1 := by
                have : Nat.gcd x.natAbs y.natAbs = 1 := by omega
                rw [k4] at this
                simpa using this
              simp only [decide_eq_true k4, cond_true]
              by_cases k5 : y = 1
              · simp only [decide_eq_true k5, cond_true]
                by_cases k7 : wdth a x y ≤ t
                · simp only [k7, decide_true, cond_true]
                  exact take ⟨x, y⟩ (by unfold dirOf; rw [hx, hy]; exact if_pos ⟨k1, k2, by omega, by omega, by omega⟩)
                · simp only [k7, decide_false, cond_false]
                  exact skip (if_neg fun e => by rw [hx, hy] at e; have := e.2.2.2.2; omega)
              · simp only [decide_eq_false k5, cond_false]
                exact skip (if_neg fun e => by rw [hx, hy] at e; have := e.2.2.1; omega)
            · simp only [decide_eq_false k4, cond_false]
              exact skip (if_neg fun e => by rw [hx, hy] at e; have := e.2.2.1; omega)
        · simp only [k6, decide_false, cond_false]
          exact skip (if_neg fun e => by rw [hx, hy] at e; have := e.2.2.2.1; omega)
      · simp only [k2, decide_false, Bool.not_false, cond_true]
        exact skip (if_neg fun e => k2 e.2.1)
    · simp only [k1, decide_false, Bool.not_false, cond_true]
      exact skip (if_neg fun e => k1 e.1)

theorem dirs_l0 {L : Nat} {a : List Pt} {vx vy wx wy D t : Int} (h : Vw a vx vy wx wy D t) (hL : 200000 < L) {N : Nat} (hN : (N : Int) = 2 * t + 1) :
    ∀ (n m : Nat) (s : Int) (w : List Pt), s + n = t + 1 → n < m → -t ≤ s → (w.length : Int) + n * 201 ≤ 100000 - 201 →
      impl_directions_l0 L m a t D s w vx vy wx wy = impl_sorted L (w ++ allD (dirOf a vx vy wx wy D t) N (-t) n s) := by
  intro n
  induction n with
  | zero =>
    intro m s w hs hm h0 hl
    obtain ⟨m, rfl⟩ : ∃ k, m = k + 1 := ⟨m - 1, by omega⟩
    rw [impl_directions_l0]
    simp only [ile_eq, show ¬ s ≤ t by omega, decide_false, cond_false, allD, List.append_nil, gbind_eq, Option.bind_some]
    cases impl_sorted L w <;> rfl
  | succ n ih =>
    intro m s w hs hm h0 hl
    obtain ⟨m, rfl⟩ : ∃ k, m = k + 1 := ⟨m - 1, by omega⟩
    have ht := h.t
    have e0 : wr IntKind.i64 (isub 0 t) = -t := by rw [isub_eq, wr_v (by omega)]; omega
    have cl := col_len (dirOf a vx vy wx wy D t s) N (-t)
    rw [impl_directions_l0]
    simp only [ile_eq, show s ≤ t by omega, decide_true, cond_true, e0]
    rw [dirs_l1 h (by omega) hL N L (-t) w (by omega) (by omega) (by omega) (by omega)]
    rw [ih m (s + 1) _ (by omega) (by omega) (by omega) (by rw [List.length_append]; omega), allD, List.append_assoc]

/-- all told directions in which the width is at most t, as they come -/
noncomputable def dirL (a : List Pt) (t : Int) : List Pt :=
  allD (dirOf a ((pt a 1).x - (pt a 0).x) ((pt a 1).y - (pt a 0).y) ((pt a 2).x - (pt a 0).x) ((pt a 2).y - (pt a 0).y) (turn (pt a 0) (pt a 1) (pt a 2)) t) (2 * t + 1).toNat (-t) (2 * t + 1).toNat (-t)

theorem vw_of {a : List Pt} {t : Int} (g : Good_ a) (ht : 0 ≤ t ∧ t ≤ 100) : Vw a ((pt a 1).x - (pt a 0).x) ((pt a 1).y - (pt a 0).y) ((pt a 2).x - (pt a 0).x) ((pt a 2).y - (pt a 0).y) (turn (pt a 0) (pt a 1) (pt a 2)) t := by
  have hn : a ≠ [] := by intro e; have := g.lo; subst e; simp at this
  have hin := in_all g.isIn hn
  have i0 := hin 0
  have i1 := hin 1
  have i2 := hin 2
  have hl := g.lo
  have hh := g.hi
  unfold In at i0 i1 i2
  exact ⟨hn, by omega, hin, ⟨by omega, by omega⟩, ⟨by omega, by omega⟩, g.turn 0 (Int.le_refl 0) (by omega), ht⟩

theorem all_eq {L : Nat} {a : List Pt} {t : Int} (g : Good_ a) (ht : 0 ≤ t ∧ t ≤ 100) (hL : 200000 < L) : spec_wiAll L a t = some ((isort (dirL a t)).map row) ∧ impl_directions L a t = impl_sorted L (dirL a t) := by
  have h := vw_of g ht
  have hl := g.lo
  have l0 : lget a 0 = some (pt a 0) := lget_pt (Int.le_refl 0) (by omega)
  have l1 : lget a 1 = some (pt a 1) := lget_pt (by omega) (by omega)
  have l2 : lget a 2 = some (pt a 2) := lget_pt (by omega) (by omega)
  have i0 := h.isIn 0
  have i1 := h.isIn 1
  have i2 := h.isIn 2
  have e0 : wr IntKind.i64 (isub 0 t) = -t := by rw [isub_eq, wr_v (by omega)]; omega
  have e1 : wr IntKind.i64 (isub (pt a 1).x (pt a 0).x) = (pt a 1).x - (pt a 0).x := by rw [isub_eq, wr_v (by unfold In at *; omega)]
  have e2 : wr IntKind.i64 (isub (pt a 1).y (pt a 0).y) = (pt a 1).y - (pt a 0).y := by rw [isub_eq, wr_v (by unfold In at *; omega)]
  have e3 : wr IntKind.i64 (isub (pt a 2).x (pt a 0).x) = (pt a 2).x - (pt a 0).x := by rw [isub_eq, wr_v (by unfold In at *; omega)]
  have e4 : wr IntKind.i64 (isub (pt a 2).y (pt a 0).y) = (pt a 2).y - (pt a 0).y := by rw [isub_eq, wr_v (by unfold In at *; omega)]
  have m1 := mul_bd h.v.1 h.w.2
  have m2 := mul_bd h.v.2 h.w.1
  have e5 : wr IntKind.i64 (isub (wr IntKind.i64 (imul ((pt a 1).x - (pt a 0).x) ((pt a 2).y - (pt a 0).y))) (wr IntKind.i64 (imul ((pt a 1).y - (pt a 0).y) ((pt a 2).x - (pt a 0).x)))) = turn (pt a 0) (pt a 1) (pt a 2) := by
    simp only [imul_eq, isub_eq]
    rw [wr_v (n := ((pt a 1).x - (pt a 0).x) * ((pt a 2).y - (pt a 0).y)) (by omega), wr_v (n := ((pt a 1).y - (pt a 0).y) * ((pt a 2).x - (pt a 0).x)) (by omega), wr_v (by omega)]
    rfl
  constructor
  · unfold spec_wiAll
    simp only [l0, l1, l2, gbind_eq, Option.bind_some, e0, e1, e2, e3, e4, e5]
    have := wiAll_l0 h hL (N := (2 * t + 1).toNat) (by omega) (2 * t + 1).toNat L (-t) [] (by omega) (by omega) (by omega) .nil (by simp; omega)
    rw [List.map_nil] at this
    exact this
  · unfold impl_directions impl_Peg_less impl_cross
    simp only [l0, l1, l2, gbind_eq, Option.bind_some, e0, e1, e2, e3, e4, e5]
    exact dirs_l0 h hL (N := (2 * t + 1).toNat) (by omega) (2 * t + 1).toNat L (-t) [] (by omega) (by omega) (by omega) (by simp; omega)

theorem dirL_len {a : List Pt} {t : Int} (ht : 0 ≤ t ∧ t ≤ 100) : ((dirL a t).length : Int) ≤ 100000 := by
  have key : ∀ (f : Int → Int → Option Pt) (N : Nat) (u0 : Int) (n : Nat) (s : Int), (allD f N u0 n s).length ≤ n * N := by
    intro f N u0 n
    induction n with
    | zero => intro s; simp [allD]
    | succ n ih =>
      intro s
      have h1 := ih (s + 1)
      have h2 := col_len (f s) N u0
      rw [allD, List.length_append, Nat.succ_mul]
      omega
  have := key (dirOf a ((pt a 1).x - (pt a 0).x) ((pt a 1).y - (pt a 0).y) ((pt a 2).x - (pt a 0).x) ((pt a 2).y - (pt a 0).y) (turn (pt a 0) (pt a 1) (pt a 2)) t) (2 * t + 1).toNat (-t) (2 * t + 1).toNat (-t)
  have h1 : (2 * t + 1).toNat ≤ 201 := by omega
  have h2 := Nat.mul_le_mul h1 h1
  unfold dirL
  omega
end Go.AM

namespace Go.AM
set_option linter.unusedVariables false

theorem impl_sorted_any {L : Nat} {a : List Pt} (hs : (a.length : Int) ≤ 1000000) : impl_sorted L a = some (isort a) := by
  by_cases hn : a = []
  · subst hn
    have h0 : ilen ([] : List AV) = 0 := by rw [ilen_eq]; rfl
    have f0 : fits (iadd (0 : Int) 0) 16 = true := by rw [iadd_eq]; exact fits_l (by omega)
    have hc : slices_Clone_impl_Peg_impl_Peg L [] = some [] := by
      unfold slices_Clone_impl_Peg_impl_Peg
      simp only [List.map_nil, h0, ieq_eq, decide_true, cond_true, f0, lcat_eq, List.append_nil]
      exact osame_same rfl
    unfold impl_sorted slices_SortFunc_impl_Peg_impl_Peg
    simp only [hc, gbind_eq, Option.bind_some, sortP_eq (a := []) (by simp)]
  · exact impl_sorted_eq hn hs

end Go.AM

namespace Go.AM
set_option linter.unusedVariables false

theorem col_mem {f : Int → Option Pt} {p : Pt} : ∀ {n : Nat} {u : Int}, p ∈ col f n u ↔ ∃ v, u ≤ v ∧ v < u + n ∧ f v = some p
  | 0, u => by
    simp only [col, List.not_mem_nil, false_iff]
    rintro ⟨v, h1, h2, _⟩; omega
  | n + 1, u => by
    rw [col, List.mem_append, col_mem (n := n) (u := u + 1)]
    constructor
    · rintro (h | ⟨v, h1, h2, h3⟩)
      · refine ⟨u, by omega, by omega, ?_⟩
        simpa [Option.mem_toList] using h
      · exact ⟨v, by omega, by omega, h3⟩
    · rintro ⟨v, h1, h2, h3⟩
      by_cases e : v = u
      · left; rw [← e, h3]; simp
      · right; exact ⟨v, by omega, by omega, h3⟩

theorem allD_mem {f : Int → Int → Option Pt} {N : Nat} {u0 : Int} {p : Pt} : ∀ {n : Nat} {s : Int}, p ∈ allD f N u0 n s ↔ ∃ v, s ≤ v ∧ v < s + n ∧ ∃ u, u0 ≤ u ∧ u < u0 + N ∧ f v u = some p
  | 0, s => by
    simp only [allD, List.not_mem_nil, false_iff]
    rintro ⟨v, h1, h2, _⟩; omega
  | n + 1, s => by
    rw [allD, List.mem_append, allD_mem (n := n) (s := s + 1), col_mem]
    constructor
    · rintro (h | ⟨v, h1, h2, h3⟩)
      · exact ⟨s, by omega, by omega, h⟩
      · exact ⟨v, by omega, by omega, h3⟩
    · rintro ⟨v, h1, h2, h3⟩
      by_cases e : v = s
      · left; rw [← e]; exact h3
      · right; exact ⟨v, by omega, by omega, h3⟩

/-- a told direction -/
def ToldD (p : Pt) : Prop := Nat.gcd p.x.natAbs p.y.natAbs = 1 ∧ (0 < p.x ∨ (p.x = 0 ∧ 1 ≤ p.y))

theorem rng_le {f : Pt → Int} : ∀ (l : List Pt) (u v : Int), (rng f l u v).1 ≤ u ∧ v ≤ (rng f l u v).2 ∧ ∀ p ∈ l, (rng f l u v).1 ≤ f p ∧ f p ≤ (rng f l u v).2
  | [], u, v => ⟨Int.le_refl _, Int.le_refl _, fun p hp => by cases hp⟩
  | q :: l, u, v => by
    have i1 : (if u < f q then u else f q) ≤ u ∧ (if u < f q then u else f q) ≤ f q := by split <;> omega
    have i2 : v ≤ (if f q < v then v else f q) ∧ f q ≤ (if f q < v then v else f q) := by split <;> omega
    rw [rng]
    generalize (if u < f q then u else f q) = u' at *
    generalize (if f q < v then v else f q) = v' at *
    obtain ⟨h1, h2, h3⟩ := rng_le (f := f) l u' v'
    refine ⟨by omega, by omega, fun p hp => ?_⟩
    rcases List.mem_cons.1 hp with e | hp
    · subst e; omega
    · exact h3 p hp

theorem wdth_ge {a : List Pt} {x y : Int} (i j : Int) (hn : a ≠ []) : val x y (pt a i) - val x y (pt a j) ≤ wdth a x y := by
  obtain ⟨_, _, h⟩ := rng_le (f := val x y) a (val x y (pt a 0)) (val x y (pt a 0))
  have h1 := h _ (pt_mem hn i)
  have h2 := h _ (pt_mem hn j)
  unfold wdth rngOf
  omega

theorem dirL_mem {a : List Pt} {t : Int} {p : Pt} (g : Good_ a) (ht : 0 ≤ t ∧ t ≤ 100) : p ∈ dirL a t ↔ ToldD p ∧ wdth a p.x p.y ≤ t := by
  have h := vw_of g ht
  unfold dirL
  rw [allD_mem]
  constructor
  · rintro ⟨s, _, _, u, _, _, e⟩
    unfold dirOf at e
    split at e
    · rename_i c
      cases e
      exact ⟨⟨c.2.2.2.1, c.2.2.1⟩, c.2.2.2.2⟩
    · cases e
  · rintro ⟨⟨h1, h2⟩, h3⟩
    have w1 := wdth_ge (x := p.x) (y := p.y) 1 0 h.nn
    have w2 := wdth_ge (x := p.x) (y := p.y) 0 1 h.nn
    have w3 := wdth_ge (x := p.x) (y := p.y) 2 0 h.nn
    have w4 := wdth_ge (x := p.x) (y := p.y) 0 2 h.nn
    have e1 : val p.x p.y (pt a 1) - val p.x p.y (pt a 0) = p.x * ((pt a 1).x - (pt a 0).x) + p.y * ((pt a 1).y - (pt a 0).y) := by unfold val; grind
    have e2 : val p.x p.y (pt a 2) - val p.x p.y (pt a 0) = p.x * ((pt a 2).x - (pt a 0).x) + p.y * ((pt a 2).y - (pt a 0).y) := by unfold val; grind
    refine ⟨p.x * ((pt a 1).x - (pt a 0).x) + p.y * ((pt a 1).y - (pt a 0).y), by omega, by omega, p.x * ((pt a 2).x - (pt a 0).x) + p.y * ((pt a 2).y - (pt a 0).y), by omega, by omega, ?_⟩
    have hd := h.d
    have eX : (p.x * ((pt a 1).x - (pt a 0).x) + p.y * ((pt a 1).y - (pt a 0).y)) * ((pt a 2).y - (pt a 0).y) - (p.x * ((pt a 2).x - (pt a 0).x) + p.y * ((pt a 2).y - (pt a 0).y)) * ((pt a 1).y - (pt a 0).y) = p.x * turn (pt a 0) (pt a 1) (pt a 2) := by unfold turn; grind
    have eY : (p.x * ((pt a 2).x - (pt a 0).x) + p.y * ((pt a 2).y - (pt a 0).y)) * ((pt a 1).x - (pt a 0).x) - (p.x * ((pt a 1).x - (pt a 0).x) + p.y * ((pt a 1).y - (pt a 0).y)) * ((pt a 2).x - (pt a 0).x) = p.y * turn (pt a 0) (pt a 1) (pt a 2) := by unfold turn; grind
    unfold dirOf
    rw [eX, eY, Int.mul_tdiv_cancel _ hd, Int.mul_tdiv_cancel _ hd]
    rw [if_pos ⟨Int.mul_tmod_left _ _, Int.mul_tmod_left _ _, h2, h1, h3⟩]

/-- no told direction has width nothing -/
theorem wdth_pos {a : List Pt} {p : Pt} (g : Good_ a) (hp : ToldD p) : 1 ≤ wdth a p.x p.y := by
  have h := vw_of g (t := 0) (by omega)
  have w1 := wdth_ge (x := p.x) (y := p.y) 1 0 h.nn
  have w2 := wdth_ge (x := p.x) (y := p.y) 0 1 h.nn
  have w3 := wdth_ge (x := p.x) (y := p.y) 2 0 h.nn
  have w4 := wdth_ge (x := p.x) (y := p.y) 0 2 h.nn
  rcases Int.lt_or_le 0 (wdth a p.x p.y) with h1 | h1
  · omega
  · exfalso
    have hm : p ∈ dirL a 0 := (dirL_mem g (by omega)).2 ⟨hp, h1⟩
    have e1 : val p.x p.y (pt a 1) - val p.x p.y (pt a 0) = p.x * ((pt a 1).x - (pt a 0).x) + p.y * ((pt a 1).y - (pt a 0).y) := by unfold val; grind
    have e2 : val p.x p.y (pt a 2) - val p.x p.y (pt a 0) = p.x * ((pt a 2).x - (pt a 0).x) + p.y * ((pt a 2).y - (pt a 0).y) := by unfold val; grind
    have z1 : p.x * ((pt a 1).x - (pt a 0).x) + p.y * ((pt a 1).y - (pt a 0).y) = 0 := by omega
    have z2 : p.x * ((pt a 2).x - (pt a 0).x) + p.y * ((pt a 2).y - (pt a 0).y) = 0 := by omega
    have eX : p.x * turn (pt a 0) (pt a 1) (pt a 2) = 0 := by
      have : p.x * turn (pt a 0) (pt a 1) (pt a 2) = (p.x * ((pt a 1).x - (pt a 0).x) + p.y * ((pt a 1).y - (pt a 0).y)) * ((pt a 2).y - (pt a 0).y) - (p.x * ((pt a 2).x - (pt a 0).x) + p.y * ((pt a 2).y - (pt a 0).y)) * ((pt a 1).y - (pt a 0).y) := by unfold turn; grind
      rw [this, z1, z2]; omega
    have eY : p.y * turn (pt a 0) (pt a 1) (pt a 2) = 0 := by
      have : p.y * turn (pt a 0) (pt a 1) (pt a 2) = (p.x * ((pt a 2).x - (pt a 0).x) + p.y * ((pt a 2).y - (pt a 0).y)) * ((pt a 1).x - (pt a 0).x) - (p.x * ((pt a 1).x - (pt a 0).x) + p.y * ((pt a 1).y - (pt a 0).y)) * ((pt a 2).x - (pt a 0).x) := by unfold turn; grind
      rw [this, z1, z2]; omega
    have hx := (Int.mul_eq_zero.1 eX).resolve_right h.d
    have hy := (Int.mul_eq_zero.1 eY).resolve_right h.d
    have := hp.2
    omega
end Go.AM

namespace Go.AM
set_option linter.unusedVariables false

theorem wiLeast_l0 {L : Nat} {a : List Pt} {W : Int} (g : Good_ a) (hL : 200000 < L) (h1 : 1 ≤ W ∧ W ≤ 100) (hn : dirL a W ≠ []) (hno : ∀ t, 1 ≤ t → t < W → dirL a t = []) :
    ∀ (n m : Nat) (v : Int), v + n = W → n < m → 1 ≤ v → spec_wiLeast_l0 L a m v = some (W, (isort (dirL a W)).map row) := by
  intro n
  induction n with
  | zero =>
    intro m v hv hm h0
    obtain ⟨m, rfl⟩ : ∃ k, m = k + 1 := ⟨m - 1, by omega⟩
    obtain rfl : v = W := by omega
    have hp := List.length_pos_iff.2 hn
    rw [spec_wiLeast_l0, (all_eq g (by omega) hL).1]
    simp only [gbind_eq, Option.bind_some, ilen_li, List.length_map, isort_len, ilt_eq, show (0 : Int) < ((dirL a v).length : Int) by omega, decide_true, cond_true]
  | succ n ih =>
    intro m v hv hm h0
    obtain ⟨m, rfl⟩ : ∃ k, m = k + 1 := ⟨m - 1, by omega⟩
    have e := hno v h0 (by omega)
    rw [spec_wiLeast_l0, (all_eq g (by omega) hL).1, e]
    have e0 : isort ([] : List Pt) = [] := rfl
    simp only [gbind_eq, Option.bind_some, e0, List.map_nil, show ilen ([] : List AV) = 0 by rw [ilen_eq]; rfl, ilt_eq, Int.lt_irrefl, decide_false, cond_false, iadd_eq]
    rw [wr_s (by omega)]
    exact ih m (v + 1) (by omega) (by omega) (by omega)

/-- the least of some values -/
def minF (f : Pt → Int) : List Pt → Int → Int
  | [], b => b
  | p :: l, b => minF f l (if f p < b then f p else b)

theorem minF_spec {f : Pt → Int} : ∀ (l : List Pt) (b : Int), minF f l b ≤ b ∧ (∀ p ∈ l, minF f l b ≤ f p) ∧ (minF f l b = b ∨ ∃ p ∈ l, f p = minF f l b)
  | [], b => ⟨Int.le_refl _, fun p hp => (by cases hp), .inl rfl⟩
  | q :: l, b => by
    have i1 : (if f q < b then f q else b) ≤ b ∧ (if f q < b then f q else b) ≤ f q ∧ ((if f q < b then f q else b) = b ∨ (if f q < b then f q else b) = f q) := by split <;> omega
    rw [minF]
    generalize (if f q < b then f q else b) = b' at *
    obtain ⟨h1, h2, h3⟩ := minF_spec (f := f) l b'
    refine ⟨by omega, fun p hp => ?_, ?_⟩
    · rcases List.mem_cons.1 hp with e | hp
      · subst e; omega
      · exact h2 p hp
    · rcases h3 with h3 | ⟨p, hp, e⟩
      · rcases i1.2.2 with e | e
        · left; omega
        · right; exact ⟨q, by simp, by omega⟩
      · right; exact ⟨p, by simp [hp], e⟩

/-- a told direction's width where one is asked for by the machine -/
theorem wd_eq {L : Nat} {a : List Pt} {x y : Int} (g : Good_ a) (hx : -100000 ≤ x ∧ x ≤ 100000) (hy : -100000 ≤ y ∧ y ≤ 100000) (hL : 200000 < L) : impl_width L a x y = some (wdth a x y) := by
  have h := vw_of g (t := 0) (by omega)
  exact (width_eq hx hy h.nn h.len h.isIn (by have := h.len; omega)).2

theorem axis_le {a : List Pt} (g : Good_ a) : wdth a 1 0 ≤ 80 ∧ wdth a 0 1 ≤ 80 := by
  have h := vw_of g (t := 0) (by omega)
  have key : ∀ x y : Int, (∀ p, val x y p = p.x) ∨ (∀ p, val x y p = p.y) → wdth a x y ≤ 80 := by
    intro x y hv
    have vb : ∀ p, In p → -40 ≤ val x y p ∧ val x y p ≤ 40 := fun p hp => by
      unfold In at hp
      rcases hv with hv | hv <;> rw [hv] <;> omega
    have bd := rng_bd (f := val x y) (A := -40) (B := 40) a (val x y (pt a 0)) (val x y (pt a 0)) (vb _ (h.isIn 0)) (vb _ (h.isIn 0)) fun p hp => by
      obtain ⟨i, _, _, e⟩ := mem_pt hp
      rw [← e]; exact vb _ (h.isIn i)
    unfold wdth rngOf
    omega
  exact ⟨key 1 0 (.inl fun p => by unfold val; omega), key 0 1 (.inr fun p => by unfold val; omega)⟩
end Go.AM

namespace Go.AM
set_option linter.unusedVariables false

theorem pred_eq {L : Nat} {a : List Pt} {p : Pt} {n : Int} (g : Good_ a) (hx : -100000 ≤ p.x ∧ p.x ≤ 100000) (hy : -100000 ≤ p.y ∧ p.y ≤ 100000) (hL : 200000 < L) : impl_least_1_v2 L p.x p.y a n = some (decide (n < wdth a p.x p.y)) := by
  unfold impl_least_1_v2
  simp only [wd_eq g hx hy hL, gbind_eq, Option.bind_some, ilt_eq]

end Go.AM

namespace Go.AM
set_option linter.unusedVariables false

end Go.AM

namespace Go.AM
set_option linter.unusedVariables false

end Go.AM

namespace Go.AM
set_option linter.unusedVariables false

theorem told10 : ToldD ⟨1, 0⟩ := ⟨by decide, .inl (by decide)⟩
theorem told01 : ToldD ⟨0, 1⟩ := ⟨by decide, .inr ⟨rfl, by decide⟩⟩

theorem ToldD.le {a : List Pt} {p : Pt} {t : Int} (g : Good_ a) (ht : 0 ≤ t ∧ t ≤ 100) (h : ToldD p) (hw : wdth a p.x p.y ≤ t) : p ∈ dirL a t := (dirL_mem g ht).2 ⟨h, hw⟩

/-- the width of an axis that is least -/
noncomputable def axW (a : List Pt) : Int := imin (wdth a 1 0) (wdth a 0 1)

theorem axW_bd {a : List Pt} (g : Good_ a) : 1 ≤ axW a ∧ axW a ≤ 80 := by
  have h1 := wdth_pos g told10
  have h2 := wdth_pos g told01
  have h3 := axis_le g
  unfold axW
  rw [imin_eq]
  simp only at h1 h2
  split <;> omega

theorem axW_ne {a : List Pt} (g : Good_ a) : dirL a (axW a) ≠ [] := by
  have hb := axW_bd g
  have : (wdth a 1 0 ≤ axW a) ∨ (wdth a 0 1 ≤ axW a) := by
    unfold axW; rw [imin_eq]; split <;> omega
  rcases this with h | h
  · exact List.ne_nil_of_mem (ToldD.le g (by omega) told10 h)
  · exact List.ne_nil_of_mem (ToldD.le g (by omega) told01 h)

/-- the least width -/
noncomputable def leastW (a : List Pt) : Int := minF (fun p => wdth a p.x p.y) (isort (dirL a (axW a))) (wdth a (pt (isort (dirL a (axW a))) 0).x (pt (isort (dirL a (axW a))) 0).y)

theorem leastW_spec {a : List Pt} (g : Good_ a) : (1 ≤ leastW a ∧ leastW a ≤ 80) ∧ dirL a (leastW a) ≠ [] ∧ ∀ t, 1 ≤ t → t < leastW a → dirL a t = [] := by
  have hb := axW_bd g
  have hn : isort (dirL a (axW a)) ≠ [] := fun e => axW_ne g (by have := isort_len (dirL a (axW a)); rw [e] at this; exact List.eq_nil_of_length_eq_zero this.symm)
  have hm : ∀ p, p ∈ isort (dirL a (axW a)) ↔ ToldD p ∧ wdth a p.x p.y ≤ axW a := fun p => by rw [isort_mem, dirL_mem g (by omega)]
  obtain ⟨h1, h2, h3⟩ := minF_spec (f := fun p => wdth a p.x p.y) (isort (dirL a (axW a))) (wdth a (pt (isort (dirL a (axW a))) 0).x (pt (isort (dirL a (axW a))) 0).y)
  have h3' : ∃ p ∈ isort (dirL a (axW a)), wdth a p.x p.y = leastW a := by
    rcases h3 with h3 | ⟨p, hp, e⟩
    · exact ⟨_, pt_mem hn 0, h3.symm⟩
    · exact ⟨p, hp, e⟩
  obtain ⟨p, hp, e⟩ := h3'
  obtain ⟨hp1, hp2⟩ := (hm p).1 hp
  have hpos := wdth_pos g hp1
  refine ⟨by omega, List.ne_nil_of_mem (ToldD.le g (by omega) hp1 (by omega)), fun t ht1 ht2 => ?_⟩
  cases hd : dirL a t with
  | nil => rfl
  | cons q l =>
    exfalso
    have hq : q ∈ dirL a t := by rw [hd]; simp
    obtain ⟨hq1, hq2⟩ := (dirL_mem g (by omega)).1 hq
    have := h2 q ((hm q).2 ⟨hq1, by omega⟩)
    have h5 : leastW a ≤ wdth a q.x q.y := this
    omega

end Go.AM

namespace Go.AM
set_option linter.unusedVariables false

theorem dir_S {a : List Pt} (g : Good_ a) : isort (dirL a (axW a)) ≠ [] := fun e => axW_ne g (by have := isort_len (dirL a (axW a)); rw [e] at this; exact List.eq_nil_of_length_eq_zero this.symm)

theorem told_bd {a : List Pt} {p : Pt} {t : Int} (g : Good_ a) (ht : 0 ≤ t ∧ t ≤ 100) (hp : p ∈ dirL a t) : (-100000 ≤ p.x ∧ p.x ≤ 100000) ∧ (-100000 ≤ p.y ∧ p.y ≤ 100000) := by
  have h := vw_of g ht
  unfold dirL at hp
  rw [allD_mem] at hp
  obtain ⟨s, s0, s1, u, u0, u1, e⟩ := hp
  have i0 := h.isIn 0
  have i1 := h.isIn 1
  have i2 := h.isIn 2
  unfold In at i0 i1 i2
  unfold dirOf at e
  split at e
  · cases e
    have m1 := mul_bd (x := s) (y := (pt a 2).y - (pt a 0).y) (A := 100) (B := 80) (by omega) (by omega)
    have m2 := mul_bd (x := u) (y := (pt a 1).y - (pt a 0).y) (A := 100) (B := 80) (by omega) (by omega)
    have m3 := mul_bd (x := u) (y := (pt a 1).x - (pt a 0).x) (A := 100) (B := 80) (by omega) (by omega)
    have m4 := mul_bd (x := s) (y := (pt a 2).x - (pt a 0).x) (A := 100) (B := 80) (by omega) (by omega)
    have b1 := tdiv_bd (a := s * ((pt a 2).y - (pt a 0).y) - u * ((pt a 1).y - (pt a 0).y)) (b := turn (pt a 0) (pt a 1) (pt a 2)) (A := 100000) (by omega)
    have b2 := tdiv_bd (a := u * ((pt a 1).x - (pt a 0).x) - s * ((pt a 2).x - (pt a 0).x)) (b := turn (pt a 0) (pt a 1) (pt a 2)) (A := 100000) (by omega)
    exact ⟨b1, b2⟩
  · cases e

theorem wiLeast_eq {L : Nat} {a : List Pt} (g : Good_ a) (hL : 200000 < L) : spec_wiLeast L a = some (leastW a, (isort (dirL a (leastW a))).map row) := by
  obtain ⟨h1, h2, h3⟩ := leastW_spec g
  unfold spec_wiLeast
  exact wiLeast_l0 g hL (by omega) h2 h3 ((leastW a).toNat - 1) L 1 (by omega) (by omega) (by omega)

end Go.AM

namespace Go.AM
set_option linter.unusedVariables false

noncomputable def okW (a : List Pt) (n : Int) (p : Pt) : Bool := decide (wdth a p.x p.y ≤ n)

theorem drop_pt {S : List Pt} {i : Nat} (h : i < S.length) : S.drop i = pt S i :: S.drop (i + 1) := by
  have hg := pt_get (a := S) (i := (i : Int)) (by omega) (by omega)
  rw [Int.toNat_natCast, List.getElem?_eq_getElem h] at hg
  rw [List.drop_eq_getElem_cons h, Option.some.inj hg]

theorem take_pt {S : List Pt} {i : Nat} (h : i < S.length) : S.take (i + 1) = S.take i ++ [pt S i] := by
  have hg := pt_get (a := S) (i := (i : Int)) (by omega) (by omega)
  rw [Int.toNat_natCast] at hg
  rw [List.take_add_one, hg]; rfl

theorem idx_val {L : Nat} {a S : List Pt} {n : Int} (g : Good_ a) (hS : ∀ p ∈ S, (-100000 ≤ p.x ∧ p.x ≤ 100000) ∧ (-100000 ≤ p.y ∧ p.y ≤ 100000)) (hl : (S.length : Int) ≤ 100000) (hL : 200000 < L) :
    ∀ (m i : Nat), i ≤ S.length → S.length - i < m → (∀ p ∈ S.take i, okW a n p = true) → ∃ r : Int, slices_IndexFunc_impl_Peg_impl_Peg_172_impl_least_1_l0 L S a n m i = some r ∧
      ((r = -1 ∧ ∀ p ∈ S, okW a n p = true) ∨ (0 ≤ r ∧ r < S.length ∧ (∀ p ∈ S.take r.toNat, okW a n p = true) ∧ okW a n (pt S r) = false)) := by
  intro m
  induction m with
  | zero => intro i _ h; omega
  | succ m ih =>
    intro i hi hm hp0
    rw [slices_IndexFunc_impl_Peg_impl_Peg_172_impl_least_1_l0]
    by_cases h : (i : Int) < (S.length : Int)
    · have hlt : i < S.length := by omega
      have wi : wr IntKind.i64 (iadd (i : Int) 1) = ((i + 1 : Nat) : Int) := by rw [iadd_eq, wr_s (by omega)]; omega
      have hp := hS (pt S i) (pt_mem (by intro e; subst e; simp at hlt) i)
      simp only [ilen_mapep, ilt_eq, h, decide_true, cond_true, lget_pt (show (0 : Int) ≤ i by omega) h, gbind_eq, Option.bind_some, pred_eq g hp.1 hp.2 hL, wi]
      by_cases hq : n < wdth a (pt S i).x (pt S i).y
      · simp only [hq, decide_true, cond_true]
        exact ⟨_, rfl, .inr ⟨by omega, by omega, by rw [Int.toNat_natCast]; exact hp0, by unfold okW; exact decide_eq_false (by omega)⟩⟩
      · simp only [hq, decide_false, cond_false]
        refine ih (i + 1) (by omega) (by omega) fun p hp => ?_
        rw [take_pt hlt] at hp
        rcases List.mem_append.1 hp with hp | hp
        · exact hp0 p hp
        · rw [List.mem_singleton.1 hp]; unfold okW; exact decide_eq_true (by omega)
    · simp only [ilen_mapep, ilt_eq, h, decide_false, cond_false]
      exact ⟨_, rfl, .inl ⟨rfl, by rwa [List.take_of_length_le (by omega)] at hp0⟩⟩

theorem del_val {L : Nat} {a : List Pt} {n : Int} {F : List Pt} (g : Good_ a) (hL : 200000 < L) :
    ∀ (m : Nat) (u v : Nat) (w : List Pt), u ≤ v → v ≤ w.length → (w.length : Int) ≤ 100000 → (∀ p ∈ w, (-100000 ≤ p.x ∧ p.x ≤ 100000) ∧ (-100000 ≤ p.y ∧ p.y ≤ 100000)) → w.length - v < m →
      w.take u ++ (w.drop v).filter (okW a n) = F →
      ∃ r, slices_DeleteFunc_impl_Peg_impl_Peg_least_l0 L a n m u v w = some r ∧ lsub r.2 0 (iadd 0 r.1) = F := by
  intro m
  induction m with
  | zero => intro u v w h1 h2 _ _ h; omega
  | succ m ih =>
    intro u v w h1 h2 hl hS hm hF
    rw [slices_DeleteFunc_impl_Peg_impl_Peg_least_l0]
    by_cases h : (v : Int) < (w.length : Int)
    · have wv : wr IntKind.i64 (iadd (v : Int) 1) = ((v + 1 : Nat) : Int) := by rw [iadd_eq, wr_s (by omega)]; omega
      have wu : wr IntKind.i64 (iadd (u : Int) 1) = ((u + 1 : Nat) : Int) := by rw [iadd_eq, wr_s (by omega)]; omega
      have hne : w ≠ [] := by intro e; subst e; simp at h; omega
      have hp := hS (pt w v) (pt_mem hne v)
      rw [drop_pt (by omega)] at hF
      simp only [ilen_mapep, ilt_eq, ile_eq, h, show (0 : Int) ≤ (v : Int) by omega, show (0 : Int) ≤ (u : Int) by omega, show (u : Int) < (w.length : Int) by omega, decide_true, Bool.and_self, cond_true, lget_pt (show (0 : Int) ≤ (v : Int) by omega) h, lget_pt (show (0 : Int) ≤ (u : Int) by omega) (show (u : Int) < (w.length : Int) by omega), gbind_eq, Option.bind_some, pred_eq g hp.1 hp.2 hL, wv, wu]
      by_cases hq : n < wdth a (pt w v).x (pt w v).y
      · simp only [hq, decide_true, Bool.not_true, cond_false]
        refine ih u (v + 1) w (by omega) (by omega) hl hS (by omega) ?_
        have hk : okW a n (pt w v) = false := by unfold okW; exact decide_eq_false (by omega)
        rwa [List.filter_cons_of_neg (by rw [hk]; simp)] at hF
      · simp only [hq, decide_false, Bool.not_false, cond_true, lset_eq, Int.toNat_natCast]
        refine ih (u + 1) (v + 1) _ (by omega) (by simp; omega) (by simpa using hl) (fun p hp' => ?_) (by simp; omega) ?_
        · rcases List.mem_or_eq_of_mem_set hp' with h | h
          · exact hS p h
          · rw [h]; exact hp
        · have hk : okW a n (pt w v) = true := by unfold okW; exact decide_eq_true (by omega)
          rw [List.filter_cons_of_pos hk] at hF
          rw [← hF, List.drop_set_of_lt (by omega), List.take_add_one, List.take_set_of_le (Nat.le_refl _), List.getElem?_set_self (by omega)]
          simp
    · have lu : (lsub (List.map ep w) 0 (u : Int)).length = u := by rw [lsub_eq]; simp; omega
      have hb : (u : Int) ≤ ilen (lcat (lcat (lsub (List.map ep w) 0 (u : Int)) (lrep (isub (w.length : Int) u) (AV.agg [AV.int IntKind.i64 0, AV.int IntKind.i64 0]))) (lsub (List.map ep w) (iadd u (isub (w.length : Int) u)) (w.length : Int))) := by
        rw [ilen_eq, lcat_eq, lcat_eq, List.length_append, List.length_append, lu]; omega
      simp only [ilen_mapep, ilt_eq, ile_eq, h, show (0 : Int) ≤ (u : Int) by omega, show (u : Int) ≤ (w.length : Int) by omega, hb, decide_true, decide_false, Bool.and_self, cond_true, cond_false]
      refine ⟨_, rfl, ?_⟩
      rw [List.drop_of_length_le (by omega)] at hF
      simp only [List.filter_nil, List.append_nil] at hF
      rw [← hF]
      simp only [lcat_eq, lsub_eq, iadd_eq, isub_eq]
      rw [show (0 : Int).toNat = 0 from rfl, List.drop_zero, List.drop_zero, List.append_assoc, show (0 + (u : Int) - 0).toNat = u by omega, show ((u : Int) - 0).toNat = u by omega, List.take_append_of_le_length (by simp; omega), List.take_take, Nat.min_self]

theorem del_full {L : Nat} {a S : List Pt} {n : Int} (g : Good_ a) (hS : ∀ p ∈ S, (-100000 ≤ p.x ∧ p.x ≤ 100000) ∧ (-100000 ≤ p.y ∧ p.y ≤ 100000)) (hl : (S.length : Int) ≤ 100000) (hL : 200000 < L) :
    ∃ r, slices_DeleteFunc_impl_Peg_impl_Peg_least L a n S = some r ∧ lsub r.2 0 (iadd 0 r.1) = S.filter (okW a n) := by
  obtain ⟨i, e, hi⟩ := idx_val (n := n) g hS hl hL L 0 (by omega) (by omega) (by simp)
  unfold slices_DeleteFunc_impl_Peg_impl_Peg_least slices_IndexFunc_impl_Peg_impl_Peg_172_impl_least_1
  rw [show ((0 : Nat) : Int) = 0 by rfl] at e
  simp only [e, gbind_eq, Option.bind_some, ieq_eq]
  rcases hi with ⟨h, hall⟩ | ⟨i0, i1, hpre, hno⟩
  · simp only [h, decide_true, cond_true]
    refine ⟨_, rfl, ?_⟩
    rw [List.filter_eq_self.2 hall, lsub_eq, iadd_eq, ilen_mapep]
    simp
  · simp only [show ¬ i = -1 by omega, decide_false, cond_false, iadd_eq]
    rw [wr_s (by omega)]
    have hlt : i.toNat < S.length := by omega
    have hv : S.take i.toNat ++ (S.drop (i.toNat + 1)).filter (okW a n) = S.filter (okW a n) := by
      have h1 : S.filter (okW a n) = (S.take i.toNat).filter (okW a n) ++ (S.drop i.toNat).filter (okW a n) := by rw [← List.filter_append, List.take_append_drop]
      rw [h1, List.filter_eq_self.2 hpre, drop_pt hlt]
      have e2 : pt S (i.toNat : Int) = pt S i := by rw [Int.toNat_of_nonneg i0]
      rw [e2, List.filter_cons_of_neg (by rw [hno]; simp)]
    obtain ⟨r, r1, r2⟩ := del_val (L := L) (n := n) g hL L i.toNat (i.toNat + 1) S (by omega) (by omega) hl hS (by omega) hv
    rw [Int.toNat_of_nonneg i0, show ((i.toNat + 1 : Nat) : Int) = i + 1 by omega] at r1
    exact ⟨r, r1, by rw [← r2, iadd_eq]⟩

theorem col_nodup {f : Int → Option Pt} (hi : ∀ u v p, f u = some p → f v = some p → u = v) : ∀ (n : Nat) (u : Int), (col f n u).Nodup
  | 0, _ => by simp [col]
  | n + 1, u => by
    rw [col, List.nodup_append]
    refine ⟨?_, col_nodup hi n _, fun p hp q hq => ?_⟩
    · cases f u <;> simp
    · intro e; subst e
      obtain ⟨v, v0, _, hv⟩ := col_mem.1 hq
      have hu : f u = some p := by simpa [Option.mem_toList] using hp
      have := hi u v p hu hv
      omega

theorem allD_nodup {f : Int → Int → Option Pt} {N : Nat} {u0 : Int} (hi : ∀ s u s' u' p, f s u = some p → f s' u' = some p → s = s' ∧ u = u') : ∀ (n : Nat) (s : Int), (allD f N u0 n s).Nodup
  | 0, _ => by simp [allD]
  | n + 1, s => by
    rw [allD, List.nodup_append]
    refine ⟨col_nodup (fun u v p h1 h2 => (hi s u s v p h1 h2).2) _ _, allD_nodup hi n _, fun p hp q hq => ?_⟩
    intro e; subst e
    obtain ⟨u, _, _, hu⟩ := col_mem.1 hp
    obtain ⟨s', s0, _, u', _, _, hu'⟩ := allD_mem.1 hq
    have := (hi s u s' u' p hu hu').1
    omega

theorem dirL_nodup {a : List Pt} {t : Int} (g : Good_ a) (ht : 0 ≤ t ∧ t ≤ 100) : (dirL a t).Nodup := by
  have h := vw_of g ht
  unfold dirL
  refine allD_nodup (fun s u s' u' p h1 h2 => ?_) _ _
  have hd := h.d
  have key : ∀ s u : Int, dirOf a ((pt a 1).x - (pt a 0).x) ((pt a 1).y - (pt a 0).y) ((pt a 2).x - (pt a 0).x) ((pt a 2).y - (pt a 0).y) (turn (pt a 0) (pt a 1) (pt a 2)) t s u = some p →
      p.x * ((pt a 1).x - (pt a 0).x) + p.y * ((pt a 1).y - (pt a 0).y) = s ∧ p.x * ((pt a 2).x - (pt a 0).x) + p.y * ((pt a 2).y - (pt a 0).y) = u := by
    intro s u e
    unfold dirOf at e
    split at e
    · rename_i c
      obtain ⟨c1, c2, _⟩ := c
      cases e
      have m1 := Int.tdiv_mul_cancel (Int.dvd_of_tmod_eq_zero c1)
      have m2 := Int.tdiv_mul_cancel (Int.dvd_of_tmod_eq_zero c2)
      have hD : turn (pt a 0) (pt a 1) (pt a 2) = ((pt a 1).x - (pt a 0).x) * ((pt a 2).y - (pt a 0).y) - ((pt a 1).y - (pt a 0).y) * ((pt a 2).x - (pt a 0).x) := rfl
      generalize (s * ((pt a 2).y - (pt a 0).y) - u * ((pt a 1).y - (pt a 0).y)).tdiv (turn (pt a 0) (pt a 1) (pt a 2)) = X at *
      generalize (u * ((pt a 1).x - (pt a 0).x) - s * ((pt a 2).x - (pt a 0).x)).tdiv (turn (pt a 0) (pt a 1) (pt a 2)) = Y at *
      generalize turn (pt a 0) (pt a 1) (pt a 2) = D at *
      generalize (pt a 1).x - (pt a 0).x = vx at *
      generalize (pt a 1).y - (pt a 0).y = vy at *
      generalize (pt a 2).x - (pt a 0).x = wx at *
      generalize (pt a 2).y - (pt a 0).y = wy at *
      simp only
      constructor
      · refine Int.eq_of_mul_eq_mul_right hd ?_
        have : (X * vx + Y * vy) * D = (X * D) * vx + (Y * D) * vy := by grind
        rw [this, m1, m2, hD]; grind
      · refine Int.eq_of_mul_eq_mul_right hd ?_
        have : (X * wx + Y * wy) * D = (X * D) * wx + (Y * D) * wy := by grind
        rw [this, m1, m2, hD]; grind
    · cases e
  obtain ⟨k1, k2⟩ := key s u h1
  obtain ⟨k3, k4⟩ := key s' u' h2
  exact ⟨by omega, by omega⟩

theorem filter_dir {a : List Pt} (g : Good_ a) : (isort (dirL a (axW a))).filter (okW a (leastW a)) = isort (dirL a (leastW a)) := by
  have hb := axW_bd g
  obtain ⟨h1, h2, h3⟩ := leastW_spec g
  have hle : leastW a ≤ axW a := by
    rcases Int.lt_or_le (axW a) (leastW a) with h | h
    · exact absurd (h3 (axW a) (by omega) h) (axW_ne g)
    · exact h
  rw [isort_filter]
  refine ord_one (isort_ord _) (isort_ord _) ((isort_perm _).trans (List.Perm.trans ?_ (isort_perm _).symm))
  refine (List.perm_ext_iff_of_nodup ((dirL_nodup g (by omega)).filter _) (dirL_nodup g (by omega))).2 fun p => ?_
  rw [List.mem_filter, dirL_mem g (by omega), dirL_mem g (by omega)]
  unfold okW
  simp only [decide_eq_true_eq]
  constructor
  · rintro ⟨⟨q1, q2⟩, q3⟩; exact ⟨q1, q3⟩
  · rintro ⟨q1, q3⟩; exact ⟨⟨q1, by omega⟩, q3⟩

theorem least_l0' {L : Nat} {a S : List Pt} (g : Good_ a) (hS : ∀ p ∈ S, (-100000 ≤ p.x ∧ p.x ≤ 100000) ∧ (-100000 ≤ p.y ∧ p.y ≤ 100000)) (hl : (S.length : Int) ≤ 100000) (hL : 200000 < L) :
    ∀ (m i : Nat) (b : Int), i ≤ S.length → S.length - i < m → impl_least_l0 L a S m i b = some (S.filter (okW a (minF (fun p => wdth a p.x p.y) (S.drop i) b)), minF (fun p => wdth a p.x p.y) (S.drop i) b) := by
  intro m
  induction m with
  | zero => intro i b _ h; omega
  | succ m ih =>
    intro i b hi hm
    rw [impl_least_l0]
    by_cases h : (i : Int) < (S.length : Int)
    · have hlt : i < S.length := by omega
      have wi : wr IntKind.i64 (iadd (i : Int) 1) = ((i + 1 : Nat) : Int) := by rw [iadd_eq, wr_s (by omega)]; omega
      have hp := hS (pt S i) (pt_mem (by intro e; subst e; simp at hlt) i)
      have hg := lget_pt (show (0 : Int) ≤ i by omega) h
      simp only [ilen_mapep, ilt_eq, ile_eq, h, show (0 : Int) ≤ i by omega, decide_true, Bool.and_self, cond_true, hg, gbind_eq, Option.bind_some, wd_eq g hp.1 hp.2 hL, wi]
      have e1 : imin b (wdth a (pt S i).x (pt S i).y) = if wdth a (pt S i).x (pt S i).y < b then wdth a (pt S i).x (pt S i).y else b := by rw [imin_eq]
      rw [ih (i + 1) (imin b (wdth a (pt S i).x (pt S i).y)) (by omega) (by omega), e1, drop_pt hlt, minF]
    · obtain ⟨r, hr, hf⟩ := del_full (n := b) g hS hl hL
      simp only [ilen_mapep, ilt_eq, h, decide_false, cond_false, hr, gbind_eq, Option.bind_some, osame_same rfl, hf]
      rw [List.drop_of_length_le (by omega), minF]

theorem impl_least_val {L : Nat} {a : List Pt} (g : Good_ a) (hL : 200000 < L) : impl_least L a = some (isort (dirL a (leastW a)), leastW a) := by
  have hb := axW_bd g
  have hS := dir_S g
  have hSb : ∀ p ∈ isort (dirL a (axW a)), (-100000 ≤ p.x ∧ p.x ≤ 100000) ∧ (-100000 ≤ p.y ∧ p.y ≤ 100000) := fun p hp => told_bd g (by omega) (isort_mem.1 hp)
  have hl := dirL_len (a := a) (t := axW a) (by omega)
  have hll : ((isort (dirL a (axW a))).length : Int) ≤ 100000 := by rw [isort_len]; exact hl
  have hlp := List.length_pos_iff.2 hS
  have p0 := hSb _ (pt_mem hS 0)
  have hR := least_l0' (L := L) g hSb hll hL L 0 (wdth a (pt (isort (dirL a (axW a))) 0).x (pt (isort (dirL a (axW a))) 0).y) (by omega) (by omega)
  unfold impl_least
  simp only [wd_eq (x := 1) (y := 0) g (by omega) (by omega) hL, wd_eq (x := 0) (y := 1) g (by omega) (by omega) hL, gbind_eq, Option.bind_some]
  rw [show imin (wdth a 1 0) (wdth a 0 1) = axW a from rfl, (all_eq g (by omega) hL).2, impl_sorted_any (by omega)]
  simp only [gbind_eq, Option.bind_some, ilen_mapep, ile_eq, ilt_eq, Int.le_refl, show (0 : Int) < ((isort (dirL a (axW a))).length : Int) by omega, decide_true, Bool.and_self, cond_true, lget_pt (Int.le_refl 0) (show (0 : Int) < ((isort (dirL a (axW a))).length : Int) by omega), wd_eq g p0.1 p0.2 hL]
  have e : minF (fun p => wdth a p.x p.y) (isort (dirL a (axW a))) (wdth a (pt (isort (dirL a (axW a))) 0).x (pt (isort (dirL a (axW a))) 0).y) = leastW a := rfl
  rw [show ((0 : Nat) : Int) = 0 by rfl, List.drop_zero, e, filter_dir g] at hR
  exact hR
end Go.AM

namespace Go.AM
set_option linter.unusedVariables false

theorem tmod_abs (a b : Int) : (a.tmod b).natAbs = a.natAbs % b.natAbs := Int.natAbs_tmod a b

/-- |a - q b| = |a| - |q| |b| -/
theorem rem_abs {a b : Int} (hb : b ≠ 0) : ((a - a.tdiv b * b).natAbs : Int) = a.natAbs - (a.tdiv b).natAbs * b.natAbs ∧ (a - a.tdiv b * b) = a.tmod b := by
  have h1 : a - a.tdiv b * b = a.tmod b := by
    have := Int.tmod_add_mul_tdiv a b
    rw [Int.mul_comm b] at this
    omega
  refine ⟨?_, h1⟩
  rw [h1, tmod_abs, Int.natAbs_tdiv]
  have := Nat.div_add_mod a.natAbs b.natAbs
  have h2 : ((a.natAbs.div b.natAbs : Nat) : Int) * (b.natAbs : Int) = ((b.natAbs * (a.natAbs / b.natAbs) : Nat) : Int) := by rw [Nat.mul_comm b.natAbs]; simp; rfl
  rw [h2]
  omega

theorem mul_le_of {a b c : Nat} (h : (a : Int) * b ≤ c) (hb : 0 < b) : a ≤ c := by
  have h1 : a * b ≤ c := by exact_mod_cast h
  exact Nat.le_trans (Nat.le_mul_of_pos_right a hb) h1

end Go.AM

namespace Go.AM
set_option linter.unusedVariables false

/-- what holds at a round's beginning -/
structure Bw (a0 b0 a b u x v y : Int) : Prop where
  e1 : u * a0 + v * b0 = a
  e2 : x * a0 + y * b0 = b
  k1 : (u.natAbs : Int) * b.natAbs + x.natAbs * a.natAbs ≤ b0.natAbs
  k2 : (v.natAbs : Int) * b.natAbs + y.natAbs * a.natAbs ≤ a0.natAbs
  hu : u.natAbs ≤ 1 ∨ (u.natAbs : Int) ≤ b0.natAbs
  hv : v.natAbs ≤ 1 ∨ (v.natAbs : Int) ≤ a0.natAbs
  hx : x.natAbs ≤ 1 ∨ (x.natAbs : Int) ≤ b0.natAbs
  hy : y.natAbs ≤ 1 ∨ (y.natAbs : Int) ≤ a0.natAbs
  gcd : Nat.gcd a.natAbs b.natAbs = Nat.gcd a0.natAbs b0.natAbs
  ha : a.natAbs ≤ 40000
  hb : b.natAbs ≤ 40000

theorem bw0 {a0 b0 : Int} (ha : a0.natAbs ≤ 40000) (hb : b0.natAbs ≤ 40000) : Bw a0 b0 a0 b0 1 0 0 1 := by
  refine ⟨by omega, by omega, by simp, by simp, .inl (by simp), .inl (by simp), .inl (by simp), .inl (by simp), rfl, ha, hb⟩

theorem bw_step {a0 b0 a b u x v y : Int} (h : Bw a0 b0 a b u x v y) (hb : b ≠ 0) : Bw a0 b0 b (a - a.tdiv b * b) x (u - a.tdiv b * x) y (v - a.tdiv b * y) := by
  obtain ⟨r1, r2⟩ := rem_abs (a := a) hb
  have tri : ∀ p q z : Int, ((p - q * z).natAbs : Int) ≤ p.natAbs + q.natAbs * z.natAbs := fun p q z => by
    have := Int.natAbs_sub_le p (q * z)
    rw [Int.natAbs_mul] at this
    have e : ((q.natAbs * z.natAbs : Nat) : Int) = (q.natAbs : Int) * z.natAbs := by simp
    omega
  have key : ∀ p z : Int, ∀ c : Nat, (p.natAbs : Int) * b.natAbs + z.natAbs * a.natAbs ≤ c → (z.natAbs : Int) * (a - a.tdiv b * b).natAbs + ((p - a.tdiv b * z).natAbs : Int) * b.natAbs ≤ c := fun p z c hc => by
    have t := tri p (a.tdiv b) z
    have hbn : (0 : Int) ≤ b.natAbs := by omega
    have m := Int.mul_le_mul_of_nonneg_right t hbn
    rw [r1]
    have e1 : (z.natAbs : Int) * (a.natAbs - (a.tdiv b).natAbs * b.natAbs) = z.natAbs * a.natAbs - (a.tdiv b).natAbs * z.natAbs * b.natAbs := by grind
    have e2 : ((p.natAbs : Int) + (a.tdiv b).natAbs * z.natAbs) * b.natAbs = p.natAbs * b.natAbs + (a.tdiv b).natAbs * z.natAbs * b.natAbs := by grind
    rw [e1]
    rw [e2] at m
    omega
  have hbp : 0 < b.natAbs := by omega
  have n1 := key u x _ h.k1
  have n2 := key v y _ h.k2
  have bd : ∀ p q : Int, ∀ c : Nat, (q.natAbs : Int) * (a - a.tdiv b * b).natAbs + (p.natAbs : Int) * b.natAbs ≤ c → p.natAbs ≤ 1 ∨ (p.natAbs : Int) ≤ c := fun p q c hc => by
    right
    have : (p.natAbs : Int) * b.natAbs ≤ c := by
      have : (0 : Int) ≤ q.natAbs * (a - a.tdiv b * b).natAbs := by exact_mod_cast Nat.zero_le _
      omega
    exact_mod_cast mul_le_of this hbp
  refine ⟨h.e2, ?_, n1, n2, h.hx, h.hy, bd _ _ _ n1, bd _ _ _ n2, ?_, h.hb, ?_⟩
  · have := h.e1; have := h.e2; subst_vars; grind
  · rw [r2, tmod_abs, ← h.gcd, Nat.gcd_comm, ← Nat.gcd_rec, Nat.gcd_comm]
  · rw [r2, tmod_abs]
    have := Nat.mod_le a.natAbs b.natAbs
    have := h.ha
    omega

/-- |q z| is small -/
theorem bw_q {a0 b0 a b u x v y : Int} (h : Bw a0 b0 a b u x v y) (hb : b ≠ 0) (hA : a0.natAbs ≤ 40000) (hB : b0.natAbs ≤ 40000) :
    (-40000 ≤ a.tdiv b ∧ a.tdiv b ≤ 40000) ∧ (-40000 ≤ a.tdiv b * x ∧ a.tdiv b * x ≤ 40000) ∧ (-40000 ≤ a.tdiv b * y ∧ a.tdiv b * y ≤ 40000) ∧ (-40000 ≤ a.tdiv b * b ∧ a.tdiv b * b ≤ 40000) := by
  have hq : (a.tdiv b).natAbs * b.natAbs ≤ a.natAbs := by
    rw [Int.natAbs_tdiv]
    exact Nat.div_mul_le_self _ _
  have hbp : 0 < b.natAbs := by omega
  have hq1 : (a.tdiv b).natAbs ≤ a.natAbs := Nat.le_trans (Nat.le_mul_of_pos_right _ hbp) hq
  have one : ∀ z : Int, ∀ c : Nat, (z.natAbs : Int) * a.natAbs ≤ c → c ≤ 40000 → (a.tdiv b * z).natAbs ≤ 40000 := fun z c hz hc => by
    have h1 : z.natAbs * a.natAbs ≤ c := by exact_mod_cast hz
    rw [Int.natAbs_mul, Nat.mul_comm]
    exact Nat.le_trans (Nat.mul_le_mul_left _ hq1) (Nat.le_trans h1 hc)
  have p1 : (x.natAbs : Int) * a.natAbs ≤ b0.natAbs := by
    have := h.k1
    have : (0 : Int) ≤ u.natAbs * b.natAbs := by exact_mod_cast Nat.zero_le _
    omega
  have p2 : (y.natAbs : Int) * a.natAbs ≤ a0.natAbs := by
    have := h.k2
    have : (0 : Int) ≤ v.natAbs * b.natAbs := by exact_mod_cast Nat.zero_le _
    omega
  have q1 := one x _ p1 hB
  have q2 := one y _ p2 hA
  have q3 : (a.tdiv b * b).natAbs ≤ 40000 := by rw [Int.natAbs_mul]; exact Nat.le_trans hq h.ha
  have := h.ha
  omega

set_option maxHeartbeats 2000000 in
theorem bezoutw_l0 {L : Nat} {a0 b0 : Int} (hA : a0.natAbs ≤ 40000) (hB : b0.natAbs ≤ 40000) : ∀ (m : Nat) (a b u x v y : Int), Bw a0 b0 a b u x v y → b.natAbs < m →
    ∃ g p q, impl_bezout_l0 L m a b u v x y = some (g, p, q) ∧ spec_mvFull_l0 L m a b u v x y = some (if g < 0 then (-p, -q) else (p, q)) ∧
      p * a0 + q * b0 = g ∧ g.natAbs = Nat.gcd a0.natAbs b0.natAbs ∧ (p.natAbs ≤ 1 ∨ (p.natAbs : Int) ≤ b0.natAbs) ∧ (q.natAbs ≤ 1 ∨ (q.natAbs : Int) ≤ a0.natAbs) ∧ (-40000 ≤ p ∧ p ≤ 40000) ∧ (-40000 ≤ q ∧ q ≤ 40000)
  | 0, _, _, _, _, _, _, _, h => by omega
  | m + 1, a, b, u, x, v, y, h, hm => by
    by_cases hb : b = 0
    · subst hb
      have bu : -40000 ≤ u ∧ u ≤ 40000 := by have := h.hu; omega
      have bv : -40000 ≤ v ∧ v ≤ 40000 := by have := h.hv; omega
      refine ⟨a, u, v, ?_, ?_, h.e1, ?_, h.hu, h.hv, bu, bv⟩
      · simp only [impl_bezout_l0, ieq_eq, decide_true, Bool.not_true, cond_false]
      · simp only [spec_mvFull_l0, ieq_eq, ilt_eq, isub_eq, decide_true, Bool.not_true, cond_false]
        rw [wr_id (n := 0 - u) (by omega), wr_id (n := 0 - v) (by omega)]
        by_cases ha : a < 0
        · simp only [ha, decide_true, cond_true, if_true]; congr 2 <;> omega
        · simp only [ha, decide_false, cond_false, if_false]
      · have := h.gcd; simpa using this
    · obtain ⟨b1, b2, b3, b4⟩ := bw_q h hb hA hB
      have k1 := h.hu; have k2 := h.hv; have k3 := h.ha
      have s := bw_step h hb
      obtain ⟨r1, r2⟩ := rem_abs (a := a) hb
      have hlt : (a - a.tdiv b * b).natAbs < m := by
        rw [r2, tmod_abs]
        have := Nat.mod_lt a.natAbs (show 0 < b.natAbs by omega)
        omega
      obtain ⟨g, p, q, e1, e2, e3⟩ := bezoutw_l0 (L := L) hA hB m _ _ _ _ _ _ s hlt
      refine ⟨g, p, q, ?_, ?_, e3⟩
      · simp only [impl_bezout_l0, ieq_eq, hb, decide_false, Bool.not_false, cond_true, cond_false, iquo_eq, imul_eq, isub_eq]
        rw [wr_id (n := a.tdiv b) (by omega), wr_id (n := a.tdiv b * b) (by omega), wr_id (n := a.tdiv b * x) (by omega), wr_id (n := a.tdiv b * y) (by omega), wr_id (n := a - a.tdiv b * b) (by omega), wr_id (n := u - a.tdiv b * x) (by omega), wr_id (n := v - a.tdiv b * y) (by omega)]
        exact e1
      · simp only [spec_mvFull_l0, ieq_eq, hb, decide_false, Bool.not_false, cond_true, cond_false, iquo_eq, imul_eq, isub_eq]
        rw [wr_id (n := a.tdiv b) (by omega), wr_id (n := a.tdiv b * b) (by omega), wr_id (n := a.tdiv b * x) (by omega), wr_id (n := a.tdiv b * y) (by omega), wr_id (n := a - a.tdiv b * b) (by omega), wr_id (n := u - a.tdiv b * x) (by omega), wr_id (n := v - a.tdiv b * y) (by omega)]
        exact e2

theorem bezoutw_eq {L : Nat} {a b : Int} (hA : a.natAbs ≤ 40000) (hB : b.natAbs ≤ 40000) (hL : 40000 < L) :
    ∃ g p q, impl_bezout L a b = some (g, p, q) ∧ spec_mvFull L a b = some (if g < 0 then (-p, -q) else (p, q)) ∧
      p * a + q * b = g ∧ g.natAbs = Nat.gcd a.natAbs b.natAbs ∧ (p.natAbs ≤ 1 ∨ (p.natAbs : Int) ≤ b.natAbs) ∧ (q.natAbs ≤ 1 ∨ (q.natAbs : Int) ≤ a.natAbs) ∧ (-40000 ≤ p ∧ p ≤ 40000) ∧ (-40000 ≤ q ∧ q ≤ 40000) := by
  unfold impl_bezout spec_mvFull
  exact bezoutw_l0 hA hB L a b 1 0 0 1 (bw0 hA hB) (by omega)
end Go.AM

namespace Go.AM
set_option linter.unusedVariables false

/-- a number is nearer to nothing, or as near and greater -/
def nr (a b : Int) : Prop := a.natAbs < b.natAbs ∨ (a.natAbs = b.natAbs ∧ b < a)
instance (a b : Int) : Decidable (nr a b) := by unfold nr; infer_instance
def bet (p q : Int × Int) : Prop := nr p.1 q.1 ∨ (p.1 = q.1 ∧ nr p.2 q.2)
instance (p q : Int × Int) : Decidable (bet p q) := by unfold bet; infer_instance

/-- a solution -/
def Sol (u v : Int) (z : Int × Int) : Prop := z.1 * v - z.2 * u = 1

/-- the best one of all solutions -/
def Bst (u v : Int) (z : Int × Int) : Prop := Sol u v z ∧ (2 * (z.1.natAbs : Int) ≤ u ∨ (u = 0 ∧ z = (1, 0))) ∧ ∀ c, Sol u v c → c ≠ z → bet z c

theorem sol_shift {u v : Int} {z c : Int × Int} (hz : Sol u v z) (hc : Sol u v c) : ∃ k, c.1 = z.1 + k * u ∧ c.2 = z.2 + k * v := by
  unfold Sol at hz hc
  refine ⟨z.1 * c.2 - c.1 * z.2, ?_, ?_⟩ <;> grind

theorem nr_of_mod {u r k : Int} (hu : 0 < u) (h1 : -u < 2 * r) (h2 : 2 * r ≤ u) (hk : k ≠ 0) : nr r (r + k * u) := by
  unfold nr
  rcases Int.lt_or_lt_of_ne hk with h | h
  · have : k * u ≤ -u := by
      have := Int.mul_le_mul_of_nonneg_right (show k ≤ -1 by omega) (Int.le_of_lt hu)
      omega
    omega
  · have : u ≤ k * u := by
      have := Int.mul_le_mul_of_nonneg_right (show (1 : Int) ≤ k by omega) (Int.le_of_lt hu)
      omega
    omega

theorem bst_ex {u v : Int} {c : Int × Int} (h : Sol u v c) (hu : 0 < u ∨ (u = 0 ∧ v = 1)) : ∃ z, Bst u v z := by
  rcases hu with hu | ⟨rfl, rfl⟩
  · -- the balanced rest
    have e := Int.emod_add_mul_ediv c.1 u
    have p0 := Int.emod_nonneg c.1 (show u ≠ 0 by omega)
    have p1 := Int.emod_lt_of_pos c.1 hu
    generalize c.1 % u = r at *
    generalize c.1 / u = d at *
    have key : ∀ k : Int, -u < 2 * (c.1 + k * u) → 2 * (c.1 + k * u) ≤ u → ∃ z, Bst u v z := by
      intro k k1 k2
      have hz : Sol u v (c.1 + k * u, c.2 + k * v) := by unfold Sol at *; simp only; grind
      refine ⟨(c.1 + k * u, c.2 + k * v), hz, .inl (by simp only; omega), fun x hx hne => ?_⟩
      obtain ⟨m, e1, e2⟩ := sol_shift hz hx
      have hm : m ≠ 0 := fun e0 => hne (Prod.ext (by rw [e1, e0]; simp) (by rw [e2, e0]; simp))
      have := nr_of_mod hu k1 k2 hm
      left
      rw [e1]
      exact this
    by_cases h2 : 2 * r ≤ u
    · have e3 : c.1 + (-d) * u = r := by grind
      exact key (-d) (by rw [e3]; omega) (by rw [e3]; omega)
    · have e3 : c.1 + (-d - 1) * u = r - u := by grind
      exact key (-d - 1) (by rw [e3]; omega) (by rw [e3]; omega)
  · have hz : Sol 0 1 (1, 0) := by unfold Sol; decide
    refine ⟨(1, 0), hz, .inr ⟨rfl, rfl⟩, fun x hx hne => ?_⟩
    unfold Sol at hx
    have h1 : x.1 = 1 := by omega
    have h2 : x.2 ≠ 0 := fun e => hne (Prod.ext h1 e)
    right
    refine ⟨h1.symm, ?_⟩
    unfold nr
    simp only
    omega

theorem bet_irrefl {z : Int × Int} : ¬ bet z z := by unfold bet nr; omega
theorem bet_asymm {z c : Int × Int} (h : bet z c) : ¬ bet c z := by unfold bet nr at *; omega

/-- where the best one lies, from a solution on -/
theorem bst_at {u v : Int} {z c : Int × Int} (hz : Bst u v z) (hc : Sol u v c) (hu : 0 < u ∨ (u = 0 ∧ v = 1)) : ∃ k, z = (c.1 + k * u, c.2 + k * v) ∧ -((c.1.natAbs : Int) + c.2.natAbs) - 1 ≤ k ∧ k ≤ (c.1.natAbs : Int) + c.2.natAbs + 1 ∧ (((c.1.natAbs : Int) ≤ 1 ∨ (c.1.natAbs : Int) ≤ u) → ((c.2.natAbs : Int) ≤ 1 ∨ 0 < u) → -2 ≤ k ∧ k ≤ 2) := by
  obtain ⟨k, e1, e2⟩ := sol_shift hc hz.1
  refine ⟨k, Prod.ext e1 e2, ?_⟩
  rcases hu with hu | ⟨rfl, rfl⟩
  · have hb : 2 * (z.1.natAbs : Int) ≤ u := by
      rcases hz.2.1 with h | h
      · exact h
      · omega
    have hk : (k.natAbs : Int) * u = ((k * u).natAbs : Int) := by rw [Int.natAbs_mul, show u.natAbs = u.toNat by omega]; push_cast; rw [Int.toNat_of_nonneg (by omega)]
    have h3 : ((k * u).natAbs : Int) ≤ z.1.natAbs + c.1.natAbs := by omega
    have h4 : (k.natAbs : Int) * u ≤ z.1.natAbs + c.1.natAbs := by omega
    have g1 : (k.natAbs : Int) ≤ c.1.natAbs + 1 := by
      rcases Int.lt_or_le ((c.1.natAbs : Int) + 1) k.natAbs with h | h
      · exfalso
        have := Int.mul_le_mul_of_nonneg_right (show (c.1.natAbs : Int) + 2 ≤ k.natAbs by omega) (Int.le_of_lt hu)
        have h5 : ((c.1.natAbs : Int) + 2) * u = c.1.natAbs * u + 2 * u := by grind
        have h6 := Int.mul_le_mul_of_nonneg_left (show (1 : Int) ≤ u by omega) (show (0 : Int) ≤ c.1.natAbs by omega)
        omega
      · exact h
    refine ⟨by omega, by omega, fun hs _ => ?_⟩
    have hs' : (c.1.natAbs : Int) ≤ u := by omega
    rcases Int.lt_or_le 2 (k.natAbs : Int) with h | h
    · exfalso
      have := Int.mul_le_mul_of_nonneg_right (show (3 : Int) ≤ k.natAbs by omega) (Int.le_of_lt hu)
      omega
    · omega
  · have hb : z = (1, 0) := by
      rcases hz.2.1 with h | h
      · have h1 := hz.1
        unfold Sol at h1
        omega
      · exact h.2
    rw [hb] at e2
    simp only at e2
    omega

/-- the loop for the best one -/
def bestF (a b u v : Int) : Nat → Int → Int × Int → Int × Int
  | 0, _, w => w
  | n + 1, k, w => bestF a b u v n (k + 1) (if bet (a + k * u, b + k * v) w then (a + k * u, b + k * v) else w)

theorem bestF_done {a b u v : Int} {z : Int × Int} (hz : Bst u v z) (hs : Sol u v (a, b)) : ∀ (n : Nat) (k : Int), bestF a b u v n k z = z
  | 0, _ => rfl
  | n + 1, k => by
    rw [bestF]
    have hk : Sol u v (a + k * u, b + k * v) := by unfold Sol at *; simp only at *; grind
    have : ¬ bet (a + k * u, b + k * v) z := by
      by_cases e : (a + k * u, b + k * v) = z
      · rw [e]; exact bet_irrefl
      · exact bet_asymm (hz.2.2 _ hk e)
    rw [if_neg this]
    exact bestF_done hz hs n (k + 1)

theorem bestF_eq {a b u v : Int} {z : Int × Int} (hz : Bst u v z) (hs : Sol u v (a, b)) {k0 : Int} (hk : z = (a + k0 * u, b + k0 * v)) : ∀ (n : Nat) (k : Int) (w : Int × Int), Sol u v w → k ≤ k0 → k0 < k + n → bestF a b u v n k w = z
  | 0, _, _, _, _, _ => by omega
  | n + 1, k, w, hw, h1, h2 => by
    rw [bestF]
    by_cases e : k = k0
    · subst e
      rw [← hk]
      by_cases ew : w = z
      · rw [ew, ite_self]; exact bestF_done hz hs n _
      · rw [if_pos (hz.2.2 _ hw ew)]; exact bestF_done hz hs n _
    · refine bestF_eq hz hs hk n (k + 1) _ ?_ (by omega) (by omega)
      split
      · unfold Sol at *; simp only at *; grind
      · exact hw
end Go.AM

namespace Go.AM
set_option linter.unusedVariables false

def Bd20 (n : Int) : Prop := -20 ≤ n ∧ n ≤ 20
def Bd80 (n : Int) : Prop := -80 ≤ n ∧ n ≤ 80
instance (n : Int) : Decidable (Bd20 n) := by unfold Bd20; infer_instance
instance (n : Int) : Decidable (Bd80 n) := by unfold Bd80; infer_instance
def Wi (n : Int) : Prop := -9223372036854775808 ≤ n ∧ n ≤ 9223372036854775807

/-- a move -/
def MvG (A B C D X Y : Int) : Prop := (Bd20 A ∧ Bd20 B ∧ Bd20 C ∧ Bd20 D) ∧ (Bd80 X ∧ Bd80 Y) ∧ (A * D - B * C).natAbs = 1
instance (A B C D X Y : Int) : Decidable (MvG A B C D X Y) := by unfold MvG; infer_instance

theorem l1All_l0 {L : Nat} {a : List Int} {lo hi : Int} (hs : (a.length : Int) ≤ 100000) : ∀ (m i : Nat), i ≤ a.length → a.length - i < m → spec_l1All_l0 L a lo hi m i = some (decide (∀ x ∈ a.drop i, lo ≤ x ∧ x ≤ hi)) := by
  intro m
  induction m with
  | zero => intro i _ h; omega
  | succ m ih =>
    intro i hi' hm
    rw [spec_l1All_l0]
    by_cases h : (i : Int) < (a.length : Int)
    · have hlt : i < a.length := by omega
      have wi : wr IntKind.i64 (iadd (i : Int) 1) = ((i + 1 : Nat) : Int) := by rw [iadd_eq, wr_s (by omega)]; omega
      have hg : lget a (i : Int) = some a[i] := by rw [lget_eq, if_pos (by omega), Int.toNat_natCast, List.getElem?_eq_getElem hlt]
      have hlen : ilen (List.map eI a) = (a.length : Int) := by rw [ilen_eq]; simp
      simp only [hlen, ilt_eq, h, decide_true, cond_true, hg, gbind_eq, Option.bind_some, spec_l1In_eq, wi, ih (i + 1) (by omega) (by omega)]
      have e : (∀ x ∈ a.drop i, lo ≤ x ∧ x ≤ hi) ↔ ((lo ≤ a[i] ∧ a[i] ≤ hi) ∧ ∀ x ∈ a.drop (i + 1), lo ≤ x ∧ x ≤ hi) := by rw [List.drop_eq_getElem_cons hlt]; exact List.forall_mem_cons
      by_cases hb : lo ≤ a[i] ∧ a[i] ≤ hi
      · simp only [hb, and_self, decide_true, Bool.not_true, cond_false]
        congr 1; rw [decide_eq_decide, e]; exact ⟨fun h => ⟨hb, h⟩, fun h => h.2⟩
      · simp only [hb, decide_false, Bool.not_false, cond_true]
        congr 1; symm; rw [decide_eq_false_iff_not, e]; exact fun h => hb h.1
    · have hlen : ilen (List.map eI a) = (a.length : Int) := by rw [ilen_eq]; simp
      simp only [hlen, ilt_eq, h, decide_false, cond_false]
      rw [List.drop_of_length_le (by omega)]
      simp

theorem l1All_eq {L : Nat} {a : List Int} {lo hi : Int} (hs : (a.length : Int) ≤ 100000) (hL : a.length < L) : spec_l1All L a lo hi = some (decide (∀ x ∈ a, lo ≤ x ∧ x ≤ hi)) := by
  unfold spec_l1All
  exact l1All_l0 hs L 0 (by omega) (by omega)

theorem l1All4 {L : Nat} {A B C D : Int} (hL : 10 < L) : spec_l1All L [A, B, C, D] (-20) 20 = some (decide (Bd20 A ∧ Bd20 B ∧ Bd20 C ∧ Bd20 D)) := by
  rw [l1All_eq (by simp) (by simp; omega)]
  congr 1
  rw [decide_eq_decide]
  simp [Bd20]
theorem l1All2 {L : Nat} {X Y : Int} (hL : 10 < L) : spec_l1All L [X, Y] (-80) 80 = some (decide (Bd80 X ∧ Bd80 Y)) := by
  rw [l1All_eq (by simp) (by simp; omega)]
  congr 1
  rw [decide_eq_decide]
  simp [Bd80]

theorem det_wr {A B C D : Int} (h : Bd20 A ∧ Bd20 B ∧ Bd20 C ∧ Bd20 D) : wr IntKind.i64 (isub (wr IntKind.i64 (imul A D)) (wr IntKind.i64 (imul B C))) = A * D - B * C ∧ (-1000 ≤ A * D - B * C ∧ A * D - B * C ≤ 1000) := by
  unfold Bd20 at h
  have m1 := mul_bd (x := A) (y := D) (A := 20) (B := 20) (by omega) (by omega)
  have m2 := mul_bd (x := B) (y := C) (A := 20) (B := 20) (by omega) (by omega)
  rw [imul_eq, imul_eq, isub_eq, wr_s (i := A * D) (by omega), wr_s (i := B * C) (by omega), wr_s (by omega)]
  exact ⟨rfl, by omega⟩

theorem spec_mvGood_eq {L : Nat} {A B C D X Y : Int} (hL : 10 < L) : spec_mvGood L A B C D X Y = some (decide (MvG A B C D X Y)) := by
  unfold spec_mvGood
  simp only [l1All4 hL, l1All2 hL, gbind_eq, Option.bind_some]
  by_cases h : Bd20 A ∧ Bd20 B ∧ Bd20 C ∧ Bd20 D
  · by_cases h2 : Bd80 X ∧ Bd80 Y
    · obtain ⟨d1, d2⟩ := det_wr h
      simp only [h, h2, and_self, decide_true, cond_true, d1, spec_l1Abs_eq (L := L) (n := A * D - B * C) (by omega), Option.bind_some, ieq_eq, MvG, true_and]
      congr 1; rw [decide_eq_decide]; omega
    · simp only [h, h2, and_self, decide_true, decide_false, cond_true, cond_false, MvG, false_and, and_false]
  · simp only [h, decide_false, cond_false, MvG, false_and]

theorem isWay_eq {L : Nat} {x y : Int} (hx : Wi x) (hy : Wi y) : impl_isWay L x y = some (decide (Bd80 x ∧ Bd80 y)) := by
  have key : ∀ x : Int, Wi x → ∃ s, impl_size L x = some s ∧ (s ≤ 80 ↔ (Bd80 x ∨ x = -9223372036854775808)) := by
    intro x hx
    unfold Wi at hx
    unfold impl_size Bd80
    simp only [imax_eq, isub_eq]
    refine ⟨_, rfl, ?_⟩
    by_cases e : x = -9223372036854775808
    · subst e
      have : wr IntKind.i64 (0 - -9223372036854775808) = -9223372036854775808 := by rw [wr_eq]; decide
      rw [this]; simp
    · rw [wr_id (by omega)]
      split <;> omega
  obtain ⟨s, s1, s2⟩ := key x hx
  obtain ⟨t, t1, t2⟩ := key y hy
  unfold impl_isWay
  simp only [s1, t1, gbind_eq, Option.bind_some, ile_eq, ilt_eq]
  unfold Wi at hx hy
  by_cases h1 : s ≤ 80
  · by_cases h2 : t ≤ 80
    · have a1 := s2.1 h1
      have a2 := t2.1 h2
      unfold Bd80 at *
      by_cases h3 : -1000 < x
      · simp only [h1, h2, h3, decide_true, cond_true]
        congr 1; rw [decide_eq_decide]; omega
      · simp only [h1, h2, h3, decide_true, decide_false, cond_true, cond_false]
        congr 1; symm; rw [decide_eq_false_iff_not]; omega
    · have : ¬ Bd80 y := fun h => h2 (t2.2 (.inl h))
      simp only [h1, h2, decide_true, decide_false, cond_true, cond_false, this, and_false]
  · have : ¬ Bd80 x := fun h => h1 (s2.2 (.inl h))
    simp only [h1, decide_false, cond_false, this, false_and]

theorem impl_IsMove_eq {L : Nat} {A B C D X Y : Int} (hX : Wi X) (hY : Wi Y) (hL : 10 < L) : impl_IsMove L A B C D X Y = some (decide (MvG A B C D X Y)) := by
  unfold impl_IsMove
  have key : ∀ m, impl_IsMove_l0 L A B C D X Y (m + 5) 0 = some (decide (MvG A B C D X Y)) := by
    intro m
    have w : ∀ i : Int, 0 ≤ i → i ≤ 10 → wr IntKind.i64 (iadd i 1) = i + 1 := fun i h0 h1 => by rw [iadd_eq, wr_s (by omega)]
    have hlen : ilen [AV.int IntKind.i64 A, AV.int IntKind.i64 B, AV.int IntKind.i64 C, AV.int IntKind.i64 D] = 4 := by rw [ilen_eq]; rfl
    have g0 : lget [A, B, C, D] 0 = some A := by rw [lget_eq]; rfl
    have g1 : lget [A, B, C, D] 1 = some B := by rw [lget_eq]; rfl
    have g2 : lget [A, B, C, D] 2 = some C := by rw [lget_eq]; rfl
    have g3 : lget [A, B, C, D] 3 = some D := by rw [lget_eq]; rfl
    have bA : (-20 ≤ A ∧ A ≤ 20) ↔ Bd20 A := Iff.rfl
    have bB : (-20 ≤ B ∧ B ≤ 20) ↔ Bd20 B := Iff.rfl
    have bC : (-20 ≤ C ∧ C ≤ 20) ↔ Bd20 C := Iff.rfl
    have bD : (-20 ≤ D ∧ D ≤ 20) ↔ Bd20 D := Iff.rfl
    rw [impl_IsMove_l0]
    simp only [hlen, ilt_eq, ile_eq, show (0 : Int) < 4 by omega, Int.le_refl, decide_true, Bool.and_self, cond_true, g0, gbind_eq, Option.bind_some, impl_within_eq, w 0 (by omega) (by omega), bA]
    by_cases hA : Bd20 A
    · simp only [hA, decide_true, Bool.not_true, cond_false]
      rw [impl_IsMove_l0]
      simp only [hlen, ilt_eq, ile_eq, show (0 + 1 : Int) < 4 by omega, show (0 : Int) ≤ 0 + 1 by omega, decide_true, Bool.and_self, cond_true, show (0 + 1 : Int) = 1 by omega, show (1 : Int) < 4 by omega, show (0 : Int) ≤ 1 by omega, g1, gbind_eq, Option.bind_some, impl_within_eq, w 1 (by omega) (by omega), bB]
      by_cases hB : Bd20 B
      · simp only [hB, decide_true, Bool.not_true, cond_false]
        rw [impl_IsMove_l0]
        simp only [hlen, ilt_eq, ile_eq, show (1 + 1 : Int) = 2 by omega, show (2 : Int) < 4 by omega, show (0 : Int) ≤ 2 by omega, decide_true, Bool.and_self, cond_true, g2, gbind_eq, Option.bind_some, impl_within_eq, w 2 (by omega) (by omega), bC]
        by_cases hC : Bd20 C
        · simp only [hC, decide_true, Bool.not_true, cond_false]
          rw [impl_IsMove_l0]
          simp only [hlen, ilt_eq, ile_eq, show (2 + 1 : Int) = 3 by omega, show (3 : Int) < 4 by omega, show (0 : Int) ≤ 3 by omega, decide_true, Bool.and_self, cond_true, g3, gbind_eq, Option.bind_some, impl_within_eq, w 3 (by omega) (by omega), bD]
          by_cases hD : Bd20 D
          · simp only [hD, decide_true, Bool.not_true, cond_false]
            rw [impl_IsMove_l0]
            simp only [hlen, ilt_eq, show (3 + 1 : Int) = 4 by omega, Int.lt_irrefl, decide_false, cond_false, isWay_eq hX hY, gbind_eq, Option.bind_some]
            by_cases hw : Bd80 X ∧ Bd80 Y
            · obtain ⟨d1, d2⟩ := det_wr (A := A) (B := B) (C := C) (D := D) ⟨hA, hB, hC, hD⟩
              unfold impl_Move_side
              simp only [hw, and_self, decide_true, cond_true, d1, Option.bind_some, impl_size_eq (L := L) (n := A * D - B * C) (by omega), ieq_eq, MvG, hA, hB, hC, hD, true_and]
              congr 1; rw [decide_eq_decide]; omega
            · simp only [hw, decide_false, cond_false, MvG, false_and, and_false]
          · simp only [hD, decide_false, Bool.not_false, cond_true, MvG, false_and, and_false]
        · simp only [hC, decide_false, Bool.not_false, cond_true, MvG, false_and, and_false]
      · simp only [hB, decide_false, Bool.not_false, cond_true, MvG, false_and, and_false]
    · simp only [hA, decide_false, Bool.not_false, cond_true, MvG, false_and]
  obtain ⟨m, hm⟩ : ∃ m, L = m + 5 := ⟨L - 5, by omega⟩
  have := key m
  rw [← hm] at this
  exact this
end Go.AM

namespace Go.AM
set_option linter.unusedVariables false

theorem nearer_eq {L : Nat} {x y : Int} (hx : -1000000000 ≤ x ∧ x ≤ 1000000000) (hy : -1000000000 ≤ y ∧ y ≤ 1000000000) : spec_wiNearer L x y = some (decide (nr x y)) ∧ impl_isLess L x y = some (decide (nr x y)) := by
  unfold spec_wiNearer impl_isLess
  simp only [spec_l1Abs_eq hx, spec_l1Abs_eq hy, impl_size_eq hx, impl_size_eq hy, gbind_eq, Option.bind_some, ilt_eq, ieq_eq]
  have : (bif decide ((x.natAbs : Int) < (y.natAbs : Int)) then some true else bif decide ((x.natAbs : Int) = (y.natAbs : Int)) then some (decide (y < x)) else some false) = some (decide (nr x y)) := by
    by_cases h1 : (x.natAbs : Int) < (y.natAbs : Int)
    · rw [decide_eq_true (show nr x y from .inl (by omega)), decide_eq_true h1]; rfl
    · rw [decide_eq_false h1]
      by_cases h2 : (x.natAbs : Int) = (y.natAbs : Int)
      · rw [decide_eq_true h2]
        simp only [cond_false, cond_true]
        congr 1; rw [decide_eq_decide]
        exact ⟨fun h => .inr ⟨by omega, h⟩, fun h => h.elim (fun h => by omega) fun h => h.2⟩
      · rw [decide_eq_false h2, decide_eq_false (show ¬ nr x y from fun h => h.elim (fun h => h1 (by omega)) fun h => h2 (by have := h.1; omega))]; rfl
  exact ⟨this, this⟩

/-- a solution's second number is small -/
theorem sol_snd {u v : Int} {z : Int × Int} (hz : Bst u v z) (hu : 0 < u ∨ (u = 0 ∧ v = 1)) (hv : -20000 ≤ v ∧ v ≤ 20000) (hub : u ≤ 20000) : (-10000 ≤ z.1 ∧ z.1 ≤ 10000) ∧ (-20001 ≤ z.2 ∧ z.2 ≤ 20001) := by
  rcases hu with hu | ⟨rfl, rfl⟩
  · have hb : 2 * (z.1.natAbs : Int) ≤ u := by
      rcases hz.2.1 with h | h
      · exact h
      · omega
    refine ⟨by omega, ?_⟩
    have hs : z.1 * v - z.2 * u = 1 := hz.1
    have e1 : (z.2 * u).natAbs ≤ (z.1 * v).natAbs + 1 := by omega
    rw [Int.natAbs_mul, Int.natAbs_mul] at e1
    have e2 : 2 * (z.1.natAbs * v.natAbs) ≤ u.natAbs * 20000 := by
      have h1 : 2 * z.1.natAbs ≤ u.natAbs := by omega
      have h2 := Nat.mul_le_mul h1 (show v.natAbs ≤ 20000 by omega)
      rwa [Nat.mul_assoc] at h2
    rcases Nat.lt_or_ge 20001 z.2.natAbs with h | h
    · exfalso
      have h3 := Nat.mul_le_mul_right u.natAbs (show 20002 ≤ z.2.natAbs by omega)
      have hu1 : 1 ≤ u.natAbs := by omega
      omega
    · omega
  · have hb : z = (1, 0) := by
      rcases hz.2.1 with h | h
      · have h1 := hz.1
        unfold Sol at h1
        omega
      · exact h.2
    rw [hb]; simp only; omega

theorem flat_l0 {L : Nat} {a : List Pt} {u v A B : Int} {z : Int × Int} (hu : -20000 ≤ u ∧ u ≤ 20000) (hv : -20000 ≤ v ∧ v ≤ 20000) (hA : -20000 ≤ A ∧ A ≤ 20000) (hB : -20000 ≤ B ∧ B ≤ 20000) (hz : (-10000 ≤ z.1 ∧ z.1 ≤ 10000) ∧ (-20001 ≤ z.2 ∧ z.2 ≤ 20001)) (g : Good_ a) (hL : 200000 < L) :
    ∀ (n m : Nat) (k : Int) (w : Int × Int) (c2 c3 c4 c5 : Int), -40002 ≤ k → k ≤ 40002 → k + n = (A.natAbs : Int) + B.natAbs + 2 → n < m → (-900000000 ≤ w.1 ∧ w.1 ≤ 900000000) → (-900000000 ≤ w.2 ∧ w.2 ≤ 900000000) →
      (∀ j : Int, -40002 ≤ j → j ≤ 40002 → (-900000000 ≤ A + j * u ∧ A + j * u ≤ 900000000) ∧ (-900000000 ≤ B + j * v ∧ B + j * v ≤ 900000000)) →
      bestF A B u v n k w = z → spec_wiFlat_l0 L a u v (A, B) m k w.1 w.2 c2 c3 c4 c5 = some (z.1, z.2, u, v, -(rngOf z.1 z.2 a).1, -(rngOf u v a).1) := by
  intro n
  induction n with
  | zero =>
    intro m k w c2 c3 c4 c5 k0 k1 hk hm hw1 hw2 hc hb
    obtain ⟨m, rfl⟩ : ∃ q, m = q + 1 := ⟨m - 1, by omega⟩
    simp only [bestF] at hb
    subst hb
    have h := vw_of g (t := 0) (by omega)
    rw [spec_wiFlat_l0]
    have e1 : wr IntKind.i64 (iadd (wr IntKind.i64 (iadd (A.natAbs : Int) (B.natAbs : Int))) 1) = (A.natAbs : Int) + B.natAbs + 1 := by
      rw [iadd_eq, iadd_eq, wr_s (i := (A.natAbs : Int) + B.natAbs) (by omega), wr_s (by omega)]
    have hr := (range_eq (L := L) (a := a) (b := w.1) (c := w.2) (by omega) (by omega) h.nn (by have := h.len; omega) h.isIn (by have := h.len; omega)).1
    have hr2 := (range_eq (L := L) (a := a) (b := u) (c := v) (by omega) (by omega) h.nn (by have := h.len; omega) h.isIn (by have := h.len; omega)).1
    simp only [spec_l1Abs_eq (L := L) (n := A) (by omega), spec_l1Abs_eq (L := L) (n := B) (by omega), gbind_eq, Option.bind_some, e1, ile_eq, show ¬ k ≤ (A.natAbs : Int) + B.natAbs + 1 by omega, decide_false, cond_false, hr, hr2]
    have vb : ∀ b c : Int, (-100000 ≤ b ∧ b ≤ 100000) → (-100000 ≤ c ∧ c ≤ 100000) → wr IntKind.i64 (isub 0 (rngOf b c a).1) = -(rngOf b c a).1 := fun b c hb hc => by
      have v0 := val_bd hb hc (h.isIn 0)
      have bd := rng_bd (f := val b c) (A := -8000000) (B := 8000000) a (val b c (pt a 0)) (val b c (pt a 0)) v0 v0 fun p hp => by
        obtain ⟨i, _, _, e⟩ := mem_pt hp
        rw [← e]; exact val_bd hb hc (h.isIn i)
      rw [isub_eq, wr_v (by unfold rngOf; omega)]; omega
    rw [vb w.1 w.2 (by omega) (by omega), vb u v (by omega) (by omega)]
  | succ n ih =>
    intro m k w c2 c3 c4 c5 k0 k1 hk hm hw1 hw2 hc hb
    obtain ⟨m, rfl⟩ : ∃ q, m = q + 1 := ⟨m - 1, by omega⟩
    have e1 : wr IntKind.i64 (iadd (wr IntKind.i64 (iadd (A.natAbs : Int) (B.natAbs : Int))) 1) = (A.natAbs : Int) + B.natAbs + 1 := by
      rw [iadd_eq, iadd_eq, wr_s (i := (A.natAbs : Int) + B.natAbs) (by omega), wr_s (by omega)]
    have m1 := mul_bd (x := k) (y := u) (A := 90000) (B := 20000) (by omega) (by omega)
    have m2 := mul_bd (x := k) (y := v) (A := 90000) (B := 20000) (by omega) (by omega)
    obtain ⟨q1, q2⟩ := hc k k0 k1
    have eA : wr IntKind.i64 (iadd A (wr IntKind.i64 (imul k u))) = A + k * u := by
      rw [imul_eq, iadd_eq, wr_id (n := k * u) (by omega), wr_id (by omega)]
    have eB : wr IntKind.i64 (iadd B (wr IntKind.i64 (imul k v))) = B + k * v := by
      rw [imul_eq, iadd_eq, wr_id (n := k * v) (by omega), wr_id (by omega)]
    have wk : wr IntKind.i64 (iadd k 1) = k + 1 := by rw [iadd_eq, wr_s (by omega)]
    rw [spec_wiFlat_l0]
    simp only [spec_l1Abs_eq (L := L) (n := A) (by omega), spec_l1Abs_eq (L := L) (n := B) (by omega), gbind_eq, Option.bind_some, e1, ile_eq, show k ≤ (A.natAbs : Int) + B.natAbs + 1 by omega, decide_true, cond_true, eA, eB, wk, (nearer_eq (L := L) (x := A + k * u) (y := w.1) (by omega) (by omega)).1, ieq_eq]
    rw [bestF] at hb
    by_cases h1 : nr (A + k * u) w.1
    · rw [if_pos (show bet (A + k * u, B + k * v) w from .inl h1)] at hb
      simp only [h1, decide_true, cond_true]
      exact ih m (k + 1) (A + k * u, B + k * v) 0 0 0 0 (by omega) (by omega) (by omega) (by omega) q1 q2 hc hb
    · by_cases h2 : A + k * u = w.1
      · simp only [h1, decide_false, cond_false, decide_eq_true h2, cond_true, (nearer_eq (L := L) (x := B + k * v) (y := w.2) (by omega) (by omega)).1, Option.bind_some]
        by_cases h3 : nr (B + k * v) w.2
        · rw [if_pos (show bet (A + k * u, B + k * v) w from .inr ⟨h2, h3⟩)] at hb
          simp only [h3, decide_true, cond_true]
          exact ih m (k + 1) (A + k * u, B + k * v) 0 0 0 0 (by omega) (by omega) (by omega) (by omega) q1 q2 hc hb
        · rw [if_neg (show ¬ bet (A + k * u, B + k * v) w from fun h => h.elim h1 fun h => h3 h.2)] at hb
          simp only [h3, decide_false, cond_false]
          exact ih m (k + 1) w c2 c3 c4 c5 (by omega) (by omega) (by omega) (by omega) hw1 hw2 hc hb
      · rw [if_neg (show ¬ bet (A + k * u, B + k * v) w from fun h => h.elim h1 fun h => h2 h.1)] at hb
        simp only [h1, decide_false, cond_false, decide_eq_false h2]
        exact ih m (k + 1) w c2 c3 c4 c5 (by omega) (by omega) (by omega) (by omega) hw1 hw2 hc hb

theorem cand_bd {A B u v : Int} (hu : -20000 ≤ u ∧ u ≤ 20000) (hv : -20000 ≤ v ∧ v ≤ 20000) (hA : -20000 ≤ A ∧ A ≤ 20000) (hB : -20000 ≤ B ∧ B ≤ 20000) (j : Int) (h0 : -40002 ≤ j) (h1 : j ≤ 40002) : (-900000000 ≤ A + j * u ∧ A + j * u ≤ 900000000) ∧ (-900000000 ≤ B + j * v ∧ B + j * v ≤ 900000000) := by
  have m1 := mul_bd (x := j) (y := u) (A := 40002) (B := 20000) (by omega) (by omega)
  have m2 := mul_bd (x := j) (y := v) (A := 40002) (B := 20000) (by omega) (by omega)
  omega
end Go.AM

namespace Go.AM
set_option linter.unusedVariables false

theorem spec_mvPeg_eq {L : Nat} {A B C D X Y x y : Int} (hA : -60000000000 ≤ A ∧ A ≤ 60000000000) (hB : -60000000000 ≤ B ∧ B ≤ 60000000000) (hC : -60000000000 ≤ C ∧ C ≤ 60000000000) (hD : -60000000000 ≤ D ∧ D ≤ 60000000000)
    (hX : -1000000000 ≤ X ∧ X ≤ 1000000000) (hY : -1000000000 ≤ Y ∧ Y ≤ 1000000000) (hx : -4000 ≤ x ∧ x ≤ 4000) (hy : -4000 ≤ y ∧ y ≤ 4000) :
    spec_mvPeg L A B C D X Y x y = some (A * x + B * y + X, C * x + D * y + Y) := by
  have h1 := mul_bd hA hx; have h2 := mul_bd hB hy; have h3 := mul_bd hC hx; have h4 := mul_bd hD hy
  unfold spec_mvPeg
  simp only [iadd_eq, imul_eq]
  rw [wr_id (n := A * x) (by omega), wr_id (n := B * y) (by omega), wr_id (n := C * x) (by omega), wr_id (n := D * y) (by omega), wr_id (n := A * x + B * y) (by omega), wr_id (n := C * x + D * y) (by omega), wr_id (n := A * x + B * y + X) (by omega), wr_id (n := C * x + D * y + Y) (by omega)]

theorem impl_bring_eq {L : Nat} {A B C D X Y x y : Int} : impl_Move_bring L A B C D X Y x y = spec_mvPeg L A B C D X Y x y := rfl

end Go.AM

namespace Go.AM
set_option linter.unusedVariables false

theorem idxLoop {β γ : Type} {f : Nat → Int → List β → Option γ} {H : Int → β} {n : Nat} {K : List β → Option γ} (hstop : ∀ m w, f (m + 1) n w = K w)
    (hgo : ∀ m v w, 0 ≤ v → v < (n : Int) → w.length ≤ n → f (m + 1) v w = f m (v + 1) (w ++ [H v])) : ∀ (m i : Nat), i ≤ n → n - i < m → f m i ((List.range i).map fun (j : Nat) => H j) = K ((List.range n).map fun (j : Nat) => H j)
  | 0, i, _, hm => by omega
  | m + 1, i, hi, hm => by
    by_cases h : i < n
    · rw [hgo m i _ (by omega) (by omega) (by simp; omega)]
      have e : (List.range i).map (fun (j : Nat) => H j) ++ [H i] = (List.range (i + 1)).map fun (j : Nat) => H j := by simp [List.range_succ]
      rw [e]
      exact idxLoop hstop hgo m (i + 1) (by omega) (by omega)
    · have e : i = n := by omega
      subst e
      exact hstop m _

end Go.AM

namespace Go.AM
set_option linter.unusedVariables false

theorem rng_min {f : Pt → Int} : ∀ (l : List Pt) (u v : Int), (rng f l u v).1 = minF f l u
  | [], u, v => rfl
  | p :: l, u, v => by
    rw [rng, rng_min l, minF]
    congr 1
    split <;> split <;> omega

theorem minF_map {f : Pt → Int} {h : Pt → Pt} : ∀ (l : List Pt) (b : Int), minF f (l.map h) b = minF (fun p => f (h p)) l b
  | [], b => rfl
  | p :: l, b => by rw [List.map_cons, minF, minF, minF_map l]

theorem box_l0 {L : Nat} {a : List Pt} (hs : (a.length : Int) ≤ 1000) : ∀ (m i : Nat) (b0 b1 c0 c1 : Int), i ≤ a.length → a.length - i < m → ∃ h1 h2, impl_box_l0 L a m i b0 b1 c0 c1 = some (minF Pt.x (a.drop i) b0, minF Pt.y (a.drop i) b1, h1, h2) := by
  intro m
  induction m with
  | zero => intro i _ _ _ _ _ h; omega
  | succ m ih =>
    intro i b0 b1 c0 c1 hi hm
    rw [impl_box_l0]
    by_cases h : (i : Int) < (a.length : Int)
    · have hlt : i < a.length := by omega
      have wi : wr IntKind.i64 (iadd (i : Int) 1) = ((i + 1 : Nat) : Int) := by rw [iadd_eq, wr_s (by omega)]; omega
      simp only [ilen_mapep, ilt_eq, h, decide_true, cond_true, lget_pt (show (0 : Int) ≤ i by omega) h, gbind_eq, Option.bind_some, wi]
      obtain ⟨h1, h2, e⟩ := ih (i + 1) (imin b0 (pt a i).x) (imin b1 (pt a i).y) (imax c0 (pt a i).x) (imax c1 (pt a i).y) (by omega) (by omega)
      refine ⟨h1, h2, ?_⟩
      rw [e, drop_pt hlt, minF, minF, imin_eq, imin_eq]
    · simp only [ilen_mapep, ilt_eq, h, decide_false, cond_false]
      rw [List.drop_of_length_le (by omega)]
      exact ⟨_, _, rfl⟩

theorem box_eq {L : Nat} {a : List Pt} (hn : a ≠ []) (hs : (a.length : Int) ≤ 1000) (hL : a.length < L) : ∃ h1 h2, impl_box L a = some (minF Pt.x a (pt a 0).x, minF Pt.y a (pt a 0).y, h1, h2) := by
  have hl : 0 < (a.length : Int) := by have := List.length_pos_iff.2 hn; omega
  obtain ⟨h1, h2, e⟩ := box_l0 (L := L) hs L 0 (pt a 0).x (pt a 0).y (pt a 0).x (pt a 0).y (by omega) (by omega)
  refine ⟨h1, h2, ?_⟩
  unfold impl_box
  rw [show ((0 : Nat) : Int) = 0 by rfl, List.drop_zero] at e
  simp only [lget_pt (Int.le_refl 0) hl, gbind_eq, Option.bind_some, e]

theorem bring_val {L : Nat} {a : List Pt} {A B C D X Y : Int} {p : Pt} (hp : In p) (hA : -100000 ≤ A ∧ A ≤ 100000) (hB : -100000 ≤ B ∧ B ≤ 100000) (hC : -100000 ≤ C ∧ C ≤ 100000) (hD : -100000 ≤ D ∧ D ≤ 100000) (hX : -1000 ≤ X ∧ X ≤ 1000) (hY : -1000 ≤ Y ∧ Y ≤ 1000) :
    impl_Move_bring L A B C D X Y p.x p.y = some (val A B p + X, val C D p + Y) := by
  rw [impl_bring_eq, spec_mvPeg_eq (by omega) (by omega) (by omega) (by omega) (by omega) (by omega) (by unfold In at hp; omega) (by unfold In at hp; omega)]
  rfl

theorem moved_l1 {L : Nat} {a : List Pt} {A B C D : Int} (g : Good_ a) (hA : -100000 ≤ A ∧ A ≤ 100000) (hB : -100000 ≤ B ∧ B ≤ 100000) (hC : -100000 ≤ C ∧ C ≤ 100000) (hD : -100000 ≤ D ∧ D ≤ 100000) (hL : 200000 < L) :
    impl_flatMove_l1 L a A B C D 0 0 L 0 [] = some (A, B, C, D, -(rngOf A B a).1, -(rngOf C D a).1) := by
  have h := vw_of g (t := 0) (by omega)
  have hlen := h.len
  have := idxLoop (f := impl_flatMove_l1 L a A B C D 0 0) (H := fun i => (⟨val A B (pt a i), val C D (pt a i)⟩ : Pt)) (n := a.length) (K := fun w => (impl_box L w).bind fun r5 => some (A, B, C, D, wr IntKind.i64 (isub 0 r5.1), wr IntKind.i64 (isub 0 r5.2.1))) (fun m w => by
    simp only [impl_flatMove_l1, ilt_eq, ilen_mapep, Int.lt_irrefl, decide_false, cond_false, gbind_eq]) (fun m v w h0 h1 hw => by
    have hb := bring_val (L := L) (a := a) (X := 0) (Y := 0) (h.isIn v) hA hB hC hD (by omega) (by omega)
    simp only [impl_flatMove_l1, ilt_eq, ilen_mapep, h1, decide_true, cond_true, gbind_eq, lget_pt h0 h1, Option.bind_some, hb, Int.add_zero, iadd_eq, wr_s (i := v + 1) (by omega), lcat_eq]
    simp only [ilen_eq, List.length_cons, List.length_nil, fits_s (n := (w.length : Int) + ((0 + 1 : Nat) : Int)) (b := 16) (by omega), cond_true]) L 0 (by omega) (by omega)
  have hmap : ((List.range a.length).map fun (j : Nat) => (⟨val A B (pt a j), val C D (pt a j)⟩ : Pt)) = a.map fun p => (⟨val A B p, val C D p⟩ : Pt) := by
    refine List.ext_getElem (by simp) fun i h1 h2 => ?_
    simp only [List.getElem_map, List.getElem_range]
    have hi : i < a.length := by simpa using h1
    have e := pt_get (a := a) (i := (i : Int)) (by omega) (by omega)
    rw [Int.toNat_natCast, List.getElem?_eq_getElem hi] at e
    rw [Option.some.inj e]
  have this' : impl_flatMove_l1 L a A B C D 0 0 L 0 [] = (impl_box L ((List.range a.length).map fun (j : Nat) => (⟨val A B (pt a j), val C D (pt a j)⟩ : Pt))).bind fun r5 => some (A, B, C, D, wr IntKind.i64 (isub 0 r5.1), wr IntKind.i64 (isub 0 r5.2.1)) := this
  rw [this', hmap]
  have hne : (a.map fun p => (⟨val A B p, val C D p⟩ : Pt)) ≠ [] := by simp [h.nn]
  obtain ⟨b1, b2, e⟩ := box_eq (L := L) hne (by simp; omega) (by simp; omega)
  rw [e]
  have hp0 : pt (a.map fun p => (⟨val A B p, val C D p⟩ : Pt)) 0 = ⟨val A B (pt a 0), val C D (pt a 0)⟩ := by
    have hl0 : 0 < a.length := List.length_pos_iff.2 h.nn
    have e1 := pt_get (a := a.map fun p => (⟨val A B p, val C D p⟩ : Pt)) (i := 0) (by omega) (by simp; omega)
    have e2 := pt_get (a := a) (i := 0) (by omega) (by omega)
    rw [List.getElem?_map, e2] at e1
    exact (Option.some.inj e1).symm
  have vb : ∀ b c : Int, (-100000 ≤ b ∧ b ≤ 100000) → (-100000 ≤ c ∧ c ≤ 100000) → wr IntKind.i64 (isub 0 (minF (val b c) a (val b c (pt a 0)))) = -(rngOf b c a).1 := fun b c hb hc => by
    have v0 := val_bd hb hc (h.isIn 0)
    have bd := rng_bd (f := val b c) (A := -8000000) (B := 8000000) a (val b c (pt a 0)) (val b c (pt a 0)) v0 v0 fun p hp => by
      obtain ⟨i, _, _, e⟩ := mem_pt hp
      rw [← e]; exact val_bd hb hc (h.isIn i)
    rw [← rng_min a _ (val b c (pt a 0)), isub_eq, wr_v (by omega)]; unfold rngOf; omega
  simp only [Option.bind_some, hp0, minF_map]
  rw [← vb A B hA hB, ← vb C D hC hD]

theorem iflat_l0 {L : Nat} {a : List Pt} {P : Pt} {gg x y A B : Int} {z : Int × Int} (hu : -20000 ≤ P.x ∧ P.x ≤ 20000) (hv : -20000 ≤ P.y ∧ P.y ≤ 20000) (hA : -20000 ≤ A ∧ A ≤ 20000) (hB : -20000 ≤ B ∧ B ≤ 20000) (hz : (-10000 ≤ z.1 ∧ z.1 ≤ 10000) ∧ (-20001 ≤ z.2 ∧ z.2 ≤ 20001)) (g : Good_ a) (hL : 200000 < L)
    (eA : wr IntKind.i64 (imul gg x) = A) (eB : wr IntKind.i64 (imul (wr IntKind.i64 (isub 0 gg)) y) = B) :
    ∀ (n m : Nat) (k : Int) (w : Int × Int), -2 ≤ k → k ≤ 3 → k + n = 3 → n < m → (-900000000 ≤ w.1 ∧ w.1 ≤ 900000000) → (-900000000 ≤ w.2 ∧ w.2 ≤ 900000000) →
      bestF A B P.x P.y n k w = z → impl_flatMove_l0 L a P P (gg, x, y) m k w.1 w.2 P.x P.y 0 0 = some (z.1, z.2, P.x, P.y, -(rngOf z.1 z.2 a).1, -(rngOf P.x P.y a).1) := by
  intro n
  induction n with
  | zero =>
    intro m k w k0 k1 hk hm hw1 hw2 hb
    obtain ⟨m, rfl⟩ : ∃ q, m = q + 1 := ⟨m - 1, by omega⟩
    simp only [bestF] at hb
    subst hb
    rw [impl_flatMove_l0]
    simp only [ile_eq, show ¬ k ≤ 2 by omega, decide_false, cond_false]
    exact moved_l1 g (by omega) (by omega) (by omega) (by omega) hL
  | succ n ih =>
    intro m k w k0 k1 hk hm hw1 hw2 hb
    obtain ⟨m, rfl⟩ : ∃ q, m = q + 1 := ⟨m - 1, by omega⟩
    obtain ⟨q1, q2⟩ := cand_bd hu hv hA hB k (by omega) (by omega)
    have m1 := mul_bd (x := k) (y := P.x) (A := 3) (B := 20000) (by omega) (by omega)
    have m2 := mul_bd (x := k) (y := P.y) (A := 3) (B := 20000) (by omega) (by omega)
    have fA : wr IntKind.i64 (iadd A (wr IntKind.i64 (imul k P.x))) = A + k * P.x := by
      rw [imul_eq, iadd_eq, wr_id (n := k * P.x) (by omega), wr_id (by omega)]
    have fB : wr IntKind.i64 (iadd B (wr IntKind.i64 (imul k P.y))) = B + k * P.y := by
      rw [imul_eq, iadd_eq, wr_id (n := k * P.y) (by omega), wr_id (by omega)]
    have wk : wr IntKind.i64 (iadd k 1) = k + 1 := by rw [iadd_eq, wr_s (by omega)]
    rw [impl_flatMove_l0]
    simp only [eA, eB, gbind_eq, Option.bind_some, ile_eq, show k ≤ 2 by omega, decide_true, cond_true, fA, fB, wk, (nearer_eq (L := L) (x := A + k * P.x) (y := w.1) (by omega) (by omega)).2, ieq_eq]
    rw [bestF] at hb
    by_cases h1 : nr (A + k * P.x) w.1
    · rw [if_pos (show bet (A + k * P.x, B + k * P.y) w from .inl h1)] at hb
      simp only [h1, decide_true, cond_true]
      exact ih m (k + 1) (A + k * P.x, B + k * P.y) (by omega) (by omega) (by omega) (by omega) q1 q2 hb
    · by_cases h2 : A + k * P.x = w.1
      · simp only [h1, decide_false, cond_false, decide_eq_true h2, cond_true, (nearer_eq (L := L) (x := B + k * P.y) (y := w.2) (by omega) (by omega)).2, Option.bind_some]
        by_cases h3 : nr (B + k * P.y) w.2
        · rw [if_pos (show bet (A + k * P.x, B + k * P.y) w from .inr ⟨h2, h3⟩)] at hb
          simp only [h3, decide_true, cond_true]
          exact ih m (k + 1) (A + k * P.x, B + k * P.y) (by omega) (by omega) (by omega) (by omega) q1 q2 hb
        · rw [if_neg (show ¬ bet (A + k * P.x, B + k * P.y) w from fun h => h.elim h1 fun h => h3 h.2)] at hb
          simp only [h3, decide_false, cond_false]
          exact ih m (k + 1) w (by omega) (by omega) (by omega) (by omega) hw1 hw2 hb
      · rw [if_neg (show ¬ bet (A + k * P.x, B + k * P.y) w from fun h => h.elim h1 fun h => h2 h.1)] at hb
        simp only [h1, decide_false, cond_false, decide_eq_false h2]
        exact ih m (k + 1) w (by omega) (by omega) (by omega) (by omega) hw1 hw2 hb
end Go.AM

