import Derived.Test.YtlacambjecjdbaaAmP1
set_option linter.unusedVariables false
set_option linter.unusedSimpArgs false
set_option linter.unnecessarySimpa false
/-! Plain mathematics: the words; points, turns, lines. -/
namespace Go.AM
set_option linter.unusedVariables false

theorem wr_id {n : Int} (h : -9223372036854775808 ≤ n ∧ n ≤ 9223372036854775807) : wr .i64 n = n := by
  rw [wr_eq]
  simp only [IntKind.wrap, IntKind.signed, IntKind.bits]
  simp
  omega

theorem mul_bd {x y A B : Int} (hx : -A ≤ x ∧ x ≤ A) (hy : -B ≤ y ∧ y ≤ B) : -(A * B) ≤ x * y ∧ x * y ≤ A * B := by
  have h : (x * y).natAbs ≤ (A * B).natAbs := by
    rw [Int.natAbs_mul, Int.natAbs_mul]
    exact Nat.mul_le_mul (by omega) (by omega)
  have hp : 0 ≤ A * B := Int.mul_nonneg (by omega) (by omega)
  omega

theorem mul_le0 {x y : Int} : x * y ≤ 0 ↔ (x ≤ 0 ∧ 0 ≤ y) ∨ (0 ≤ x ∧ y ≤ 0) := by
  constructor
  · intro h
    rcases Int.lt_trichotomy x 0 with hx | hx | hx
    · rcases Int.lt_trichotomy y 0 with hy | hy | hy
      · have := Int.mul_pos_of_neg_of_neg hx hy; omega
      · omega
      · omega
    · omega
    · rcases Int.lt_trichotomy y 0 with hy | hy | hy
      · omega
      · omega
      · have := Int.mul_pos hx hy; omega
  · rintro (⟨h1, h2⟩ | ⟨h1, h2⟩)
    · exact Int.mul_nonpos_of_nonpos_of_nonneg h1 h2
    · exact Int.mul_nonpos_of_nonneg_of_nonpos h1 h2

def turn (a b c : Pt) : Int := (b.x - a.x) * (c.y - a.y) - (b.y - a.y) * (c.x - a.x)

def Nr (p : Pt) : Prop := (-1000 ≤ p.x ∧ p.x ≤ 1000) ∧ (-1000 ≤ p.y ∧ p.y ≤ 1000)
def In (p : Pt) : Prop := (-40 ≤ p.x ∧ p.x ≤ 40) ∧ (-40 ≤ p.y ∧ p.y ≤ 40)
theorem In.nr {p : Pt} (h : In p) : Nr p := by unfold In at h; unfold Nr; omega

theorem sub_bd {p q : Pt} (hp : Nr p) (hq : Nr q) : (-2000 ≤ p.x - q.x ∧ p.x - q.x ≤ 2000) ∧ (-2000 ≤ p.y - q.y ∧ p.y - q.y ≤ 2000) := by
  unfold Nr at hp hq; omega

theorem turn_bd {a b c : Pt} (ha : Nr a) (hb : Nr b) (hc : Nr c) : -8000000 ≤ turn a b c ∧ turn a b c ≤ 8000000 := by
  have h1 := sub_bd hb ha
  have h2 := sub_bd hc ha
  have h3 := mul_bd h1.1 h2.2
  have h4 := mul_bd h1.2 h2.1
  unfold turn
  omega

theorem spec_pgTurn_eq {L : Nat} {a b c : Pt} (ha : Nr a) (hb : Nr b) (hc : Nr c) : spec_pgTurn L a.x a.y b.x b.y c.x c.y = some (turn a b c) := by
  have h1 := sub_bd hb ha
  have h2 := sub_bd hc ha
  have h3 := mul_bd h1.1 h2.2
  have h4 := mul_bd h1.2 h2.1
  unfold spec_pgTurn turn
  simp only [isub_eq, imul_eq]
  rw [wr_id (n := b.x - a.x) (by omega), wr_id (n := c.y - a.y) (by omega), wr_id (n := b.y - a.y) (by omega), wr_id (n := c.x - a.x) (by omega), wr_id (n := (b.x - a.x) * (c.y - a.y)) (by omega), wr_id (n := (b.y - a.y) * (c.x - a.x)) (by omega), wr_id (by omega)]

theorem impl_turn_eq {L : Nat} {a b c : Pt} (ha : Nr a) (hb : Nr b) (hc : Nr c) : impl_turn L a.x a.y b.x b.y c.x c.y = some (turn a b c) := by
  have h1 := sub_bd hb ha
  have h2 := sub_bd hc ha
  have h3 := mul_bd h1.1 h2.2
  have h4 := mul_bd h1.2 h2.1
  unfold impl_turn impl_Peg_less impl_cross turn
  simp only [gbind_eq, Option.bind_some, isub_eq, imul_eq]
  rw [wr_id (n := b.x - a.x) (by omega), wr_id (n := c.y - a.y) (by omega), wr_id (n := b.y - a.y) (by omega), wr_id (n := c.x - a.x) (by omega), wr_id (n := (b.x - a.x) * (c.y - a.y)) (by omega), wr_id (n := (b.y - a.y) * (c.x - a.x)) (by omega), wr_id (by omega)]

/-- on a line between two points -/
def OnL (a b p : Pt) : Prop := turn a b p = 0 ∧ (a.x - p.x) * (b.x - p.x) ≤ 0 ∧ (a.y - p.y) * (b.y - p.y) ≤ 0
instance (a b p : Pt) : Decidable (OnL a b p) := by unfold OnL; infer_instance

theorem spec_pgOn_eq {L : Nat} {a b p : Pt} (ha : Nr a) (hb : Nr b) (hp : Nr p) : spec_pgOn L a.x a.y b.x b.y p.x p.y = some (decide (OnL a b p)) := by
  have h1 := sub_bd ha hp
  have h2 := sub_bd hb hp
  have h3 := mul_bd h1.1 h2.1
  have h4 := mul_bd h1.2 h2.2
  unfold spec_pgOn
  rw [spec_pgTurn_eq ha hb hp]
  simp only [gbind_eq, Option.bind_some, isub_eq, imul_eq, ieq_eq, ile_eq]
  rw [wr_id (n := a.x - p.x) (by omega), wr_id (n := b.x - p.x) (by omega), wr_id (n := a.y - p.y) (by omega), wr_id (n := b.y - p.y) (by omega), wr_id (n := (a.x - p.x) * (b.x - p.x)) (by omega), wr_id (n := (a.y - p.y) * (b.y - p.y)) (by omega)]
  unfold OnL
  by_cases k1 : turn a b p = 0 <;> by_cases k2 : (a.x - p.x) * (b.x - p.x) ≤ 0 <;> simp [k1, k2]

theorem mid_iff {a b p : Int} : (a - p) * (b - p) ≤ 0 ↔ (if b < a then b else a) ≤ p ∧ p ≤ (if b > a then b else a) := by
  rw [mul_le0]
  split <;> split <;> omega

theorem impl_isOn_eq {L : Nat} {a b p : Pt} (ha : Nr a) (hb : Nr b) (hp : Nr p) : impl_isOn L a.x a.y b.x b.y p.x p.y = some (decide (OnL a b p)) := by
  unfold impl_isOn impl_within OnL
  rw [impl_turn_eq ha hb hp]
  simp only [gbind_eq, Option.bind_some, ieq_eq, ile_eq, imin_eq, imax_eq, mid_iff]
  by_cases k1 : turn a b p = 0
  · simp only [k1, decide_true, cond_true]
    by_cases k2 : (if b.x < a.x then b.x else a.x) ≤ p.x <;> by_cases k3 : p.x ≤ (if b.x > a.x then b.x else a.x) <;>
      by_cases k4 : (if b.y < a.y then b.y else a.y) ≤ p.y <;> by_cases k5 : p.y ≤ (if b.y > a.y then b.y else a.y) <;> simp [k2, k3, k4, k5]
  · simp [k1]

def sg (n : Int) : Int := if 0 < n then 1 else if n < 0 then -1 else 0

theorem spec_l1Sign_eq {L : Nat} {n : Int} : spec_l1Sign L n = some (sg n) := by
  unfold spec_l1Sign sg
  simp only [ilt_eq]
  by_cases h1 : 0 < n <;> by_cases h2 : n < 0 <;> simp [h1, h2]
theorem impl_sign_eq {L : Nat} {n : Int} : impl_sign L n = some (sg n) := by
  unfold impl_sign sg
  simp only [imin_eq, imax_eq]
  congr 1
  split <;> split <;> split <;> (try split) <;> omega

theorem sg_bd (n : Int) : -1 ≤ sg n ∧ sg n ≤ 1 := by unfold sg; split; omega; split <;> omega

/-- two lines have a point in common -/
def Meet (a b c d : Pt) : Prop := OnL a b c ∨ OnL a b d ∨ OnL c d a ∨ OnL c d b ∨ (sg (turn a b c) * sg (turn a b d) < 0 ∧ sg (turn c d a) * sg (turn c d b) < 0)
instance (a b c d : Pt) : Decidable (Meet a b c d) := by unfold Meet; infer_instance

theorem sgm {m n : Int} : wr .i64 (sg m * sg n) = sg m * sg n := by
  have := mul_bd (sg_bd m) (sg_bd n)
  exact wr_id (by omega)

theorem spec_pgMeet_eq {L : Nat} {a b c d : Pt} (ha : Nr a) (hb : Nr b) (hc : Nr c) (hd : Nr d) : spec_pgMeet L a.x a.y b.x b.y c.x c.y d.x d.y = some (decide (Meet a b c d)) := by
  unfold spec_pgMeet Meet
  rw [spec_pgOn_eq ha hb hc, spec_pgOn_eq ha hb hd, spec_pgOn_eq hc hd ha, spec_pgOn_eq hc hd hb, spec_pgTurn_eq ha hb hc, spec_pgTurn_eq ha hb hd, spec_pgTurn_eq hc hd ha, spec_pgTurn_eq hc hd hb]
  simp only [gbind_eq, Option.bind_some, spec_l1Sign_eq, imul_eq, ilt_eq, sgm]
  by_cases k1 : OnL a b c <;> by_cases k2 : OnL a b d <;> by_cases k3 : OnL c d a <;> by_cases k4 : OnL c d b <;> by_cases k5 : sg (turn a b c) * sg (turn a b d) < 0 <;>
    by_cases k6 : sg (turn c d a) * sg (turn c d b) < 0 <;> simp [k1, k2, k3, k4, k5, k6]

theorem impl_meet_eq {L : Nat} {a b c d : Pt} (ha : Nr a) (hb : Nr b) (hc : Nr c) (hd : Nr d) : impl_meet L a.x a.y b.x b.y c.x c.y d.x d.y = some (decide (Meet a b c d)) := by
  unfold impl_meet Meet
  rw [impl_isOn_eq ha hb hc, impl_isOn_eq ha hb hd, impl_isOn_eq hc hd ha, impl_isOn_eq hc hd hb, impl_turn_eq ha hb hc, impl_turn_eq ha hb hd, impl_turn_eq hc hd ha, impl_turn_eq hc hd hb]
  simp only [gbind_eq, Option.bind_some, impl_sign_eq, imul_eq, ilt_eq, sgm]
  by_cases k1 : OnL a b c <;> by_cases k2 : OnL a b d <;> by_cases k3 : OnL c d a <;> by_cases k4 : OnL c d b <;> by_cases k5 : sg (turn a b c) * sg (turn a b d) < 0 <;>
    by_cases k6 : sg (turn c d a) * sg (turn c d b) < 0 <;> simp [k1, k2, k3, k4, k5, k6]
end Go.AM

/-! Lists told round, searches; polygons. -/
namespace Go.AM
set_option linter.unusedVariables false

/-- the i-th one of a list, told round -/
def pt (a : List Pt) (i : Int) : Pt := a.getD (i % (a.length : Int)).toNat ⟨0, 0⟩

theorem pt_congr {a : List Pt} {i j : Int} (h : i % (a.length : Int) = j % (a.length : Int)) : pt a i = pt a j := by unfold pt; rw [h]

theorem pt_get {a : List Pt} {i : Int} (h0 : 0 ≤ i) (h1 : i < a.length) : a[i.toNat]? = some (pt a i) := by
  unfold pt
  rw [Int.emod_eq_of_lt h0 h1]
  have : i.toNat < a.length := by omega
  simp [this]

theorem lget_pt {a : List Pt} {i : Int} (h0 : 0 ≤ i) (h1 : i < a.length) : lget a i = some (pt a i) := by
  rw [lget_eq, if_pos h0, pt_get h0 h1]

theorem irem_nn {i n : Int} (h : 0 ≤ i) : irem i n = i % n := by rw [irem_eq]; exact Int.tmod_eq_emod_of_nonneg h

theorem lget_rem {a : List Pt} {i : Int} (h0 : 0 ≤ i) (hn : a ≠ []) : lget a (irem i (a.length : Int)) = some (pt a i) := by
  have hl : 0 < (a.length : Int) := by have := List.length_pos_iff.2 hn; omega
  rw [irem_nn h0, lget_pt (Int.emod_nonneg _ (by omega)) (Int.emod_lt_of_pos _ hl)]
  congr 1
  exact pt_congr (Int.emod_emod_of_dvd _ (Int.dvd_refl _))

theorem ilen_mapep (a : List Pt) : ilen (List.map ep a) = (a.length : Int) := by rw [ilen_map, ilen_eq]

theorem impl_at_eq {L : Nat} {a : List Pt} {i : Int} (hn : a ≠ []) (hs : (a.length : Int) ≤ 1000000000) : impl_at L a i = some ((pt a i).x, (pt a i).y) := by
  have hl : 0 < (a.length : Int) := by have := List.length_pos_iff.2 hn; omega
  unfold impl_at
  simp only [ilen_mapep, ieq_eq, gbind_eq, iadd_eq]
  have h0 : ¬ ((a.length : Int) = 0) := by omega
  simp only [h0, decide_false, cond_false]
  have h1 : -(a.length : Int) < irem i (a.length : Int) ∧ irem i (a.length : Int) < a.length := by
    rw [irem_eq]
    have := Int.tmod_lt_of_pos i hl
    have h2 := Int.natAbs_tmod i (a.length : Int)
    have h3 := Nat.mod_lt i.natAbs (show 0 < (a.length : Int).natAbs by omega)
    omega
  rw [wr_id (by omega), lget_rem (by omega) hn]
  simp only [Option.bind_some]
  have : pt a (irem i (a.length : Int) + a.length) = pt a i := by
    apply pt_congr
    rw [Int.add_emod_right, irem_eq]
    conv => rhs; rw [← Int.tmod_add_mul_tdiv i (a.length : Int), Int.add_mul_emod_self_left]
  rw [this]

/-- a search that goes on from v to n -/
theorem search {β : Type} {f : Nat → Int → Option β} {bad : Int → Prop} {r k : Option β} {lo n hi : Int} (hn : n ≤ hi) (hstop : ∀ m v, lo ≤ v → v ≤ hi → ¬ v < n → f (m + 1) v = k) (hbad : ∀ m v, lo ≤ v → v < n → bad v → f (m + 1) v = r)
    (hgo : ∀ m v, lo ≤ v → v < n → ¬ bad v → f (m + 1) v = f m (v + 1)) : ∀ (m : Nat) (v : Int), lo ≤ v → v ≤ hi → n - v < m → 0 < m → ((∃ j, v ≤ j ∧ j < n ∧ bad j) → f m v = r) ∧ ((∀ j, v ≤ j → j < n → ¬ bad j) → f m v = k) := by
  intro m
  induction m with
  | zero => intro v _ _ _ h; omega
  | succ m ih =>
    intro v hv hvh hm _
    by_cases hvn : v < n
    · by_cases hb : bad v
      · refine ⟨fun _ => hbad m v hv hvn hb, fun h => absurd hb (h v (Int.le_refl _) hvn)⟩
      · rw [hgo m v hv hvn hb]
        obtain ⟨h1, h2⟩ := ih (v + 1) (by omega) (by omega) (by omega) (by omega)
        refine ⟨fun ⟨j, q1, q2, q3⟩ => h1 ⟨j, ?_, q2, q3⟩, fun h => h2 fun j q1 q2 => h j (by omega) q2⟩
        by_cases hj : j = v
        · subst hj; exact absurd q3 hb
        · omega
    · rw [hstop m v hv hvh hvn]
      exact ⟨fun ⟨j, q1, q2, _⟩ => by omega, fun _ => rfl⟩

/-- a polygon -/
structure Good_ (a : List Pt) : Prop where
  lo : 3 ≤ (a.length : Int)
  hi : (a.length : Int) ≤ 10
  isIn : ∀ i, 0 ≤ i → i < (a.length : Int) → In (pt a i)
  ne : ∀ i k, 0 ≤ k → k < i → i < (a.length : Int) → pt a k ≠ pt a i
  turn : ∀ i, 0 ≤ i → i < (a.length : Int) → turn (pt a i) (pt a (i + 1)) (pt a (i + 2)) ≠ 0
  apart : ∀ i k, 0 ≤ i → i + 2 ≤ k → k < (a.length : Int) → k - i < (a.length : Int) - 1 → ¬ Meet (pt a i) (pt a (i + 1)) (pt a k) (pt a (k + 1))

theorem in_all {a : List Pt} (h : ∀ i, 0 ≤ i → i < (a.length : Int) → In (pt a i)) (hn : a ≠ []) (i : Int) : In (pt a i) := by
  have hl : 0 < (a.length : Int) := by have := List.length_pos_iff.2 hn; omega
  have := h (i % a.length) (Int.emod_nonneg _ (by omega)) (Int.emod_lt_of_pos _ hl)
  rwa [pt_congr (Int.emod_emod_of_dvd _ (Int.dvd_refl _))] at this

theorem spec_pgIs_eq {L : Nat} {p : Pt} : (In p → spec_pgIs L p.x p.y = some true) ∧ (¬ In p → spec_pgIs L p.x p.y = some false) := by
  unfold spec_pgIs spec_l1In In
  simp only [gbind_eq, ile_eq]
  by_cases h1 : -40 ≤ p.x <;> by_cases h2 : p.x ≤ 40 <;> by_cases h3 : -40 ≤ p.y <;> by_cases h4 : p.y ≤ 40 <;> simp [h1, h2, h3, h4]

theorem impl_IsPeg_eq {L : Nat} {p : Pt} : (In p → impl_IsPeg L p.x p.y = some true) ∧ (¬ In p → impl_IsPeg L p.x p.y = some false) := by
  unfold impl_IsPeg impl_within In
  simp only [gbind_eq, ile_eq]
  by_cases h1 : -40 ≤ p.x <;> by_cases h2 : p.x ≤ 40 <;> by_cases h3 : -40 ≤ p.y <;> by_cases h4 : p.y ≤ 40 <;> simp [h1, h2, h3, h4]

theorem pt_eq_iff {p q : Pt} : (decide (p.x = q.x) && decide (p.y = q.y)) = true ↔ p = q := by
  cases p; cases q; simp

theorem lsub0 {a : List Pt} {i : Int} (h0 : 0 ≤ i) (h1 : i ≤ a.length) : lsub a 0 i = a.take i.toNat := by
  rw [lsub_eq]; simp

theorem lsub0_len {a : List Pt} {i : Int} (h0 : 0 ≤ i) (h1 : i ≤ a.length) : ilen (lsub (List.map ep a) 0 i) = i := by
  rw [lsub_eq, ilen_eq]; simp; omega

theorem lsub0_get {a : List Pt} {i j : Int} (h0 : 0 ≤ j) (hj : j < i) (h1 : i ≤ a.length) : lget (lsub a 0 i) j = some (pt a j) := by
  rw [lsub0 (by omega) h1, lget_eq, if_pos h0, List.getElem?_take, if_pos (by omega), pt_get h0 (by omega)]

theorem good_l1 {L : Nat} {κ0 : (List Pt) → Int → (List Pt) → Int → Int → Option Bool} {a v17 : List Pt} {v3 v18 i : Int} {p : Pt} (hi : 0 ≤ i) (hl : i ≤ a.length) (hs : (a.length : Int) ≤ 10) {m : Nat} (hm : i < m) :
    ((∃ j, 0 ≤ j ∧ j < i ∧ pt a j = p) → spec_pgGood_l1 L κ0 a v3 v17 v18 i p m 0 = some false) ∧ ((∀ j, 0 ≤ j → j < i → ¬ pt a j = p) → spec_pgGood_l1 L κ0 a v3 v17 v18 i p m 0 = κ0 a v3 v17 v18 (i + 1)) := by
  refine search (lo := 0) (n := i) (hi := i) (bad := fun j => pt a j = p) (Int.le_refl _) ?_ ?_ ?_ m 0 (Int.le_refl _) (by omega) (by omega) (by omega)
  · intro m v h0 _ h
    rw [spec_pgGood_l1]
    simp only [lsub0_len hi hl, ilt_eq, h, decide_false, cond_false, iadd_eq]
    rw [wr_id (by omega)]
  · intro m v h0 h hb
    rw [spec_pgGood_l1]
    simp only [lsub0_len hi hl, ilt_eq, h, decide_true, cond_true, lsub0_get h0 h hl, gbind_eq, Option.bind_some, ieq_eq, hb, Bool.and_self]
  · intro m v h0 h hb
    rw [spec_pgGood_l1]
    simp only [lsub0_len hi hl, ilt_eq, h, decide_true, cond_true, lsub0_get h0 h hl, gbind_eq, Option.bind_some, ieq_eq, iadd_eq]
    have : (decide (p.x = (pt a v).x) && decide (p.y = (pt a v).y)) = false := by
      rw [← Bool.not_eq_true, pt_eq_iff]; exact fun e => hb e.symm
    rw [this, cond_false, wr_id (by omega)]

theorem wr_s {i : Int} (h : -1000000 ≤ i ∧ i ≤ 1000000) : wr .i64 i = i := wr_id (by omega)

theorem good_l3 {L : Nat} {κ1 : (List Pt) → Int → (List Pt) → Int → Int → Option Bool} {a v40 : List Pt} {v41 i : Int} (hi : 0 ≤ i) (hil : i < a.length) (hs : (a.length : Int) ≤ 10) (hin : ∀ i, In (pt a i)) {m : Nat} (hm : (a.length : Int) - (i + 2) < m) (hm0 : 0 < m) :
    ((∃ k, i + 2 ≤ k ∧ k < (if i = 0 then (a.length : Int) - 1 else a.length) ∧ Meet (pt a i) (pt a (i + 1)) (pt a k) (pt a (k + 1))) → spec_pgGood_l3 L κ1 a a.length v40 v41 i (pt a i) (pt a (i + 1)) m (i + 2) = some false) ∧
    ((∀ k, i + 2 ≤ k → k < (if i = 0 then (a.length : Int) - 1 else a.length) → ¬ Meet (pt a i) (pt a (i + 1)) (pt a k) (pt a (k + 1))) → spec_pgGood_l3 L κ1 a a.length v40 v41 i (pt a i) (pt a (i + 1)) m (i + 2) = κ1 a a.length v40 v41 (i + 1)) := by
  have hne : a ≠ [] := by intro e; subst e; simp at hil; omega
  refine search (lo := i + 2) (n := if i = 0 then (a.length : Int) - 1 else a.length) (hi := 12) (bad := fun k => Meet (pt a i) (pt a (i + 1)) (pt a k) (pt a (k + 1))) (by split <;> omega) ?_ ?_ ?_ m (i + 2) (Int.le_refl _) (by omega) (by split <;> omega) hm0
  · intro m v h0 _ h
    rw [spec_pgGood_l3]
    simp only [ilt_eq, isub_eq, iadd_eq]
    rw [wr_s (i := v - i) (by omega), wr_s (i := (a.length : Int) - 1) (by omega), wr_s (i := i + 1) (by omega)]
    by_cases h1 : v < (a.length : Int)
    · have h2 : ¬ (v - i < (a.length : Int) - 1) := by split at h <;> omega
      simp only [h1, h2, decide_true, decide_false, cond_true, cond_false]
    · simp only [h1, decide_false, cond_false]
  · intro m v h0 h hb
    rw [spec_pgGood_l3]
    have h1 : v < (a.length : Int) := by split at h <;> omega
    have h2 : v - i < (a.length : Int) - 1 := by split at h <;> omega
    have h3 : ¬ ((a.length : Int) = 0) := by omega
    simp only [ilt_eq, isub_eq, iadd_eq, ieq_eq]
    rw [wr_s (i := v - i) (by omega), wr_s (i := (a.length : Int) - 1) (by omega), wr_s (i := v + 1) (by omega)]
    simp only [h1, h2, h3, decide_true, decide_false, cond_true, cond_false, gbind_eq, lget_pt (show 0 ≤ v by omega) h1, lget_rem (show 0 ≤ v + 1 by omega) hne, Option.bind_some]
    rw [spec_pgMeet_eq (hin _).nr (hin _).nr (hin _).nr (hin _).nr]
    simp [hb]
  · intro m v h0 h hb
    rw [spec_pgGood_l3]
    have h1 : v < (a.length : Int) := by split at h <;> omega
    have h2 : v - i < (a.length : Int) - 1 := by split at h <;> omega
    have h3 : ¬ ((a.length : Int) = 0) := by omega
    simp only [ilt_eq, isub_eq, iadd_eq, ieq_eq]
    rw [wr_s (i := v - i) (by omega), wr_s (i := (a.length : Int) - 1) (by omega), wr_s (i := v + 1) (by omega)]
    simp only [h1, h2, h3, decide_true, decide_false, cond_true, cond_false, gbind_eq, lget_pt (show 0 ≤ v by omega) h1, lget_rem (show 0 ≤ v + 1 by omega) hne, Option.bind_some]
    rw [spec_pgMeet_eq (hin _).nr (hin _).nr (hin _).nr (hin _).nr]
    simp [hb]

theorem good_l2 {L : Nat} {a : List Pt} (hn : 3 ≤ (a.length : Int)) (hs : (a.length : Int) ≤ 10) (hL : 20 < L) (hin : ∀ i, In (pt a i)) {m : Nat} (hm : (a.length : Int) < m) :
    ((∃ i, 0 ≤ i ∧ i < (a.length : Int) ∧ (turn (pt a i) (pt a (i + 1)) (pt a (i + 2)) = 0 ∨ ∃ k, i + 2 ≤ k ∧ k < (if i = 0 then (a.length : Int) - 1 else a.length) ∧ Meet (pt a i) (pt a (i + 1)) (pt a k) (pt a (k + 1)))) → spec_pgGood_l2 L m a a.length a a.length 0 = some false) ∧
    ((∀ i, 0 ≤ i → i < (a.length : Int) → ¬ (turn (pt a i) (pt a (i + 1)) (pt a (i + 2)) = 0 ∨ ∃ k, i + 2 ≤ k ∧ k < (if i = 0 then (a.length : Int) - 1 else a.length) ∧ Meet (pt a i) (pt a (i + 1)) (pt a k) (pt a (k + 1)))) → spec_pgGood_l2 L m a a.length a a.length 0 = some true) := by
  have hne : a ≠ [] := by intro e; subst e; simp at hn
  have h3 : ¬ ((a.length : Int) = 0) := by omega
  refine search (f := fun m v => spec_pgGood_l2 L m a a.length a a.length v) (lo := 0) (n := (a.length : Int)) (hi := 10)
    (bad := fun i => turn (pt a i) (pt a (i + 1)) (pt a (i + 2)) = 0 ∨ ∃ k, i + 2 ≤ k ∧ k < (if i = 0 then (a.length : Int) - 1 else a.length) ∧ Meet (pt a i) (pt a (i + 1)) (pt a k) (pt a (k + 1))) hs ?_ ?_ ?_ m 0 (Int.le_refl _) (by omega) (by omega) (by omega)
  · intro m v h0 _ h
    simp only [spec_pgGood_l2, ilt_eq, h, decide_false, cond_false]
  · intro m v h0 h hb
    simp only [spec_pgGood_l2, ilt_eq, ieq_eq, iadd_eq, h3, h, decide_true, decide_false, cond_true, cond_false, gbind_eq, wr_s (i := v + 1) (by omega), wr_s (i := v + 2) (by omega), lget_pt h0 h, lget_rem (show 0 ≤ v + 1 by omega) hne, lget_rem (show 0 ≤ v + 2 by omega) hne, Option.bind_some]
    rw [spec_pgTurn_eq (hin _).nr (hin _).nr (hin _).nr]
    simp only [Option.bind_some]
    by_cases ht : turn (pt a v) (pt a (v + 1)) (pt a (v + 2)) = 0
    · simp only [ht, decide_true, cond_true]
    · simp only [ht, decide_false, cond_false]
      exact (good_l3 h0 h hs hin (by omega) (by omega)).1 (hb.resolve_left ht)
  · intro m v h0 h hb
    simp only [spec_pgGood_l2, ilt_eq, ieq_eq, iadd_eq, h3, h, decide_true, decide_false, cond_true, cond_false, gbind_eq, wr_s (i := v + 1) (by omega), wr_s (i := v + 2) (by omega), lget_pt h0 h, lget_rem (show 0 ≤ v + 1 by omega) hne, lget_rem (show 0 ≤ v + 2 by omega) hne, Option.bind_some]
    rw [spec_pgTurn_eq (hin _).nr (hin _).nr (hin _).nr]
    simp only [Option.bind_some]
    have ht : ¬ turn (pt a v) (pt a (v + 1)) (pt a (v + 2)) = 0 := fun e => hb (.inl e)
    simp only [ht, decide_false, cond_false]
    exact (good_l3 h0 h hs hin (by omega) (by omega)).2 fun k h1 h2 h3 => hb (.inr ⟨k, h1, h2, h3⟩)
end Go.AM

/-! Polygons: both sides tell the same. -/
namespace Go.AM
set_option linter.unusedVariables false

theorem good_l0 {L : Nat} {a : List Pt} (hn : 3 ≤ (a.length : Int)) (hs : (a.length : Int) ≤ 10) (hL : 20 < L) {m : Nat} (hm : (a.length : Int) < m) :
    ((∃ i, 0 ≤ i ∧ i < (a.length : Int) ∧ (¬ In (pt a i) ∨ ∃ k, 0 ≤ k ∧ k < i ∧ pt a k = pt a i)) → spec_pgGood_l0 L m a a.length a a.length 0 = some false) ∧
    ((∀ i, 0 ≤ i → i < (a.length : Int) → ¬ (¬ In (pt a i) ∨ ∃ k, 0 ≤ k ∧ k < i ∧ pt a k = pt a i)) → spec_pgGood_l0 L m a a.length a a.length 0 = spec_pgGood_l2 L L a a.length a a.length 0) := by
  refine search (f := fun m v => spec_pgGood_l0 L m a a.length a a.length v) (lo := 0) (n := (a.length : Int)) (hi := 10)
    (bad := fun i => ¬ In (pt a i) ∨ ∃ k, 0 ≤ k ∧ k < i ∧ pt a k = pt a i) hs ?_ ?_ ?_ m 0 (Int.le_refl _) (by omega) (by omega) (by omega)
  · intro m v h0 _ h
    simp only [spec_pgGood_l0, ilt_eq, h, decide_false, cond_false, ilen_mapep]
  · intro m v h0 h hb
    simp only [spec_pgGood_l0, ilt_eq, ile_eq, h, h0, ilen_mapep, show v ≤ (a.length : Int) by omega, decide_true, Bool.and_self, cond_true, gbind_eq, lget_pt h0 h, Option.bind_some]
    by_cases hi : In (pt a v)
    · rw [spec_pgIs_eq.1 hi]
      simp only [Option.bind_some, Bool.not_true, cond_false]
      obtain ⟨k, q1, q2, q3⟩ := hb.resolve_left fun h => h hi
      exact (good_l1 h0 (by omega) hs (by omega)).1 ⟨k, q1, q2, q3⟩
    · rw [spec_pgIs_eq.2 hi]
      simp only [Option.bind_some, Bool.not_false, cond_true]
  · intro m v h0 h hb
    simp only [spec_pgGood_l0, ilt_eq, ile_eq, h, h0, ilen_mapep, show v ≤ (a.length : Int) by omega, decide_true, Bool.and_self, cond_true, gbind_eq, lget_pt h0 h, Option.bind_some]
    have hi : In (pt a v) := Classical.byContradiction fun e => hb (.inl e)
    rw [spec_pgIs_eq.1 hi]
    simp only [Option.bind_some, Bool.not_true, cond_false]
    exact (good_l1 h0 (by omega) hs (by omega)).2 fun k q1 q2 q3 => hb (.inr ⟨k, q1, q2, q3⟩)

theorem spec_l1In_eq {L : Nat} {n lo hi : Int} : spec_l1In L n lo hi = some (decide (lo ≤ n ∧ n ≤ hi)) := by
  unfold spec_l1In
  simp only [ile_eq]
  by_cases h1 : lo ≤ n <;> by_cases h2 : n ≤ hi <;> simp [h1, h2]
theorem impl_within_eq {L : Nat} {n lo hi : Int} : impl_within L n lo hi = some (decide (lo ≤ n ∧ n ≤ hi)) := by
  unfold impl_within
  simp only [ile_eq]
  by_cases h1 : lo ≤ n <;> by_cases h2 : n ≤ hi <;> simp [h1, h2]

open Classical in
theorem spec_pgGood_eq {L : Nat} {a : List Pt} (hL : 20 < L) : spec_pgGood L a = some (decide (Good_ a)) := by
  unfold spec_pgGood
  simp only [ilen_mapep, spec_l1In_eq, gbind_eq, Option.bind_some]
  by_cases hn : 3 ≤ (a.length : Int) ∧ (a.length : Int) ≤ 10
  · simp only [hn, and_self, decide_true, Bool.not_true, cond_false]
    have hne : a ≠ [] := by intro e; subst e; simp at hn
    by_cases h0 : ∃ i, 0 ≤ i ∧ i < (a.length : Int) ∧ (¬ In (pt a i) ∨ ∃ k, 0 ≤ k ∧ k < i ∧ pt a k = pt a i)
    · rw [(good_l0 hn.1 hn.2 hL (by omega)).1 h0]
      have : ¬ Good_ a := fun g => by
        obtain ⟨i, q1, q2, q3⟩ := h0
        rcases q3 with q3 | ⟨k, q4, q5, q6⟩
        · exact q3 (g.isIn i q1 q2)
        · exact g.ne i k q4 q5 q2 q6
      simp [this]
    · have h0' : ∀ i, 0 ≤ i → i < (a.length : Int) → ¬ (¬ In (pt a i) ∨ ∃ k, 0 ≤ k ∧ k < i ∧ pt a k = pt a i) := fun i q1 q2 q3 => h0 ⟨i, q1, q2, q3⟩
      rw [(good_l0 hn.1 hn.2 hL (by omega)).2 h0']
      have hIn : ∀ i, 0 ≤ i → i < (a.length : Int) → In (pt a i) := fun i q1 q2 => Classical.byContradiction fun e => h0' i q1 q2 (.inl e)
      have hin := in_all hIn hne
      by_cases h1 : ∃ i, 0 ≤ i ∧ i < (a.length : Int) ∧ (turn (pt a i) (pt a (i + 1)) (pt a (i + 2)) = 0 ∨ ∃ k, i + 2 ≤ k ∧ k < (if i = 0 then (a.length : Int) - 1 else a.length) ∧ Meet (pt a i) (pt a (i + 1)) (pt a k) (pt a (k + 1)))
      · rw [(good_l2 hn.1 hn.2 hL hin (by omega)).1 h1]
        have : ¬ Good_ a := fun g => by
          obtain ⟨i, q1, q2, q3⟩ := h1
          rcases q3 with q3 | ⟨k, q4, q5, q6⟩
          · exact g.turn i q1 q2 q3
          · exact g.apart i k q1 q4 (by split at q5 <;> omega) (by split at q5 <;> omega) q6
        simp [this]
      · have h1' : ∀ i, 0 ≤ i → i < (a.length : Int) → ¬ (turn (pt a i) (pt a (i + 1)) (pt a (i + 2)) = 0 ∨ ∃ k, i + 2 ≤ k ∧ k < (if i = 0 then (a.length : Int) - 1 else a.length) ∧ Meet (pt a i) (pt a (i + 1)) (pt a k) (pt a (k + 1))) := fun i q1 q2 q3 => h1 ⟨i, q1, q2, q3⟩
        rw [(good_l2 hn.1 hn.2 hL hin (by omega)).2 h1']
        have : Good_ a := ⟨hn.1, hn.2, hIn, fun i k q1 q2 q3 q4 => h0' i (by omega) q3 (.inr ⟨k, q1, q2, q4⟩), fun i q1 q2 q3 => h1' i q1 q2 (.inl q3), fun i k q1 q2 q3 q4 q5 => h1' i q1 (by omega) (.inr ⟨k, q2, by split <;> omega, q5⟩)⟩
        simp [this]
  · have : ¬ Good_ a := fun g => hn ⟨g.lo, g.hi⟩
    simp only [hn, this, decide_false, Bool.not_false, cond_true]

/-! the program's side -/
theorem arePegs_eq {L : Nat} {a : List Pt} (hs : (a.length : Int) ≤ 1000000) (hL : (a.length : Int) < L) :
    ((∃ i, 0 ≤ i ∧ i < (a.length : Int) ∧ ¬ In (pt a i)) → impl_arePegs L a = some false) ∧ ((∀ i, 0 ≤ i → i < (a.length : Int) → In (pt a i)) → impl_arePegs L a = some true) := by
  have key : (∃ i, 0 ≤ i ∧ i < (a.length : Int) ∧ ¬ In (pt a i)) → ∃ i, 0 ≤ i ∧ slices_IndexFunc_impl_Peg_impl_Peg_arePegs_l0 L a L 0 = some i := by
    have : ∀ (m : Nat) (v : Int), 0 ≤ v → (a.length : Int) - v < m → (∃ i, v ≤ i ∧ i < (a.length : Int) ∧ ¬ In (pt a i)) → ∃ i, 0 ≤ i ∧ slices_IndexFunc_impl_Peg_impl_Peg_arePegs_l0 L a m v = some i := by
      intro m
      induction m with
      | zero => rintro v h0 h ⟨i, q1, q2, _⟩; omega
      | succ m ih =>
        rintro v h0 h ⟨i, q1, q2, q3⟩
        have hv : v < (a.length : Int) := by omega
        simp only [slices_IndexFunc_impl_Peg_impl_Peg_arePegs_l0, ilt_eq, ilen_mapep, hv, decide_true, cond_true, gbind_eq, lget_pt h0 hv, Option.bind_some, impl_arePegs_1]
        by_cases hi : In (pt a v)
        · rw [impl_IsPeg_eq.1 hi]
          simp only [Option.bind_some, Bool.not_true, cond_false, iadd_eq]
          rw [wr_s (by omega)]
          refine ih (v + 1) (by omega) (by omega) ⟨i, ?_, q2, q3⟩
          by_cases e : i = v
          · subst e; exact absurd hi q3
          · omega
        · rw [impl_IsPeg_eq.2 hi]
          exact ⟨v, h0, by simp⟩
    exact this L 0 (Int.le_refl _) (by omega)
  constructor
  · intro h
    obtain ⟨i, q1, q2⟩ := key h
    simp only [impl_arePegs, slices_ContainsFunc_impl_Peg_impl_Peg_arePegs, slices_IndexFunc_impl_Peg_impl_Peg_arePegs, gbind_eq, q2, Option.bind_some, ile_eq, q1, decide_true, Bool.not_true]
  · intro h
    have := (search (f := fun m v => slices_IndexFunc_impl_Peg_impl_Peg_arePegs_l0 L a m v) (r := none) (k := some (-1)) (lo := 0) (n := (a.length : Int)) (hi := (a.length : Int)) (bad := fun i => False) (Int.le_refl _) (fun m v h0 _ h => by
        simp only [slices_IndexFunc_impl_Peg_impl_Peg_arePegs_l0, ilt_eq, ilen_mapep, h, decide_false, cond_false]) (fun m v h0 h hb => hb.elim) (fun m v h0 hv _ => by
        simp only [slices_IndexFunc_impl_Peg_impl_Peg_arePegs_l0, ilt_eq, ilen_mapep, hv, decide_true, cond_true, gbind_eq, lget_pt h0 hv, Option.bind_some, impl_arePegs_1]
        rw [impl_IsPeg_eq.1 (h v h0 hv)]
        simp only [Option.bind_some, Bool.not_true, cond_false, iadd_eq]
        rw [wr_s (by omega)]) L 0 (Int.le_refl _) (by omega) (by omega) (by omega)).2 fun _ _ _ h => h
    simp only [impl_arePegs, slices_ContainsFunc_impl_Peg_impl_Peg_arePegs, slices_IndexFunc_impl_Peg_impl_Peg_arePegs, gbind_eq, this, Option.bind_some, ile_eq]
    rfl

theorem contains_eq {L : Nat} {b : List Pt} {p : Pt} (hs : (b.length : Int) ≤ 1000000) (hL : (b.length : Int) < L) :
    ((∃ j, 0 ≤ j ∧ j < (b.length : Int) ∧ pt b j = p) → slices_Contains_impl_Peg_impl_Peg L b p.x p.y = some true) ∧ ((∀ j, 0 ≤ j → j < (b.length : Int) → ¬ pt b j = p) → slices_Contains_impl_Peg_impl_Peg L b p.x p.y = some false) := by
  have heq : ∀ v, (decide (p.x = (pt b v).x) && decide (p.y = (pt b v).y)) = decide (pt b v = p) := fun v => by
    rw [Bool.eq_iff_iff, pt_eq_iff]
    simp [eq_comm]
  have key : (∃ j, 0 ≤ j ∧ j < (b.length : Int) ∧ pt b j = p) → ∃ i, 0 ≤ i ∧ slices_Index_impl_Peg_impl_Peg_l0 L b p.x p.y L 0 = some i := by
    have : ∀ (m : Nat) (v : Int), 0 ≤ v → (b.length : Int) - v < m → (∃ i, v ≤ i ∧ i < (b.length : Int) ∧ pt b i = p) → ∃ i, 0 ≤ i ∧ slices_Index_impl_Peg_impl_Peg_l0 L b p.x p.y m v = some i := by
      intro m
      induction m with
      | zero => rintro v h0 h ⟨i, q1, q2, _⟩; omega
      | succ m ih =>
        rintro v h0 h ⟨i, q1, q2, q3⟩
        have hv : v < (b.length : Int) := by omega
        simp only [slices_Index_impl_Peg_impl_Peg_l0, ilt_eq, ilen_mapep, hv, decide_true, cond_true, gbind_eq, lget_pt h0 hv, Option.bind_some, ieq_eq, heq]
        by_cases hi : pt b v = p
        · exact ⟨v, h0, by simp [hi]⟩
        · simp only [hi, decide_false, cond_false, iadd_eq]
          rw [wr_s (by omega)]
          refine ih (v + 1) (by omega) (by omega) ⟨i, ?_, q2, q3⟩
          by_cases e : i = v
          · subst e; exact absurd q3 hi
          · omega
    exact this L 0 (Int.le_refl _) (by omega)
  constructor
  · intro h
    obtain ⟨i, q1, q2⟩ := key h
    simp only [slices_Contains_impl_Peg_impl_Peg, slices_Index_impl_Peg_impl_Peg, gbind_eq, q2, Option.bind_some, ile_eq, q1, decide_true]
  · intro h
    have := (search (f := fun m v => slices_Index_impl_Peg_impl_Peg_l0 L b p.x p.y m v) (r := none) (k := some (-1)) (lo := 0) (n := (b.length : Int)) (hi := (b.length : Int)) (bad := fun i => False) (Int.le_refl _) (fun m v h0 _ h => by
        simp only [slices_Index_impl_Peg_impl_Peg_l0, ilt_eq, ilen_mapep, h, decide_false, cond_false]) (fun m v h0 h hb => hb.elim) (fun m v h0 hv _ => by
        simp only [slices_Index_impl_Peg_impl_Peg_l0, ilt_eq, ilen_mapep, hv, decide_true, cond_true, gbind_eq, lget_pt h0 hv, Option.bind_some, ieq_eq, heq, h v h0 hv, decide_false, cond_false, iadd_eq]
        rw [wr_s (by omega)]) L 0 (Int.le_refl _) (by omega) (by omega) (by omega)).2 fun _ _ _ h => h
    simp only [slices_Contains_impl_Peg_impl_Peg, slices_Index_impl_Peg_impl_Peg, gbind_eq, this, Option.bind_some, ile_eq]
    rfl

theorem pt_take {a : List Pt} {i j : Int} (h0 : 0 ≤ j) (hj : j < i) (h1 : i ≤ a.length) : pt (lsub a 0 i) j = pt a j := by
  have h2 := lsub0_get h0 hj h1
  have h3 : ((lsub a 0 i).length : Int) = i := by rw [lsub0 (by omega) h1]; simp; omega
  rw [lget_pt h0 (by omega)] at h2
  exact Option.some.inj h2

def BadM (a : List Pt) (i k : Int) : Prop := k + 1 ≠ i ∧ ¬ (i + 1 = (a.length : Int) ∧ k = 0) ∧ Meet (pt a k) (pt a (k + 1)) (pt a i) (pt a (i + 1))

theorem poly_l1 {L : Nat} {κ0 : (List Pt) → Int → (List Pt) → Int → Int → Option Bool} {a v17 : List Pt} {v18 i : Int} (hi : 0 ≤ i) (hil : i < a.length) (hs : (a.length : Int) ≤ 10) (hin : ∀ i, In (pt a i)) {m : Nat} (hm : i < m) :
    ((∃ k, 0 ≤ k ∧ k < i ∧ BadM a i k) → impl_IsPolygon_l1 L κ0 a a.length v17 v18 i (pt a i) m 0 = some false) ∧
    ((∀ k, 0 ≤ k → k < i → ¬ BadM a i k) → impl_IsPolygon_l1 L κ0 a a.length v17 v18 i (pt a i) m 0 = κ0 a a.length v17 v18 (i + 1)) := by
  have hne : a ≠ [] := by intro e; subst e; simp at hil; omega
  refine search (lo := 0) (n := i) (hi := i) (bad := BadM a i) (Int.le_refl _) ?_ ?_ ?_ m 0 (Int.le_refl _) (by omega) (by omega) (by omega)
  · intro m v h0 _ h
    simp only [impl_IsPolygon_l1, ilt_eq, h, decide_false, cond_false, iadd_eq]
    rw [wr_s (by omega)]
  · intro m v h0 h hb
    obtain ⟨b1, b2, b3⟩ := hb
    simp only [impl_IsPolygon_l1, ilt_eq, ieq_eq, iadd_eq, wr_s (i := v + 1) (by omega), wr_s (i := i + 1) (by omega), h, b1, decide_true, decide_false, cond_true, cond_false, gbind_eq,
      lget_pt h0 (show v < (a.length : Int) by omega), lget_pt (show 0 ≤ v + 1 by omega) (show v + 1 < (a.length : Int) by omega), impl_at_eq hne (show (a.length : Int) ≤ 1000000000 by omega), Option.bind_some]
    rw [impl_meet_eq (hin _).nr (hin _).nr (hin _).nr (hin _).nr]
    rw [decide_eq_true b3]
    by_cases c1 : i + 1 = (a.length : Int)
    · have c2 : ¬ v = 0 := fun e => b2 ⟨c1, e⟩
      simp [c1, c2]
    · simp [c1]
  · intro m v h0 h hb
    simp only [impl_IsPolygon_l1, ilt_eq, ieq_eq, iadd_eq, wr_s (i := v + 1) (by omega), wr_s (i := i + 1) (by omega), h, decide_true, decide_false, cond_true, cond_false, gbind_eq,
      lget_pt h0 (show v < (a.length : Int) by omega), lget_pt (show 0 ≤ v + 1 by omega) (show v + 1 < (a.length : Int) by omega), impl_at_eq hne (show (a.length : Int) ≤ 1000000000 by omega), Option.bind_some]
    rw [impl_meet_eq (hin _).nr (hin _).nr (hin _).nr (hin _).nr]
    by_cases c0 : v + 1 = i
    · simp only [c0, decide_true, cond_true]
    · simp only [c0, decide_false, cond_false]
      by_cases c1 : i + 1 = (a.length : Int)
      · by_cases c2 : v = 0
        · simp [c1, c2]
        · have b3 : ¬ Meet (pt a v) (pt a (v + 1)) (pt a i) (pt a (i + 1)) := fun e => hb ⟨c0, fun q => c2 q.2, e⟩
          simp [c1, c2]
          rw [← c1]
          simp [b3]
      · have b3 : ¬ Meet (pt a v) (pt a (v + 1)) (pt a i) (pt a (i + 1)) := fun e => hb ⟨c0, fun q => c1 q.1, e⟩
        simp [c1, b3]

theorem poly_l0 {L : Nat} {a : List Pt} (hn : 3 ≤ (a.length : Int)) (hs : (a.length : Int) ≤ 10) (hL : 20 < L) (hin : ∀ i, In (pt a i)) {m : Nat} (hm : (a.length : Int) < m) :
    ((∃ i, 0 ≤ i ∧ i < (a.length : Int) ∧ ((∃ k, 0 ≤ k ∧ k < i ∧ pt a k = pt a i) ∨ turn (pt a (i - 1)) (pt a i) (pt a (i + 1)) = 0 ∨ ∃ k, 0 ≤ k ∧ k < i ∧ BadM a i k)) → impl_IsPolygon_l0 L m a a.length a a.length 0 = some false) ∧
    ((∀ i, 0 ≤ i → i < (a.length : Int) → ¬ ((∃ k, 0 ≤ k ∧ k < i ∧ pt a k = pt a i) ∨ turn (pt a (i - 1)) (pt a i) (pt a (i + 1)) = 0 ∨ ∃ k, 0 ≤ k ∧ k < i ∧ BadM a i k)) → impl_IsPolygon_l0 L m a a.length a a.length 0 = some true) := by
  have hne : a ≠ [] := by intro e; subst e; simp at hn
  have hc : ∀ v, 0 ≤ v → v < (a.length : Int) → ((∃ k, 0 ≤ k ∧ k < v ∧ pt a k = pt a v) → slices_Contains_impl_Peg_impl_Peg L (lsub a 0 v) (pt a v).x (pt a v).y = some true) ∧ ((¬ ∃ k, 0 ≤ k ∧ k < v ∧ pt a k = pt a v) → slices_Contains_impl_Peg_impl_Peg L (lsub a 0 v) (pt a v).x (pt a v).y = some false) := by
    intro v h0 h
    have hl : ((lsub a 0 v).length : Int) = v := by rw [lsub0 (by omega) (by omega)]; simp; omega
    obtain ⟨h1, h2⟩ := contains_eq (L := L) (b := lsub a 0 v) (p := pt a v) (by omega) (by omega)
    rw [hl] at h1 h2
    refine ⟨fun ⟨k, q1, q2, q3⟩ => h1 ⟨k, q1, q2, by rw [pt_take q1 q2 (by omega)]; exact q3⟩, fun hno => h2 fun j q1 q2 q3 => hno ⟨j, q1, q2, ?_⟩⟩
    rwa [pt_take q1 q2 (by omega)] at q3
  refine search (f := fun m v => impl_IsPolygon_l0 L m a a.length a a.length v) (lo := 0) (n := (a.length : Int)) (hi := 10)
    (bad := fun i => (∃ k, 0 ≤ k ∧ k < i ∧ pt a k = pt a i) ∨ turn (pt a (i - 1)) (pt a i) (pt a (i + 1)) = 0 ∨ ∃ k, 0 ≤ k ∧ k < i ∧ BadM a i k) hs ?_ ?_ ?_ m 0 (Int.le_refl _) (by omega) (by omega) (by omega)
  · intro m v h0 _ h
    simp only [impl_IsPolygon_l0, ilt_eq, h, decide_false, cond_false]
  · intro m v h0 h hb
    simp only [impl_IsPolygon_l0, ilt_eq, ile_eq, isub_eq, iadd_eq, h, h0, ilen_mapep, show v ≤ (a.length : Int) by omega, decide_true, Bool.and_self, cond_true, gbind_eq, lget_pt h0 h, Option.bind_some, wr_s (i := v + 1) (by omega), wr_s (i := v - 1) (by omega),
      impl_at_eq hne (show (a.length : Int) ≤ 1000000000 by omega)]
    rw [impl_turn_eq (hin _).nr (hin _).nr (hin _).nr]
    by_cases c : ∃ k, 0 ≤ k ∧ k < v ∧ pt a k = pt a v
    · rw [(hc v h0 h).1 c]; rfl
    · rw [(hc v h0 h).2 c]
      simp only [Option.bind_some, cond_false, ieq_eq]
      by_cases t : turn (pt a (v - 1)) (pt a v) (pt a (v + 1)) = 0
      · simp only [t, decide_true, cond_true]
      · simp only [t, decide_false, cond_false]
        exact (poly_l1 h0 h hs hin (by omega)).1 ((hb.resolve_left c).resolve_left t)
  · intro m v h0 h hb
    simp only [impl_IsPolygon_l0, ilt_eq, ile_eq, isub_eq, iadd_eq, h, h0, ilen_mapep, show v ≤ (a.length : Int) by omega, decide_true, Bool.and_self, cond_true, gbind_eq, lget_pt h0 h, Option.bind_some, wr_s (i := v + 1) (by omega), wr_s (i := v - 1) (by omega),
      impl_at_eq hne (show (a.length : Int) ≤ 1000000000 by omega)]
    rw [impl_turn_eq (hin _).nr (hin _).nr (hin _).nr, (hc v h0 h).2 fun c => hb (.inl c)]
    have t : ¬ turn (pt a (v - 1)) (pt a v) (pt a (v + 1)) = 0 := fun e => hb (.inr (.inl e))
    simp only [Option.bind_some, cond_false, ieq_eq, t, decide_false]
    exact (poly_l1 h0 h hs hin (by omega)).2 fun k q1 q2 q3 => hb (.inr (.inr ⟨k, q1, q2, q3⟩))

open Classical in
theorem impl_IsPolygon_eq {L : Nat} {a : List Pt} (hL : 20 < L) : impl_IsPolygon L a = some (decide (Good_ a)) := by
  unfold impl_IsPolygon
  simp only [ilen_mapep, impl_within_eq, gbind_eq, Option.bind_some]
  by_cases hn : 3 ≤ (a.length : Int) ∧ (a.length : Int) ≤ 10
  · simp only [hn, and_self, decide_true, Bool.not_true, cond_false]
    have hne : a ≠ [] := by intro e; subst e; simp at hn
    have hl : 0 < (a.length : Int) := by omega
    by_cases hI : ∀ i, 0 ≤ i → i < (a.length : Int) → In (pt a i)
    · rw [(arePegs_eq (by omega) (by omega)).2 hI]
      simp only [Option.bind_some, Bool.not_true, cond_false]
      have hin := in_all hI hne
      by_cases h0 : ∃ i, 0 ≤ i ∧ i < (a.length : Int) ∧ ((∃ k, 0 ≤ k ∧ k < i ∧ pt a k = pt a i) ∨ turn (pt a (i - 1)) (pt a i) (pt a (i + 1)) = 0 ∨ ∃ k, 0 ≤ k ∧ k < i ∧ BadM a i k)
      · rw [(poly_l0 hn.1 hn.2 hL hin (by omega)).1 h0]
        have : ¬ Good_ a := fun g => by
          obtain ⟨i, q1, q2, q3⟩ := h0
          rcases q3 with ⟨k, q4, q5, q6⟩ | q3 | ⟨k, q4, q5, q6, q7, q8⟩
          · exact g.ne i k q4 q5 q2 q6
          · refine g.turn ((i - 1) % a.length) (Int.emod_nonneg _ (by omega)) (Int.emod_lt_of_pos _ hl) ?_
            rw [pt_congr (a := a) (i := (i - 1) % a.length) (j := i - 1) (Int.emod_emod_of_dvd _ (Int.dvd_refl _)), pt_congr (a := a) (i := (i - 1) % a.length + 1) (j := i) (by rw [Int.emod_add_emod]; congr 1; omega),
              pt_congr (a := a) (i := (i - 1) % a.length + 2) (j := i + 1) (by rw [Int.emod_add_emod]; congr 1; omega)]
            exact q3
          · exact g.apart k i q4 (by omega) q2 (by
              rcases Int.lt_or_le (i - k) ((a.length : Int) - 1) with h | h
              · exact h
              · exact absurd ⟨by omega, by omega⟩ q7) q8
        simp [this]
      · have h0' : ∀ i, 0 ≤ i → i < (a.length : Int) → ¬ ((∃ k, 0 ≤ k ∧ k < i ∧ pt a k = pt a i) ∨ turn (pt a (i - 1)) (pt a i) (pt a (i + 1)) = 0 ∨ ∃ k, 0 ≤ k ∧ k < i ∧ BadM a i k) := fun i q1 q2 q3 => h0 ⟨i, q1, q2, q3⟩
        rw [(poly_l0 hn.1 hn.2 hL hin (by omega)).2 h0']
        have : Good_ a := ⟨hn.1, hn.2, hI, fun i k q1 q2 q3 q4 => h0' i (by omega) q3 (.inl ⟨k, q1, q2, q4⟩), fun i q1 q2 q3 => by
            refine h0' ((i + 1) % a.length) (Int.emod_nonneg _ (by omega)) (Int.emod_lt_of_pos _ hl) (.inr (.inl ?_))
            rw [pt_congr (a := a) (i := (i + 1) % a.length - 1) (j := i) (by rw [Int.emod_sub_emod]; congr 1; omega), pt_congr (a := a) (i := (i + 1) % a.length) (j := i + 1) (Int.emod_emod_of_dvd _ (Int.dvd_refl _)),
              pt_congr (a := a) (i := (i + 1) % a.length + 1) (j := i + 2) (by rw [Int.emod_add_emod]; congr 1; omega)]
            exact q3, fun i k q1 q2 q3 q4 q5 => h0' k (by omega) q3 (.inr (.inr ⟨i, q1, by omega, by omega, fun q => by omega, q5⟩))⟩
        simp [this]
    · have : ¬ Good_ a := fun g => hI g.isIn
      rw [(arePegs_eq (by omega) (by omega)).1 (by
        refine Classical.byContradiction fun h => hI fun i q1 q2 => Classical.byContradiction fun e => h ⟨i, q1, q2, e⟩)]
      simp [this]
  · have : ¬ Good_ a := fun g => hn ⟨g.lo, g.hi⟩
    simp only [hn, this, decide_false, Bool.not_false, cond_true]
end Go.AM

/-! Areas, greatest common divisors, convexity. -/
namespace Go.AM
set_option linter.unusedVariables false

def sm (g : Int → Int) : Nat → Int
  | 0 => 0
  | k + 1 => sm g k + g k

theorem sm_bd {g : Int → Int} {B : Int} (h : ∀ i, -B ≤ g i ∧ g i ≤ B) : ∀ k : Nat, -(k * B) ≤ sm g k ∧ sm g k ≤ k * B
  | 0 => by simp [sm]
  | k + 1 => by
    have h1 := sm_bd h k
    have h2 := h k
    simp only [sm]
    have : ((k + 1 : Nat) : Int) * B = k * B + B := by rw [Int.natCast_add, Int.add_mul]; simp
    omega

theorem sm_congr {g h : Int → Int} : ∀ {k : Nat}, (∀ i : Int, 0 ≤ i → i < k → g i = h i) → sm g k = sm h k
  | 0, _ => rfl
  | k + 1, hh => by simp only [sm]; rw [sm_congr fun i h1 h2 => hh i h1 (by omega), hh k (by omega) (by omega)]

/-- a loop that adds -/
theorem accum {β : Type} {f : Nat → Int → Int → Option β} {S : Int → Int} {r : Option β} {lo n : Int} (hstop : ∀ m, f (m + 1) (S n) n = r) (hgo : ∀ m v, lo ≤ v → v < n → f (m + 1) (S v) v = f m (S (v + 1)) (v + 1)) :
    ∀ (m : Nat) (v : Int), lo ≤ v → v ≤ n → n - v < m → f m (S v) v = r := by
  intro m
  induction m with
  | zero => intro v _ _ h; omega
  | succ m ih =>
    intro v hv hvn hm
    by_cases h : v < n
    · rw [hgo m v hv h]; exact ih (v + 1) (by omega) (by omega) (by omega)
    · have : v = n := by omega
      subst this
      exact hstop m

def cross (p q : Pt) : Int := p.x * q.y - p.y * q.x

theorem cross_bd {p q : Pt} (hp : Nr p) (hq : Nr q) : -2000000 ≤ cross p q ∧ cross p q ≤ 2000000 := by
  have h1 := mul_bd hp.1 hq.2
  have h2 := mul_bd hp.2 hq.1
  unfold cross
  omega

theorem impl_cross_eq {L : Nat} {p q : Pt} (hp : Nr p) (hq : Nr q) : impl_cross L p.x p.y q.x q.y = some (cross p q) := by
  have h1 := mul_bd hp.1 hq.2
  have h2 := mul_bd hp.2 hq.1
  unfold impl_cross cross
  simp only [isub_eq, imul_eq]
  rw [wr_id (n := p.x * q.y) (by omega), wr_id (n := p.y * q.x) (by omega), wr_id (by omega)]

theorem turn_cross (a b c : Pt) : turn a b c = cross a b + cross b c - cross a c := by unfold turn cross; grind

/-- twice the area, as the program adds it -/
def area (a : List Pt) : Int := sm (fun i => cross (pt a i) (pt a (i + 1))) a.length

theorem impl_twice_eq {L : Nat} {a : List Pt} (hn : a ≠ []) (hs : (a.length : Int) ≤ 1000) (hL : (a.length : Int) < L) (hin : ∀ i, Nr (pt a i)) : impl_twice L a = some (area a) := by
  unfold impl_twice
  have := accum (f := fun m s v => impl_twice_l0 L a m s v) (S := fun v => sm (fun i => cross (pt a i) (pt a (i + 1))) v.toNat) (r := some (area a)) (lo := 0) (n := a.length) (fun m => by
    simp only [impl_twice_l0, ilt_eq, ilen_mapep, Int.lt_irrefl, decide_false, cond_false]; rfl) (fun m v h0 h => by
    simp only [impl_twice_l0, ilt_eq, ilen_mapep, h, decide_true, cond_true, gbind_eq, lget_pt h0 h, Option.bind_some, iadd_eq, wr_s (i := v + 1) (by omega), impl_at_eq hn (show (a.length : Int) ≤ 1000000000 by omega)]
    rw [impl_cross_eq (hin _) (hin _)]
    simp only [Option.bind_some]
    have h1 := sm_bd (fun i => cross_bd (hin i) (hin (i + 1))) v.toNat
    have h2 := cross_bd (hin v) (hin (v + 1))
    have h3 : (v.toNat : Int) * 2000000 ≤ 1000 * 2000000 := by omega
    rw [wr_id (by omega)]
    congr 1
    rw [show (v + 1).toNat = v.toNat + 1 by omega]
    simp only [sm]
    rw [Int.toNat_of_nonneg h0]) L 0 (Int.le_refl _) (by omega) (by omega)
  exact this

theorem fan_area (a : List Pt) (hn : 2 ≤ (a.length : Int)) : sm (fun i => turn (pt a 0) (pt a (i + 1)) (pt a (i + 2))) (a.length - 2) = area a := by
  have key : ∀ k : Nat, sm (fun i => turn (pt a 0) (pt a (i + 1)) (pt a (i + 2))) k + cross (pt a 0) (pt a (k + 1)) = sm (fun i => cross (pt a i) (pt a (i + 1))) (k + 1) := by
    intro k
    induction k with
    | zero => simp [sm]
    | succ k ih =>
      simp only [sm] at ih ⊢
      rw [turn_cross]
      have e1 : ((k + 1 : Nat) : Int) = (k : Int) + 1 := by omega
      have e2 : (k : Int) + 1 + 1 = (k : Int) + 2 := by omega
      rw [e1, e2]
      omega
  have h := key (a.length - 2)
  unfold area
  have e : a.length = (a.length - 2) + 1 + 1 := by omega
  conv => rhs; rw [e]
  simp only [sm] at h ⊢
  have e1 : (((a.length - 2 + 1 : Nat) : Int) + 1) = (a.length : Int) := by omega
  have e2 : (((a.length - 2 : Nat) : Int) + 1) = ((a.length - 2 + 1 : Nat) : Int) := by omega
  rw [e1]
  rw [e2] at h
  have e3 : pt a (a.length : Int) = pt a 0 := pt_congr (by simp)
  rw [e3]
  have e4 : cross (pt a ((a.length - 2 + 1 : Nat) : Int)) (pt a 0) = - cross (pt a 0) (pt a ((a.length - 2 + 1 : Nat) : Int)) := by unfold cross; grind
  rw [e4]
  rw [← e2] at h ⊢
  omega

theorem spec_pgArea_eq {L : Nat} {a : List Pt} (hn : 2 ≤ (a.length : Int)) (hs : (a.length : Int) ≤ 1000) (hL : (a.length : Int) < L) (hin : ∀ i, Nr (pt a i)) : spec_pgArea L a = some (area a) := by
  unfold spec_pgArea
  have := accum (f := fun m s v => spec_pgArea_l0 L a m s v) (S := fun v => sm (fun i => turn (pt a 0) (pt a (i + 1)) (pt a (i + 2))) (v - 2).toNat) (r := some (area a)) (lo := 2) (n := a.length) (fun m => by
    simp only [spec_pgArea_l0, ilt_eq, ilen_mapep, Int.lt_irrefl, decide_false, cond_false]
    rw [← fan_area a hn, show ((a.length : Int) - 2).toNat = a.length - 2 by omega]) (fun m v h0 h => by
    simp only [spec_pgArea_l0, ilt_eq, ilen_mapep, h, decide_true, cond_true, gbind_eq, lget_pt (show 0 ≤ v by omega) h, lget_pt (Int.le_refl 0) (show 0 < (a.length : Int) by omega), Option.bind_some, iadd_eq, isub_eq, wr_s (i := v + 1) (by omega), wr_s (i := v - 1) (by omega),
      lget_pt (show 0 ≤ v - 1 by omega) (show v - 1 < (a.length : Int) by omega)]
    rw [spec_pgTurn_eq (hin _) (hin _) (hin _)]
    simp only [Option.bind_some]
    have h1 := sm_bd (fun i => turn_bd (hin 0) (hin (i + 1)) (hin (i + 2))) (v - 2).toNat
    have h2 := turn_bd (hin 0) (hin (v - 1)) (hin v)
    have h3 : ((v - 2).toNat : Int) * 8000000 ≤ 1000 * 8000000 := by omega
    rw [wr_id (by omega)]
    congr 1
    rw [show (v + 1 - 2).toNat = (v - 2).toNat + 1 by omega]
    simp only [sm]
    rw [show (((v - 2).toNat : Nat) : Int) + 1 = v - 1 by omega, show (((v - 2).toNat : Nat) : Int) + 2 = v by omega]) L 2 (Int.le_refl _) (by omega) (by omega)
  exact this
end Go.AM

/-! Convexity, steps, pegs inside, where a point is. -/
namespace Go.AM
set_option linter.unusedVariables false

def Cvx (a : List Pt) : Prop := ∀ i, 0 ≤ i → i < (a.length : Int) → sg (turn (pt a i) (pt a (i + 1)) (pt a (i + 2))) = sg (area a)

open Classical in
theorem spec_pgConvex_eq {L : Nat} {a : List Pt} (hn : 2 ≤ (a.length : Int)) (hs : (a.length : Int) ≤ 1000) (hL : (a.length : Int) < L) (hin : ∀ i, Nr (pt a i)) : spec_pgConvex L a = some (decide (Cvx a)) := by
  have hne : a ≠ [] := by intro e; subst e; simp at hn
  have h3 : ¬ ((a.length : Int) = 0) := by omega
  unfold spec_pgConvex
  rw [spec_pgArea_eq hn hs hL hin]
  simp only [gbind_eq, Option.bind_some, spec_l1Sign_eq]
  have := search (f := fun m v => spec_pgConvex_l0 L a (sg (area a)) m v) (r := some false) (k := some true) (lo := 0) (n := a.length) (hi := a.length) (bad := fun i => sg (turn (pt a i) (pt a (i + 1)) (pt a (i + 2))) ≠ sg (area a)) (Int.le_refl _) (fun m v h0 _ h => by
      simp only [spec_pgConvex_l0, ilt_eq, ilen_mapep, h, decide_false, cond_false]) (fun m v h0 h hb => by
      simp only [spec_pgConvex_l0, ilt_eq, ieq_eq, iadd_eq, ilen_mapep, h3, h, decide_true, decide_false, cond_true, cond_false, gbind_eq, wr_s (i := v + 1) (by omega), wr_s (i := v + 2) (by omega), lget_pt h0 h, lget_rem (show 0 ≤ v + 1 by omega) hne, lget_rem (show 0 ≤ v + 2 by omega) hne, Option.bind_some]
      rw [spec_pgTurn_eq (hin _) (hin _) (hin _)]
      simp only [Option.bind_some, spec_l1Sign_eq, hb, decide_false, Bool.not_false, cond_true]) (fun m v h0 h hb => by
      simp only [spec_pgConvex_l0, ilt_eq, ieq_eq, iadd_eq, ilen_mapep, h3, h, decide_true, decide_false, cond_true, cond_false, gbind_eq, wr_s (i := v + 1) (by omega), wr_s (i := v + 2) (by omega), lget_pt h0 h, lget_rem (show 0 ≤ v + 1 by omega) hne, lget_rem (show 0 ≤ v + 2 by omega) hne, Option.bind_some]
      rw [spec_pgTurn_eq (hin _) (hin _) (hin _)]
      simp only [Option.bind_some, spec_l1Sign_eq, Classical.not_not.1 hb, decide_true, Bool.not_true, cond_false]) L 0 (Int.le_refl _) (by omega) (by omega) (by omega)
  by_cases h : ∃ j, 0 ≤ j ∧ j < (a.length : Int) ∧ sg (turn (pt a j) (pt a (j + 1)) (pt a (j + 2))) ≠ sg (area a)
  · have e := this.1 h
    have : ¬ Cvx a := fun c => by obtain ⟨j, q1, q2, q3⟩ := h; exact q3 (c j q1 q2)
    simp only [this, decide_false]; exact e
  · have c : Cvx a := fun j q1 q2 => Classical.byContradiction fun q3 => h ⟨j, q1, q2, q3⟩
    have e := this.2 fun j q1 q2 q3 => h ⟨j, q1, q2, q3⟩
    simp only [c, decide_true]; exact e

open Classical in
theorem impl_isConvex_eq {L : Nat} {a : List Pt} (hn : 2 ≤ (a.length : Int)) (hs : (a.length : Int) ≤ 1000) (hL : (a.length : Int) < L) (hin : ∀ i, Nr (pt a i)) : impl_isConvex L a = some (decide (Cvx a)) := by
  have hne : a ≠ [] := by intro e; subst e; simp at hn
  have hl : 0 < (a.length : Int) := by omega
  unfold impl_isConvex
  rw [impl_twice_eq hne hs hL hin]
  simp only [gbind_eq, Option.bind_some, impl_sign_eq]
  have := search (f := fun m v => impl_isConvex_l0 L a (sg (area a)) m v) (r := some false) (k := some true) (lo := 0) (n := a.length) (hi := a.length) (bad := fun i => sg (turn (pt a (i - 1)) (pt a i) (pt a (i + 1))) ≠ sg (area a)) (Int.le_refl _) (fun m v h0 _ h => by
      simp only [impl_isConvex_l0, ilt_eq, ilen_mapep, h, decide_false, cond_false]) (fun m v h0 h hb => by
      simp only [impl_isConvex_l0, ilt_eq, ieq_eq, iadd_eq, isub_eq, ilen_mapep, h, decide_true, decide_false, cond_true, cond_false, gbind_eq, wr_s (i := v + 1) (by omega), wr_s (i := v - 1) (by omega), lget_pt h0 h, impl_at_eq hne (show (a.length : Int) ≤ 1000000000 by omega), Option.bind_some]
      rw [impl_turn_eq (hin _) (hin _) (hin _)]
      simp only [Option.bind_some, impl_sign_eq, hb, decide_false, Bool.not_false, cond_true]) (fun m v h0 h hb => by
      simp only [impl_isConvex_l0, ilt_eq, ieq_eq, iadd_eq, isub_eq, ilen_mapep, h, decide_true, decide_false, cond_true, cond_false, gbind_eq, wr_s (i := v + 1) (by omega), wr_s (i := v - 1) (by omega), lget_pt h0 h, impl_at_eq hne (show (a.length : Int) ≤ 1000000000 by omega), Option.bind_some]
      rw [impl_turn_eq (hin _) (hin _) (hin _)]
      simp only [Option.bind_some, impl_sign_eq, Classical.not_not.1 hb, decide_true, Bool.not_true, cond_false]) L 0 (Int.le_refl _) (by omega) (by omega) (by omega)
  by_cases h : ∃ j, 0 ≤ j ∧ j < (a.length : Int) ∧ sg (turn (pt a (j - 1)) (pt a j) (pt a (j + 1))) ≠ sg (area a)
  · have e := this.1 h
    have : ¬ Cvx a := fun c => by
      obtain ⟨j, q1, q2, q3⟩ := h
      have q := c ((j - 1) % a.length) (Int.emod_nonneg _ (by omega)) (Int.emod_lt_of_pos _ hl)
      rw [pt_congr (a := a) (i := (j - 1) % a.length) (j := j - 1) (Int.emod_emod_of_dvd _ (Int.dvd_refl _)), pt_congr (a := a) (i := (j - 1) % a.length + 1) (j := j) (by rw [Int.emod_add_emod]; congr 1; omega),
        pt_congr (a := a) (i := (j - 1) % a.length + 2) (j := j + 1) (by rw [Int.emod_add_emod]; congr 1; omega)] at q
      exact q3 q
    simp only [this, decide_false]; exact e
  · have c : Cvx a := fun j q1 q2 => Classical.byContradiction fun q3 => h ⟨(j + 1) % a.length, Int.emod_nonneg _ (by omega), Int.emod_lt_of_pos _ hl, by
      rw [pt_congr (a := a) (i := (j + 1) % a.length - 1) (j := j) (by rw [Int.emod_sub_emod]; congr 1; omega), pt_congr (a := a) (i := (j + 1) % a.length) (j := j + 1) (Int.emod_emod_of_dvd _ (Int.dvd_refl _)),
        pt_congr (a := a) (i := (j + 1) % a.length + 1) (j := j + 2) (by rw [Int.emod_add_emod]; congr 1; omega)]
      exact q3⟩
    have e := this.2 fun j q1 q2 q3 => h ⟨j, q1, q2, q3⟩
    simp only [c, decide_true]; exact e

/-! steps -/
theorem impl_size_eq {L : Nat} {n : Int} (h : -1000000000 ≤ n ∧ n ≤ 1000000000) : impl_size L n = some (n.natAbs : Int) := by
  unfold impl_size
  simp only [imax_eq, isub_eq]
  rw [wr_id (by omega)]
  congr 1
  split <;> omega

theorem spec_l1Abs_eq {L : Nat} {n : Int} (h : -1000000000 ≤ n ∧ n ≤ 1000000000) : spec_l1Abs L n = some (n.natAbs : Int) := by
  unfold spec_l1Abs spec_l1Most
  simp only [ilt_eq, isub_eq, gbind_eq]
  rw [wr_id (by omega)]
  by_cases h1 : 0 - n < n
  · simp only [h1, decide_true, cond_true, Option.bind_some]; congr 1; omega
  · simp only [h1, decide_false, cond_false, Option.bind_some]; congr 1; omega

theorem divisor_l0 {L : Nat} : ∀ (m : Nat) (u v : Int), (-1000000000 ≤ u ∧ u ≤ 1000000000) → (-1000000000 ≤ v ∧ v ≤ 1000000000) → v.natAbs < m → impl_divisor_l0 L m u v = some (Nat.gcd u.natAbs v.natAbs : Int)
  | 0, _, _, _, _, h => by omega
  | m + 1, u, v, hu, hv, hm => by
    simp only [impl_divisor_l0, ieq_eq]
    by_cases h0 : v = 0
    · subst h0
      simp only [decide_true, Bool.not_true, cond_false, impl_size_eq hu, gbind_eq, Option.bind_some]
      simp
    · simp only [h0, decide_false, Bool.not_false, cond_true, cond_false]
      have h1 : (irem u v).natAbs = u.natAbs % v.natAbs := by rw [irem_eq, Int.natAbs_tmod]
      have h2 := Nat.mod_lt u.natAbs (show 0 < v.natAbs by omega)
      rw [divisor_l0 m v (irem u v) hv (by omega) (by omega), h1]
      congr 2
      rw [Nat.gcd_comm u.natAbs, Nat.gcd_rec v.natAbs u.natAbs, Nat.gcd_comm]

theorem common_l0 {L : Nat} : ∀ (m : Nat) (u v : Nat), v < m → spec_pgCommon_l0 L m u v = some (Nat.gcd u v : Int)
  | 0, _, _, h => by omega
  | m + 1, u, v, hm => by
    simp only [spec_pgCommon_l0, ilt_eq, ieq_eq]
    by_cases h0 : v = 0
    · subst h0
      simp
    · have h1 : (0 : Int) < (v : Int) := by omega
      have h2 : ¬ ((v : Int) = 0) := by omega
      simp only [h1, h2, decide_true, decide_false, cond_true, cond_false]
      have h3 : irem (u : Int) (v : Int) = ((u % v : Nat) : Int) := by rw [irem_nn (by omega)]; simp
      have h4 := Nat.mod_lt u (show 0 < v by omega)
      rw [h3, common_l0 m v (u % v) (by omega)]
      congr 2
      rw [Nat.gcd_comm u v, Nat.gcd_rec v u, Nat.gcd_comm]

def step (p q : Pt) : Int := (Nat.gcd (p.x - q.x).natAbs (p.y - q.y).natAbs : Int)

theorem step_bd {p q : Pt} (hp : Nr p) (hq : Nr q) : -4000 ≤ step p q ∧ step p q ≤ 4000 := by
  have h := sub_bd hp hq
  unfold step
  have : Nat.gcd (p.x - q.x).natAbs (p.y - q.y).natAbs ≤ (p.x - q.x).natAbs + (p.y - q.y).natAbs := by
    by_cases h0 : (p.x - q.x).natAbs = 0
    · rw [h0]; simp
    · have := Nat.gcd_le_left (p.y - q.y).natAbs (show 0 < (p.x - q.x).natAbs by omega); omega
  omega

theorem impl_steps_eq {L : Nat} {p q : Pt} (hp : Nr p) (hq : Nr q) (hL : 3000 < L) : impl_steps L p.x p.y q.x q.y = some (step p q) := by
  have h := sub_bd hp hq
  unfold impl_steps impl_divisor
  simp only [isub_eq, gbind_eq]
  rw [wr_id (n := p.x - q.x) (by omega), wr_id (n := p.y - q.y) (by omega), divisor_l0 L _ _ (by omega) (by omega) (by omega)]
  rfl

theorem spec_pgStep_eq {L : Nat} {p q : Pt} (hp : Nr p) (hq : Nr q) (hL : 3000 < L) : spec_pgStep L p.x p.y q.x q.y = some (step p q) := by
  have h := sub_bd hp hq
  unfold spec_pgStep spec_pgCommon
  simp only [isub_eq, gbind_eq]
  rw [wr_id (n := p.x - q.x) (by omega), wr_id (n := p.y - q.y) (by omega), spec_l1Abs_eq (by omega), spec_l1Abs_eq (by omega)]
  simp only [Option.bind_some]
  rw [common_l0 L _ _ (by omega)]
  rfl

def round (a : List Pt) : Int := sm (fun i => step (pt a i) (pt a (i + 1))) a.length

theorem impl_around_eq {L : Nat} {a : List Pt} (hn : a ≠ []) (hs : (a.length : Int) ≤ 1000) (hL : 3000 < L) (hin : ∀ i, Nr (pt a i)) : impl_around L a = some (round a) := by
  unfold impl_around
  have := accum (f := fun m s v => impl_around_l0 L a m s v) (S := fun v => sm (fun i => step (pt a i) (pt a (i + 1))) v.toNat) (r := some (round a)) (lo := 0) (n := a.length) (fun m => by
    simp only [impl_around_l0, ilt_eq, ilen_mapep, Int.lt_irrefl, decide_false, cond_false]; rfl) (fun m v h0 h => by
    simp only [impl_around_l0, ilt_eq, ilen_mapep, h, decide_true, cond_true, gbind_eq, lget_pt h0 h, Option.bind_some, iadd_eq, wr_s (i := v + 1) (by omega), impl_at_eq hn (show (a.length : Int) ≤ 1000000000 by omega)]
    rw [impl_steps_eq (hin _) (hin _) hL]
    simp only [Option.bind_some]
    have h1 := sm_bd (fun i => step_bd (hin i) (hin (i + 1))) v.toNat
    have h2 := step_bd (hin v) (hin (v + 1))
    have h3 : (v.toNat : Int) * 4000 ≤ 1000 * 4000 := by omega
    rw [wr_id (by omega)]
    congr 1
    rw [show (v + 1).toNat = v.toNat + 1 by omega]
    simp only [sm]
    rw [Int.toNat_of_nonneg h0]) L 0 (Int.le_refl _) (by omega) (by omega)
  exact this

theorem spec_pgRound_eq {L : Nat} {a : List Pt} (hn : a ≠ []) (hs : (a.length : Int) ≤ 1000) (hL : 3000 < L) (hin : ∀ i, Nr (pt a i)) : spec_pgRound L a = some (round a) := by
  have h3 : ¬ ((a.length : Int) = 0) := by have := List.length_pos_iff.2 hn; omega
  unfold spec_pgRound
  have := accum (f := fun m s v => spec_pgRound_l0 L a m s v) (S := fun v => sm (fun i => step (pt a i) (pt a (i + 1))) v.toNat) (r := some (round a)) (lo := 0) (n := a.length) (fun m => by
    simp only [spec_pgRound_l0, ilt_eq, ilen_mapep, Int.lt_irrefl, decide_false, cond_false]; rfl) (fun m v h0 h => by
    simp only [spec_pgRound_l0, ilt_eq, ieq_eq, ilen_mapep, h, h3, decide_true, decide_false, cond_true, cond_false, gbind_eq, lget_pt h0 h, Option.bind_some, iadd_eq, wr_s (i := v + 1) (by omega), lget_rem (show 0 ≤ v + 1 by omega) hn]
    rw [spec_pgStep_eq (hin _) (hin _) hL]
    simp only [Option.bind_some]
    have h1 := sm_bd (fun i => step_bd (hin i) (hin (i + 1))) v.toNat
    have h2 := step_bd (hin v) (hin (v + 1))
    have h3 : (v.toNat : Int) * 4000 ≤ 1000 * 4000 := by omega
    rw [wr_id (by omega)]
    congr 1
    rw [show (v + 1).toNat = v.toNat + 1 by omega]
    simp only [sm]
    rw [Int.toNat_of_nonneg h0]) L 0 (Int.le_refl _) (by omega) (by omega)
  exact this

theorem area_bd {a : List Pt} (hs : (a.length : Int) ≤ 100) (hin : ∀ i, Nr (pt a i)) : -200000000 ≤ area a ∧ area a ≤ 200000000 := by
  have h1 := sm_bd (fun i => cross_bd (hin i) (hin (i + 1))) a.length
  unfold area
  omega

noncomputable def inside (a : List Pt) : Int := wr .i64 (((wr .i64 (wr .i64 ((area a).natAbs + 2) - round a))).tdiv 2)

theorem inner_eq {L : Nat} {a : List Pt} (hn : 2 ≤ (a.length : Int)) (hs : (a.length : Int) ≤ 100) (hL : 3000 < L) (hin : ∀ i, Nr (pt a i)) : spec_pgInside L a = some (inside a) ∧ impl_inner L a = some (inside a) := by
  have hne : a ≠ [] := by intro e; subst e; simp at hn
  have hb := area_bd hs hin
  constructor
  · unfold spec_pgInside inside
    rw [spec_pgArea_eq hn (by omega) (by omega) hin]
    simp only [gbind_eq, Option.bind_some, spec_l1Abs_eq (show -1000000000 ≤ area a ∧ area a ≤ 1000000000 by omega), spec_pgRound_eq hne (show (a.length : Int) ≤ 1000 by omega) hL hin, ieq_eq, isub_eq, iadd_eq, iquo_eq]
    rfl
  · unfold impl_inner inside
    rw [impl_twice_eq hne (by omega) (by omega) hin]
    simp only [gbind_eq, Option.bind_some, impl_size_eq (show -1000000000 ≤ area a ∧ area a ≤ 1000000000 by omega), impl_around_eq hne (show (a.length : Int) ≤ 1000 by omega) hL hin, ieq_eq, isub_eq, iadd_eq, iquo_eq]
    rfl
end Go.AM

/-! Where a point is. -/
namespace Go.AM
set_option linter.unusedVariables false

theorem turn_swap (a b p : Pt) : turn b a p = - turn a b p := by unfold turn; grind

theorem mul_self_nn (x : Int) : 0 ≤ x * x := by
  rcases Int.le_total 0 x with h | h
  · exact Int.mul_nonneg h h
  · have := Int.mul_nonneg (show 0 ≤ -x by omega) (show 0 ≤ -x by omega); rw [Int.neg_mul_neg] at this; exact this

/-- on the straight line and between in height: on the line -/
theorem on_of {a b p : Pt} (ht : turn a b p = 0) (h1 : (a.y - p.y) * (b.y - p.y) ≤ 0) (h2 : a.y ≠ b.y) : OnL a b p := by
  refine ⟨ht, ?_, h1⟩
  have e : ((a.x - p.x) * (b.x - p.x)) * ((b.y - a.y) * (b.y - a.y)) = ((b.x - a.x) * (b.x - a.x)) * ((a.y - p.y) * (b.y - p.y)) := by
    unfold turn at ht
    have e1 : (b.x - a.x) * (p.y - a.y) = (b.y - a.y) * (p.x - a.x) := by omega
    grind
  have h3 := mul_self_nn (b.x - a.x)
  have h4 : ((b.x - a.x) * (b.x - a.x)) * ((a.y - p.y) * (b.y - p.y)) ≤ 0 := Int.mul_nonpos_of_nonneg_of_nonpos h3 h1
  have h5 : 0 < (b.y - a.y) * (b.y - a.y) := by
    have := mul_self_nn (b.y - a.y)
    rcases Int.lt_or_eq_of_le this with h | h
    · exact h
    · have := Int.mul_eq_zero.1 h.symm
      omega
  rw [← e] at h4
  rcases Int.le_total ((a.x - p.x) * (b.x - p.x)) 0 with h | h
  · exact h
  · rcases Int.lt_or_eq_of_le h with h | h
    · have := Int.mul_pos h h5
      omega
    · omega

theorem where_eq {L : Nat} {a : List Pt} {q : Pt} (hn : a ≠ []) (hs : (a.length : Int) ≤ 1000) (hin : ∀ i, Nr (pt a i)) (hq : Nr q) : ∀ (m : Nat) (v : Int) (s : Bool), 0 ≤ v → v ≤ a.length → (a.length : Int) - v < m →
    ∃ r, spec_pgWhere_l0 L a q.x q.y m s v = some r ∧ impl_where_l0 L a q.x q.y m (if s then 1 else -1) v = some r
  | 0, _, _, _, _, h => by omega
  | m + 1, v, s, h0, hv, hm => by
    have h3 : ¬ ((a.length : Int) = 0) := by have := List.length_pos_iff.2 hn; omega
    by_cases h : v < (a.length : Int)
    · obtain ⟨r, r1, r2⟩ := where_eq (L := L) hn hs hin hq m (v + 1) s (by omega) (by omega) (by omega)
      obtain ⟨r', r1', r2'⟩ := where_eq (L := L) hn hs hin hq m (v + 1) (!s) (by omega) (by omega) (by omega)
      have eneg : wr .i64 (0 - (if s then 1 else -1)) = (if (!s) = true then 1 else -1) := by cases s <;> exact wr_id (by decide)
      simp only [spec_pgWhere_l0, impl_where_l0, ilt_eq, ile_eq, ieq_eq, iadd_eq, isub_eq, beqb_eq, ilen_mapep, h, h3, decide_true, decide_false, cond_true, cond_false, gbind_eq, wr_s (i := v + 1) (by omega), lget_pt h0 h, lget_rem (show 0 ≤ v + 1 by omega) hn,
        impl_at_eq hn (show (a.length : Int) ≤ 1000000000 by omega), Option.bind_some]
      rw [spec_pgOn_eq (hin _) (hin _) hq, impl_isOn_eq (hin _) (hin _) hq, spec_pgTurn_eq (hin _) (hin _) hq, spec_pgTurn_eq (hin _) (hin _) hq, impl_turn_eq (hin _) (hin _) hq]
      simp only [Option.bind_some, eneg]
      generalize pt a v = A at *
      generalize pt a (v + 1) = B at *
      by_cases hO : OnL A B q
      · exact ⟨0, by simp [hO], by simp [hO]⟩
      · simp only [hO, decide_false, cond_false]
        rw [turn_swap A B q]
        have hz : turn A B q = 0 → ¬ ((A.y - q.y) * (B.y - q.y) ≤ 0 ∧ A.y ≠ B.y) := fun e h => hO (on_of e h.1 h.2)
        rw [mul_le0] at hz
        by_cases c1 : B.y < A.y
        · simp only [c1, decide_true, cond_true]
          by_cases c2 : B.y ≤ q.y
          · by_cases c3 : q.y < A.y
            · have c4 : ¬ q.y < B.y := by omega
              have c5 : ¬ A.y < B.y := by omega
              by_cases c6 : 0 < turn A B q
              · have c7 : ¬ turn A B q < 0 := by omega
                exact ⟨r, by simp [c2, c3, c7, r1], by simp [c3, c4, c5, c6, r2]⟩
              · have c7 : turn A B q < 0 := by
                  have : turn A B q ≠ 0 := fun e => hz e ⟨by omega, by omega⟩
                  omega
                exact ⟨r', by simp [c2, c3, c7, r1'], by simpa [c3, c4, c5, c6] using r2'⟩
            · have c4 : ¬ q.y < B.y := by omega
              exact ⟨r, by simp [c2, c3, r1], by simp [c3, c4, r2]⟩
          · have c3 : q.y < A.y := by omega
            have c4 : q.y < B.y := by omega
            exact ⟨r, by simp [c2, r1], by simp [c3, c4, r2]⟩
        · simp only [c1, decide_false, cond_false]
          by_cases c2 : A.y ≤ q.y
          · have c3 : ¬ q.y < A.y := by omega
            by_cases c4 : q.y < B.y
            · have c5 : A.y < B.y := by omega
              by_cases c6 : 0 < turn A B q
              · exact ⟨r', by simp [c2, c4, c6, r1'], by simpa [c3, c4, c5, c6] using r2'⟩
              · exact ⟨r, by simp [c2, c4, c6, r1], by simp [c3, c4, c5, c6, r2]⟩
            · exact ⟨r, by simp [c2, c4, r1], by simp [c3, c4, r2]⟩
          · have c3 : q.y < A.y := by omega
            have c4 : q.y < B.y := by omega
            exact ⟨r, by simp [c2, r1], by simp [c3, c4, r2]⟩
    · simp only [spec_pgWhere_l0, impl_where_l0, ilt_eq, ilen_mapep, h, decide_false, cond_false]
      cases s
      · exact ⟨-1, rfl, rfl⟩
      · exact ⟨1, rfl, rfl⟩

/-- one inside: both sides tell the same -/
theorem one_eq {L : Nat} {a : List Pt} (hL : 3000 < L) : ∃ r, spec_duOne L a = some r ∧ impl_isDualist L a = some r ∧ (r = true → Good_ a ∧ Cvx a) := by
  classical
  unfold spec_duOne impl_isDualist
  rw [spec_pgGood_eq (by omega), impl_IsPolygon_eq (by omega)]
  simp only [gbind_eq, Option.bind_some]
  by_cases g : Good_ a
  · have hne : a ≠ [] := by intro e; subst e; have := g.lo; simp at this
    have hin : ∀ i, Nr (pt a i) := fun i => (in_all g.isIn hne i).nr
    have h1 := g.lo
    have h2 := g.hi
    simp only [g, decide_true, Bool.not_true, cond_true, cond_false]
    unfold impl_isOneInside
    rw [spec_pgConvex_eq (by omega) (by omega) (by omega) hin, impl_isConvex_eq (by omega) (by omega) (by omega) hin, (inner_eq (by omega) (by omega) hL hin).1, (inner_eq (by omega) (by omega) hL hin).2]
    simp only [gbind_eq, Option.bind_some, ieq_eq, ilt_eq]
    by_cases c : Cvx a
    · simp only [c, decide_true, Bool.not_true, cond_true, cond_false]
      by_cases i : inside a = 1
      · simp only [i, decide_true, Bool.not_true, cond_true, cond_false]
        obtain ⟨r, r1, r2⟩ := where_eq (L := L) (q := ⟨0, 0⟩) hne (by omega) hin (by unfold Nr; simp) L 0 false (Int.le_refl _) (by omega) (by omega)
        have e1 : spec_pgWhere L a 0 0 = some r := r1
        have e2 : impl_where L a 0 0 = some r := r2
        rw [e1, e2]
        exact ⟨decide (0 < r), rfl, rfl, fun _ => ⟨trivial, trivial⟩⟩
      · simp only [i, decide_false, Bool.not_false, cond_true, cond_false]
        exact ⟨false, rfl, rfl, fun h => by cases h⟩
    · simp only [c, decide_false, Bool.not_false, cond_true, cond_false]
      exact ⟨false, rfl, rfl, fun h => by cases h⟩
  · simp only [g, decide_false, Bool.not_false, cond_true, cond_false]
    exact ⟨false, rfl, rfl, fun h => by cases h⟩
end Go.AM

/-! The first one in order; lists told round. -/
namespace Go.AM
set_option linter.unusedVariables false

def Less (p q : Pt) : Prop := p.x < q.x ∨ (p.x = q.x ∧ p.y < q.y)
instance (p q : Pt) : Decidable (Less p q) := by unfold Less; infer_instance

theorem Less.trans {p q r : Pt} (h : Less p q) (k : Less q r) : Less p r := by unfold Less at *; omega
theorem Less.irrefl (p : Pt) : ¬ Less p p := by unfold Less; omega
theorem not_less_eq {p q : Pt} (h : ¬ Less p q) (k : ¬ Less q p) : p = q := by
  unfold Less at *
  cases p; cases q
  simp only [Pt.mk.injEq] at *
  omega
theorem not_less_trans {p q r : Pt} (h : ¬ Less p q) (k : ¬ Less q r) : ¬ Less p r := by unfold Less at *; omega

theorem spec_pgLess_eq {L : Nat} {p q : Pt} : spec_pgLess L p.x p.y q.x q.y = some (decide (Less p q)) := by
  unfold spec_pgLess Less
  simp only [ilt_eq, ieq_eq]
  by_cases h1 : p.x < q.x <;> by_cases h2 : p.x = q.x <;> by_cases h3 : p.y < q.y <;> simp [h1, h2, h3]

def cmpI (a b : Int) : Int := if a < b then -1 else if b < a then 1 else 0

theorem cmp_eq {L : Nat} {a b : Int} : cmp_Compare_int L a b = some (cmpI a b) := by
  unfold cmp_Compare_int cmp_isNaN_int cmpI
  simp only [gbind_eq, ieq_eq, decide_true, Bool.not_true, Option.bind_some, cond_false, ilt_eq]
  by_cases h1 : a < b <;> by_cases h2 : b < a <;> simp [h1, h2]

theorem impl_compare_eq {L : Nat} {p q : Pt} (hL : 5 < L) : ∃ c, impl_comparePegs L p.x p.y q.x q.y = some c ∧ (c < 0 ↔ Less p q) := by
  unfold impl_comparePegs cmp_Or_int
  simp only [gbind_eq, cmp_eq, Option.bind_some]
  obtain ⟨m, rfl⟩ : ∃ m, L = m + 3 := ⟨L - 3, by omega⟩
  have hl : ilen (List.map eI [cmpI p.x q.x, cmpI p.y q.y]) = 2 := by rw [ilen_eq]; rfl
  have g0 : lget [cmpI p.x q.x, cmpI p.y q.y] 0 = some (cmpI p.x q.x) := by rw [lget_eq]; rfl
  have g1 : lget [cmpI p.x q.x, cmpI p.y q.y] 1 = some (cmpI p.y q.y) := by rw [lget_eq]; rfl
  have w1 : wr .i64 (0 + 1) = 1 := wr_id (by decide)
  have w2 : wr .i64 (1 + 1) = 2 := wr_id (by decide)
  simp only [cmp_Or_int_l0, hl, ilt_eq, gbind_eq, g0, g1, iadd_eq, w1, w2, ieq_eq, Option.bind_some, show ((0 : Int) < 2) = True by simp, show ((1 : Int) < 2) = True by simp, show ((2 : Int) < 2) = False by simp, decide_true, decide_false, cond_true, cond_false]
  unfold cmpI Less
  by_cases h1 : p.x < q.x
  · exact ⟨-1, by simp [h1], by simp [h1]⟩
  · by_cases h2 : q.x < p.x
    · exact ⟨1, by simp [h1, h2], by simp [h1]; omega⟩
    · have e : p.x = q.x := by omega
      by_cases h3 : p.y < q.y
      · exact ⟨-1, by simp [h1, h2, h3], by simp [e, h3]⟩
      · by_cases h4 : q.y < p.y
        · exact ⟨1, by simp [h1, h2, h3, h4], by simp [e, h3]⟩
        · exact ⟨0, by simp [h1, h2, h3, h4], by simp [e, h3]⟩

/-- k is a first one in order -/
def IsMin (a : List Pt) (k : Int) (n : Int) : Prop := 0 ≤ k ∧ k < (a.length : Int) ∧ ∀ i, 0 ≤ i → i < n → ¬ Less (pt a i) (pt a k)

theorem impl_first_l0_eq {L : Nat} {a : List Pt} (hs : (a.length : Int) ≤ 900000) (hL : 5 < L) : ∀ (m : Nat) (k v : Int), IsMin a k v → 0 ≤ v → v ≤ a.length → (a.length : Int) - v < m →
    ∃ r, impl_first_l0 L a m k v = some r ∧ IsMin a r a.length ∧ ((∀ i, 0 ≤ i → i < (a.length : Int) → ¬ Less (pt a i) (pt a k)) → r = k)
  | 0, _, _, _, _, _, h => by omega
  | m + 1, k, v, hk, h0, hv, hm => by
    by_cases h : v < (a.length : Int)
    · obtain ⟨c, hc, hc2⟩ := impl_compare_eq (p := pt a v) (q := pt a k) hL
      simp only [impl_first_l0, ilt_eq, ilen_mapep, h, decide_true, cond_true, gbind_eq, lget_pt h0 h, lget_pt hk.1 hk.2.1, Option.bind_some, hc, iadd_eq, wr_s (i := v + 1) (by omega)]
      by_cases hl : Less (pt a v) (pt a k)
      · simp only [hc2.2 hl, decide_true, cond_true]
        obtain ⟨r, r1, r2, r3⟩ := impl_first_l0_eq (L := L) hs hL m v (v + 1) ⟨h0, h, fun i q1 q2 => by
          by_cases e : i = v
          · subst e; exact Less.irrefl _
          · exact fun q => hk.2.2 i q1 (by omega) (q.trans hl)⟩ (by omega) (by omega) (by omega)
        exact ⟨r, r1, r2, fun hh => absurd hl (hh v h0 h)⟩
      · simp only [show ¬ c < 0 from fun q => hl (hc2.1 q), decide_false, cond_false]
        obtain ⟨r, r1, r2, r3⟩ := impl_first_l0_eq (L := L) hs hL m k (v + 1) ⟨hk.1, hk.2.1, fun i q1 q2 => by
          by_cases e : i = v
          · subst e; exact hl
          · exact hk.2.2 i q1 (by omega)⟩ (by omega) (by omega) (by omega)
        exact ⟨r, r1, r2, r3⟩
    · have e : v = a.length := by omega
      subst e
      simp only [impl_first_l0, ilt_eq, ilen_mapep, h, decide_false, cond_false]
      exact ⟨k, rfl, hk, fun _ => rfl⟩

theorem impl_first_eq {L : Nat} {a : List Pt} (hn : a ≠ []) (hs : (a.length : Int) ≤ 900000) (hL : (a.length : Int) + 5 < L) : ∃ r, impl_first L a = some r ∧ IsMin a r a.length ∧ ((∀ i, 0 ≤ i → i < (a.length : Int) → ¬ Less (pt a i) (pt a 0)) → r = 0) := by
  have hl : 0 < (a.length : Int) := by have := List.length_pos_iff.2 hn; omega
  exact impl_first_l0_eq hs (by omega) L 0 0 ⟨Int.le_refl _, hl, fun i q1 q2 => by omega⟩ (Int.le_refl _) (by omega) (by omega)

/-- so many of a list told round, from one on, by a step -/
def tour (a : List Pt) (k s : Int) (n : Nat) : List Pt := (List.range n).map fun (j : Nat) => pt a (k + (j : Int) * s)

theorem fits_s {n : Int} {b : Nat} (h : n * b ≤ 140737488355328) : fits n b = true := by rw [fits_eq]; exact decide_eq_true h

theorem impl_told_l0_eq {L : Nat} {a : List Pt} {k s : Int} (hn : a ≠ []) (hs : (a.length : Int) ≤ 900000) (hk : 0 ≤ k ∧ k ≤ 900000) (hst : -1 ≤ s ∧ s ≤ 1) : ∀ (m : Nat) (v : Nat), v ≤ a.length → (a.length : Int) - v < m →
    impl_told_l0 L a k s m v (tour a k s v) = some (tour a k s a.length)
  | 0, _, _, h => by omega
  | m + 1, v, hv, hm => by
    by_cases h : (v : Int) < (a.length : Int)
    · have hb := mul_bd (x := v) (y := s) (A := 900000) (B := 1) (by omega) (by omega)
      have hlen : ((tour a k s v).length : Int) = v := by simp [tour]
      simp only [impl_told_l0, ilt_eq, ilen_mapep, h, decide_true, cond_true, gbind_eq, iadd_eq, imul_eq, wr_s (i := (v : Int) * s) (by omega), wr_id (n := k + (v : Int) * s) (by omega), impl_at_eq hn (show (a.length : Int) ≤ 1000000000 by omega), Option.bind_some, hlen, wr_s (i := (v : Int) + 1) (by omega)]
      rw [fits_s (by rw [ilen_eq]; simp; omega)]
      simp only [cond_true]
      have e : lcat (tour a k s v) [{ x := (pt a (k + v * s)).x, y := (pt a (k + v * s)).y }] = tour a k s (v + 1) := by
        rw [lcat_eq]; simp [tour, List.range_succ]
      rw [e]
      exact impl_told_l0_eq hn hs hk hst m (v + 1) (by omega) (by omega)
    · have e : v = a.length := by omega
      subst e
      simp only [impl_told_l0, ilt_eq, ilen_mapep, h, decide_false, cond_false]

theorem impl_told_eq {L : Nat} {a : List Pt} {k s : Int} (hn : a ≠ []) (hs : (a.length : Int) ≤ 900000) (hk : 0 ≤ k ∧ k ≤ 900000) (hst : -1 ≤ s ∧ s ≤ 1) (hL : (a.length : Int) < L) : impl_told L a k s = some (tour a k s a.length) := by
  unfold impl_told
  simp only [ile_eq, ilen_mapep, Int.le_refl, show 0 ≤ (a.length : Int) by omega, decide_true, Bool.and_self, fits_s (n := (a.length : Int)) (b := 16) (by omega), cond_true]
  have := impl_told_l0_eq (L := L) hn hs hk hst L 0 (by omega) (by omega)
  have e : tour a k s 0 = [] := rfl
  rw [e] at this
  rw [lrep_eq]
  exact this
end Go.AM

/-! A polygon told from its first corner to the left. -/
namespace Go.AM
set_option linter.unusedVariables false

theorem tour_len (a : List Pt) (k s : Int) (n : Nat) : (tour a k s n).length = n := by simp [tour]

theorem tour_get {a : List Pt} {k s : Int} {n j : Nat} (h : j < n) : (tour a k s n)[j]? = some (pt a (k + (j : Int) * s)) := by simp [tour, h]

theorem pt_tour {a : List Pt} {k s i : Int} (hn : a ≠ []) : pt (tour a k s a.length) i = pt a (k + (i % (a.length : Int)) * s) := by
  have hl : 0 < (a.length : Int) := by have := List.length_pos_iff.2 hn; omega
  have h1 := Int.emod_nonneg i (show (a.length : Int) ≠ 0 by omega)
  have h2 := Int.emod_lt_of_pos i hl
  conv => lhs; unfold pt
  rw [tour_len, List.getD_eq_getElem?_getD, tour_get (by omega), Int.toNat_of_nonneg h1]
  rfl

theorem tour_ext {a b : List Pt} {k s k' s' : Int} {n : Nat} (h : ∀ j : Nat, j < n → pt a (k + (j : Int) * s) = pt b (k' + (j : Int) * s')) : tour a k s n = tour b k' s' n := by
  unfold tour
  refine List.map_congr_left fun j hj => h j (by simpa using hj)

theorem rot_eq {c : List Pt} {k : Int} (h0 : 0 ≤ k) (h1 : k < c.length) : c.drop k.toNat ++ c.take k.toNat = tour c k 1 c.length := by
  apply List.ext_getElem?
  intro j
  by_cases hj : j < c.length
  · rw [tour_get hj, List.getElem?_append]
    simp only [List.length_drop, List.getElem?_drop, List.getElem?_take]
    split
    · have := pt_get (a := c) (i := k + j) (by omega) (by omega)
      rw [show k + (j : Int) * 1 = k + j by omega, ← this]
      congr 1; omega
    · rw [if_pos (by omega)]
      have := pt_get (a := c) (i := k + j - c.length) (by omega) (by omega)
      rw [show k + (j : Int) * 1 = k + j by omega]
      have e : pt c (k + j) = pt c (k + j - c.length) := pt_congr (by simp)
      rw [e, ← this]
      congr 1; omega
  · rw [List.getElem?_eq_none (by simp; omega), List.getElem?_eq_none (by rw [tour_len]; omega)]

theorem back_l0 {L : Nat} {a : List Pt} (hn : a ≠ []) (hs : (a.length : Int) ≤ 900000) : ∀ (m : Nat) (v : Int), 0 ≤ v → v < a.length → v < m → spec_pgBack_l0 L a m v (tour a 0 (-1) (a.length - v.toNat)) = some (tour a 0 (-1) a.length)
  | 0, _, _, _, h => by omega
  | m + 1, v, h0, hv, hm => by
    by_cases h : 0 < v
    · simp only [spec_pgBack_l0, ilt_eq, ilen_mapep, h, decide_true, cond_true, gbind_eq, iadd_eq, isub_eq, lget_pt h0 hv, Option.bind_some, tour_len, wr_s (i := v - 1) (by omega)]
      rw [fits_s (by rw [ilen_eq]; simp; omega)]
      simp only [cond_true]
      have e : lcat (tour a 0 (-1) (a.length - v.toNat)) [pt a v] = tour a 0 (-1) (a.length - (v - 1).toNat) := by
        rw [lcat_eq, show a.length - (v - 1).toNat = (a.length - v.toNat) + 1 by omega]
        have : pt a v = pt a (0 + ((a.length - v.toNat : Nat) : Int) * (-1)) := by
          rw [show 0 + ((a.length - v.toNat : Nat) : Int) * (-1) = v - a.length by omega]
          exact pt_congr (by simp)
        rw [this]
        simp [tour, List.range_succ]
      rw [e]
      exact back_l0 hn hs m (v - 1) (by omega) (by omega) (by omega)
    · have e : v = 0 := by omega
      subst e
      simp only [spec_pgBack_l0, ilt_eq, h, decide_false, cond_false]
      rfl

theorem spec_pgBack_eq {L : Nat} {a : List Pt} (hn : a ≠ []) (hs : (a.length : Int) ≤ 900000) (hL : (a.length : Int) < L) : spec_pgBack L a = some (tour a 0 (-1) a.length) := by
  have hl : 0 < (a.length : Int) := by have := List.length_pos_iff.2 hn; omega
  unfold spec_pgBack
  simp only [gbind_eq, lget_pt (Int.le_refl 0) hl, Option.bind_some, ilen_mapep, isub_eq, wr_s (i := (a.length : Int) - 1) (by omega)]
  have := back_l0 (L := L) hn hs L ((a.length : Int) - 1) (by omega) (by omega) (by omega)
  have e : tour a 0 (-1) (a.length - ((a.length : Int) - 1).toNat) = [pt a 0] := by
    rw [show a.length - ((a.length : Int) - 1).toNat = 1 by omega]
    rfl
  rw [e] at this
  exact this

theorem first_l1 {L : Nat} {c : List Pt} (hs : (c.length : Int) ≤ 900000) : ∀ (m : Nat) (k v : Int), IsMin c k v → 0 ≤ v → v ≤ c.length → (c.length : Int) - v < m →
    ∃ r, IsMin c r c.length ∧ spec_pgFirst_l1 L c m k v = some (tour c r 1 c.length)
  | 0, _, _, _, _, _, h => by omega
  | m + 1, k, v, hk, h0, hv, hm => by
    by_cases h : v < (c.length : Int)
    · simp only [spec_pgFirst_l1, ilt_eq, ilen_mapep, h, decide_true, cond_true, gbind_eq, lget_pt h0 h, lget_pt hk.1 hk.2.1, Option.bind_some, iadd_eq, wr_s (i := v + 1) (by omega), spec_pgLess_eq]
      by_cases hl : Less (pt c v) (pt c k)
      · simp only [hl, decide_true, cond_true]
        exact first_l1 (L := L) hs m v (v + 1) ⟨h0, h, fun i q1 q2 => by
          by_cases e : i = v
          · subst e; exact Less.irrefl _
          · exact fun q => hk.2.2 i q1 (by omega) (q.trans hl)⟩ (by omega) (by omega) (by omega)
      · simp only [hl, decide_false, cond_false]
        exact first_l1 (L := L) hs m k (v + 1) ⟨hk.1, hk.2.1, fun i q1 q2 => by
          by_cases e : i = v
          · subst e; exact hl
          · exact hk.2.2 i q1 (by omega)⟩ (by omega) (by omega) (by omega)
    · have e : v = c.length := by omega
      subst e
      have k0 := hk.1
      have k1 := hk.2.1
      refine ⟨k, hk, ?_⟩
      simp only [spec_pgFirst_l1, ilt_eq, ile_eq, ilen_mapep, h, decide_false, cond_false, k0, show k ≤ (c.length : Int) by omega, decide_true, Bool.and_self, cond_true, iadd_eq]
      rw [fits_s (by simp only [ilen_eq, lsub_eq]; simp; omega), fits_s (by simp only [ilen_eq, lsub_eq, lcat_eq]; simp; omega)]
      simp only [cond_true]
      rw [← rot_eq k0 k1, lcat_eq, lcat_eq, lsub_eq, lsub_eq]
      congr 1
      rw [List.nil_append, List.take_of_length_le (by simp; omega)]
      simp

theorem first_l0 {L : Nat} {c : List Pt} (hs : (c.length : Int) ≤ 900000) : ∀ (m : Nat) (k v : Int), IsMin c k v → 0 ≤ v → v ≤ c.length → (c.length : Int) - v < m →
    ∃ r, IsMin c r c.length ∧ spec_pgFirst_l0 L c m k v = some (tour c r 1 c.length)
  | 0, _, _, _, _, _, h => by omega
  | m + 1, k, v, hk, h0, hv, hm => by
    by_cases h : v < (c.length : Int)
    · simp only [spec_pgFirst_l0, ilt_eq, ile_eq, ilen_mapep, h, h0, hk.1, hk.2.1, Bool.and_self, decide_true, cond_true, gbind_eq, lget_pt h0 h, lget_pt hk.1 hk.2.1, Option.bind_some, iadd_eq, wr_s (i := v + 1) (by omega), spec_pgLess_eq]
      by_cases hl : Less (pt c v) (pt c k)
      · simp only [hl, decide_true, cond_true]
        exact first_l0 (L := L) hs m v (v + 1) ⟨h0, h, fun i q1 q2 => by
          by_cases e : i = v
          · subst e; exact Less.irrefl _
          · exact fun q => hk.2.2 i q1 (by omega) (q.trans hl)⟩ (by omega) (by omega) (by omega)
      · simp only [hl, decide_false, cond_false]
        exact first_l0 (L := L) hs m k (v + 1) ⟨hk.1, hk.2.1, fun i q1 q2 => by
          by_cases e : i = v
          · subst e; exact hl
          · exact hk.2.2 i q1 (by omega)⟩ (by omega) (by omega) (by omega)
    · have e : v = c.length := by omega
      subst e
      have k0 := hk.1
      have k1 := hk.2.1
      refine ⟨k, hk, ?_⟩
      simp only [spec_pgFirst_l0, ilt_eq, ile_eq, ilen_mapep, h, decide_false, cond_false, k0, show k ≤ (c.length : Int) by omega, decide_true, Bool.and_self, cond_true, iadd_eq, isub_eq]
      rw [fits_s (by simp only [ilen_eq, lsub_eq]; simp; omega), fits_s (by simp only [ilen_eq, lsub_eq, lcat_eq]; simp; omega)]
      simp only [cond_true]
      rw [← rot_eq k0 k1, lcat_eq, lcat_eq, lsub_eq, lsub_eq]
      congr 1
      rw [List.nil_append, List.take_of_length_le (by simp; omega)]
      simp
end Go.AM

/-! Both sides tell a polygon from the same corner on. -/
namespace Go.AM
set_option linter.unusedVariables false

theorem pt_mod (a : List Pt) (i : Int) : pt a (i % (a.length : Int)) = pt a i := pt_congr (Int.emod_emod_of_dvd _ (Int.dvd_refl _))

theorem isMin_all {a : List Pt} {k : Int} (hn : a ≠ []) (h : IsMin a k a.length) (i : Int) : ¬ Less (pt a i) (pt a k) := by
  have hl : 0 < (a.length : Int) := by have := List.length_pos_iff.2 hn; omega
  have := h.2.2 (i % a.length) (Int.emod_nonneg _ (by omega)) (Int.emod_lt_of_pos _ hl)
  rwa [pt_mod] at this

theorem pt_inj {a : List Pt} (hn : a ≠ []) (hd : ∀ i k, 0 ≤ k → k < i → i < (a.length : Int) → pt a k ≠ pt a i) {i j : Int} (h : pt a i = pt a j) : i % (a.length : Int) = j % (a.length : Int) := by
  have hl : 0 < (a.length : Int) := by have := List.length_pos_iff.2 hn; omega
  rw [← pt_mod a i, ← pt_mod a j] at h
  have h1 := Int.emod_nonneg i (show (a.length : Int) ≠ 0 by omega)
  have h2 := Int.emod_lt_of_pos i hl
  have h3 := Int.emod_nonneg j (show (a.length : Int) ≠ 0 by omega)
  have h4 := Int.emod_lt_of_pos j hl
  rcases Int.lt_trichotomy (i % (a.length : Int)) (j % (a.length : Int)) with q | q | q
  · exact absurd h (hd _ _ h1 q h4)
  · exact q
  · exact absurd h.symm (hd _ _ h3 q h2)

/-- a list told from its first one on: what both sides return -/
structure Told (a c : List Pt) : Prop where
  ex : ∃ k s : Int, (s = 1 ∨ s = -1) ∧ c = tour a k s a.length ∧ IsMin a k a.length

theorem first_eq {L : Nat} {a : List Pt} (hn : a ≠ []) (hs : (a.length : Int) ≤ 1000) (hL : 3000 < L) (hin : ∀ i, Nr (pt a i)) (hd : ∀ i k, 0 ≤ k → k < i → i < (a.length : Int) → pt a k ≠ pt a i) (h2 : 2 ≤ (a.length : Int)) (hz : area a ≠ 0) :
    ∃ c, spec_pgFirst L a = some c ∧ impl_tellFirst L a = some c ∧ Told a c := by
  have hl : 0 < (a.length : Int) := by have := List.length_pos_iff.2 hn; omega
  obtain ⟨k, k1, k2, _⟩ := impl_first_eq (L := L) hn (by omega) (by omega)
  have hsg := sg_bd (area a)
  have key : ∀ s : Int, (s = 1 ∨ s = -1) → sg (area a) = s → impl_tellFirst L a = some (tour a k s a.length) := by
    intro s h1 h2
    unfold impl_tellFirst
    simp only [k1, gbind_eq, Option.bind_some, impl_twice_eq hn (show (a.length : Int) ≤ 1000 by omega) (show (a.length : Int) < L by omega) hin, impl_sign_eq, h2]
    rw [impl_told_eq hn (by omega) ⟨k2.1, by have := k2.2.1; omega⟩ (by omega) (by omega)]
    rfl
  unfold spec_pgFirst
  rw [spec_pgArea_eq h2 hs (by omega) hin]
  simp only [gbind_eq, Option.bind_some, ilt_eq]
  by_cases hneg : area a < 0
  · simp only [hneg, decide_true, cond_true]
    rw [spec_pgBack_eq hn (by omega) (by omega)]
    simp only [Option.bind_some]
    have hbl : (tour a 0 (-1) a.length).length = a.length := tour_len _ _ _ _
    have hbn : tour a 0 (-1) a.length ≠ [] := by intro e; rw [e] at hbl; simp at hbl; omega
    obtain ⟨r, r1, r2⟩ := first_l0 (L := L) (c := tour a 0 (-1) a.length) (by omega) L 0 0 ⟨Int.le_refl _, by omega, fun i q1 q2 => by omega⟩ (Int.le_refl _) (by omega) (by omega)
    have hsg1 : sg (area a) = -1 := by unfold sg; rw [if_neg (by omega), if_pos hneg]
    have hpb : ∀ i, pt (tour a 0 (-1) a.length) i = pt a (-i) := fun i => by
      rw [pt_tour hn]
      apply pt_congr
      rw [Int.mul_neg_one, Int.zero_add]
      have := Int.emod_add_mul_ediv i (a.length : Int)
      conv => rhs; rw [← this, show -(i % (a.length : Int) + (a.length : Int) * (i / (a.length : Int))) = -(i % (a.length : Int)) + (a.length : Int) * (-(i / (a.length : Int))) by rw [Int.neg_add, Int.mul_neg]]
      rw [Int.add_mul_emod_self_left]
    have hmin : pt a (-r) = pt a k := by
      refine not_less_eq (isMin_all hn k2 _) fun q => ?_
      have := isMin_all hbn r1 (-k)
      rw [hpb, hpb, Int.neg_neg] at this
      exact this q
    have hmod := pt_inj hn hd hmin
    refine ⟨tour a k (-1) a.length, ?_, key (-1) (.inr rfl) hsg1, ⟨k, -1, .inr rfl, rfl, k2⟩⟩
    rw [r2, hbl]
    congr 1
    refine tour_ext fun j hj => ?_
    rw [hpb]
    apply pt_congr
    rw [show -(r + (j : Int) * 1) = -r + (-(j : Int)) by omega, show k + (j : Int) * -1 = k + (-(j : Int)) by omega, Int.add_emod, hmod, ← Int.add_emod]
  · simp only [hneg, decide_false, cond_false]
    obtain ⟨r, r1, r2⟩ := first_l1 (L := L) (c := a) (by omega) L 0 0 ⟨Int.le_refl _, by omega, fun i q1 q2 => by omega⟩ (Int.le_refl _) (by omega) (by omega)
    have hsg1 : sg (area a) = 1 := by unfold sg; rw [if_pos (by omega)]
    have hmin : pt a r = pt a k := not_less_eq (isMin_all hn k2 _) (isMin_all hn r1 _)
    have hmod := pt_inj hn hd hmin
    refine ⟨tour a k 1 a.length, ?_, key 1 (.inl rfl) hsg1, ⟨k, 1, .inl rfl, rfl, k2⟩⟩
    rw [r2]
    congr 1
    refine tour_ext fun j hj => ?_
    apply pt_congr
    rw [Int.add_emod, hmod, ← Int.add_emod]
end Go.AM

/-! The pegs around. -/
namespace Go.AM
set_option linter.unusedVariables false

def mkp (p q : Pt) (j : Int) : Pt := ⟨p.x + (q.x - p.x).tdiv (step p q) * j, p.y + (q.y - p.y).tdiv (step p q) * j⟩
def seg (p q : Pt) (n : Nat) : List Pt := (List.range n).map fun (j : Nat) => mkp p q (j : Int)

theorem step_dvd (p q : Pt) : step p q ∣ (q.x - p.x) ∧ step p q ∣ (q.y - p.y) := by
  unfold step
  constructor
  · rw [Int.ofNat_dvd_left, show (q.x - p.x).natAbs = (p.x - q.x).natAbs by omega]; exact Nat.gcd_dvd_left _ _
  · rw [Int.ofNat_dvd_left, show (q.y - p.y).natAbs = (p.y - q.y).natAbs by omega]; exact Nat.gcd_dvd_right _ _

theorem step_nn (p q : Pt) : 0 ≤ step p q := by unfold step; omega

theorem tdiv_bd {a b A : Int} (h : -A ≤ a ∧ a ≤ A) : -A ≤ a.tdiv b ∧ a.tdiv b ≤ A := by
  have h1 : (a.tdiv b).natAbs ≤ a.natAbs := by rw [Int.natAbs_tdiv]; exact Nat.div_le_self _ _
  omega

theorem seg_succ (p q : Pt) (n : Nat) : seg p q (n + 1) = seg p q n ++ [mkp p q (n : Int)] := by simp [seg, List.range_succ]
theorem seg_len (p q : Pt) (n : Nat) : (seg p q n).length = n := by simp [seg]

def allp (c : List Pt) : Nat → List Pt
  | 0 => []
  | i + 1 => allp c i ++ seg (pt c i) (pt c (i + 1)) (step (pt c i) (pt c (i + 1))).toNat

theorem allp_len {c : List Pt} (hin : ∀ i, Nr (pt c i)) : ∀ i : Nat, (allp c i).length ≤ i * 4000
  | 0 => by simp [allp]
  | i + 1 => by
    have h := allp_len hin i
    have h2 := step_bd (hin i) (hin (i + 1))
    simp only [allp, List.length_append, seg_len]
    omega

theorem spec_seg {L : Nat} {κ0 : Int → Int → (List Pt) → (List Pt) → Option ((List Pt))} {n v : Int} {c w : List Pt} {p q : Pt} (hp : Nr p) (hq : Nr q) (hv : 0 ≤ v ∧ v ≤ 1000) (hw : (w.length : Int) ≤ 4000000) : ∀ (m : Nat) (j : Nat), (j : Int) ≤ step p q → step p q - j < m →
    spec_duAround_l1 L κ0 n v c p q (step p q) m j (w ++ seg p q j) = κ0 n (v + 1) c (w ++ seg p q (step p q).toNat)
  | 0, _, _, h => by omega
  | m + 1, j, hj, hm => by
    have hb := step_bd hp hq
    have hs := sub_bd hq hp
    by_cases h : (j : Int) < step p q
    · have h0 : ¬ step p q = 0 := by omega
      have d1 := tdiv_bd (b := step p q) hs.1
      have d2 := tdiv_bd (b := step p q) hs.2
      have m1 := mul_bd (y := (j : Int)) (B := 4000) d1 (by omega)
      have m2 := mul_bd (y := (j : Int)) (B := 4000) d2 (by omega)
      unfold Nr at hp hq
      simp only [spec_duAround_l1, ilt_eq, ieq_eq, h, h0, decide_true, decide_false, cond_true, cond_false, isub_eq, iadd_eq, imul_eq, iquo_eq, wr_id (n := q.x - p.x) (by omega), wr_id (n := q.y - p.y) (by omega), wr_id (n := (q.x - p.x).tdiv (step p q)) (by omega),
        wr_id (n := (q.y - p.y).tdiv (step p q)) (by omega), wr_id (n := (q.x - p.x).tdiv (step p q) * j) (by omega), wr_id (n := (q.y - p.y).tdiv (step p q) * j) (by omega), wr_id (n := p.x + (q.x - p.x).tdiv (step p q) * j) (by omega), wr_id (n := p.y + (q.y - p.y).tdiv (step p q) * j) (by omega), wr_s (i := (j : Int) + 1) (by omega)]
      rw [fits_s (by rw [ilen_mapep, ilen_eq]; simp [seg_len]; omega)]
      simp only [cond_true]
      have e : lcat (w ++ seg p q j) [{ x := p.x + (q.x - p.x).tdiv (step p q) * j, y := p.y + (q.y - p.y).tdiv (step p q) * j }] = w ++ seg p q (j + 1) := by
        rw [lcat_eq, seg_succ, List.append_assoc]; rfl
      rw [e]
      exact spec_seg hp hq hv hw m (j + 1) (by omega) (by omega)
    · have e : (j : Int) = step p q := by omega
      simp only [spec_duAround_l1, ilt_eq, h, decide_false, cond_false, iadd_eq, wr_s (i := v + 1) (by omega)]
      rw [← e]; simp

theorem impl_seg {L : Nat} {κ0 : (List Pt) → (List Pt) → Int → Int → (List Pt) → Option ((List Pt))} {n v : Int} {c c' w : List Pt} {p q : Pt} (hp : Nr p) (hq : Nr q) (hv : 0 ≤ v ∧ v ≤ 1000) (hw : (w.length : Int) ≤ 4000000) : ∀ (m : Nat) (j : Nat), (j : Int) ≤ step p q → step p q - j < m →
    impl_pegsAround_l1 L κ0 c c' n v p (step p q) (q.x - p.x, q.y - p.y) m j (w ++ seg p q j) = κ0 c c' n (v + 1) (w ++ seg p q (step p q).toNat)
  | 0, _, _, h => by omega
  | m + 1, j, hj, hm => by
    have hb := step_bd hp hq
    have hs := sub_bd hq hp
    by_cases h : (j : Int) < step p q
    · have h0 : ¬ step p q = 0 := by omega
      have d1 := tdiv_bd (b := step p q) hs.1
      have d2 := tdiv_bd (b := step p q) hs.2
      have m1 := mul_bd (y := (j : Int)) (B := 4000) d1 (by omega)
      have m2 := mul_bd (y := (j : Int)) (B := 4000) d2 (by omega)
      have n1 := mul_bd (x := (j : Int)) (A := 4000) (by omega) hs.1
      have n2 := mul_bd (x := (j : Int)) (A := 4000) (by omega) hs.2
      have e1 : ((j : Int) * (q.x - p.x)).tdiv (step p q) = (q.x - p.x).tdiv (step p q) * j := by rw [Int.mul_tdiv_assoc _ (step_dvd p q).1, Int.mul_comm]
      have e2 : ((j : Int) * (q.y - p.y)).tdiv (step p q) = (q.y - p.y).tdiv (step p q) * j := by rw [Int.mul_tdiv_assoc _ (step_dvd p q).2, Int.mul_comm]
      unfold Nr at hp hq
      simp only [impl_pegsAround_l1, impl_Peg_plus, gbind_eq, Option.bind_some, ilt_eq, ieq_eq, h, h0, decide_true, decide_false, cond_true, cond_false, isub_eq, iadd_eq, imul_eq, iquo_eq, wr_id (n := (j : Int) * (q.x - p.x)) (by omega), wr_id (n := (j : Int) * (q.y - p.y)) (by omega), e1, e2,
        wr_id (n := (q.x - p.x).tdiv (step p q) * j) (by omega), wr_id (n := (q.y - p.y).tdiv (step p q) * j) (by omega), wr_id (n := p.x + (q.x - p.x).tdiv (step p q) * j) (by omega), wr_id (n := p.y + (q.y - p.y).tdiv (step p q) * j) (by omega), wr_s (i := (j : Int) + 1) (by omega)]
      rw [fits_s (by rw [ilen_mapep, ilen_eq]; simp [seg_len]; omega)]
      simp only [cond_true]
      have e : lcat (w ++ seg p q j) [{ x := p.x + (q.x - p.x).tdiv (step p q) * j, y := p.y + (q.y - p.y).tdiv (step p q) * j }] = w ++ seg p q (j + 1) := by
        rw [lcat_eq, seg_succ, List.append_assoc]; rfl
      rw [e]
      exact impl_seg hp hq hv hw m (j + 1) (by omega) (by omega)
    · have e : (j : Int) = step p q := by omega
      simp only [impl_pegsAround_l1, ilt_eq, h, decide_false, cond_false, iadd_eq, wr_s (i := v + 1) (by omega)]
      rw [← e]; simp

theorem spec_around_l0 {L : Nat} {c : List Pt} (hn : c ≠ []) (hs : (c.length : Int) ≤ 100) (hL : 5000 < L) (hin : ∀ i, Nr (pt c i)) : ∀ (m : Nat) (i : Nat), i ≤ c.length → (c.length : Int) - i < m → spec_duAround_l0 L m c.length i c (allp c i) = some (allp c c.length)
  | 0, _, _, h => by omega
  | m + 1, i, hi, hm => by
    have hl : 0 < (c.length : Int) := by have := List.length_pos_iff.2 hn; omega
    have h3 : ¬ ((c.length : Int) = 0) := by omega
    by_cases h : (i : Int) < (c.length : Int)
    · have b1 := Int.emod_nonneg ((i : Int) + 1) h3
      have b2 := Int.emod_lt_of_pos ((i : Int) + 1) hl
      have ha := allp_len hin i
      simp only [spec_duAround_l0, ilt_eq, ile_eq, ieq_eq, ilen_mapep, iadd_eq, h, h3, show 0 ≤ (i : Int) by omega, decide_true, decide_false, Bool.and_self, cond_true, cond_false, gbind_eq, lget_pt (show 0 ≤ (i : Int) by omega) h, Option.bind_some, wr_s (i := (i : Int) + 1) (by omega),
        lget_rem (show 0 ≤ (i : Int) + 1 by omega) hn, irem_nn (show 0 ≤ (i : Int) + 1 by omega), b1, b2]
      have hg : lget c (((i : Int) + 1) % (c.length : Int)) = some (pt c (i + 1)) := by rw [← irem_nn (by omega)]; exact lget_rem (by omega) hn
      rw [hg]
      simp only [Option.bind_some]
      rw [spec_pgStep_eq (hin _) (hin _) (by omega)]
      simp only [Option.bind_some]
      have hstep := step_bd (hin i) (hin (i + 1))
      have := spec_seg (L := L) (κ0 := spec_duAround_l0 L m) (n := c.length) (v := i) (c := c) (w := allp c i) (hin i) (hin (i + 1)) (by omega) (by omega) L 0 (step_nn _ _) (by omega)
      have e0 : seg (pt c i) (pt c (i + 1)) 0 = [] := rfl
      rw [e0, List.append_nil] at this
      refine this.trans ?_
      exact spec_around_l0 hn hs hL hin m (i + 1) (by omega) (by omega)
    · have e : i = c.length := by omega
      subst e
      simp only [spec_duAround_l0, ilt_eq, h, decide_false, cond_false]
end Go.AM

/-! AroundOf: both sides the same. -/
namespace Go.AM
set_option linter.unusedVariables false

theorem conv_id {X p q g j D : Int} (hD : D * g = q - p) : g * (p + D * j - X) = (g - j) * (p - X) + j * (q - X) := by grind

theorem mkp_not_less {p q c : Pt} {j : Int} (h0 : 0 ≤ j) (h1 : j < step p q) (hp : ¬ Less p c) (hq : ¬ Less q c) : ¬ Less (mkp p q j) c := by
  have d1 : (q.x - p.x).tdiv (step p q) * step p q = q.x - p.x := Int.tdiv_mul_cancel (step_dvd p q).1
  have d2 : (q.y - p.y).tdiv (step p q) * step p q = q.y - p.y := Int.tdiv_mul_cancel (step_dvd p q).2
  have e1 := conv_id (X := c.x) (j := j) d1
  have e2 := conv_id (X := c.y) (j := j) d2
  unfold Less at *
  simp only [mkp]
  generalize (q.x - p.x).tdiv (step p q) * j = A at *
  generalize (q.y - p.y).tdiv (step p q) * j = B at *
  have hg : 0 < step p q := by omega
  have px : 0 ≤ p.x - c.x := by omega
  have qx : 0 ≤ q.x - c.x := by omega
  have m1 := Int.mul_nonneg (show 0 ≤ step p q - j by omega) px
  have m2 := Int.mul_nonneg h0 qx
  have hx : 0 ≤ p.x + A - c.x := by
    rcases Int.lt_or_le (p.x + A - c.x) 0 with h | h
    · have := Int.mul_neg_of_pos_of_neg hg h; omega
    · exact h
  rintro (h | ⟨h, h'⟩)
  · omega
  · have z : (step p q) * (p.x + A - c.x) = 0 := by rw [show p.x + A - c.x = 0 by omega, Int.mul_zero]
    have z1 : (step p q - j) * (p.x - c.x) = 0 := by omega
    have z2 : j * (q.x - c.x) = 0 := by omega
    have p0 : p.x - c.x = 0 := by rcases Int.mul_eq_zero.1 z1 with h | h <;> omega
    have py : 0 ≤ p.y - c.y := by omega
    have n1 := Int.mul_nonneg (show 0 ≤ step p q - j by omega) py
    have n2 : 0 ≤ j * (q.y - c.y) := by
      rcases Int.mul_eq_zero.1 z2 with h | h
      · rw [h]; simp
      · exact Int.mul_nonneg h0 (by omega)
    have hy : p.y + B - c.y < 0 := by omega
    have := Int.mul_neg_of_pos_of_neg hg hy
    omega

theorem allp_not_less {c : List Pt} {k : Pt} (h : ∀ i, ¬ Less (pt c i) k) : ∀ (n : Nat), ∀ x ∈ allp c n, ¬ Less x k
  | 0, x, hx => by simp [allp] at hx
  | n + 1, x, hx => by
    simp only [allp, List.mem_append] at hx
    rcases hx with hx | hx
    · exact allp_not_less h n x hx
    · simp only [seg, List.mem_map, List.mem_range] at hx
      obtain ⟨j, hj, rfl⟩ := hx
      exact mkp_not_less (by omega) (by omega) (h _) (h _)

theorem allp_head {c : List Pt} (hst : 0 < step (pt c 0) (pt c 1)) : ∀ n : Nat, 0 < n → (allp c n)[0]? = some (pt c 0)
  | 0, h => by omega
  | 1, _ => by
    have e : (0 : Int) + 1 = 1 := rfl
    simp only [allp, List.nil_append, show ((0 : Nat) : Int) = 0 from rfl, e]
    have : 0 < (step (pt c 0) (pt c 1)).toNat := by omega
    simp [seg, this, mkp]
  | n + 2, _ => by
    have ih := allp_head hst (n + 1) (by omega)
    have hlt := (List.getElem?_eq_some_iff.1 ih).1
    rw [allp, List.getElem?_append_left hlt]
    exact ih

theorem step_pos {p q : Pt} (h : p ≠ q) : 0 < step p q := by
  unfold step
  have : 0 < Nat.gcd (p.x - q.x).natAbs (p.y - q.y).natAbs := by
    rw [Nat.gcd_pos_iff]
    by_cases hx : p.x = q.x
    · right
      have : p.y ≠ q.y := fun e => h (by cases p; cases q; simp_all)
      omega
    · left; omega
  omega

theorem impl_pegsA_l0 {L : Nat} {c : List Pt} (hn : c ≠ []) (hs : (c.length : Int) ≤ 100) (hL : 600000 < L) (hin : ∀ i, Nr (pt c i)) (hmin : ∀ i, ¬ Less (pt c i) (pt c 0)) (hst : 0 < step (pt c 0) (pt c 1)) : ∀ (m : Nat) (i : Nat), i ≤ c.length → (c.length : Int) - i < m → impl_pegsAround_l0 L m c c c.length i (allp c i) = some (allp c c.length)
  | 0, _, _, h => by omega
  | m + 1, i, hi, hm => by
    have hl : 0 < (c.length : Int) := by have := List.length_pos_iff.2 hn; omega
    by_cases h : (i : Int) < (c.length : Int)
    · have ha := allp_len hin i
      simp only [impl_pegsAround_l0, impl_Peg_less, ilt_eq, iadd_eq, isub_eq, h, decide_true, cond_true, gbind_eq, lget_pt (show 0 ≤ (i : Int) by omega) h, Option.bind_some, wr_s (i := (i : Int) + 1) (by omega), impl_at_eq hn (show (c.length : Int) ≤ 1000000000 by omega)]
      rw [impl_steps_eq (hin _) (hin _) (by omega)]
      simp only [Option.bind_some]
      have hsb := sub_bd (hin (i + 1)) (hin i)
      rw [wr_id (n := (pt c (i + 1)).x - (pt c i).x) (by omega), wr_id (n := (pt c (i + 1)).y - (pt c i).y) (by omega)]
      have hstep := step_bd (hin i) (hin (i + 1))
      have := impl_seg (L := L) (κ0 := impl_pegsAround_l0 L m) (n := c.length) (v := i) (c := c) (c' := c) (w := allp c i) (hin i) (hin (i + 1)) (by omega) (by omega) L 0 (step_nn _ _) (by omega)
      have e0 : seg (pt c i) (pt c (i + 1)) 0 = [] := rfl
      rw [e0, List.append_nil] at this
      refine this.trans ?_
      exact impl_pegsA_l0 hn hs hL hin hmin hst m (i + 1) (by omega) (by omega)
    · have e : i = c.length := by omega
      subst e
      simp only [impl_pegsAround_l0, ilt_eq, h, decide_false, cond_false]
      have ha := allp_len hin c.length
      have hh := allp_head hst c.length (by omega)
      have hne : allp c c.length ≠ [] := by intro e; rw [e] at hh; simp at hh
      have hp0 : pt (allp c c.length) 0 = pt c 0 := by
        have hlt := (List.getElem?_eq_some_iff.1 hh).1
        have := pt_get (a := allp c c.length) (i := 0) (Int.le_refl _) (by omega)
        rw [show (0 : Int).toNat = 0 from rfl, hh] at this
        exact (Option.some.inj this).symm
      obtain ⟨r, r1, r2, r3⟩ := impl_first_eq (L := L) hne (by omega) (by omega)
      have hr := r3 fun i q1 q2 => by
        rw [hp0]
        exact allp_not_less hmin _ _ (List.mem_of_getElem? (pt_get q1 q2))
      subst hr
      rw [r1]
      simp only [gbind_eq, Option.bind_some]
      rw [impl_told_eq hne (by omega) (by omega) (by omega) (by omega)]
      have hlt := List.length_pos_iff.2 hne
      rw [← rot_eq (Int.le_refl 0) (by omega)]
      simp

theorem aroundOf_eq {L : Nat} {a : List Pt} (hL : 600000 < L) : ∃ r, spec_AroundOf L a = some r ∧ impl_AroundOf L a = some r ∧ ((r.1.length : Int) ≤ 400000) := by
  obtain ⟨b, h1, h2, h3⟩ := one_eq (L := L) (a := a) (by omega)
  unfold spec_AroundOf impl_AroundOf
  simp only [h1, h2, gbind_eq, Option.bind_some]
  cases b with
  | false => exact ⟨([], false), rfl, rfl, by simp⟩
  | true =>
    obtain ⟨g, cv⟩ := h3 rfl
    have g1 := g.lo
    have g2 := g.hi
    have hne : a ≠ [] := by intro e; subst e; simp at g1
    have hin : ∀ i, Nr (pt a i) := fun i => (in_all g.isIn hne i).nr
    have hz : area a ≠ 0 := fun e => by
      have q1 := cv 0 (Int.le_refl _) (by omega)
      have q2 := g.turn 0 (Int.le_refl _) (by omega)
      rw [e] at q1
      unfold sg at q1
      split at q1
      · simp at q1
      · split at q1
        · simp at q1
        · omega
    obtain ⟨c, c1, c2, ⟨k, s, hs, rfl, hk⟩⟩ := first_eq (L := L) hne (by omega) (by omega) hin g.ne (by omega) hz
    have hl : (tour a k s a.length).length = a.length := tour_len _ _ _ _
    have hcn : tour a k s a.length ≠ [] := by intro e; rw [e] at hl; simp at hl; omega
    have hpt : ∀ i, pt (tour a k s a.length) i = pt a (k + (i % (a.length : Int)) * s) := fun i => pt_tour hne
    have hcin : ∀ i, Nr (pt (tour a k s a.length) i) := fun i => by rw [hpt]; exact hin _
    have p0 : pt (tour a k s a.length) 0 = pt a k := by rw [hpt]; simp
    have hmin : ∀ i, ¬ Less (pt (tour a k s a.length) i) (pt (tour a k s a.length) 0) := fun i => by rw [p0, hpt]; exact isMin_all hne hk _
    have hst : 0 < step (pt (tour a k s a.length) 0) (pt (tour a k s a.length) 1) := by
      refine step_pos fun e => ?_
      rw [p0, hpt, Int.emod_eq_of_lt (by omega) (by omega)] at e
      have := pt_inj hne g.ne e
      have h5 := Int.emod_emod_of_dvd (k + 1 * s - k) (Int.dvd_refl (a.length : Int))
      have h6 : (k + 1 * s - k) % (a.length : Int) = 0 := by rw [Int.sub_emod, ← this]; simp
      have h7 : (a.length : Int) ∣ s := by
        have := Int.dvd_of_emod_eq_zero h6
        rwa [show k + 1 * s - k = s by omega] at this
      rcases hs with rfl | rfl
      · have := Int.le_of_dvd (by omega) h7; omega
      · have := Int.le_of_dvd (show (0 : Int) < 1 by omega) (Int.dvd_neg.1 (by simpa using h7)); omega
    have e1 := spec_around_l0 (L := L) hcn (by omega) (by omega) hcin L 0 (by omega) (by omega)
    have e2 := impl_pegsA_l0 (L := L) hcn (by omega) hL hcin hmin hst L 0 (by omega) (by omega)
    simp only [Bool.not_true, cond_false, spec_duAround, c1, c2, gbind_eq, Option.bind_some, impl_pegsAround, ilen_mapep]
    have z : allp (tour a k s a.length) 0 = [] := rfl
    rw [z] at e1 e2
    simp only [show ((0 : Nat) : Int) = 0 from rfl] at e1 e2
    rw [e1, e2]
    refine ⟨_, rfl, rfl, ?_⟩
    have := allp_len hcin (tour a k s a.length).length
    simp only
    omega
end Go.AM

/-! The law's own functions. -/
namespace Go.AM
set_option linter.unusedVariables false

theorem eqPegS_l0 {L : Nat} {a : List Pt} (hs : (a.length : Int) ≤ 1100000) : ∀ (m : Nat) (v : Int), 0 ≤ v → v ≤ a.length → (a.length : Int) - v < m → laws_eqPegS_l0 L a a m v = some true
  | 0, _, _, _, h => by omega
  | m + 1, v, h0, hv, hm => by
    by_cases h : v < (a.length : Int)
    · simp only [laws_eqPegS_l0, laws_eqPeg, ilt_eq, ilen_mapep, h, decide_true, cond_true, gbind_eq, lget_pt h0 h, Option.bind_some, ieq_eq, Bool.not_true, cond_false, iadd_eq, wr_id (n := v + 1) (by omega)]
      exact eqPegS_l0 hs m (v + 1) (by omega) (by omega) (by omega)
    · simp only [laws_eqPegS_l0, ilt_eq, ilen_mapep, h, decide_false, cond_false]

theorem eqPegS_eq {L : Nat} {a : List Pt} (hs : (a.length : Int) ≤ 1100000) (hL : (a.length : Int) < L) : laws_eqPegS L a a = some true := by
  unfold laws_eqPegS
  simp only [ieq_eq, decide_true, Bool.not_true, cond_false]
  exact eqPegS_l0 hs L 0 (Int.le_refl _) (by omega) (by omega)

def mkd (n : Nat) : List Pt := (List.range n).map fun (j : Nat) => ⟨1 + 2 * (j : Int), 2 + 2 * (j : Int)⟩
theorem mkd_len (n : Nat) : (mkd n).length = n := by simp [mkd]
theorem mkd_succ (n : Nat) : mkd (n + 1) = mkd n ++ [⟨1 + 2 * (n : Int), 2 + 2 * (n : Int)⟩] := by simp [mkd, List.range_succ]

theorem set_mid {pre rest : List Pt} {i : Nat} {p x : Pt} (h : pre.length = i) : (pre ++ p :: rest).set i x = pre ++ x :: rest := by
  subst h; simp

theorem mark_l0 {L : Nat} {a : List Pt} (hs : (a.length : Int) ≤ 1100000) : ∀ (m i : Nat), i ≤ a.length → (a.length : Int) - i < m → laws_markPegS_l0 L m (1 + 2 * (i : Int)) i (mkd i ++ a.drop i) = some (1 + 2 * (a.length : Int), mkd a.length)
  | 0, _, _, h => by omega
  | m + 1, i, hi, hm => by
    have hl : ((mkd i ++ a.drop i).length : Int) = a.length := by simp [mkd_len]; omega
    by_cases h : i < a.length
    · obtain ⟨p, hp⟩ : ∃ p, a.drop i = p :: a.drop (i + 1) := ⟨a[i], List.drop_eq_getElem_cons h⟩
      have g1 : lget (mkd i ++ p :: a.drop (i + 1)) (i : Int) = some p := by
        rw [lget_eq, if_pos (by omega), Int.toNat_natCast, List.getElem?_append_right (by rw [mkd_len]; omega), mkd_len]; simp
      have s1 : ∀ x, lset (mkd i ++ p :: a.drop (i + 1)) (i : Int) x = mkd i ++ x :: a.drop (i + 1) := fun x => by
        rw [lset_eq, Int.toNat_natCast, set_mid (mkd_len i)]
      have g2 : ∀ x, lget (mkd i ++ x :: a.drop (i + 1)) (i : Int) = some x := fun x => by
        rw [lget_eq, if_pos (by omega), Int.toNat_natCast, List.getElem?_append_right (by rw [mkd_len]; omega), mkd_len]; simp
      have s2 : ∀ x y, lset (mkd i ++ x :: a.drop (i + 1)) (i : Int) y = mkd i ++ y :: a.drop (i + 1) := fun x y => by
        rw [lset_eq, Int.toNat_natCast, set_mid (mkd_len i)]
      rw [hp] at hl
      have hlt : (i : Int) < (a.length : Int) := by omega
      rw [hp]
      have hsl : ∀ v : AV, ilen (lset (List.map ep (mkd i ++ p :: a.drop (i + 1))) (i : Int) v) = (a.length : Int) := fun v => by
        rw [ilen_eq, lset_eq, List.length_set, List.length_map, hl]
      simp only [laws_markPegS_l0, ilt_eq, ile_eq, ilen_mapep, hl, hsl, hlt, show 0 ≤ (i : Int) by omega, decide_true, Bool.and_self, cond_true, gbind_eq, g1, s1, g2, s2, Option.bind_some, iadd_eq, wr_id (n := 1 + 2 * (i : Int) + 1) (by omega), wr_id (n := 1 + 2 * (i : Int) + 1 + 1) (by omega), wr_id (n := (i : Int) + 1) (by omega)]
      have e : mkd i ++ { x := 1 + 2 * (i : Int), y := 1 + 2 * (i : Int) + 1 } :: a.drop (i + 1) = mkd (i + 1) ++ a.drop (i + 1) := by
        rw [mkd_succ, List.append_assoc]
        simp
        omega
      rw [e]
      have := mark_l0 (L := L) hs m (i + 1) (by omega) (by omega)
      rw [show (1 + 2 * (i : Int) + 1 + 1) = 1 + 2 * ((i + 1 : Nat) : Int) by omega]
      exact this
    · have e : i = a.length := by omega
      subst e
      simp only [laws_markPegS_l0, ilt_eq, ilen_mapep, hl, Int.lt_irrefl, decide_false, cond_false]
      simp

theorem mark_eq {L : Nat} {a : List Pt} (hs : (a.length : Int) ≤ 1100000) (hL : (a.length : Int) < L) : laws_markPegS L a 1 = some (1 + 2 * (a.length : Int), mkd a.length) := by
  have := mark_l0 (L := L) hs L 0 (by omega) (by omega)
  simpa [mkd, laws_markPegS] using this

theorem held_l0 {L : Nat} {n : Nat} (hs : (n : Int) ≤ 1100000) : ∀ (m i : Nat), i ≤ n → (n : Int) - i < m → laws_heldPegS_l0 L (mkd n) m (1 + 2 * (i : Int)) i = some (1 + 2 * (n : Int))
  | 0, _, _, h => by omega
  | m + 1, i, hi, hm => by
    by_cases h : (i : Int) < (n : Int)
    · have g1 : lget (mkd n) (i : Int) = some ⟨1 + 2 * (i : Int), 2 + 2 * (i : Int)⟩ := by
        have hin : i < n := by omega
        rw [lget_eq, if_pos (by omega), Int.toNat_natCast]; simp [mkd, hin]
      simp only [laws_heldPegS_l0, ilt_eq, ieq_eq, ilen_mapep, mkd_len, h, g1, decide_true, Bool.not_true, cond_true, cond_false, gbind_eq, Option.bind_some, iadd_eq, wr_id (n := 1 + 2 * (i : Int) + 1) (by omega), wr_id (n := 1 + 2 * (i : Int) + 1 + 1) (by omega), wr_id (n := (i : Int) + 1) (by omega),
        show (2 + 2 * (i : Int) = 1 + 2 * (i : Int) + 1) = True from eq_true (by omega)]
      have := held_l0 (L := L) hs m (i + 1) (by omega) (by omega)
      rw [show (1 + 2 * (i : Int) + 1 + 1) = 1 + 2 * ((i + 1 : Nat) : Int) by omega]
      exact this
    · have e : i = n := by omega
      subst e
      simp only [laws_heldPegS_l0, ilt_eq, ilen_mapep, mkd_len, h, decide_false, cond_false]

theorem held_eq {L n : Nat} (hs : (n : Int) ≤ 1100000) (hL : (n : Int) < L) : laws_heldPegS L (mkd n) 1 = some (1 + 2 * (n : Int)) := by
  have := held_l0 (L := L) hs L 0 (by omega) (by omega)
  simpa [laws_heldPegS] using this

theorem toPegS_l0 {L : Nat} {a : List Pt} (hs : (a.length : Int) ≤ 1100000) : ∀ (m i : Nat) (w : List Pt), i ≤ a.length → w.length = a.length → (a.length : Int) - i < m → w.take i = a.take i → laws_toPegS_l0 L a m i w = some a
  | 0, _, _, _, _, h, _ => by omega
  | m + 1, i, w, hi, hw, hm, ht => by
    by_cases h : (i : Int) < (a.length : Int)
    · have hwl : (w.length : Int) = a.length := by omega
      have gw : ∃ x, lget w (i : Int) = some x := ⟨w[i]'(by omega), by rw [lget_eq, if_pos (by omega), Int.toNat_natCast]; exact List.getElem?_eq_getElem _⟩
      obtain ⟨x, gw⟩ := gw
      simp only [laws_toPegS_l0, laws_toPeg, ilt_eq, ile_eq, ilen_mapep, hwl, h, show 0 ≤ (i : Int) by omega, decide_true, Bool.and_self, cond_true, gbind_eq, lget_pt (show 0 ≤ (i : Int) by omega) h, gw, Option.bind_some, iadd_eq, wr_id (n := (i : Int) + 1) (by omega)]
      refine toPegS_l0 hs m (i + 1) _ (by omega) (by rw [lset_eq]; simp [hw]) (by omega) ?_
      have hp := pt_get (a := a) (i := (i : Int)) (by omega) h
      rw [Int.toNat_natCast] at hp
      rw [lset_eq, Int.toNat_natCast, List.take_add_one, List.take_add_one, List.take_set_of_le (by omega), ht, hp, List.getElem?_set, if_pos rfl, if_pos (by omega)]
    · have e : i = a.length := by omega
      subst e
      simp only [laws_toPegS_l0, ilt_eq, ilen_mapep, h, decide_false, cond_false]
      rw [List.take_of_length_le (by omega), List.take_of_length_le (by omega)] at ht
      rw [ht]

theorem toPegS_eq {L : Nat} {a : List Pt} (hs : (a.length : Int) ≤ 1100000) (hL : (a.length : Int) < L) : laws_toPegS L a = some a := by
  unfold laws_toPegS
  simp only [ile_eq, ilen_mapep, Int.le_refl, show 0 ≤ (a.length : Int) by omega, decide_true, Bool.and_self, fits_s (n := (a.length : Int)) (b := 16) (by omega), cond_true]
  exact toPegS_l0 (L := L) hs L 0 _ (by omega) (by rw [lrep_eq]; simp) (by omega) (by simp)

theorem aroundOf_law (a : List Pt) (hmax : (a.length : Int) ≤ 9223372036854775807) : ∃ L, laws_FnExactAroundOf L a = some true := by
  refine ⟨2000000, ?_⟩
  unfold laws_FnExactAroundOf laws_szPegS
  simp only [ilen_mapep, isub_eq, ilt_eq]
  by_cases hl : (a.length : Int) ≤ 1048576
  · rw [wr_id (by omega)]
    have h1 : ¬ (1048576 - (a.length : Int) < 0) := by omega
    obtain ⟨r, r1, r2, r3⟩ := aroundOf_eq (L := 2000000) (a := a) (by omega)
    simp only [h1, decide_false, cond_false, gbind_eq, Option.bind_some, toPegS_eq (L := 2000000) (a := a) (by omega) (by omega), r1, r2, eqPegS_eq (L := 2000000) (a := r.1) (by omega) (by omega), eqPegS_eq (L := 2000000) (a := a) (by omega) (by omega),
      mark_eq (L := 2000000) (a := a) (by omega) (by omega), mark_eq (L := 2000000) (a := r.1) (by omega) (by omega), held_eq (L := 2000000) (n := r.1.length) (by omega) (by omega), beqb_eq, beq_self_eq_true, Bool.not_true, ieq_eq, decide_true,
      show ¬ (1 + 2 * (a.length : Int) < 0) by omega, show ¬ (1 + 2 * (r.1.length : Int) < 0) by omega]
  · have hw : wr .i64 (1048576 - (a.length : Int)) < 0 := by
      rw [wr_id (by omega)]; omega
    simp only [hw, decide_true, cond_true, gbind_eq, Option.bind_some]
    rfl
end Go.AM

/-! Bezout's numbers, as both programs make them. -/
namespace Go.AM
set_option linter.unusedVariables false

theorem tmod_abs (a b : Int) : (a.tmod b).natAbs = a.natAbs % b.natAbs := Int.natAbs_tmod a b

/-- |a - q b| = |a| - |q| |b| -/
theorem rem_abs {a b : Int} (hb : b ≠ 0) : ((a - a.tdiv b * b).natAbs : Int) = a.natAbs - (a.tdiv b).natAbs * b.natAbs ∧ (a - a.tdiv b * b) = a.tmod b := by
  have h1 : a - a.tdiv b * b = a.tmod b := by
    have := Int.tmod_add_mul_tdiv a b
    rw [Int.mul_comm b] at this
    omega
  refine ⟨?_, h1⟩
  rw [h1, tmod_abs, Int.natAbs_tdiv]
  have := Nat.div_add_mod a.natAbs b.natAbs
  have h2 : ((a.natAbs.div b.natAbs : Nat) : Int) * (b.natAbs : Int) = ((b.natAbs * (a.natAbs / b.natAbs) : Nat) : Int) := by rw [Nat.mul_comm b.natAbs]; simp; rfl
  rw [h2]
  omega

/-- what holds at a round's beginning -/
structure Bz (a0 b0 a b u x v y : Int) : Prop where
  e1 : u * a0 + v * b0 = a
  e2 : x * a0 + y * b0 = b
  k1 : (u.natAbs : Int) * b.natAbs + x.natAbs * a.natAbs ≤ b0.natAbs
  k2 : (v.natAbs : Int) * b.natAbs + y.natAbs * a.natAbs ≤ a0.natAbs
  hu : u.natAbs ≤ 1 ∨ (u.natAbs : Int) ≤ b0.natAbs
  hv : v.natAbs ≤ 1 ∨ (v.natAbs : Int) ≤ a0.natAbs
  hx : x.natAbs ≤ 1 ∨ (x.natAbs : Int) ≤ b0.natAbs
  hy : y.natAbs ≤ 1 ∨ (y.natAbs : Int) ≤ a0.natAbs
  gcd : Nat.gcd a.natAbs b.natAbs = Nat.gcd a0.natAbs b0.natAbs
  ha : a.natAbs ≤ 4000
  hb : b.natAbs ≤ 4000

theorem bz0 {a0 b0 : Int} (ha : a0.natAbs ≤ 4000) (hb : b0.natAbs ≤ 4000) : Bz a0 b0 a0 b0 1 0 0 1 := by
  refine ⟨by omega, by omega, by simp, by simp, .inl (by simp), .inl (by simp), .inl (by simp), .inl (by simp), rfl, ha, hb⟩

theorem mul_le_of {a b c : Nat} (h : (a : Int) * b ≤ c) (hb : 0 < b) : a ≤ c := by
  have h1 : a * b ≤ c := by exact_mod_cast h
  exact Nat.le_trans (Nat.le_mul_of_pos_right a hb) h1

theorem bz_step {a0 b0 a b u x v y : Int} (h : Bz a0 b0 a b u x v y) (hb : b ≠ 0) : Bz a0 b0 b (a - a.tdiv b * b) x (u - a.tdiv b * x) y (v - a.tdiv b * y) := by
  obtain ⟨r1, r2⟩ := rem_abs (a := a) hb
  have tri : ∀ p q z : Int, ((p - q * z).natAbs : Int) ≤ p.natAbs + q.natAbs * z.natAbs := fun p q z => by
    have := Int.natAbs_sub_le p (q * z)
    rw [Int.natAbs_mul] at this
    have e : ((q.natAbs * z.natAbs : Nat) : Int) = (q.natAbs : Int) * z.natAbs := by simp
    omega
  have key : ∀ p z : Int, ∀ c : Nat, (p.natAbs : Int) * b.natAbs + z.natAbs * a.natAbs ≤ c → (z.natAbs : Int) * (a - a.tdiv b * b).natAbs + ((p - a.tdiv b * z).natAbs : Int) * b.natAbs ≤ c := fun p z c hc => by
    have t := tri p (a.tdiv b) z
    have hbn : (0 : Int) ≤ b.natAbs := by omega
    have m := Int.mul_le_mul_of_nonneg_right t hbn
    rw [r1]
    have e1 : (z.natAbs : Int) * (a.natAbs - (a.tdiv b).natAbs * b.natAbs) = z.natAbs * a.natAbs - (a.tdiv b).natAbs * z.natAbs * b.natAbs := by grind
    have e2 : ((p.natAbs : Int) + (a.tdiv b).natAbs * z.natAbs) * b.natAbs = p.natAbs * b.natAbs + (a.tdiv b).natAbs * z.natAbs * b.natAbs := by grind
    rw [e1]
    rw [e2] at m
    omega
  have hbp : 0 < b.natAbs := by omega
  have n1 := key u x _ h.k1
  have n2 := key v y _ h.k2
  have bd : ∀ p q : Int, ∀ c : Nat, (q.natAbs : Int) * (a - a.tdiv b * b).natAbs + (p.natAbs : Int) * b.natAbs ≤ c → p.natAbs ≤ 1 ∨ (p.natAbs : Int) ≤ c := fun p q c hc => by
    right
    have : (p.natAbs : Int) * b.natAbs ≤ c := by
      have : (0 : Int) ≤ q.natAbs * (a - a.tdiv b * b).natAbs := by exact_mod_cast Nat.zero_le _
      omega
    exact_mod_cast mul_le_of this hbp
  refine ⟨h.e2, ?_, n1, n2, h.hx, h.hy, bd _ _ _ n1, bd _ _ _ n2, ?_, h.hb, ?_⟩
  · have := h.e1; have := h.e2; subst_vars; grind
  · rw [r2, tmod_abs, ← h.gcd, Nat.gcd_comm, ← Nat.gcd_rec, Nat.gcd_comm]
  · rw [r2, tmod_abs]
    have := Nat.mod_le a.natAbs b.natAbs
    have := h.ha
    omega

/-- |q z| is small -/
theorem bz_q {a0 b0 a b u x v y : Int} (h : Bz a0 b0 a b u x v y) (hb : b ≠ 0) (hA : a0.natAbs ≤ 4000) (hB : b0.natAbs ≤ 4000) :
    (-4000 ≤ a.tdiv b ∧ a.tdiv b ≤ 4000) ∧ (-4000 ≤ a.tdiv b * x ∧ a.tdiv b * x ≤ 4000) ∧ (-4000 ≤ a.tdiv b * y ∧ a.tdiv b * y ≤ 4000) ∧ (-4000 ≤ a.tdiv b * b ∧ a.tdiv b * b ≤ 4000) := by
  have hq : (a.tdiv b).natAbs * b.natAbs ≤ a.natAbs := by
    rw [Int.natAbs_tdiv]
    exact Nat.div_mul_le_self _ _
  have hbp : 0 < b.natAbs := by omega
  have hq1 : (a.tdiv b).natAbs ≤ a.natAbs := Nat.le_trans (Nat.le_mul_of_pos_right _ hbp) hq
  have one : ∀ z : Int, ∀ c : Nat, (z.natAbs : Int) * a.natAbs ≤ c → c ≤ 4000 → (a.tdiv b * z).natAbs ≤ 4000 := fun z c hz hc => by
    have h1 : z.natAbs * a.natAbs ≤ c := by exact_mod_cast hz
    rw [Int.natAbs_mul, Nat.mul_comm]
    exact Nat.le_trans (Nat.mul_le_mul_left _ hq1) (Nat.le_trans h1 hc)
  have p1 : (x.natAbs : Int) * a.natAbs ≤ b0.natAbs := by
    have := h.k1
    have : (0 : Int) ≤ u.natAbs * b.natAbs := by exact_mod_cast Nat.zero_le _
    omega
  have p2 : (y.natAbs : Int) * a.natAbs ≤ a0.natAbs := by
    have := h.k2
    have : (0 : Int) ≤ v.natAbs * b.natAbs := by exact_mod_cast Nat.zero_le _
    omega
  have q1 := one x _ p1 hB
  have q2 := one y _ p2 hA
  have q3 : (a.tdiv b * b).natAbs ≤ 4000 := by rw [Int.natAbs_mul]; exact Nat.le_trans hq h.ha
  have := h.ha
  omega

theorem bezout_l0 {L : Nat} {a0 b0 : Int} (hA : a0.natAbs ≤ 4000) (hB : b0.natAbs ≤ 4000) : ∀ (m : Nat) (a b u x v y : Int), Bz a0 b0 a b u x v y → b.natAbs < m →
    ∃ g p q, impl_bezout_l0 L m a b u v x y = some (g, p, q) ∧ spec_mvFull_l0 L m a b u v x y = some (if g < 0 then (-p, -q) else (p, q)) ∧
      p * a0 + q * b0 = g ∧ g.natAbs = Nat.gcd a0.natAbs b0.natAbs ∧ (-4000 ≤ p ∧ p ≤ 4000) ∧ (-4000 ≤ q ∧ q ≤ 4000)
  | 0, _, _, _, _, _, _, _, h => by omega
  | m + 1, a, b, u, x, v, y, h, hm => by
    by_cases hb : b = 0
    · subst hb
      have bu : -4000 ≤ u ∧ u ≤ 4000 := by have := h.hu; omega
      have bv : -4000 ≤ v ∧ v ≤ 4000 := by have := h.hv; omega
      refine ⟨a, u, v, ?_, ?_, h.e1, ?_, bu, bv⟩
      · simp only [impl_bezout_l0, ieq_eq, decide_true, Bool.not_true, cond_false]
      · simp only [spec_mvFull_l0, ieq_eq, ilt_eq, isub_eq, decide_true, Bool.not_true, cond_false]
        rw [wr_id (n := 0 - u) (by omega), wr_id (n := 0 - v) (by omega)]
        by_cases ha : a < 0
        · simp only [ha, decide_true, cond_true, if_true]; congr 2 <;> omega
        · simp only [ha, decide_false, cond_false, if_false]
      · have := h.gcd; simpa using this
    · obtain ⟨b1, b2, b3, b4⟩ := bz_q h hb hA hB
      have k1 := h.hu; have k2 := h.hv; have k3 := h.ha
      have s := bz_step h hb
      obtain ⟨r1, r2⟩ := rem_abs (a := a) hb
      have hlt : (a - a.tdiv b * b).natAbs < m := by
        rw [r2, tmod_abs]
        have := Nat.mod_lt a.natAbs (show 0 < b.natAbs by omega)
        omega
      obtain ⟨g, p, q, e1, e2, e3⟩ := bezout_l0 (L := L) hA hB m _ _ _ _ _ _ s hlt
      refine ⟨g, p, q, ?_, ?_, e3⟩
      · simp only [impl_bezout_l0, ieq_eq, hb, decide_false, Bool.not_false, cond_true, cond_false, iquo_eq, imul_eq, isub_eq]
        rw [wr_id (n := a.tdiv b) (by omega), wr_id (n := a.tdiv b * b) (by omega), wr_id (n := a.tdiv b * x) (by omega), wr_id (n := a.tdiv b * y) (by omega), wr_id (n := a - a.tdiv b * b) (by omega), wr_id (n := u - a.tdiv b * x) (by omega), wr_id (n := v - a.tdiv b * y) (by omega)]
        exact e1
      · simp only [spec_mvFull_l0, ieq_eq, hb, decide_false, Bool.not_false, cond_true, cond_false, iquo_eq, imul_eq, isub_eq]
        rw [wr_id (n := a.tdiv b) (by omega), wr_id (n := a.tdiv b * b) (by omega), wr_id (n := a.tdiv b * x) (by omega), wr_id (n := a.tdiv b * y) (by omega), wr_id (n := a - a.tdiv b * b) (by omega), wr_id (n := u - a.tdiv b * x) (by omega), wr_id (n := v - a.tdiv b * y) (by omega)]
        exact e2

theorem bezout_eq {L : Nat} {a b : Int} (hA : a.natAbs ≤ 4000) (hB : b.natAbs ≤ 4000) (hL : 4000 < L) :
    ∃ g p q, impl_bezout L a b = some (g, p, q) ∧ spec_mvFull L a b = some (if g < 0 then (-p, -q) else (p, q)) ∧
      p * a + q * b = g ∧ g.natAbs = Nat.gcd a.natAbs b.natAbs ∧ (-4000 ≤ p ∧ p ≤ 4000) ∧ (-4000 ≤ q ∧ q ≤ 4000) := by
  unfold impl_bezout spec_mvFull
  exact bezout_l0 hA hB L a b 1 0 0 1 (bz0 hA hB) (by omega)
end Go.AM

/-! Frames. -/
namespace Go.AM
set_option linter.unusedVariables false

theorem take_map_succ {β : Type} {a : List Pt} {h : Pt → β} {v : Int} (h0 : 0 ≤ v) (h1 : v < a.length) : (a.take (v + 1).toNat).map h = (a.take v.toNat).map h ++ [h (pt a v)] := by
  have e : (v + 1).toNat = v.toNat + 1 := by omega
  rw [e, List.take_add_one, pt_get h0 h1]
  simp

theorem mapLoop {β : Type} {f : Nat → Int → List β → Option (List β)} {h : Pt → β} {a : List Pt} (hstop : ∀ m w, f (m + 1) a.length w = some w)
    (hgo : ∀ m v w, 0 ≤ v → v < (a.length : Int) → w.length ≤ a.length → f (m + 1) v w = f m (v + 1) (w ++ [h (pt a v)])) : ∀ (m : Nat) (v : Int), 0 ≤ v → v ≤ a.length → (a.length : Int) - v < m → f m v ((a.take v.toNat).map h) = some (a.map h)
  | 0, v, _, _, hm => by omega
  | m + 1, v, h0, hv, hm => by
    by_cases hvn : v < (a.length : Int)
    · rw [hgo m v _ h0 hvn (by simp; omega), ← take_map_succ h0 hvn]
      exact mapLoop hstop hgo m (v + 1) (by omega) (by omega) (by omega)
    · have e : v = (a.length : Int) := by omega
      subst e
      rw [hstop]
      simp

def brg (A B C D : Int) (o p : Pt) : Pt := ⟨A * (p.x - o.x) + B * (p.y - o.y), C * (p.x - o.x) + D * (p.y - o.y)⟩

theorem spec_mvPeg_eq {L : Nat} {A B C D X Y x y : Int} (hA : -60000000000 ≤ A ∧ A ≤ 60000000000) (hB : -60000000000 ≤ B ∧ B ≤ 60000000000) (hC : -60000000000 ≤ C ∧ C ≤ 60000000000) (hD : -60000000000 ≤ D ∧ D ≤ 60000000000)
    (hX : -1000000000 ≤ X ∧ X ≤ 1000000000) (hY : -1000000000 ≤ Y ∧ Y ≤ 1000000000) (hx : -4000 ≤ x ∧ x ≤ 4000) (hy : -4000 ≤ y ∧ y ≤ 4000) :
    spec_mvPeg L A B C D X Y x y = some (A * x + B * y + X, C * x + D * y + Y) := by
  have h1 := mul_bd hA hx; have h2 := mul_bd hB hy; have h3 := mul_bd hC hx; have h4 := mul_bd hD hy
  unfold spec_mvPeg
  simp only [iadd_eq, imul_eq]
  rw [wr_id (n := A * x) (by omega), wr_id (n := B * y) (by omega), wr_id (n := C * x) (by omega), wr_id (n := D * y) (by omega), wr_id (n := A * x + B * y) (by omega), wr_id (n := C * x + D * y) (by omega), wr_id (n := A * x + B * y + X) (by omega), wr_id (n := C * x + D * y + Y) (by omega)]

theorem impl_bring_eq {L : Nat} {A B C D X Y x y : Int} : impl_Move_bring L A B C D X Y x y = spec_mvPeg L A B C D X Y x y := rfl

theorem less_eq {L : Nat} {p q : Pt} (hp : Nr p) (hq : Nr q) : impl_Peg_less L p.x p.y q.x q.y = some (p.x - q.x, p.y - q.y) := by
  have := sub_bd hp hq
  unfold impl_Peg_less
  simp only [isub_eq]
  rw [wr_id (by omega), wr_id (by omega)]

theorem tdiv_small {a b : Int} {N : Int} (h : -N ≤ a ∧ a ≤ N) : -N ≤ a.tdiv b ∧ a.tdiv b ≤ N := tdiv_bd h

theorem spec_mvFrame_l0_eq {L : Nat} {a : List Pt} {o p1 p2 : Pt} {r : Int} {r1 r2 : Int × Int} {A B C D K : Int} (hin : ∀ i, Nr (pt a i)) (ho : Nr o) (hs : (a.length : Int) ≤ 1000)
    (hC : wr IntKind.i64 (isub 0 (wr IntKind.i64 (iquo (wr IntKind.i64 (isub 0 (wr IntKind.i64 (isub (Pt.y p2) (Pt.y o))))) r))) = C) (hD : wr IntKind.i64 (isub 0 (wr IntKind.i64 (iquo (wr IntKind.i64 (isub (Pt.x p1) (Pt.x o))) r))) = D)
    (hK : wr IntKind.i64 (iquo (wr IntKind.i64 (isub (irem (wr IntKind.i64 (iadd (irem (Prod.fst r2) (wr IntKind.i64 (isub 0 (Prod.snd r2)))) (wr IntKind.i64 (isub 0 (Prod.snd r2))))) (wr IntKind.i64 (isub 0 (Prod.snd r2)))) (Prod.fst r2))) (wr IntKind.i64 (isub 0 (Prod.snd r2)))) = K)
    (hA : wr IntKind.i64 (iadd (Prod.fst r1) (wr IntKind.i64 (imul K C))) = A) (hB : wr IntKind.i64 (iadd (Prod.snd r1) (wr IntKind.i64 (imul K D))) = B)
    (bA : -60000000000 ≤ A ∧ A ≤ 60000000000) (bB : -60000000000 ≤ B ∧ B ≤ 60000000000) (bC : -60000000000 ≤ C ∧ C ≤ 60000000000) (bD : -60000000000 ≤ D ∧ D ≤ 60000000000) (hL : (a.length : Int) < L) :
    spec_mvFrame_l0 L a o p1 p2 r r1 r2 L 0 [] = some (a.map (brg A B C D o)) := by
  have := mapLoop (f := spec_mvFrame_l0 L a o p1 p2 r r1 r2) (h := brg A B C D o) (a := a) (fun m w => by
    simp only [spec_mvFrame_l0, ilt_eq, ilen_mapep, Int.lt_irrefl, decide_false, cond_false]) (fun m v w hv0 h1 hw => by
    have hb := sub_bd (hin v) ho
    simp only [spec_mvFrame_l0, ilt_eq, ilen_mapep, h1, decide_true, cond_true, gbind_eq, lget_pt hv0 h1, Option.bind_some, hC, hD, hK, hA, hB]
    simp only [isub_eq]
    rw [wr_id (n := (pt a v).x - o.x) (by omega), wr_id (n := (pt a v).y - o.y) (by omega), spec_mvPeg_eq bA bB bC bD (by omega) (by omega) (by omega) (by omega)]
    simp only [Option.bind_some, iadd_eq, ilen_eq, List.length_cons, List.length_nil, fits_s (n := (w.length : Int) + ((0 + 1 : Nat) : Int)) (b := 16) (by omega), cond_true, lcat_eq, wr_id (n := v + 1) (by omega)]
    simp [brg]) L 0 (by omega) (by omega) (by omega)
  simpa using this

theorem spec_mvFrame_l1_eq {L : Nat} {a : List Pt} {o p1 p2 : Pt} {r : Int} {r1 r2 : Int × Int} {A B C D K : Int} (hin : ∀ i, Nr (pt a i)) (ho : Nr o) (hs : (a.length : Int) ≤ 1000)
    (hC : wr IntKind.i64 (iquo (wr IntKind.i64 (isub 0 (wr IntKind.i64 (isub (Pt.y p2) (Pt.y o))))) r) = C) (hD : wr IntKind.i64 (iquo (wr IntKind.i64 (isub (Pt.x p1) (Pt.x o))) r) = D)
    (hK : wr IntKind.i64 (iquo (wr IntKind.i64 (isub (irem (wr IntKind.i64 (iadd (irem (Prod.fst r2) (Prod.snd r2)) (Prod.snd r2))) (Prod.snd r2)) (Prod.fst r2))) (Prod.snd r2)) = K)
    (hA : wr IntKind.i64 (iadd (Prod.fst r1) (wr IntKind.i64 (imul K C))) = A) (hB : wr IntKind.i64 (iadd (Prod.snd r1) (wr IntKind.i64 (imul K D))) = B)
    (bA : -60000000000 ≤ A ∧ A ≤ 60000000000) (bB : -60000000000 ≤ B ∧ B ≤ 60000000000) (bC : -60000000000 ≤ C ∧ C ≤ 60000000000) (bD : -60000000000 ≤ D ∧ D ≤ 60000000000) (hL : (a.length : Int) < L) :
    spec_mvFrame_l1 L a o p1 p2 r r1 r2 L 0 [] = some (a.map (brg A B C D o)) := by
  have := mapLoop (f := spec_mvFrame_l1 L a o p1 p2 r r1 r2) (h := brg A B C D o) (a := a) (fun m w => by
    simp only [spec_mvFrame_l1, ilt_eq, ilen_mapep, Int.lt_irrefl, decide_false, cond_false]) (fun m v w hv0 h1 hw => by
    have hb := sub_bd (hin v) ho
    simp only [spec_mvFrame_l1, ilt_eq, ilen_mapep, h1, decide_true, cond_true, gbind_eq, lget_pt hv0 h1, Option.bind_some, hC, hD, hK, hA, hB]
    simp only [isub_eq]
    rw [wr_id (n := (pt a v).x - o.x) (by omega), wr_id (n := (pt a v).y - o.y) (by omega), spec_mvPeg_eq bA bB bC bD (by omega) (by omega) (by omega) (by omega)]
    simp only [Option.bind_some, iadd_eq, ilen_eq, List.length_cons, List.length_nil, fits_s (n := (w.length : Int) + ((0 + 1 : Nat) : Int)) (b := 16) (by omega), cond_true, lcat_eq, wr_id (n := v + 1) (by omega)]
    simp [brg]) L 0 (by omega) (by omega) (by omega)
  simpa using this

theorem impl_frame_l0_eq {L : Nat} {a : List Pt} {o : Pt} {r : Int × Int} {r1 : Int × Int × Int} {r3 : Int × Int} {A B C D K : Int} (h0 : lget a 0 = some o) (hin : ∀ i, Nr (pt a i)) (ho : Nr o) (hs : (a.length : Int) ≤ 1000)
    (hC : wr IntKind.i64 (isub 0 (wr IntKind.i64 (iquo (wr IntKind.i64 (isub 0 (Prod.snd r))) (wr IntKind.i64 (isub 0 (Prod.fst r1)))))) = C) (hD : wr IntKind.i64 (isub 0 (wr IntKind.i64 (iquo (Prod.fst r) (wr IntKind.i64 (isub 0 (Prod.fst r1)))))) = D)
    (hK : wr IntKind.i64 (iquo (wr IntKind.i64 (isub (irem (wr IntKind.i64 (iadd (irem (Prod.fst r3) (wr IntKind.i64 (isub 0 (Prod.snd r3)))) (wr IntKind.i64 (isub 0 (Prod.snd r3))))) (wr IntKind.i64 (isub 0 (Prod.snd r3)))) (Prod.fst r3))) (wr IntKind.i64 (isub 0 (Prod.snd r3)))) = K)
    (hA : wr IntKind.i64 (iadd (wr IntKind.i64 (isub 0 (Prod.fst (Prod.snd r1)))) (wr IntKind.i64 (imul K C))) = A) (hB : wr IntKind.i64 (iadd (wr IntKind.i64 (isub 0 (Prod.snd (Prod.snd r1)))) (wr IntKind.i64 (imul K D))) = B)
    (bA : -60000000000 ≤ A ∧ A ≤ 60000000000) (bB : -60000000000 ≤ B ∧ B ≤ 60000000000) (bC : -60000000000 ≤ C ∧ C ≤ 60000000000) (bD : -60000000000 ≤ D ∧ D ≤ 60000000000) (hL : (a.length : Int) < L) :
    impl_frame_l0 L a r r1 r3 L 0 [] = some (a.map (brg A B C D o)) := by
  have := mapLoop (f := impl_frame_l0 L a r r1 r3) (h := brg A B C D o) (a := a) (fun m w => by
    simp only [impl_frame_l0, ilt_eq, ilen_mapep, Int.lt_irrefl, decide_false, cond_false]) (fun m v w hv0 h1 hw => by
    have hb := sub_bd (hin v) ho
    simp only [impl_frame_l0, ilt_eq, ilen_mapep, h1, decide_true, cond_true, gbind_eq, lget_pt hv0 h1, Option.bind_some, hC, hD, hK, hA, hB, h0]
    rw [less_eq (hin v) ho]
    simp only [Option.bind_some, impl_bring_eq]
    rw [spec_mvPeg_eq bA bB bC bD (by omega) (by omega) (by omega) (by omega)]
    simp only [Option.bind_some, iadd_eq, ilen_eq, List.length_cons, List.length_nil, fits_s (n := (w.length : Int) + ((0 + 1 : Nat) : Int)) (b := 16) (by omega), cond_true, lcat_eq, wr_id (n := v + 1) (by omega)]
    simp [brg]) L 0 (by omega) (by omega) (by omega)
  simpa using this

theorem impl_frame_l1_eq {L : Nat} {a : List Pt} {o : Pt} {r : Int × Int} {r1 : Int × Int × Int} {r3 : Int × Int} {A B C D K : Int} (h0 : lget a 0 = some o) (hin : ∀ i, Nr (pt a i)) (ho : Nr o) (hs : (a.length : Int) ≤ 1000)
    (hC : wr IntKind.i64 (iquo (wr IntKind.i64 (isub 0 (Prod.snd r))) (wr IntKind.i64 (isub 0 (Prod.fst r1)))) = C) (hD : wr IntKind.i64 (iquo (Prod.fst r) (wr IntKind.i64 (isub 0 (Prod.fst r1)))) = D)
    (hK : wr IntKind.i64 (iquo (wr IntKind.i64 (isub (irem (wr IntKind.i64 (iadd (irem (Prod.fst r3) (Prod.snd r3)) (Prod.snd r3))) (Prod.snd r3)) (Prod.fst r3))) (Prod.snd r3)) = K)
    (hA : wr IntKind.i64 (iadd (wr IntKind.i64 (isub 0 (Prod.fst (Prod.snd r1)))) (wr IntKind.i64 (imul K C))) = A) (hB : wr IntKind.i64 (iadd (wr IntKind.i64 (isub 0 (Prod.snd (Prod.snd r1)))) (wr IntKind.i64 (imul K D))) = B)
    (bA : -60000000000 ≤ A ∧ A ≤ 60000000000) (bB : -60000000000 ≤ B ∧ B ≤ 60000000000) (bC : -60000000000 ≤ C ∧ C ≤ 60000000000) (bD : -60000000000 ≤ D ∧ D ≤ 60000000000) (hL : (a.length : Int) < L) :
    impl_frame_l1 L a r r1 r3 L 0 [] = some (a.map (brg A B C D o)) := by
  have := mapLoop (f := impl_frame_l1 L a r r1 r3) (h := brg A B C D o) (a := a) (fun m w => by
    simp only [impl_frame_l1, ilt_eq, ilen_mapep, Int.lt_irrefl, decide_false, cond_false]) (fun m v w hv0 h1 hw => by
    have hb := sub_bd (hin v) ho
    simp only [impl_frame_l1, ilt_eq, ilen_mapep, h1, decide_true, cond_true, gbind_eq, lget_pt hv0 h1, Option.bind_some, hC, hD, hK, hA, hB, h0]
    rw [less_eq (hin v) ho]
    simp only [Option.bind_some, impl_bring_eq]
    rw [spec_mvPeg_eq bA bB bC bD (by omega) (by omega) (by omega) (by omega)]
    simp only [Option.bind_some, iadd_eq, ilen_eq, List.length_cons, List.length_nil, fits_s (n := (w.length : Int) + ((0 + 1 : Nat) : Int)) (b := 16) (by omega), cond_true, lcat_eq, wr_id (n := v + 1) (by omega)]
    simp [brg]) L 0 (by omega) (by omega) (by omega)
  simpa using this

theorem impl_frame_l2_eq {L : Nat} {a : List Pt} {o : Pt} {r : Int × Int} {r1 : Int × Int × Int} {r9 : Int × Int} {A B C D K : Int} (h0 : lget a 0 = some o) (hin : ∀ i, Nr (pt a i)) (ho : Nr o) (hs : (a.length : Int) ≤ 1000)
    (hC : wr IntKind.i64 (isub 0 (wr IntKind.i64 (iquo (wr IntKind.i64 (isub 0 (Prod.snd r))) (Prod.fst r1)))) = C) (hD : wr IntKind.i64 (isub 0 (wr IntKind.i64 (iquo (Prod.fst r) (Prod.fst r1)))) = D)
    (hK : wr IntKind.i64 (iquo (wr IntKind.i64 (isub (irem (wr IntKind.i64 (iadd (irem (Prod.fst r9) (wr IntKind.i64 (isub 0 (Prod.snd r9)))) (wr IntKind.i64 (isub 0 (Prod.snd r9))))) (wr IntKind.i64 (isub 0 (Prod.snd r9)))) (Prod.fst r9))) (wr IntKind.i64 (isub 0 (Prod.snd r9)))) = K)
    (hA : wr IntKind.i64 (iadd (Prod.fst (Prod.snd r1)) (wr IntKind.i64 (imul K C))) = A) (hB : wr IntKind.i64 (iadd (Prod.snd (Prod.snd r1)) (wr IntKind.i64 (imul K D))) = B)
    (bA : -60000000000 ≤ A ∧ A ≤ 60000000000) (bB : -60000000000 ≤ B ∧ B ≤ 60000000000) (bC : -60000000000 ≤ C ∧ C ≤ 60000000000) (bD : -60000000000 ≤ D ∧ D ≤ 60000000000) (hL : (a.length : Int) < L) :
    impl_frame_l2 L a r r1 r9 L 0 [] = some (a.map (brg A B C D o)) := by
  have := mapLoop (f := impl_frame_l2 L a r r1 r9) (h := brg A B C D o) (a := a) (fun m w => by
    simp only [impl_frame_l2, ilt_eq, ilen_mapep, Int.lt_irrefl, decide_false, cond_false]) (fun m v w hv0 h1 hw => by
    have hb := sub_bd (hin v) ho
    simp only [impl_frame_l2, ilt_eq, ilen_mapep, h1, decide_true, cond_true, gbind_eq, lget_pt hv0 h1, Option.bind_some, hC, hD, hK, hA, hB, h0]
    rw [less_eq (hin v) ho]
    simp only [Option.bind_some, impl_bring_eq]
    rw [spec_mvPeg_eq bA bB bC bD (by omega) (by omega) (by omega) (by omega)]
    simp only [Option.bind_some, iadd_eq, ilen_eq, List.length_cons, List.length_nil, fits_s (n := (w.length : Int) + ((0 + 1 : Nat) : Int)) (b := 16) (by omega), cond_true, lcat_eq, wr_id (n := v + 1) (by omega)]
    simp [brg]) L 0 (by omega) (by omega) (by omega)
  simpa using this

theorem impl_frame_l3_eq {L : Nat} {a : List Pt} {o : Pt} {r : Int × Int} {r1 : Int × Int × Int} {r9 : Int × Int} {A B C D K : Int} (h0 : lget a 0 = some o) (hin : ∀ i, Nr (pt a i)) (ho : Nr o) (hs : (a.length : Int) ≤ 1000)
    (hC : wr IntKind.i64 (iquo (wr IntKind.i64 (isub 0 (Prod.snd r))) (Prod.fst r1)) = C) (hD : wr IntKind.i64 (iquo (Prod.fst r) (Prod.fst r1)) = D)
    (hK : wr IntKind.i64 (iquo (wr IntKind.i64 (isub (irem (wr IntKind.i64 (iadd (irem (Prod.fst r9) (Prod.snd r9)) (Prod.snd r9))) (Prod.snd r9)) (Prod.fst r9))) (Prod.snd r9)) = K)
    (hA : wr IntKind.i64 (iadd (Prod.fst (Prod.snd r1)) (wr IntKind.i64 (imul K C))) = A) (hB : wr IntKind.i64 (iadd (Prod.snd (Prod.snd r1)) (wr IntKind.i64 (imul K D))) = B)
    (bA : -60000000000 ≤ A ∧ A ≤ 60000000000) (bB : -60000000000 ≤ B ∧ B ≤ 60000000000) (bC : -60000000000 ≤ C ∧ C ≤ 60000000000) (bD : -60000000000 ≤ D ∧ D ≤ 60000000000) (hL : (a.length : Int) < L) :
    impl_frame_l3 L a r r1 r9 L 0 [] = some (a.map (brg A B C D o)) := by
  have := mapLoop (f := impl_frame_l3 L a r r1 r9) (h := brg A B C D o) (a := a) (fun m w => by
    simp only [impl_frame_l3, ilt_eq, ilen_mapep, Int.lt_irrefl, decide_false, cond_false]) (fun m v w hv0 h1 hw => by
    have hb := sub_bd (hin v) ho
    simp only [impl_frame_l3, ilt_eq, ilen_mapep, h1, decide_true, cond_true, gbind_eq, lget_pt hv0 h1, Option.bind_some, hC, hD, hK, hA, hB, h0]
    rw [less_eq (hin v) ho]
    simp only [Option.bind_some, impl_bring_eq]
    rw [spec_mvPeg_eq bA bB bC bD (by omega) (by omega) (by omega) (by omega)]
    simp only [Option.bind_some, iadd_eq, ilen_eq, List.length_cons, List.length_nil, fits_s (n := (w.length : Int) + ((0 + 1 : Nat) : Int)) (b := 16) (by omega), cond_true, lcat_eq, wr_id (n := v + 1) (by omega)]
    simp [brg]) L 0 (by omega) (by omega) (by omega)
  simpa using this

end Go.AM

/-! One corner's frame: both programs make the same. -/
namespace Go.AM
set_option linter.unusedVariables false

theorem lget_pt' {a : List Pt} {i : Int} (h0 : 0 ≤ i) (h1 : i < a.length) : lget a i = some (pt a i) := lget_pt h0 h1

structure Fr (a : List Pt) (A B C D g b d : Int) : Prop where
  e1 : brg A B C D (pt a 0) (pt a 1) = ⟨g, 0⟩
  e2 : brg A B C D (pt a 0) (pt a 2) = ⟨b, d⟩
  g0 : 0 < g
  b0 : 0 ≤ b
  bd : b < d
  gg : g = step (pt a 0) (pt a 1)
  det : A * D - B * C = 1 ∨ A * D - B * C = -1
  bA : -60000000000 ≤ A ∧ A ≤ 60000000000
  bB : -60000000000 ≤ B ∧ B ≤ 60000000000
  bC : -2000 ≤ C ∧ C ≤ 2000
  bD : -2000 ≤ D ∧ D ≤ 2000

/-- the shear -/
theorem shear_eq {tx ty : Int} (hty : 0 < ty) (bx : -17000000 ≤ tx ∧ tx ≤ 17000000) (by_ : ty ≤ 9000000) :
    ∃ b K : Int, wr .i64 (iquo (wr .i64 (isub (irem (wr .i64 (iadd (irem tx ty) ty)) ty) tx)) ty) = K ∧ 0 ≤ b ∧ b < ty ∧ tx + K * ty = b ∧ (-27000000 ≤ K ∧ K ≤ 27000000) := by
  have h1 : -ty < tx.tmod ty ∧ tx.tmod ty < ty := by
    have := Int.tmod_lt_of_pos tx hty
    have h2 := Int.natAbs_tmod tx ty
    have h3 := Nat.mod_lt tx.natAbs (show 0 < ty.natAbs by omega)
    omega
  have h2 : (tx.tmod ty + ty).tmod ty = tx % ty := by
    rw [Int.tmod_eq_emod_of_nonneg (by omega), Int.add_emod_right]
    conv => rhs; rw [← Int.tmod_add_mul_tdiv tx ty, Int.add_mul_emod_self_left]
  have h3 := Int.emod_nonneg tx (show ty ≠ 0 by omega)
  have h4 := Int.emod_lt_of_pos tx hty
  have h5 := Int.mul_ediv_add_emod tx ty
  have h6 : (tx % ty - tx).tdiv ty = -(tx / ty) := by
    have : tx % ty - tx = -(tx / ty) * ty := by rw [Int.neg_mul, Int.mul_comm]; omega
    rw [this, Int.mul_tdiv_cancel _ (by omega)]
  have h7 : -17000000 ≤ tx / ty ∧ tx / ty ≤ 17000000 := by
    constructor
    · have := Int.ediv_le_ediv hty bx.1
      have h8 : -17000000 ≤ (-17000000 : Int) / ty := by
        rw [Int.le_ediv_iff_mul_le hty]; omega
      omega
    · have := Int.ediv_le_ediv hty bx.2
      have h8 : (17000000 : Int) / ty ≤ 17000000 := Int.ediv_le_self _ (by omega)
      omega
  refine ⟨tx % ty, -(tx / ty), ?_, h3, h4, ?_, by omega⟩
  · simp only [irem_eq, iadd_eq, isub_eq, iquo_eq]
    rw [wr_id (n := tx.tmod ty + ty) (by omega), h2, wr_id (n := tx % ty - tx) (by omega), h6, wr_id (by omega)]
  · rw [Int.neg_mul, Int.mul_comm]; omega

theorem exact_div {G z : Int} (hG : 0 < G) (h : G ∣ z) : z.tdiv G * G = z := Int.tdiv_mul_cancel h

theorem frame_eq {L : Nat} {a : List Pt} (hn : 3 ≤ (a.length : Int)) (hs : (a.length : Int) ≤ 1000) (hin : ∀ i, Nr (pt a i)) (ht : turn (pt a 0) (pt a 1) (pt a 2) ≠ 0) (hL : 5000 < L) :
    ∃ A B C D g b d, spec_mvFrame L a = some (a.map (brg A B C D (pt a 0))) ∧ impl_frame L a = some (a.map (brg A B C D (pt a 0))) ∧ Fr a A B C D g b d := by
  have l0 := lget_pt (a := a) (i := 0) (by omega) (by omega)
  have l1 := lget_pt (a := a) (i := 1) (by omega) (by omega)
  have l2 := lget_pt (a := a) (i := 2) (by omega) (by omega)
  have n0 := hin 0; have n1 := hin 1; have n2 := hin 2
  have s1 := sub_bd n1 n0
  have s2 := sub_bd n2 n0
  have hst : pt a 0 ≠ pt a 1 := fun e => ht (by rw [e]; unfold turn; grind)
  have hG := step_pos hst
  have hstd := step_dvd (pt a 0) (pt a 1)
  have hsb := step_bd n0 n1
  obtain ⟨gz, p, q, hb1, hb2, hb3, hb4, hb5, hb6⟩ := bezout_eq (L := L) (a := (pt a 1).x - (pt a 0).x) (b := (pt a 1).y - (pt a 0).y) (by omega) (by omega) (by omega)
  have hGz : (gz.natAbs : Int) = step (pt a 0) (pt a 1) := by
    rw [hb4]; unfold step
    rw [show ((pt a 1).x - (pt a 0).x).natAbs = ((pt a 0).x - (pt a 1).x).natAbs by omega, show ((pt a 1).y - (pt a 0).y).natAbs = ((pt a 0).y - (pt a 1).y).natAbs by omega]
  generalize hGd : step (pt a 0) (pt a 1) = G at *
  generalize hX : (pt a 1).x - (pt a 0).x = X at *
  generalize hY : (pt a 1).y - (pt a 0).y = Y at *
  generalize hWx : (pt a 2).x - (pt a 0).x = wx at *
  generalize hWy : (pt a 2).y - (pt a 0).y = wy at *
  have hturn : turn (pt a 0) (pt a 1) (pt a 2) = X * wy - Y * wx := by unfold turn; rw [hX, hY, hWx, hWy]
  have dX : X.tdiv G * G = X := exact_div hG hstd.1
  have dY : (-Y).tdiv G * G = -Y := exact_div hG (Int.dvd_neg.2 hstd.2)
  have bX : -2000 ≤ X.tdiv G ∧ X.tdiv G ≤ 2000 := tdiv_bd (A := 2000) (by omega)
  have bY : -2000 ≤ (-Y).tdiv G ∧ (-Y).tdiv G ≤ 2000 := tdiv_bd (A := 2000) (by omega)
  generalize hd0 : X.tdiv G = d0 at *
  generalize hc0 : (-Y).tdiv G = c0 at *
  -- u, v with u X + v Y = G
  obtain ⟨u, v, huv, hspec, hu, hv⟩ : ∃ u v : Int, u * X + v * Y = G ∧ (if gz < 0 then (-p, -q) else (p, q)) = (u, v) ∧ (-4000 ≤ u ∧ u ≤ 4000) ∧ (-4000 ≤ v ∧ v ≤ 4000) := by
    by_cases hneg : gz < 0
    · refine ⟨-p, -q, ?_, by simp [hneg], by omega, by omega⟩
      have : -p * X + -q * Y = -gz := by rw [← hb3]; grind
      omega
    · exact ⟨p, q, by omega, by simp [hneg], hb5, hb6⟩
  rw [hspec] at hb2
  have m1 := mul_bd hu s2.1; have m2 := mul_bd hv s2.2; have m3 := mul_bd bY s2.1; have m4 := mul_bd bX s2.2
  have hT3 : G * (c0 * wx + d0 * wy) = X * wy - Y * wx := by grind
  have hty0 : c0 * wx + d0 * wy ≠ 0 := fun e => ht (by rw [hturn, ← hT3, e]; simp)
  have hdet : u * d0 - v * c0 = 1 := by
    have : G * (u * d0 - v * c0) = G * 1 := by grind
    exact Int.eq_of_mul_eq_mul_left (by omega) this
  generalize htx : u * wx + v * wy = tx at *
  generalize htyd : c0 * wx + d0 * wy = ty at *
  -- the rows' common end
  have fin : ∀ (C D t K b : Int), ((C = c0 ∧ D = d0 ∧ t = ty) ∨ (C = -c0 ∧ D = -d0 ∧ t = -ty)) → 0 < t → 0 ≤ b → b < t → tx + K * t = b → (-27000000 ≤ K ∧ K ≤ 27000000) →
      Fr a (u + K * C) (v + K * D) C D G b t ∧ (-54000000000 ≤ K * C ∧ K * C ≤ 54000000000) ∧ (-54000000000 ≤ K * D ∧ K * D ≤ 54000000000) := by
    intro C D t K b hCD ht0 hb0 hbt hK bK
    have bC : -2000 ≤ C ∧ C ≤ 2000 := by omega
    have bD : -2000 ≤ D ∧ D ≤ 2000 := by omega
    have k1 := mul_bd bK bC; have k2 := mul_bd bK bD
    have q1 : C * X + D * Y = 0 := by
      have z : c0 * X + d0 * Y = 0 := by
        have : G * (c0 * X + d0 * Y) = 0 := by grind
        rcases Int.mul_eq_zero.1 this with h | h
        · omega
        · exact h
      rcases hCD with ⟨rfl, rfl, _⟩ | ⟨rfl, rfl, _⟩
      · exact z
      · rw [Int.neg_mul, Int.neg_mul]; omega
    have q2 : C * wx + D * wy = t := by
      rcases hCD with ⟨rfl, rfl, rfl⟩ | ⟨rfl, rfl, rfl⟩
      · exact htyd
      · rw [Int.neg_mul, Int.neg_mul]; omega
    refine ⟨⟨?_, ?_, hG, hb0, hbt, hGd.symm, ?_, by omega, by omega, bC, bD⟩, by omega, by omega⟩
    · unfold brg; rw [hX, hY]
      congr 1
      have : (u + K * C) * X + (v + K * D) * Y = u * X + v * Y + K * (C * X + D * Y) := by grind
      rw [this, q1, huv]; omega
    · unfold brg; rw [hWx, hWy]
      congr 1
      have : (u + K * C) * wx + (v + K * D) * wy = u * wx + v * wy + K * (C * wx + D * wy) := by grind
      rw [this, q2, htx, hK]
    · have : (u + K * C) * D - (v + K * D) * C = u * D - v * C := by grind
      rw [this]
      rcases hCD with ⟨rfl, rfl, _⟩ | ⟨rfl, rfl, _⟩
      · exact .inl hdet
      · right; rw [Int.mul_neg, Int.mul_neg]; omega
  have wY : wr IntKind.i64 (isub 0 (wr IntKind.i64 (isub (pt a 1).y (pt a 0).y))) = -Y := by
    simp only [isub_eq]; rw [hY, wr_id (n := Y) (by omega), wr_id (n := 0 - Y) (by omega)]; omega
  have wX : wr IntKind.i64 (isub (pt a 1).x (pt a 0).x) = X := by simp only [isub_eq]; rw [hX, wr_id (by omega)]
  have wY1 : wr IntKind.i64 (isub (pt a 1).y (pt a 0).y) = Y := by simp only [isub_eq]; rw [hY, wr_id (by omega)]
  have wWx : wr IntKind.i64 (isub (pt a 2).x (pt a 0).x) = wx := by simp only [isub_eq]; rw [hWx, wr_id (by omega)]
  have wWy : wr IntKind.i64 (isub (pt a 2).y (pt a 0).y) = wy := by simp only [isub_eq]; rw [hWy, wr_id (by omega)]
  have wc : wr IntKind.i64 (iquo (-Y) G) = c0 := by simp only [iquo_eq]; rw [hc0, wr_id (by omega)]
  have wd : wr IntKind.i64 (iquo X G) = d0 := by simp only [iquo_eq]; rw [hd0, wr_id (by omega)]
  have wneg : ∀ z : Int, -100000000 ≤ z ∧ z ≤ 100000000 → wr IntKind.i64 (isub 0 z) = -z := fun z hz => by simp only [isub_eq]; rw [wr_id (by omega)]; omega
  have hpeg : spec_mvPeg L u v c0 d0 0 0 wx wy = some (tx, ty) := by
    rw [spec_mvPeg_eq (by omega) (by omega) (by omega) (by omega) (by omega) (by omega) (by omega) (by omega), Int.add_zero, Int.add_zero, htx, htyd]
  have hcom : spec_pgCommon L X Y = some G := by
    have := spec_pgStep_eq (L := L) (p := pt a 1) (q := pt a 0) n1 n0 (by omega)
    unfold spec_pgStep at this
    simp only [isub_eq, gbind_eq] at this
    rw [hX, hY, wr_id (n := X) (by omega), wr_id (n := Y) (by omega)] at this
    cases hc : spec_pgCommon L X Y with
    | none => rw [hc] at this; cases this
    | some z =>
      rw [hc] at this
      simp only [Option.bind_some, Option.some.injEq] at this
      rw [this, ← hGd]
      unfold step
      congr 1
      rw [show ((pt a 1).x - (pt a 0).x).natAbs = ((pt a 0).x - (pt a 1).x).natAbs by omega, show ((pt a 1).y - (pt a 0).y).natAbs = ((pt a 0).y - (pt a 1).y).natAbs by omega]
  have w40 : wr IntKind.i64 (isub 0 Y) = -Y := wneg Y (by omega)
  have hG0 : decide (G = 0) = false := by simp; omega
  have hfit : fits (a.length : Int) 16 = true := fits_s (by omega)
  have hz0 : lrep 0 (⟨0, 0⟩ : Pt) = [] := by simp [lrep_eq]
  have hle0 : (a.length : Int) < L := by omega
  have wu : ∀ z : Int, -4000 ≤ z ∧ z ≤ 4000 → wr IntKind.i64 (isub 0 z) = -z := fun z hz => wneg z (by omega)
  rcases Int.lt_or_gt_of_ne hty0 with hneg | hpos
  · obtain ⟨b, K, hKe, hb0, hbt, hK, bK⟩ := shear_eq (tx := tx) (ty := -ty) (by omega) (by omega) (by omega)
    obtain ⟨fr, k1, k2⟩ := fin (-c0) (-d0) (-ty) K b (.inr ⟨rfl, rfl, rfl⟩) (by omega) hb0 hbt hK bK
    have wty := wneg ty (by omega)
    have wA : wr IntKind.i64 (iadd u (wr IntKind.i64 (imul K (-c0)))) = u + K * -c0 := by
      simp only [iadd_eq, imul_eq]; rw [wr_id (n := K * -c0) (by omega), wr_id (by omega)]
    have wB : wr IntKind.i64 (iadd v (wr IntKind.i64 (imul K (-d0)))) = v + K * -d0 := by
      simp only [iadd_eq, imul_eq]; rw [wr_id (n := K * -d0) (by omega), wr_id (by omega)]
    have hlt : decide (ty < 0) = true := by simp [hneg]
    have hny : decide (-ty = 0) = false := by simp; omega
    refine ⟨_, _, _, _, _, _, _, ?_, ?_, fr⟩
    · unfold spec_mvFrame
      simp only [l0, l1, l2, gbind_eq, Option.bind_some, wX, wY1, w40, hcom, hb2, wc, wd, wWx, wWy, hpeg, ieq_eq, ilt_eq, hG0, cond_false, hlt, cond_true, wty, hny]
      exact spec_mvFrame_l0_eq (r := G) (r1 := (u, v)) (r2 := (tx, ty)) (A := u + K * -c0) (B := v + K * -d0) (C := -c0) (D := -d0) (K := K) hin n0 hs (by rw [wY, wc]; exact wneg c0 (by omega)) (by rw [wX, wd]; exact wneg d0 (by omega)) (by simp only [wty]; exact hKe) wA wB (by omega) (by omega) (by omega) (by omega) hle0
    · unfold impl_frame
      simp only [l0, l1, l2, gbind_eq, Option.bind_some, less_eq n1 n0, less_eq n2 n0, hX, hY, hWx, hWy, hb1]
      by_cases hgn : gz < 0
      · simp only [hgn, if_true, Prod.mk.injEq] at hspec
        have hgz : -gz = G := by omega
        have w1 : wr IntKind.i64 (isub 0 gz) = G := by rw [wneg gz (by omega), hgz]
        have w2 : wr IntKind.i64 (isub 0 p) = u := by rw [wu p hb5]; exact hspec.1
        have w3 : wr IntKind.i64 (isub 0 q) = v := by rw [wu q hb6]; exact hspec.2
        have w4 : wr IntKind.i64 (isub 0 Y) = -Y := wneg Y (by omega)
        simp only [ilt_eq, hgn, decide_true, cond_true, w1, w2, w3, w4, wc, wd, ieq_eq, hG0, cond_false, impl_bring_eq, hpeg, Option.bind_some, hlt, wty, hny, ilen_mapep, ile_eq, Int.le_refl, show (0 : Int) ≤ a.length by omega, Bool.and_self, hfit, hz0]
        exact impl_frame_l0_eq (A := u + K * -c0) (B := v + K * -d0) (C := -c0) (D := -d0) (K := K) l0 hin n0 hs (by simp only [w1, w4, wc]; exact wneg c0 (by omega)) (by simp only [w1, wd]; exact wneg d0 (by omega)) (by simp only [wty]; exact hKe) (by simp only [w2]; exact wA) (by simp only [w3]; exact wB) (by omega) (by omega) (by omega) (by omega) hle0
      · simp only [hgn, if_false, Prod.mk.injEq] at hspec
        have hgz : gz = G := by omega
        have w4 : wr IntKind.i64 (isub 0 Y) = -Y := wneg Y (by omega)
        obtain ⟨rfl, rfl⟩ := hspec
        subst hgz
        simp only [ilt_eq, hgn, decide_false, w4, wc, wd, ieq_eq, hG0, cond_false, impl_bring_eq, hpeg, Option.bind_some, hlt, cond_true, wty, hny, ilen_mapep, ile_eq, Int.le_refl, show (0 : Int) ≤ a.length by omega, decide_true, Bool.and_self, hfit, hz0]
        exact impl_frame_l2_eq (A := p + K * -c0) (B := q + K * -d0) (C := -c0) (D := -d0) (K := K) l0 hin n0 hs (by simp only [w4, wc]; exact wneg c0 (by omega)) (by simp only [wd]; exact wneg d0 (by omega)) (by simp only [wty]; exact hKe) wA wB (by omega) (by omega) (by omega) (by omega) hle0
  · obtain ⟨b, K, hKe, hb0, hbt, hK, bK⟩ := shear_eq (tx := tx) (ty := ty) (by omega) (by omega) (by omega)
    obtain ⟨fr, k1, k2⟩ := fin c0 d0 ty K b (.inl ⟨rfl, rfl, rfl⟩) (by omega) hb0 hbt hK bK
    have wA : wr IntKind.i64 (iadd u (wr IntKind.i64 (imul K c0))) = u + K * c0 := by
      simp only [iadd_eq, imul_eq]; rw [wr_id (n := K * c0) (by omega), wr_id (by omega)]
    have wB : wr IntKind.i64 (iadd v (wr IntKind.i64 (imul K d0))) = v + K * d0 := by
      simp only [iadd_eq, imul_eq]; rw [wr_id (n := K * d0) (by omega), wr_id (by omega)]
    have hlt : decide (ty < 0) = false := by simp; omega
    have hny : decide (ty = 0) = false := by simp; omega
    refine ⟨_, _, _, _, _, _, _, ?_, ?_, fr⟩
    · unfold spec_mvFrame
      simp only [l0, l1, l2, gbind_eq, Option.bind_some, wX, wY1, w40, hcom, hb2, wc, wd, wWx, wWy, hpeg, ieq_eq, ilt_eq, hG0, cond_false, hlt, hny]
      exact spec_mvFrame_l1_eq (r := G) (r1 := (u, v)) (r2 := (tx, ty)) (A := u + K * c0) (B := v + K * d0) (C := c0) (D := d0) (K := K) hin n0 hs (by rw [wY, wc]) (by rw [wX, wd]) hKe wA wB (by omega) (by omega) (by omega) (by omega) hle0
    · unfold impl_frame
      simp only [l0, l1, l2, gbind_eq, Option.bind_some, less_eq n1 n0, less_eq n2 n0, hX, hY, hWx, hWy, hb1]
      by_cases hgn : gz < 0
      · simp only [hgn, if_true, Prod.mk.injEq] at hspec
        have hgz : -gz = G := by omega
        have w1 : wr IntKind.i64 (isub 0 gz) = G := by rw [wneg gz (by omega), hgz]
        have w2 : wr IntKind.i64 (isub 0 p) = u := by rw [wu p hb5]; exact hspec.1
        have w3 : wr IntKind.i64 (isub 0 q) = v := by rw [wu q hb6]; exact hspec.2
        have w4 : wr IntKind.i64 (isub 0 Y) = -Y := wneg Y (by omega)
        simp only [ilt_eq, hgn, decide_true, cond_true, w1, w2, w3, w4, wc, wd, ieq_eq, hG0, cond_false, impl_bring_eq, hpeg, Option.bind_some, hlt, hny, ilen_mapep, ile_eq, Int.le_refl, show (0 : Int) ≤ a.length by omega, Bool.and_self, hfit, hz0]
        exact impl_frame_l1_eq (A := u + K * c0) (B := v + K * d0) (C := c0) (D := d0) (K := K) l0 hin n0 hs (by simp only [w1, w4, wc]) (by simp only [w1, wd]) hKe (by simp only [w2]; exact wA) (by simp only [w3]; exact wB) (by omega) (by omega) (by omega) (by omega) hle0
      · simp only [hgn, if_false, Prod.mk.injEq] at hspec
        have hgz : gz = G := by omega
        have w4 : wr IntKind.i64 (isub 0 Y) = -Y := wneg Y (by omega)
        obtain ⟨rfl, rfl⟩ := hspec
        subst hgz
        simp only [ilt_eq, hgn, decide_false, w4, wc, wd, ieq_eq, hG0, cond_false, impl_bring_eq, hpeg, Option.bind_some, hlt, cond_true, hny, ilen_mapep, ile_eq, Int.le_refl, show (0 : Int) ≤ a.length by omega, decide_true, Bool.and_self, hfit, hz0]
        exact impl_frame_l3_eq (A := p + K * c0) (B := q + K * d0) (C := c0) (D := d0) (K := K) l0 hin n0 hs (by simp only [w4, wc]) (by simp only [wd]) hKe wA wB (by omega) (by omega) (by omega) (by omega) hle0
end Go.AM

/-! The first one of all frames. -/
namespace Go.AM
set_option linter.unusedVariables false

/-- one list of n points comes before another one -/
def Lx (n : Int) (a b : List Pt) : Prop := ∃ i, 0 ≤ i ∧ i < n ∧ (∀ j, 0 ≤ j → j < i → pt a j = pt b j) ∧ Less (pt a i) (pt b i)

theorem Lx.trans {n : Int} {a b c : List Pt} (h : Lx n a b) (k : Lx n b c) : Lx n a c := by
  obtain ⟨i, i0, i1, i2, i3⟩ := h
  obtain ⟨j, j0, j1, j2, j3⟩ := k
  rcases Int.lt_trichotomy i j with h | rfl | h
  · exact ⟨i, i0, i1, fun q q0 q1 => (i2 q q0 q1).trans (j2 q q0 (by omega)), by rw [← j2 i i0 h]; exact i3⟩
  · exact ⟨i, i0, i1, fun q q0 q1 => (i2 q q0 q1).trans (j2 q q0 q1), i3.trans j3⟩
  · exact ⟨j, j0, j1, fun q q0 q1 => (i2 q q0 (by omega)).trans (j2 q q0 q1), by rw [i2 j j0 h]; exact j3⟩

theorem Lx.irrefl {n : Int} {a : List Pt} : ¬ Lx n a a := fun ⟨i, _, _, _, h⟩ => Less.irrefl _ h

theorem list_ext_pt {a b : List Pt} (hl : a.length = b.length) (h : ∀ i, 0 ≤ i → i < (a.length : Int) → pt a i = pt b i) : a = b := by
  apply List.ext_getElem hl
  intro i h1 h2
  have k := h i (by omega) (by omega)
  have e1 := pt_get (a := a) (i := i) (by omega) (by omega)
  have e2 := pt_get (a := b) (i := i) (by omega) (by omega)
  rw [Int.toNat_natCast] at e1 e2
  have f1 := List.getElem?_eq_getElem h1
  have f2 := List.getElem?_eq_getElem h2
  rw [f1] at e1; rw [f2] at e2
  simp only [Option.some.injEq] at e1 e2
  rw [e1, e2, k]

theorem Lx.eq {n : Int} {a b : List Pt} (ha : (a.length : Int) = n) (hb : (b.length : Int) = n) (h : ¬ Lx n a b) (k : ¬ Lx n b a) : a = b := by
  refine list_ext_pt (by omega) ?_
  have key : ∀ m : Nat, ∀ i : Int, 0 ≤ i → i < m → i < n → pt a i = pt b i := by
    intro m
    induction m with
    | zero => intro i _ h; omega
    | succ m ih =>
      intro i i0 i1 i2
      have hj : ∀ j, 0 ≤ j → j < i → pt a j = pt b j := fun j j0 j1 => ih j j0 (by omega) (by omega)
      exact not_less_eq (fun q => h ⟨i, i0, i2, hj, q⟩) (fun q => k ⟨i, i0, i2, fun j j0 j1 => (hj j j0 j1).symm, q⟩)
  intro i i0 i1
  exact key (i.toNat + 1) i i0 (by omega) (by omega)

theorem spec_mvBefore_l0_eq {L : Nat} {n : Int} {a b : List Pt} (ha : (a.length : Int) = n) (hb : (b.length : Int) = n) (hs : n ≤ 1000000) : ∀ (m : Nat) (v : Int), 0 ≤ v → v ≤ n → n - v < m → (∀ j, 0 ≤ j → j < v → pt a j = pt b j) →
    ∃ t, spec_mvBefore_l0 L a b m v = some t ∧ (t = true ↔ Lx n a b)
  | 0, _, _, _, h, _ => by omega
  | m + 1, v, h0, hv, hm, he => by
    by_cases hvn : v < n
    · have g1 := lget_pt (a := a) h0 (by omega)
      have g2 := lget_pt (a := b) h0 (by omega)
      simp only [spec_mvBefore_l0, ilt_eq, ilen_mapep, ha, hvn, decide_true, cond_true, gbind_eq, g1, g2, Option.bind_some, ieq_eq]
      by_cases hp : pt a v = pt b v
      · rw [pt_eq_iff.2 hp]
        simp only [Bool.not_true, cond_false, iadd_eq]
        rw [wr_id (n := v + 1) (by omega)]
        exact spec_mvBefore_l0_eq ha hb hs m (v + 1) (by omega) (by omega) (by omega) fun j j0 j1 => by
          by_cases hj : j = v
          · subst hj; exact hp
          · exact he j j0 (by omega)
      · have : (decide ((pt a v).x = (pt b v).x) && decide ((pt a v).y = (pt b v).y)) = false := by
          cases hc : (decide ((pt a v).x = (pt b v).x) && decide ((pt a v).y = (pt b v).y)) with
          | false => rfl
          | true => exact absurd (pt_eq_iff.1 hc) hp
        rw [this]
        simp only [Bool.not_false, cond_true, spec_pgLess_eq, Option.bind_some]
        refine ⟨_, rfl, ?_⟩
        rw [decide_eq_true_iff]
        constructor
        · intro h; exact ⟨v, h0, hvn, he, h⟩
        · rintro ⟨i, i0, i1, i2, i3⟩
          rcases Int.lt_trichotomy i v with h | rfl | h
          · rw [he i i0 h] at i3; exact absurd i3 (Less.irrefl _)
          · exact i3
          · exact absurd (i2 v h0 h) hp
    · simp only [spec_mvBefore_l0, ilt_eq, ilen_mapep, ha, hvn, decide_false, cond_false]
      refine ⟨false, rfl, by simp; rintro ⟨i, i0, i1, i2, i3⟩; rw [he i i0 (by omega)] at i3; exact Less.irrefl _ i3⟩

theorem spec_mvBefore_eq {L : Nat} {n : Int} {a b : List Pt} (ha : (a.length : Int) = n) (hb : (b.length : Int) = n) (hs : n ≤ 1000000) (hL : n < L) : ∃ t, spec_mvBefore L a b = some t ∧ (t = true ↔ Lx n a b) := by
  unfold spec_mvBefore
  exact spec_mvBefore_l0_eq ha hb hs L 0 (by omega) (by omega) (by omega) fun j _ _ => by omega

def cmpP (p q : Pt) : Int := if p.x < q.x then -1 else if q.x < p.x then 1 else cmpI p.y q.y

theorem cmpP_lt {p q : Pt} : cmpP p q < 0 ↔ Less p q := by
  unfold cmpP cmpI Less
  split
  · simp; omega
  · split
    · simp; omega
    · split
      · simp; omega
      · split <;> simp <;> omega

theorem cmpP_zero {p q : Pt} : cmpP p q = 0 ↔ p = q := by
  obtain ⟨a, b⟩ := p; obtain ⟨c, d⟩ := q
  unfold cmpP cmpI
  simp only [Pt.mk.injEq]
  split
  · simp; omega
  · split
    · simp; omega
    · split
      · simp; omega
      · split <;> simp <;> omega

theorem impl_comparePegs_eq {L : Nat} {p q : Pt} (hL : 5 < L) : impl_comparePegs L p.x p.y q.x q.y = some (cmpP p q) := by
  unfold impl_comparePegs cmp_Or_int
  simp only [gbind_eq, cmp_eq, Option.bind_some]
  obtain ⟨m, rfl⟩ : ∃ m, L = m + 3 := ⟨L - 3, by omega⟩
  have hl : ilen (List.map eI [cmpI p.x q.x, cmpI p.y q.y]) = 2 := by rw [ilen_eq]; rfl
  have g0 : lget [cmpI p.x q.x, cmpI p.y q.y] 0 = some (cmpI p.x q.x) := by rw [lget_eq]; rfl
  have g1 : lget [cmpI p.x q.x, cmpI p.y q.y] 1 = some (cmpI p.y q.y) := by rw [lget_eq]; rfl
  have w1 : wr .i64 (0 + 1) = 1 := wr_id (by decide)
  have w2 : wr .i64 (1 + 1) = 2 := wr_id (by decide)
  simp only [cmp_Or_int_l0, hl, ilt_eq, gbind_eq, g0, g1, iadd_eq, w1, w2, ieq_eq, Option.bind_some, show ((0 : Int) < 2) = True by simp, show ((1 : Int) < 2) = True by simp, show ((2 : Int) < 2) = False by simp, decide_true, decide_false, cond_true, cond_false]
  unfold cmpP cmpI
  by_cases h1 : p.x < q.x
  · simp [h1]
  · by_cases h2 : q.x < p.x
    · simp [h1, h2]
    · by_cases h3 : p.y < q.y
      · simp [h1, h2, h3]
      · by_cases h4 : q.y < p.y <;> simp [h1, h2, h3, h4]

theorem impl_compareL_l0_eq {L : Nat} {n : Int} {a b : List Pt} (ha : (a.length : Int) = n) (hb : (b.length : Int) = n) (hs : n ≤ 1000000) (hL : 5 < L) : ∀ (m : Nat) (v : Int), 0 ≤ v → v ≤ n → n - v < m → (∀ j, 0 ≤ j → j < v → pt a j = pt b j) →
    ∃ t, slices_CompareFunc_impl_Peg_impl_Peg_impl_Peg_impl_Peg_l0 L a b m v = some t ∧ (t < 0 ↔ Lx n a b)
  | 0, _, _, _, h, _ => by omega
  | m + 1, v, h0, hv, hm, he => by
    by_cases hvn : v < n
    · have g1 := lget_pt (a := a) h0 (by omega)
      have g2 := lget_pt (a := b) h0 (by omega)
      simp only [slices_CompareFunc_impl_Peg_impl_Peg_impl_Peg_impl_Peg_l0, ilt_eq, ile_eq, ilen_mapep, ha, hb, hvn, show ¬ n ≤ v by omega, decide_true, decide_false, cond_true, cond_false, gbind_eq, g1, g2, Option.bind_some, ieq_eq, impl_comparePegs_eq hL]
      by_cases hp : pt a v = pt b v
      · simp only [cmpP_zero.2 hp, decide_true, Bool.not_true, cond_false, iadd_eq]
        rw [wr_id (n := v + 1) (by omega)]
        exact impl_compareL_l0_eq ha hb hs hL m (v + 1) (by omega) (by omega) (by omega) fun j j0 j1 => by
          by_cases hj : j = v
          · subst hj; exact hp
          · exact he j j0 (by omega)
      · have hz : ¬ cmpP (pt a v) (pt b v) = 0 := fun e => hp (cmpP_zero.1 e)
        simp only [hz, decide_false, Bool.not_false, cond_true]
        refine ⟨_, rfl, cmpP_lt.trans ?_⟩
        constructor
        · intro h; exact ⟨v, h0, hvn, he, h⟩
        · rintro ⟨i, i0, i1, i2, i3⟩
          rcases Int.lt_trichotomy i v with h | rfl | h
          · rw [he i i0 h] at i3; exact absurd i3 (Less.irrefl _)
          · exact i3
          · exact absurd (i2 v h0 h) hp
    · simp only [slices_CompareFunc_impl_Peg_impl_Peg_impl_Peg_impl_Peg_l0, ilt_eq, ilen_mapep, ha, hb, hvn, Int.lt_irrefl, decide_false, cond_false]
      refine ⟨0, rfl, by simp; rintro ⟨i, i0, i1, i2, i3⟩; rw [he i i0 (by omega)] at i3; exact Less.irrefl _ i3⟩

theorem impl_comparePolygons_eq {L : Nat} {n : Int} {a b : List Pt} (ha : (a.length : Int) = n) (hb : (b.length : Int) = n) (hs : n ≤ 1000000) (hL : n + 5 < L) : ∃ t, impl_comparePolygons L a b = some t ∧ (t < 0 ↔ Lx n a b) := by
  obtain ⟨t, h1, h2⟩ := impl_compareL_l0_eq ha hb hs (show 5 < L by omega) L 0 (by omega) (by omega) (by omega) fun j _ _ => by omega
  refine ⟨t, ?_, h2⟩
  unfold impl_comparePolygons slices_CompareFunc_impl_Peg_impl_Peg_impl_Peg_impl_Peg
  rw [h1]; simp only [gbind_eq, Option.bind_some]

/-- what a polygon's frames ask for -/
structure Fa (a : List Pt) : Prop where
  lo : 3 ≤ (a.length : Int)
  hi : (a.length : Int) ≤ 1000
  nr : ∀ i, Nr (pt a i)
  turn : ∀ i, turn (pt a i) (pt a (i + 1)) (pt a (i + 2)) ≠ 0

theorem turn_rev (a b c : Pt) : turn c b a = - turn a b c := by unfold turn; grind

theorem Fa.ne {a : List Pt} (h : Fa a) : a ≠ [] := by intro e; subst e; have := h.lo; simp at this

theorem Fa.tour {a : List Pt} (h : Fa a) {k s : Int} (hs : s = 1 ∨ s = -1) : Fa (tour a k s a.length) := by
  have hl := h.lo
  have hpt : ∀ i, pt (AM.tour a k s a.length) i = pt a (k + (i % (a.length : Int)) * s) := fun i => pt_tour h.ne
  refine ⟨by rw [tour_len]; exact h.lo, by rw [tour_len]; exact h.hi, fun i => by rw [hpt]; exact h.nr _, fun i => ?_⟩
  have hm : ∀ i j : Int, pt (AM.tour a k s a.length) (i + j) = pt a (k + (i % (a.length : Int) + j) * s) := fun i j => by
    rw [hpt]
    apply pt_congr
    have e : (i + j) % (a.length : Int) = (i % a.length + j) % a.length := by rw [Int.emod_add_emod]
    rw [e]
    rw [Int.add_emod, Int.mul_emod, Int.emod_emod_of_dvd _ (Int.dvd_refl _), ← Int.mul_emod, ← Int.add_emod]
  have h0 := hm i 0
  rw [Int.add_zero, Int.add_zero] at h0
  rw [h0, hm i 1, hm i 2]
  rcases hs with rfl | rfl
  · have := h.turn (k + (i % (a.length : Int)) * 1)
    rwa [show k + (i % (a.length : Int)) * 1 + 1 = k + (i % (a.length : Int) + 1) * 1 by omega, show k + (i % (a.length : Int)) * 1 + 2 = k + (i % (a.length : Int) + 2) * 1 by omega] at this
  · have := h.turn (k + (i % (a.length : Int) + 2) * -1)
    rw [show k + (i % (a.length : Int) + 2) * -1 + 1 = k + (i % (a.length : Int) + 1) * -1 by omega, show k + (i % (a.length : Int) + 2) * -1 + 2 = k + (i % (a.length : Int)) * -1 by omega, turn_rev] at this
    omega

/-- the frame of a told polygon -/
noncomputable def FR (L : Nat) (a : List Pt) (k s : Int) : List Pt := (spec_mvFrame L (tour a k s a.length)).getD []

theorem FR_eq {L : Nat} {a : List Pt} (h : Fa a) {k s : Int} (hs : s = 1 ∨ s = -1) (hL : 5000 < L) :
    spec_mvFrame L (tour a k s a.length) = some (FR L a k s) ∧ impl_frame L (tour a k s a.length) = some (FR L a k s) ∧ ((FR L a k s).length = a.length) ∧
    ∃ A B C D g b d, FR L a k s = (tour a k s a.length).map (brg A B C D (pt (tour a k s a.length) 0)) ∧ Fr (tour a k s a.length) A B C D g b d := by
  have ht := h.tour (k := k) hs
  obtain ⟨A, B, C, D, g, b, d, h1, h2, h3⟩ := frame_eq (L := L) ht.lo ht.hi ht.nr (by have := ht.turn 0; simpa using this) hL
  have e : FR L a k s = (tour a k s a.length).map (brg A B C D (pt (tour a k s a.length) 0)) := by unfold FR; rw [h1]; rfl
  exact ⟨by rw [h1, e], by rw [h2, e], by rw [e, List.length_map, tour_len], A, B, C, D, g, b, d, e, h3⟩

theorem tour_mod {a : List Pt} {k k' s : Int} (h : k % (a.length : Int) = k' % (a.length : Int)) (n : Nat) : tour a k s n = tour a k' s n :=
  tour_ext fun j _ => pt_congr (by rw [Int.add_emod, h, ← Int.add_emod])

theorem FR_mod {L : Nat} {a : List Pt} {k k' s : Int} (h : k % (a.length : Int) = k' % (a.length : Int)) : FR L a k s = FR L a k' s := by unfold FR; rw [tour_mod h]

theorem tour_id {a : List Pt} (hn : a ≠ []) : tour a 0 1 a.length = a := by
  refine list_ext_pt (tour_len _ _ _ _) fun i h0 h1 => ?_
  rw [pt_tour hn]
  rw [tour_len] at h1
  rw [Int.emod_eq_of_lt h0 h1]
  congr 1; omega

theorem tour_back {a : List Pt} (hn : a ≠ []) (k : Int) : tour (tour a 0 (-1) a.length) k 1 a.length = tour a (-k) (-1) a.length := by
  have hl : 0 < (a.length : Int) := by have := List.length_pos_iff.2 hn; omega
  refine tour_ext fun j hj => ?_
  rw [pt_tour hn]
  apply pt_congr
  rw [Int.zero_add, Int.mul_neg, Int.mul_one, Int.mul_one]
  have h1 := Int.emod_emod_of_dvd (k + (j : Int)) (Int.dvd_refl (a.length : Int))
  have h2 : (-((k + (j : Int)) % a.length)) % (a.length : Int) = (-(k + (j : Int))) % (a.length : Int) := by
    have := Int.mul_ediv_add_emod (k + (j : Int)) a.length
    conv => rhs; rw [← this]
    rw [Int.neg_add, ← Int.mul_neg, Int.mul_add_emod_self_left]
  rw [h2]
  congr 1; omega
end Go.AM

/-! Kinds: both programs tell the same. -/
namespace Go.AM
set_option linter.unusedVariables false

theorem wr_i {v : Int} (h : 0 ≤ v ∧ v ≤ 1000000) : wr IntKind.i64 (v + 1) = v + 1 := wr_id (by omega)

/-- all frames of a list told on -/
noncomputable def frs (L : Nat) (p : List Pt) (n : Nat) : List (List Pt) := (List.range n).map fun (j : Nat) => FR L p (j : Int) 1
theorem frs_succ (L : Nat) (p : List Pt) (n : Nat) : frs L p (n + 1) = frs L p n ++ [FR L p (n : Int) 1] := by simp [frs, List.range_succ]
theorem frs_len (L : Nat) (p : List Pt) (n : Nat) : (frs L p n).length = n := by simp [frs]

theorem mvFrames_l1 {L : Nat} {κ0 : Int → Int → List (List Pt) → List (List Pt) → Option (List (List Pt))} {v11 v12 : Int} {w1 : List (List Pt)} {p : List Pt} {w : List (List Pt)} (hp : Fa p) (hL : 5000 < L) (h12 : 0 ≤ v12 ∧ v12 ≤ 1000) (hw : w.length ≤ 10000) :
    ∀ (m n : Nat), n ≤ p.length → p.length - n < m → spec_mvFrames_l1 L κ0 v11 v12 w1 p m (n : Int) (w ++ frs L p n) = κ0 v11 (v12 + 1) (w ++ frs L p p.length) w1
  | 0, _, _, h => by omega
  | m + 1, n, hn, hm => by
    have hi := hp.hi
    by_cases h : n < p.length
    · have c1 : lcat (lcat [] (lsub p (n : Int) (p.length : Int))) (lsub p 0 (n : Int)) = tour p (n : Int) 1 p.length := by
        rw [← rot_eq (c := p) (k := (n : Int)) (by omega) (by omega)]
        simp only [lcat_eq, lsub_eq, List.nil_append, Int.toNat_natCast]
        rw [List.take_of_length_le (by simp)]
        simp
      have f1 : fits (iadd (ilen ([] : List AV)) (ilen (lsub (List.map ep p) (n : Int) (p.length : Int)))) 16 = true := by
        refine fits_s ?_
        simp only [iadd_eq, ilen_eq, lsub_eq, List.length_take, List.length_drop, List.length_map, List.length_nil]
        omega
      have f2 : fits (iadd (ilen (lcat [] (lsub (List.map ep p) (n : Int) (p.length : Int)))) (ilen (lsub (List.map ep p) 0 (n : Int)))) 16 = true := by
        refine fits_s ?_
        simp only [iadd_eq, ilen_eq, lcat_eq, lsub_eq, List.length_append, List.length_take, List.length_drop, List.length_map, List.length_nil]
        omega
      have f3 : ∀ x : AV, fits (iadd (ilen (List.map eLP (w ++ frs L p n))) (ilen [x])) 24 = true := fun x => by
        refine fits_s ?_
        simp only [iadd_eq, ilen_eq, List.length_map, List.length_append, frs_len, List.length_cons, List.length_nil]
        omega
      obtain ⟨e1, _⟩ := FR_eq (L := L) hp (k := (n : Int)) (.inl rfl) hL
      have b1 : ((n : Int) < (p.length : Int)) = True := by simp; omega
      have b2 : ((0 : Int) ≤ (n : Int)) = True := by simp
      have b3 : ((n : Int) ≤ (p.length : Int)) = True := by simp; omega
      have wv : wr IntKind.i64 (iadd (n : Int) 1) = ((n + 1 : Nat) : Int) := by simp only [iadd_eq]; rw [wr_i (by omega)]; rfl
      simp only [spec_mvFrames_l1, ilt_eq, ile_eq, ilen_mapep, b1, b2, b3, decide_true, Bool.and_self, cond_true, f1, f2, c1, e1, gbind_eq, Option.bind_some, f3, wv]
      have e : lcat (w ++ frs L p n) [FR L p (n : Int) 1] = w ++ frs L p (n + 1) := by rw [lcat_eq, frs_succ, List.append_assoc]
      rw [e]
      exact mvFrames_l1 hp hL h12 hw m (n + 1) (by omega) (by omega)
    · have e : n = p.length := by omega
      subst e
      simp only [spec_mvFrames_l1, ilt_eq, ilen_mapep, Int.lt_irrefl, decide_false, cond_false, iadd_eq, wr_i (v := v12) (by omega)]

theorem mvFrames_eq {L : Nat} {a : List Pt} (ha : Fa a) (hL : 5000 < L) : spec_mvFrames L a = some (frs L a a.length ++ frs L (tour a 0 (-1) a.length) a.length) := by
  have hi := ha.hi
  have hb := ha.tour (k := 0) (s := -1) (.inr rfl)
  unfold spec_mvFrames
  rw [spec_pgBack_eq ha.ne (by omega) (by omega)]
  simp only [gbind_eq, Option.bind_some]
  have h2 : ilen [AV.lst false false 2 (List.map ep a), AV.lst false false 2 (List.map ep (tour a 0 (-1) a.length))] = 2 := by rw [ilen_eq]; rfl
  have h3 : ilen (List.map eLP (a :: tour a 0 (-1) a.length :: [])) = 2 := by rw [ilen_eq]; rfl
  rw [h2]
  obtain ⟨m, rfl⟩ : ∃ m, L = m + 3 := ⟨L - 3, by omega⟩
  have g0 : lget (a :: tour a 0 (-1) a.length :: []) 0 = some a := by rw [lget_eq]; rfl
  have g1 : lget (a :: tour a 0 (-1) a.length :: []) 1 = some (tour a 0 (-1) a.length) := by rw [lget_eq]; rfl
  have q1 := fun κ0 => mvFrames_l1 (κ0 := κ0) (v11 := 2) (v12 := 0) (w1 := a :: tour a 0 (-1) a.length :: []) (w := []) ha hL (by omega) (by simp) (m + 3) 0 (by omega) (by omega)
  have q2 := fun κ0 => mvFrames_l1 (κ0 := κ0) (v11 := 2) (v12 := 1) (w1 := a :: tour a 0 (-1) a.length :: []) (w := frs (m + 3) a a.length) hb hL (by omega) (by rw [frs_len]; omega) (m + 3) 0 (by omega) (by rw [tour_len]; omega)
  have z : ∀ p, frs (m + 3) p 0 = [] := fun p => rfl
  simp only [z, List.append_nil, List.nil_append, tour_len, show ((0 : Nat) : Int) = 0 from rfl] at q1 q2
  simp only [spec_mvFrames_l0, ilt_eq, ile_eq, h3, show ((0 : Int) < 2) = True by simp, show ((1 : Int) < 2) = True by simp, show ((0 : Int) ≤ 0) = True by simp, show ((0 : Int) ≤ 1) = True by simp, decide_true, Bool.and_self, cond_true, gbind_eq, g0, g1, Option.bind_some, q1, q2,
    show ((0 : Int) + 1) = 1 by rfl, show ((1 : Int) + 1) = 2 by rfl, Int.lt_irrefl, decide_false, cond_false]

theorem mvKind_l0 {L : Nat} {n : Int} {r : List (List Pt)} (hn : 0 < n) (hs : n ≤ 10000) (hr : (r.length : Int) ≤ 100000) (hlen : ∀ f ∈ r, (f.length : Int) = n) (hL : n < L) :
    ∀ (m v : Nat) (best : List Pt), v ≤ r.length → r.length - v < m → ((v = 0 ∧ best = []) ∨ (best ∈ r ∧ ∀ j f, j < v → r[j]? = some f → ¬ Lx n f best)) → r ≠ [] →
      ∃ b, spec_mvKind_l0 L r m best (v : Int) = some b ∧ b ∈ r ∧ ∀ f ∈ r, ¬ Lx n f b
  | 0, _, _, _, h, _, _ => by omega
  | m + 1, v, best, hv, hm, hb, hne => by
    have e0 : ilen (List.map eLP r) = (r.length : Int) := by rw [ilen_map, ilen_eq]
    by_cases h : v < r.length
    · have hg : lget r (v : Int) = some r[v] := by rw [lget_eq, if_pos (by omega), Int.toNat_natCast]; exact List.getElem?_eq_getElem h
      have hm0 : r[v] ∈ r := List.getElem_mem h
      have b1 : ((v : Int) < (r.length : Int)) = True := by simp; omega
      have b2 : ((0 : Int) ≤ (v : Int)) = True := by simp
      have wv : wr IntKind.i64 (iadd (v : Int) 1) = ((v + 1 : Nat) : Int) := by simp only [iadd_eq]; rw [wr_i (by omega)]; rfl
      simp only [spec_mvKind_l0, ilt_eq, ile_eq, e0, b1, b2, decide_true, Bool.and_self, cond_true, gbind_eq, hg, Option.bind_some, ieq_eq, ilen_mapep, wv]
      rcases hb with ⟨rfl, rfl⟩ | ⟨hbr, hmin⟩
      · simp only [List.length_nil, show ((0 : Nat) : Int) = 0 from rfl, decide_true, cond_true]
        refine mvKind_l0 hn hs hr hlen hL m (0 + 1) _ (by omega) (by omega) (.inr ⟨hm0, fun j f hj hf => ?_⟩) hne
        have : j = 0 := by omega
        subst this
        rw [List.getElem?_eq_getElem h] at hf
        cases hf
        exact Lx.irrefl
      · have hz : ¬ ((best.length : Int) = 0) := by rw [hlen best hbr]; omega
        obtain ⟨t, t1, t2⟩ := spec_mvBefore_eq (L := L) (hlen _ hm0) (hlen best hbr) (by omega) hL
        simp only [hz, decide_false, cond_false, t1, Option.bind_some]
        cases t with
        | true =>
          have hlt := t2.1 rfl
          simp only [cond_true]
          refine mvKind_l0 hn hs hr hlen hL m (v + 1) _ (by omega) (by omega) (.inr ⟨hm0, fun j f hj hf hx => ?_⟩) hne
          by_cases hjv : j = v
          · subst hjv
            rw [List.getElem?_eq_getElem h] at hf
            cases hf
            exact Lx.irrefl hx
          · exact hmin j f (by omega) hf (hx.trans hlt)
        | false =>
          have hlt : ¬ Lx n r[v] best := fun e => by have := t2.2 e; cases this
          simp only [cond_false]
          refine mvKind_l0 hn hs hr hlen hL m (v + 1) _ (by omega) (by omega) (.inr ⟨hbr, fun j f hj hf hx => ?_⟩) hne
          by_cases hjv : j = v
          · subst hjv
            rw [List.getElem?_eq_getElem h] at hf
            cases hf
            exact hlt hx
          · exact hmin j f (by omega) hf hx
    · have b1 : ((v : Int) < (r.length : Int)) = False := by simp; omega
      simp only [spec_mvKind_l0, ilt_eq, e0, b1, decide_false, cond_false]
      rcases hb with ⟨rfl, rfl⟩ | ⟨hbr, hmin⟩
      · exact absurd (List.length_eq_zero_iff.1 (by omega)) hne
      · refine ⟨best, rfl, hbr, fun f hf => ?_⟩
        obtain ⟨j, hj, e⟩ := List.getElem_of_mem hf
        exact hmin j f (by omega) (by rw [List.getElem?_eq_getElem hj, e])

/-- the least one of all frames -/
def IsKind (L : Nat) (a f : List Pt) : Prop := (∃ k s, (s = 1 ∨ s = -1) ∧ f = FR L a k s) ∧ ∀ k s, (s = 1 ∨ s = -1) → ¬ Lx a.length (FR L a k s) f

theorem FR_back {L : Nat} {a : List Pt} (ha : a ≠ []) (k : Int) : FR L (tour a 0 (-1) a.length) k 1 = FR L a (-k) (-1) := by
  unfold FR
  rw [tour_len, tour_back ha]

theorem mem_frs {L : Nat} {p : List Pt} {n : Nat} {f : List Pt} : f ∈ frs L p n ↔ ∃ j : Nat, j < n ∧ f = FR L p (j : Int) 1 := by
  unfold frs
  simp only [List.mem_map, List.mem_range]
  constructor
  · rintro ⟨j, h1, h2⟩; exact ⟨j, h1, h2.symm⟩
  · rintro ⟨j, h1, h2⟩; exact ⟨j, h1, h2.symm⟩

theorem frames_all {L : Nat} {a f : List Pt} (ha : Fa a) : f ∈ frs L a a.length ++ frs L (tour a 0 (-1) a.length) a.length ↔ ∃ k s, (s = 1 ∨ s = -1) ∧ f = FR L a k s := by
  have hl : 0 < (a.length : Int) := by have := ha.lo; omega
  rw [List.mem_append, mem_frs, mem_frs]
  constructor
  · rintro (⟨j, _, rfl⟩ | ⟨j, _, rfl⟩)
    · exact ⟨j, 1, .inl rfl, rfl⟩
    · exact ⟨-j, -1, .inr rfl, FR_back ha.ne _⟩
  · rintro ⟨k, s, rfl | rfl, rfl⟩
    · left
      have h1 := Int.emod_nonneg k (show (a.length : Int) ≠ 0 by omega)
      have h2 := Int.emod_lt_of_pos k hl
      refine ⟨(k % a.length).toNat, by omega, FR_mod ?_⟩
      rw [Int.toNat_of_nonneg h1, Int.emod_emod_of_dvd _ (Int.dvd_refl _)]
    · right
      have h1 := Int.emod_nonneg (-k) (show (a.length : Int) ≠ 0 by omega)
      have h2 := Int.emod_lt_of_pos (-k) hl
      refine ⟨((-k) % a.length).toNat, by omega, ?_⟩
      rw [FR_back ha.ne]
      refine FR_mod ?_
      rw [Int.toNat_of_nonneg h1]
      have := Int.mul_ediv_add_emod (-k) a.length
      have e : -(-k % (a.length : Int)) = k + a.length * (-k / a.length) := by omega
      rw [e, Int.add_mul_emod_self_left]

theorem mvKind_eq {L : Nat} {a : List Pt} (ha : Fa a) (hL : 5000 < L) : ∃ f, spec_mvKind L a = some f ∧ IsKind L a f := by
  have hi := ha.hi; have lo := ha.lo
  unfold spec_mvKind
  rw [mvFrames_eq ha hL]
  simp only [gbind_eq, Option.bind_some]
  obtain ⟨b, h1, h2, h3⟩ := mvKind_l0 (L := L) (n := (a.length : Int)) (r := frs L a a.length ++ frs L (tour a 0 (-1) a.length) a.length) (by omega) (by omega) (by simp [frs_len]; omega) (fun f hf => by
    obtain ⟨k, s, hs, rfl⟩ := (frames_all ha).1 hf
    exact_mod_cast (FR_eq ha hs hL).2.2.1) (by omega) L 0 [] (by omega) (by simp [frs_len]; omega) (.inl ⟨rfl, rfl⟩) (by
    intro e
    have := congrArg List.length e
    rw [List.length_append, frs_len, frs_len] at this
    simp only [List.length_nil] at this
    omega)
  exact ⟨b, h1, (frames_all ha).1 h2, fun k s hs => h3 _ ((frames_all ha).2 ⟨k, s, hs, rfl⟩)⟩

theorem IsKind.len {L : Nat} {a f : List Pt} (ha : Fa a) (hL : 5000 < L) (h : IsKind L a f) : f.length = a.length := by
  obtain ⟨⟨k, s, hs, rfl⟩, _⟩ := h
  exact (FR_eq ha hs hL).2.2.1

theorem IsKind.eq {L : Nat} {a f g : List Pt} (ha : Fa a) (hL : 5000 < L) (h : IsKind L a f) (k : IsKind L a g) : f = g := by
  refine Lx.eq (n := (a.length : Int)) (by exact_mod_cast h.len ha hL) (by exact_mod_cast k.len ha hL) ?_ ?_
  · obtain ⟨⟨i, s, hs, rfl⟩, _⟩ := h; exact k.2 i s hs
  · obtain ⟨⟨i, s, hs, rfl⟩, _⟩ := k; exact h.2 i s hs

/-- one round of the first frame's search -/
theorem ff_l1 {L : Nat} {κ0 : List Pt → Int → Int → List Pt → Option (List Pt)} {a w : List Pt} {v : Nat} {v11 : Int} (ha : Fa a) (hv : v < a.length) (hL : 5000 < L) (hw : w.length = a.length) :
    ∃ w', impl_firstFrame_l1 L κ0 a v11 (v : Int) L 0 w = κ0 a v11 ((v + 1 : Nat) : Int) w' ∧ (w' = w ∨ ∃ s, (s = 1 ∨ s = -1) ∧ w' = FR L a v s) ∧ (∀ f, ¬ Lx a.length f w → ¬ Lx a.length f w') ∧ ∀ s, (s = 1 ∨ s = -1) → ¬ Lx a.length (FR L a v s) w' := by
  have hi := ha.hi
  obtain ⟨m, hm⟩ : ∃ m, L = m + 3 := ⟨L - 3, by omega⟩
  have h2 : ilen [AV.int IntKind.i64 1, AV.int IntKind.i64 (-1)] = 2 := by rw [ilen_eq]; rfl
  have g0 : lget ((1 : Int) :: (-1 :: [])) 0 = some 1 := by rw [lget_eq]; rfl
  have g1 : lget ((1 : Int) :: (-1 :: [])) 1 = some (-1) := by rw [lget_eq]; rfl
  have t1 := impl_told_eq (L := L) (a := a) (k := (v : Int)) (s := 1) ha.ne (by omega) (by omega) (by omega) (by omega)
  have t2 := impl_told_eq (L := L) (a := a) (k := (v : Int)) (s := -1) ha.ne (by omega) (by omega) (by omega) (by omega)
  obtain ⟨_, f1, l1, _⟩ := FR_eq (L := L) ha (k := (v : Int)) (s := 1) (.inl rfl) hL
  obtain ⟨_, f2, l2, _⟩ := FR_eq (L := L) ha (k := (v : Int)) (s := -1) (.inr rfl) hL
  have step : ∀ (w : List Pt) (x : List Pt), w.length = a.length → x.length = a.length → ∃ c, impl_comparePolygons L x w = some c ∧ (c < 0 ↔ Lx a.length x w) := fun w x hw hx =>
    impl_comparePolygons_eq (by exact_mod_cast hx) (by exact_mod_cast hw) (by omega) (by omega)
  have pick : ∀ (w x : List Pt), w.length = a.length → x.length = a.length → ∃ c w', impl_comparePolygons L x w = some c ∧ ((c < 0 ∧ w' = x) ∨ (¬ c < 0 ∧ w' = w)) ∧ w'.length = a.length ∧ (∀ f, ¬ Lx a.length f w → ¬ Lx a.length f w') ∧ ¬ Lx a.length x w' := fun w x hw hx => by
    obtain ⟨c, c1, c2⟩ := step w x hw hx
    by_cases hc : c < 0
    · exact ⟨c, x, c1, .inl ⟨hc, rfl⟩, hx, fun f hf hfx => hf (hfx.trans (c2.1 hc)), Lx.irrefl⟩
    · exact ⟨c, w, c1, .inr ⟨hc, rfl⟩, hw, fun f hf => hf, fun e => hc (c2.2 e)⟩
  obtain ⟨c1, w1, p1, p2, p3, p4, p5⟩ := pick w _ hw l1
  obtain ⟨c2, w2, q1, q2, q3, q4, q5⟩ := pick w1 _ p3 l2
  refine ⟨w2, ?_, ?_, fun f hf => q4 f (p4 f hf), ?_⟩
  · have wv : wr IntKind.i64 (iadd (v : Int) 1) = ((v + 1 : Nat) : Int) := by simp only [iadd_eq]; rw [wr_i (by omega)]; rfl
    have w01 : wr IntKind.i64 (iadd 0 1) = 1 := by simp only [iadd_eq]; exact wr_id (by omega)
    have w12 : wr IntKind.i64 (iadd 1 1) = 2 := by simp only [iadd_eq]; exact wr_id (by omega)
    have r3 : ∀ m x, impl_firstFrame_l1 L κ0 a v11 (v : Int) (m + 1) 2 x = κ0 a v11 ((v + 1 : Nat) : Int) x := fun m x => by
      rw [impl_firstFrame_l1.eq_2]
      simp only [ilt_eq, h2, Int.lt_irrefl, decide_false, cond_false, wv]
    have r2 : ∀ m, impl_firstFrame_l1 L κ0 a v11 (v : Int) (m + 2) 1 w1 = κ0 a v11 ((v + 1 : Nat) : Int) w2 := fun m => by
      rw [show m + 2 = (m + 1) + 1 from rfl, impl_firstFrame_l1.eq_2]
      simp only [ilt_eq, ile_eq, h2, show ((1 : Int) < 2) = True by simp, show ((0 : Int) ≤ 1) = True by simp, decide_true, Bool.and_self, cond_true, gbind_eq, g1, Option.bind_some, t2, f2, q1, w12]
      rcases q2 with ⟨q2, rfl⟩ | ⟨q2, rfl⟩
      · simp only [q2, decide_true, cond_true]; exact r3 m _
      · simp only [q2, decide_false, cond_false]; exact r3 m _
    have r1 : impl_firstFrame_l1 L κ0 a v11 (v : Int) (m + 3) 0 w = κ0 a v11 ((v + 1 : Nat) : Int) w2 := by
      rw [show m + 3 = (m + 2) + 1 from rfl, impl_firstFrame_l1.eq_2]
      simp only [ilt_eq, ile_eq, h2, show ((0 : Int) < 2) = True by simp, show ((0 : Int) ≤ 0) = True by simp, decide_true, Bool.and_self, cond_true, gbind_eq, g0, Option.bind_some, t1, f1, p1, w01]
      rcases p2 with ⟨p2, rfl⟩ | ⟨p2, rfl⟩
      · simp only [p2, decide_true, cond_true]; exact r2 m
      · simp only [p2, decide_false, cond_false]; exact r2 m
    rw [← r1, ← hm]
  · rcases q2 with ⟨_, rfl⟩ | ⟨_, rfl⟩
    · exact .inr ⟨-1, .inr rfl, rfl⟩
    · rcases p2 with ⟨_, rfl⟩ | ⟨_, rfl⟩
      · exact .inr ⟨1, .inl rfl, rfl⟩
      · exact .inl rfl
  · rintro s (rfl | rfl)
    · exact q4 _ p5
    · exact q5

theorem firstFrame_eq {L : Nat} {a : List Pt} (ha : Fa a) (hL : 5000 < L) : ∃ f, impl_firstFrame L a = some f ∧ IsKind L a f := by
  have hi := ha.hi; have lo := ha.lo
  have f0 : impl_frame L a = some (FR L a 0 1) := by
    have := (FR_eq (L := L) ha (k := 0) (s := 1) (.inl rfl) hL).2.1
    rwa [tour_id ha.ne] at this
  have l0 := (FR_eq (L := L) ha (k := 0) (s := 1) (.inl rfl) hL).2.2.1
  unfold impl_firstFrame
  simp only [gbind_eq, f0, Option.bind_some, ilen_mapep]
  have key : ∀ (m v : Nat) (w : List Pt), v ≤ a.length → a.length - v < m → (∃ k s, (s = 1 ∨ s = -1) ∧ w = FR L a k s) → w.length = a.length → (∀ (j : Nat) s, j < v → (s = 1 ∨ s = -1) → ¬ Lx a.length (FR L a (j : Int) s) w) →
      ∃ f, impl_firstFrame_l0 L m a (a.length : Int) (v : Int) w = some f ∧ (∃ k s, (s = 1 ∨ s = -1) ∧ f = FR L a k s) ∧ ∀ (j : Nat) s, j < a.length → (s = 1 ∨ s = -1) → ¬ Lx a.length (FR L a (j : Int) s) f := by
    intro m
    induction m with
    | zero => intro v w _ h; omega
    | succ m ih =>
      intro v w hv hm hw hwl hmin
      by_cases h : v < a.length
      · have b1 : ((v : Int) < (a.length : Int)) = True := by simp; omega
        obtain ⟨w', e1, e2, e3, e4⟩ := ff_l1 (κ0 := impl_firstFrame_l0 L m) (v11 := (a.length : Int)) ha h hL hwl
        simp only [impl_firstFrame_l0, ilt_eq, b1, decide_true, cond_true, e1]
        have hw' : ∃ k s, (s = 1 ∨ s = -1) ∧ w' = FR L a k s := by
          rcases e2 with rfl | ⟨s, hs, rfl⟩
          · exact hw
          · exact ⟨_, s, hs, rfl⟩
        refine ih (v + 1) w' (by omega) (by omega) hw' ?_ fun j s hj hs => ?_
        · obtain ⟨k, s, hs, rfl⟩ := hw'; exact (FR_eq ha hs hL).2.2.1
        · by_cases hjv : j = v
          · subst hjv; exact e4 s hs
          · exact e3 _ (hmin j s (by omega) hs)
      · have b1 : ((v : Int) < (a.length : Int)) = False := by simp; omega
        simp only [impl_firstFrame_l0, ilt_eq, b1, decide_false, cond_false]
        exact ⟨w, rfl, hw, fun j s hj hs => hmin j s (by omega) hs⟩
  obtain ⟨f, h1, h2, h3⟩ := key L 0 (FR L a 0 1) (by omega) (by omega) ⟨0, 1, .inl rfl, rfl⟩ l0 (fun j s hj => by omega)
  refine ⟨f, h1, h2, fun k s hs => ?_⟩
  have q1 := Int.emod_nonneg k (show (a.length : Int) ≠ 0 by omega)
  have q2 := Int.emod_lt_of_pos k (show 0 < (a.length : Int) by omega)
  have := h3 (k % a.length).toNat s (by omega) hs
  rwa [FR_mod (k' := k) (by rw [Int.toNat_of_nonneg q1, Int.emod_emod_of_dvd _ (Int.dvd_refl _)])] at this

/-- both tell the same kind -/
theorem kind_eq {L : Nat} {a : List Pt} (ha : Fa a) (hL : 5000 < L) : ∃ f, spec_mvKind L a = some f ∧ impl_firstFrame L a = some f ∧ IsKind L a f := by
  obtain ⟨f, h1, h2⟩ := mvKind_eq ha hL
  obtain ⟨g, h3, h4⟩ := firstFrame_eq ha hL
  have := h2.eq ha hL h4
  subst this
  exact ⟨f, h1, h3, h2⟩
end Go.AM

/-! The laws' own functions on lists of numbers; kinds of triangles. -/
namespace Go.AM
open Classical
set_option linter.unusedVariables false

def it (a : List Int) (i : Int) : Int := a.getD i.toNat 0
theorem lget_it {a : List Int} {i : Int} (h0 : 0 ≤ i) (h1 : i < a.length) : lget a i = some (it a i) := by
  have : i.toNat < a.length := by omega
  rw [lget_eq, if_pos h0]; unfold it; simp [this]
theorem ilen_mapI (a : List Int) : ilen (List.map eI a) = (a.length : Int) := by rw [ilen_map, ilen_eq]

theorem eqIntS_l0 {L : Nat} {a : List Int} (hs : (a.length : Int) ≤ 1100000) : ∀ (m : Nat) (v : Int), 0 ≤ v → v ≤ a.length → (a.length : Int) - v < m → laws_eqIntS_l0 L a a m v = some true
  | 0, _, _, _, h => by omega
  | m + 1, v, h0, hv, hm => by
    by_cases h : v < (a.length : Int)
    · simp only [laws_eqIntS_l0, ilt_eq, ilen_mapI, h, decide_true, cond_true, gbind_eq, lget_it h0 h, Option.bind_some, ieq_eq, Bool.not_true, cond_false, iadd_eq, wr_id (n := v + 1) (by omega)]
      exact eqIntS_l0 hs m (v + 1) (by omega) (by omega) (by omega)
    · simp only [laws_eqIntS_l0, ilt_eq, ilen_mapI, h, decide_false, cond_false]

theorem eqIntS_eq {L : Nat} {a : List Int} (hs : (a.length : Int) ≤ 1100000) (hL : (a.length : Int) < L) : laws_eqIntS L a a = some true := by
  unfold laws_eqIntS
  simp only [ieq_eq, decide_true, Bool.not_true, cond_false]
  exact eqIntS_l0 hs L 0 (Int.le_refl _) (by omega) (by omega)

def mki (n : Nat) : List Int := (List.range n).map fun (j : Nat) => 1 + (j : Int)
theorem mki_len (n : Nat) : (mki n).length = n := by simp [mki]
theorem mki_succ (n : Nat) : mki (n + 1) = mki n ++ [1 + (n : Int)] := by simp [mki, List.range_succ]

theorem set_midI {pre rest : List Int} {i : Nat} {p x : Int} (h : pre.length = i) : (pre ++ p :: rest).set i x = pre ++ x :: rest := by
  subst h; simp

theorem markI_l0 {L : Nat} {a : List Int} (hs : (a.length : Int) ≤ 1100000) : ∀ (m i : Nat), i ≤ a.length → (a.length : Int) - i < m → laws_markIntS_l0 L m (1 + (i : Int)) i (mki i ++ a.drop i) = some (1 + (a.length : Int), mki a.length)
  | 0, _, _, h => by omega
  | m + 1, i, hi, hm => by
    have hl : ((mki i ++ a.drop i).length : Int) = a.length := by simp [mki_len]; omega
    by_cases h : i < a.length
    · obtain ⟨p, hp⟩ : ∃ p, a.drop i = p :: a.drop (i + 1) := ⟨a[i], List.drop_eq_getElem_cons h⟩
      have g1 : lget (mki i ++ p :: a.drop (i + 1)) (i : Int) = some p := by
        rw [lget_eq, if_pos (by omega), Int.toNat_natCast, List.getElem?_append_right (by rw [mki_len]; omega), mki_len]; simp
      have s1 : ∀ x, lset (mki i ++ p :: a.drop (i + 1)) (i : Int) x = mki i ++ x :: a.drop (i + 1) := fun x => by
        rw [lset_eq, Int.toNat_natCast, set_midI (mki_len i)]
      rw [hp] at hl
      have hlt : (i : Int) < (a.length : Int) := by omega
      rw [hp]
      simp only [laws_markIntS_l0, ilt_eq, ile_eq, ilen_mapI, hl, hlt, show 0 ≤ (i : Int) by omega, decide_true, Bool.and_self, cond_true, gbind_eq, g1, s1, Option.bind_some, iadd_eq, wr_id (n := 1 + (i : Int) + 1) (by omega), wr_id (n := (i : Int) + 1) (by omega)]
      have e : mki i ++ (1 + (i : Int)) :: a.drop (i + 1) = mki (i + 1) ++ a.drop (i + 1) := by
        rw [mki_succ, List.append_assoc]
        simp
      rw [e]
      have := markI_l0 (L := L) hs m (i + 1) (by omega) (by omega)
      rw [show (1 + (i : Int) + 1) = 1 + ((i + 1 : Nat) : Int) by omega]
      exact this
    · have e : i = a.length := by omega
      subst e
      simp only [laws_markIntS_l0, ilt_eq, ilen_mapI, hl, Int.lt_irrefl, decide_false, cond_false]
      simp

theorem markI_eq {L : Nat} {a : List Int} (hs : (a.length : Int) ≤ 1100000) (hL : (a.length : Int) < L) : laws_markIntS L a 1 = some (1 + (a.length : Int), mki a.length) := by
  have := markI_l0 (L := L) hs L 0 (by omega) (by omega)
  simpa [mki, laws_markIntS] using this

theorem heldI_l0 {L : Nat} {n : Nat} (hs : (n : Int) ≤ 1100000) : ∀ (m i : Nat), i ≤ n → (n : Int) - i < m → laws_heldIntS_l0 L (mki n) m (1 + (i : Int)) i = some (1 + (n : Int))
  | 0, _, _, h => by omega
  | m + 1, i, hi, hm => by
    by_cases h : (i : Int) < (n : Int)
    · have g1 : lget (mki n) (i : Int) = some (1 + (i : Int)) := by
        have hin : i < n := by omega
        rw [lget_eq, if_pos (by omega), Int.toNat_natCast]; simp [mki, hin]
      simp only [laws_heldIntS_l0, ilt_eq, ieq_eq, ilen_mapI, mki_len, h, g1, decide_true, Bool.not_true, cond_true, cond_false, gbind_eq, Option.bind_some, iadd_eq, wr_id (n := 1 + (i : Int) + 1) (by omega), wr_id (n := (i : Int) + 1) (by omega)]
      have := heldI_l0 (L := L) hs m (i + 1) (by omega) (by omega)
      rw [show (1 + (i : Int) + 1) = 1 + ((i + 1 : Nat) : Int) by omega]
      exact this
    · have e : i = n := by omega
      subst e
      simp only [laws_heldIntS_l0, ilt_eq, ilen_mapI, mki_len, h, decide_false, cond_false]

theorem heldI_eq {L n : Nat} (hs : (n : Int) ≤ 1100000) (hL : (n : Int) < L) : laws_heldIntS L (mki n) 1 = some (1 + (n : Int)) := by
  have := heldI_l0 (L := L) hs L 0 (by omega) (by omega)
  simpa [laws_heldIntS] using this

theorem toIntS_l0 {L : Nat} {a : List Int} (hs : (a.length : Int) ≤ 1100000) : ∀ (m i : Nat) (w : List Int), i ≤ a.length → w.length = a.length → (a.length : Int) - i < m → w.take i = a.take i → laws_toIntS_l0 L a m i w = some a
  | 0, _, _, _, _, h, _ => by omega
  | m + 1, i, w, hi, hw, hm, ht => by
    by_cases h : (i : Int) < (a.length : Int)
    · have hwl : (w.length : Int) = a.length := by omega
      have gw := lget_it (a := w) (i := (i : Int)) (by omega) (by omega)
      simp only [laws_toIntS_l0, ilt_eq, ile_eq, ilen_mapI, hwl, h, show 0 ≤ (i : Int) by omega, decide_true, Bool.and_self, cond_true, gbind_eq, lget_it (show 0 ≤ (i : Int) by omega) h, gw, Option.bind_some, iadd_eq, wr_id (n := (i : Int) + 1) (by omega)]
      refine toIntS_l0 hs m (i + 1) _ (by omega) (by rw [lset_eq]; simp [hw]) (by omega) ?_
      have hp := lget_it (a := a) (i := (i : Int)) (by omega) h
      rw [lget_eq, if_pos (by omega), Int.toNat_natCast] at hp
      rw [lset_eq, Int.toNat_natCast, List.take_add_one, List.take_add_one, List.take_set_of_le (by omega), ht, hp, List.getElem?_set, if_pos rfl, if_pos (by omega)]
    · have e : i = a.length := by omega
      subst e
      simp only [laws_toIntS_l0, ilt_eq, ilen_mapI, h, decide_false, cond_false]
      rw [List.take_of_length_le (by omega), List.take_of_length_le (by omega)] at ht
      rw [ht]

theorem toIntS_eq {L : Nat} {a : List Int} (hs : (a.length : Int) ≤ 1100000) (hL : (a.length : Int) < L) : laws_toIntS L a = some a := by
  unfold laws_toIntS
  simp only [ile_eq, ilen_mapI, Int.le_refl, show 0 ≤ (a.length : Int) by omega, decide_true, Bool.and_self, fits_s (n := (a.length : Int)) (b := 8) (by omega), cond_true]
  exact toIntS_l0 (L := L) hs L 0 _ (by omega) (by rw [lrep_eq]; simp) (by omega) (by simp)

theorem Good_.fa {a : List Pt} (h : Good_ a) : Fa a := by
  have lo := h.lo; have hi := h.hi
  have hne : a ≠ [] := by intro e; subst e; simp at lo
  refine ⟨lo, by omega, fun i => (in_all h.isIn hne i).nr, fun i => ?_⟩
  have q1 := Int.emod_nonneg i (show (a.length : Int) ≠ 0 by omega)
  have q2 := Int.emod_lt_of_pos i (show 0 < (a.length : Int) by omega)
  have := h.turn (i % a.length) q1 q2
  have e : ∀ j : Int, pt a (i % a.length + j) = pt a (i + j) := fun j => pt_congr (by rw [Int.emod_add_emod])
  have e0 : pt a (i % a.length) = pt a i := pt_mod a i
  rwa [e, e, e0] at this

theorem three_eq {L : Nat} {a : List Pt} (hL : 20 < L) : spec_mvThree L a = some (decide ((a.length : Int) = 3 ∧ Good_ a)) ∧ impl_isThree L a = some (decide ((a.length : Int) = 3 ∧ Good_ a)) := by
  unfold spec_mvThree impl_isThree
  simp only [ieq_eq, ilen_mapep]
  by_cases h : (a.length : Int) = 3
  · simp only [h, decide_true, cond_true, spec_pgGood_eq hL, impl_IsPolygon_eq hL, gbind_eq, Option.bind_some, true_and, and_self]
  · simp only [h, decide_false, cond_false, false_and, and_self]

theorem list3 {f : List Pt} (h : (f.length : Int) = 3) : lget f 1 = some (pt f 1) ∧ lget f 2 = some (pt f 2) ∧ ilen (List.map ep f) = 3 := by
  exact ⟨lget_pt (by omega) (by omega), lget_pt (by omega) (by omega), by rw [ilen_mapep, h]⟩

/-- both tell the same three numbers -/
theorem mvList_eq {L : Nat} {a : List Pt} (h3 : (a.length : Int) = 3) (hg : Good_ a) (hL : 5000 < L) : ∃ x y z, spec_mvList L a = some [x, y, z] ∧ impl_kindOf L a = some [x, y, z] ∧ 0 < x ∧ 0 ≤ y ∧ 0 < z := by
  have ha := hg.fa
  obtain ⟨f, h1, h2, h4⟩ := kind_eq (L := L) ha hL
  have hl := h4.len ha hL
  obtain ⟨l1, l2, l4⟩ := list3 (f := f) (by omega)
  refine ⟨(pt f 1).x, (pt f 2).x, (pt f 2).y, ?_, ?_, ?_⟩
  · unfold spec_mvList
    simp only [h1, l1, l2, gbind_eq, Option.bind_some]
  · unfold impl_kindOf
    simp only [h2, l1, l2, l4, gbind_eq, Option.bind_some, ile_eq, ilt_eq, show ((0 : Int) ≤ 1) = True by simp, show ((0 : Int) ≤ 2) = True by simp, show ((1 : Int) < 3) = True by simp, show ((2 : Int) < 3) = True by simp, decide_true, Bool.and_self, cond_true]
  · obtain ⟨⟨k, s, hs, rfl⟩, _⟩ := h4
    obtain ⟨_, _, hfl, A, B, C, D, g, b, d, e, fr⟩ := FR_eq (L := L) ha (k := k) hs hL
    have ht := ha.tour (k := k) hs
    have hm : ∀ i : Int, 0 ≤ i → i < (a.length : Int) → pt (FR L a k s) i = brg A B C D (pt (tour a k s a.length) 0) (pt (tour a k s a.length) i) := fun i i0 i1 => by
      have h1 := pt_get (a := FR L a k s) (i := i) i0 (by omega)
      have h2 := pt_get (a := tour a k s a.length) (i := i) i0 (by rw [tour_len]; omega)
      rw [e, List.getElem?_map, h2] at h1
      simp only [Option.map_some, Option.some.injEq] at h1
      rw [← e] at h1
      exact h1.symm
    rw [hm 1 (by omega) (by omega), hm 2 (by omega) (by omega), fr.e1, fr.e2]
    have := fr.g0; have := fr.b0; have := fr.bd
    simp only
    omega

theorem kindOf_eq {L : Nat} {a : List Pt} (hL : 5000 < L) : ∃ r, spec_KindOfTriangle L a = some r ∧ impl_KindOfTriangle L a = some r ∧ (r.1.length : Int) ≤ 3 := by
  obtain ⟨t1, t2⟩ := three_eq (L := L) (a := a) (by omega)
  unfold spec_KindOfTriangle impl_KindOfTriangle
  simp only [t1, t2, gbind_eq, Option.bind_some]
  by_cases h : (a.length : Int) = 3 ∧ Good_ a
  · obtain ⟨x, y, z, h1, h2, _⟩ := mvList_eq (L := L) h.1 h.2 hL
    simp only [h, and_self, decide_true, Bool.not_true, cond_false, h1, h2, Option.bind_some]
    exact ⟨_, rfl, rfl, by simp⟩
  · simp only [h, decide_false, Bool.not_false, cond_true]
    exact ⟨_, rfl, rfl, by simp⟩

theorem kindOf_law (a : List Pt) (hmax : (a.length : Int) ≤ 9223372036854775807) : ∃ L, laws_FnExactKindOfTriangle L a = some true := by
  refine ⟨2000000, ?_⟩
  unfold laws_FnExactKindOfTriangle laws_szPegS
  simp only [ilen_mapep, isub_eq, ilt_eq]
  by_cases hl : (a.length : Int) ≤ 1048576
  · rw [wr_id (by omega)]
    have h1 : ¬ (1048576 - (a.length : Int) < 0) := by omega
    obtain ⟨r, r1, r2, r3⟩ := kindOf_eq (L := 2000000) (a := a) (by omega)
    simp only [h1, decide_false, cond_false, gbind_eq, Option.bind_some, toPegS_eq (L := 2000000) (a := a) (by omega) (by omega), r1, r2, eqIntS_eq (L := 2000000) (a := r.1) (by omega) (by omega), eqPegS_eq (L := 2000000) (a := a) (by omega) (by omega),
      mark_eq (L := 2000000) (a := a) (by omega) (by omega), markI_eq (L := 2000000) (a := r.1) (by omega) (by omega), heldI_eq (L := 2000000) (n := r.1.length) (by omega) (by omega), beqb_eq, beq_self_eq_true, Bool.not_true, ieq_eq, decide_true,
      show ¬ (1 + 2 * (a.length : Int) < 0) by omega, show ¬ (1 + (r.1.length : Int) < 0) by omega]
  · have hw : wr .i64 (1048576 - (a.length : Int)) < 0 := by
      rw [wr_id (by omega)]; omega
    simp only [hw, decide_true, cond_true, gbind_eq, Option.bind_some]
    rfl

theorem same_l0 {L : Nat} {a b : List Int} (hab : a.length = b.length) (hs : (a.length : Int) ≤ 1000000) : ∀ (m : Nat) (v : Int), 0 ≤ v → v ≤ a.length → (a.length : Int) - v < m → slices_Equal_int_int_l0 L a b m v = spec_l1Same_l0 L a b m v ∧ ∃ t, spec_l1Same_l0 L a b m v = some t ∧ (t = true → ∀ i, v ≤ i → i < (a.length : Int) → it a i = it b i)
  | 0, _, _, _, h => by omega
  | m + 1, v, h0, hv, hm => by
    by_cases h : v < (a.length : Int)
    · obtain ⟨q1, t, q2, q3⟩ := same_l0 (L := L) hab hs m (v + 1) (by omega) (by omega) (by omega)
      have hb : v < (b.length : Int) := by omega
      simp only [slices_Equal_int_int_l0, spec_l1Same_l0, ilt_eq, ilen_mapI, h, decide_true, cond_true, gbind_eq, lget_it h0 h, lget_it h0 hb, Option.bind_some, ieq_eq, iadd_eq, wr_id (n := v + 1) (by omega)]
      by_cases e : it a v = it b v
      · simp only [e, decide_true, Bool.not_true, cond_false]
        refine ⟨q1, t, q2, fun ht i i0 i1 => ?_⟩
        by_cases hi : i = v
        · subst hi; exact e
        · exact q3 ht i (by omega) i1
      · simp only [e, decide_false, Bool.not_false, cond_true]
        exact ⟨trivial, false, rfl, fun h => by cases h⟩
    · simp only [slices_Equal_int_int_l0, spec_l1Same_l0, ilt_eq, ilen_mapI, h, decide_false, cond_false]
      exact ⟨trivial, true, rfl, fun _ i i0 i1 => by omega⟩

theorem same_eq {L : Nat} {a b : List Int} (hab : a.length = b.length) (hs : (a.length : Int) ≤ 1000000) (hL : (a.length : Int) < L) : slices_Equal_int_int L a b = spec_l1Same L a b ∧ ∃ t, spec_l1Same L a b = some t ∧ (t = true → ∀ i, 0 ≤ i → i < (a.length : Int) → it a i = it b i) := by
  unfold slices_Equal_int_int spec_l1Same
  simp only [ieq_eq, ilen_mapI, show ((a.length : Int) = (b.length : Int)) by omega, decide_true, Bool.not_true, cond_false]
  have := same_l0 (L := L) hab hs L 0 (by omega) (by omega) (by omega)
  rwa [show (a.length : Int) = b.length by omega] at this

theorem all_eq {L : Nat} {a : List Int} {lo hi : Int} (hs : (a.length : Int) ≤ 1000000) : ∀ (m : Nat) (v : Int), 0 ≤ v → v ≤ a.length → (a.length : Int) - v < m → ∃ t, spec_l1All_l0 L a lo hi m v = some t ∧ (t = true ↔ ∀ i, v ≤ i → i < (a.length : Int) → lo ≤ it a i ∧ it a i ≤ hi)
  | 0, _, _, _, h => by omega
  | m + 1, v, h0, hv, hm => by
    by_cases h : v < (a.length : Int)
    · simp only [spec_l1All_l0, ilt_eq, ilen_mapI, h, decide_true, cond_true, gbind_eq, lget_it h0 h, Option.bind_some, spec_l1In_eq, iadd_eq, wr_id (n := v + 1) (by omega)]
      by_cases e : lo ≤ it a v ∧ it a v ≤ hi
      · obtain ⟨t, q1, q2⟩ := all_eq (L := L) (lo := lo) (hi := hi) hs m (v + 1) (by omega) (by omega) (by omega)
        simp only [e, and_self, decide_true, Bool.not_true, cond_false]
        refine ⟨t, q1, q2.trans ⟨fun hh i i0 i1 => ?_, fun hh i i0 i1 => hh i (by omega) i1⟩⟩
        by_cases hi : i = v
        · subst hi; exact e
        · exact hh i (by omega) i1
      · simp only [e, decide_false, Bool.not_false, cond_true]
        exact ⟨false, rfl, by simp; exact ⟨v, Int.le_refl _, h, fun h1 => by omega⟩⟩
    · simp only [spec_l1All_l0, ilt_eq, ilen_mapI, h, decide_false, cond_false]
      exact ⟨true, rfl, by simp; intro i i0 i1; omega⟩

theorem triangleOf_eq {L : Nat} {a : List Int} (hL : 5000 < L) : ∃ r, spec_TriangleOfKind L a = some r ∧ impl_TriangleOfKind L a = some r ∧ (r.1.length : Int) ≤ 3 := by
  unfold spec_TriangleOfKind impl_TriangleOfKind
  simp only [ieq_eq, ilen_mapI]
  by_cases h3 : (a.length : Int) = 3
  · have g0 := lget_it (a := a) (i := 0) (by omega) (by omega)
    have g1 := lget_it (a := a) (i := 1) (by omega) (by omega)
    have g2 := lget_it (a := a) (i := 2) (by omega) (by omega)
    simp only [h3, decide_true, Bool.not_true, cond_false, gbind_eq, g0, g1, g2, Option.bind_some, spec_mvMade, impl_triangle]
    obtain ⟨t1, t2⟩ := three_eq (L := L) (a := [⟨0, 0⟩, ⟨it a 0, 0⟩, ⟨it a 1, it a 2⟩]) (by omega)
    obtain ⟨t, k1, k2⟩ := all_eq (L := L) (a := a) (lo := 0) (hi := 40) (by omega) L 0 (by omega) (by omega) (by omega)
    unfold spec_l1All
    simp only [k1, t1, t2, Option.bind_some]
    by_cases hg : (([⟨0, 0⟩, ⟨it a 0, 0⟩, ⟨it a 1, it a 2⟩] : List Pt).length : Int) = 3 ∧ Good_ [⟨0, 0⟩, ⟨it a 0, 0⟩, ⟨it a 1, it a 2⟩]
    · obtain ⟨x, y, z, m1, m2, x0, y0, z0⟩ := mvList_eq (L := L) hg.1 hg.2 hL
      obtain ⟨s1, b, s2, s3⟩ := same_eq (L := L) (a := [x, y, z]) (b := a) (by simp; omega) (by simp) (by simp; omega)
      simp only [hg, and_self, decide_true, Bool.not_true, cond_false, m1, m2, s1, s2, Option.bind_some]
      cases t with
      | true =>
        simp only [Bool.not_true, cond_false]
        cases b with
        | true => exact ⟨_, rfl, rfl, by simp⟩
        | false => exact ⟨_, rfl, rfl, by simp⟩
      | false =>
        cases b with
        | false => exact ⟨_, rfl, rfl, by simp⟩
        | true =>
          exfalso
          have e0 := s3 rfl 0 (by omega) (by simp)
          have e1 := s3 rfl 1 (by omega) (by simp)
          have e2 := s3 rfl 2 (by omega) (by simp)
          have i1 := hg.2.isIn 1 (by omega) (by simp)
          have i2 := hg.2.isIn 2 (by omega) (by simp)
          have : (false = true) := k2.2 fun i i0 i1' => by
            have hi : i = 0 ∨ i = 1 ∨ i = 2 := by omega
            have e0' : x = it a 0 := e0
            have e1' : y = it a 1 := e1
            have e2' : z = it a 2 := e2
            have i1'' : In ⟨it a 0, 0⟩ := i1
            have i2'' : In ⟨it a 1, it a 2⟩ := i2
            unfold In at i1'' i2''
            simp only at i1'' i2''
            rcases hi with rfl | rfl | rfl <;> omega
          cases this
    · simp only [hg, decide_false, Bool.not_false, cond_true]
      cases t with
      | true => exact ⟨_, rfl, rfl, by simp⟩
      | false => exact ⟨_, rfl, rfl, by simp⟩
  · simp only [h3, decide_false, Bool.not_false, cond_true]
    exact ⟨_, rfl, rfl, by simp⟩

theorem triangleOf_law (a : List Int) : ∃ L, laws_FnExactTriangleOfKind L a = some true := by
  refine ⟨2000000, ?_⟩
  unfold laws_FnExactTriangleOfKind
  simp only [ilen_mapI, ilt_eq]
  by_cases hl : (1048576 : Int) < a.length
  · simp only [hl, decide_true, cond_true]
  · obtain ⟨r, r1, r2, r3⟩ := triangleOf_eq (L := 2000000) (a := a) (by omega)
    simp only [hl, decide_false, cond_false, gbind_eq, Option.bind_some, toIntS_eq (L := 2000000) (a := a) (by omega) (by omega), r1, r2, eqPegS_eq (L := 2000000) (a := r.1) (by omega) (by omega), eqIntS_eq (L := 2000000) (a := a) (by omega) (by omega),
      markI_eq (L := 2000000) (a := a) (by omega) (by omega), mark_eq (L := 2000000) (a := r.1) (by omega) (by omega), held_eq (L := 2000000) (n := r.1.length) (by omega) (by omega), beqb_eq, beq_self_eq_true, Bool.not_true, ieq_eq, decide_true,
      show ¬ (1 + (a.length : Int) < 0) by omega, show ¬ (1 + 2 * (r.1.length : Int) < 0) by omega]
end Go.AM

