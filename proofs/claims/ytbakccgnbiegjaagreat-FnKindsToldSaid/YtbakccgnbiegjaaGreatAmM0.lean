import Derived.Test.YtbakccgnbiegjaaGreatAmP1
set_option linter.unusedVariables false
set_option linter.unusedSimpArgs false
set_option linter.unnecessarySimpa false
set_option linter.deprecated false
set_option linter.unusedSectionVars false
namespace Go.AM
theorem wr_id {n : Int} (h : -9223372036854775808 ≤ n ∧ n ≤ 9223372036854775807) : wr .i64 n = n := by
  rw [wr_eq]
  simp only [IntKind.wrap, IntKind.signed, IntKind.bits]
  simp
  omega
theorem mul_bd {x y A B : Int} (hx : -A ≤ x ∧ x ≤ A) (hy : -B ≤ y ∧ y ≤ B) : -(A * B) ≤ x * y ∧ x * y ≤ A * B := by
  have h : (x * y).natAbs ≤ (A * B).natAbs := by
    rw [Int.natAbs_mul, Int.natAbs_mul]
    exact Nat.mul_le_mul (by omega) (by omega)
  have hp : 0 ≤ A * B := Int.mul_nonneg (by omega) (by omega)
  omega
theorem mul_le0 {x y : Int} : x * y ≤ 0 ↔ (x ≤ 0 ∧ 0 ≤ y) ∨ (0 ≤ x ∧ y ≤ 0) := by
  constructor
  · intro h
    rcases Int.lt_trichotomy x 0 with hx | hx | hx
    · rcases Int.lt_trichotomy y 0 with hy | hy | hy
      · have := Int.mul_pos_of_neg_of_neg hx hy; omega
      · omega
      · omega
    · omega
    · rcases Int.lt_trichotomy y 0 with hy | hy | hy
      · omega
      · omega
      · have := Int.mul_pos hx hy; omega
  · rintro (⟨h1, h2⟩ | ⟨h1, h2⟩)
    · exact Int.mul_nonpos_of_nonpos_of_nonneg h1 h2
    · exact Int.mul_nonpos_of_nonneg_of_nonpos h1 h2
def turn (a b c : Pt) : Int := (b.x - a.x) * (c.y - a.y) - (b.y - a.y) * (c.x - a.x)
def Nr (p : Pt) : Prop := (-1000 ≤ p.x ∧ p.x ≤ 1000) ∧ (-1000 ≤ p.y ∧ p.y ≤ 1000)
def In (p : Pt) : Prop := (-40 ≤ p.x ∧ p.x ≤ 40) ∧ (-40 ≤ p.y ∧ p.y ≤ 40)
theorem In.nr {p : Pt} (h : In p) : Nr p := by unfold In at h; unfold Nr; omega
theorem sub_bd {p q : Pt} (hp : Nr p) (hq : Nr q) : (-2000 ≤ p.x - q.x ∧ p.x - q.x ≤ 2000) ∧ (-2000 ≤ p.y - q.y ∧ p.y - q.y ≤ 2000) := by
  unfold Nr at hp hq; omega
theorem spec_pgTurn_eq {L : Nat} {a b c : Pt} (ha : Nr a) (hb : Nr b) (hc : Nr c) : spec_pgTurn L a.x a.y b.x b.y c.x c.y = some (turn a b c) := by
  have h1 := sub_bd hb ha
  have h2 := sub_bd hc ha
  have h3 := mul_bd h1.1 h2.2
  have h4 := mul_bd h1.2 h2.1
  unfold spec_pgTurn turn
  simp only [isub_eq, imul_eq]
  rw [wr_id (n := b.x - a.x) (by omega), wr_id (n := c.y - a.y) (by omega), wr_id (n := b.y - a.y) (by omega), wr_id (n := c.x - a.x) (by omega), wr_id (n := (b.x - a.x) * (c.y - a.y)) (by omega), wr_id (n := (b.y - a.y) * (c.x - a.x)) (by omega), wr_id (by omega)]
theorem impl_turn_eq {L : Nat} {a b c : Pt} (ha : Nr a) (hb : Nr b) (hc : Nr c) : impl_turn L a.x a.y b.x b.y c.x c.y = some (turn a b c) := by
  have h1 := sub_bd hb ha
  have h2 := sub_bd hc ha
  have h3 := mul_bd h1.1 h2.2
  have h4 := mul_bd h1.2 h2.1
  unfold impl_turn impl_Peg_less impl_cross turn
  simp only [gbind_eq, Option.bind_some, isub_eq, imul_eq]
  rw [wr_id (n := b.x - a.x) (by omega), wr_id (n := c.y - a.y) (by omega), wr_id (n := b.y - a.y) (by omega), wr_id (n := c.x - a.x) (by omega), wr_id (n := (b.x - a.x) * (c.y - a.y)) (by omega), wr_id (n := (b.y - a.y) * (c.x - a.x)) (by omega), wr_id (by omega)]
def OnL (a b p : Pt) : Prop := turn a b p = 0 ∧ (a.x - p.x) * (b.x - p.x) ≤ 0 ∧ (a.y - p.y) * (b.y - p.y) ≤ 0
instance (a b p : Pt) : Decidable (OnL a b p) := by unfold OnL; infer_instance
theorem spec_pgOn_eq {L : Nat} {a b p : Pt} (ha : Nr a) (hb : Nr b) (hp : Nr p) : spec_pgOn L a.x a.y b.x b.y p.x p.y = some (decide (OnL a b p)) := by
  have h1 := sub_bd ha hp
  have h2 := sub_bd hb hp
  have h3 := mul_bd h1.1 h2.1
  have h4 := mul_bd h1.2 h2.2
  unfold spec_pgOn
  rw [spec_pgTurn_eq ha hb hp]
  simp only [gbind_eq, Option.bind_some, isub_eq, imul_eq, ieq_eq, ile_eq]
  rw [wr_id (n := a.x - p.x) (by omega), wr_id (n := b.x - p.x) (by omega), wr_id (n := a.y - p.y) (by omega), wr_id (n := b.y - p.y) (by omega), wr_id (n := (a.x - p.x) * (b.x - p.x)) (by omega), wr_id (n := (a.y - p.y) * (b.y - p.y)) (by omega)]
  unfold OnL
  by_cases k1 : turn a b p = 0 <;> by_cases k2 : (a.x - p.x) * (b.x - p.x) ≤ 0 <;> simp [k1, k2]
theorem mid_iff {a b p : Int} : (a - p) * (b - p) ≤ 0 ↔ (if b < a then b else a) ≤ p ∧ p ≤ (if b > a then b else a) := by
  rw [mul_le0]
  split <;> split <;> omega
theorem impl_isOn_eq {L : Nat} {a b p : Pt} (ha : Nr a) (hb : Nr b) (hp : Nr p) : impl_isOn L a.x a.y b.x b.y p.x p.y = some (decide (OnL a b p)) := by
  unfold impl_isOn impl_within OnL
  rw [impl_turn_eq ha hb hp]
  simp only [gbind_eq, Option.bind_some, ieq_eq, ile_eq, imin_eq, imax_eq, mid_iff]
  by_cases k1 : turn a b p = 0
  · simp only [k1, decide_true, cond_true]
    by_cases k2 : (if b.x < a.x then b.x else a.x) ≤ p.x <;> by_cases k3 : p.x ≤ (if b.x > a.x then b.x else a.x) <;>
      by_cases k4 : (if b.y < a.y then b.y else a.y) ≤ p.y <;> by_cases k5 : p.y ≤ (if b.y > a.y then b.y else a.y) <;> simp [k2, k3, k4, k5]
  · simp [k1]
def sg (n : Int) : Int := if 0 < n then 1 else if n < 0 then -1 else 0
theorem spec_l1Sign_eq {L : Nat} {n : Int} : spec_l1Sign L n = some (sg n) := by
  unfold spec_l1Sign sg
  simp only [ilt_eq]
  by_cases h1 : 0 < n <;> by_cases h2 : n < 0 <;> simp [h1, h2]
theorem impl_sign_eq {L : Nat} {n : Int} : impl_sign L n = some (sg n) := by
  unfold impl_sign sg
  simp only [imin_eq, imax_eq]
  congr 1
  split <;> split <;> split <;> (try split) <;> omega
theorem sg_bd (n : Int) : -1 ≤ sg n ∧ sg n ≤ 1 := by unfold sg; split; omega; split <;> omega
def Meet (a b c d : Pt) : Prop := OnL a b c ∨ OnL a b d ∨ OnL c d a ∨ OnL c d b ∨ (sg (turn a b c) * sg (turn a b d) < 0 ∧ sg (turn c d a) * sg (turn c d b) < 0)
instance (a b c d : Pt) : Decidable (Meet a b c d) := by unfold Meet; infer_instance
theorem sgm {m n : Int} : wr .i64 (sg m * sg n) = sg m * sg n := by
  have := mul_bd (sg_bd m) (sg_bd n)
  exact wr_id (by omega)
theorem spec_pgMeet_eq {L : Nat} {a b c d : Pt} (ha : Nr a) (hb : Nr b) (hc : Nr c) (hd : Nr d) : spec_pgMeet L a.x a.y b.x b.y c.x c.y d.x d.y = some (decide (Meet a b c d)) := by
  unfold spec_pgMeet Meet
  rw [spec_pgOn_eq ha hb hc, spec_pgOn_eq ha hb hd, spec_pgOn_eq hc hd ha, spec_pgOn_eq hc hd hb, spec_pgTurn_eq ha hb hc, spec_pgTurn_eq ha hb hd, spec_pgTurn_eq hc hd ha, spec_pgTurn_eq hc hd hb]
  simp only [gbind_eq, Option.bind_some, spec_l1Sign_eq, imul_eq, ilt_eq, sgm]
  by_cases k1 : OnL a b c <;> by_cases k2 : OnL a b d <;> by_cases k3 : OnL c d a <;> by_cases k4 : OnL c d b <;> by_cases k5 : sg (turn a b c) * sg (turn a b d) < 0 <;>
    by_cases k6 : sg (turn c d a) * sg (turn c d b) < 0 <;> simp [k1, k2, k3, k4, k5, k6]
theorem impl_meet_eq {L : Nat} {a b c d : Pt} (ha : Nr a) (hb : Nr b) (hc : Nr c) (hd : Nr d) : impl_meet L a.x a.y b.x b.y c.x c.y d.x d.y = some (decide (Meet a b c d)) := by
  unfold impl_meet Meet
  rw [impl_isOn_eq ha hb hc, impl_isOn_eq ha hb hd, impl_isOn_eq hc hd ha, impl_isOn_eq hc hd hb, impl_turn_eq ha hb hc, impl_turn_eq ha hb hd, impl_turn_eq hc hd ha, impl_turn_eq hc hd hb]
  simp only [gbind_eq, Option.bind_some, impl_sign_eq, imul_eq, ilt_eq, sgm]
  by_cases k1 : OnL a b c <;> by_cases k2 : OnL a b d <;> by_cases k3 : OnL c d a <;> by_cases k4 : OnL c d b <;> by_cases k5 : sg (turn a b c) * sg (turn a b d) < 0 <;>
    by_cases k6 : sg (turn c d a) * sg (turn c d b) < 0 <;> simp [k1, k2, k3, k4, k5, k6]
end Go.AM
namespace Go.AM
def pt (a : List Pt) (i : Int) : Pt := a.getD (i % (a.length : Int)).toNat ⟨0, 0⟩
theorem pt_congr {a : List Pt} {i j : Int} (h : i % (a.length : Int) = j % (a.length : Int)) : pt a i = pt a j := by unfold pt; rw [h]
theorem pt_get {a : List Pt} {i : Int} (h0 : 0 ≤ i) (h1 : i < a.length) : a[i.toNat]? = some (pt a i) := by
  unfold pt
  rw [Int.emod_eq_of_lt h0 h1]
  have : i.toNat < a.length := by omega
  simp [this]
theorem lget_pt {a : List Pt} {i : Int} (h0 : 0 ≤ i) (h1 : i < a.length) : lget a i = some (pt a i) := by
  rw [lget_eq, if_pos h0, pt_get h0 h1]
theorem irem_nn {i n : Int} (h : 0 ≤ i) : irem i n = i % n := by rw [irem_eq]; exact Int.tmod_eq_emod_of_nonneg h
theorem lget_rem {a : List Pt} {i : Int} (h0 : 0 ≤ i) (hn : a ≠ []) : lget a (irem i (a.length : Int)) = some (pt a i) := by
  have hl : 0 < (a.length : Int) := by have := List.length_pos_iff.2 hn; omega
  rw [irem_nn h0, lget_pt (Int.emod_nonneg _ (by omega)) (Int.emod_lt_of_pos _ hl)]
  congr 1
  exact pt_congr (Int.emod_emod_of_dvd _ (Int.dvd_refl _))
theorem ilen_mapep (a : List Pt) : ilen (List.map ep a) = (a.length : Int) := by rw [ilen_map, ilen_eq]
theorem impl_at_eq {L : Nat} {a : List Pt} {i : Int} (hn : a ≠ []) (hs : (a.length : Int) ≤ 1000000000) : impl_at L a i = some ((pt a i).x, (pt a i).y) := by
  have hl : 0 < (a.length : Int) := by have := List.length_pos_iff.2 hn; omega
  unfold impl_at
  simp only [ilen_mapep, ieq_eq, gbind_eq, iadd_eq]
  have h0 : ¬ ((a.length : Int) = 0) := by omega
  simp only [h0, decide_false, cond_false]
  have h1 : -(a.length : Int) < irem i (a.length : Int) ∧ irem i (a.length : Int) < a.length := by
    rw [irem_eq]
    have := Int.tmod_lt_of_pos i hl
    have h2 := Int.natAbs_tmod i (a.length : Int)
    have h3 := Nat.mod_lt i.natAbs (show 0 < (a.length : Int).natAbs by omega)
    omega
  rw [wr_id (by omega), lget_rem (by omega) hn]
  simp only [Option.bind_some]
  have : pt a (irem i (a.length : Int) + a.length) = pt a i := by
    apply pt_congr
    rw [Int.add_emod_right, irem_eq]
    conv => rhs; rw [← Int.tmod_add_mul_tdiv i (a.length : Int), Int.add_mul_emod_self_left]
  rw [this]
theorem search {β : Type} {f : Nat → Int → Option β} {bad : Int → Prop} {r k : Option β} {lo n hi : Int} (hn : n ≤ hi) (hstop : ∀ m v, lo ≤ v → v ≤ hi → ¬ v < n → f (m + 1) v = k) (hbad : ∀ m v, lo ≤ v → v < n → bad v → f (m + 1) v = r)
    (hgo : ∀ m v, lo ≤ v → v < n → ¬ bad v → f (m + 1) v = f m (v + 1)) : ∀ (m : Nat) (v : Int), lo ≤ v → v ≤ hi → n - v < m → 0 < m → ((∃ j, v ≤ j ∧ j < n ∧ bad j) → f m v = r) ∧ ((∀ j, v ≤ j → j < n → ¬ bad j) → f m v = k) := by
  intro m
  induction m with
  | zero => intro v _ _ _ h; omega
  | succ m ih =>
    intro v hv hvh hm _
    by_cases hvn : v < n
    · by_cases hb : bad v
      · refine ⟨fun _ => hbad m v hv hvn hb, fun h => absurd hb (h v (Int.le_refl _) hvn)⟩
      · rw [hgo m v hv hvn hb]
        obtain ⟨h1, h2⟩ := ih (v + 1) (by omega) (by omega) (by omega) (by omega)
        refine ⟨fun ⟨j, q1, q2, q3⟩ => h1 ⟨j, ?_, q2, q3⟩, fun h => h2 fun j q1 q2 => h j (by omega) q2⟩
        by_cases hj : j = v
        · subst hj; exact absurd q3 hb
        · omega
    · rw [hstop m v hv hvh hvn]
      exact ⟨fun ⟨j, q1, q2, _⟩ => by omega, fun _ => rfl⟩
structure Good_ (a : List Pt) : Prop where
  lo : 3 ≤ (a.length : Int)
  hi : (a.length : Int) ≤ 10
  isIn : ∀ i, 0 ≤ i → i < (a.length : Int) → In (pt a i)
  ne : ∀ i k, 0 ≤ k → k < i → i < (a.length : Int) → pt a k ≠ pt a i
  turn : ∀ i, 0 ≤ i → i < (a.length : Int) → turn (pt a i) (pt a (i + 1)) (pt a (i + 2)) ≠ 0
  apart : ∀ i k, 0 ≤ i → i + 2 ≤ k → k < (a.length : Int) → k - i < (a.length : Int) - 1 → ¬ Meet (pt a i) (pt a (i + 1)) (pt a k) (pt a (k + 1))
theorem in_all {a : List Pt} (h : ∀ i, 0 ≤ i → i < (a.length : Int) → In (pt a i)) (hn : a ≠ []) (i : Int) : In (pt a i) := by
  have hl : 0 < (a.length : Int) := by have := List.length_pos_iff.2 hn; omega
  have := h (i % a.length) (Int.emod_nonneg _ (by omega)) (Int.emod_lt_of_pos _ hl)
  rwa [pt_congr (Int.emod_emod_of_dvd _ (Int.dvd_refl _))] at this
theorem spec_pgIs_eq {L : Nat} {p : Pt} : (In p → spec_pgIs L p.x p.y = some true) ∧ (¬ In p → spec_pgIs L p.x p.y = some false) := by
  unfold spec_pgIs spec_l1In In
  simp only [gbind_eq, ile_eq]
  by_cases h1 : -40 ≤ p.x <;> by_cases h2 : p.x ≤ 40 <;> by_cases h3 : -40 ≤ p.y <;> by_cases h4 : p.y ≤ 40 <;> simp [h1, h2, h3, h4]
theorem impl_IsPeg_eq {L : Nat} {p : Pt} : (In p → impl_IsPeg L p.x p.y = some true) ∧ (¬ In p → impl_IsPeg L p.x p.y = some false) := by
  unfold impl_IsPeg impl_within In
  simp only [gbind_eq, ile_eq]
  by_cases h1 : -40 ≤ p.x <;> by_cases h2 : p.x ≤ 40 <;> by_cases h3 : -40 ≤ p.y <;> by_cases h4 : p.y ≤ 40 <;> simp [h1, h2, h3, h4]
theorem pt_eq_iff {p q : Pt} : (decide (p.x = q.x) && decide (p.y = q.y)) = true ↔ p = q := by
  cases p; cases q; simp
theorem lsub0 {a : List Pt} {i : Int} (h0 : 0 ≤ i) (h1 : i ≤ a.length) : lsub a 0 i = a.take i.toNat := by
  rw [lsub_eq]; simp
theorem lsub0_len {a : List Pt} {i : Int} (h0 : 0 ≤ i) (h1 : i ≤ a.length) : ilen (lsub (List.map ep a) 0 i) = i := by
  rw [lsub_eq, ilen_eq]; simp; omega
theorem lsub0_get {a : List Pt} {i j : Int} (h0 : 0 ≤ j) (hj : j < i) (h1 : i ≤ a.length) : lget (lsub a 0 i) j = some (pt a j) := by
  rw [lsub0 (by omega) h1, lget_eq, if_pos h0, List.getElem?_take, if_pos (by omega), pt_get h0 (by omega)]
theorem good_l1 {L : Nat} {κ0 : (List Pt) → Int → (List Pt) → Int → Int → Option Bool} {a v17 : List Pt} {v3 v18 i : Int} {p : Pt} (hi : 0 ≤ i) (hl : i ≤ a.length) (hs : (a.length : Int) ≤ 10) {m : Nat} (hm : i < m) :
    ((∃ j, 0 ≤ j ∧ j < i ∧ pt a j = p) → spec_pgGood_l1 L κ0 a v3 v17 v18 i p m 0 = some false) ∧ ((∀ j, 0 ≤ j → j < i → ¬ pt a j = p) → spec_pgGood_l1 L κ0 a v3 v17 v18 i p m 0 = κ0 a v3 v17 v18 (i + 1)) := by
  refine search (lo := 0) (n := i) (hi := i) (bad := fun j => pt a j = p) (Int.le_refl _) ?_ ?_ ?_ m 0 (Int.le_refl _) (by omega) (by omega) (by omega)
  · intro m v h0 _ h
    rw [spec_pgGood_l1]
    simp only [lsub0_len hi hl, ilt_eq, h, decide_false, cond_false, iadd_eq]
    rw [wr_id (by omega)]
  · intro m v h0 h hb
    rw [spec_pgGood_l1]
    simp only [lsub0_len hi hl, ilt_eq, h, decide_true, cond_true, lsub0_get h0 h hl, gbind_eq, Option.bind_some, ieq_eq, hb, Bool.and_self]
  · intro m v h0 h hb
    rw [spec_pgGood_l1]
    simp only [lsub0_len hi hl, ilt_eq, h, decide_true, cond_true, lsub0_get h0 h hl, gbind_eq, Option.bind_some, ieq_eq, iadd_eq]
    have : (decide (p.x = (pt a v).x) && decide (p.y = (pt a v).y)) = false := by
      rw [← Bool.not_eq_true, pt_eq_iff]; exact fun e => hb e.symm
    rw [this, cond_false, wr_id (by omega)]
theorem wr_s {i : Int} (h : -1000000 ≤ i ∧ i ≤ 1000000) : wr .i64 i = i := wr_id (by omega)
theorem good_l3 {L : Nat} {κ1 : (List Pt) → Int → (List Pt) → Int → Int → Option Bool} {a v40 : List Pt} {v41 i : Int} (hi : 0 ≤ i) (hil : i < a.length) (hs : (a.length : Int) ≤ 10) (hin : ∀ i, In (pt a i)) {m : Nat} (hm : (a.length : Int) - (i + 2) < m) (hm0 : 0 < m) :
    ((∃ k, i + 2 ≤ k ∧ k < (if i = 0 then (a.length : Int) - 1 else a.length) ∧ Meet (pt a i) (pt a (i + 1)) (pt a k) (pt a (k + 1))) → spec_pgGood_l3 L κ1 a a.length v40 v41 i (pt a i) (pt a (i + 1)) m (i + 2) = some false) ∧
    ((∀ k, i + 2 ≤ k → k < (if i = 0 then (a.length : Int) - 1 else a.length) → ¬ Meet (pt a i) (pt a (i + 1)) (pt a k) (pt a (k + 1))) → spec_pgGood_l3 L κ1 a a.length v40 v41 i (pt a i) (pt a (i + 1)) m (i + 2) = κ1 a a.length v40 v41 (i + 1)) := by
  have hne : a ≠ [] := by intro e; subst e; simp at hil; omega
  refine search (lo := i + 2) (n := if i = 0 then (a.length : Int) - 1 else a.length) (hi := 12) (bad := fun k => Meet (pt a i) (pt a (i + 1)) (pt a k) (pt a (k + 1))) (by split <;> omega) ?_ ?_ ?_ m (i + 2) (Int.le_refl _) (by omega) (by split <;> omega) hm0
  · intro m v h0 _ h
    rw [spec_pgGood_l3]
    simp only [ilt_eq, isub_eq, iadd_eq]
    rw [wr_s (i := v - i) (by omega), wr_s (i := (a.length : Int) - 1) (by omega), wr_s (i := i + 1) (by omega)]
    by_cases h1 : v < (a.length : Int)
    · have h2 : ¬ (v - i < (a.length : Int) - 1) := by split at h <;> omega
      simp only [h1, h2, decide_true, decide_false, cond_true, cond_false]
    · simp only [h1, decide_false, cond_false]
  · intro m v h0 h hb
    rw [spec_pgGood_l3]
    have h1 : v < (a.length : Int) := by split at h <;> omega
    have h2 : v - i < (a.length : Int) - 1 := by split at h <;> omega
    have h3 : ¬ ((a.length : Int) = 0) := by omega
    simp only [ilt_eq, isub_eq, iadd_eq, ieq_eq]
    rw [wr_s (i := v - i) (by omega), wr_s (i := (a.length : Int) - 1) (by omega), wr_s (i := v + 1) (by omega)]
    simp only [h1, h2, h3, decide_true, decide_false, cond_true, cond_false, gbind_eq, lget_pt (show 0 ≤ v by omega) h1, lget_rem (show 0 ≤ v + 1 by omega) hne, Option.bind_some]
    rw [spec_pgMeet_eq (hin _).nr (hin _).nr (hin _).nr (hin _).nr]
    simp [hb]
  · intro m v h0 h hb
    rw [spec_pgGood_l3]
    have h1 : v < (a.length : Int) := by split at h <;> omega
    have h2 : v - i < (a.length : Int) - 1 := by split at h <;> omega
    have h3 : ¬ ((a.length : Int) = 0) := by omega
    simp only [ilt_eq, isub_eq, iadd_eq, ieq_eq]
    rw [wr_s (i := v - i) (by omega), wr_s (i := (a.length : Int) - 1) (by omega), wr_s (i := v + 1) (by omega)]
    simp only [h1, h2, h3, decide_true, decide_false, cond_true, cond_false, gbind_eq, lget_pt (show 0 ≤ v by omega) h1, lget_rem (show 0 ≤ v + 1 by omega) hne, Option.bind_some]
    rw [spec_pgMeet_eq (hin _).nr (hin _).nr (hin _).nr (hin _).nr]
    simp [hb]
theorem good_l2 {L : Nat} {a : List Pt} (hn : 3 ≤ (a.length : Int)) (hs : (a.length : Int) ≤ 10) (hL : 20 < L) (hin : ∀ i, In (pt a i)) {m : Nat} (hm : (a.length : Int) < m) :
    ((∃ i, 0 ≤ i ∧ i < (a.length : Int) ∧ (turn (pt a i) (pt a (i + 1)) (pt a (i + 2)) = 0 ∨ ∃ k, i + 2 ≤ k ∧ k < (if i = 0 then (a.length : Int) - 1 else a.length) ∧ Meet (pt a i) (pt a (i + 1)) (pt a k) (pt a (k + 1)))) → spec_pgGood_l2 L m a a.length a a.length 0 = some false) ∧
    ((∀ i, 0 ≤ i → i < (a.length : Int) → ¬ (turn (pt a i) (pt a (i + 1)) (pt a (i + 2)) = 0 ∨ ∃ k, i + 2 ≤ k ∧ k < (if i = 0 then (a.length : Int) - 1 else a.length) ∧ Meet (pt a i) (pt a (i + 1)) (pt a k) (pt a (k + 1)))) → spec_pgGood_l2 L m a a.length a a.length 0 = some true) := by
  have hne : a ≠ [] := by intro e; subst e; simp at hn
  have h3 : ¬ ((a.length : Int) = 0) := by omega
  refine search (f := fun m v => spec_pgGood_l2 L m a a.length a a.length v) (lo := 0) (n := (a.length : Int)) (hi := 10)
    (bad := fun i => turn (pt a i) (pt a (i + 1)) (pt a (i + 2)) = 0 ∨ ∃ k, i + 2 ≤ k ∧ k < (if i = 0 then (a.length : Int) - 1 else a.length) ∧ Meet (pt a i) (pt a (i + 1)) (pt a k) (pt a (k + 1))) hs ?_ ?_ ?_ m 0 (Int.le_refl _) (by omega) (by omega) (by omega)
  · intro m v h0 _ h
    simp only [spec_pgGood_l2, ilt_eq, h, decide_false, cond_false]
  · intro m v h0 h hb
    simp only [spec_pgGood_l2, ilt_eq, ieq_eq, iadd_eq, h3, h, decide_true, decide_false, cond_true, cond_false, gbind_eq, wr_s (i := v + 1) (by omega), wr_s (i := v + 2) (by omega), lget_pt h0 h, lget_rem (show 0 ≤ v + 1 by omega) hne, lget_rem (show 0 ≤ v + 2 by omega) hne, Option.bind_some]
    rw [spec_pgTurn_eq (hin _).nr (hin _).nr (hin _).nr]
    simp only [Option.bind_some]
    by_cases ht : turn (pt a v) (pt a (v + 1)) (pt a (v + 2)) = 0
    · simp only [ht, decide_true, cond_true]
    · simp only [ht, decide_false, cond_false]
      exact (good_l3 h0 h hs hin (by omega) (by omega)).1 (hb.resolve_left ht)
  · intro m v h0 h hb
    simp only [spec_pgGood_l2, ilt_eq, ieq_eq, iadd_eq, h3, h, decide_true, decide_false, cond_true, cond_false, gbind_eq, wr_s (i := v + 1) (by omega), wr_s (i := v + 2) (by omega), lget_pt h0 h, lget_rem (show 0 ≤ v + 1 by omega) hne, lget_rem (show 0 ≤ v + 2 by omega) hne, Option.bind_some]
    rw [spec_pgTurn_eq (hin _).nr (hin _).nr (hin _).nr]
    simp only [Option.bind_some]
    have ht : ¬ turn (pt a v) (pt a (v + 1)) (pt a (v + 2)) = 0 := fun e => hb (.inl e)
    simp only [ht, decide_false, cond_false]
    exact (good_l3 h0 h hs hin (by omega) (by omega)).2 fun k h1 h2 h3 => hb (.inr ⟨k, h1, h2, h3⟩)
end Go.AM
namespace Go.AM
theorem good_l0 {L : Nat} {a : List Pt} (hn : 3 ≤ (a.length : Int)) (hs : (a.length : Int) ≤ 10) (hL : 20 < L) {m : Nat} (hm : (a.length : Int) < m) :
    ((∃ i, 0 ≤ i ∧ i < (a.length : Int) ∧ (¬ In (pt a i) ∨ ∃ k, 0 ≤ k ∧ k < i ∧ pt a k = pt a i)) → spec_pgGood_l0 L m a a.length a a.length 0 = some false) ∧
    ((∀ i, 0 ≤ i → i < (a.length : Int) → ¬ (¬ In (pt a i) ∨ ∃ k, 0 ≤ k ∧ k < i ∧ pt a k = pt a i)) → spec_pgGood_l0 L m a a.length a a.length 0 = spec_pgGood_l2 L L a a.length a a.length 0) := by
  refine search (f := fun m v => spec_pgGood_l0 L m a a.length a a.length v) (lo := 0) (n := (a.length : Int)) (hi := 10)
    (bad := fun i => ¬ In (pt a i) ∨ ∃ k, 0 ≤ k ∧ k < i ∧ pt a k = pt a i) hs ?_ ?_ ?_ m 0 (Int.le_refl _) (by omega) (by omega) (by omega)
  · intro m v h0 _ h
    simp only [spec_pgGood_l0, ilt_eq, h, decide_false, cond_false, ilen_mapep]
  · intro m v h0 h hb
    simp only [spec_pgGood_l0, ilt_eq, ile_eq, h, h0, ilen_mapep, show v ≤ (a.length : Int) by omega, decide_true, Bool.and_self, cond_true, gbind_eq, lget_pt h0 h, Option.bind_some]
    by_cases hi : In (pt a v)
    · rw [spec_pgIs_eq.1 hi]
      simp only [Option.bind_some, Bool.not_true, cond_false]
      obtain ⟨k, q1, q2, q3⟩ := hb.resolve_left fun h => h hi
      exact (good_l1 h0 (by omega) hs (by omega)).1 ⟨k, q1, q2, q3⟩
    · rw [spec_pgIs_eq.2 hi]
      simp only [Option.bind_some, Bool.not_false, cond_true]
  · intro m v h0 h hb
    simp only [spec_pgGood_l0, ilt_eq, ile_eq, h, h0, ilen_mapep, show v ≤ (a.length : Int) by omega, decide_true, Bool.and_self, cond_true, gbind_eq, lget_pt h0 h, Option.bind_some]
    have hi : In (pt a v) := Classical.byContradiction fun e => hb (.inl e)
    rw [spec_pgIs_eq.1 hi]
    simp only [Option.bind_some, Bool.not_true, cond_false]
    exact (good_l1 h0 (by omega) hs (by omega)).2 fun k q1 q2 q3 => hb (.inr ⟨k, q1, q2, q3⟩)
theorem spec_l1In_eq {L : Nat} {n lo hi : Int} : spec_l1In L n lo hi = some (decide (lo ≤ n ∧ n ≤ hi)) := by
  unfold spec_l1In
  simp only [ile_eq]
  by_cases h1 : lo ≤ n <;> by_cases h2 : n ≤ hi <;> simp [h1, h2]
theorem impl_within_eq {L : Nat} {n lo hi : Int} : impl_within L n lo hi = some (decide (lo ≤ n ∧ n ≤ hi)) := by
  unfold impl_within
  simp only [ile_eq]
  by_cases h1 : lo ≤ n <;> by_cases h2 : n ≤ hi <;> simp [h1, h2]
open Classical in
theorem spec_pgGood_eq {L : Nat} {a : List Pt} (hL : 20 < L) : spec_pgGood L a = some (decide (Good_ a)) := by
  unfold spec_pgGood
  simp only [ilen_mapep, spec_l1In_eq, gbind_eq, Option.bind_some]
  by_cases hn : 3 ≤ (a.length : Int) ∧ (a.length : Int) ≤ 10
  · simp only [hn, and_self, decide_true, Bool.not_true, cond_false]
    have hne : a ≠ [] := by intro e; subst e; simp at hn
    by_cases h0 : ∃ i, 0 ≤ i ∧ i < (a.length : Int) ∧ (¬ In (pt a i) ∨ ∃ k, 0 ≤ k ∧ k < i ∧ pt a k = pt a i)
    · rw [(good_l0 hn.1 hn.2 hL (by omega)).1 h0]
      have : ¬ Good_ a := fun g => by
        obtain ⟨i, q1, q2, q3⟩ := h0
        rcases q3 with q3 | ⟨k, q4, q5, q6⟩
        · exact q3 (g.isIn i q1 q2)
        · exact g.ne i k q4 q5 q2 q6
      simp [this]
    · have h0' : ∀ i, 0 ≤ i → i < (a.length : Int) → ¬ (¬ In (pt a i) ∨ ∃ k, 0 ≤ k ∧ k < i ∧ pt a k = pt a i) := fun i q1 q2 q3 => h0 ⟨i, q1, q2, q3⟩
      rw [(good_l0 hn.1 hn.2 hL (by omega)).2 h0']
      have hIn : ∀ i, 0 ≤ i → i < (a.length : Int) → In (pt a i) := fun i q1 q2 => Classical.byContradiction fun e => h0' i q1 q2 (.inl e)
      have hin := in_all hIn hne
      by_cases h1 : ∃ i, 0 ≤ i ∧ i < (a.length : Int) ∧ (turn (pt a i) (pt a (i + 1)) (pt a (i + 2)) = 0 ∨ ∃ k, i + 2 ≤ k ∧ k < (if i = 0 then (a.length : Int) - 1 else a.length) ∧ Meet (pt a i) (pt a (i + 1)) (pt a k) (pt a (k + 1)))
      · rw [(good_l2 hn.1 hn.2 hL hin (by omega)).1 h1]
        have : ¬ Good_ a := fun g => by
          obtain ⟨i, q1, q2, q3⟩ := h1
          rcases q3 with q3 | ⟨k, q4, q5, q6⟩
          · exact g.turn i q1 q2 q3
          · exact g.apart i k q1 q4 (by split at q5 <;> omega) (by split at q5 <;> omega) q6
        simp [this]
      · have h1' : ∀ i, 0 ≤ i → i < (a.length : Int) → ¬ (turn (pt a i) (pt a (i + 1)) (pt a (i + 2)) = 0 ∨ ∃ k, i + 2 ≤ k ∧ k < (if i = 0 then (a.length : Int) - 1 else a.length) ∧ Meet (pt a i) (pt a (i + 1)) (pt a k) (pt a (k + 1))) := fun i q1 q2 q3 => h1 ⟨i, q1, q2, q3⟩
        rw [(good_l2 hn.1 hn.2 hL hin (by omega)).2 h1']
        have : Good_ a := ⟨hn.1, hn.2, hIn, fun i k q1 q2 q3 q4 => h0' i (by omega) q3 (.inr ⟨k, q1, q2, q4⟩), fun i q1 q2 q3 => h1' i q1 q2 (.inl q3), fun i k q1 q2 q3 q4 q5 => h1' i q1 (by omega) (.inr ⟨k, q2, by split <;> omega, q5⟩)⟩
        simp [this]
  · have : ¬ Good_ a := fun g => hn ⟨g.lo, g.hi⟩
    simp only [hn, this, decide_false, Bool.not_false, cond_true]
theorem arePegs_eq {L : Nat} {a : List Pt} (hs : (a.length : Int) ≤ 1000000) (hL : (a.length : Int) < L) :
    ((∃ i, 0 ≤ i ∧ i < (a.length : Int) ∧ ¬ In (pt a i)) → impl_arePegs L a = some false) ∧ ((∀ i, 0 ≤ i → i < (a.length : Int) → In (pt a i)) → impl_arePegs L a = some true) := by
  have key : (∃ i, 0 ≤ i ∧ i < (a.length : Int) ∧ ¬ In (pt a i)) → ∃ i, 0 ≤ i ∧ slices_IndexFunc_impl_Peg_impl_Peg_arePegs_l0 L a L 0 = some i := by
    have : ∀ (m : Nat) (v : Int), 0 ≤ v → (a.length : Int) - v < m → (∃ i, v ≤ i ∧ i < (a.length : Int) ∧ ¬ In (pt a i)) → ∃ i, 0 ≤ i ∧ slices_IndexFunc_impl_Peg_impl_Peg_arePegs_l0 L a m v = some i := by
      intro m
      induction m with
      | zero => rintro v h0 h ⟨i, q1, q2, _⟩; omega
      | succ m ih =>
        rintro v h0 h ⟨i, q1, q2, q3⟩
        have hv : v < (a.length : Int) := by omega
        simp only [slices_IndexFunc_impl_Peg_impl_Peg_arePegs_l0, ilt_eq, ilen_mapep, hv, decide_true, cond_true, gbind_eq, lget_pt h0 hv, Option.bind_some, impl_arePegs_1]
        by_cases hi : In (pt a v)
        · rw [impl_IsPeg_eq.1 hi]
          simp only [Option.bind_some, Bool.not_true, cond_false, iadd_eq]
          rw [wr_s (by omega)]
          refine ih (v + 1) (by omega) (by omega) ⟨i, ?_, q2, q3⟩
          by_cases e : i = v
          · subst e; exact absurd hi q3
          · omega
        · rw [impl_IsPeg_eq.2 hi]
          exact ⟨v, h0, by simp⟩
    exact this L 0 (Int.le_refl _) (by omega)
  constructor
  · intro h
    obtain ⟨i, q1, q2⟩ := key h
    simp only [impl_arePegs, slices_ContainsFunc_impl_Peg_impl_Peg_arePegs, slices_IndexFunc_impl_Peg_impl_Peg_arePegs, gbind_eq, q2, Option.bind_some, ile_eq, q1, decide_true, Bool.not_true]
  · intro h
    have := (search (f := fun m v => slices_IndexFunc_impl_Peg_impl_Peg_arePegs_l0 L a m v) (r := none) (k := some (-1)) (lo := 0) (n := (a.length : Int)) (hi := (a.length : Int)) (bad := fun i => False) (Int.le_refl _) (fun m v h0 _ h => by
        simp only [slices_IndexFunc_impl_Peg_impl_Peg_arePegs_l0, ilt_eq, ilen_mapep, h, decide_false, cond_false]) (fun m v h0 h hb => hb.elim) (fun m v h0 hv _ => by
        simp only [slices_IndexFunc_impl_Peg_impl_Peg_arePegs_l0, ilt_eq, ilen_mapep, hv, decide_true, cond_true, gbind_eq, lget_pt h0 hv, Option.bind_some, impl_arePegs_1]
        rw [impl_IsPeg_eq.1 (h v h0 hv)]
        simp only [Option.bind_some, Bool.not_true, cond_false, iadd_eq]
        rw [wr_s (by omega)]) L 0 (Int.le_refl _) (by omega) (by omega) (by omega)).2 fun _ _ _ h => h
    simp only [impl_arePegs, slices_ContainsFunc_impl_Peg_impl_Peg_arePegs, slices_IndexFunc_impl_Peg_impl_Peg_arePegs, gbind_eq, this, Option.bind_some, ile_eq]
    rfl
theorem contains_eq {L : Nat} {b : List Pt} {p : Pt} (hs : (b.length : Int) ≤ 1000000) (hL : (b.length : Int) < L) :
    ((∃ j, 0 ≤ j ∧ j < (b.length : Int) ∧ pt b j = p) → slices_Contains_impl_Peg_impl_Peg L b p.x p.y = some true) ∧ ((∀ j, 0 ≤ j → j < (b.length : Int) → ¬ pt b j = p) → slices_Contains_impl_Peg_impl_Peg L b p.x p.y = some false) := by
  have heq : ∀ v, (decide (p.x = (pt b v).x) && decide (p.y = (pt b v).y)) = decide (pt b v = p) := fun v => by
    rw [Bool.eq_iff_iff, pt_eq_iff]
    simp [eq_comm]
  have key : (∃ j, 0 ≤ j ∧ j < (b.length : Int) ∧ pt b j = p) → ∃ i, 0 ≤ i ∧ slices_Index_impl_Peg_impl_Peg_l0 L b p.x p.y L 0 = some i := by
    have : ∀ (m : Nat) (v : Int), 0 ≤ v → (b.length : Int) - v < m → (∃ i, v ≤ i ∧ i < (b.length : Int) ∧ pt b i = p) → ∃ i, 0 ≤ i ∧ slices_Index_impl_Peg_impl_Peg_l0 L b p.x p.y m v = some i := by
      intro m
      induction m with
      | zero => rintro v h0 h ⟨i, q1, q2, _⟩; omega
      | succ m ih =>
        rintro v h0 h ⟨i, q1, q2, q3⟩
        have hv : v < (b.length : Int) := by omega
        simp only [slices_Index_impl_Peg_impl_Peg_l0, ilt_eq, ilen_mapep, hv, decide_true, cond_true, gbind_eq, lget_pt h0 hv, Option.bind_some, ieq_eq, heq]
        by_cases hi : pt b v = p
        · exact ⟨v, h0, by simp [hi]⟩
        · simp only [hi, decide_false, cond_false, iadd_eq]
          rw [wr_s (by omega)]
          refine ih (v + 1) (by omega) (by omega) ⟨i, ?_, q2, q3⟩
          by_cases e : i = v
          · subst e; exact absurd q3 hi
          · omega
    exact this L 0 (Int.le_refl _) (by omega)
  constructor
  · intro h
    obtain ⟨i, q1, q2⟩ := key h
    simp only [slices_Contains_impl_Peg_impl_Peg, slices_Index_impl_Peg_impl_Peg, gbind_eq, q2, Option.bind_some, ile_eq, q1, decide_true]
  · intro h
    have := (search (f := fun m v => slices_Index_impl_Peg_impl_Peg_l0 L b p.x p.y m v) (r := none) (k := some (-1)) (lo := 0) (n := (b.length : Int)) (hi := (b.length : Int)) (bad := fun i => False) (Int.le_refl _) (fun m v h0 _ h => by
        simp only [slices_Index_impl_Peg_impl_Peg_l0, ilt_eq, ilen_mapep, h, decide_false, cond_false]) (fun m v h0 h hb => hb.elim) (fun m v h0 hv _ => by
        simp only [slices_Index_impl_Peg_impl_Peg_l0, ilt_eq, ilen_mapep, hv, decide_true, cond_true, gbind_eq, lget_pt h0 hv, Option.bind_some, ieq_eq, heq, h v h0 hv, decide_false, cond_false, iadd_eq]
        rw [wr_s (by omega)]) L 0 (Int.le_refl _) (by omega) (by omega) (by omega)).2 fun _ _ _ h => h
    simp only [slices_Contains_impl_Peg_impl_Peg, slices_Index_impl_Peg_impl_Peg, gbind_eq, this, Option.bind_some, ile_eq]
    rfl
theorem pt_take {a : List Pt} {i j : Int} (h0 : 0 ≤ j) (hj : j < i) (h1 : i ≤ a.length) : pt (lsub a 0 i) j = pt a j := by
  have h2 := lsub0_get h0 hj h1
  have h3 : ((lsub a 0 i).length : Int) = i := by rw [lsub0 (by omega) h1]; simp; omega
  rw [lget_pt h0 (by omega)] at h2
  exact Option.some.inj h2
def BadM (a : List Pt) (i k : Int) : Prop := k + 1 ≠ i ∧ ¬ (i + 1 = (a.length : Int) ∧ k = 0) ∧ Meet (pt a k) (pt a (k + 1)) (pt a i) (pt a (i + 1))
theorem poly_l1 {L : Nat} {κ0 : (List Pt) → Int → (List Pt) → Int → Int → Option Bool} {a v17 : List Pt} {v18 i : Int} (hi : 0 ≤ i) (hil : i < a.length) (hs : (a.length : Int) ≤ 10) (hin : ∀ i, In (pt a i)) {m : Nat} (hm : i < m) :
    ((∃ k, 0 ≤ k ∧ k < i ∧ BadM a i k) → impl_IsPolygon_l1 L κ0 a a.length v17 v18 i (pt a i) m 0 = some false) ∧
    ((∀ k, 0 ≤ k → k < i → ¬ BadM a i k) → impl_IsPolygon_l1 L κ0 a a.length v17 v18 i (pt a i) m 0 = κ0 a a.length v17 v18 (i + 1)) := by
  have hne : a ≠ [] := by intro e; subst e; simp at hil; omega
  refine search (lo := 0) (n := i) (hi := i) (bad := BadM a i) (Int.le_refl _) ?_ ?_ ?_ m 0 (Int.le_refl _) (by omega) (by omega) (by omega)
  · intro m v h0 _ h
    simp only [impl_IsPolygon_l1, ilt_eq, h, decide_false, cond_false, iadd_eq]
    rw [wr_s (by omega)]
  · intro m v h0 h hb
    obtain ⟨b1, b2, b3⟩ := hb
    simp only [impl_IsPolygon_l1, ilt_eq, ieq_eq, iadd_eq, wr_s (i := v + 1) (by omega), wr_s (i := i + 1) (by omega), h, b1, decide_true, decide_false, cond_true, cond_false, gbind_eq,
      lget_pt h0 (show v < (a.length : Int) by omega), lget_pt (show 0 ≤ v + 1 by omega) (show v + 1 < (a.length : Int) by omega), impl_at_eq hne (show (a.length : Int) ≤ 1000000000 by omega), Option.bind_some]
    rw [impl_meet_eq (hin _).nr (hin _).nr (hin _).nr (hin _).nr]
    rw [decide_eq_true b3]
    by_cases c1 : i + 1 = (a.length : Int)
    · have c2 : ¬ v = 0 := fun e => b2 ⟨c1, e⟩
      simp [c1, c2]
    · simp [c1]
  · intro m v h0 h hb
    simp only [impl_IsPolygon_l1, ilt_eq, ieq_eq, iadd_eq, wr_s (i := v + 1) (by omega), wr_s (i := i + 1) (by omega), h, decide_true, decide_false, cond_true, cond_false, gbind_eq,
      lget_pt h0 (show v < (a.length : Int) by omega), lget_pt (show 0 ≤ v + 1 by omega) (show v + 1 < (a.length : Int) by omega), impl_at_eq hne (show (a.length : Int) ≤ 1000000000 by omega), Option.bind_some]
    rw [impl_meet_eq (hin _).nr (hin _).nr (hin _).nr (hin _).nr]
    by_cases c0 : v + 1 = i
    · simp only [c0, decide_true, cond_true]
    · simp only [c0, decide_false, cond_false]
      by_cases c1 : i + 1 = (a.length : Int)
      · by_cases c2 : v = 0
        · simp [c1, c2]
        · have b3 : ¬ Meet (pt a v) (pt a (v + 1)) (pt a i) (pt a (i + 1)) := fun e => hb ⟨c0, fun q => c2 q.2, e⟩
          simp [c1, c2]
          rw [← c1]
          simp [b3]
      · have b3 : ¬ Meet (pt a v) (pt a (v + 1)) (pt a i) (pt a (i + 1)) := fun e => hb ⟨c0, fun q => c1 q.1, e⟩
        simp [c1, b3]
theorem poly_l0 {L : Nat} {a : List Pt} (hn : 3 ≤ (a.length : Int)) (hs : (a.length : Int) ≤ 10) (hL : 20 < L) (hin : ∀ i, In (pt a i)) {m : Nat} (hm : (a.length : Int) < m) :
    ((∃ i, 0 ≤ i ∧ i < (a.length : Int) ∧ ((∃ k, 0 ≤ k ∧ k < i ∧ pt a k = pt a i) ∨ turn (pt a (i - 1)) (pt a i) (pt a (i + 1)) = 0 ∨ ∃ k, 0 ≤ k ∧ k < i ∧ BadM a i k)) → impl_IsPolygon_l0 L m a a.length a a.length 0 = some false) ∧
    ((∀ i, 0 ≤ i → i < (a.length : Int) → ¬ ((∃ k, 0 ≤ k ∧ k < i ∧ pt a k = pt a i) ∨ turn (pt a (i - 1)) (pt a i) (pt a (i + 1)) = 0 ∨ ∃ k, 0 ≤ k ∧ k < i ∧ BadM a i k)) → impl_IsPolygon_l0 L m a a.length a a.length 0 = some true) := by
  have hne : a ≠ [] := by intro e; subst e; simp at hn
  have hc : ∀ v, 0 ≤ v → v < (a.length : Int) → ((∃ k, 0 ≤ k ∧ k < v ∧ pt a k = pt a v) → slices_Contains_impl_Peg_impl_Peg L (lsub a 0 v) (pt a v).x (pt a v).y = some true) ∧ ((¬ ∃ k, 0 ≤ k ∧ k < v ∧ pt a k = pt a v) → slices_Contains_impl_Peg_impl_Peg L (lsub a 0 v) (pt a v).x (pt a v).y = some false) := by
    intro v h0 h
    have hl : ((lsub a 0 v).length : Int) = v := by rw [lsub0 (by omega) (by omega)]; simp; omega
    obtain ⟨h1, h2⟩ := contains_eq (L := L) (b := lsub a 0 v) (p := pt a v) (by omega) (by omega)
    rw [hl] at h1 h2
    refine ⟨fun ⟨k, q1, q2, q3⟩ => h1 ⟨k, q1, q2, by rw [pt_take q1 q2 (by omega)]; exact q3⟩, fun hno => h2 fun j q1 q2 q3 => hno ⟨j, q1, q2, ?_⟩⟩
    rwa [pt_take q1 q2 (by omega)] at q3
  refine search (f := fun m v => impl_IsPolygon_l0 L m a a.length a a.length v) (lo := 0) (n := (a.length : Int)) (hi := 10)
    (bad := fun i => (∃ k, 0 ≤ k ∧ k < i ∧ pt a k = pt a i) ∨ turn (pt a (i - 1)) (pt a i) (pt a (i + 1)) = 0 ∨ ∃ k, 0 ≤ k ∧ k < i ∧ BadM a i k) hs ?_ ?_ ?_ m 0 (Int.le_refl _) (by omega) (by omega) (by omega)
  · intro m v h0 _ h
    simp only [impl_IsPolygon_l0, ilt_eq, h, decide_false, cond_false]
  · intro m v h0 h hb
    simp only [impl_IsPolygon_l0, ilt_eq, ile_eq, isub_eq, iadd_eq, h, h0, ilen_mapep, show v ≤ (a.length : Int) by omega, decide_true, Bool.and_self, cond_true, gbind_eq, lget_pt h0 h, Option.bind_some, wr_s (i := v + 1) (by omega), wr_s (i := v - 1) (by omega),
      impl_at_eq hne (show (a.length : Int) ≤ 1000000000 by omega)]
    rw [impl_turn_eq (hin _).nr (hin _).nr (hin _).nr]
    by_cases c : ∃ k, 0 ≤ k ∧ k < v ∧ pt a k = pt a v
    · rw [(hc v h0 h).1 c]; rfl
    · rw [(hc v h0 h).2 c]
      simp only [Option.bind_some, cond_false, ieq_eq]
      by_cases t : turn (pt a (v - 1)) (pt a v) (pt a (v + 1)) = 0
      · simp only [t, decide_true, cond_true]
      · simp only [t, decide_false, cond_false]
        exact (poly_l1 h0 h hs hin (by omega)).1 ((hb.resolve_left c).resolve_left t)
  · intro m v h0 h hb
    simp only [impl_IsPolygon_l0, ilt_eq, ile_eq, isub_eq, iadd_eq, h, h0, ilen_mapep, show v ≤ (a.length : Int) by omega, decide_true, Bool.and_self, cond_true, gbind_eq, lget_pt h0 h, Option.bind_some, wr_s (i := v + 1) (by omega), wr_s (i := v - 1) (by omega),
      impl_at_eq hne (show (a.length : Int) ≤ 1000000000 by omega)]
    rw [impl_turn_eq (hin _).nr (hin _).nr (hin _).nr, (hc v h0 h).2 fun c => hb (.inl c)]
    have t : ¬ turn (pt a (v - 1)) (pt a v) (pt a (v + 1)) = 0 := fun e => hb (.inr (.inl e))
    simp only [Option.bind_some, cond_false, ieq_eq, t, decide_false]
    exact (poly_l1 h0 h hs hin (by omega)).2 fun k q1 q2 q3 => hb (.inr (.inr ⟨k, q1, q2, q3⟩))
open Classical in
theorem impl_IsPolygon_eq {L : Nat} {a : List Pt} (hL : 20 < L) : impl_IsPolygon L a = some (decide (Good_ a)) := by
  unfold impl_IsPolygon
  simp only [ilen_mapep, impl_within_eq, gbind_eq, Option.bind_some]
  by_cases hn : 3 ≤ (a.length : Int) ∧ (a.length : Int) ≤ 10
  · simp only [hn, and_self, decide_true, Bool.not_true, cond_false]
    have hne : a ≠ [] := by intro e; subst e; simp at hn
    have hl : 0 < (a.length : Int) := by omega
    by_cases hI : ∀ i, 0 ≤ i → i < (a.length : Int) → In (pt a i)
    · rw [(arePegs_eq (by omega) (by omega)).2 hI]
      simp only [Option.bind_some, Bool.not_true, cond_false]
      have hin := in_all hI hne
      by_cases h0 : ∃ i, 0 ≤ i ∧ i < (a.length : Int) ∧ ((∃ k, 0 ≤ k ∧ k < i ∧ pt a k = pt a i) ∨ turn (pt a (i - 1)) (pt a i) (pt a (i + 1)) = 0 ∨ ∃ k, 0 ≤ k ∧ k < i ∧ BadM a i k)
      · rw [(poly_l0 hn.1 hn.2 hL hin (by omega)).1 h0]
        have : ¬ Good_ a := fun g => by
          obtain ⟨i, q1, q2, q3⟩ := h0
          rcases q3 with ⟨k, q4, q5, q6⟩ | q3 | ⟨k, q4, q5, q6, q7, q8⟩
          · exact g.ne i k q4 q5 q2 q6
          · refine g.turn ((i - 1) % a.length) (Int.emod_nonneg _ (by omega)) (Int.emod_lt_of_pos _ hl) ?_
            rw [pt_congr (a := a) (i := (i - 1) % a.length) (j := i - 1) (Int.emod_emod_of_dvd _ (Int.dvd_refl _)), pt_congr (a := a) (i := (i - 1) % a.length + 1) (j := i) (by rw [Int.emod_add_emod]; congr 1; omega),
              pt_congr (a := a) (i := (i - 1) % a.length + 2) (j := i + 1) (by rw [Int.emod_add_emod]; congr 1; omega)]
            exact q3
          · exact g.apart k i q4 (by omega) q2 (by
              rcases Int.lt_or_le (i - k) ((a.length : Int) - 1) with h | h
              · exact h
              · exact absurd ⟨by omega, by omega⟩ q7) q8
        simp [this]
      · have h0' : ∀ i, 0 ≤ i → i < (a.length : Int) → ¬ ((∃ k, 0 ≤ k ∧ k < i ∧ pt a k = pt a i) ∨ turn (pt a (i - 1)) (pt a i) (pt a (i + 1)) = 0 ∨ ∃ k, 0 ≤ k ∧ k < i ∧ BadM a i k) := fun i q1 q2 q3 => h0 ⟨i, q1, q2, q3⟩
        rw [(poly_l0 hn.1 hn.2 hL hin (by omega)).2 h0']
        have : Good_ a := ⟨hn.1, hn.2, hI, fun i k q1 q2 q3 q4 => h0' i (by omega) q3 (.inl ⟨k, q1, q2, q4⟩), fun i q1 q2 q3 => by
            refine h0' ((i + 1) % a.length) (Int.emod_nonneg _ (by omega)) (Int.emod_lt_of_pos _ hl) (.inr (.inl ?_))
            rw [pt_congr (a := a) (i := (i + 1) % a.length - 1) (j := i) (by rw [Int.emod_sub_emod]; congr 1; omega), pt_congr (a := a) (i := (i + 1) % a.length) (j := i + 1) (Int.emod_emod_of_dvd _ (Int.dvd_refl _)),
              pt_congr (a := a) (i := (i + 1) % a.length + 1) (j := i + 2) (by rw [Int.emod_add_emod]; congr 1; omega)]
            exact q3, fun i k q1 q2 q3 q4 q5 => h0' k (by omega) q3 (.inr (.inr ⟨i, q1, by omega, by omega, fun q => by omega, q5⟩))⟩
        simp [this]
    · have : ¬ Good_ a := fun g => hI g.isIn
      rw [(arePegs_eq (by omega) (by omega)).1 (by
        refine Classical.byContradiction fun h => hI fun i q1 q2 => Classical.byContradiction fun e => h ⟨i, q1, q2, e⟩)]
      simp [this]
  · have : ¬ Good_ a := fun g => hn ⟨g.lo, g.hi⟩
    simp only [hn, this, decide_false, Bool.not_false, cond_true]
end Go.AM
namespace Go.AM
def sm (g : Int → Int) : Nat → Int
  | 0 => 0
  | k + 1 => sm g k + g k
theorem sm_bd {g : Int → Int} {B : Int} (h : ∀ i, -B ≤ g i ∧ g i ≤ B) : ∀ k : Nat, -(k * B) ≤ sm g k ∧ sm g k ≤ k * B
  | 0 => by simp [sm]
  | k + 1 => by
    have h1 := sm_bd h k
    have h2 := h k
    simp only [sm]
    have : ((k + 1 : Nat) : Int) * B = k * B + B := by rw [Int.natCast_add, Int.add_mul]; simp
    omega
theorem accum {β : Type} {f : Nat → Int → Int → Option β} {S : Int → Int} {r : Option β} {lo n : Int} (hstop : ∀ m, f (m + 1) (S n) n = r) (hgo : ∀ m v, lo ≤ v → v < n → f (m + 1) (S v) v = f m (S (v + 1)) (v + 1)) :
    ∀ (m : Nat) (v : Int), lo ≤ v → v ≤ n → n - v < m → f m (S v) v = r := by
  intro m
  induction m with
  | zero => intro v _ _ h; omega
  | succ m ih =>
    intro v hv hvn hm
    by_cases h : v < n
    · rw [hgo m v hv h]; exact ih (v + 1) (by omega) (by omega) (by omega)
    · have : v = n := by omega
      subst this
      exact hstop m
def cross (p q : Pt) : Int := p.x * q.y - p.y * q.x
theorem cross_bd {p q : Pt} (hp : Nr p) (hq : Nr q) : -2000000 ≤ cross p q ∧ cross p q ≤ 2000000 := by
  have h1 := mul_bd hp.1 hq.2
  have h2 := mul_bd hp.2 hq.1
  unfold cross
  omega
theorem impl_cross_eq {L : Nat} {p q : Pt} (hp : Nr p) (hq : Nr q) : impl_cross L p.x p.y q.x q.y = some (cross p q) := by
  have h1 := mul_bd hp.1 hq.2
  have h2 := mul_bd hp.2 hq.1
  unfold impl_cross cross
  simp only [isub_eq, imul_eq]
  rw [wr_id (n := p.x * q.y) (by omega), wr_id (n := p.y * q.x) (by omega), wr_id (by omega)]
def area (a : List Pt) : Int := sm (fun i => cross (pt a i) (pt a (i + 1))) a.length
theorem impl_twice_eq {L : Nat} {a : List Pt} (hn : a ≠ []) (hs : (a.length : Int) ≤ 1000) (hL : (a.length : Int) < L) (hin : ∀ i, Nr (pt a i)) : impl_twice L a = some (area a) := by
  unfold impl_twice
  have := accum (f := fun m s v => impl_twice_l0 L a m s v) (S := fun v => sm (fun i => cross (pt a i) (pt a (i + 1))) v.toNat) (r := some (area a)) (lo := 0) (n := a.length) (fun m => by
    simp only [impl_twice_l0, ilt_eq, ilen_mapep, Int.lt_irrefl, decide_false, cond_false]; rfl) (fun m v h0 h => by
    simp only [impl_twice_l0, ilt_eq, ilen_mapep, h, decide_true, cond_true, gbind_eq, lget_pt h0 h, Option.bind_some, iadd_eq, wr_s (i := v + 1) (by omega), impl_at_eq hn (show (a.length : Int) ≤ 1000000000 by omega)]
    rw [impl_cross_eq (hin _) (hin _)]
    simp only [Option.bind_some]
    have h1 := sm_bd (fun i => cross_bd (hin i) (hin (i + 1))) v.toNat
    have h2 := cross_bd (hin v) (hin (v + 1))
    have h3 : (v.toNat : Int) * 2000000 ≤ 1000 * 2000000 := by omega
    rw [wr_id (by omega)]
    congr 1
    rw [show (v + 1).toNat = v.toNat + 1 by omega]
    simp only [sm]
    rw [Int.toNat_of_nonneg h0]) L 0 (Int.le_refl _) (by omega) (by omega)
  exact this
end Go.AM
namespace Go.AM
noncomputable def spec_pgStep (L : Nat) (a_0 : Int) (a_1 : Int) (b_0 : Int) (b_1 : Int) : Option (Int) := gbind (spec_pgCommon L (wr IntKind.i64 (isub a_0 b_0)) (wr IntKind.i64 (isub a_1 b_1))) fun r => some r
theorem impl_size_eq {L : Nat} {n : Int} (h : -1000000000 ≤ n ∧ n ≤ 1000000000) : impl_size L n = some (n.natAbs : Int) := by
  unfold impl_size
  simp only [imax_eq, isub_eq]
  rw [wr_id (by omega)]
  congr 1
  split <;> omega
theorem spec_l1Abs_eq {L : Nat} {n : Int} (h : -1000000000 ≤ n ∧ n ≤ 1000000000) : spec_l1Abs L n = some (n.natAbs : Int) := by
  unfold spec_l1Abs spec_l1Most
  simp only [ilt_eq, isub_eq, gbind_eq]
  rw [wr_id (by omega)]
  by_cases h1 : 0 - n < n
  · simp only [h1, decide_true, cond_true, Option.bind_some]; congr 1; omega
  · simp only [h1, decide_false, cond_false, Option.bind_some]; congr 1; omega
theorem common_l0 {L : Nat} : ∀ (m : Nat) (u v : Nat), v < m → spec_pgCommon_l0 L m u v = some (Nat.gcd u v : Int)
  | 0, _, _, h => by omega
  | m + 1, u, v, hm => by
    simp only [spec_pgCommon_l0, ilt_eq, ieq_eq]
    by_cases h0 : v = 0
    · subst h0
      simp
    · have h1 : (0 : Int) < (v : Int) := by omega
      have h2 : ¬ ((v : Int) = 0) := by omega
      simp only [h1, h2, decide_true, decide_false, cond_true, cond_false]
      have h3 : irem (u : Int) (v : Int) = ((u % v : Nat) : Int) := by rw [irem_nn (by omega)]; simp
      have h4 := Nat.mod_lt u (show 0 < v by omega)
      rw [h3, common_l0 m v (u % v) (by omega)]
      congr 2
      rw [Nat.gcd_comm u v, Nat.gcd_rec v u, Nat.gcd_comm]
def step (p q : Pt) : Int := (Nat.gcd (p.x - q.x).natAbs (p.y - q.y).natAbs : Int)
theorem step_bd {p q : Pt} (hp : Nr p) (hq : Nr q) : -4000 ≤ step p q ∧ step p q ≤ 4000 := by
  have h := sub_bd hp hq
  unfold step
  have : Nat.gcd (p.x - q.x).natAbs (p.y - q.y).natAbs ≤ (p.x - q.x).natAbs + (p.y - q.y).natAbs := by
    by_cases h0 : (p.x - q.x).natAbs = 0
    · rw [h0]; simp
    · have := Nat.gcd_le_left (p.y - q.y).natAbs (show 0 < (p.x - q.x).natAbs by omega); omega
  omega
theorem spec_pgStep_eq {L : Nat} {p q : Pt} (hp : Nr p) (hq : Nr q) (hL : 3000 < L) : spec_pgStep L p.x p.y q.x q.y = some (step p q) := by
  have h := sub_bd hp hq
  unfold spec_pgStep spec_pgCommon
  simp only [isub_eq, gbind_eq]
  rw [wr_id (n := p.x - q.x) (by omega), wr_id (n := p.y - q.y) (by omega), spec_l1Abs_eq (by omega), spec_l1Abs_eq (by omega)]
  simp only [Option.bind_some]
  rw [common_l0 L _ _ (by omega)]
  rfl
theorem area_bd {a : List Pt} (hs : (a.length : Int) ≤ 100) (hin : ∀ i, Nr (pt a i)) : -200000000 ≤ area a ∧ area a ≤ 200000000 := by
  have h1 := sm_bd (fun i => cross_bd (hin i) (hin (i + 1))) a.length
  unfold area
  omega
end Go.AM
namespace Go.AM
theorem turn_swap (a b p : Pt) : turn b a p = - turn a b p := by unfold turn; grind
theorem mul_self_nn (x : Int) : 0 ≤ x * x := by
  rcases Int.le_total 0 x with h | h
  · exact Int.mul_nonneg h h
  · have := Int.mul_nonneg (show 0 ≤ -x by omega) (show 0 ≤ -x by omega); rw [Int.neg_mul_neg] at this; exact this
end Go.AM
namespace Go.AM
def Less (p q : Pt) : Prop := p.x < q.x ∨ (p.x = q.x ∧ p.y < q.y)
instance (p q : Pt) : Decidable (Less p q) := by unfold Less; infer_instance
theorem Less.trans {p q r : Pt} (h : Less p q) (k : Less q r) : Less p r := by unfold Less at *; omega
theorem Less.irrefl (p : Pt) : ¬ Less p p := by unfold Less; omega
theorem not_less_eq {p q : Pt} (h : ¬ Less p q) (k : ¬ Less q p) : p = q := by
  unfold Less at *
  cases p; cases q
  simp only [Pt.mk.injEq] at *
  omega
theorem spec_pgLess_eq {L : Nat} {p q : Pt} : spec_pgLess L p.x p.y q.x q.y = some (decide (Less p q)) := by
  unfold spec_pgLess Less
  simp only [ilt_eq, ieq_eq]
  by_cases h1 : p.x < q.x <;> by_cases h2 : p.x = q.x <;> by_cases h3 : p.y < q.y <;> simp [h1, h2, h3]
def cmpI (a b : Int) : Int := if a < b then -1 else if b < a then 1 else 0
theorem cmp_eq {L : Nat} {a b : Int} : cmp_Compare_int L a b = some (cmpI a b) := by
  unfold cmp_Compare_int cmp_isNaN_int cmpI
  simp only [gbind_eq, ieq_eq, decide_true, Bool.not_true, Option.bind_some, cond_false, ilt_eq]
  by_cases h1 : a < b <;> by_cases h2 : b < a <;> simp [h1, h2]
theorem impl_compare_eq {L : Nat} {p q : Pt} (hL : 5 < L) : ∃ c, impl_comparePegs L p.x p.y q.x q.y = some c ∧ (c < 0 ↔ Less p q) := by
  unfold impl_comparePegs cmp_Or_int
  simp only [gbind_eq, cmp_eq, Option.bind_some]
  obtain ⟨m, rfl⟩ : ∃ m, L = m + 3 := ⟨L - 3, by omega⟩
  have hl : ilen (List.map eI [cmpI p.x q.x, cmpI p.y q.y]) = 2 := by rw [ilen_eq]; rfl
  have g0 : lget [cmpI p.x q.x, cmpI p.y q.y] 0 = some (cmpI p.x q.x) := by rw [lget_eq]; rfl
  have g1 : lget [cmpI p.x q.x, cmpI p.y q.y] 1 = some (cmpI p.y q.y) := by rw [lget_eq]; rfl
  have w1 : wr .i64 (0 + 1) = 1 := wr_id (by decide)
  have w2 : wr .i64 (1 + 1) = 2 := wr_id (by decide)
  simp only [cmp_Or_int_l0, hl, ilt_eq, gbind_eq, g0, g1, iadd_eq, w1, w2, ieq_eq, Option.bind_some, show ((0 : Int) < 2) = True by simp, show ((1 : Int) < 2) = True by simp, show ((2 : Int) < 2) = False by simp, decide_true, decide_false, cond_true, cond_false]
  unfold cmpI Less
  by_cases h1 : p.x < q.x
  · exact ⟨-1, by simp [h1], by simp [h1]⟩
  · by_cases h2 : q.x < p.x
    · exact ⟨1, by simp [h1, h2], by simp [h1]; omega⟩
    · have e : p.x = q.x := by omega
      by_cases h3 : p.y < q.y
      · exact ⟨-1, by simp [h1, h2, h3], by simp [e, h3]⟩
      · by_cases h4 : q.y < p.y
        · exact ⟨1, by simp [h1, h2, h3, h4], by simp [e, h3]⟩
        · exact ⟨0, by simp [h1, h2, h3, h4], by simp [e, h3]⟩
def IsMin (a : List Pt) (k : Int) (n : Int) : Prop := 0 ≤ k ∧ k < (a.length : Int) ∧ ∀ i, 0 ≤ i → i < n → ¬ Less (pt a i) (pt a k)
theorem impl_first_l0_eq {L : Nat} {a : List Pt} (hs : (a.length : Int) ≤ 900000) (hL : 5 < L) : ∀ (m : Nat) (k v : Int), IsMin a k v → 0 ≤ v → v ≤ a.length → (a.length : Int) - v < m →
    ∃ r, impl_first_l0 L a m k v = some r ∧ IsMin a r a.length ∧ ((∀ i, 0 ≤ i → i < (a.length : Int) → ¬ Less (pt a i) (pt a k)) → r = k)
  | 0, _, _, _, _, _, h => by omega
  | m + 1, k, v, hk, h0, hv, hm => by
    by_cases h : v < (a.length : Int)
    · obtain ⟨c, hc, hc2⟩ := impl_compare_eq (p := pt a v) (q := pt a k) hL
      simp only [impl_first_l0, ilt_eq, ilen_mapep, h, decide_true, cond_true, gbind_eq, lget_pt h0 h, lget_pt hk.1 hk.2.1, Option.bind_some, hc, iadd_eq, wr_s (i := v + 1) (by omega)]
      by_cases hl : Less (pt a v) (pt a k)
      · simp only [hc2.2 hl, decide_true, cond_true]
        obtain ⟨r, r1, r2, r3⟩ := impl_first_l0_eq (L := L) hs hL m v (v + 1) ⟨h0, h, fun i q1 q2 => by
          by_cases e : i = v
          · subst e; exact Less.irrefl _
          · exact fun q => hk.2.2 i q1 (by omega) (q.trans hl)⟩ (by omega) (by omega) (by omega)
        exact ⟨r, r1, r2, fun hh => absurd hl (hh v h0 h)⟩
      · simp only [show ¬ c < 0 from fun q => hl (hc2.1 q), decide_false, cond_false]
        obtain ⟨r, r1, r2, r3⟩ := impl_first_l0_eq (L := L) hs hL m k (v + 1) ⟨hk.1, hk.2.1, fun i q1 q2 => by
          by_cases e : i = v
          · subst e; exact hl
          · exact hk.2.2 i q1 (by omega)⟩ (by omega) (by omega) (by omega)
        exact ⟨r, r1, r2, r3⟩
    · have e : v = a.length := by omega
      subst e
      simp only [impl_first_l0, ilt_eq, ilen_mapep, h, decide_false, cond_false]
      exact ⟨k, rfl, hk, fun _ => rfl⟩
theorem impl_first_eq {L : Nat} {a : List Pt} (hn : a ≠ []) (hs : (a.length : Int) ≤ 900000) (hL : (a.length : Int) + 5 < L) : ∃ r, impl_first L a = some r ∧ IsMin a r a.length ∧ ((∀ i, 0 ≤ i → i < (a.length : Int) → ¬ Less (pt a i) (pt a 0)) → r = 0) := by
  have hl : 0 < (a.length : Int) := by have := List.length_pos_iff.2 hn; omega
  exact impl_first_l0_eq hs (by omega) L 0 0 ⟨Int.le_refl _, hl, fun i q1 q2 => by omega⟩ (Int.le_refl _) (by omega) (by omega)
def tour (a : List Pt) (k s : Int) (n : Nat) : List Pt := (List.range n).map fun (j : Nat) => pt a (k + (j : Int) * s)
theorem fits_s {n : Int} {b : Nat} (h : n * b ≤ 140737488355328) : fits n b = true := by rw [fits_eq]; exact decide_eq_true h
theorem impl_told_l0_eq {L : Nat} {a : List Pt} {k s : Int} (hn : a ≠ []) (hs : (a.length : Int) ≤ 900000) (hk : 0 ≤ k ∧ k ≤ 900000) (hst : -1 ≤ s ∧ s ≤ 1) : ∀ (m : Nat) (v : Nat), v ≤ a.length → (a.length : Int) - v < m →
    impl_told_l0 L a k s m v (tour a k s v) = some (tour a k s a.length)
  | 0, _, _, h => by omega
  | m + 1, v, hv, hm => by
    by_cases h : (v : Int) < (a.length : Int)
    · have hb := mul_bd (x := v) (y := s) (A := 900000) (B := 1) (by omega) (by omega)
      have hlen : ((tour a k s v).length : Int) = v := by simp [tour]
      simp only [impl_told_l0, ilt_eq, ilen_mapep, h, decide_true, cond_true, gbind_eq, iadd_eq, imul_eq, wr_s (i := (v : Int) * s) (by omega), wr_id (n := k + (v : Int) * s) (by omega), impl_at_eq hn (show (a.length : Int) ≤ 1000000000 by omega), Option.bind_some, hlen, wr_s (i := (v : Int) + 1) (by omega)]
      rw [fits_s (by rw [ilen_eq]; simp; omega)]
      simp only [cond_true]
      have e : lcat (tour a k s v) [{ x := (pt a (k + v * s)).x, y := (pt a (k + v * s)).y }] = tour a k s (v + 1) := by
        rw [lcat_eq]; simp [tour, List.range_succ]
      rw [e]
      exact impl_told_l0_eq hn hs hk hst m (v + 1) (by omega) (by omega)
    · have e : v = a.length := by omega
      subst e
      simp only [impl_told_l0, ilt_eq, ilen_mapep, h, decide_false, cond_false]
theorem impl_told_eq {L : Nat} {a : List Pt} {k s : Int} (hn : a ≠ []) (hs : (a.length : Int) ≤ 900000) (hk : 0 ≤ k ∧ k ≤ 900000) (hst : -1 ≤ s ∧ s ≤ 1) (hL : (a.length : Int) < L) : impl_told L a k s = some (tour a k s a.length) := by
  unfold impl_told
  simp only [ile_eq, ilen_mapep, Int.le_refl, show 0 ≤ (a.length : Int) by omega, decide_true, Bool.and_self, fits_s (n := (a.length : Int)) (b := 16) (by omega), cond_true]
  have := impl_told_l0_eq (L := L) hn hs hk hst L 0 (by omega) (by omega)
  have e : tour a k s 0 = [] := rfl
  rw [e] at this
  rw [lrep_eq]
  exact this
end Go.AM
namespace Go.AM
theorem tour_len (a : List Pt) (k s : Int) (n : Nat) : (tour a k s n).length = n := by simp [tour]
theorem tour_get {a : List Pt} {k s : Int} {n j : Nat} (h : j < n) : (tour a k s n)[j]? = some (pt a (k + (j : Int) * s)) := by simp [tour, h]
theorem pt_tour {a : List Pt} {k s i : Int} (hn : a ≠ []) : pt (tour a k s a.length) i = pt a (k + (i % (a.length : Int)) * s) := by
  have hl : 0 < (a.length : Int) := by have := List.length_pos_iff.2 hn; omega
  have h1 := Int.emod_nonneg i (show (a.length : Int) ≠ 0 by omega)
  have h2 := Int.emod_lt_of_pos i hl
  conv => lhs; unfold pt
  rw [tour_len, List.getD_eq_getElem?_getD, tour_get (by omega), Int.toNat_of_nonneg h1]
  rfl
theorem tour_ext {a b : List Pt} {k s k' s' : Int} {n : Nat} (h : ∀ j : Nat, j < n → pt a (k + (j : Int) * s) = pt b (k' + (j : Int) * s')) : tour a k s n = tour b k' s' n := by
  unfold tour
  refine List.map_congr_left fun j hj => h j (by simpa using hj)
theorem rot_eq {c : List Pt} {k : Int} (h0 : 0 ≤ k) (h1 : k < c.length) : c.drop k.toNat ++ c.take k.toNat = tour c k 1 c.length := by
  apply List.ext_getElem?
  intro j
  by_cases hj : j < c.length
  · rw [tour_get hj, List.getElem?_append]
    simp only [List.length_drop, List.getElem?_drop, List.getElem?_take]
    split
    · have := pt_get (a := c) (i := k + j) (by omega) (by omega)
      rw [show k + (j : Int) * 1 = k + j by omega, ← this]
      congr 1; omega
    · rw [if_pos (by omega)]
      have := pt_get (a := c) (i := k + j - c.length) (by omega) (by omega)
      rw [show k + (j : Int) * 1 = k + j by omega]
      have e : pt c (k + j) = pt c (k + j - c.length) := pt_congr (by simp)
      rw [e, ← this]
      congr 1; omega
  · rw [List.getElem?_eq_none (by simp; omega), List.getElem?_eq_none (by rw [tour_len]; omega)]
theorem back_l0 {L : Nat} {a : List Pt} (hn : a ≠ []) (hs : (a.length : Int) ≤ 900000) : ∀ (m : Nat) (v : Int), 0 ≤ v → v < a.length → v < m → spec_pgBack_l0 L a m v (tour a 0 (-1) (a.length - v.toNat)) = some (tour a 0 (-1) a.length)
  | 0, _, _, _, h => by omega
  | m + 1, v, h0, hv, hm => by
    by_cases h : 0 < v
    · simp only [spec_pgBack_l0, ilt_eq, ilen_mapep, h, decide_true, cond_true, gbind_eq, iadd_eq, isub_eq, lget_pt h0 hv, Option.bind_some, tour_len, wr_s (i := v - 1) (by omega)]
      rw [fits_s (by rw [ilen_eq]; simp; omega)]
      simp only [cond_true]
      have e : lcat (tour a 0 (-1) (a.length - v.toNat)) [pt a v] = tour a 0 (-1) (a.length - (v - 1).toNat) := by
        rw [lcat_eq, show a.length - (v - 1).toNat = (a.length - v.toNat) + 1 by omega]
        have : pt a v = pt a (0 + ((a.length - v.toNat : Nat) : Int) * (-1)) := by
          rw [show 0 + ((a.length - v.toNat : Nat) : Int) * (-1) = v - a.length by omega]
          exact pt_congr (by simp)
        rw [this]
        simp [tour, List.range_succ]
      rw [e]
      exact back_l0 hn hs m (v - 1) (by omega) (by omega) (by omega)
    · have e : v = 0 := by omega
      subst e
      simp only [spec_pgBack_l0, ilt_eq, h, decide_false, cond_false]
      rfl
theorem spec_pgBack_eq {L : Nat} {a : List Pt} (hn : a ≠ []) (hs : (a.length : Int) ≤ 900000) (hL : (a.length : Int) < L) : spec_pgBack L a = some (tour a 0 (-1) a.length) := by
  have hl : 0 < (a.length : Int) := by have := List.length_pos_iff.2 hn; omega
  unfold spec_pgBack
  simp only [gbind_eq, lget_pt (Int.le_refl 0) hl, Option.bind_some, ilen_mapep, isub_eq, wr_s (i := (a.length : Int) - 1) (by omega)]
  have := back_l0 (L := L) hn hs L ((a.length : Int) - 1) (by omega) (by omega) (by omega)
  have e : tour a 0 (-1) (a.length - ((a.length : Int) - 1).toNat) = [pt a 0] := by
    rw [show a.length - ((a.length : Int) - 1).toNat = 1 by omega]
    rfl
  rw [e] at this
  exact this
end Go.AM
namespace Go.AM
theorem pt_mod (a : List Pt) (i : Int) : pt a (i % (a.length : Int)) = pt a i := pt_congr (Int.emod_emod_of_dvd _ (Int.dvd_refl _))
theorem isMin_all {a : List Pt} {k : Int} (hn : a ≠ []) (h : IsMin a k a.length) (i : Int) : ¬ Less (pt a i) (pt a k) := by
  have hl : 0 < (a.length : Int) := by have := List.length_pos_iff.2 hn; omega
  have := h.2.2 (i % a.length) (Int.emod_nonneg _ (by omega)) (Int.emod_lt_of_pos _ hl)
  rwa [pt_mod] at this
theorem pt_inj {a : List Pt} (hn : a ≠ []) (hd : ∀ i k, 0 ≤ k → k < i → i < (a.length : Int) → pt a k ≠ pt a i) {i j : Int} (h : pt a i = pt a j) : i % (a.length : Int) = j % (a.length : Int) := by
  have hl : 0 < (a.length : Int) := by have := List.length_pos_iff.2 hn; omega
  rw [← pt_mod a i, ← pt_mod a j] at h
  have h1 := Int.emod_nonneg i (show (a.length : Int) ≠ 0 by omega)
  have h2 := Int.emod_lt_of_pos i hl
  have h3 := Int.emod_nonneg j (show (a.length : Int) ≠ 0 by omega)
  have h4 := Int.emod_lt_of_pos j hl
  rcases Int.lt_trichotomy (i % (a.length : Int)) (j % (a.length : Int)) with q | q | q
  · exact absurd h (hd _ _ h1 q h4)
  · exact q
  · exact absurd h.symm (hd _ _ h3 q h2)
end Go.AM
namespace Go.AM
theorem step_dvd (p q : Pt) : step p q ∣ (q.x - p.x) ∧ step p q ∣ (q.y - p.y) := by
  unfold step
  constructor
  · rw [Int.ofNat_dvd_left, show (q.x - p.x).natAbs = (p.x - q.x).natAbs by omega]; exact Nat.gcd_dvd_left _ _
  · rw [Int.ofNat_dvd_left, show (q.y - p.y).natAbs = (p.y - q.y).natAbs by omega]; exact Nat.gcd_dvd_right _ _
theorem tdiv_bd {a b A : Int} (h : -A ≤ a ∧ a ≤ A) : -A ≤ a.tdiv b ∧ a.tdiv b ≤ A := by
  have h1 : (a.tdiv b).natAbs ≤ a.natAbs := by rw [Int.natAbs_tdiv]; exact Nat.div_le_self _ _
  omega
end Go.AM
namespace Go.AM
theorem step_pos {p q : Pt} (h : p ≠ q) : 0 < step p q := by
  unfold step
  have : 0 < Nat.gcd (p.x - q.x).natAbs (p.y - q.y).natAbs := by
    rw [Nat.gcd_pos_iff]
    by_cases hx : p.x = q.x
    · right
      have : p.y ≠ q.y := fun e => h (by cases p; cases q; simp_all)
      omega
    · left; omega
  omega
end Go.AM
namespace Go.AM
end Go.AM
namespace Go.AM
end Go.AM
namespace Go.AM
def Pos (v : Pt) : Prop := 0 < v.x ∨ (v.x = 0 ∧ 0 < v.y)
def Neg (v : Pt) : Prop := v.x < 0 ∨ (v.x = 0 ∧ v.y < 0)
instance (v : Pt) : Decidable (Pos v) := by unfold Pos; infer_instance
instance (v : Pt) : Decidable (Neg v) := by unfold Neg; infer_instance
end Go.AM
namespace Go.AM
def df (a c : Pt) : Pt := ⟨c.x - a.x, c.y - a.y⟩
theorem not_meet_ne {A B C D : Pt} (h : ¬ Meet A B C D) : A ≠ C ∧ A ≠ D ∧ B ≠ C ∧ B ≠ D := by
  unfold Meet at h
  simp only [not_or] at h
  obtain ⟨h1, h2, h3, h4, h5⟩ := h
  refine ⟨fun e => h1 ?_, fun e => h2 ?_, fun e => h1 ?_, fun e => h2 ?_⟩ <;> subst e <;> unfold OnL turn <;> refine ⟨by grind, by simp, by simp⟩
end Go.AM
namespace Go.AM
structure LP (n : Int) (P : Int → Pt) : Prop where
  n3 : 3 ≤ n
  per : ∀ i, P (i + n) = P i
  left : ∀ i, 0 < turn (P i) (P (i + 1)) (P (i + 2))
  apart : ∀ i k, i + 2 ≤ k → k - i < n - 1 → ¬ Meet (P i) (P (i + 1)) (P k) (P (k + 1))
section
variable {n : Int} {P : Int → Pt}
def eg (P : Int → Pt) (i : Int) : Pt := df (P i) (P (i + 1))
theorem turn_eg (P : Int → Pt) (i : Int) : turn (P i) (P (i + 1)) (P (i + 2)) = cross (eg P i) (eg P (i + 1)) := by
  unfold eg df turn cross
  rw [show i + 1 + 1 = i + 2 by omega]
  grind
end
end Go.AM
namespace Go.AM
section
variable {n : Int} {P : Int → Pt}
theorem LP.cr (h : LP n P) (i : Int) : 0 < cross (eg P i) (eg P (i + 1)) := by have := h.left i; rwa [turn_eg] at this
theorem LP.nz (h : LP n P) (i : Int) : eg P i ≠ ⟨0, 0⟩ := fun e => by
  have := h.cr i; rw [e] at this; unfold cross at this; simp at this
theorem LP.ne (h : LP n P) {i j : Int} (h0 : i < j) (h1 : j < i + n) : P i ≠ P j := by
  have n3 := h.n3
  have step : ∀ i, P i ≠ P (i + 1) := fun i e => h.nz i (by unfold eg df; rw [← e]; simp)
  by_cases e1 : j = i + 1
  · subst e1; exact step i
  · by_cases e2 : j = i + n - 1
    · intro e
      have := step j
      rw [show j + 1 = i + n by omega, h.per] at this
      exact this e.symm
    · exact (not_meet_ne (h.apart i j (by omega) (by omega))).1
end
end Go.AM
namespace Go.AM
def Up (A B : Pt) (y : Int) : Prop := A.y ≤ y ∧ y < B.y
def Dn (A B : Pt) (y : Int) : Prop := B.y ≤ y ∧ y < A.y
instance (A B : Pt) (y : Int) : Decidable (Up A B y) := by unfold Up; infer_instance
instance (A B : Pt) (y : Int) : Decidable (Dn A B y) := by unfold Dn; infer_instance
section
variable {n : Int} {P : Int → Pt}
end
end Go.AM
namespace Go.AM
theorem onL_rev {a b p : Pt} : OnL b a p ↔ OnL a b p := by
  unfold OnL
  rw [turn_swap a b p, Int.mul_comm (b.x - p.x), Int.mul_comm (b.y - p.y)]
  constructor <;> intro ⟨h1, h2, h3⟩ <;> exact ⟨by omega, h2, h3⟩
theorem sg_neg (n : Int) : sg (-n) = - sg n := by
  unfold sg
  rcases Int.lt_trichotomy n 0 with h | h | h
  · rw [if_pos (by omega), if_neg (by omega), if_pos h]; rfl
  · subst h; simp
  · rw [if_neg (by omega), if_pos (by omega), if_pos h]
theorem meet_sym {A B C D : Pt} : Meet A B C D ↔ Meet C D A B := by
  unfold Meet
  constructor
  · rintro (h | h | h | h | ⟨h1, h2⟩)
    · exact .inr (.inr (.inl h))
    · exact .inr (.inr (.inr (.inl h)))
    · exact .inl h
    · exact .inr (.inl h)
    · exact .inr (.inr (.inr (.inr ⟨h2, h1⟩)))
  · rintro (h | h | h | h | ⟨h1, h2⟩)
    · exact .inr (.inr (.inl h))
    · exact .inr (.inr (.inr (.inl h)))
    · exact .inl h
    · exact .inr (.inl h)
    · exact .inr (.inr (.inr (.inr ⟨h2, h1⟩)))
theorem meet_rev1 {A B C D : Pt} : Meet B A C D → Meet A B C D := by
  unfold Meet
  rw [turn_swap A B C, turn_swap A B D, sg_neg, sg_neg, Int.neg_mul_neg, Int.mul_comm (sg (turn C D B)) (sg (turn C D A)), onL_rev (a := A) (b := B) (p := C), onL_rev (a := A) (b := B) (p := D)]
  rintro (h | h | h | h | h)
  · exact .inl h
  · exact .inr (.inl h)
  · exact .inr (.inr (.inr (.inl h)))
  · exact .inr (.inr (.inl h))
  · exact .inr (.inr (.inr (.inr h)))
theorem meet_rev {A B C D : Pt} (h : Meet B A D C) : Meet A B C D := meet_sym.1 (meet_rev1 (meet_sym.1 (meet_rev1 h)))
theorem Good_.apartAll {a : List Pt} (g : Good_ a) {i k : Int} (h1 : i + 2 ≤ k) (h2 : k - i < (a.length : Int) - 1) : ¬ Meet (pt a i) (pt a (i + 1)) (pt a k) (pt a (k + 1)) := by
  have lo := g.lo
  have q1 := Int.emod_nonneg i (show (a.length : Int) ≠ 0 by omega)
  have q2 := Int.emod_lt_of_pos i (show 0 < (a.length : Int) by omega)
  have q3 := Int.mul_ediv_add_emod i a.length
  have e : ∀ d : Int, pt a (i % a.length + d) = pt a (i + d) := fun d => pt_congr (by rw [Int.emod_add_emod])
  have e0 := e 0; have e1 := e 1; have e2 := e (k - i); have e3 := e (k + 1 - i)
  rw [Int.add_zero, Int.add_zero] at e0
  rw [show i + (k - i) = k by omega] at e2
  rw [show i + (k + 1 - i) = k + 1 by omega] at e3
  rw [← e0, ← e1, ← e2, ← e3]
  by_cases hw : i % (a.length : Int) + (k - i) < a.length
  · have := g.apart (i % a.length) (i % a.length + (k - i)) q1 (by omega) hw (by omega)
    rwa [show i % (a.length : Int) + (k - i) + 1 = i % a.length + (k + 1 - i) by omega] at this
  · have := g.apart (i % a.length + (k - i) - a.length) (i % a.length) (by omega) (by omega) q2 (by omega)
    intro hm
    apply this
    have c : ∀ x : Int, pt a (x - a.length) = pt a x := fun x => pt_congr (by rw [Int.sub_emod_right])
    rw [c, show i % (a.length : Int) + (k - i) - a.length + 1 = i % a.length + (k + 1 - i) - a.length by omega, c]
    exact meet_sym.1 hm
theorem pt_per (a : List Pt) (i : Int) : pt a (i + a.length) = pt a i := pt_congr (by rw [Int.add_emod_right])
theorem sm_plus (f g : Int → Int) : ∀ k : Nat, sm (fun i => f i + g i) k = sm f k + sm g k
  | 0 => rfl
  | k + 1 => by simp only [sm]; rw [sm_plus f g k]; omega
theorem sm_round {f : Int → Int} {k : Nat} (h : f k = f 0) : sm (fun i => f (i + 1)) k = sm f k := by
  have key : ∀ m : Nat, sm (fun i => f (i + 1)) m + f 0 = sm f m + f m := by
    intro m
    induction m with
    | zero => rfl
    | succ m ih => simp only [sm]; rw [show ((m + 1 : Nat) : Int) = (m : Int) + 1 by omega]; omega
  have := key k
  omega
end Go.AM
namespace Go.AM
theorem idxLoop {β γ : Type} {f : Nat → Int → List β → Option γ} {H : Int → β} {n : Nat} {K : List β → Option γ} (hstop : ∀ m w, f (m + 1) n w = K w)
    (hgo : ∀ m v w, 0 ≤ v → v < (n : Int) → w.length ≤ n → f (m + 1) v w = f m (v + 1) (w ++ [H v])) : ∀ (m i : Nat), i ≤ n → n - i < m → f m i ((List.range i).map fun (j : Nat) => H j) = K ((List.range n).map fun (j : Nat) => H j)
  | 0, i, _, hm => by omega
  | m + 1, i, hi, hm => by
    by_cases h : i < n
    · rw [hgo m i _ (by omega) (by omega) (by simp; omega)]
      have e : (List.range i).map (fun (j : Nat) => H j) ++ [H i] = (List.range (i + 1)).map fun (j : Nat) => H j := by simp [List.range_succ]
      rw [e]
      exact idxLoop hstop hgo m (i + 1) (by omega) (by omega)
    · have e : i = n := by omega
      subst e
      exact hstop m _
theorem pt_tour' {a : List Pt} {k s : Int} (hn : a ≠ []) (i : Int) : pt (tour a k s a.length) i = pt a (k + i * s) := by
  rw [pt_tour hn]
  apply pt_congr
  rw [Int.add_emod, Int.mul_emod, Int.emod_emod_of_dvd _ (Int.dvd_refl _), ← Int.mul_emod, ← Int.add_emod]
end Go.AM
namespace Go.AM
theorem tmod_abs (a b : Int) : (a.tmod b).natAbs = a.natAbs % b.natAbs := Int.natAbs_tmod a b
theorem rem_abs {a b : Int} (hb : b ≠ 0) : ((a - a.tdiv b * b).natAbs : Int) = a.natAbs - (a.tdiv b).natAbs * b.natAbs ∧ (a - a.tdiv b * b) = a.tmod b := by
  have h1 : a - a.tdiv b * b = a.tmod b := by
    have := Int.tmod_add_mul_tdiv a b
    rw [Int.mul_comm b] at this
    omega
  refine ⟨?_, h1⟩
  rw [h1, tmod_abs, Int.natAbs_tdiv]
  have := Nat.div_add_mod a.natAbs b.natAbs
  have h2 : ((a.natAbs.div b.natAbs : Nat) : Int) * (b.natAbs : Int) = ((b.natAbs * (a.natAbs / b.natAbs) : Nat) : Int) := by rw [Nat.mul_comm b.natAbs]; simp; rfl
  rw [h2]
  omega
structure Bz (a0 b0 a b u x v y : Int) : Prop where
  e1 : u * a0 + v * b0 = a
  e2 : x * a0 + y * b0 = b
  k1 : (u.natAbs : Int) * b.natAbs + x.natAbs * a.natAbs ≤ b0.natAbs
  k2 : (v.natAbs : Int) * b.natAbs + y.natAbs * a.natAbs ≤ a0.natAbs
  hu : u.natAbs ≤ 1 ∨ (u.natAbs : Int) ≤ b0.natAbs
  hv : v.natAbs ≤ 1 ∨ (v.natAbs : Int) ≤ a0.natAbs
  hx : x.natAbs ≤ 1 ∨ (x.natAbs : Int) ≤ b0.natAbs
  hy : y.natAbs ≤ 1 ∨ (y.natAbs : Int) ≤ a0.natAbs
  gcd : Nat.gcd a.natAbs b.natAbs = Nat.gcd a0.natAbs b0.natAbs
  ha : a.natAbs ≤ 4000
  hb : b.natAbs ≤ 4000
theorem bz0 {a0 b0 : Int} (ha : a0.natAbs ≤ 4000) (hb : b0.natAbs ≤ 4000) : Bz a0 b0 a0 b0 1 0 0 1 := by
  refine ⟨by omega, by omega, by simp, by simp, .inl (by simp), .inl (by simp), .inl (by simp), .inl (by simp), rfl, ha, hb⟩
theorem mul_le_of {a b c : Nat} (h : (a : Int) * b ≤ c) (hb : 0 < b) : a ≤ c := by
  have h1 : a * b ≤ c := by exact_mod_cast h
  exact Nat.le_trans (Nat.le_mul_of_pos_right a hb) h1
theorem bz_step {a0 b0 a b u x v y : Int} (h : Bz a0 b0 a b u x v y) (hb : b ≠ 0) : Bz a0 b0 b (a - a.tdiv b * b) x (u - a.tdiv b * x) y (v - a.tdiv b * y) := by
  obtain ⟨r1, r2⟩ := rem_abs (a := a) hb
  have tri : ∀ p q z : Int, ((p - q * z).natAbs : Int) ≤ p.natAbs + q.natAbs * z.natAbs := fun p q z => by
    have := Int.natAbs_sub_le p (q * z)
    rw [Int.natAbs_mul] at this
    have e : ((q.natAbs * z.natAbs : Nat) : Int) = (q.natAbs : Int) * z.natAbs := by simp
    omega
  have key : ∀ p z : Int, ∀ c : Nat, (p.natAbs : Int) * b.natAbs + z.natAbs * a.natAbs ≤ c → (z.natAbs : Int) * (a - a.tdiv b * b).natAbs + ((p - a.tdiv b * z).natAbs : Int) * b.natAbs ≤ c := fun p z c hc => by
    have t := tri p (a.tdiv b) z
    have hbn : (0 : Int) ≤ b.natAbs := by omega
    have m := Int.mul_le_mul_of_nonneg_right t hbn
    rw [r1]
    have e1 : (z.natAbs : Int) * (a.natAbs - (a.tdiv b).natAbs * b.natAbs) = z.natAbs * a.natAbs - (a.tdiv b).natAbs * z.natAbs * b.natAbs := by grind
    have e2 : ((p.natAbs : Int) + (a.tdiv b).natAbs * z.natAbs) * b.natAbs = p.natAbs * b.natAbs + (a.tdiv b).natAbs * z.natAbs * b.natAbs := by grind
    rw [e1]
    rw [e2] at m
    omega
  have hbp : 0 < b.natAbs := by omega
  have n1 := key u x _ h.k1
  have n2 := key v y _ h.k2
  have bd : ∀ p q : Int, ∀ c : Nat, (q.natAbs : Int) * (a - a.tdiv b * b).natAbs + (p.natAbs : Int) * b.natAbs ≤ c → p.natAbs ≤ 1 ∨ (p.natAbs : Int) ≤ c := fun p q c hc => by
    right
    have : (p.natAbs : Int) * b.natAbs ≤ c := by
      have : (0 : Int) ≤ q.natAbs * (a - a.tdiv b * b).natAbs := by exact_mod_cast Nat.zero_le _
      omega
    exact_mod_cast mul_le_of this hbp
  refine ⟨h.e2, ?_, n1, n2, h.hx, h.hy, bd _ _ _ n1, bd _ _ _ n2, ?_, h.hb, ?_⟩
  · have := h.e1; have := h.e2; subst_vars; grind
  · rw [r2, tmod_abs, ← h.gcd, Nat.gcd_comm, ← Nat.gcd_rec, Nat.gcd_comm]
  · rw [r2, tmod_abs]
    have := Nat.mod_le a.natAbs b.natAbs
    have := h.ha
    omega
theorem bz_q {a0 b0 a b u x v y : Int} (h : Bz a0 b0 a b u x v y) (hb : b ≠ 0) (hA : a0.natAbs ≤ 4000) (hB : b0.natAbs ≤ 4000) :
    (-4000 ≤ a.tdiv b ∧ a.tdiv b ≤ 4000) ∧ (-4000 ≤ a.tdiv b * x ∧ a.tdiv b * x ≤ 4000) ∧ (-4000 ≤ a.tdiv b * y ∧ a.tdiv b * y ≤ 4000) ∧ (-4000 ≤ a.tdiv b * b ∧ a.tdiv b * b ≤ 4000) := by
  have hq : (a.tdiv b).natAbs * b.natAbs ≤ a.natAbs := by
    rw [Int.natAbs_tdiv]
    exact Nat.div_mul_le_self _ _
  have hbp : 0 < b.natAbs := by omega
  have hq1 : (a.tdiv b).natAbs ≤ a.natAbs := Nat.le_trans (Nat.le_mul_of_pos_right _ hbp) hq
  have one : ∀ z : Int, ∀ c : Nat, (z.natAbs : Int) * a.natAbs ≤ c → c ≤ 4000 → (a.tdiv b * z).natAbs ≤ 4000 := fun z c hz hc => by
    have h1 : z.natAbs * a.natAbs ≤ c := by exact_mod_cast hz
    rw [Int.natAbs_mul, Nat.mul_comm]
    exact Nat.le_trans (Nat.mul_le_mul_left _ hq1) (Nat.le_trans h1 hc)
  have p1 : (x.natAbs : Int) * a.natAbs ≤ b0.natAbs := by
    have := h.k1
    have : (0 : Int) ≤ u.natAbs * b.natAbs := by exact_mod_cast Nat.zero_le _
    omega
  have p2 : (y.natAbs : Int) * a.natAbs ≤ a0.natAbs := by
    have := h.k2
    have : (0 : Int) ≤ v.natAbs * b.natAbs := by exact_mod_cast Nat.zero_le _
    omega
  have q1 := one x _ p1 hB
  have q2 := one y _ p2 hA
  have q3 : (a.tdiv b * b).natAbs ≤ 4000 := by rw [Int.natAbs_mul]; exact Nat.le_trans hq h.ha
  have := h.ha
  omega
theorem bezout_l0 {L : Nat} {a0 b0 : Int} (hA : a0.natAbs ≤ 4000) (hB : b0.natAbs ≤ 4000) : ∀ (m : Nat) (a b u x v y : Int), Bz a0 b0 a b u x v y → b.natAbs < m →
    ∃ g p q, impl_bezout_l0 L m a b u v x y = some (g, p, q) ∧ spec_mvFull_l0 L m a b u v x y = some (if g < 0 then (-p, -q) else (p, q)) ∧
      p * a0 + q * b0 = g ∧ g.natAbs = Nat.gcd a0.natAbs b0.natAbs ∧ (-4000 ≤ p ∧ p ≤ 4000) ∧ (-4000 ≤ q ∧ q ≤ 4000)
  | 0, _, _, _, _, _, _, _, h => by omega
  | m + 1, a, b, u, x, v, y, h, hm => by
    by_cases hb : b = 0
    · subst hb
      have bu : -4000 ≤ u ∧ u ≤ 4000 := by have := h.hu; omega
      have bv : -4000 ≤ v ∧ v ≤ 4000 := by have := h.hv; omega
      refine ⟨a, u, v, ?_, ?_, h.e1, ?_, bu, bv⟩
      · simp only [impl_bezout_l0, ieq_eq, decide_true, Bool.not_true, cond_false]
      · simp only [spec_mvFull_l0, ieq_eq, ilt_eq, isub_eq, decide_true, Bool.not_true, cond_false]
        rw [wr_id (n := 0 - u) (by omega), wr_id (n := 0 - v) (by omega)]
        by_cases ha : a < 0
        · simp only [ha, decide_true, cond_true, if_true]; congr 2 <;> omega
        · simp only [ha, decide_false, cond_false, if_false]
      · have := h.gcd; simpa using this
    · obtain ⟨b1, b2, b3, b4⟩ := bz_q h hb hA hB
      have k1 := h.hu; have k2 := h.hv; have k3 := h.ha
      have s := bz_step h hb
      obtain ⟨r1, r2⟩ := rem_abs (a := a) hb
      have hlt : (a - a.tdiv b * b).natAbs < m := by
        rw [r2, tmod_abs]
        have := Nat.mod_lt a.natAbs (show 0 < b.natAbs by omega)
        omega
      obtain ⟨g, p, q, e1, e2, e3⟩ := bezout_l0 (L := L) hA hB m _ _ _ _ _ _ s hlt
      refine ⟨g, p, q, ?_, ?_, e3⟩
      · simp only [impl_bezout_l0, ieq_eq, hb, decide_false, Bool.not_false, cond_true, cond_false, iquo_eq, imul_eq, isub_eq]
        rw [wr_id (n := a.tdiv b) (by omega), wr_id (n := a.tdiv b * b) (by omega), wr_id (n := a.tdiv b * x) (by omega), wr_id (n := a.tdiv b * y) (by omega), wr_id (n := a - a.tdiv b * b) (by omega), wr_id (n := u - a.tdiv b * x) (by omega), wr_id (n := v - a.tdiv b * y) (by omega)]
        exact e1
      · simp only [spec_mvFull_l0, ieq_eq, hb, decide_false, Bool.not_false, cond_true, cond_false, iquo_eq, imul_eq, isub_eq]
        rw [wr_id (n := a.tdiv b) (by omega), wr_id (n := a.tdiv b * b) (by omega), wr_id (n := a.tdiv b * x) (by omega), wr_id (n := a.tdiv b * y) (by omega), wr_id (n := a - a.tdiv b * b) (by omega), wr_id (n := u - a.tdiv b * x) (by omega), wr_id (n := v - a.tdiv b * y) (by omega)]
        exact e2
theorem bezout_eq {L : Nat} {a b : Int} (hA : a.natAbs ≤ 4000) (hB : b.natAbs ≤ 4000) (hL : 4000 < L) :
    ∃ g p q, impl_bezout L a b = some (g, p, q) ∧ spec_mvFull L a b = some (if g < 0 then (-p, -q) else (p, q)) ∧
      p * a + q * b = g ∧ g.natAbs = Nat.gcd a.natAbs b.natAbs ∧ (-4000 ≤ p ∧ p ≤ 4000) ∧ (-4000 ≤ q ∧ q ≤ 4000) := by
  unfold impl_bezout spec_mvFull
  exact bezout_l0 hA hB L a b 1 0 0 1 (bz0 hA hB) (by omega)
end Go.AM
namespace Go.AM
theorem take_map_succ {β : Type} {a : List Pt} {h : Pt → β} {v : Int} (h0 : 0 ≤ v) (h1 : v < a.length) : (a.take (v + 1).toNat).map h = (a.take v.toNat).map h ++ [h (pt a v)] := by
  have e : (v + 1).toNat = v.toNat + 1 := by omega
  rw [e, List.take_add_one, pt_get h0 h1]
  simp
theorem mapLoop {β : Type} {f : Nat → Int → List β → Option (List β)} {h : Pt → β} {a : List Pt} (hstop : ∀ m w, f (m + 1) a.length w = some w)
    (hgo : ∀ m v w, 0 ≤ v → v < (a.length : Int) → w.length ≤ a.length → f (m + 1) v w = f m (v + 1) (w ++ [h (pt a v)])) : ∀ (m : Nat) (v : Int), 0 ≤ v → v ≤ a.length → (a.length : Int) - v < m → f m v ((a.take v.toNat).map h) = some (a.map h)
  | 0, v, _, _, hm => by omega
  | m + 1, v, h0, hv, hm => by
    by_cases hvn : v < (a.length : Int)
    · rw [hgo m v _ h0 hvn (by simp; omega), ← take_map_succ h0 hvn]
      exact mapLoop hstop hgo m (v + 1) (by omega) (by omega) (by omega)
    · have e : v = (a.length : Int) := by omega
      subst e
      rw [hstop]
      simp
def brg (A B C D : Int) (o p : Pt) : Pt := ⟨A * (p.x - o.x) + B * (p.y - o.y), C * (p.x - o.x) + D * (p.y - o.y)⟩
theorem spec_mvPeg_eq {L : Nat} {A B C D X Y x y : Int} (hA : -60000000000 ≤ A ∧ A ≤ 60000000000) (hB : -60000000000 ≤ B ∧ B ≤ 60000000000) (hC : -60000000000 ≤ C ∧ C ≤ 60000000000) (hD : -60000000000 ≤ D ∧ D ≤ 60000000000)
    (hX : -1000000000 ≤ X ∧ X ≤ 1000000000) (hY : -1000000000 ≤ Y ∧ Y ≤ 1000000000) (hx : -4000 ≤ x ∧ x ≤ 4000) (hy : -4000 ≤ y ∧ y ≤ 4000) :
    spec_mvPeg L A B C D X Y x y = some (A * x + B * y + X, C * x + D * y + Y) := by
  have h1 := mul_bd hA hx; have h2 := mul_bd hB hy; have h3 := mul_bd hC hx; have h4 := mul_bd hD hy
  unfold spec_mvPeg
  simp only [iadd_eq, imul_eq]
  rw [wr_id (n := A * x) (by omega), wr_id (n := B * y) (by omega), wr_id (n := C * x) (by omega), wr_id (n := D * y) (by omega), wr_id (n := A * x + B * y) (by omega), wr_id (n := C * x + D * y) (by omega), wr_id (n := A * x + B * y + X) (by omega), wr_id (n := C * x + D * y + Y) (by omega)]
theorem impl_bring_eq {L : Nat} {A B C D X Y x y : Int} : impl_Move_bring L A B C D X Y x y = spec_mvPeg L A B C D X Y x y := rfl
theorem less_eq {L : Nat} {p q : Pt} (hp : Nr p) (hq : Nr q) : impl_Peg_less L p.x p.y q.x q.y = some (p.x - q.x, p.y - q.y) := by
  have := sub_bd hp hq
  unfold impl_Peg_less
  simp only [isub_eq]
  rw [wr_id (by omega), wr_id (by omega)]
theorem tdiv_small {a b : Int} {N : Int} (h : -N ≤ a ∧ a ≤ N) : -N ≤ a.tdiv b ∧ a.tdiv b ≤ N := tdiv_bd h
theorem spec_mvFrame_l0_eq {L : Nat} {a : List Pt} {o p1 p2 : Pt} {r : Int} {r1 r2 : Int × Int} {A B C D K : Int} (hin : ∀ i, Nr (pt a i)) (ho : Nr o) (hs : (a.length : Int) ≤ 1000)
    (hC : wr IntKind.i64 (isub 0 (wr IntKind.i64 (iquo (wr IntKind.i64 (isub 0 (wr IntKind.i64 (isub (Pt.y p2) (Pt.y o))))) r))) = C) (hD : wr IntKind.i64 (isub 0 (wr IntKind.i64 (iquo (wr IntKind.i64 (isub (Pt.x p1) (Pt.x o))) r))) = D)
    (hK : wr IntKind.i64 (iquo (wr IntKind.i64 (isub (irem (wr IntKind.i64 (iadd (irem (Prod.fst r2) (wr IntKind.i64 (isub 0 (Prod.snd r2)))) (wr IntKind.i64 (isub 0 (Prod.snd r2))))) (wr IntKind.i64 (isub 0 (Prod.snd r2)))) (Prod.fst r2))) (wr IntKind.i64 (isub 0 (Prod.snd r2)))) = K)
    (hA : wr IntKind.i64 (iadd (Prod.fst r1) (wr IntKind.i64 (imul K C))) = A) (hB : wr IntKind.i64 (iadd (Prod.snd r1) (wr IntKind.i64 (imul K D))) = B)
    (bA : -60000000000 ≤ A ∧ A ≤ 60000000000) (bB : -60000000000 ≤ B ∧ B ≤ 60000000000) (bC : -60000000000 ≤ C ∧ C ≤ 60000000000) (bD : -60000000000 ≤ D ∧ D ≤ 60000000000) (hL : (a.length : Int) < L) :
    spec_mvFrame_l0 L a o p1 p2 r r1 r2 L 0 [] = some (a.map (brg A B C D o)) := by
  have := mapLoop (f := spec_mvFrame_l0 L a o p1 p2 r r1 r2) (h := brg A B C D o) (a := a) (fun m w => by
    simp only [spec_mvFrame_l0, ilt_eq, ilen_mapep, Int.lt_irrefl, decide_false, cond_false]) (fun m v w hv0 h1 hw => by
    have hb := sub_bd (hin v) ho
    simp only [spec_mvFrame_l0, ilt_eq, ilen_mapep, h1, decide_true, cond_true, gbind_eq, lget_pt hv0 h1, Option.bind_some, hC, hD, hK, hA, hB]
    simp only [isub_eq]
    rw [wr_id (n := (pt a v).x - o.x) (by omega), wr_id (n := (pt a v).y - o.y) (by omega), spec_mvPeg_eq bA bB bC bD (by omega) (by omega) (by omega) (by omega)]
    simp only [Option.bind_some, iadd_eq, ilen_eq, List.length_cons, List.length_nil, fits_s (n := (w.length : Int) + ((0 + 1 : Nat) : Int)) (b := 16) (by omega), cond_true, lcat_eq, wr_id (n := v + 1) (by omega)]
    simp [brg]) L 0 (by omega) (by omega) (by omega)
  simpa using this
theorem spec_mvFrame_l1_eq {L : Nat} {a : List Pt} {o p1 p2 : Pt} {r : Int} {r1 r2 : Int × Int} {A B C D K : Int} (hin : ∀ i, Nr (pt a i)) (ho : Nr o) (hs : (a.length : Int) ≤ 1000)
    (hC : wr IntKind.i64 (iquo (wr IntKind.i64 (isub 0 (wr IntKind.i64 (isub (Pt.y p2) (Pt.y o))))) r) = C) (hD : wr IntKind.i64 (iquo (wr IntKind.i64 (isub (Pt.x p1) (Pt.x o))) r) = D)
    (hK : wr IntKind.i64 (iquo (wr IntKind.i64 (isub (irem (wr IntKind.i64 (iadd (irem (Prod.fst r2) (Prod.snd r2)) (Prod.snd r2))) (Prod.snd r2)) (Prod.fst r2))) (Prod.snd r2)) = K)
    (hA : wr IntKind.i64 (iadd (Prod.fst r1) (wr IntKind.i64 (imul K C))) = A) (hB : wr IntKind.i64 (iadd (Prod.snd r1) (wr IntKind.i64 (imul K D))) = B)
    (bA : -60000000000 ≤ A ∧ A ≤ 60000000000) (bB : -60000000000 ≤ B ∧ B ≤ 60000000000) (bC : -60000000000 ≤ C ∧ C ≤ 60000000000) (bD : -60000000000 ≤ D ∧ D ≤ 60000000000) (hL : (a.length : Int) < L) :
    spec_mvFrame_l1 L a o p1 p2 r r1 r2 L 0 [] = some (a.map (brg A B C D o)) := by
  have := mapLoop (f := spec_mvFrame_l1 L a o p1 p2 r r1 r2) (h := brg A B C D o) (a := a) (fun m w => by
    simp only [spec_mvFrame_l1, ilt_eq, ilen_mapep, Int.lt_irrefl, decide_false, cond_false]) (fun m v w hv0 h1 hw => by
    have hb := sub_bd (hin v) ho
    simp only [spec_mvFrame_l1, ilt_eq, ilen_mapep, h1, decide_true, cond_true, gbind_eq, lget_pt hv0 h1, Option.bind_some, hC, hD, hK, hA, hB]
    simp only [isub_eq]
    rw [wr_id (n := (pt a v).x - o.x) (by omega), wr_id (n := (pt a v).y - o.y) (by omega), spec_mvPeg_eq bA bB bC bD (by omega) (by omega) (by omega) (by omega)]
    simp only [Option.bind_some, iadd_eq, ilen_eq, List.length_cons, List.length_nil, fits_s (n := (w.length : Int) + ((0 + 1 : Nat) : Int)) (b := 16) (by omega), cond_true, lcat_eq, wr_id (n := v + 1) (by omega)]
    simp [brg]) L 0 (by omega) (by omega) (by omega)
  simpa using this
theorem impl_frame_l0_eq {L : Nat} {a : List Pt} {o : Pt} {r : Int × Int} {r1 : Int × Int × Int} {r3 : Int × Int} {A B C D K : Int} (h0 : lget a 0 = some o) (hin : ∀ i, Nr (pt a i)) (ho : Nr o) (hs : (a.length : Int) ≤ 1000)
    (hC : wr IntKind.i64 (isub 0 (wr IntKind.i64 (iquo (wr IntKind.i64 (isub 0 (Prod.snd r))) (wr IntKind.i64 (isub 0 (Prod.fst r1)))))) = C) (hD : wr IntKind.i64 (isub 0 (wr IntKind.i64 (iquo (Prod.fst r) (wr IntKind.i64 (isub 0 (Prod.fst r1)))))) = D)
    (hK : wr IntKind.i64 (iquo (wr IntKind.i64 (isub (irem (wr IntKind.i64 (iadd (irem (Prod.fst r3) (wr IntKind.i64 (isub 0 (Prod.snd r3)))) (wr IntKind.i64 (isub 0 (Prod.snd r3))))) (wr IntKind.i64 (isub 0 (Prod.snd r3)))) (Prod.fst r3))) (wr IntKind.i64 (isub 0 (Prod.snd r3)))) = K)
    (hA : wr IntKind.i64 (iadd (wr IntKind.i64 (isub 0 (Prod.fst (Prod.snd r1)))) (wr IntKind.i64 (imul K C))) = A) (hB : wr IntKind.i64 (iadd (wr IntKind.i64 (isub 0 (Prod.snd (Prod.snd r1)))) (wr IntKind.i64 (imul K D))) = B)
    (bA : -60000000000 ≤ A ∧ A ≤ 60000000000) (bB : -60000000000 ≤ B ∧ B ≤ 60000000000) (bC : -60000000000 ≤ C ∧ C ≤ 60000000000) (bD : -60000000000 ≤ D ∧ D ≤ 60000000000) (hL : (a.length : Int) < L) :
    impl_frame_l0 L a r r1 r3 L 0 [] = some (a.map (brg A B C D o)) := by
  have := mapLoop (f := impl_frame_l0 L a r r1 r3) (h := brg A B C D o) (a := a) (fun m w => by
    simp only [impl_frame_l0, ilt_eq, ilen_mapep, Int.lt_irrefl, decide_false, cond_false]) (fun m v w hv0 h1 hw => by
    have hb := sub_bd (hin v) ho
    simp only [impl_frame_l0, ilt_eq, ilen_mapep, h1, decide_true, cond_true, gbind_eq, lget_pt hv0 h1, Option.bind_some, hC, hD, hK, hA, hB, h0]
    rw [less_eq (hin v) ho]
    simp only [Option.bind_some, impl_bring_eq]
    rw [spec_mvPeg_eq bA bB bC bD (by omega) (by omega) (by omega) (by omega)]
    simp only [Option.bind_some, iadd_eq, ilen_eq, List.length_cons, List.length_nil, fits_s (n := (w.length : Int) + ((0 + 1 : Nat) : Int)) (b := 16) (by omega), cond_true, lcat_eq, wr_id (n := v + 1) (by omega)]
    simp [brg]) L 0 (by omega) (by omega) (by omega)
  simpa using this
theorem impl_frame_l1_eq {L : Nat} {a : List Pt} {o : Pt} {r : Int × Int} {r1 : Int × Int × Int} {r3 : Int × Int} {A B C D K : Int} (h0 : lget a 0 = some o) (hin : ∀ i, Nr (pt a i)) (ho : Nr o) (hs : (a.length : Int) ≤ 1000)
    (hC : wr IntKind.i64 (iquo (wr IntKind.i64 (isub 0 (Prod.snd r))) (wr IntKind.i64 (isub 0 (Prod.fst r1)))) = C) (hD : wr IntKind.i64 (iquo (Prod.fst r) (wr IntKind.i64 (isub 0 (Prod.fst r1)))) = D)
    (hK : wr IntKind.i64 (iquo (wr IntKind.i64 (isub (irem (wr IntKind.i64 (iadd (irem (Prod.fst r3) (Prod.snd r3)) (Prod.snd r3))) (Prod.snd r3)) (Prod.fst r3))) (Prod.snd r3)) = K)
    (hA : wr IntKind.i64 (iadd (wr IntKind.i64 (isub 0 (Prod.fst (Prod.snd r1)))) (wr IntKind.i64 (imul K C))) = A) (hB : wr IntKind.i64 (iadd (wr IntKind.i64 (isub 0 (Prod.snd (Prod.snd r1)))) (wr IntKind.i64 (imul K D))) = B)
    (bA : -60000000000 ≤ A ∧ A ≤ 60000000000) (bB : -60000000000 ≤ B ∧ B ≤ 60000000000) (bC : -60000000000 ≤ C ∧ C ≤ 60000000000) (bD : -60000000000 ≤ D ∧ D ≤ 60000000000) (hL : (a.length : Int) < L) :
    impl_frame_l1 L a r r1 r3 L 0 [] = some (a.map (brg A B C D o)) := by
  have := mapLoop (f := impl_frame_l1 L a r r1 r3) (h := brg A B C D o) (a := a) (fun m w => by
    simp only [impl_frame_l1, ilt_eq, ilen_mapep, Int.lt_irrefl, decide_false, cond_false]) (fun m v w hv0 h1 hw => by
    have hb := sub_bd (hin v) ho
    simp only [impl_frame_l1, ilt_eq, ilen_mapep, h1, decide_true, cond_true, gbind_eq, lget_pt hv0 h1, Option.bind_some, hC, hD, hK, hA, hB, h0]
    rw [less_eq (hin v) ho]
    simp only [Option.bind_some, impl_bring_eq]
    rw [spec_mvPeg_eq bA bB bC bD (by omega) (by omega) (by omega) (by omega)]
    simp only [Option.bind_some, iadd_eq, ilen_eq, List.length_cons, List.length_nil, fits_s (n := (w.length : Int) + ((0 + 1 : Nat) : Int)) (b := 16) (by omega), cond_true, lcat_eq, wr_id (n := v + 1) (by omega)]
    simp [brg]) L 0 (by omega) (by omega) (by omega)
  simpa using this
theorem impl_frame_l2_eq {L : Nat} {a : List Pt} {o : Pt} {r : Int × Int} {r1 : Int × Int × Int} {r9 : Int × Int} {A B C D K : Int} (h0 : lget a 0 = some o) (hin : ∀ i, Nr (pt a i)) (ho : Nr o) (hs : (a.length : Int) ≤ 1000)
    (hC : wr IntKind.i64 (isub 0 (wr IntKind.i64 (iquo (wr IntKind.i64 (isub 0 (Prod.snd r))) (Prod.fst r1)))) = C) (hD : wr IntKind.i64 (isub 0 (wr IntKind.i64 (iquo (Prod.fst r) (Prod.fst r1)))) = D)
    (hK : wr IntKind.i64 (iquo (wr IntKind.i64 (isub (irem (wr IntKind.i64 (iadd (irem (Prod.fst r9) (wr IntKind.i64 (isub 0 (Prod.snd r9)))) (wr IntKind.i64 (isub 0 (Prod.snd r9))))) (wr IntKind.i64 (isub 0 (Prod.snd r9)))) (Prod.fst r9))) (wr IntKind.i64 (isub 0 (Prod.snd r9)))) = K)
    (hA : wr IntKind.i64 (iadd (Prod.fst (Prod.snd r1)) (wr IntKind.i64 (imul K C))) = A) (hB : wr IntKind.i64 (iadd (Prod.snd (Prod.snd r1)) (wr IntKind.i64 (imul K D))) = B)
    (bA : -60000000000 ≤ A ∧ A ≤ 60000000000) (bB : -60000000000 ≤ B ∧ B ≤ 60000000000) (bC : -60000000000 ≤ C ∧ C ≤ 60000000000) (bD : -60000000000 ≤ D ∧ D ≤ 60000000000) (hL : (a.length : Int) < L) :
    impl_frame_l2 L a r r1 r9 L 0 [] = some (a.map (brg A B C D o)) := by
  have := mapLoop (f := impl_frame_l2 L a r r1 r9) (h := brg A B C D o) (a := a) (fun m w => by
    simp only [impl_frame_l2, ilt_eq, ilen_mapep, Int.lt_irrefl, decide_false, cond_false]) (fun m v w hv0 h1 hw => by
    have hb := sub_bd (hin v) ho
    simp only [impl_frame_l2, ilt_eq, ilen_mapep, h1, decide_true, cond_true, gbind_eq, lget_pt hv0 h1, Option.bind_some, hC, hD, hK, hA, hB, h0]
    rw [less_eq (hin v) ho]
    simp only [Option.bind_some, impl_bring_eq]
    rw [spec_mvPeg_eq bA bB bC bD (by omega) (by omega) (by omega) (by omega)]
    simp only [Option.bind_some, iadd_eq, ilen_eq, List.length_cons, List.length_nil, fits_s (n := (w.length : Int) + ((0 + 1 : Nat) : Int)) (b := 16) (by omega), cond_true, lcat_eq, wr_id (n := v + 1) (by omega)]
    simp [brg]) L 0 (by omega) (by omega) (by omega)
  simpa using this
theorem impl_frame_l3_eq {L : Nat} {a : List Pt} {o : Pt} {r : Int × Int} {r1 : Int × Int × Int} {r9 : Int × Int} {A B C D K : Int} (h0 : lget a 0 = some o) (hin : ∀ i, Nr (pt a i)) (ho : Nr o) (hs : (a.length : Int) ≤ 1000)
    (hC : wr IntKind.i64 (iquo (wr IntKind.i64 (isub 0 (Prod.snd r))) (Prod.fst r1)) = C) (hD : wr IntKind.i64 (iquo (Prod.fst r) (Prod.fst r1)) = D)
    (hK : wr IntKind.i64 (iquo (wr IntKind.i64 (isub (irem (wr IntKind.i64 (iadd (irem (Prod.fst r9) (Prod.snd r9)) (Prod.snd r9))) (Prod.snd r9)) (Prod.fst r9))) (Prod.snd r9)) = K)
    (hA : wr IntKind.i64 (iadd (Prod.fst (Prod.snd r1)) (wr IntKind.i64 (imul K C))) = A) (hB : wr IntKind.i64 (iadd (Prod.snd (Prod.snd r1)) (wr IntKind.i64 (imul K D))) = B)
    (bA : -60000000000 ≤ A ∧ A ≤ 60000000000) (bB : -60000000000 ≤ B ∧ B ≤ 60000000000) (bC : -60000000000 ≤ C ∧ C ≤ 60000000000) (bD : -60000000000 ≤ D ∧ D ≤ 60000000000) (hL : (a.length : Int) < L) :
    impl_frame_l3 L a r r1 r9 L 0 [] = some (a.map (brg A B C D o)) := by
  have := mapLoop (f := impl_frame_l3 L a r r1 r9) (h := brg A B C D o) (a := a) (fun m w => by
    simp only [impl_frame_l3, ilt_eq, ilen_mapep, Int.lt_irrefl, decide_false, cond_false]) (fun m v w hv0 h1 hw => by
    have hb := sub_bd (hin v) ho
    simp only [impl_frame_l3, ilt_eq, ilen_mapep, h1, decide_true, cond_true, gbind_eq, lget_pt hv0 h1, Option.bind_some, hC, hD, hK, hA, hB, h0]
    rw [less_eq (hin v) ho]
    simp only [Option.bind_some, impl_bring_eq]
    rw [spec_mvPeg_eq bA bB bC bD (by omega) (by omega) (by omega) (by omega)]
    simp only [Option.bind_some, iadd_eq, ilen_eq, List.length_cons, List.length_nil, fits_s (n := (w.length : Int) + ((0 + 1 : Nat) : Int)) (b := 16) (by omega), cond_true, lcat_eq, wr_id (n := v + 1) (by omega)]
    simp [brg]) L 0 (by omega) (by omega) (by omega)
  simpa using this
end Go.AM
namespace Go.AM
structure Fr (a : List Pt) (A B C D g b d : Int) : Prop where
  e1 : brg A B C D (pt a 0) (pt a 1) = ⟨g, 0⟩
  e2 : brg A B C D (pt a 0) (pt a 2) = ⟨b, d⟩
  g0 : 0 < g
  b0 : 0 ≤ b
  bd : b < d
  gg : g = step (pt a 0) (pt a 1)
  det : A * D - B * C = 1 ∨ A * D - B * C = -1
  bA : -60000000000 ≤ A ∧ A ≤ 60000000000
  bB : -60000000000 ≤ B ∧ B ≤ 60000000000
  bC : -2000 ≤ C ∧ C ≤ 2000
  bD : -2000 ≤ D ∧ D ≤ 2000
theorem shear_eq {tx ty : Int} (hty : 0 < ty) (bx : -17000000 ≤ tx ∧ tx ≤ 17000000) (by_ : ty ≤ 9000000) :
    ∃ b K : Int, wr .i64 (iquo (wr .i64 (isub (irem (wr .i64 (iadd (irem tx ty) ty)) ty) tx)) ty) = K ∧ 0 ≤ b ∧ b < ty ∧ tx + K * ty = b ∧ (-27000000 ≤ K ∧ K ≤ 27000000) := by
  have h1 : -ty < tx.tmod ty ∧ tx.tmod ty < ty := by
    have := Int.tmod_lt_of_pos tx hty
    have h2 := Int.natAbs_tmod tx ty
    have h3 := Nat.mod_lt tx.natAbs (show 0 < ty.natAbs by omega)
    omega
  have h2 : (tx.tmod ty + ty).tmod ty = tx % ty := by
    rw [Int.tmod_eq_emod_of_nonneg (by omega), Int.add_emod_right]
    conv => rhs; rw [← Int.tmod_add_mul_tdiv tx ty, Int.add_mul_emod_self_left]
  have h3 := Int.emod_nonneg tx (show ty ≠ 0 by omega)
  have h4 := Int.emod_lt_of_pos tx hty
  have h5 := Int.mul_ediv_add_emod tx ty
  have h6 : (tx % ty - tx).tdiv ty = -(tx / ty) := by
    have : tx % ty - tx = -(tx / ty) * ty := by rw [Int.neg_mul, Int.mul_comm]; omega
    rw [this, Int.mul_tdiv_cancel _ (by omega)]
  have h7 : -17000000 ≤ tx / ty ∧ tx / ty ≤ 17000000 := by
    constructor
    · have := Int.ediv_le_ediv hty bx.1
      have h8 : -17000000 ≤ (-17000000 : Int) / ty := by
        rw [Int.le_ediv_iff_mul_le hty]; omega
      omega
    · have := Int.ediv_le_ediv hty bx.2
      have h8 : (17000000 : Int) / ty ≤ 17000000 := Int.ediv_le_self _ (by omega)
      omega
  refine ⟨tx % ty, -(tx / ty), ?_, h3, h4, ?_, by omega⟩
  · simp only [irem_eq, iadd_eq, isub_eq, iquo_eq]
    rw [wr_id (n := tx.tmod ty + ty) (by omega), h2, wr_id (n := tx % ty - tx) (by omega), h6, wr_id (by omega)]
  · rw [Int.neg_mul, Int.mul_comm]; omega
theorem exact_div {G z : Int} (hG : 0 < G) (h : G ∣ z) : z.tdiv G * G = z := Int.tdiv_mul_cancel h
theorem frame_eq {L : Nat} {a : List Pt} (hn : 3 ≤ (a.length : Int)) (hs : (a.length : Int) ≤ 1000) (hin : ∀ i, Nr (pt a i)) (ht : turn (pt a 0) (pt a 1) (pt a 2) ≠ 0) (hL : 5000 < L) :
    ∃ A B C D g b d, spec_mvFrame L a = some (a.map (brg A B C D (pt a 0))) ∧ impl_frame L a = some (a.map (brg A B C D (pt a 0))) ∧ Fr a A B C D g b d := by
  have l0 := lget_pt (a := a) (i := 0) (by omega) (by omega)
  have l1 := lget_pt (a := a) (i := 1) (by omega) (by omega)
  have l2 := lget_pt (a := a) (i := 2) (by omega) (by omega)
  have n0 := hin 0; have n1 := hin 1; have n2 := hin 2
  have s1 := sub_bd n1 n0
  have s2 := sub_bd n2 n0
  have hst : pt a 0 ≠ pt a 1 := fun e => ht (by rw [e]; unfold turn; grind)
  have hG := step_pos hst
  have hstd := step_dvd (pt a 0) (pt a 1)
  have hsb := step_bd n0 n1
  obtain ⟨gz, p, q, hb1, hb2, hb3, hb4, hb5, hb6⟩ := bezout_eq (L := L) (a := (pt a 1).x - (pt a 0).x) (b := (pt a 1).y - (pt a 0).y) (by omega) (by omega) (by omega)
  have hGz : (gz.natAbs : Int) = step (pt a 0) (pt a 1) := by
    rw [hb4]; unfold step
    rw [show ((pt a 1).x - (pt a 0).x).natAbs = ((pt a 0).x - (pt a 1).x).natAbs by omega, show ((pt a 1).y - (pt a 0).y).natAbs = ((pt a 0).y - (pt a 1).y).natAbs by omega]
  generalize hGd : step (pt a 0) (pt a 1) = G at *
  generalize hX : (pt a 1).x - (pt a 0).x = X at *
  generalize hY : (pt a 1).y - (pt a 0).y = Y at *
  generalize hWx : (pt a 2).x - (pt a 0).x = wx at *
  generalize hWy : (pt a 2).y - (pt a 0).y = wy at *
  have hturn : turn (pt a 0) (pt a 1) (pt a 2) = X * wy - Y * wx := by unfold turn; rw [hX, hY, hWx, hWy]
  have dX : X.tdiv G * G = X := exact_div hG hstd.1
  have dY : (-Y).tdiv G * G = -Y := exact_div hG (Int.dvd_neg.2 hstd.2)
  have bX : -2000 ≤ X.tdiv G ∧ X.tdiv G ≤ 2000 := tdiv_bd (A := 2000) (by omega)
  have bY : -2000 ≤ (-Y).tdiv G ∧ (-Y).tdiv G ≤ 2000 := tdiv_bd (A := 2000) (by omega)
  generalize hd0 : X.tdiv G = d0 at *
  generalize hc0 : (-Y).tdiv G = c0 at *
  obtain ⟨u, v, huv, hspec, hu, hv⟩ : ∃ u v : Int, u * X + v * Y = G ∧ (if gz < 0 then (-p, -q) else (p, q)) = (u, v) ∧ (-4000 ≤ u ∧ u ≤ 4000) ∧ (-4000 ≤ v ∧ v ≤ 4000) := by
    by_cases hneg : gz < 0
    · refine ⟨-p, -q, ?_, by simp [hneg], by omega, by omega⟩
      have : -p * X + -q * Y = -gz := by rw [← hb3]; grind
      omega
    · exact ⟨p, q, by omega, by simp [hneg], hb5, hb6⟩
  rw [hspec] at hb2
  have m1 := mul_bd hu s2.1; have m2 := mul_bd hv s2.2; have m3 := mul_bd bY s2.1; have m4 := mul_bd bX s2.2
  have hT3 : G * (c0 * wx + d0 * wy) = X * wy - Y * wx := by grind
  have hty0 : c0 * wx + d0 * wy ≠ 0 := fun e => ht (by rw [hturn, ← hT3, e]; simp)
  have hdet : u * d0 - v * c0 = 1 := by
    have : G * (u * d0 - v * c0) = G * 1 := by grind
    exact Int.eq_of_mul_eq_mul_left (by omega) this
  generalize htx : u * wx + v * wy = tx at *
  generalize htyd : c0 * wx + d0 * wy = ty at *
  have fin : ∀ (C D t K b : Int), ((C = c0 ∧ D = d0 ∧ t = ty) ∨ (C = -c0 ∧ D = -d0 ∧ t = -ty)) → 0 < t → 0 ≤ b → b < t → tx + K * t = b → (-27000000 ≤ K ∧ K ≤ 27000000) →
      Fr a (u + K * C) (v + K * D) C D G b t ∧ (-54000000000 ≤ K * C ∧ K * C ≤ 54000000000) ∧ (-54000000000 ≤ K * D ∧ K * D ≤ 54000000000) := by
    intro C D t K b hCD ht0 hb0 hbt hK bK
    have bC : -2000 ≤ C ∧ C ≤ 2000 := by omega
    have bD : -2000 ≤ D ∧ D ≤ 2000 := by omega
    have k1 := mul_bd bK bC; have k2 := mul_bd bK bD
    have q1 : C * X + D * Y = 0 := by
      have z : c0 * X + d0 * Y = 0 := by
        have : G * (c0 * X + d0 * Y) = 0 := by grind
        rcases Int.mul_eq_zero.1 this with h | h
        · omega
        · exact h
      rcases hCD with ⟨rfl, rfl, _⟩ | ⟨rfl, rfl, _⟩
      · exact z
      · rw [Int.neg_mul, Int.neg_mul]; omega
    have q2 : C * wx + D * wy = t := by
      rcases hCD with ⟨rfl, rfl, rfl⟩ | ⟨rfl, rfl, rfl⟩
      · exact htyd
      · rw [Int.neg_mul, Int.neg_mul]; omega
    refine ⟨⟨?_, ?_, hG, hb0, hbt, hGd.symm, ?_, by omega, by omega, bC, bD⟩, by omega, by omega⟩
    · unfold brg; rw [hX, hY]
      congr 1
      have : (u + K * C) * X + (v + K * D) * Y = u * X + v * Y + K * (C * X + D * Y) := by grind
      rw [this, q1, huv]; omega
    · unfold brg; rw [hWx, hWy]
      congr 1
      have : (u + K * C) * wx + (v + K * D) * wy = u * wx + v * wy + K * (C * wx + D * wy) := by grind
      rw [this, q2, htx, hK]
    · have : (u + K * C) * D - (v + K * D) * C = u * D - v * C := by grind
      rw [this]
      rcases hCD with ⟨rfl, rfl, _⟩ | ⟨rfl, rfl, _⟩
      · exact .inl hdet
      · right; rw [Int.mul_neg, Int.mul_neg]; omega
  have wY : wr IntKind.i64 (isub 0 (wr IntKind.i64 (isub (pt a 1).y (pt a 0).y))) = -Y := by
    simp only [isub_eq]; rw [hY, wr_id (n := Y) (by omega), wr_id (n := 0 - Y) (by omega)]; omega
  have wX : wr IntKind.i64 (isub (pt a 1).x (pt a 0).x) = X := by simp only [isub_eq]; rw [hX, wr_id (by omega)]
  have wY1 : wr IntKind.i64 (isub (pt a 1).y (pt a 0).y) = Y := by simp only [isub_eq]; rw [hY, wr_id (by omega)]
  have wWx : wr IntKind.i64 (isub (pt a 2).x (pt a 0).x) = wx := by simp only [isub_eq]; rw [hWx, wr_id (by omega)]
  have wWy : wr IntKind.i64 (isub (pt a 2).y (pt a 0).y) = wy := by simp only [isub_eq]; rw [hWy, wr_id (by omega)]
  have wc : wr IntKind.i64 (iquo (-Y) G) = c0 := by simp only [iquo_eq]; rw [hc0, wr_id (by omega)]
  have wd : wr IntKind.i64 (iquo X G) = d0 := by simp only [iquo_eq]; rw [hd0, wr_id (by omega)]
  have wneg : ∀ z : Int, -100000000 ≤ z ∧ z ≤ 100000000 → wr IntKind.i64 (isub 0 z) = -z := fun z hz => by simp only [isub_eq]; rw [wr_id (by omega)]; omega
  have hpeg : spec_mvPeg L u v c0 d0 0 0 wx wy = some (tx, ty) := by
    rw [spec_mvPeg_eq (by omega) (by omega) (by omega) (by omega) (by omega) (by omega) (by omega) (by omega), Int.add_zero, Int.add_zero, htx, htyd]
  have hcom : spec_pgCommon L X Y = some G := by
    have := spec_pgStep_eq (L := L) (p := pt a 1) (q := pt a 0) n1 n0 (by omega)
    unfold spec_pgStep at this
    simp only [isub_eq, gbind_eq] at this
    rw [hX, hY, wr_id (n := X) (by omega), wr_id (n := Y) (by omega)] at this
    cases hc : spec_pgCommon L X Y with
    | none => rw [hc] at this; cases this
    | some z =>
      rw [hc] at this
      simp only [Option.bind_some, Option.some.injEq] at this
      rw [this, ← hGd]
      unfold step
      congr 1
      rw [show ((pt a 1).x - (pt a 0).x).natAbs = ((pt a 0).x - (pt a 1).x).natAbs by omega, show ((pt a 1).y - (pt a 0).y).natAbs = ((pt a 0).y - (pt a 1).y).natAbs by omega]
  have w40 : wr IntKind.i64 (isub 0 Y) = -Y := wneg Y (by omega)
  have hG0 : decide (G = 0) = false := by simp; omega
  have hfit : fits (a.length : Int) 16 = true := fits_s (by omega)
  have hz0 : lrep 0 (⟨0, 0⟩ : Pt) = [] := by simp [lrep_eq]
  have hle0 : (a.length : Int) < L := by omega
  have wu : ∀ z : Int, -4000 ≤ z ∧ z ≤ 4000 → wr IntKind.i64 (isub 0 z) = -z := fun z hz => wneg z (by omega)
  rcases Int.lt_or_gt_of_ne hty0 with hneg | hpos
  · obtain ⟨b, K, hKe, hb0, hbt, hK, bK⟩ := shear_eq (tx := tx) (ty := -ty) (by omega) (by omega) (by omega)
    obtain ⟨fr, k1, k2⟩ := fin (-c0) (-d0) (-ty) K b (.inr ⟨rfl, rfl, rfl⟩) (by omega) hb0 hbt hK bK
    have wty := wneg ty (by omega)
    have wA : wr IntKind.i64 (iadd u (wr IntKind.i64 (imul K (-c0)))) = u + K * -c0 := by
      simp only [iadd_eq, imul_eq]; rw [wr_id (n := K * -c0) (by omega), wr_id (by omega)]
    have wB : wr IntKind.i64 (iadd v (wr IntKind.i64 (imul K (-d0)))) = v + K * -d0 := by
      simp only [iadd_eq, imul_eq]; rw [wr_id (n := K * -d0) (by omega), wr_id (by omega)]
    have hlt : decide (ty < 0) = true := by simp [hneg]
    have hny : decide (-ty = 0) = false := by simp; omega
    refine ⟨_, _, _, _, _, _, _, ?_, ?_, fr⟩
    · unfold spec_mvFrame
      simp only [l0, l1, l2, gbind_eq, Option.bind_some, wX, wY1, w40, hcom, hb2, wc, wd, wWx, wWy, hpeg, ieq_eq, ilt_eq, hG0, cond_false, hlt, cond_true, wty, hny]
      exact spec_mvFrame_l0_eq (r := G) (r1 := (u, v)) (r2 := (tx, ty)) (A := u + K * -c0) (B := v + K * -d0) (C := -c0) (D := -d0) (K := K) hin n0 hs (by rw [wY, wc]; exact wneg c0 (by omega)) (by rw [wX, wd]; exact wneg d0 (by omega)) (by simp only [wty]; exact hKe) wA wB (by omega) (by omega) (by omega) (by omega) hle0
    · unfold impl_frame
      simp only [l0, l1, l2, gbind_eq, Option.bind_some, less_eq n1 n0, less_eq n2 n0, hX, hY, hWx, hWy, hb1]
      by_cases hgn : gz < 0
      · simp only [hgn, if_true, Prod.mk.injEq] at hspec
        have hgz : -gz = G := by omega
        have w1 : wr IntKind.i64 (isub 0 gz) = G := by rw [wneg gz (by omega), hgz]
        have w2 : wr IntKind.i64 (isub 0 p) = u := by rw [wu p hb5]; exact hspec.1
        have w3 : wr IntKind.i64 (isub 0 q) = v := by rw [wu q hb6]; exact hspec.2
        have w4 : wr IntKind.i64 (isub 0 Y) = -Y := wneg Y (by omega)
        simp only [ilt_eq, hgn, decide_true, cond_true, w1, w2, w3, w4, wc, wd, ieq_eq, hG0, cond_false, impl_bring_eq, hpeg, Option.bind_some, hlt, wty, hny, ilen_mapep, ile_eq, Int.le_refl, show (0 : Int) ≤ a.length by omega, Bool.and_self, hfit, hz0]
        exact impl_frame_l0_eq (A := u + K * -c0) (B := v + K * -d0) (C := -c0) (D := -d0) (K := K) l0 hin n0 hs (by simp only [w1, w4, wc]; exact wneg c0 (by omega)) (by simp only [w1, wd]; exact wneg d0 (by omega)) (by simp only [wty]; exact hKe) (by simp only [w2]; exact wA) (by simp only [w3]; exact wB) (by omega) (by omega) (by omega) (by omega) hle0
      · simp only [hgn, if_false, Prod.mk.injEq] at hspec
        have hgz : gz = G := by omega
        have w4 : wr IntKind.i64 (isub 0 Y) = -Y := wneg Y (by omega)
        obtain ⟨rfl, rfl⟩ := hspec
        subst hgz
        simp only [ilt_eq, hgn, decide_false, w4, wc, wd, ieq_eq, hG0, cond_false, impl_bring_eq, hpeg, Option.bind_some, hlt, cond_true, wty, hny, ilen_mapep, ile_eq, Int.le_refl, show (0 : Int) ≤ a.length by omega, decide_true, Bool.and_self, hfit, hz0]
        exact impl_frame_l2_eq (A := p + K * -c0) (B := q + K * -d0) (C := -c0) (D := -d0) (K := K) l0 hin n0 hs (by simp only [w4, wc]; exact wneg c0 (by omega)) (by simp only [wd]; exact wneg d0 (by omega)) (by simp only [wty]; exact hKe) wA wB (by omega) (by omega) (by omega) (by omega) hle0
  · obtain ⟨b, K, hKe, hb0, hbt, hK, bK⟩ := shear_eq (tx := tx) (ty := ty) (by omega) (by omega) (by omega)
    obtain ⟨fr, k1, k2⟩ := fin c0 d0 ty K b (.inl ⟨rfl, rfl, rfl⟩) (by omega) hb0 hbt hK bK
    have wA : wr IntKind.i64 (iadd u (wr IntKind.i64 (imul K c0))) = u + K * c0 := by
      simp only [iadd_eq, imul_eq]; rw [wr_id (n := K * c0) (by omega), wr_id (by omega)]
    have wB : wr IntKind.i64 (iadd v (wr IntKind.i64 (imul K d0))) = v + K * d0 := by
      simp only [iadd_eq, imul_eq]; rw [wr_id (n := K * d0) (by omega), wr_id (by omega)]
    have hlt : decide (ty < 0) = false := by simp; omega
    have hny : decide (ty = 0) = false := by simp; omega
    refine ⟨_, _, _, _, _, _, _, ?_, ?_, fr⟩
    · unfold spec_mvFrame
      simp only [l0, l1, l2, gbind_eq, Option.bind_some, wX, wY1, w40, hcom, hb2, wc, wd, wWx, wWy, hpeg, ieq_eq, ilt_eq, hG0, cond_false, hlt, hny]
      exact spec_mvFrame_l1_eq (r := G) (r1 := (u, v)) (r2 := (tx, ty)) (A := u + K * c0) (B := v + K * d0) (C := c0) (D := d0) (K := K) hin n0 hs (by rw [wY, wc]) (by rw [wX, wd]) hKe wA wB (by omega) (by omega) (by omega) (by omega) hle0
    · unfold impl_frame
      simp only [l0, l1, l2, gbind_eq, Option.bind_some, less_eq n1 n0, less_eq n2 n0, hX, hY, hWx, hWy, hb1]
      by_cases hgn : gz < 0
      · simp only [hgn, if_true, Prod.mk.injEq] at hspec
        have hgz : -gz = G := by omega
        have w1 : wr IntKind.i64 (isub 0 gz) = G := by rw [wneg gz (by omega), hgz]
        have w2 : wr IntKind.i64 (isub 0 p) = u := by rw [wu p hb5]; exact hspec.1
        have w3 : wr IntKind.i64 (isub 0 q) = v := by rw [wu q hb6]; exact hspec.2
        have w4 : wr IntKind.i64 (isub 0 Y) = -Y := wneg Y (by omega)
        simp only [ilt_eq, hgn, decide_true, cond_true, w1, w2, w3, w4, wc, wd, ieq_eq, hG0, cond_false, impl_bring_eq, hpeg, Option.bind_some, hlt, hny, ilen_mapep, ile_eq, Int.le_refl, show (0 : Int) ≤ a.length by omega, Bool.and_self, hfit, hz0]
        exact impl_frame_l1_eq (A := u + K * c0) (B := v + K * d0) (C := c0) (D := d0) (K := K) l0 hin n0 hs (by simp only [w1, w4, wc]) (by simp only [w1, wd]) hKe (by simp only [w2]; exact wA) (by simp only [w3]; exact wB) (by omega) (by omega) (by omega) (by omega) hle0
      · simp only [hgn, if_false, Prod.mk.injEq] at hspec
        have hgz : gz = G := by omega
        have w4 : wr IntKind.i64 (isub 0 Y) = -Y := wneg Y (by omega)
        obtain ⟨rfl, rfl⟩ := hspec
        subst hgz
        simp only [ilt_eq, hgn, decide_false, w4, wc, wd, ieq_eq, hG0, cond_false, impl_bring_eq, hpeg, Option.bind_some, hlt, cond_true, hny, ilen_mapep, ile_eq, Int.le_refl, show (0 : Int) ≤ a.length by omega, decide_true, Bool.and_self, hfit, hz0]
        exact impl_frame_l3_eq (A := p + K * c0) (B := q + K * d0) (C := c0) (D := d0) (K := K) l0 hin n0 hs (by simp only [w4, wc]) (by simp only [wd]) hKe wA wB (by omega) (by omega) (by omega) (by omega) hle0
end Go.AM
namespace Go.AM
def Lx (n : Int) (a b : List Pt) : Prop := ∃ i, 0 ≤ i ∧ i < n ∧ (∀ j, 0 ≤ j → j < i → pt a j = pt b j) ∧ Less (pt a i) (pt b i)
theorem Lx.trans {n : Int} {a b c : List Pt} (h : Lx n a b) (k : Lx n b c) : Lx n a c := by
  obtain ⟨i, i0, i1, i2, i3⟩ := h
  obtain ⟨j, j0, j1, j2, j3⟩ := k
  rcases Int.lt_trichotomy i j with h | rfl | h
  · exact ⟨i, i0, i1, fun q q0 q1 => (i2 q q0 q1).trans (j2 q q0 (by omega)), by rw [← j2 i i0 h]; exact i3⟩
  · exact ⟨i, i0, i1, fun q q0 q1 => (i2 q q0 q1).trans (j2 q q0 q1), i3.trans j3⟩
  · exact ⟨j, j0, j1, fun q q0 q1 => (i2 q q0 (by omega)).trans (j2 q q0 q1), by rw [i2 j j0 h]; exact j3⟩
theorem Lx.irrefl {n : Int} {a : List Pt} : ¬ Lx n a a := fun ⟨i, _, _, _, h⟩ => Less.irrefl _ h
theorem list_ext_pt {a b : List Pt} (hl : a.length = b.length) (h : ∀ i, 0 ≤ i → i < (a.length : Int) → pt a i = pt b i) : a = b := by
  apply List.ext_getElem hl
  intro i h1 h2
  have k := h i (by omega) (by omega)
  have e1 := pt_get (a := a) (i := i) (by omega) (by omega)
  have e2 := pt_get (a := b) (i := i) (by omega) (by omega)
  rw [Int.toNat_natCast] at e1 e2
  have f1 := List.getElem?_eq_getElem h1
  have f2 := List.getElem?_eq_getElem h2
  rw [f1] at e1; rw [f2] at e2
  simp only [Option.some.injEq] at e1 e2
  rw [e1, e2, k]
theorem Lx.eq {n : Int} {a b : List Pt} (ha : (a.length : Int) = n) (hb : (b.length : Int) = n) (h : ¬ Lx n a b) (k : ¬ Lx n b a) : a = b := by
  refine list_ext_pt (by omega) ?_
  have key : ∀ m : Nat, ∀ i : Int, 0 ≤ i → i < m → i < n → pt a i = pt b i := by
    intro m
    induction m with
    | zero => intro i _ h; omega
    | succ m ih =>
      intro i i0 i1 i2
      have hj : ∀ j, 0 ≤ j → j < i → pt a j = pt b j := fun j j0 j1 => ih j j0 (by omega) (by omega)
      exact not_less_eq (fun q => h ⟨i, i0, i2, hj, q⟩) (fun q => k ⟨i, i0, i2, fun j j0 j1 => (hj j j0 j1).symm, q⟩)
  intro i i0 i1
  exact key (i.toNat + 1) i i0 (by omega) (by omega)
theorem spec_mvBefore_l0_eq {L : Nat} {n : Int} {a b : List Pt} (ha : (a.length : Int) = n) (hb : (b.length : Int) = n) (hs : n ≤ 1000000) : ∀ (m : Nat) (v : Int), 0 ≤ v → v ≤ n → n - v < m → (∀ j, 0 ≤ j → j < v → pt a j = pt b j) →
    ∃ t, spec_mvBefore_l0 L a b m v = some t ∧ (t = true ↔ Lx n a b)
  | 0, _, _, _, h, _ => by omega
  | m + 1, v, h0, hv, hm, he => by
    by_cases hvn : v < n
    · have g1 := lget_pt (a := a) h0 (by omega)
      have g2 := lget_pt (a := b) h0 (by omega)
      simp only [spec_mvBefore_l0, ilt_eq, ilen_mapep, ha, hvn, decide_true, cond_true, gbind_eq, g1, g2, Option.bind_some, ieq_eq]
      by_cases hp : pt a v = pt b v
      · rw [pt_eq_iff.2 hp]
        simp only [Bool.not_true, cond_false, iadd_eq]
        rw [wr_id (n := v + 1) (by omega)]
        exact spec_mvBefore_l0_eq ha hb hs m (v + 1) (by omega) (by omega) (by omega) fun j j0 j1 => by
          by_cases hj : j = v
          · subst hj; exact hp
          · exact he j j0 (by omega)
      · have : (decide ((pt a v).x = (pt b v).x) && decide ((pt a v).y = (pt b v).y)) = false := by
          cases hc : (decide ((pt a v).x = (pt b v).x) && decide ((pt a v).y = (pt b v).y)) with
          | false => rfl
          | true => exact absurd (pt_eq_iff.1 hc) hp
        rw [this]
        simp only [Bool.not_false, cond_true, spec_pgLess_eq, Option.bind_some]
        refine ⟨_, rfl, ?_⟩
        rw [decide_eq_true_iff]
        constructor
        · intro h; exact ⟨v, h0, hvn, he, h⟩
        · rintro ⟨i, i0, i1, i2, i3⟩
          rcases Int.lt_trichotomy i v with h | rfl | h
          · rw [he i i0 h] at i3; exact absurd i3 (Less.irrefl _)
          · exact i3
          · exact absurd (i2 v h0 h) hp
    · simp only [spec_mvBefore_l0, ilt_eq, ilen_mapep, ha, hvn, decide_false, cond_false]
      refine ⟨false, rfl, by simp; rintro ⟨i, i0, i1, i2, i3⟩; rw [he i i0 (by omega)] at i3; exact Less.irrefl _ i3⟩
theorem spec_mvBefore_eq {L : Nat} {n : Int} {a b : List Pt} (ha : (a.length : Int) = n) (hb : (b.length : Int) = n) (hs : n ≤ 1000000) (hL : n < L) : ∃ t, spec_mvBefore L a b = some t ∧ (t = true ↔ Lx n a b) := by
  unfold spec_mvBefore
  exact spec_mvBefore_l0_eq ha hb hs L 0 (by omega) (by omega) (by omega) fun j _ _ => by omega
def cmpP (p q : Pt) : Int := if p.x < q.x then -1 else if q.x < p.x then 1 else cmpI p.y q.y
theorem cmpP_lt {p q : Pt} : cmpP p q < 0 ↔ Less p q := by
  unfold cmpP cmpI Less
  split
  · simp; omega
  · split
    · simp; omega
    · split
      · simp; omega
      · split <;> simp <;> omega
theorem cmpP_zero {p q : Pt} : cmpP p q = 0 ↔ p = q := by
  obtain ⟨a, b⟩ := p; obtain ⟨c, d⟩ := q
  unfold cmpP cmpI
  simp only [Pt.mk.injEq]
  split
  · simp; omega
  · split
    · simp; omega
    · split
      · simp; omega
      · split <;> simp <;> omega
theorem impl_comparePegs_eq {L : Nat} {p q : Pt} (hL : 5 < L) : impl_comparePegs L p.x p.y q.x q.y = some (cmpP p q) := by
  unfold impl_comparePegs cmp_Or_int
  simp only [gbind_eq, cmp_eq, Option.bind_some]
  obtain ⟨m, rfl⟩ : ∃ m, L = m + 3 := ⟨L - 3, by omega⟩
  have hl : ilen (List.map eI [cmpI p.x q.x, cmpI p.y q.y]) = 2 := by rw [ilen_eq]; rfl
  have g0 : lget [cmpI p.x q.x, cmpI p.y q.y] 0 = some (cmpI p.x q.x) := by rw [lget_eq]; rfl
  have g1 : lget [cmpI p.x q.x, cmpI p.y q.y] 1 = some (cmpI p.y q.y) := by rw [lget_eq]; rfl
  have w1 : wr .i64 (0 + 1) = 1 := wr_id (by decide)
  have w2 : wr .i64 (1 + 1) = 2 := wr_id (by decide)
  simp only [cmp_Or_int_l0, hl, ilt_eq, gbind_eq, g0, g1, iadd_eq, w1, w2, ieq_eq, Option.bind_some, show ((0 : Int) < 2) = True by simp, show ((1 : Int) < 2) = True by simp, show ((2 : Int) < 2) = False by simp, decide_true, decide_false, cond_true, cond_false]
  unfold cmpP cmpI
  by_cases h1 : p.x < q.x
  · simp [h1]
  · by_cases h2 : q.x < p.x
    · simp [h1, h2]
    · by_cases h3 : p.y < q.y
      · simp [h1, h2, h3]
      · by_cases h4 : q.y < p.y <;> simp [h1, h2, h3, h4]
theorem impl_compareL_l0_eq {L : Nat} {n : Int} {a b : List Pt} (ha : (a.length : Int) = n) (hb : (b.length : Int) = n) (hs : n ≤ 1000000) (hL : 5 < L) : ∀ (m : Nat) (v : Int), 0 ≤ v → v ≤ n → n - v < m → (∀ j, 0 ≤ j → j < v → pt a j = pt b j) →
    ∃ t, slices_CompareFunc_impl_Peg_impl_Peg_impl_Peg_impl_Peg_l0 L a b m v = some t ∧ (t < 0 ↔ Lx n a b)
  | 0, _, _, _, h, _ => by omega
  | m + 1, v, h0, hv, hm, he => by
    by_cases hvn : v < n
    · have g1 := lget_pt (a := a) h0 (by omega)
      have g2 := lget_pt (a := b) h0 (by omega)
      simp only [slices_CompareFunc_impl_Peg_impl_Peg_impl_Peg_impl_Peg_l0, ilt_eq, ile_eq, ilen_mapep, ha, hb, hvn, show ¬ n ≤ v by omega, decide_true, decide_false, cond_true, cond_false, gbind_eq, g1, g2, Option.bind_some, ieq_eq, impl_comparePegs_eq hL]
      by_cases hp : pt a v = pt b v
      · simp only [cmpP_zero.2 hp, decide_true, Bool.not_true, cond_false, iadd_eq]
        rw [wr_id (n := v + 1) (by omega)]
        exact impl_compareL_l0_eq ha hb hs hL m (v + 1) (by omega) (by omega) (by omega) fun j j0 j1 => by
          by_cases hj : j = v
          · subst hj; exact hp
          · exact he j j0 (by omega)
      · have hz : ¬ cmpP (pt a v) (pt b v) = 0 := fun e => hp (cmpP_zero.1 e)
        simp only [hz, decide_false, Bool.not_false, cond_true]
        refine ⟨_, rfl, cmpP_lt.trans ?_⟩
        constructor
        · intro h; exact ⟨v, h0, hvn, he, h⟩
        · rintro ⟨i, i0, i1, i2, i3⟩
          rcases Int.lt_trichotomy i v with h | rfl | h
          · rw [he i i0 h] at i3; exact absurd i3 (Less.irrefl _)
          · exact i3
          · exact absurd (i2 v h0 h) hp
    · simp only [slices_CompareFunc_impl_Peg_impl_Peg_impl_Peg_impl_Peg_l0, ilt_eq, ilen_mapep, ha, hb, hvn, Int.lt_irrefl, decide_false, cond_false]
      refine ⟨0, rfl, by simp; rintro ⟨i, i0, i1, i2, i3⟩; rw [he i i0 (by omega)] at i3; exact Less.irrefl _ i3⟩
theorem impl_comparePolygons_eq {L : Nat} {n : Int} {a b : List Pt} (ha : (a.length : Int) = n) (hb : (b.length : Int) = n) (hs : n ≤ 1000000) (hL : n + 5 < L) : ∃ t, impl_comparePolygons L a b = some t ∧ (t < 0 ↔ Lx n a b) := by
  obtain ⟨t, h1, h2⟩ := impl_compareL_l0_eq ha hb hs (show 5 < L by omega) L 0 (by omega) (by omega) (by omega) fun j _ _ => by omega
  refine ⟨t, ?_, h2⟩
  unfold impl_comparePolygons slices_CompareFunc_impl_Peg_impl_Peg_impl_Peg_impl_Peg
  rw [h1]; simp only [gbind_eq, Option.bind_some]
structure Fa (a : List Pt) : Prop where
  lo : 3 ≤ (a.length : Int)
  hi : (a.length : Int) ≤ 1000
  nr : ∀ i, Nr (pt a i)
  turn : ∀ i, turn (pt a i) (pt a (i + 1)) (pt a (i + 2)) ≠ 0
theorem turn_rev (a b c : Pt) : turn c b a = - turn a b c := by unfold turn; grind
theorem Fa.ne {a : List Pt} (h : Fa a) : a ≠ [] := by intro e; subst e; have := h.lo; simp at this
theorem Fa.tour {a : List Pt} (h : Fa a) {k s : Int} (hs : s = 1 ∨ s = -1) : Fa (tour a k s a.length) := by
  have hl := h.lo
  have hpt : ∀ i, pt (AM.tour a k s a.length) i = pt a (k + (i % (a.length : Int)) * s) := fun i => pt_tour h.ne
  refine ⟨by rw [tour_len]; exact h.lo, by rw [tour_len]; exact h.hi, fun i => by rw [hpt]; exact h.nr _, fun i => ?_⟩
  have hm : ∀ i j : Int, pt (AM.tour a k s a.length) (i + j) = pt a (k + (i % (a.length : Int) + j) * s) := fun i j => by
    rw [hpt]
    apply pt_congr
    have e : (i + j) % (a.length : Int) = (i % a.length + j) % a.length := by rw [Int.emod_add_emod]
    rw [e]
    rw [Int.add_emod, Int.mul_emod, Int.emod_emod_of_dvd _ (Int.dvd_refl _), ← Int.mul_emod, ← Int.add_emod]
  have h0 := hm i 0
  rw [Int.add_zero, Int.add_zero] at h0
  rw [h0, hm i 1, hm i 2]
  rcases hs with rfl | rfl
  · have := h.turn (k + (i % (a.length : Int)) * 1)
    rwa [show k + (i % (a.length : Int)) * 1 + 1 = k + (i % (a.length : Int) + 1) * 1 by omega, show k + (i % (a.length : Int)) * 1 + 2 = k + (i % (a.length : Int) + 2) * 1 by omega] at this
  · have := h.turn (k + (i % (a.length : Int) + 2) * -1)
    rw [show k + (i % (a.length : Int) + 2) * -1 + 1 = k + (i % (a.length : Int) + 1) * -1 by omega, show k + (i % (a.length : Int) + 2) * -1 + 2 = k + (i % (a.length : Int)) * -1 by omega, turn_rev] at this
    omega
noncomputable def FR (L : Nat) (a : List Pt) (k s : Int) : List Pt := (spec_mvFrame L (tour a k s a.length)).getD []
theorem FR_eq {L : Nat} {a : List Pt} (h : Fa a) {k s : Int} (hs : s = 1 ∨ s = -1) (hL : 5000 < L) :
    spec_mvFrame L (tour a k s a.length) = some (FR L a k s) ∧ impl_frame L (tour a k s a.length) = some (FR L a k s) ∧ ((FR L a k s).length = a.length) ∧
    ∃ A B C D g b d, FR L a k s = (tour a k s a.length).map (brg A B C D (pt (tour a k s a.length) 0)) ∧ Fr (tour a k s a.length) A B C D g b d := by
  have ht := h.tour (k := k) hs
  obtain ⟨A, B, C, D, g, b, d, h1, h2, h3⟩ := frame_eq (L := L) ht.lo ht.hi ht.nr (by have := ht.turn 0; simpa using this) hL
  have e : FR L a k s = (tour a k s a.length).map (brg A B C D (pt (tour a k s a.length) 0)) := by unfold FR; rw [h1]; rfl
  exact ⟨by rw [h1, e], by rw [h2, e], by rw [e, List.length_map, tour_len], A, B, C, D, g, b, d, e, h3⟩
theorem tour_mod {a : List Pt} {k k' s : Int} (h : k % (a.length : Int) = k' % (a.length : Int)) (n : Nat) : tour a k s n = tour a k' s n :=
  tour_ext fun j _ => pt_congr (by rw [Int.add_emod, h, ← Int.add_emod])
theorem FR_mod {L : Nat} {a : List Pt} {k k' s : Int} (h : k % (a.length : Int) = k' % (a.length : Int)) : FR L a k s = FR L a k' s := by unfold FR; rw [tour_mod h]
theorem tour_id {a : List Pt} (hn : a ≠ []) : tour a 0 1 a.length = a := by
  refine list_ext_pt (tour_len _ _ _ _) fun i h0 h1 => ?_
  rw [pt_tour hn]
  rw [tour_len] at h1
  rw [Int.emod_eq_of_lt h0 h1]
  congr 1; omega
theorem tour_back {a : List Pt} (hn : a ≠ []) (k : Int) : tour (tour a 0 (-1) a.length) k 1 a.length = tour a (-k) (-1) a.length := by
  have hl : 0 < (a.length : Int) := by have := List.length_pos_iff.2 hn; omega
  refine tour_ext fun j hj => ?_
  rw [pt_tour hn]
  apply pt_congr
  rw [Int.zero_add, Int.mul_neg, Int.mul_one, Int.mul_one]
  have h1 := Int.emod_emod_of_dvd (k + (j : Int)) (Int.dvd_refl (a.length : Int))
  have h2 : (-((k + (j : Int)) % a.length)) % (a.length : Int) = (-(k + (j : Int))) % (a.length : Int) := by
    have := Int.mul_ediv_add_emod (k + (j : Int)) a.length
    conv => rhs; rw [← this]
    rw [Int.neg_add, ← Int.mul_neg, Int.mul_add_emod_self_left]
  rw [h2]
  congr 1; omega
end Go.AM
namespace Go.AM
theorem wr_i {v : Int} (h : 0 ≤ v ∧ v ≤ 1000000) : wr IntKind.i64 (v + 1) = v + 1 := wr_id (by omega)
noncomputable def frs (L : Nat) (p : List Pt) (n : Nat) : List (List Pt) := (List.range n).map fun (j : Nat) => FR L p (j : Int) 1
theorem frs_succ (L : Nat) (p : List Pt) (n : Nat) : frs L p (n + 1) = frs L p n ++ [FR L p (n : Int) 1] := by simp [frs, List.range_succ]
theorem frs_len (L : Nat) (p : List Pt) (n : Nat) : (frs L p n).length = n := by simp [frs]
theorem mvFrames_l1 {L : Nat} {κ0 : Int → Int → List (List Pt) → List (List Pt) → Option (List (List Pt))} {v11 v12 : Int} {w1 : List (List Pt)} {p : List Pt} {w : List (List Pt)} (hp : Fa p) (hL : 5000 < L) (h12 : 0 ≤ v12 ∧ v12 ≤ 1000) (hw : w.length ≤ 10000) :
    ∀ (m n : Nat), n ≤ p.length → p.length - n < m → spec_mvFrames_l1 L κ0 v11 v12 w1 p m (n : Int) (w ++ frs L p n) = κ0 v11 (v12 + 1) (w ++ frs L p p.length) w1
  | 0, _, _, h => by omega
  | m + 1, n, hn, hm => by
    have hi := hp.hi
    by_cases h : n < p.length
    · have c1 : lcat (lcat [] (lsub p (n : Int) (p.length : Int))) (lsub p 0 (n : Int)) = tour p (n : Int) 1 p.length := by
        rw [← rot_eq (c := p) (k := (n : Int)) (by omega) (by omega)]
        simp only [lcat_eq, lsub_eq, List.nil_append, Int.toNat_natCast]
        rw [List.take_of_length_le (by simp)]
        simp
      have f1 : fits (iadd (ilen ([] : List AV)) (ilen (lsub (List.map ep p) (n : Int) (p.length : Int)))) 16 = true := by
        refine fits_s ?_
        simp only [iadd_eq, ilen_eq, lsub_eq, List.length_take, List.length_drop, List.length_map, List.length_nil]
        omega
      have f2 : fits (iadd (ilen (lcat [] (lsub (List.map ep p) (n : Int) (p.length : Int)))) (ilen (lsub (List.map ep p) 0 (n : Int)))) 16 = true := by
        refine fits_s ?_
        simp only [iadd_eq, ilen_eq, lcat_eq, lsub_eq, List.length_append, List.length_take, List.length_drop, List.length_map, List.length_nil]
        omega
      have f3 : ∀ x : AV, fits (iadd (ilen (List.map eLP (w ++ frs L p n))) (ilen [x])) 24 = true := fun x => by
        refine fits_s ?_
        simp only [iadd_eq, ilen_eq, List.length_map, List.length_append, frs_len, List.length_cons, List.length_nil]
        omega
      obtain ⟨e1, _⟩ := FR_eq (L := L) hp (k := (n : Int)) (.inl rfl) hL
      have b1 : ((n : Int) < (p.length : Int)) = True := by simp; omega
      have b2 : ((0 : Int) ≤ (n : Int)) = True := by simp
      have b3 : ((n : Int) ≤ (p.length : Int)) = True := by simp; omega
      have wv : wr IntKind.i64 (iadd (n : Int) 1) = ((n + 1 : Nat) : Int) := by simp only [iadd_eq]; rw [wr_i (by omega)]; rfl
      simp only [spec_mvFrames_l1, ilt_eq, ile_eq, ilen_mapep, b1, b2, b3, decide_true, Bool.and_self, cond_true, f1, f2, c1, e1, gbind_eq, Option.bind_some, f3, wv]
      have e : lcat (w ++ frs L p n) [FR L p (n : Int) 1] = w ++ frs L p (n + 1) := by rw [lcat_eq, frs_succ, List.append_assoc]
      rw [e]
      exact mvFrames_l1 hp hL h12 hw m (n + 1) (by omega) (by omega)
    · have e : n = p.length := by omega
      subst e
      simp only [spec_mvFrames_l1, ilt_eq, ilen_mapep, Int.lt_irrefl, decide_false, cond_false, iadd_eq, wr_i (v := v12) (by omega)]
theorem mvFrames_eq {L : Nat} {a : List Pt} (ha : Fa a) (hL : 5000 < L) : spec_mvFrames L a = some (frs L a a.length ++ frs L (tour a 0 (-1) a.length) a.length) := by
  have hi := ha.hi
  have hb := ha.tour (k := 0) (s := -1) (.inr rfl)
  unfold spec_mvFrames
  rw [spec_pgBack_eq ha.ne (by omega) (by omega)]
  simp only [gbind_eq, Option.bind_some]
  have h2 : ilen [AV.lst false false 2 (List.map ep a), AV.lst false false 2 (List.map ep (tour a 0 (-1) a.length))] = 2 := by rw [ilen_eq]; rfl
  have h3 : ilen (List.map eLP (a :: tour a 0 (-1) a.length :: [])) = 2 := by rw [ilen_eq]; rfl
  rw [h2]
  obtain ⟨m, rfl⟩ : ∃ m, L = m + 3 := ⟨L - 3, by omega⟩
  have g0 : lget (a :: tour a 0 (-1) a.length :: []) 0 = some a := by rw [lget_eq]; rfl
  have g1 : lget (a :: tour a 0 (-1) a.length :: []) 1 = some (tour a 0 (-1) a.length) := by rw [lget_eq]; rfl
  have q1 := fun κ0 => mvFrames_l1 (κ0 := κ0) (v11 := 2) (v12 := 0) (w1 := a :: tour a 0 (-1) a.length :: []) (w := []) ha hL (by omega) (by simp) (m + 3) 0 (by omega) (by omega)
  have q2 := fun κ0 => mvFrames_l1 (κ0 := κ0) (v11 := 2) (v12 := 1) (w1 := a :: tour a 0 (-1) a.length :: []) (w := frs (m + 3) a a.length) hb hL (by omega) (by rw [frs_len]; omega) (m + 3) 0 (by omega) (by rw [tour_len]; omega)
  have z : ∀ p, frs (m + 3) p 0 = [] := fun p => rfl
  simp only [z, List.append_nil, List.nil_append, tour_len, show ((0 : Nat) : Int) = 0 from rfl] at q1 q2
  simp only [spec_mvFrames_l0, ilt_eq, ile_eq, h3, show ((0 : Int) < 2) = True by simp, show ((1 : Int) < 2) = True by simp, show ((0 : Int) ≤ 0) = True by simp, show ((0 : Int) ≤ 1) = True by simp, decide_true, Bool.and_self, cond_true, gbind_eq, g0, g1, Option.bind_some, q1, q2,
    show ((0 : Int) + 1) = 1 by rfl, show ((1 : Int) + 1) = 2 by rfl, Int.lt_irrefl, decide_false, cond_false]
theorem mvKind_l0 {L : Nat} {n : Int} {r : List (List Pt)} (hn : 0 < n) (hs : n ≤ 10000) (hr : (r.length : Int) ≤ 100000) (hlen : ∀ f ∈ r, (f.length : Int) = n) (hL : n < L) :
    ∀ (m v : Nat) (best : List Pt), v ≤ r.length → r.length - v < m → ((v = 0 ∧ best = []) ∨ (best ∈ r ∧ ∀ j f, j < v → r[j]? = some f → ¬ Lx n f best)) → r ≠ [] →
      ∃ b, spec_mvKind_l0 L r m best (v : Int) = some b ∧ b ∈ r ∧ ∀ f ∈ r, ¬ Lx n f b
  | 0, _, _, _, h, _, _ => by omega
  | m + 1, v, best, hv, hm, hb, hne => by
    have e0 : ilen (List.map eLP r) = (r.length : Int) := by rw [ilen_map, ilen_eq]
    by_cases h : v < r.length
    · have hg : lget r (v : Int) = some r[v] := by rw [lget_eq, if_pos (by omega), Int.toNat_natCast]; exact List.getElem?_eq_getElem h
      have hm0 : r[v] ∈ r := List.getElem_mem h
      have b1 : ((v : Int) < (r.length : Int)) = True := by simp; omega
      have b2 : ((0 : Int) ≤ (v : Int)) = True := by simp
      have wv : wr IntKind.i64 (iadd (v : Int) 1) = ((v + 1 : Nat) : Int) := by simp only [iadd_eq]; rw [wr_i (by omega)]; rfl
      simp only [spec_mvKind_l0, ilt_eq, ile_eq, e0, b1, b2, decide_true, Bool.and_self, cond_true, gbind_eq, hg, Option.bind_some, ieq_eq, ilen_mapep, wv]
      rcases hb with ⟨rfl, rfl⟩ | ⟨hbr, hmin⟩
      · simp only [List.length_nil, show ((0 : Nat) : Int) = 0 from rfl, decide_true, cond_true]
        refine mvKind_l0 hn hs hr hlen hL m (0 + 1) _ (by omega) (by omega) (.inr ⟨hm0, fun j f hj hf => ?_⟩) hne
        have : j = 0 := by omega
        subst this
        rw [List.getElem?_eq_getElem h] at hf
        cases hf
        exact Lx.irrefl
      · have hz : ¬ ((best.length : Int) = 0) := by rw [hlen best hbr]; omega
        obtain ⟨t, t1, t2⟩ := spec_mvBefore_eq (L := L) (hlen _ hm0) (hlen best hbr) (by omega) hL
        simp only [hz, decide_false, cond_false, t1, Option.bind_some]
        cases t with
        | true =>
          have hlt := t2.1 rfl
          simp only [cond_true]
          refine mvKind_l0 hn hs hr hlen hL m (v + 1) _ (by omega) (by omega) (.inr ⟨hm0, fun j f hj hf hx => ?_⟩) hne
          by_cases hjv : j = v
          · subst hjv
            rw [List.getElem?_eq_getElem h] at hf
            cases hf
            exact Lx.irrefl hx
          · exact hmin j f (by omega) hf (hx.trans hlt)
        | false =>
          have hlt : ¬ Lx n r[v] best := fun e => by have := t2.2 e; cases this
          simp only [cond_false]
          refine mvKind_l0 hn hs hr hlen hL m (v + 1) _ (by omega) (by omega) (.inr ⟨hbr, fun j f hj hf hx => ?_⟩) hne
          by_cases hjv : j = v
          · subst hjv
            rw [List.getElem?_eq_getElem h] at hf
            cases hf
            exact hlt hx
          · exact hmin j f (by omega) hf hx
    · have b1 : ((v : Int) < (r.length : Int)) = False := by simp; omega
      simp only [spec_mvKind_l0, ilt_eq, e0, b1, decide_false, cond_false]
      rcases hb with ⟨rfl, rfl⟩ | ⟨hbr, hmin⟩
      · exact absurd (List.length_eq_zero_iff.1 (by omega)) hne
      · refine ⟨best, rfl, hbr, fun f hf => ?_⟩
        obtain ⟨j, hj, e⟩ := List.getElem_of_mem hf
        exact hmin j f (by omega) (by rw [List.getElem?_eq_getElem hj, e])
def IsKind (L : Nat) (a f : List Pt) : Prop := (∃ k s, (s = 1 ∨ s = -1) ∧ f = FR L a k s) ∧ ∀ k s, (s = 1 ∨ s = -1) → ¬ Lx a.length (FR L a k s) f
theorem FR_back {L : Nat} {a : List Pt} (ha : a ≠ []) (k : Int) : FR L (tour a 0 (-1) a.length) k 1 = FR L a (-k) (-1) := by
  unfold FR
  rw [tour_len, tour_back ha]
theorem mem_frs {L : Nat} {p : List Pt} {n : Nat} {f : List Pt} : f ∈ frs L p n ↔ ∃ j : Nat, j < n ∧ f = FR L p (j : Int) 1 := by
  unfold frs
  simp only [List.mem_map, List.mem_range]
  constructor
  · rintro ⟨j, h1, h2⟩; exact ⟨j, h1, h2.symm⟩
  · rintro ⟨j, h1, h2⟩; exact ⟨j, h1, h2.symm⟩
theorem frames_all {L : Nat} {a f : List Pt} (ha : Fa a) : f ∈ frs L a a.length ++ frs L (tour a 0 (-1) a.length) a.length ↔ ∃ k s, (s = 1 ∨ s = -1) ∧ f = FR L a k s := by
  have hl : 0 < (a.length : Int) := by have := ha.lo; omega
  rw [List.mem_append, mem_frs, mem_frs]
  constructor
  · rintro (⟨j, _, rfl⟩ | ⟨j, _, rfl⟩)
    · exact ⟨j, 1, .inl rfl, rfl⟩
    · exact ⟨-j, -1, .inr rfl, FR_back ha.ne _⟩
  · rintro ⟨k, s, rfl | rfl, rfl⟩
    · left
      have h1 := Int.emod_nonneg k (show (a.length : Int) ≠ 0 by omega)
      have h2 := Int.emod_lt_of_pos k hl
      refine ⟨(k % a.length).toNat, by omega, FR_mod ?_⟩
      rw [Int.toNat_of_nonneg h1, Int.emod_emod_of_dvd _ (Int.dvd_refl _)]
    · right
      have h1 := Int.emod_nonneg (-k) (show (a.length : Int) ≠ 0 by omega)
      have h2 := Int.emod_lt_of_pos (-k) hl
      refine ⟨((-k) % a.length).toNat, by omega, ?_⟩
      rw [FR_back ha.ne]
      refine FR_mod ?_
      rw [Int.toNat_of_nonneg h1]
      have := Int.mul_ediv_add_emod (-k) a.length
      have e : -(-k % (a.length : Int)) = k + a.length * (-k / a.length) := by omega
      rw [e, Int.add_mul_emod_self_left]
theorem mvKind_eq {L : Nat} {a : List Pt} (ha : Fa a) (hL : 5000 < L) : ∃ f, spec_mvKind L a = some f ∧ IsKind L a f := by
  have hi := ha.hi; have lo := ha.lo
  unfold spec_mvKind
  rw [mvFrames_eq ha hL]
  simp only [gbind_eq, Option.bind_some]
  obtain ⟨b, h1, h2, h3⟩ := mvKind_l0 (L := L) (n := (a.length : Int)) (r := frs L a a.length ++ frs L (tour a 0 (-1) a.length) a.length) (by omega) (by omega) (by simp [frs_len]; omega) (fun f hf => by
    obtain ⟨k, s, hs, rfl⟩ := (frames_all ha).1 hf
    exact_mod_cast (FR_eq ha hs hL).2.2.1) (by omega) L 0 [] (by omega) (by simp [frs_len]; omega) (.inl ⟨rfl, rfl⟩) (by
    intro e
    have := congrArg List.length e
    rw [List.length_append, frs_len, frs_len] at this
    simp only [List.length_nil] at this
    omega)
  exact ⟨b, h1, (frames_all ha).1 h2, fun k s hs => h3 _ ((frames_all ha).2 ⟨k, s, hs, rfl⟩)⟩
theorem IsKind.len {L : Nat} {a f : List Pt} (ha : Fa a) (hL : 5000 < L) (h : IsKind L a f) : f.length = a.length := by
  obtain ⟨⟨k, s, hs, rfl⟩, _⟩ := h
  exact (FR_eq ha hs hL).2.2.1
theorem IsKind.eq {L : Nat} {a f g : List Pt} (ha : Fa a) (hL : 5000 < L) (h : IsKind L a f) (k : IsKind L a g) : f = g := by
  refine Lx.eq (n := (a.length : Int)) (by exact_mod_cast h.len ha hL) (by exact_mod_cast k.len ha hL) ?_ ?_
  · obtain ⟨⟨i, s, hs, rfl⟩, _⟩ := h; exact k.2 i s hs
  · obtain ⟨⟨i, s, hs, rfl⟩, _⟩ := k; exact h.2 i s hs
theorem ff_l1 {L : Nat} {κ0 : List Pt → Int → Int → List Pt → Option (List Pt)} {a w : List Pt} {v : Nat} {v11 : Int} (ha : Fa a) (hv : v < a.length) (hL : 5000 < L) (hw : w.length = a.length) :
    ∃ w', impl_firstFrame_l1 L κ0 a v11 (v : Int) L 0 w = κ0 a v11 ((v + 1 : Nat) : Int) w' ∧ (w' = w ∨ ∃ s, (s = 1 ∨ s = -1) ∧ w' = FR L a v s) ∧ (∀ f, ¬ Lx a.length f w → ¬ Lx a.length f w') ∧ ∀ s, (s = 1 ∨ s = -1) → ¬ Lx a.length (FR L a v s) w' := by
  have hi := ha.hi
  obtain ⟨m, hm⟩ : ∃ m, L = m + 3 := ⟨L - 3, by omega⟩
  have h2 : ilen [AV.int IntKind.i64 1, AV.int IntKind.i64 (-1)] = 2 := by rw [ilen_eq]; rfl
  have g0 : lget ((1 : Int) :: (-1 :: [])) 0 = some 1 := by rw [lget_eq]; rfl
  have g1 : lget ((1 : Int) :: (-1 :: [])) 1 = some (-1) := by rw [lget_eq]; rfl
  have t1 := impl_told_eq (L := L) (a := a) (k := (v : Int)) (s := 1) ha.ne (by omega) (by omega) (by omega) (by omega)
  have t2 := impl_told_eq (L := L) (a := a) (k := (v : Int)) (s := -1) ha.ne (by omega) (by omega) (by omega) (by omega)
  obtain ⟨_, f1, l1, _⟩ := FR_eq (L := L) ha (k := (v : Int)) (s := 1) (.inl rfl) hL
  obtain ⟨_, f2, l2, _⟩ := FR_eq (L := L) ha (k := (v : Int)) (s := -1) (.inr rfl) hL
  have step : ∀ (w : List Pt) (x : List Pt), w.length = a.length → x.length = a.length → ∃ c, impl_comparePolygons L x w = some c ∧ (c < 0 ↔ Lx a.length x w) := fun w x hw hx =>
    impl_comparePolygons_eq (by exact_mod_cast hx) (by exact_mod_cast hw) (by omega) (by omega)
  have pick : ∀ (w x : List Pt), w.length = a.length → x.length = a.length → ∃ c w', impl_comparePolygons L x w = some c ∧ ((c < 0 ∧ w' = x) ∨ (¬ c < 0 ∧ w' = w)) ∧ w'.length = a.length ∧ (∀ f, ¬ Lx a.length f w → ¬ Lx a.length f w') ∧ ¬ Lx a.length x w' := fun w x hw hx => by
    obtain ⟨c, c1, c2⟩ := step w x hw hx
    by_cases hc : c < 0
    · exact ⟨c, x, c1, .inl ⟨hc, rfl⟩, hx, fun f hf hfx => hf (hfx.trans (c2.1 hc)), Lx.irrefl⟩
    · exact ⟨c, w, c1, .inr ⟨hc, rfl⟩, hw, fun f hf => hf, fun e => hc (c2.2 e)⟩
  obtain ⟨c1, w1, p1, p2, p3, p4, p5⟩ := pick w _ hw l1
  obtain ⟨c2, w2, q1, q2, q3, q4, q5⟩ := pick w1 _ p3 l2
  refine ⟨w2, ?_, ?_, fun f hf => q4 f (p4 f hf), ?_⟩
  · have wv : wr IntKind.i64 (iadd (v : Int) 1) = ((v + 1 : Nat) : Int) := by simp only [iadd_eq]; rw [wr_i (by omega)]; rfl
    have w01 : wr IntKind.i64 (iadd 0 1) = 1 := by simp only [iadd_eq]; exact wr_id (by omega)
    have w12 : wr IntKind.i64 (iadd 1 1) = 2 := by simp only [iadd_eq]; exact wr_id (by omega)
    have r3 : ∀ m x, impl_firstFrame_l1 L κ0 a v11 (v : Int) (m + 1) 2 x = κ0 a v11 ((v + 1 : Nat) : Int) x := fun m x => by
      rw [impl_firstFrame_l1.eq_2]
      simp only [ilt_eq, h2, Int.lt_irrefl, decide_false, cond_false, wv]
    have r2 : ∀ m, impl_firstFrame_l1 L κ0 a v11 (v : Int) (m + 2) 1 w1 = κ0 a v11 ((v + 1 : Nat) : Int) w2 := fun m => by
      rw [show m + 2 = (m + 1) + 1 from rfl, impl_firstFrame_l1.eq_2]
      simp only [ilt_eq, ile_eq, h2, show ((1 : Int) < 2) = True by simp, show ((0 : Int) ≤ 1) = True by simp, decide_true, Bool.and_self, cond_true, gbind_eq, g1, Option.bind_some, t2, f2, q1, w12]
      rcases q2 with ⟨q2, rfl⟩ | ⟨q2, rfl⟩
      · simp only [q2, decide_true, cond_true]; exact r3 m _
      · simp only [q2, decide_false, cond_false]; exact r3 m _
    have r1 : impl_firstFrame_l1 L κ0 a v11 (v : Int) (m + 3) 0 w = κ0 a v11 ((v + 1 : Nat) : Int) w2 := by
      rw [show m + 3 = (m + 2) + 1 from rfl, impl_firstFrame_l1.eq_2]
      simp only [ilt_eq, ile_eq, h2, show ((0 : Int) < 2) = True by simp, show ((0 : Int) ≤ 0) = True by simp, decide_true, Bool.and_self, cond_true, gbind_eq, g0, Option.bind_some, t1, f1, p1, w01]
      rcases p2 with ⟨p2, rfl⟩ | ⟨p2, rfl⟩
      · simp only [p2, decide_true, cond_true]; exact r2 m
      · simp only [p2, decide_false, cond_false]; exact r2 m
    rw [← r1, ← hm]
  · rcases q2 with ⟨_, rfl⟩ | ⟨_, rfl⟩
    · exact .inr ⟨-1, .inr rfl, rfl⟩
    · rcases p2 with ⟨_, rfl⟩ | ⟨_, rfl⟩
      · exact .inr ⟨1, .inl rfl, rfl⟩
      · exact .inl rfl
  · rintro s (rfl | rfl)
    · exact q4 _ p5
    · exact q5
theorem firstFrame_eq {L : Nat} {a : List Pt} (ha : Fa a) (hL : 5000 < L) : ∃ f, impl_firstFrame L a = some f ∧ IsKind L a f := by
  have hi := ha.hi; have lo := ha.lo
  have f0 : impl_frame L a = some (FR L a 0 1) := by
    have := (FR_eq (L := L) ha (k := 0) (s := 1) (.inl rfl) hL).2.1
    rwa [tour_id ha.ne] at this
  have l0 := (FR_eq (L := L) ha (k := 0) (s := 1) (.inl rfl) hL).2.2.1
  unfold impl_firstFrame
  simp only [gbind_eq, f0, Option.bind_some, ilen_mapep]
  have key : ∀ (m v : Nat) (w : List Pt), v ≤ a.length → a.length - v < m → (∃ k s, (s = 1 ∨ s = -1) ∧ w = FR L a k s) → w.length = a.length → (∀ (j : Nat) s, j < v → (s = 1 ∨ s = -1) → ¬ Lx a.length (FR L a (j : Int) s) w) →
      ∃ f, impl_firstFrame_l0 L m a (a.length : Int) (v : Int) w = some f ∧ (∃ k s, (s = 1 ∨ s = -1) ∧ f = FR L a k s) ∧ ∀ (j : Nat) s, j < a.length → (s = 1 ∨ s = -1) → ¬ Lx a.length (FR L a (j : Int) s) f := by
    intro m
    induction m with
    | zero => intro v w _ h; omega
    | succ m ih =>
      intro v w hv hm hw hwl hmin
      by_cases h : v < a.length
      · have b1 : ((v : Int) < (a.length : Int)) = True := by simp; omega
        obtain ⟨w', e1, e2, e3, e4⟩ := ff_l1 (κ0 := impl_firstFrame_l0 L m) (v11 := (a.length : Int)) ha h hL hwl
        simp only [impl_firstFrame_l0, ilt_eq, b1, decide_true, cond_true, e1]
        have hw' : ∃ k s, (s = 1 ∨ s = -1) ∧ w' = FR L a k s := by
          rcases e2 with rfl | ⟨s, hs, rfl⟩
          · exact hw
          · exact ⟨_, s, hs, rfl⟩
        refine ih (v + 1) w' (by omega) (by omega) hw' ?_ fun j s hj hs => ?_
        · obtain ⟨k, s, hs, rfl⟩ := hw'; exact (FR_eq ha hs hL).2.2.1
        · by_cases hjv : j = v
          · subst hjv; exact e4 s hs
          · exact e3 _ (hmin j s (by omega) hs)
      · have b1 : ((v : Int) < (a.length : Int)) = False := by simp; omega
        simp only [impl_firstFrame_l0, ilt_eq, b1, decide_false, cond_false]
        exact ⟨w, rfl, hw, fun j s hj hs => hmin j s (by omega) hs⟩
  obtain ⟨f, h1, h2, h3⟩ := key L 0 (FR L a 0 1) (by omega) (by omega) ⟨0, 1, .inl rfl, rfl⟩ l0 (fun j s hj => by omega)
  refine ⟨f, h1, h2, fun k s hs => ?_⟩
  have q1 := Int.emod_nonneg k (show (a.length : Int) ≠ 0 by omega)
  have q2 := Int.emod_lt_of_pos k (show 0 < (a.length : Int) by omega)
  have := h3 (k % a.length).toNat s (by omega) hs
  rwa [FR_mod (k' := k) (by rw [Int.toNat_of_nonneg q1, Int.emod_emod_of_dvd _ (Int.dvd_refl _)])] at this
theorem kind_eq {L : Nat} {a : List Pt} (ha : Fa a) (hL : 5000 < L) : ∃ f, spec_mvKind L a = some f ∧ impl_firstFrame L a = some f ∧ IsKind L a f := by
  obtain ⟨f, h1, h2⟩ := mvKind_eq ha hL
  obtain ⟨g, h3, h4⟩ := firstFrame_eq ha hL
  have := h2.eq ha hL h4
  subst this
  exact ⟨f, h1, h3, h2⟩
end Go.AM
namespace Go.AM
open Classical
def it (a : List Int) (i : Int) : Int := a.getD i.toNat 0
theorem lget_it {a : List Int} {i : Int} (h0 : 0 ≤ i) (h1 : i < a.length) : lget a i = some (it a i) := by
  have : i.toNat < a.length := by omega
  rw [lget_eq, if_pos h0]; unfold it; simp [this]
theorem ilen_mapI (a : List Int) : ilen (List.map eI a) = (a.length : Int) := by rw [ilen_map, ilen_eq]
theorem Good_.fa {a : List Pt} (h : Good_ a) : Fa a := by
  have lo := h.lo; have hi := h.hi
  have hne : a ≠ [] := by intro e; subst e; simp at lo
  refine ⟨lo, by omega, fun i => (in_all h.isIn hne i).nr, fun i => ?_⟩
  have q1 := Int.emod_nonneg i (show (a.length : Int) ≠ 0 by omega)
  have q2 := Int.emod_lt_of_pos i (show 0 < (a.length : Int) by omega)
  have := h.turn (i % a.length) q1 q2
  have e : ∀ j : Int, pt a (i % a.length + j) = pt a (i + j) := fun j => pt_congr (by rw [Int.emod_add_emod])
  have e0 : pt a (i % a.length) = pt a i := pt_mod a i
  rwa [e, e, e0] at this
theorem three_eq {L : Nat} {a : List Pt} (hL : 20 < L) : spec_mvThree L a = some (decide ((a.length : Int) = 3 ∧ Good_ a)) ∧ impl_isThree L a = some (decide ((a.length : Int) = 3 ∧ Good_ a)) := by
  unfold spec_mvThree impl_isThree
  simp only [ieq_eq, ilen_mapep]
  by_cases h : (a.length : Int) = 3
  · simp only [h, decide_true, cond_true, spec_pgGood_eq hL, impl_IsPolygon_eq hL, gbind_eq, Option.bind_some, true_and, and_self]
  · simp only [h, decide_false, cond_false, false_and, and_self]
theorem list3 {f : List Pt} (h : (f.length : Int) = 3) : lget f 1 = some (pt f 1) ∧ lget f 2 = some (pt f 2) ∧ ilen (List.map ep f) = 3 := by
  exact ⟨lget_pt (by omega) (by omega), lget_pt (by omega) (by omega), by rw [ilen_mapep, h]⟩
theorem mvList_eq {L : Nat} {a : List Pt} (h3 : (a.length : Int) = 3) (hg : Good_ a) (hL : 5000 < L) : ∃ x y z, spec_mvList L a = some [x, y, z] ∧ impl_kindOf L a = some [x, y, z] ∧ 0 < x ∧ 0 ≤ y ∧ 0 < z := by
  have ha := hg.fa
  obtain ⟨f, h1, h2, h4⟩ := kind_eq (L := L) ha hL
  have hl := h4.len ha hL
  obtain ⟨l1, l2, l4⟩ := list3 (f := f) (by omega)
  refine ⟨(pt f 1).x, (pt f 2).x, (pt f 2).y, ?_, ?_, ?_⟩
  · unfold spec_mvList
    simp only [h1, l1, l2, gbind_eq, Option.bind_some]
  · unfold impl_kindOf
    simp only [h2, l1, l2, l4, gbind_eq, Option.bind_some, ile_eq, ilt_eq, show ((0 : Int) ≤ 1) = True by simp, show ((0 : Int) ≤ 2) = True by simp, show ((1 : Int) < 3) = True by simp, show ((2 : Int) < 3) = True by simp, decide_true, Bool.and_self, cond_true]
  · obtain ⟨⟨k, s, hs, rfl⟩, _⟩ := h4
    obtain ⟨_, _, hfl, A, B, C, D, g, b, d, e, fr⟩ := FR_eq (L := L) ha (k := k) hs hL
    have ht := ha.tour (k := k) hs
    have hm : ∀ i : Int, 0 ≤ i → i < (a.length : Int) → pt (FR L a k s) i = brg A B C D (pt (tour a k s a.length) 0) (pt (tour a k s a.length) i) := fun i i0 i1 => by
      have h1 := pt_get (a := FR L a k s) (i := i) i0 (by omega)
      have h2 := pt_get (a := tour a k s a.length) (i := i) i0 (by rw [tour_len]; omega)
      rw [e, List.getElem?_map, h2] at h1
      simp only [Option.map_some, Option.some.injEq] at h1
      rw [← e] at h1
      exact h1.symm
    rw [hm 1 (by omega) (by omega), hm 2 (by omega) (by omega), fr.e1, fr.e2]
    have := fr.g0; have := fr.b0; have := fr.bd
    simp only
    omega
theorem kindOf_eq {L : Nat} {a : List Pt} (hL : 5000 < L) : ∃ r, spec_KindOfTriangle L a = some r ∧ impl_KindOfTriangle L a = some r ∧ (r.1.length : Int) ≤ 3 := by
  obtain ⟨t1, t2⟩ := three_eq (L := L) (a := a) (by omega)
  unfold spec_KindOfTriangle impl_KindOfTriangle
  simp only [t1, t2, gbind_eq, Option.bind_some]
  by_cases h : (a.length : Int) = 3 ∧ Good_ a
  · obtain ⟨x, y, z, h1, h2, _⟩ := mvList_eq (L := L) h.1 h.2 hL
    simp only [h, and_self, decide_true, Bool.not_true, cond_false, h1, h2, Option.bind_some]
    exact ⟨_, rfl, rfl, by simp⟩
  · simp only [h, decide_false, Bool.not_false, cond_true]
    exact ⟨_, rfl, rfl, by simp⟩
theorem same_l0 {L : Nat} {a b : List Int} (hab : a.length = b.length) (hs : (a.length : Int) ≤ 1000000) : ∀ (m : Nat) (v : Int), 0 ≤ v → v ≤ a.length → (a.length : Int) - v < m → slices_Equal_int_int_l0 L a b m v = spec_l1Same_l0 L a b m v ∧ ∃ t, spec_l1Same_l0 L a b m v = some t ∧ (t = true → ∀ i, v ≤ i → i < (a.length : Int) → it a i = it b i)
  | 0, _, _, _, h => by omega
  | m + 1, v, h0, hv, hm => by
    by_cases h : v < (a.length : Int)
    · obtain ⟨q1, t, q2, q3⟩ := same_l0 (L := L) hab hs m (v + 1) (by omega) (by omega) (by omega)
      have hb : v < (b.length : Int) := by omega
      simp only [slices_Equal_int_int_l0, spec_l1Same_l0, ilt_eq, ilen_mapI, h, decide_true, cond_true, gbind_eq, lget_it h0 h, lget_it h0 hb, Option.bind_some, ieq_eq, iadd_eq, wr_id (n := v + 1) (by omega)]
      by_cases e : it a v = it b v
      · simp only [e, decide_true, Bool.not_true, cond_false]
        refine ⟨q1, t, q2, fun ht i i0 i1 => ?_⟩
        by_cases hi : i = v
        · subst hi; exact e
        · exact q3 ht i (by omega) i1
      · simp only [e, decide_false, Bool.not_false, cond_true]
        exact ⟨trivial, false, rfl, fun h => by cases h⟩
    · simp only [slices_Equal_int_int_l0, spec_l1Same_l0, ilt_eq, ilen_mapI, h, decide_false, cond_false]
      exact ⟨trivial, true, rfl, fun _ i i0 i1 => by omega⟩
theorem same_eq {L : Nat} {a b : List Int} (hab : a.length = b.length) (hs : (a.length : Int) ≤ 1000000) (hL : (a.length : Int) < L) : slices_Equal_int_int L a b = spec_l1Same L a b ∧ ∃ t, spec_l1Same L a b = some t ∧ (t = true → ∀ i, 0 ≤ i → i < (a.length : Int) → it a i = it b i) := by
  unfold slices_Equal_int_int spec_l1Same
  simp only [ieq_eq, ilen_mapI, show ((a.length : Int) = (b.length : Int)) by omega, decide_true, Bool.not_true, cond_false]
  have := same_l0 (L := L) hab hs L 0 (by omega) (by omega) (by omega)
  rwa [show (a.length : Int) = b.length by omega] at this
theorem all_eq {L : Nat} {a : List Int} {lo hi : Int} (hs : (a.length : Int) ≤ 1000000) : ∀ (m : Nat) (v : Int), 0 ≤ v → v ≤ a.length → (a.length : Int) - v < m → ∃ t, spec_l1All_l0 L a lo hi m v = some t ∧ (t = true ↔ ∀ i, v ≤ i → i < (a.length : Int) → lo ≤ it a i ∧ it a i ≤ hi)
  | 0, _, _, _, h => by omega
  | m + 1, v, h0, hv, hm => by
    by_cases h : v < (a.length : Int)
    · simp only [spec_l1All_l0, ilt_eq, ilen_mapI, h, decide_true, cond_true, gbind_eq, lget_it h0 h, Option.bind_some, spec_l1In_eq, iadd_eq, wr_id (n := v + 1) (by omega)]
      by_cases e : lo ≤ it a v ∧ it a v ≤ hi
      · obtain ⟨t, q1, q2⟩ := all_eq (L := L) (lo := lo) (hi := hi) hs m (v + 1) (by omega) (by omega) (by omega)
        simp only [e, and_self, decide_true, Bool.not_true, cond_false]
        refine ⟨t, q1, q2.trans ⟨fun hh i i0 i1 => ?_, fun hh i i0 i1 => hh i (by omega) i1⟩⟩
        by_cases hi : i = v
        · subst hi; exact e
        · exact hh i (by omega) i1
      · simp only [e, decide_false, Bool.not_false, cond_true]
        exact ⟨false, rfl, by simp; exact ⟨v, Int.le_refl _, h, fun h1 => by omega⟩⟩
    · simp only [spec_l1All_l0, ilt_eq, ilen_mapI, h, decide_false, cond_false]
      exact ⟨true, rfl, by simp; intro i i0 i1; omega⟩
theorem triangleOf_eq {L : Nat} {a : List Int} (hL : 5000 < L) : ∃ r, spec_TriangleOfKind L a = some r ∧ impl_TriangleOfKind L a = some r ∧ (r.1.length : Int) ≤ 3 := by
  unfold spec_TriangleOfKind impl_TriangleOfKind
  simp only [ieq_eq, ilen_mapI]
  by_cases h3 : (a.length : Int) = 3
  · have g0 := lget_it (a := a) (i := 0) (by omega) (by omega)
    have g1 := lget_it (a := a) (i := 1) (by omega) (by omega)
    have g2 := lget_it (a := a) (i := 2) (by omega) (by omega)
    simp only [h3, decide_true, Bool.not_true, cond_false, gbind_eq, g0, g1, g2, Option.bind_some, spec_mvMade, impl_triangle]
    obtain ⟨t1, t2⟩ := three_eq (L := L) (a := [⟨0, 0⟩, ⟨it a 0, 0⟩, ⟨it a 1, it a 2⟩]) (by omega)
    obtain ⟨t, k1, k2⟩ := all_eq (L := L) (a := a) (lo := 0) (hi := 40) (by omega) L 0 (by omega) (by omega) (by omega)
    unfold spec_l1All
    simp only [k1, t1, t2, Option.bind_some]
    by_cases hg : (([⟨0, 0⟩, ⟨it a 0, 0⟩, ⟨it a 1, it a 2⟩] : List Pt).length : Int) = 3 ∧ Good_ [⟨0, 0⟩, ⟨it a 0, 0⟩, ⟨it a 1, it a 2⟩]
    · obtain ⟨x, y, z, m1, m2, x0, y0, z0⟩ := mvList_eq (L := L) hg.1 hg.2 hL
      obtain ⟨s1, b, s2, s3⟩ := same_eq (L := L) (a := [x, y, z]) (b := a) (by simp; omega) (by simp) (by simp; omega)
      simp only [hg, and_self, decide_true, Bool.not_true, cond_false, m1, m2, s1, s2, Option.bind_some]
      cases t with
      | true =>
        simp only [Bool.not_true, cond_false]
        cases b with
        | true => exact ⟨_, rfl, rfl, by simp⟩
        | false => exact ⟨_, rfl, rfl, by simp⟩
      | false =>
        cases b with
        | false => exact ⟨_, rfl, rfl, by simp⟩
        | true =>
          exfalso
          have e0 := s3 rfl 0 (by omega) (by simp)
          have e1 := s3 rfl 1 (by omega) (by simp)
          have e2 := s3 rfl 2 (by omega) (by simp)
          have i1 := hg.2.isIn 1 (by omega) (by simp)
          have i2 := hg.2.isIn 2 (by omega) (by simp)
          have : (false = true) := k2.2 fun i i0 i1' => by
            have hi : i = 0 ∨ i = 1 ∨ i = 2 := by omega
            have e0' : x = it a 0 := e0
            have e1' : y = it a 1 := e1
            have e2' : z = it a 2 := e2
            have i1'' : In ⟨it a 0, 0⟩ := i1
            have i2'' : In ⟨it a 1, it a 2⟩ := i2
            unfold In at i1'' i2''
            simp only at i1'' i2''
            rcases hi with rfl | rfl | rfl <;> omega
          cases this
    · simp only [hg, decide_false, Bool.not_false, cond_true]
      cases t with
      | true => exact ⟨_, rfl, rfl, by simp⟩
      | false => exact ⟨_, rfl, rfl, by simp⟩
  · simp only [h3, decide_false, Bool.not_false, cond_true]
    exact ⟨_, rfl, rfl, by simp⟩
end Go.AM
namespace Go.AM
end Go.AM
namespace Go.AM
end Go.AM
namespace Go.AM
theorem frame_unique {α β γ δ g x y g' x' y' : Int} (hd : α * δ - β * γ = 1 ∨ α * δ - β * γ = -1) (hg : 0 < g) (hg' : 0 < g')
    (h1 : α * g = g') (h2 : γ * g = 0) (hy : 0 < y) (hx : 0 ≤ x) (hxy : x < y) (hy' : 0 < y') (hx' : 0 ≤ x') (hxy' : x' < y')
    (h3 : α * x + β * y = x') (h4 : γ * x + δ * y = y') : α = 1 ∧ β = 0 ∧ γ = 0 ∧ δ = 1 := by
  have c : γ = 0 := by
    rcases Int.mul_eq_zero.1 h2 with h | h
    · exact h
    · omega
  subst c
  have ap : 0 < α := by
    rcases Int.lt_trichotomy α 0 with h | h | h
    · have := Int.mul_neg_of_neg_of_pos h hg; omega
    · subst h; omega
    · exact h
  have dp : 0 < δ := by
    rcases Int.lt_trichotomy δ 0 with h | h | h
    · have := Int.mul_neg_of_neg_of_pos h hy; omega
    · subst h; omega
    · exact h
  have hd' : α * δ = 1 := by
    have := Int.mul_pos ap dp
    simp only [Int.mul_zero, Int.sub_zero] at hd
    omega
  have a1 : α = 1 := Int.eq_one_of_mul_eq_one_right (by omega) hd'
  subst a1
  have d1 : δ = 1 := by omega
  subst d1
  refine ⟨rfl, ?_, rfl, rfl⟩
  have e4 : y = y' := by omega
  subst e4
  rcases Int.lt_trichotomy β 0 with h | h | h
  · have h5 : (β + 1) * y ≤ 0 := Int.mul_nonpos_of_nonpos_of_nonneg (by omega) (by omega)
    rw [Int.add_mul] at h5; omega
  · exact h
  · have h5 : 0 ≤ (β - 1) * y := Int.mul_nonneg (by omega) (by omega)
    rw [Int.sub_mul] at h5; omega
end Go.AM
namespace Go.AM
theorem brg_one {A B C D P Q R S g b d g' b' d' : Int} {o p q : Pt} (e1 : A * D - B * C = 1 ∨ A * D - B * C = -1) (e2 : P * S - Q * R = 1 ∨ P * S - Q * R = -1)
    (h1 : brg A B C D o p = ⟨g, 0⟩) (h2 : brg A B C D o q = ⟨b, d⟩) (k1 : brg P Q R S o p = ⟨g', 0⟩) (k2 : brg P Q R S o q = ⟨b', d'⟩)
    (hg : 0 < g) (hb : 0 ≤ b) (hbd : b < d) (hg' : 0 < g') (hb' : 0 ≤ b') (hbd' : b' < d') : A = P ∧ B = Q ∧ C = R ∧ D = S := by
  unfold brg at h1 h2 k1 k2
  generalize p.x - o.x = px at *
  generalize p.y - o.y = py at *
  generalize q.x - o.x = qx at *
  generalize q.y - o.y = qy at *
  simp only [Pt.mk.injEq] at h1 h2 k1 k2
  obtain ⟨h1, h1'⟩ := h1
  obtain ⟨h2, h2'⟩ := h2
  obtain ⟨k1, k1'⟩ := k1
  obtain ⟨k2, k2'⟩ := k2
  generalize he : A * D - B * C = e at *
  have ee : e * e = 1 := by rcases e1 with rfl | rfl <;> rfl
  have hd : (e * (P * D - Q * C)) * (e * (S * A - R * B)) - (e * (Q * A - P * B)) * (e * (R * D - S * C)) = 1 ∨ (e * (P * D - Q * C)) * (e * (S * A - R * B)) - (e * (Q * A - P * B)) * (e * (R * D - S * C)) = -1 := by
    have : (e * (P * D - Q * C)) * (e * (S * A - R * B)) - (e * (Q * A - P * B)) * (e * (R * D - S * C)) = (e * e) * ((A * D - B * C) * (P * S - Q * R)) := by grind
    rw [this, ee, he]
    rcases e1 with h | h <;> rcases e2 with h' | h' <;> rw [h, h'] <;> simp
  obtain ⟨u1, u2, u3, u4⟩ := frame_unique (α := e * (P * D - Q * C)) (β := e * (Q * A - P * B)) (γ := e * (R * D - S * C)) (δ := e * (S * A - R * B)) (g := g) (x := b) (y := d) (g' := g') (x' := b') (y' := d') hd hg hg'
    (by rw [← k1]; have : e * (P * D - Q * C) * g = (e * e) * (P * px + Q * py) := by grind
        rw [this, ee]; omega)
    (by have : e * (R * D - S * C) * g = (e * e) * (R * px + S * py) := by grind
        rw [this, k1']; omega)
    (by omega) hb hbd (by omega) hb' hbd'
    (by rw [← k2]; have : e * (P * D - Q * C) * b + e * (Q * A - P * B) * d = (e * e) * (P * qx + Q * qy) := by grind
        rw [this, ee]; omega)
    (by rw [← k2']; have : e * (R * D - S * C) * b + e * (S * A - R * B) * d = (e * e) * (R * qx + S * qy) := by grind
        rw [this, ee]; omega)
  have v1 : (e * (P * D - Q * C)) * A + (e * (Q * A - P * B)) * C = (e * e) * P := by grind
  have v2 : (e * (P * D - Q * C)) * B + (e * (Q * A - P * B)) * D = (e * e) * Q := by grind
  have v3 : (e * (R * D - S * C)) * A + (e * (S * A - R * B)) * C = (e * e) * R := by grind
  have v4 : (e * (R * D - S * C)) * B + (e * (S * A - R * B)) * D = (e * e) * S := by grind
  rw [u1, u2, ee] at v1 v2
  rw [u3, u4, ee] at v3 v4
  omega
end Go.AM
namespace Go.AM
def aff (α β γ δ u v : Int) (p : Pt) : Pt := ⟨α * p.x + β * p.y + u, γ * p.x + δ * p.y + v⟩
theorem brg_aff {α β γ δ u v P Q R S : Int} {o p : Pt} : brg P Q R S (aff α β γ δ u v o) (aff α β γ δ u v p) = brg (P * α + Q * γ) (P * β + Q * δ) (R * α + S * γ) (R * β + S * δ) o p := by
  unfold brg aff
  simp only [Pt.mk.injEq]
  constructor <;> grind
theorem pt_maps {a : List Pt} (hn : a ≠ []) (f : Pt → Pt) (i : Int) : pt (a.map f) i = f (pt a i) := by
  have hl : 0 < (a.length : Int) := by have := List.length_pos_iff.2 hn; omega
  have h0 := Int.emod_nonneg i (show (a.length : Int) ≠ 0 by omega)
  have h1 := Int.emod_lt_of_pos i hl
  have h2 : (i % (a.length : Int)).toNat < a.length := by omega
  unfold pt
  simp [h2]
theorem frame_aff {L : Nat} {a : List Pt} {α β γ δ u v : Int} (hd : α * δ - β * γ = 1 ∨ α * δ - β * γ = -1) (hn : 3 ≤ (a.length : Int)) (hs : (a.length : Int) ≤ 1000) (hin : ∀ i, Nr (pt a i)) (hin' : ∀ i, Nr (aff α β γ δ u v (pt a i)))
    (ht : turn (pt a 0) (pt a 1) (pt a 2) ≠ 0) (hL : 5000 < L) : spec_mvFrame L (a.map (aff α β γ δ u v)) = spec_mvFrame L a := by
  have ha : a ≠ [] := by intro e; subst e; simp at hn
  have ht' : turn (pt (a.map (aff α β γ δ u v)) 0) (pt (a.map (aff α β γ δ u v)) 1) (pt (a.map (aff α β γ δ u v)) 2) ≠ 0 := by
    rw [pt_maps ha, pt_maps ha, pt_maps ha]
    have : turn (aff α β γ δ u v (pt a 0)) (aff α β γ δ u v (pt a 1)) (aff α β γ δ u v (pt a 2)) = (α * δ - β * γ) * turn (pt a 0) (pt a 1) (pt a 2) := by
      unfold turn aff; grind
    rw [this]
    rcases hd with h | h <;> rw [h] <;> omega
  obtain ⟨A, B, C, D, g, b, d, s1, _, f1⟩ := frame_eq hn hs hin ht hL
  obtain ⟨P, Q, R, S, g', b', d', s2, _, f2⟩ := frame_eq (a := a.map (aff α β γ δ u v)) (by simpa using hn) (by simpa using hs) (fun i => by rw [pt_maps ha]; exact hin' i) ht' hL
  have k1 := f2.e1; have k2 := f2.e2
  rw [pt_maps ha, pt_maps ha, brg_aff] at k1 k2
  have e2 : (P * α + Q * γ) * (R * β + S * δ) - (P * β + Q * δ) * (R * α + S * γ) = 1 ∨ (P * α + Q * γ) * (R * β + S * δ) - (P * β + Q * δ) * (R * α + S * γ) = -1 := by
    have : (P * α + Q * γ) * (R * β + S * δ) - (P * β + Q * δ) * (R * α + S * γ) = (P * S - Q * R) * (α * δ - β * γ) := by grind
    rw [this]
    rcases f2.det with h | h <;> rcases hd with h' | h' <;> rw [h, h'] <;> simp
  obtain ⟨z1, z2, z3, z4⟩ := brg_one f1.det e2 f1.e1 f1.e2 k1 k2 f1.g0 f1.b0 f1.bd f2.g0 f2.b0 f2.bd
  rw [s1, s2, List.map_map]
  congr 1
  refine List.map_congr_left fun p _ => ?_
  simp only [Function.comp]
  rw [pt_maps ha, brg_aff, z1, z2, z3, z4]
end Go.AM
namespace Go.AM
theorem tour_maps {a : List Pt} (hn : a ≠ []) (f : Pt → Pt) (k s : Int) (n : Nat) : tour (a.map f) k s n = (tour a k s n).map f := by
  unfold tour
  simp only [List.map_map]
  refine List.map_congr_left fun j _ => ?_
  simp only [Function.comp, pt_maps hn]
theorem FR_aff {L : Nat} {a : List Pt} {α β γ δ u v k s : Int} (hd : α * δ - β * γ = 1 ∨ α * δ - β * γ = -1) (ha : Fa a) (hb : Fa (a.map (aff α β γ δ u v))) (hs : s = 1 ∨ s = -1) (hL : 5000 < L) :
    FR L (a.map (aff α β γ δ u v)) k s = FR L a k s := by
  have hn := ha.ne
  have t1 := ha.tour (k := k) hs
  have t2 := hb.tour (k := k) hs
  rw [tour_maps hn, List.length_map] at t2
  unfold FR
  rw [tour_maps hn, List.length_map, frame_aff hd t1.lo t1.hi t1.nr (fun i => by have := t2.nr i; rwa [pt_maps t1.ne] at this) (by have := t1.turn 0; simpa using this) hL]
theorem kind_aff {L : Nat} {a f : List Pt} {α β γ δ u v : Int} (hd : α * δ - β * γ = 1 ∨ α * δ - β * γ = -1) (ha : Fa a) (hb : Fa (a.map (aff α β γ δ u v))) (hL : 5000 < L) (h : IsKind L a f) :
    IsKind L (a.map (aff α β γ δ u v)) f := by
  obtain ⟨⟨k, s, h1, h2⟩, h3⟩ := h
  refine ⟨⟨k, s, h1, by rw [FR_aff hd ha hb h1 hL]; exact h2⟩, fun k s hs => ?_⟩
  rw [FR_aff hd ha hb hs hL, List.length_map]
  exact h3 k s hs
end Go.AM
namespace Go.AM
theorem tour_tours {a : List Pt} (hn : a ≠ []) {k s k' s' : Int} : tour (tour a k s a.length) k' s' a.length = tour a (k + k' * s) (s * s') a.length := by
  unfold tour
  refine List.map_congr_left fun j _ => ?_
  have e := pt_tour' hn (k := k) (s := s) (k' + (j : Int) * s')
  unfold tour at e
  rw [e]
  congr 1
  grind
theorem kind_tour {L : Nat} {a f : List Pt} {k s : Int} (ha : a ≠ []) (hs : s = 1 ∨ s = -1) (h : IsKind L a f) : IsKind L (tour a k s a.length) f := by
  obtain ⟨⟨k0, s0, h1, h2⟩, h3⟩ := h
  have key : ∀ k' s', FR L (tour a k s a.length) k' s' = FR L a (k + k' * s) (s * s') := fun k' s' => by
    unfold FR
    rw [tour_len, tour_tours ha]
  have prod : ∀ {x y : Int}, (x = 1 ∨ x = -1) → (y = 1 ∨ y = -1) → (x * y = 1 ∨ x * y = -1) := fun hx hy => by
    rcases hx with rfl | rfl <;> rcases hy with rfl | rfl <;> simp
  refine ⟨⟨(k0 - k) * s, s * s0, prod hs h1, ?_⟩, fun k' s' hs' => ?_⟩
  · rw [key, h2]
    have e1 : k + (k0 - k) * s * s = k0 := by rcases hs with rfl | rfl <;> omega
    have e2 : s * (s * s0) = s0 := by rcases hs with rfl | rfl <;> omega
    rw [e1, e2]
  · rw [key, tour_len]
    exact h3 _ _ (prod hs hs')
end Go.AM
namespace Go.AM
end Go.AM
namespace Go.AM
theorem anti_lin {A B ux uy vx vy : Int} (hp : ux * vy = uy * vx) (h1 : ux * vx ≤ 0) (h2 : uy * vy ≤ 0) : (A * ux + B * uy) * (A * vx + B * vy) ≤ 0 := by
  have e : (A * ux + B * uy) * (A * vx + B * vy) = A * A * (ux * vx) + 2 * (A * B) * (ux * vy) + B * B * (uy * vy) := by grind
  rw [e]
  have hc : (ux * vy) * (ux * vy) = (ux * vx) * (uy * vy) := by grind
  generalize ux * vx = p at *
  generalize uy * vy = q at *
  generalize ux * vy = c at *
  clear e hp
  by_cases hp0 : p = 0
  · subst hp0
    have : c = 0 := by
      rcases Int.mul_eq_zero.1 (show c * c = 0 by rw [hc]; simp) with h | h <;> exact h
    subst this
    have := Int.mul_nonpos_of_nonneg_of_nonpos (mul_self_nn B) h2
    simp; exact this
  · rcases Int.lt_or_le 0 (A * A * p + 2 * (A * B) * c + B * B * q) with h | h
    · exfalso
      have hp' : p < 0 := by omega
      have h3 := Int.mul_neg_of_neg_of_pos hp' h
      have h4 : p * (A * A * p + 2 * (A * B) * c + B * B * q) = (A * p + B * c) * (A * p + B * c) := by
        have : p * (A * A * p + 2 * (A * B) * c + B * B * q) = (A * p + B * c) * (A * p + B * c) + B * B * (p * q - c * c) := by grind
        rw [this, hc]; simp
      rw [h4] at h3
      have := mul_self_nn (A * p + B * c)
      omega
    · exact h
theorem turn_aff {α β γ δ u v : Int} {a b c : Pt} : turn (aff α β γ δ u v a) (aff α β γ δ u v b) (aff α β γ δ u v c) = (α * δ - β * γ) * turn a b c := by
  unfold turn aff; grind
theorem turn_par {a b p : Pt} : turn a b p = (a.x - p.x) * (b.y - p.y) - (a.y - p.y) * (b.x - p.x) := by unfold turn; grind
theorem onL_aff1 {α β γ δ u v : Int} {a b p : Pt} (h : OnL a b p) : OnL (aff α β γ δ u v a) (aff α β γ δ u v b) (aff α β γ δ u v p) := by
  obtain ⟨h0, h1, h2⟩ := h
  have hp : (a.x - p.x) * (b.y - p.y) = (a.y - p.y) * (b.x - p.x) := by rw [turn_par] at h0; omega
  refine ⟨by rw [turn_aff, h0]; simp, ?_, ?_⟩
  · have := anti_lin (A := α) (B := β) hp h1 h2
    have e : ((aff α β γ δ u v a).x - (aff α β γ δ u v p).x) * ((aff α β γ δ u v b).x - (aff α β γ δ u v p).x) = (α * (a.x - p.x) + β * (a.y - p.y)) * (α * (b.x - p.x) + β * (b.y - p.y)) := by unfold aff; grind
    rw [e]; exact this
  · have := anti_lin (A := γ) (B := δ) hp h1 h2
    have e : ((aff α β γ δ u v a).y - (aff α β γ δ u v p).y) * ((aff α β γ δ u v b).y - (aff α β γ δ u v p).y) = (γ * (a.x - p.x) + δ * (a.y - p.y)) * (γ * (b.x - p.x) + δ * (b.y - p.y)) := by unfold aff; grind
    rw [e]; exact this
theorem aff_back {α β γ δ u v e : Int} (he : e * (α * δ - β * γ) = 1) (p : Pt) : aff (e * δ) (-(e * β)) (-(e * γ)) (e * α) (-(e * δ * u) + e * β * v) (e * γ * u - e * α * v) (aff α β γ δ u v p) = p := by
  unfold aff
  obtain ⟨x, y⟩ := p
  simp only [Pt.mk.injEq]
  constructor
  · have : e * δ * (α * x + β * y + u) + -(e * β) * (γ * x + δ * y + v) + (-(e * δ * u) + e * β * v) = (e * (α * δ - β * γ)) * x := by grind
    rw [this, he]; omega
  · have : -(e * γ) * (α * x + β * y + u) + e * α * (γ * x + δ * y + v) + (e * γ * u - e * α * v) = (e * (α * δ - β * γ)) * y := by grind
    rw [this, he]; omega
theorem uni_e {d : Int} (h : d = 1 ∨ d = -1) : ∃ e : Int, e * d = 1 := by rcases h with h | h; exact ⟨1, by omega⟩; exact ⟨-1, by omega⟩
theorem onL_aff {α β γ δ u v : Int} {a b p : Pt} (hd : α * δ - β * γ = 1 ∨ α * δ - β * γ = -1) : OnL (aff α β γ δ u v a) (aff α β γ δ u v b) (aff α β γ δ u v p) ↔ OnL a b p := by
  refine ⟨fun h => ?_, onL_aff1⟩
  obtain ⟨e, he⟩ := uni_e hd
  have := onL_aff1 (α := e * δ) (β := -(e * β)) (γ := -(e * γ)) (δ := e * α) (u := -(e * δ * u) + e * β * v) (v := e * γ * u - e * α * v) h
  rwa [aff_back he, aff_back he, aff_back he] at this
theorem aff_inj {α β γ δ u v : Int} {p q : Pt} (hd : α * δ - β * γ = 1 ∨ α * δ - β * γ = -1) (h : aff α β γ δ u v p = aff α β γ δ u v q) : p = q := by
  obtain ⟨e, he⟩ := uni_e hd
  rw [← aff_back (u := u) (v := v) he p, h, aff_back he]
theorem meet_aff {α β γ δ u v : Int} {a b c d : Pt} (hd : α * δ - β * γ = 1 ∨ α * δ - β * γ = -1) : Meet (aff α β γ δ u v a) (aff α β γ δ u v b) (aff α β γ δ u v c) (aff α β γ δ u v d) ↔ Meet a b c d := by
  unfold Meet
  rw [onL_aff hd, onL_aff hd, onL_aff hd, onL_aff hd, turn_aff, turn_aff, turn_aff, turn_aff]
  rcases hd with h | h
  · rw [h]; simp only [Int.one_mul]
  · rw [h]
    simp only [Int.neg_mul, Int.one_mul, sg_neg, Int.mul_neg, Int.neg_neg]
theorem good_aff {α β γ δ u v : Int} {a : List Pt} (hd : α * δ - β * γ = 1 ∨ α * δ - β * γ = -1) (g : Good_ a) (hin : ∀ i, In (aff α β γ δ u v (pt a i))) : Good_ (a.map (aff α β γ δ u v)) := by
  have hn : a ≠ [] := by intro e; have := g.lo; subst e; simp at this
  have hp := fun i => pt_maps hn (aff α β γ δ u v) i
  refine ⟨by simpa using g.lo, by simpa using g.hi, fun i _ _ => by rw [hp]; exact hin i, fun i k h0 h1 h2 => ?_, fun i h0 h1 => ?_, fun i k h0 h1 h2 h3 => ?_⟩
  · rw [hp, hp]
    exact fun e => g.ne i k h0 h1 (by simpa using h2) (aff_inj hd e)
  · rw [hp, hp, hp, turn_aff]
    have := g.turn i h0 (by simpa using h1)
    rcases hd with h | h <;> rw [h] <;> omega
  · rw [hp, hp, hp, hp, meet_aff hd]
    exact g.apart i k h0 h1 (by simpa using h2) (by simpa using h3)
theorem sm_congr' {f g : Int → Int} (h : ∀ i, f i = g i) (k : Nat) : sm f k = sm g k := by rw [show f = g from funext h]
theorem sm_tele (f : Int → Int) : ∀ k : Nat, sm (fun i => f (i + 1) - f i) k = f k - f 0
  | 0 => by simp [sm]
  | k + 1 => by
    rw [sm, sm_tele f k]
    have : ((k + 1 : Nat) : Int) = (k : Int) + 1 := by omega
    rw [this]; omega
theorem sm_smul (c : Int) (f : Int → Int) : ∀ k : Nat, sm (fun i => c * f i) k = c * sm f k
  | 0 => by simp [sm]
  | k + 1 => by rw [sm, sm, sm_smul c f k]; grind
theorem area_aff {α β γ δ u v : Int} {a : List Pt} (hn : a ≠ []) : area (a.map (aff α β γ δ u v)) = (α * δ - β * γ) * area a := by
  unfold area
  rw [List.length_map]
  have e : sm (fun i => cross (pt (a.map (aff α β γ δ u v)) i) (pt (a.map (aff α β γ δ u v)) (i + 1))) a.length
      = sm (fun i => (α * δ - β * γ) * cross (pt a i) (pt a (i + 1)) + ((fun i => u * (γ * (pt a i).x + δ * (pt a i).y) - v * (α * (pt a i).x + β * (pt a i).y)) (i + 1) - (fun i => u * (γ * (pt a i).x + δ * (pt a i).y) - v * (α * (pt a i).x + β * (pt a i).y)) i)) a.length := by
    refine sm_congr' (fun i => ?_) _
    rw [pt_maps hn, pt_maps hn]
    unfold cross aff
    grind
  rw [e, sm_plus (fun i => (α * δ - β * γ) * cross (pt a i) (pt a (i + 1))), sm_tele (fun i => u * (γ * (pt a i).x + δ * (pt a i).y) - v * (α * (pt a i).x + β * (pt a i).y)), sm_smul]
  have : pt a (a.length : Int) = pt a 0 := by rw [show (a.length : Int) = 0 + a.length by omega, pt_per]
  simp only [this]
  omega
end Go.AM
namespace Go.AM
def By (a : List Int) : Prop := ∀ x ∈ a, 0 ≤ x ∧ x ≤ 255
theorem ilen_eU (a : List Int) : ilen (List.map eU a) = (a.length : Int) := by rw [ilen_eq]; simp
theorem iand_bd {x : Int} : 0 ≤ iand IntKind.u64 x 255 ∧ iand IntKind.u64 x 255 ≤ 255 := by
  rw [iand_eq]
  have h : (BitVec.ofInt (IntKind.bits .u64) x &&& BitVec.ofInt (IntKind.bits .u64) 255).toNat ≤ 255 := by
    rw [BitVec.toNat_and]
    refine Nat.le_trans Nat.and_le_right ?_
    decide
  generalize (BitVec.ofInt (IntKind.bits .u64) x &&& BitVec.ofInt (IntKind.bits .u64) 255).toNat = n at *
  have e : IntKind.wrap .u64 (n : Int) = n := by
    simp only [IntKind.wrap, IntKind.signed, IntKind.bits]
    simp
    omega
  rw [e]; omega
theorem next_dr {L : Nat} {a : List Int} {t s : Int} (hb : By a) (ht : 0 ≤ t ∧ t ≤ 1000000) : ∃ r s', spec_l1Cur_next L a t s = some (r, t + 1, s') ∧ 0 ≤ r ∧ r ≤ 255 := by
  unfold spec_l1Cur_next
  have wt : wr IntKind.i64 (iadd t 1) = t + 1 := by rw [iadd_eq, wr_id (by omega)]
  have low : ∀ X : Int, 0 ≤ wr IntKind.i64 (iand IntKind.u64 X 255) ∧ wr IntKind.i64 (iand IntKind.u64 X 255) ≤ 255 := fun X => by
    have := iand_bd (x := X)
    rw [wr_id (by omega)]; exact this
  simp only [wt, ilen_eU, ilt_eq, ile_eq, gbind_eq, show ¬ (40 : Int) < 0 by omega, decide_false, cond_false]
  by_cases h : t < (a.length : Int)
  · have hlt : t.toNat < a.length := by omega
    have hg : lget a t = some a[t.toNat] := by rw [lget_eq, if_pos ht.1, List.getElem?_eq_getElem hlt]
    have hp := hb a[t.toNat] (List.getElem_mem hlt)
    simp only [h, decide_true, cond_true, hg, Option.bind_some]
    by_cases h2 : t + 1 ≤ (a.length : Int)
    · simp only [h2, decide_true, cond_true]
      exact ⟨_, _, rfl, by rw [wr_id (by omega)]; exact hp⟩
    · simp only [h2, decide_false, cond_false]
      exact ⟨_, _, rfl, low _⟩
  · simp only [h, decide_false, cond_false]
    by_cases h2 : t + 1 ≤ (a.length : Int)
    · simp only [h2, decide_true, cond_true]
      exact ⟨_, _, rfl, by omega, by omega⟩
    · simp only [h2, decide_false, cond_false]
      exact ⟨_, _, rfl, low _⟩
theorem pick_dr {L : Nat} {a : List Int} {t s n : Int} (hb : By a) (ht : 0 ≤ t ∧ t ≤ 900000) (hn : 1 ≤ n ∧ n ≤ 1000000) : ∃ r t' s', spec_l1Cur_pick L a t s n = some (r, t', s') ∧ (0 ≤ r ∧ r < n) ∧ t ≤ t' ∧ t' ≤ t + 2 := by
  unfold spec_l1Cur_pick
  simp only [ile_eq, ilt_eq, ieq_eq, gbind_eq]
  by_cases h1 : n ≤ 1
  · simp only [h1, decide_true, cond_true]
    exact ⟨0, t, s, rfl, by omega, by omega, by omega⟩
  · simp only [h1, decide_false, cond_false]
    obtain ⟨r, s1, e1, r0, r1⟩ := next_dr (L := L) (s := s) hb (t := t) (by omega)
    simp only [e1, Option.bind_some, show ¬ n = 0 by omega, decide_false, cond_false]
    have key : ∀ x : Int, 0 ≤ x → 0 ≤ irem x n ∧ irem x n < n := fun x hx => by
      rw [irem_eq, Int.tmod_eq_emod_of_nonneg hx]
      exact ⟨Int.emod_nonneg _ (by omega), Int.emod_lt_of_pos _ (by omega)⟩
    by_cases h2 : 200 < n
    · simp only [h2, decide_true, cond_true]
      obtain ⟨q, s2, e2, q0, q1⟩ := next_dr (L := L) (s := s1) hb (t := t + 1) (by omega)
      simp only [e2, Option.bind_some]
      refine ⟨_, _, _, rfl, key _ ?_, by omega, by omega⟩
      rw [imul_eq, iadd_eq, wr_id (n := r * 256) (by omega), wr_id (by omega)]; omega
    · simp only [h2, decide_false, cond_false]
      exact ⟨_, _, _, rfl, key r r0, by omega, by omega⟩
theorem one_dr {L : Nat} {a : List Int} {t s n : Int} (hb : By a) (ht : 0 ≤ t ∧ t ≤ 900000) (hn : 1 ≤ n ∧ n ≤ 1000000) : ∃ r t' s', spec_l1Cur_one L a t s n = some (r, t', s') ∧ t ≤ t' ∧ t' ≤ t + 2 := by
  obtain ⟨r, t', s', e, _, h1, h2⟩ := pick_dr (L := L) (s := s) hb ht hn
  unfold spec_l1Cur_one
  simp only [e, gbind_eq, Option.bind_some]
  exact ⟨_, _, _, rfl, h1, h2⟩
theorem among_dr {L : Nat} {a w : List Int} {t s : Int} (hb : By a) (ht : 0 ≤ t ∧ t ≤ 900000) (hw : 1 ≤ (w.length : Int) ∧ (w.length : Int) ≤ 1000) : ∃ r t' s', spec_l1Cur_among_v2 L a t s w = some (r, t', s', w) ∧ r ∈ w ∧ t ≤ t' ∧ t' ≤ t + 2 := by
  have hl : ilen (List.map eI w) = (w.length : Int) := by rw [ilen_eq]; simp
  obtain ⟨r, t', s', e, ⟨r0, r1⟩, h1, h2⟩ := pick_dr (L := L) (s := s) (n := (w.length : Int)) hb ht (by omega)
  unfold spec_l1Cur_among_v2
  have hlt : r.toNat < w.length := by omega
  have hg : lget w r = some w[r.toNat] := by rw [lget_eq, if_pos r0, List.getElem?_eq_getElem hlt]
  simp only [hl, e, gbind_eq, Option.bind_some, ile_eq, ilt_eq, r0, r1, decide_true, Bool.and_self, cond_true, hg]
  exact ⟨_, _, _, rfl, List.getElem_mem hlt, h1, h2⟩
theorem surePeg_dr {L : Nat} {a : List Int} {t s n : Int} (hb : By a) (ht : 0 ≤ t ∧ t ≤ 800000) (hn : 1 ≤ n ∧ n ≤ 20) : ∃ x y t' s', spec_l1Cur_surePeg L a t s n = some (x, y, t', s') ∧ In ⟨x, y⟩ ∧ t ≤ t' ∧ t' ≤ t + 4 := by
  have wn : wr IntKind.i64 (iadd (wr IntKind.i64 (imul 2 n)) 1) = 2 * n + 1 := by
    rw [imul_eq, iadd_eq, wr_id (n := 2 * n) (by omega), wr_id (by omega)]
  obtain ⟨r, t1, s1, e1, ⟨r0, r1⟩, h1, h2⟩ := pick_dr (L := L) (s := s) (n := 2 * n + 1) hb (t := t) (by omega) (by omega)
  obtain ⟨q, t2, s2, e2, ⟨q0, q1⟩, h3, h4⟩ := pick_dr (L := L) (s := s1) (n := 2 * n + 1) hb (t := t1) (by omega) (by omega)
  unfold spec_l1Cur_surePeg
  simp only [wn, e1, e2, gbind_eq, Option.bind_some, isub_eq]
  rw [wr_id (n := r - n) (by omega), wr_id (n := q - n) (by omega)]
  exact ⟨_, _, _, _, rfl, by unfold In; simp only; omega, by omega, by omega⟩
theorem peg_dr {L : Nat} {a : List Int} {t s : Int} (hb : By a) (ht : 0 ≤ t ∧ t ≤ 700000) : ∃ x y t' s', spec_l1Cur_peg L a t s = some (x, y, t', s') ∧ Wd ⟨x, y⟩ ∧ t ≤ t' ∧ t' ≤ t + 8 := by
  obtain ⟨b, t1, s1, e1, h1, h2⟩ := one_dr (L := L) (s := s) (n := 12) hb (t := t) (by omega) (by omega)
  unfold spec_l1Cur_peg
  simp only [e1, gbind_eq, Option.bind_some]
  cases b with
  | true =>
    obtain ⟨x, t2, s2, e2, m2, h3, h4⟩ := among_dr (L := L) (s := s1) (w := [0, 40, -40, 41, 4611686018427387904]) hb (t := t1) (by omega) (by simp)
    obtain ⟨y, t3, s3, e3, m3, h5, h6⟩ := among_dr (L := L) (s := s2) (w := [0, 1, 40, -41, -9223372036854775808]) hb (t := t2) (by omega) (by simp)
    simp only [cond_true, e2, e3, Option.bind_some]
    refine ⟨_, _, _, _, rfl, ?_, by omega, by omega⟩
    simp only [List.mem_cons, List.not_mem_nil, or_false] at m2 m3
    unfold Wd; simp only; omega
  | false =>
    obtain ⟨x, y, t2, s2, e2, m2, h3, h4⟩ := surePeg_dr (L := L) (s := s1) (n := 6) hb (t := t1) (by omega) (by omega)
    simp only [cond_false, e2, Option.bind_some]
    refine ⟨_, _, _, _, rfl, ?_, by omega, by omega⟩
    unfold In at m2; unfold Wd; simp only at *; omega
theorem pt_mem2 {a : List Pt} (hn : a ≠ []) (i : Int) : pt a i ∈ a := by
  have hl : 0 < (a.length : Int) := by have := List.length_pos_iff.2 hn; omega
  have := pt_get (a := a) (i := i % a.length) (Int.emod_nonneg _ (by omega)) (Int.emod_lt_of_pos _ hl)
  rw [pt_congr (Int.emod_emod_of_dvd _ (Int.dvd_refl _))] at this
  exact List.mem_of_getElem? this
structure Pl (w : List Pt) (n : Int) : Prop where
  len : (w.length : Int) ≤ n
  lo : 3 ≤ (w.length : Int)
  ins : ∀ p ∈ w, In p
theorem surePoly_l0 {L : Nat} {a : List Int} {n : Int} (hb : By a) (hn : 1 ≤ n ∧ n ≤ 20) (hL : 1000 < L) : ∀ (k m : Nat) (t s : Int) (w : List Pt), k < m → k ≤ 10 → (0 ≤ t ∧ t ≤ 500000 - 10 * k) → Pl w (30 - k) → w ≠ [] →
    ∃ r t' s', spec_l1Cur_surePolygon_l0 L a n m k t s w = some (r, t', s') ∧ Pl r 30 ∧ r ≠ [] ∧ t ≤ t' ∧ t' ≤ t + 10 * k + 2 := by
  intro k
  induction k with
  | zero =>
    intro m t s w hm _ ht hw hne
    obtain ⟨m, rfl⟩ : ∃ q, m = q + 1 := ⟨m - 1, by omega⟩
    obtain ⟨b, t1, s1, e1, h1, h2⟩ := one_dr (L := L) (s := s) (n := 3) hb (t := t) (by omega) (by omega)
    have hl := hw.len
    rw [spec_l1Cur_surePolygon_l0]
    simp only [ilt_eq, show ¬ (0 : Int) < ((0 : Nat) : Int) by omega, decide_false, cond_false, e1, gbind_eq, Option.bind_some]
    cases b with
    | true =>
      simp only [cond_true, spec_pgBack_eq (L := L) hne (show (w.length : Int) ≤ 900000 by omega) (by omega), Option.bind_some]
      refine ⟨_, _, _, rfl, ⟨by rw [tour_len]; omega, by rw [tour_len]; exact hw.lo, fun p hp => ?_⟩, fun e => hne (by have := congrArg List.length e; rw [tour_len] at this; exact List.eq_nil_of_length_eq_zero (by simpa using this)), by omega, by omega⟩
      unfold tour at hp
      obtain ⟨j, _, rfl⟩ := List.mem_map.1 hp
      exact hw.ins _ (pt_mem2 hne _)
    | false =>
      simp only [cond_false]
      exact ⟨_, _, _, rfl, ⟨by omega, hw.lo, hw.ins⟩, hne, by omega, by omega⟩
  | succ k ih =>
    intro m t s w hm hk ht hw hne
    obtain ⟨m, rfl⟩ : ∃ q, m = q + 1 := ⟨m - 1, by omega⟩
    have hl := hw.len
    have hpos : 0 < (w.length : Int) := by have := List.length_pos_iff.2 hne; omega
    obtain ⟨r, t1, s1, e1, ⟨r0, r1⟩, h1, h2⟩ := pick_dr (L := L) (s := s) (n := (w.length : Int)) hb (t := t) (by omega) (by omega)
    obtain ⟨x, y, t2, s2, e2, m2, h3, h4⟩ := surePeg_dr (L := L) (s := s1) (n := n) hb (t := t1) (by omega) hn
    have w1 : wr IntKind.i64 (iadd 1 r) = 1 + r := by rw [iadd_eq, wr_id (by omega)]
    have wk : wr IntKind.i64 (isub ((k + 1 : Nat) : Int) 1) = (k : Int) := by rw [isub_eq, wr_id (by omega)]; omega
    have hall : ∀ (u v : List AV), (u.length : Int) ≤ 100 → (v.length : Int) ≤ 100 → fits (iadd (ilen u) (ilen v)) 16 = true := fun u v hu hv => by
      rw [ilen_eq, ilen_eq, iadd_eq]; exact fits_s (by omega)
    rw [spec_l1Cur_surePolygon_l0]
    simp only [ilt_eq, show (0 : Int) < ((k + 1 : Nat) : Int) by omega, decide_true, cond_true, ilen_mapep, e1, e2, gbind_eq, Option.bind_some, w1, wk, ile_eq, show (0 : Int) ≤ 1 + r by omega, show 1 + r ≤ (w.length : Int) by omega, Bool.and_self]
    rw [hall _ _ (by simp) (by rw [lsub_eq]; simp; omega), cond_true, hall _ _ (by rw [lcat_eq, lsub_eq]; simp; omega) (by simp), cond_true, hall _ _ (by rw [lcat_eq, lcat_eq, lsub_eq]; simp; omega) (by rw [lsub_eq]; simp; omega), cond_true]
    simp only [spec_pgGood_eq (show 20 < L by omega), Option.bind_some]
    have hw' : Pl (lcat (lcat (lcat [] (lsub w 0 (iadd 0 (1 + r)))) [(⟨x, y⟩ : Pt)]) (lsub w (1 + r) (iadd (1 + r) (isub (w.length : Int) (1 + r))))) (30 - k) := by
      simp only [lcat_eq, lsub_eq, iadd_eq, isub_eq]
      have hlo := hw.lo
      refine ⟨by simp; omega, by simp; omega, fun p hp => ?_⟩
      simp only [List.nil_append, List.mem_append, List.mem_singleton] at hp
      rcases hp with (hp | hp) | hp
      · exact hw.ins p (List.mem_of_mem_drop (List.mem_of_mem_take hp))
      · rw [hp]; exact m2
      · exact hw.ins p (List.mem_of_mem_drop (List.mem_of_mem_take hp))
    have hne' : lcat (lcat (lcat [] (lsub w 0 (iadd 0 (1 + r)))) [(⟨x, y⟩ : Pt)]) (lsub w (1 + r) (iadd (1 + r) (isub (w.length : Int) (1 + r)))) ≠ [] := by
      simp [lcat_eq]
    generalize lcat (lcat (lcat [] (lsub w 0 (iadd 0 (1 + r)))) [(⟨x, y⟩ : Pt)]) (lsub w (1 + r) (iadd (1 + r) (isub (w.length : Int) (1 + r)))) = w' at *
    by_cases g : Good_ w'
    · simp only [g, decide_true, cond_true]
      obtain ⟨q, t3, s3, e3, g1, g2, g3, g4⟩ := ih m t2 s2 w' (by omega) (by omega) (by omega) hw' hne'
      exact ⟨q, t3, s3, e3, g1, g2, by omega, by omega⟩
    · simp only [g, decide_false, cond_false]
      obtain ⟨q, t3, s3, e3, g1, g2, g3, g4⟩ := ih m t2 s2 w (by omega) (by omega) (by omega) ⟨by omega, hw.lo, hw.ins⟩ hne
      exact ⟨q, t3, s3, e3, g1, g2, by omega, by omega⟩
theorem surePoly_dr {L : Nat} {a : List Int} {t s n c : Int} (hb : By a) (ht : 0 ≤ t ∧ t ≤ 400000) (hn : 1 ≤ n ∧ n ≤ 20) (hc : 2 ≤ c ∧ c ≤ 10) (hL : 1000 < L) : ∃ r t' s', spec_l1Cur_surePolygon L a t s n c = some (r, t', s') ∧ Pl r 30 ∧ r ≠ [] ∧ t ≤ t' ∧ t' ≤ t + 200 := by
  obtain ⟨x, t1, s1, e1, x0, h1, h2⟩ := pick_dr (L := L) (s := s) (n := n) hb (t := t) (by omega) (by omega)
  obtain ⟨y, t2, s2, e2, y0, h3, h4⟩ := pick_dr (L := L) (s := s1) (n := n + 1) hb (t := t1) (by omega) (by omega)
  obtain ⟨z, t3, s3, e3, z0, h5, h6⟩ := pick_dr (L := L) (s := s2) (n := n) hb (t := t2) (by omega) (by omega)
  obtain ⟨k, t4, s4, e4, k0, h7, h8⟩ := pick_dr (L := L) (s := s3) (n := c - 1) hb (t := t3) (by omega) (by omega)
  unfold spec_l1Cur_surePolygon
  have wn : wr IntKind.i64 (iadd n 1) = n + 1 := by rw [iadd_eq, wr_id (by omega)]
  have wc : wr IntKind.i64 (isub c 1) = c - 1 := by rw [isub_eq, wr_id (by omega)]
  have wx : wr IntKind.i64 (iadd 1 x) = 1 + x := by rw [iadd_eq, wr_id (by omega)]
  have wz : wr IntKind.i64 (iadd 1 z) = 1 + z := by rw [iadd_eq, wr_id (by omega)]
  simp only [e1, wn, e2, e3, wc, e4, gbind_eq, Option.bind_some, wx, wz]
  obtain ⟨q, t5, s5, e5, g1, g2, g3, g4⟩ := surePoly_l0 (L := L) hb hn hL k.toNat L t4 s4 [⟨0, 0⟩, ⟨1 + x, 0⟩, ⟨y, 1 + z⟩] (by omega) (by omega) (by omega)
    ⟨by simp; omega, by simp, fun p hp => by
      simp only [List.mem_cons, List.not_mem_nil, or_false] at hp
      rcases hp with rfl | rfl | rfl <;> unfold In <;> simp only <;> omega⟩ (by simp)
  rw [Int.toNat_of_nonneg k0.1] at e5
  exact ⟨q, t5, s5, e5, g1, g2, by omega, by omega⟩
theorem polygon_dr {L : Nat} {a : List Int} {t s n : Int} (hb : By a) (ht : 0 ≤ t ∧ t ≤ 300000) (hn : 1 ≤ n ∧ n ≤ 20) (hL : 1000 < L) : ∃ r t' s', spec_l1Cur_polygon L a t s n = some (r, t', s') ∧ (r.length : Int) ≤ 30 ∧ (∀ p ∈ r, Wd p) ∧ t ≤ t' ∧ t' ≤ t + 300 := by
  have inwd : ∀ p, In p → Wd p := fun p h => by unfold In at h; unfold Wd; omega
  obtain ⟨w, t1, s1, e1, hw, hne, h1, h2⟩ := surePoly_dr (L := L) (s := s) (n := n) (c := 8) hb (t := t) (by omega) hn (by omega) hL
  obtain ⟨k, t2, s2, e2, k0, h3, h4⟩ := pick_dr (L := L) (s := s1) (n := 16) hb (t := t1) (by omega) (by omega)
  have hpos : 0 < (w.length : Int) := by have := List.length_pos_iff.2 hne; omega
  have hl := hw.len
  unfold spec_l1Cur_polygon
  simp only [e1, e2, gbind_eq, Option.bind_some, ilen_mapep, ieq_eq]
  by_cases c0 : k = 0
  · obtain ⟨i, t3, s3, e3, i0, h5, h6⟩ := pick_dr (L := L) (s := s2) (n := (w.length : Int)) hb (t := t2) (by omega) (by omega)
    obtain ⟨x, y, t4, s4, e4, hp, h7, h8⟩ := peg_dr (L := L) (s := s3) hb (t := t3) (by omega)
    simp only [c0, decide_true, cond_true, e3, e4, Option.bind_some, ile_eq, ilt_eq, i0.1, i0.2, Bool.and_self, lget_pt i0.1 i0.2]
    refine ⟨_, _, _, rfl, by rw [lset_eq]; simp; omega, fun p hp' => ?_, by omega, by omega⟩
    rw [lset_eq] at hp'
    rcases List.mem_or_eq_of_mem_set hp' with h | h
    · exact inwd p (hw.ins p h)
    · rw [h]; exact hp
  · by_cases c1 : k = 1
    · obtain ⟨i, t3, s3, e3, i0, h5, h6⟩ := pick_dr (L := L) (s := s2) (n := 3) hb (t := t2) (by omega) (by omega)
      simp only [c0, c1, decide_true, decide_false, cond_true, cond_false, e3, Option.bind_some, ile_eq, i0.1, Bool.true_and]
      have hlo := hw.lo
      by_cases hi : i ≤ (w.length : Int)
      · simp only [hi, decide_true, cond_true]
        refine ⟨_, _, _, rfl, by rw [lsub_eq]; simp; omega, fun p hp' => ?_, by omega, by omega⟩
        rw [lsub_eq] at hp'
        exact inwd p (hw.ins p (List.mem_of_mem_drop (List.mem_of_mem_take hp')))
      · omega
    · by_cases c2 : k = 2
      · simp only [c0, c1, c2, decide_true, decide_false, cond_true, cond_false]
        refine ⟨_, _, _, rfl, by simp, fun p hp' => ?_, by omega, by omega⟩
        simp only [List.mem_cons, List.not_mem_nil, or_false] at hp'
        rcases hp' with rfl | rfl | rfl | rfl <;> unfold Wd <;> simp only <;> omega
      · simp only [c0, c1, c2, decide_false, cond_false]
        exact ⟨_, _, _, rfl, by omega, fun p hp => inwd p (hw.ins p hp), by omega, by omega⟩
end Go.AM
namespace Go.AM
end Go.AM
namespace Go.AM
end Go.AM
namespace Go.AM
structure Side (o : Pt → Pt → Prop) (Q A : List Pt) : Prop where
  ord : ∀ (i : Nat) a b, A[i]? = some a → A[i + 1]? = some b → o a b
  cov : ∀ (i : Nat) a b, A[i]? = some a → A[i + 1]? = some b → ∀ q ∈ Q, 0 ≤ turn a b q
  cvx : ∀ (i : Nat) a b c, A[i]? = some a → A[i + 1]? = some b → A[i + 2]? = some c → 0 < turn a b c
  sub : ∀ x ∈ A, x ∈ Q
end Go.AM
namespace Go.AM
structure Hull (n : Int) (P : Int → Pt) (Q : List Pt) : Prop where
  n3 : 3 ≤ n
  per : ∀ i, P (i + n) = P i
  left : ∀ i, 0 < turn (P i) (P (i + 1)) (P (i + 2))
  cov : ∀ i, ∀ q ∈ Q, 0 ≤ turn (P i) (P (i + 1)) q
  sub : ∀ i, P i ∈ Q
  inj : ∀ i j, 0 ≤ i → i < j → j < n → P i ≠ P j
section
variable {n : Int} {P : Int → Pt} {Q : List Pt}
theorem Hull.mod (h : Hull n P Q) (i : Int) : P (i % n) = P i := by
  have up : ∀ (k : Nat) (x : Int), P (x + k * n) = P x := by
    intro k
    induction k with
    | zero => intro x; simp
    | succ k ih => intro x; rw [show x + ((k + 1 : Nat) : Int) * n = (x + k * n) + n by rw [Int.natCast_add, Int.add_mul]; simp; omega, h.per, ih]
  have n3 := h.n3
  rcases Int.le_total 0 (i / n) with hq | hq
  · have := up (i / n).toNat (i % n)
    rw [Int.toNat_of_nonneg hq, Int.mul_comm, Int.emod_add_mul_ediv] at this
    exact this.symm
  · have := up (-(i / n)).toNat i
    rw [Int.toNat_of_nonneg (by omega), Int.neg_mul, Int.mul_comm] at this
    rw [← this]; congr 1
    have := Int.emod_add_mul_ediv i n
    omega
theorem Hull.ne (h : Hull n P Q) {i j : Int} (h1 : i < j) (h2 : j < i + n) : P i ≠ P j := fun e => by
  have n3 := h.n3
  have a := Int.emod_nonneg i (b := n) (by omega)
  have b := Int.emod_lt_of_pos i (b := n) (by omega)
  have c := Int.emod_nonneg j (b := n) (by omega)
  have d := Int.emod_lt_of_pos j (b := n) (by omega)
  have ne : i % n ≠ j % n := fun e1 => by
    have := Int.emod_emod_of_dvd (j - i) (Int.dvd_refl n)
    have h3 : (j - i) % n = 0 := by rw [Int.sub_emod, e1]; simp
    have h4 : (j - i) % n = j - i := Int.emod_eq_of_lt (by omega) (by omega)
    omega
  rw [← h.mod i, ← h.mod j] at e
  rcases Int.lt_or_le (i % n) (j % n) with h3 | h3
  · exact h.inj _ _ a h3 d e
  · exact h.inj _ _ c (by omega) b e.symm
end
end Go.AM
namespace Go.AM
section
variable {l A B : List Pt} {k m : Nat}
theorem band_get (hA : A.length = k + 1) (hB : B.length = m + 1) (hm : 0 < m) (hk : 0 < k) (e1 : A.getLast? = B[0]?) (e2 : B.getLast? = A[0]?) :
    (A.dropLast ++ B.dropLast).length = k + m ∧ (∀ i : Nat, i ≤ k → A[i]? = some (pt (A.dropLast ++ B.dropLast) i)) ∧ (∀ j : Nat, j ≤ m → B[j]? = some (pt (A.dropLast ++ B.dropLast) ((k + j : Nat) : Int))) := by
  have hl : (A.dropLast ++ B.dropLast).length = k + m := by simp; omega
  have g : ∀ i : Nat, i < k + m → (A.dropLast ++ B.dropLast)[i]? = some (pt (A.dropLast ++ B.dropLast) i) := fun i hi => by
    unfold pt
    rw [hl, Int.emod_eq_of_lt (by omega) (by omega), Int.toNat_natCast, List.getD_eq_getElem?_getD, List.getElem?_eq_getElem (by omega)]
    simp
  have gA : ∀ i : Nat, i < k → A[i]? = some (pt (A.dropLast ++ B.dropLast) i) := fun i hi => by
    rw [← g i (by omega), List.getElem?_append_left (by simp; omega), List.getElem?_dropLast, if_pos (by omega)]
  have gB : ∀ j : Nat, j < m → B[j]? = some (pt (A.dropLast ++ B.dropLast) ((k + j : Nat) : Int)) := fun j hj => by
    rw [← g (k + j) (by omega), List.getElem?_append_right (by simp; omega), List.getElem?_dropLast, List.length_dropLast, hA, show k + j - (k + 1 - 1) = j by omega, if_pos (by omega)]
  refine ⟨hl, fun i hi => ?_, fun j hj => ?_⟩
  · rcases Nat.lt_or_ge i k with h | h
    · exact gA i h
    · obtain rfl : i = k := by omega
      rw [List.getLast?_eq_getElem?, hA, show i + 1 - 1 = i by omega] at e1
      rw [e1, gB 0 hm, Nat.add_zero]
  · rcases Nat.lt_or_ge j m with h | h
    · exact gB j h
    · obtain rfl : j = m := by omega
      rw [List.getLast?_eq_getElem?, hB, show j + 1 - 1 = j by omega] at e2
      rw [e2, gA 0 hk]
      congr 1
      unfold pt
      rw [hl]
      congr 2
      simp
structure Sides (l A B : List Pt) (k m : Nat) : Prop where
  up : Side Less l A
  dn : Side (fun a b => Less b a) l B
  lA : A.length = k + 1
  lB : B.length = m + 1
  k0 : 0 < k
  m0 : 0 < m
  e1 : A.getLast? = B[0]?
  e2 : B.getLast? = A[0]?
namespace Sides
variable (h : Sides l A B k m)
include h
def bd (_ : Sides l A B k m) : List Pt := A.dropLast ++ B.dropLast
omit h in
theorem len (h : Sides l A B k m) : (A.dropLast ++ B.dropLast).length = k + m := (band_get h.lA h.lB h.m0 h.k0 h.e1 h.e2).1
end Sides
end
end Go.AM
namespace Go.AM
namespace Sides
section
variable {l A B : List Pt} {k m : Nat} (h : Sides l A B k m)
include h
end
end Sides
end Go.AM
namespace Go.AM
section
variable {n : Int} {P : Int → Pt}
end
end Go.AM
namespace Go.AM
end Go.AM
namespace Go.AM
end Go.AM
namespace Go.AM
end Go.AM
namespace Go.AM
end Go.AM
namespace Go.AM
theorem wr_v {n : Int} (h : -1000000000 ≤ n ∧ n ≤ 1000000000) : wr .i64 n = n := wr_id (by omega)
def val (b c : Int) (p : Pt) : Int := b * p.x + c * p.y
theorem val_wr {b c : Int} {p : Pt} (hb : -100000 ≤ b ∧ b ≤ 100000) (hc : -100000 ≤ c ∧ c ≤ 100000) (hp : In p) : wr IntKind.i64 (iadd (wr IntKind.i64 (imul b p.x)) (wr IntKind.i64 (imul c p.y))) = val b c p := by
  have h1 := mul_bd (A := 100000) (B := 40) hb hp.1
  have h2 := mul_bd (A := 100000) (B := 40) hc hp.2
  simp only [imul_eq, iadd_eq]
  rw [wr_v (n := b * p.x) (by omega), wr_v (n := c * p.y) (by omega), wr_v (by omega)]
  rfl
end Go.AM
namespace Go.AM
def Bd20 (n : Int) : Prop := -20 ≤ n ∧ n ≤ 20
def Bd80 (n : Int) : Prop := -80 ≤ n ∧ n ≤ 80
instance (n : Int) : Decidable (Bd20 n) := by unfold Bd20; infer_instance
instance (n : Int) : Decidable (Bd80 n) := by unfold Bd80; infer_instance
def Wi (n : Int) : Prop := -9223372036854775808 ≤ n ∧ n ≤ 9223372036854775807
def MvG (A B C D X Y : Int) : Prop := (Bd20 A ∧ Bd20 B ∧ Bd20 C ∧ Bd20 D) ∧ (Bd80 X ∧ Bd80 Y) ∧ (A * D - B * C).natAbs = 1
instance (A B C D X Y : Int) : Decidable (MvG A B C D X Y) := by unfold MvG; infer_instance
theorem l1All_l0 {L : Nat} {a : List Int} {lo hi : Int} (hs : (a.length : Int) ≤ 100000) : ∀ (m i : Nat), i ≤ a.length → a.length - i < m → spec_l1All_l0 L a lo hi m i = some (decide (∀ x ∈ a.drop i, lo ≤ x ∧ x ≤ hi)) := by
  intro m
  induction m with
  | zero => intro i _ h; omega
  | succ m ih =>
    intro i hi' hm
    rw [spec_l1All_l0]
    by_cases h : (i : Int) < (a.length : Int)
    · have hlt : i < a.length := by omega
      have wi : wr IntKind.i64 (iadd (i : Int) 1) = ((i + 1 : Nat) : Int) := by rw [iadd_eq, wr_s (by omega)]; omega
      have hg : lget a (i : Int) = some a[i] := by rw [lget_eq, if_pos (by omega), Int.toNat_natCast, List.getElem?_eq_getElem hlt]
      have hlen : ilen (List.map eI a) = (a.length : Int) := by rw [ilen_eq]; simp
      simp only [hlen, ilt_eq, h, decide_true, cond_true, hg, gbind_eq, Option.bind_some, spec_l1In_eq, wi, ih (i + 1) (by omega) (by omega)]
      have e : (∀ x ∈ a.drop i, lo ≤ x ∧ x ≤ hi) ↔ ((lo ≤ a[i] ∧ a[i] ≤ hi) ∧ ∀ x ∈ a.drop (i + 1), lo ≤ x ∧ x ≤ hi) := by rw [List.drop_eq_getElem_cons hlt]; exact List.forall_mem_cons
      by_cases hb : lo ≤ a[i] ∧ a[i] ≤ hi
      · simp only [hb, and_self, decide_true, Bool.not_true, cond_false]
        congr 1; rw [decide_eq_decide, e]; exact ⟨fun h => ⟨hb, h⟩, fun h => h.2⟩
      · simp only [hb, decide_false, Bool.not_false, cond_true]
        congr 1; symm; rw [decide_eq_false_iff_not, e]; exact fun h => hb h.1
    · have hlen : ilen (List.map eI a) = (a.length : Int) := by rw [ilen_eq]; simp
      simp only [hlen, ilt_eq, h, decide_false, cond_false]
      rw [List.drop_of_length_le (by omega)]
      simp
theorem l1All_eq {L : Nat} {a : List Int} {lo hi : Int} (hs : (a.length : Int) ≤ 100000) (hL : a.length < L) : spec_l1All L a lo hi = some (decide (∀ x ∈ a, lo ≤ x ∧ x ≤ hi)) := by
  unfold spec_l1All
  exact l1All_l0 hs L 0 (by omega) (by omega)
theorem l1All4 {L : Nat} {A B C D : Int} (hL : 10 < L) : spec_l1All L [A, B, C, D] (-20) 20 = some (decide (Bd20 A ∧ Bd20 B ∧ Bd20 C ∧ Bd20 D)) := by
  rw [l1All_eq (by simp) (by simp; omega)]
  congr 1
  rw [decide_eq_decide]
  simp [Bd20]
theorem l1All2 {L : Nat} {X Y : Int} (hL : 10 < L) : spec_l1All L [X, Y] (-80) 80 = some (decide (Bd80 X ∧ Bd80 Y)) := by
  rw [l1All_eq (by simp) (by simp; omega)]
  congr 1
  rw [decide_eq_decide]
  simp [Bd80]
theorem det_wr {A B C D : Int} (h : Bd20 A ∧ Bd20 B ∧ Bd20 C ∧ Bd20 D) : wr IntKind.i64 (isub (wr IntKind.i64 (imul A D)) (wr IntKind.i64 (imul B C))) = A * D - B * C ∧ (-1000 ≤ A * D - B * C ∧ A * D - B * C ≤ 1000) := by
  unfold Bd20 at h
  have m1 := mul_bd (x := A) (y := D) (A := 20) (B := 20) (by omega) (by omega)
  have m2 := mul_bd (x := B) (y := C) (A := 20) (B := 20) (by omega) (by omega)
  rw [imul_eq, imul_eq, isub_eq, wr_s (i := A * D) (by omega), wr_s (i := B * C) (by omega), wr_s (by omega)]
  exact ⟨rfl, by omega⟩
theorem spec_mvGood_eq {L : Nat} {A B C D X Y : Int} (hL : 10 < L) : spec_mvGood L A B C D X Y = some (decide (MvG A B C D X Y)) := by
  unfold spec_mvGood
  simp only [l1All4 hL, l1All2 hL, gbind_eq, Option.bind_some]
  by_cases h : Bd20 A ∧ Bd20 B ∧ Bd20 C ∧ Bd20 D
  · by_cases h2 : Bd80 X ∧ Bd80 Y
    · obtain ⟨d1, d2⟩ := det_wr h
      simp only [h, h2, and_self, decide_true, cond_true, d1, spec_l1Abs_eq (L := L) (n := A * D - B * C) (by omega), Option.bind_some, ieq_eq, MvG, true_and]
      congr 1; rw [decide_eq_decide]; omega
    · simp only [h, h2, and_self, decide_true, decide_false, cond_true, cond_false, MvG, false_and, and_false]
  · simp only [h, decide_false, cond_false, MvG, false_and]
theorem isWay_eq {L : Nat} {x y : Int} (hx : Wi x) (hy : Wi y) : impl_isWay L x y = some (decide (Bd80 x ∧ Bd80 y)) := by
  have key : ∀ x : Int, Wi x → ∃ s, impl_size L x = some s ∧ (s ≤ 80 ↔ (Bd80 x ∨ x = -9223372036854775808)) := by
    intro x hx
    unfold Wi at hx
    unfold impl_size Bd80
    simp only [imax_eq, isub_eq]
    refine ⟨_, rfl, ?_⟩
    by_cases e : x = -9223372036854775808
    · subst e
      have : wr IntKind.i64 (0 - -9223372036854775808) = -9223372036854775808 := by rw [wr_eq]; decide
      rw [this]; simp
    · rw [wr_id (by omega)]
      split <;> omega
  obtain ⟨s, s1, s2⟩ := key x hx
  obtain ⟨t, t1, t2⟩ := key y hy
  unfold impl_isWay
  simp only [s1, t1, gbind_eq, Option.bind_some, ile_eq, ilt_eq]
  unfold Wi at hx hy
  by_cases h1 : s ≤ 80
  · by_cases h2 : t ≤ 80
    · have a1 := s2.1 h1
      have a2 := t2.1 h2
      unfold Bd80 at *
      by_cases h3 : -1000 < x
      · simp only [h1, h2, h3, decide_true, cond_true]
        congr 1; rw [decide_eq_decide]; omega
      · simp only [h1, h2, h3, decide_true, decide_false, cond_true, cond_false]
        congr 1; symm; rw [decide_eq_false_iff_not]; omega
    · have : ¬ Bd80 y := fun h => h2 (t2.2 (.inl h))
      simp only [h1, h2, decide_true, decide_false, cond_true, cond_false, this, and_false]
  · have : ¬ Bd80 x := fun h => h1 (s2.2 (.inl h))
    simp only [h1, decide_false, cond_false, this, false_and]
theorem impl_IsMove_eq {L : Nat} {A B C D X Y : Int} (hX : Wi X) (hY : Wi Y) (hL : 10 < L) : impl_IsMove L A B C D X Y = some (decide (MvG A B C D X Y)) := by
  unfold impl_IsMove
  have key : ∀ m, impl_IsMove_l0 L A B C D X Y (m + 5) 0 = some (decide (MvG A B C D X Y)) := by
    intro m
    have w : ∀ i : Int, 0 ≤ i → i ≤ 10 → wr IntKind.i64 (iadd i 1) = i + 1 := fun i h0 h1 => by rw [iadd_eq, wr_s (by omega)]
    have hlen : ilen [AV.int IntKind.i64 A, AV.int IntKind.i64 B, AV.int IntKind.i64 C, AV.int IntKind.i64 D] = 4 := by rw [ilen_eq]; rfl
    have g0 : lget [A, B, C, D] 0 = some A := by rw [lget_eq]; rfl
    have g1 : lget [A, B, C, D] 1 = some B := by rw [lget_eq]; rfl
    have g2 : lget [A, B, C, D] 2 = some C := by rw [lget_eq]; rfl
    have g3 : lget [A, B, C, D] 3 = some D := by rw [lget_eq]; rfl
    have bA : (-20 ≤ A ∧ A ≤ 20) ↔ Bd20 A := Iff.rfl
    have bB : (-20 ≤ B ∧ B ≤ 20) ↔ Bd20 B := Iff.rfl
    have bC : (-20 ≤ C ∧ C ≤ 20) ↔ Bd20 C := Iff.rfl
    have bD : (-20 ≤ D ∧ D ≤ 20) ↔ Bd20 D := Iff.rfl
    rw [impl_IsMove_l0]
    simp only [hlen, ilt_eq, ile_eq, show (0 : Int) < 4 by omega, Int.le_refl, decide_true, Bool.and_self, cond_true, g0, gbind_eq, Option.bind_some, impl_within_eq, w 0 (by omega) (by omega), bA]
    by_cases hA : Bd20 A
    · simp only [hA, decide_true, Bool.not_true, cond_false]
      rw [impl_IsMove_l0]
      simp only [hlen, ilt_eq, ile_eq, show (0 + 1 : Int) < 4 by omega, show (0 : Int) ≤ 0 + 1 by omega, decide_true, Bool.and_self, cond_true, show (0 + 1 : Int) = 1 by omega, show (1 : Int) < 4 by omega, show (0 : Int) ≤ 1 by omega, g1, gbind_eq, Option.bind_some, impl_within_eq, w 1 (by omega) (by omega), bB]
      by_cases hB : Bd20 B
      · simp only [hB, decide_true, Bool.not_true, cond_false]
        rw [impl_IsMove_l0]
        simp only [hlen, ilt_eq, ile_eq, show (1 + 1 : Int) = 2 by omega, show (2 : Int) < 4 by omega, show (0 : Int) ≤ 2 by omega, decide_true, Bool.and_self, cond_true, g2, gbind_eq, Option.bind_some, impl_within_eq, w 2 (by omega) (by omega), bC]
        by_cases hC : Bd20 C
        · simp only [hC, decide_true, Bool.not_true, cond_false]
          rw [impl_IsMove_l0]
          simp only [hlen, ilt_eq, ile_eq, show (2 + 1 : Int) = 3 by omega, show (3 : Int) < 4 by omega, show (0 : Int) ≤ 3 by omega, decide_true, Bool.and_self, cond_true, g3, gbind_eq, Option.bind_some, impl_within_eq, w 3 (by omega) (by omega), bD]
          by_cases hD : Bd20 D
          · simp only [hD, decide_true, Bool.not_true, cond_false]
            rw [impl_IsMove_l0]
            simp only [hlen, ilt_eq, show (3 + 1 : Int) = 4 by omega, Int.lt_irrefl, decide_false, cond_false, isWay_eq hX hY, gbind_eq, Option.bind_some]
            by_cases hw : Bd80 X ∧ Bd80 Y
            · obtain ⟨d1, d2⟩ := det_wr (A := A) (B := B) (C := C) (D := D) ⟨hA, hB, hC, hD⟩
              unfold impl_Move_side
              simp only [hw, and_self, decide_true, cond_true, d1, Option.bind_some, impl_size_eq (L := L) (n := A * D - B * C) (by omega), ieq_eq, MvG, hA, hB, hC, hD, true_and]
              congr 1; rw [decide_eq_decide]; omega
            · simp only [hw, decide_false, cond_false, MvG, false_and, and_false]
          · simp only [hD, decide_false, Bool.not_false, cond_true, MvG, false_and, and_false]
        · simp only [hC, decide_false, Bool.not_false, cond_true, MvG, false_and, and_false]
      · simp only [hB, decide_false, Bool.not_false, cond_true, MvG, false_and, and_false]
    · simp only [hA, decide_false, Bool.not_false, cond_true, MvG, false_and]
  obtain ⟨m, hm⟩ : ∃ m, L = m + 5 := ⟨L - 5, by omega⟩
  have := key m
  rw [← hm] at this
  exact this
end Go.AM
namespace Go.AM
theorem vwl {a : List Pt} (g : Good_ a) : (∀ i, In (pt a i)) ∧ a ≠ [] ∧ (a.length : Int) ≤ 10 ∧ 3 ≤ (a.length : Int) := by
  have lo := g.lo
  have hn : a ≠ [] := by intro e; subst e; simp at lo
  exact ⟨in_all g.isIn hn, hn, g.hi, lo⟩
theorem take_pt {S : List Pt} {i : Nat} (h : i < S.length) : S.take (i + 1) = S.take i ++ [pt S i] := by
  have hg := pt_get (a := S) (i := (i : Int)) (by omega) (by omega)
  rw [Int.toNat_natCast] at hg
  rw [List.take_add_one, hg]; rfl
theorem bring_val {L : Nat} {a : List Pt} {A B C D X Y : Int} {p : Pt} (hp : In p) (hA : -100000 ≤ A ∧ A ≤ 100000) (hB : -100000 ≤ B ∧ B ≤ 100000) (hC : -100000 ≤ C ∧ C ≤ 100000) (hD : -100000 ≤ D ∧ D ≤ 100000) (hX : -1000 ≤ X ∧ X ≤ 1000) (hY : -1000 ≤ Y ∧ Y ≤ 1000) :
    impl_Move_bring L A B C D X Y p.x p.y = some (val A B p + X, val C D p + Y) := by
  rw [impl_bring_eq, spec_mvPeg_eq (by omega) (by omega) (by omega) (by omega) (by omega) (by omega) (by unfold In at hp; omega) (by unfold In at hp; omega)]
  rfl
def mvP (A B C D X Y : Int) (p : Pt) : Pt := ⟨val A B p + X, val C D p + Y⟩
theorem mvP_bd {A B C D X Y : Int} {p : Pt} (hm : MvG A B C D X Y) (hp : In p) : (-1600 ≤ val A B p ∧ val A B p ≤ 1600) ∧ (-1600 ≤ val C D p ∧ val C D p ≤ 1600) ∧ (-2000 ≤ val A B p + X ∧ val A B p + X ≤ 2000) ∧ (-2000 ≤ val C D p + Y ∧ val C D p + Y ≤ 2000) := by
  obtain ⟨⟨a, b, c, d⟩, ⟨x, y⟩, _⟩ := hm
  unfold Bd20 at a b c d
  unfold Bd80 at x y
  have m1 := mul_bd (x := A) (y := p.x) (A := 20) (B := 40) a hp.1
  have m2 := mul_bd (x := B) (y := p.y) (A := 20) (B := 40) b hp.2
  have m3 := mul_bd (x := C) (y := p.x) (A := 20) (B := 40) c hp.1
  have m4 := mul_bd (x := D) (y := p.y) (A := 20) (B := 40) d hp.2
  unfold val; omega
theorem map_pt {a : List Pt} (H : Pt → Pt) : ((List.range a.length).map fun (j : Nat) => H (pt a j)) = a.map H := by
  refine List.ext_getElem (by simp) fun i h1 h2 => ?_
  simp only [List.getElem_map, List.getElem_range]
  have hi : i < a.length := by simpa using h1
  have e := pt_get (a := a) (i := (i : Int)) (by omega) (by omega)
  rw [Int.toNat_natCast, List.getElem?_eq_getElem hi] at e
  rw [Option.some.inj e]
theorem mv_wr {A B C D X Y : Int} {p : Pt} (hm : MvG A B C D X Y) (hp : In p) : wr IntKind.i64 (iadd (wr IntKind.i64 (iadd (wr IntKind.i64 (imul A p.x)) (wr IntKind.i64 (imul B p.y)))) X) = (mvP A B C D X Y p).x ∧ wr IntKind.i64 (iadd (wr IntKind.i64 (iadd (wr IntKind.i64 (imul C p.x)) (wr IntKind.i64 (imul D p.y)))) Y) = (mvP A B C D X Y p).y := by
  obtain ⟨b1, b2, b3, b4⟩ := mvP_bd hm hp
  obtain ⟨⟨a, b, c, d⟩, ⟨x, y⟩, _⟩ := hm
  unfold Bd20 at a b c d
  have e1 := val_wr (p := p) (b := A) (c := B) (by omega) (by omega) hp
  have e2 := val_wr (p := p) (b := C) (c := D) (by omega) (by omega) hp
  rw [e1, e2, iadd_eq, iadd_eq, wr_s (by omega), wr_s (by omega)]
  exact ⟨rfl, rfl⟩
theorem pgMap_l0 {L : Nat} {a : List Pt} {A B C D X Y : Int} (hm : MvG A B C D X Y) (hin : ∀ i, In (pt a i)) (hs : (a.length : Int) ≤ 1000) : ∀ (m i : Nat), i ≤ a.length → a.length - i < m →
    ((∃ j : Int, (i : Int) ≤ j ∧ j < a.length ∧ ¬ In (mvP A B C D X Y (pt a j))) → spec_pgMap_l0 L a A B C D X Y m i ((a.take i).map (mvP A B C D X Y)) = some ([], false)) ∧
    ((∀ j : Int, (i : Int) ≤ j → j < a.length → In (mvP A B C D X Y (pt a j))) → spec_pgMap_l0 L a A B C D X Y m i ((a.take i).map (mvP A B C D X Y)) = some (a.map (mvP A B C D X Y), true)) := by
  intro m
  induction m with
  | zero => intro i _ h; omega
  | succ m ih =>
    intro i hi hm'
    rw [spec_pgMap_l0]
    by_cases h : (i : Int) < (a.length : Int)
    · have hlt : i < a.length := by omega
      have wi : wr IntKind.i64 (iadd (i : Int) 1) = ((i + 1 : Nat) : Int) := by rw [iadd_eq, wr_s (by omega)]; omega
      obtain ⟨e1, e2⟩ := mv_wr hm (hin i)
      obtain ⟨k1, k2⟩ := ih (i + 1) (by omega) (by omega)
      rw [take_pt hlt, List.map_append] at k1 k2
      simp only [ilen_mapep, ilt_eq, h, decide_true, cond_true, lget_pt (show (0 : Int) ≤ i by omega) h, gbind_eq, Option.bind_some, e1, e2]
      by_cases hI : In (mvP A B C D X Y (pt a i))
      · rw [spec_pgIs_eq.1 hI]
        have hf : fits (iadd ((List.map (mvP A B C D X Y) (List.take i a)).length : Int) (ilen [AV.agg [AV.int IntKind.i64 (mvP A B C D X Y (pt a i)).x, AV.int IntKind.i64 (mvP A B C D X Y (pt a i)).y]])) 16 = true := by
          rw [ilen_eq, iadd_eq]; exact fits_s (by simp; omega)
        simp only [Option.bind_some, Bool.not_true, cond_false, hf, cond_true, wi, lcat_eq]
        refine ⟨fun ⟨j, j0, j1, j2⟩ => k1 ⟨j, ?_, j1, j2⟩, fun hh => k2 fun j j0 j1 => hh j (by omega) j1⟩
        by_cases e : j = i
        · subst e; exact absurd hI j2
        · omega
      · rw [spec_pgIs_eq.2 hI]
        simp only [Option.bind_some, Bool.not_false, cond_true]
        exact ⟨fun _ => trivial, fun hh => absurd (hh i (Int.le_refl _) h) hI⟩
    · simp only [ilen_mapep, ilt_eq, h, decide_false, cond_false]
      refine ⟨fun ⟨j, j0, j1, _⟩ => by omega, fun _ => ?_⟩
      rw [List.take_of_length_le (by omega)]
theorem map_both {L : Nat} {a : List Pt} {A B C D X Y : Int} (hm : MvG A B C D X Y) (g : Good_ a) (hL : 5000 < L) :
    ∃ r, spec_pgMap L a A B C D X Y = some r ∧ impl_changed_impl_Move_bring L a A B C D X Y = some r ∧ (r.1.length : Int) ≤ 10 ∧ (r.2 = true → r.1 = a.map (mvP A B C D X Y) ∧ ∀ i, In (mvP A B C D X Y (pt a i))) := by
  obtain ⟨h_isIn, h_nn, h_len, hlo⟩ := vwl g
  have hi := g.hi
  obtain ⟨k1, k2⟩ := pgMap_l0 (L := L) hm h_isIn (by omega) L 0 (by omega) (by omega)
  unfold spec_pgMap impl_changed_impl_Move_bring
  rw [impl_IsPolygon_eq (by omega)]
  obtain ⟨⟨bA, bB, bC, bD⟩, ⟨bX, bY⟩, _⟩ := id hm
  unfold Bd20 at bA bB bC bD
  unfold Bd80 at bX bY
  have := idxLoop (f := impl_changed_impl_Move_bring_l0 L a A B C D X Y) (H := fun i => mvP A B C D X Y (pt a i)) (n := a.length) (K := fun w => (impl_arePegs L w).bind fun r2 => bif !r2 then some ([], false) else some (w, true)) (fun m w => by
    simp only [impl_changed_impl_Move_bring_l0, ilt_eq, ilen_mapep, Int.lt_irrefl, decide_false, cond_false, gbind_eq]) (fun m v w h0 h1 hw => by
    have hb := bring_val (L := L) (a := a) (A := A) (B := B) (C := C) (D := D) (X := X) (Y := Y) (h_isIn v) (by omega) (by omega) (by omega) (by omega) (by omega) (by omega)
    simp only [impl_changed_impl_Move_bring_l0, ilt_eq, ilen_mapep, h1, decide_true, cond_true, gbind_eq, lget_pt h0 h1, Option.bind_some, hb, iadd_eq, wr_s (i := v + 1) (by omega), lcat_eq]
    simp only [ilen_eq, List.length_cons, List.length_nil, fits_s (n := (w.length : Int) + ((0 + 1 : Nat) : Int)) (b := 16) (by omega), cond_true]
    rfl) L 0 (by omega) (by omega)
  have this' : impl_changed_impl_Move_bring_l0 L a A B C D X Y L 0 [] = (impl_arePegs L ((List.range a.length).map fun (j : Nat) => mvP A B C D X Y (pt a j))).bind fun r2 => bif !r2 then some ([], false) else some (((List.range a.length).map fun (j : Nat) => mvP A B C D X Y (pt a j)), true) := this
  rw [map_pt (mvP A B C D X Y)] at this'
  simp only [g, decide_true, gbind_eq, Option.bind_some, Bool.not_true, cond_false, this']
  have hpm : ∀ i, pt (a.map (mvP A B C D X Y)) i = mvP A B C D X Y (pt a i) := fun i => by
    have hl0 : 0 < (a.length : Int) := by omega
    have h0 := Int.emod_nonneg i (show (a.length : Int) ≠ 0 by omega)
    have h1 := Int.emod_lt_of_pos i hl0
    have h2 : (i % (a.length : Int)).toNat < a.length := by omega
    unfold pt
    simp [h2]
  obtain ⟨p1, p2⟩ := arePegs_eq (L := L) (a := a.map (mvP A B C D X Y)) (by simp; omega) (by simp; omega)
  by_cases hI : ∃ i : Int, 0 ≤ i ∧ i < (a.length : Int) ∧ ¬ In (mvP A B C D X Y (pt a i))
  · rw [p1 (by obtain ⟨i, i0, i1, i2⟩ := hI; exact ⟨i, i0, by simpa using i1, by rw [hpm]; exact i2⟩)]
    simp only [Option.bind_some, Bool.not_false, cond_true]
    obtain ⟨i, i0, i1, i2⟩ := hI
    exact ⟨_, k1 ⟨i, by omega, i1, i2⟩, rfl, by simp, fun h => by cases h⟩
  · have hI' : ∀ i : Int, 0 ≤ i → i < (a.length : Int) → In (mvP A B C D X Y (pt a i)) := fun i i0 i1 => Classical.byContradiction fun e => hI ⟨i, i0, i1, e⟩
    rw [p2 (fun i i0 i1 => by rw [hpm]; exact hI' i i0 (by simpa using i1))]
    simp only [Option.bind_some, Bool.not_true, cond_false]
    refine ⟨_, k2 fun j j0 j1 => hI' j (by omega) j1, rfl, by simp; omega, fun _ => ⟨rfl, fun i => ?_⟩⟩
    have := hI' (i % a.length) (Int.emod_nonneg _ (by omega)) (Int.emod_lt_of_pos _ (by omega))
    rwa [pt_mod] at this
end Go.AM
namespace Go.AM
def no7 : Int × Int × Int × Int × Int × Int × Bool := (0, 0, 0, 0, 0, 0, false)
def mv7 (A B C D X Y : Int) : Int × Int × Int × Int × Int × Int × Bool := if MvG A B C D X Y then (A, B, C, D, X, Y, true) else no7
theorem checked_eq {L : Nat} {A B C D X Y : Int} (hX : Wi X) (hY : Wi Y) (hL : 10 < L) : spec_mvIf L A B C D X Y = some (mv7 A B C D X Y) ∧ impl_checkedMove L A B C D X Y = some (mv7 A B C D X Y) := by
  unfold spec_mvIf impl_checkedMove mv7
  simp only [spec_mvGood_eq hL, impl_IsMove_eq hX hY hL, gbind_eq, Option.bind_some]
  by_cases h : MvG A B C D X Y
  · simp only [h, decide_true, Bool.not_true, cond_false, if_true, and_self]
  · simp only [h, decide_false, Bool.not_false, cond_true, if_false, no7, and_self]
theorem wi_of80 {n : Int} (h : Bd80 n) : Wi n := by unfold Bd80 at h; unfold Wi; omega
theorem uni_of {A B C D X Y : Int} (h : MvG A B C D X Y) : A * D - B * C = 1 ∨ A * D - B * C = -1 := by have := h.2.2; omega
end Go.AM
namespace Go.AM
theorem move_l0 {L : Nat} {a : List Int} {r r1 : Int × Int × Int} (hb : By a) (hr : 0 ≤ r.1 ∧ r.1 < 7) (hr1 : 0 ≤ r1.1 ∧ r1.1 < 7) : ∀ (k m : Nat) (t s M b0 b1 b2 b3 : Int), k < m → k ≤ 5 → (0 ≤ t ∧ t ≤ 500000 - 10 * k) → (-M ≤ b0 ∧ b0 ≤ M) → (-M ≤ b1 ∧ b1 ≤ M) → (-M ≤ b2 ∧ b2 ≤ M) → (-M ≤ b3 ∧ b3 ≤ M) → 2 ^ k * M ≤ 1000 →
    ∃ A B C D X Y t' s', spec_l1Cur_move_l0 L a r r1 m k t s b0 b1 b2 b3 = some (A, B, C, D, X, Y, t', s') ∧ (Wi A ∧ Wi B ∧ Wi C ∧ Wi D) ∧ (Wi X ∧ Wi Y) ∧ t ≤ t' ∧ t' ≤ t + 10 * k + 10 := by
  intro k
  induction k with
  | zero =>
    intro m t s M b0 b1 b2 b3 hm _ ht c0 c1 c2 c3 hM
    obtain ⟨m, rfl⟩ : ∃ q, m = q + 1 := ⟨m - 1, by omega⟩
    obtain ⟨x, t1, s1, e1, x0, h1, h2⟩ := pick_dr (L := L) (s := s) (n := 14) hb (t := t) (by omega) (by omega)
    have wi : ∀ n : Int, -M ≤ n ∧ n ≤ M → Wi n := fun n h => by unfold Wi; simp at hM; omega
    have w3 : ∀ n : Int, 0 ≤ n ∧ n < 7 → wr IntKind.i64 (isub n 3) = n - 3 ∧ Wi (n - 3) := fun n h => by
      rw [isub_eq, wr_id (by omega)]; exact ⟨rfl, by unfold Wi; omega⟩
    rw [spec_l1Cur_move_l0]
    simp only [ilt_eq, show ¬ (0 : Int) < ((0 : Nat) : Int) by omega, decide_false, cond_false, e1, gbind_eq, Option.bind_some, ieq_eq, (w3 _ hr).1, (w3 _ hr1).1]
    by_cases d0 : x = 0
    · obtain ⟨y, t2, s2, e2, m2, h3, h4⟩ := among_dr (L := L) (s := s1) (w := [0, 2, 21, 4611686018427387904]) hb (t := t1) (by omega) (by simp)
      simp only [d0, decide_true, cond_true, e2, Option.bind_some]
      refine ⟨_, _, _, _, _, _, _, _, rfl, ⟨?_, wi _ c1, wi _ c2, wi _ c3⟩, ⟨(w3 _ hr).2, (w3 _ hr1).2⟩, by omega, by omega⟩
      simp only [List.mem_cons, List.not_mem_nil, or_false] at m2
      unfold Wi; omega
    · by_cases d1 : x = 1
      · obtain ⟨y, t2, s2, e2, m2, h3, h4⟩ := among_dr (L := L) (s := s1) (w := [80, -80, 81, -9223372036854775808]) hb (t := t1) (by omega) (by simp)
        simp only [d0, d1, decide_true, decide_false, cond_true, cond_false, e2, Option.bind_some]
        refine ⟨_, _, _, _, _, _, _, _, rfl, ⟨wi _ c0, wi _ c1, wi _ c2, wi _ c3⟩, ⟨?_, (w3 _ hr1).2⟩, by omega, by omega⟩
        simp only [List.mem_cons, List.not_mem_nil, or_false] at m2
        unfold Wi; omega
      · simp only [d0, d1, decide_false, cond_false]
        exact ⟨_, _, _, _, _, _, _, _, rfl, ⟨wi _ c0, wi _ c1, wi _ c2, wi _ c3⟩, ⟨(w3 _ hr).2, (w3 _ hr1).2⟩, by omega, by omega⟩
  | succ k ih =>
    intro m t s M b0 b1 b2 b3 hm hk ht c0 c1 c2 c3 hM
    obtain ⟨m, rfl⟩ : ∃ q, m = q + 1 := ⟨m - 1, by omega⟩
    obtain ⟨x, t1, s1, e1, x0, h1, h2⟩ := pick_dr (L := L) (s := s) (n := 3) hb (t := t) (by omega) (by omega)
    obtain ⟨y, t2, s2, e2, y0, h3, h4⟩ := pick_dr (L := L) (s := s1) (n := 3) hb (t := t1) (by omega) (by omega)
    have hM' : 2 ^ k * (2 * M) ≤ 1000 := by
      have : (2 : Int) ^ (k + 1) * M = 2 ^ k * (2 * M) := by rw [Int.pow_succ]; grind
      rwa [this] at hM
    have hMs : M ≤ 1000 := by
      rcases Int.lt_or_le 1000 M with h | h
      · have hp : (1 : Int) ≤ 2 ^ (k + 1) := by
          have : (0 : Int) < 2 ^ (k + 1) := Int.pow_pos (by omega)
          omega
        have := Int.mul_le_mul_of_nonneg_right hp (show 0 ≤ M by omega)
        omega
      · exact h
    have wk : wr IntKind.i64 (isub ((k + 1 : Nat) : Int) 1) = (k : Int) := by rw [isub_eq, wr_id (by omega)]; omega
    have wx : wr IntKind.i64 (isub x 1) = x - 1 := by rw [isub_eq, wr_id (by omega)]
    have wl : ∀ p q : Int, (-M ≤ p ∧ p ≤ M) → (-M ≤ q ∧ q ≤ M) → wr IntKind.i64 (iadd p (wr IntKind.i64 (imul (x - 1) q))) = p + (x - 1) * q ∧ (-(2 * M) ≤ p + (x - 1) * q ∧ p + (x - 1) * q ≤ 2 * M) := fun p q hp hq => by
      have hx : x - 1 = -1 ∨ x - 1 = 0 ∨ x - 1 = 1 := by omega
      rcases hx with h | h | h <;> rw [h, imul_eq, iadd_eq, wr_id (n := _ * q) (by omega), wr_id (by omega)] <;> exact ⟨rfl, by omega⟩
    have wn : ∀ p : Int, (-M ≤ p ∧ p ≤ M) → wr IntKind.i64 (isub 0 p) = -p := fun p hp => by rw [isub_eq, wr_id (by omega)]; omega
    have fin : ∀ (t2 s2 b0 b1 b2 b3 : Int), (t ≤ t2 ∧ t2 ≤ t + 4) → (-(2 * M) ≤ b0 ∧ b0 ≤ 2 * M) → (-(2 * M) ≤ b1 ∧ b1 ≤ 2 * M) → (-(2 * M) ≤ b2 ∧ b2 ≤ 2 * M) → (-(2 * M) ≤ b3 ∧ b3 ≤ 2 * M) →
        ∃ A B C D X Y t' s', spec_l1Cur_move_l0 L a r r1 m k t2 s2 b0 b1 b2 b3 = some (A, B, C, D, X, Y, t', s') ∧ (Wi A ∧ Wi B ∧ Wi C ∧ Wi D) ∧ (Wi X ∧ Wi Y) ∧ t ≤ t' ∧ t' ≤ t + 10 * ((k + 1 : Nat) : Int) + 10 := by
      intro t2 s2 b0 b1 b2 b3 ht2 d0 d1 d2 d3
      obtain ⟨A, B, C, D, X, Y, t', s', e, g1, g2, g3, g4⟩ := ih m t2 s2 (2 * M) b0 b1 b2 b3 (by omega) (by omega) (by omega) d0 d1 d2 d3 hM'
      exact ⟨A, B, C, D, X, Y, t', s', e, g1, g2, by omega, by omega⟩
    rw [spec_l1Cur_move_l0]
    simp only [ilt_eq, show (0 : Int) < ((k + 1 : Nat) : Int) by omega, decide_true, cond_true, e1, e2, gbind_eq, Option.bind_some, ieq_eq, wk, wx]
    by_cases d0 : y = 0
    · simp only [d0, decide_true, cond_true, (wl _ _ c0 c2).1, (wl _ _ c1 c3).1]
      exact fin _ _ _ _ _ _ (by omega) (wl _ _ c0 c2).2 (wl _ _ c1 c3).2 (by omega) (by omega)
    · by_cases d1 : y = 1
      · simp only [d0, d1, decide_true, decide_false, cond_true, cond_false, (wl _ _ c2 c0).1, (wl _ _ c3 c1).1]
        exact fin _ _ _ _ _ _ (by omega) (by omega) (by omega) (wl _ _ c2 c0).2 (wl _ _ c3 c1).2
      · simp only [d0, d1, decide_false, cond_false, wn _ c0, wn _ c1]
        exact fin _ _ _ _ _ _ (by omega) (by omega) (by omega) (by omega) (by omega)
theorem move_dr {L : Nat} {a : List Int} {t s : Int} (hb : By a) (ht : 0 ≤ t ∧ t ≤ 400000) (hL : 100 < L) : ∃ A B C D X Y t' s', spec_l1Cur_move L a t s = some (A, B, C, D, X, Y, t', s') ∧ (Wi A ∧ Wi B ∧ Wi C ∧ Wi D) ∧ (Wi X ∧ Wi Y) ∧ t ≤ t' ∧ t' ≤ t + 100 := by
  obtain ⟨x, t1, s1, e1, x0, h1, h2⟩ := pick_dr (L := L) (s := s) (n := 7) hb (t := t) (by omega) (by omega)
  obtain ⟨y, t2, s2, e2, y0, h3, h4⟩ := pick_dr (L := L) (s := s1) (n := 7) hb (t := t1) (by omega) (by omega)
  obtain ⟨k, t3, s3, e3, k0, h5, h6⟩ := pick_dr (L := L) (s := s2) (n := 4) hb (t := t2) (by omega) (by omega)
  unfold spec_l1Cur_move
  simp only [e1, e2, e3, gbind_eq, Option.bind_some]
  have hp : (2 : Int) ^ k.toNat * 1 ≤ 1000 := by
    have : k.toNat = 0 ∨ k.toNat = 1 ∨ k.toNat = 2 ∨ k.toNat = 3 := by omega
    rcases this with h | h | h | h <;> rw [h] <;> decide
  obtain ⟨A, B, C, D, X, Y, t', s', e, g1, g2, g3, g4⟩ := move_l0 (L := L) (r := (x, t1, s1)) (r1 := (y, t2, s2)) hb x0 y0 k.toNat L t3 s3 1 1 0 0 1 (by omega) (by omega) (by omega) (by omega) (by omega) (by omega) (by omega) hp
  rw [Int.toNat_of_nonneg k0.1] at e
  exact ⟨A, B, C, D, X, Y, t', s', e, g1, g2, by omega, by omega⟩
theorem zPegs_l0 {L : Nat} {a : List Pt} (hs : (a.length : Int) ≤ 100000) : ∀ (m i : Nat), i ≤ a.length → a.length - i < m → laws_zPegs_l0 L a a m i = some true := by
  intro m
  induction m with
  | zero => intro i _ h; omega
  | succ m ih =>
    intro i hi hm
    rw [laws_zPegs_l0]
    by_cases h : (i : Int) < (a.length : Int)
    · have wi : wr IntKind.i64 (iadd (i : Int) 1) = ((i + 1 : Nat) : Int) := by rw [iadd_eq, wr_s (by omega)]; omega
      simp only [ilen_mapep, ilt_eq, h, decide_true, cond_true, lget_pt (show (0 : Int) ≤ i by omega) h, gbind_eq, Option.bind_some, ieq_eq, Bool.and_self, Bool.not_true, cond_false, wi]
      exact ih (i + 1) (by omega) (by omega)
    · simp only [ilen_mapep, ilt_eq, h, decide_false, cond_false]
theorem zPegs_eq {L : Nat} {a : List Pt} (hs : (a.length : Int) ≤ 100000) (hL : (a.length : Int) < L) : laws_zPegs L a a = some true := by
  unfold laws_zPegs
  simp only [ieq_eq, decide_true, Bool.not_true, cond_false]
  exact zPegs_l0 hs L 0 (by omega) (by omega)
theorem mv7_some {A B C D X Y : Int} (h : (mv7 A B C D X Y).2.2.2.2.2.2 = true) : MvG A B C D X Y ∧ mv7 A B C D X Y = (A, B, C, D, X, Y, true) := by
  unfold mv7 at *
  by_cases hm : MvG A B C D X Y
  · rw [if_pos hm]; exact ⟨hm, rfl⟩
  · rw [if_neg hm] at h; cases h
end Go.AM
namespace Go.AM
theorem moveCorners_eq {L : Nat} {A B C D X Y : Int} {p : List Pt} (hX : Wi X) (hY : Wi Y) (hL : 6000 < L) : ∃ r, spec_MoveCorners L A B C D X Y p = some r ∧ impl_MoveCorners L A B C D X Y p = some r ∧ (r.1.length : Int) ≤ 10 ∧
    (r.2 = true → MvG A B C D X Y ∧ Good_ p ∧ r.1 = p.map (mvP A B C D X Y) ∧ ∀ i, In (mvP A B C D X Y (pt p i))) := by
  unfold spec_MoveCorners impl_MoveCorners
  simp only [spec_mvGood_eq (L := L) (show 10 < L by omega), impl_IsMove_eq hX hY (show 10 < L by omega), gbind_eq, Option.bind_some, spec_pgGood_eq (L := L) (a := p) (show 20 < L by omega)]
  by_cases h : MvG A B C D X Y
  · by_cases g : Good_ p
    · obtain ⟨r, e1, e2, e3, e4⟩ := map_both (L := L) h g (by omega)
      simp only [h, g, decide_true, Bool.not_true, cond_false, e1, e2, Option.bind_some]
      exact ⟨r, rfl, rfl, e3, fun hr => ⟨trivial, trivial, (e4 hr).1, (e4 hr).2⟩⟩
    · have : impl_changed_impl_Move_bring L p A B C D X Y = some ([], false) := by
        unfold impl_changed_impl_Move_bring
        rw [impl_IsPolygon_eq (by omega)]
        simp only [g, decide_false, gbind_eq, Option.bind_some, Bool.not_false, cond_true]
      simp only [h, g, decide_true, decide_false, Bool.not_true, Bool.not_false, cond_false, cond_true, this, Option.bind_some]
      exact ⟨([], false), rfl, rfl, by simp, fun hr => by cases hr⟩
  · simp only [h, decide_false, Bool.not_false, cond_true]
    exact ⟨([], false), rfl, rfl, by simp, fun hr => by cases hr⟩
theorem mvP_aff (A B C D X Y : Int) : mvP A B C D X Y = aff A B C D X Y := rfl
theorem fa_of {a : List Pt} (g : Good_ a) : Fa a := by
  obtain ⟨h1, h2, h3, h4⟩ := vwl g
  refine ⟨h4, by omega, fun i => (h1 i).nr, fun i => ?_⟩
  have := g.turn (i % a.length) (Int.emod_nonneg _ (by omega)) (Int.emod_lt_of_pos _ (by omega))
  have e : ∀ c : Int, pt a (i % (a.length : Int) + c) = pt a (i + c) := fun c => pt_congr (by rw [Int.emod_add_emod])
  rwa [pt_mod, e, e] at this
theorem big_eq {L : Nat} {a b : List Int} : ∃ r, laws_big L a b = some r := by
  unfold laws_big
  by_cases h : ilt 1048576 (ilen (List.map eU a)) = true
  · rw [h]; exact ⟨_, rfl⟩
  · simp only [Bool.not_eq_true] at h
    rw [h]; exact ⟨_, rfl⟩
end Go.AM
namespace Go.AM
theorem good_tour {a : List Pt} {k s : Int} (g : Good_ a) (hs : s = 1 ∨ s = -1) : Good_ (tour a k s a.length) := by
  have lo := g.lo
  have hi := g.hi
  have hn : a ≠ [] := by intro e; subst e; simp at lo
  have hl : 0 < (a.length : Int) := by omega
  have hin := in_all g.isIn hn
  have hp := pt_tour' (k := k) (s := s) hn
  have fa := fa_of g
  refine ⟨by rw [tour_len]; exact lo, by rw [tour_len]; exact hi, fun i _ _ => by rw [hp]; exact hin _, fun i j j0 ji i1 he => ?_, fun i i0 i1 => (fa.tour (k := k) hs).turn i, fun i j i0 ij j1 jw hm => ?_⟩
  · rw [tour_len] at i1
    rw [hp, hp] at he
    have := pt_inj hn g.ne he
    have h2 : (k + j * s - (k + i * s)) % (a.length : Int) = 0 := Int.emod_eq_emod_iff_emod_sub_eq_zero.1 this
    have hd := Int.dvd_of_emod_eq_zero h2
    rcases hs with rfl | rfl
    · have hd' : (a.length : Int) ∣ i - j := by
        have := Int.dvd_neg.2 hd
        rwa [show -(k + j * 1 - (k + i * 1)) = i - j by omega] at this
      have := Int.le_of_dvd (by omega) hd'
      omega
    · rw [show k + j * -1 - (k + i * -1) = i - j by omega] at hd
      have := Int.le_of_dvd (by omega) hd
      omega
  · rw [tour_len] at j1 jw
    rw [hp, hp, hp, hp] at hm
    rcases hs with rfl | rfl
    · have := g.apartAll (i := k + i) (k := k + j) (by omega) (by omega)
      rw [show k + i * 1 = k + i by omega, show k + (i + 1) * 1 = k + i + 1 by omega, show k + j * 1 = k + j by omega, show k + (j + 1) * 1 = k + j + 1 by omega] at hm
      exact this hm
    · have := g.apartAll (i := k - j - 1) (k := k - i - 1) (by omega) (by omega)
      rw [show k + i * -1 = k - i - 1 + 1 by omega, show k + (i + 1) * -1 = k - i - 1 by omega, show k + j * -1 = k - j - 1 + 1 by omega, show k + (j + 1) * -1 = k - j - 1 by omega] at hm
      exact this (meet_sym.1 (meet_rev hm))
theorem sm_front (f : Int → Int) : ∀ k : Nat, sm f (k + 1) = f 0 + sm (fun i => f (i + 1)) k
  | 0 => by simp [sm]
  | k + 1 => by
    have := sm_front f k
    simp only [sm] at this ⊢
    rw [this]
    simp only [Int.natCast_add]
    have e : ((k : Int) + ((1 : Nat) : Int)) = (k : Int) + 1 := rfl
    rw [e]
    omega
theorem sm_rev : ∀ (k : Nat) (f : Int → Int), sm (fun i => f ((k : Int) - 1 - i)) k = sm f k
  | 0, f => rfl
  | k + 1, f => by
    rw [sm_front f]
    simp only [sm]
    have := sm_rev k (fun i => f (i + 1))
    rw [← this]
    have e : sm (fun i => f (((k + 1 : Nat) : Int) - 1 - i)) k = sm (fun i => f ((k : Int) - 1 - i + 1)) k := sm_congr' (fun i => by congr 1; omega) k
    rw [e, show ((k + 1 : Nat) : Int) - 1 - (k : Int) = 0 by omega]
    omega
theorem sm_from {f : Int → Int} {n : Nat} (hper : ∀ i, f (i + n) = f i) : ∀ c : Int, sm (fun i => f (c + i)) n = sm f n := by
  have one : ∀ c : Int, sm (fun i => f (c + 1 + i)) n = sm (fun i => f (c + i)) n := fun c => by
    have := sm_round (f := fun i => f (c + i)) (k := n) (by simp only [Int.add_zero]; exact hper c)
    rw [← this]
    exact sm_congr' (fun i => by congr 1; omega) n
  have pos : ∀ c : Nat, sm (fun i => f ((c : Int) + i)) n = sm f n := by
    intro c
    induction c with
    | zero => exact sm_congr' (fun i => by congr 1; omega) n
    | succ c ih => rw [← ih, ← one (c : Int)]; rfl
  have neg : ∀ c : Nat, sm (fun i => f (-(c : Int) + i)) n = sm f n := by
    intro c
    induction c with
    | zero => exact sm_congr' (fun i => by congr 1; omega) n
    | succ c ih => rw [← ih, ← one (-((c + 1 : Nat) : Int))]; exact sm_congr' (fun i => by congr 1; omega) n
  intro c
  rcases Int.le_total 0 c with h | h
  · have := pos c.toNat
    rwa [Int.toNat_of_nonneg h] at this
  · have := neg (-c).toNat
    rwa [Int.toNat_of_nonneg (by omega), Int.neg_neg] at this
theorem area_tour {a : List Pt} {k s : Int} (hn : a ≠ []) (hs : s = 1 ∨ s = -1) : area (tour a k s a.length) = s * area a := by
  unfold area
  rw [tour_len]
  have hp := pt_tour' (k := k) (s := s) hn
  have e : sm (fun i => cross (pt (tour a k s a.length) i) (pt (tour a k s a.length) (i + 1))) a.length = sm (fun i => cross (pt a (k + i * s)) (pt a (k + (i + 1) * s))) a.length := sm_congr' (fun i => by rw [hp, hp]) _
  rw [e]
  have per : ∀ i, cross (pt a (i + a.length)) (pt a (i + a.length + 1)) = cross (pt a i) (pt a (i + 1)) := fun i => by
    rw [pt_per, show i + (a.length : Int) + 1 = i + 1 + a.length by omega, pt_per]
  rcases hs with rfl | rfl
  · rw [Int.one_mul, ← sm_from (f := fun i => cross (pt a i) (pt a (i + 1))) per k]
    exact sm_congr' (fun i => by rw [show k + i * 1 = k + i by omega, show k + (i + 1) * 1 = k + i + 1 by omega]) _
  · rw [← sm_from (f := fun i => cross (pt a i) (pt a (i + 1))) per (k - a.length), ← sm_rev a.length (fun i => cross (pt a (k - a.length + i)) (pt a (k - a.length + i + 1))), ← sm_smul]
    refine sm_congr' (fun i => ?_) _
    rw [show k - (a.length : Int) + ((a.length : Int) - 1 - i) = k + (i + 1) * -1 by omega, show k + (i + 1) * -1 + 1 = k + i * -1 by omega]
    unfold cross; grind
theorem brg_is_aff {A B C D : Int} {o : Pt} : brg A B C D o = aff A B C D (-(A * o.x + B * o.y)) (-(C * o.x + D * o.y)) := by
  funext p
  unfold brg aff
  simp only [Pt.mk.injEq]
  constructor <;> grind
theorem kind_img {L : Nat} {a f : List Pt} (ha : Fa a) (hL : 5000 < L) (h : IsKind L a f) : ∃ k s α β γ δ u v, (s = 1 ∨ s = -1) ∧ (α * δ - β * γ = 1 ∨ α * δ - β * γ = -1) ∧ f = (tour a k s a.length).map (aff α β γ δ u v) ∧
    pt f 0 = ⟨0, 0⟩ ∧ (∃ g b d, pt f 1 = ⟨g, 0⟩ ∧ pt f 2 = ⟨b, d⟩ ∧ 0 < g ∧ 0 ≤ b ∧ b < d) := by
  obtain ⟨⟨k, s, hs, e⟩, _⟩ := h
  obtain ⟨_, _, _, A, B, C, D, g, b, d, e2, fr⟩ := FR_eq (L := L) ha (k := k) hs hL
  rw [← e] at e2
  have hn := (ha.tour (k := k) hs).ne
  refine ⟨k, s, A, B, C, D, _, _, hs, fr.det, by rw [e2, brg_is_aff], ?_, g, b, d, ?_, ?_, fr.g0, fr.b0, fr.bd⟩
  · rw [e2, pt_maps hn]
    unfold brg
    simp
  · rw [e2, pt_maps hn, fr.e1]
  · rw [e2, pt_maps hn, fr.e2]
theorem fa_map {a : List Pt} {α β γ δ u v : Int} (hd : α * δ - β * γ = 1 ∨ α * δ - β * γ = -1) (ha : Fa a) (nr : ∀ i, Nr (aff α β γ δ u v (pt a i))) : Fa (a.map (aff α β γ δ u v)) := by
  refine ⟨by rw [List.length_map]; exact ha.lo, by rw [List.length_map]; exact ha.hi, fun i => by rw [pt_maps ha.ne]; exact nr i, fun i => ?_⟩
  rw [pt_maps ha.ne, pt_maps ha.ne, pt_maps ha.ne, turn_aff]
  have := ha.turn i
  rcases hd with h | h <;> rw [h] <;> omega
theorem fa_kind {L : Nat} {a f : List Pt} (ha : Fa a) (hL : 5000 < L) (h : IsKind L a f) (nr : ∀ i, Nr (pt f i)) : Fa f := by
  obtain ⟨k, s, α, β, γ, δ, u, v, hs, hd, e, _⟩ := kind_img ha hL h
  have ht := ha.tour (k := k) hs
  subst e
  exact fa_map hd ht fun i => by have := nr i; rwa [pt_maps ht.ne] at this
theorem kind_own {L : Nat} {a f : List Pt} (ha : Fa a) (hL : 5000 < L) (h : IsKind L a f) (nr : ∀ i, Nr (pt f i)) : IsKind L f f := by
  have hf := fa_kind ha hL h nr
  obtain ⟨k, s, α, β, γ, δ, u, v, hs, hd, e, _⟩ := kind_img ha hL h
  have ht := ha.tour (k := k) hs
  have h2 := kind_tour (k := k) ha.ne hs h
  have := kind_aff hd ht (by rw [← e]; exact hf) hL h2
  rwa [← e] at this
theorem good_kind {L : Nat} {a f : List Pt} (g : Good_ a) (hL : 5000 < L) (h : IsKind L a f) (hin : ∀ i, In (pt f i)) : Good_ f := by
  have ha := fa_of g
  obtain ⟨k, s, α, β, γ, δ, u, v, hs, hd, e, _⟩ := kind_img ha hL h
  have ht := good_tour (k := k) g hs
  subst e
  exact good_aff hd ht fun i => by have := hin i; rwa [pt_maps (ha.tour (k := k) hs).ne] at this
theorem area_kind {L : Nat} {a f : List Pt} (ha : Fa a) (hL : 5000 < L) (h : IsKind L a f) : (area f).natAbs = (area a).natAbs := by
  obtain ⟨k, s, α, β, γ, δ, u, v, hs, hd, e, _⟩ := kind_img ha hL h
  subst e
  rw [area_aff (ha.tour (k := k) hs).ne, area_tour ha.ne hs]
  rcases hd with hd | hd <;> rcases hs with rfl | rfl <;> rw [hd] <;> omega
end Go.AM
namespace Go.AM
theorem equal_any_l0 {L : Nat} {a b : List Pt} (hab : a.length = b.length) (hs : (a.length : Int) ≤ 100000) : ∀ (m i : Nat), i ≤ a.length → a.length - i < m →
    ∃ t, slices_Equal_impl_Peg_impl_Peg_l0 L a b m i = some t ∧ (t = true ↔ ∀ j : Int, (i : Int) ≤ j → j < (a.length : Int) → pt a j = pt b j) := by
  intro m
  induction m with
  | zero => intro i _ h; omega
  | succ m ih =>
    intro i hi hm
    rw [slices_Equal_impl_Peg_impl_Peg_l0]
    by_cases h : (i : Int) < (a.length : Int)
    · have wi : wr IntKind.i64 (iadd (i : Int) 1) = ((i + 1 : Nat) : Int) := by rw [iadd_eq, wr_s (by omega)]; omega
      obtain ⟨t, t1, t2⟩ := ih (i + 1) (by omega) (by omega)
      simp only [ilen_mapep, ilt_eq, h, decide_true, cond_true, lget_pt (show (0 : Int) ≤ i by omega) h, lget_pt (a := b) (show (0 : Int) ≤ i by omega) (by omega), gbind_eq, Option.bind_some, ieq_eq, wi]
      by_cases e : pt a i = pt b i
      · rw [pt_eq_iff.2 e]
        simp only [Bool.not_true, cond_false]
        refine ⟨t, t1, t2.trans ⟨fun hh j j0 j1 => ?_, fun hh j j0 j1 => hh j (by omega) j1⟩⟩
        by_cases hj : j = i
        · subst hj; exact e
        · exact hh j (by omega) j1
      · have : (decide ((pt a i).x = (pt b i).x) && decide ((pt a i).y = (pt b i).y)) = false := by
          cases hc : (decide ((pt a i).x = (pt b i).x) && decide ((pt a i).y = (pt b i).y)) with
          | false => rfl
          | true => exact absurd (pt_eq_iff.1 hc) e
        rw [this]
        simp only [Bool.not_false, cond_true]
        exact ⟨false, rfl, by simp; exact ⟨i, Int.le_refl _, h, e⟩⟩
    · simp only [ilen_mapep, ilt_eq, h, decide_false, cond_false]
      exact ⟨true, rfl, by simp; intro j j0 j1; omega⟩
theorem equal_any {L : Nat} {a b : List Pt} (hs : (a.length : Int) ≤ 100000) (hL : (a.length : Int) < L) : slices_Equal_impl_Peg_impl_Peg L a b = some (decide (a = b)) := by
  unfold slices_Equal_impl_Peg_impl_Peg
  simp only [ieq_eq, ilen_mapep]
  by_cases h : (a.length : Int) = (b.length : Int)
  · obtain ⟨t, t1, t2⟩ := equal_any_l0 (L := L) (a := a) (b := b) (by omega) hs L 0 (by omega) (by omega)
    simp only [h, decide_true, Bool.not_true, cond_false]
    have t1' : slices_Equal_impl_Peg_impl_Peg_l0 L a b L 0 = some t := t1
    rw [t1']
    congr 1
    by_cases e : a = b
    · subst e
      rw [t2.2 fun _ _ _ => rfl]; simp
    · cases t with
      | false => simp [e]
      | true => exact absurd (list_ext_pt (by omega) (t2.1 rfl)) e
  · have e : a ≠ b := by intro e; subst e; exact h rfl
    simp only [h, decide_false, Bool.not_false, cond_true, e]
theorem mvAlike_eq {L : Nat} {p q f f' : List Pt} (hp : Fa p) (hq : Fa q) (hL : 6000 < L) (h : IsKind L p f) (h' : IsKind L q f') : spec_mvAlike L p q = some (decide (f = f')) := by
  have l1 := h.len hp (by omega)
  have l2 := h'.len hq (by omega)
  have b1 := hp.hi
  obtain ⟨c, c1, c2⟩ := mvKind_eq (L := L) hp (by omega)
  obtain ⟨c', c1', c2'⟩ := mvKind_eq (L := L) hq (by omega)
  obtain rfl : c = f := c2.eq hp (by omega) h
  obtain rfl : c' = f' := c2'.eq hq (by omega) h'
  unfold spec_mvAlike
  simp only [ieq_eq, ilen_mapep]
  by_cases e : (p.length : Int) = (q.length : Int)
  · obtain ⟨t, t1, t2⟩ := spec_mvBefore_eq (L := L) (n := (p.length : Int)) (a := c) (b := c') (by omega) (by omega) (by omega) (by omega)
    obtain ⟨t', t1', t2'⟩ := spec_mvBefore_eq (L := L) (n := (p.length : Int)) (a := c') (b := c) (by omega) (by omega) (by omega) (by omega)
    simp only [e, decide_true, Bool.not_true, cond_false, c1, c1', gbind_eq, Option.bind_some, t1, t1']
    by_cases k : c = c'
    · subst k
      have : t = false := by cases t with
        | false => rfl
        | true => exact absurd (t2.1 rfl) Lx.irrefl
      have : t' = false := by cases t' with
        | false => rfl
        | true => exact absurd (t2'.1 rfl) Lx.irrefl
      subst_vars
      simp
    · cases t with
      | true => simp [k]
      | false =>
        cases t' with
        | true => simp [k]
        | false => exact absurd (Lx.eq (n := (p.length : Int)) (by omega) (by omega) (fun x => by have := t2.2 x; cases this) (fun x => by have := t2'.2 x; cases this)) k
  · have k : c ≠ c' := by intro k; subst k; omega
    simp only [e, decide_false, Bool.not_false, cond_true, k]
theorem alike_val {L : Nat} {p q f f' : List Pt} (gp : Good_ p) (gq : Good_ q) (hL : 6000 < L) (h : IsKind L p f) (h' : IsKind L q f') : spec_AreAlike L p q = some (decide (f = f'), true) ∧ impl_AreAlike L p q = some (decide (f = f'), true) := by
  have hp := fa_of gp
  have hq := fa_of gq
  have l1 := h.len hp (by omega)
  have b1 := hp.hi
  obtain ⟨c, _, c1, c2⟩ := kind_eq (L := L) hp (by omega)
  obtain ⟨c', _, c1', c2'⟩ := kind_eq (L := L) hq (by omega)
  obtain rfl : c = f := c2.eq hp (by omega) h
  obtain rfl : c' = f' := c2'.eq hq (by omega) h'
  unfold spec_AreAlike impl_AreAlike
  rw [impl_IsPolygon_eq (by omega), impl_IsPolygon_eq (by omega), spec_pgGood_eq (by omega), spec_pgGood_eq (by omega)]
  simp only [gp, gq, decide_true, Bool.not_true, cond_false, gbind_eq, Option.bind_some, c1, c1', mvAlike_eq hp hq hL h h', equal_any (L := L) (a := c) (b := c') (by omega) (by omega), and_self]
theorem alike_no {L : Nat} {p q : List Pt} (h : ¬ (Good_ p ∧ Good_ q)) (hL : 6000 < L) : spec_AreAlike L p q = some (false, false) ∧ impl_AreAlike L p q = some (false, false) := by
  unfold spec_AreAlike impl_AreAlike
  rw [impl_IsPolygon_eq (by omega), impl_IsPolygon_eq (by omega), spec_pgGood_eq (by omega), spec_pgGood_eq (by omega)]
  by_cases gp : Good_ p
  · have gq : ¬ Good_ q := fun gq => h ⟨gp, gq⟩
    simp only [gp, gq, decide_true, decide_false, Bool.not_true, Bool.not_false, cond_true, cond_false, gbind_eq, Option.bind_some, and_self]
  · simp only [gp, decide_false, Bool.not_false, cond_true, gbind_eq, Option.bind_some, and_self]
end Go.AM
namespace Go.AM
def tri3 (a b d : Int) : List Pt := [⟨0, 0⟩, ⟨a, 0⟩, ⟨b, d⟩]
theorem tri3_pt (a b d : Int) : pt (tri3 a b d) 0 = ⟨0, 0⟩ ∧ pt (tri3 a b d) 1 = ⟨a, 0⟩ ∧ pt (tri3 a b d) 2 = ⟨b, d⟩ := ⟨rfl, rfl, rfl⟩
theorem tri3_area (a b d : Int) : area (tri3 a b d) = a * d := by
  have hl : (tri3 a b d).length = 3 := rfl
  have e0 : pt (tri3 a b d) 0 = ⟨0, 0⟩ := rfl
  have e1 : pt (tri3 a b d) 1 = ⟨a, 0⟩ := rfl
  have e2 : pt (tri3 a b d) 2 = ⟨b, d⟩ := rfl
  have e3 : pt (tri3 a b d) 3 = ⟨0, 0⟩ := by
    have := pt_per (tri3 a b d) 0
    exact this
  have key : ∀ g : Int → Int, sm g 3 = g 0 + g 1 + g 2 := fun g => by
    show 0 + g 0 + g 1 + g 2 = g 0 + g 1 + g 2
    omega
  unfold area
  rw [hl, key]
  simp only [show (0 : Int) + 1 = 1 by rfl, show (1 : Int) + 1 = 2 by rfl, show (2 : Int) + 1 = 3 by rfl, e0, e1, e2, e3]
  unfold cross
  simp only
  grind
theorem fa_tri {a b d : Int} (ha : 0 < a ∧ a ≤ 1000) (hb : 0 ≤ b ∧ b < d) (hd : d ≤ 1000) : Fa (tri3 a b d) := by
  have e0 : pt (tri3 a b d) 0 = ⟨0, 0⟩ := rfl
  have e1 : pt (tri3 a b d) 1 = ⟨a, 0⟩ := rfl
  have e2 : pt (tri3 a b d) 2 = ⟨b, d⟩ := rfl
  have hl : ((tri3 a b d).length : Int) = 3 := rfl
  have m : ∀ i : Int, (i % 3 = 0 ∧ (i + 1) % 3 = 1 ∧ (i + 2) % 3 = 2) ∨ (i % 3 = 1 ∧ (i + 1) % 3 = 2 ∧ (i + 2) % 3 = 0) ∨ (i % 3 = 2 ∧ (i + 1) % 3 = 0 ∧ (i + 2) % 3 = 1) := fun i => by omega
  have q : ∀ i : Int, pt (tri3 a b d) i = pt (tri3 a b d) (i % 3) := fun i => by have := pt_mod (tri3 a b d) i; rw [hl] at this; exact this.symm
  have pos := Int.mul_pos ha.1 (show 0 < d by omega)
  refine ⟨by rw [hl]; omega, by rw [hl]; omega, fun i => ?_, fun i => ?_⟩
  · rw [q]
    rcases m i with ⟨h, _, _⟩ | ⟨h, _, _⟩ | ⟨h, _, _⟩ <;> rw [h]
    · rw [e0]; unfold Nr; simp only; omega
    · rw [e1]; unfold Nr; simp only; omega
    · rw [e2]; unfold Nr; simp only; omega
  · rw [q i, q (i + 1), q (i + 2)]
    rcases m i with ⟨h, h', h''⟩ | ⟨h, h', h''⟩ | ⟨h, h', h''⟩ <;> rw [h, h', h'', e0, e1, e2] <;> unfold turn <;> simp only
    · have : (a - 0) * (d - 0) - (0 - 0) * (b - 0) = a * d := by grind
      omega
    · have : (b - a) * (0 - 0) - (d - 0) * (0 - a) = a * d := by grind
      omega
    · have : (0 - b) * (0 - d) - (0 - d) * (a - b) = a * d := by grind
      omega
theorem tri_frame {L : Nat} {a b d : Int} (ha : 0 < a ∧ a ≤ 1000) (hb : 0 ≤ b ∧ b < d) (hd : d ≤ 1000) (hL : 5000 < L) : FR L (tri3 a b d) 0 1 = tri3 a b d := by
  have fa := fa_tri ha hb hd
  obtain ⟨_, _, _, A, B, C, D, g, b', d', e, fr⟩ := FR_eq (L := L) fa (k := 0) (s := 1) (.inl rfl) hL
  rw [tour_id fa.ne] at e fr
  obtain ⟨e0, e1, e2⟩ := tri3_pt a b d
  obtain ⟨rfl, rfl, rfl, rfl⟩ := brg_one (P := 1) (Q := 0) (R := 0) (S := 1) (g' := a) (b' := b) (d' := d) fr.det (.inl rfl) fr.e1 fr.e2 (by rw [e0, e1]; unfold brg; simp) (by rw [e0, e2]; unfold brg; simp) fr.g0 fr.b0 fr.bd ha.1 hb.1 hb.2
  rw [e, e0]
  unfold tri3 brg
  simp
theorem list_tri {f : List Pt} {g b d : Int} (h : f.length = 3) (h0 : pt f 0 = ⟨0, 0⟩) (h1 : pt f 1 = ⟨g, 0⟩) (h2 : pt f 2 = ⟨b, d⟩) : f = tri3 g b d := by
  refine list_ext_pt h fun i i0 i1 => ?_
  obtain ⟨e0, e1, e2⟩ := tri3_pt g b d
  have : i = 0 ∨ i = 1 ∨ i = 2 := by omega
  rcases this with rfl | rfl | rfl
  · rw [h0, e0]
  · rw [h1, e1]
  · rw [h2, e2]
theorem kind_three {L : Nat} {t f : List Pt} (h3 : t.length = 3) (ha : Fa t) (hL : 5000 < L) (h : IsKind L t f) : ∃ x y z, f = tri3 x y z ∧ 0 < x ∧ 0 ≤ y ∧ y < z ∧ x * z = ((area t).natAbs : Int) := by
  obtain ⟨k, s, α, β, γ, δ, u, v, hs, hd, e, h0, g, b, d, h1, h2, g0, b0, bd⟩ := kind_img ha hL h
  have hl := h.len ha hL
  have hf := list_tri (by omega) h0 h1 h2
  have har := area_kind ha hL h
  refine ⟨g, b, d, hf, g0, b0, bd, ?_⟩
  rw [← har, hf, tri3_area]
  have := Int.mul_pos g0 (show 0 < d by omega)
  omega
theorem tri3_inj {a b d x y z : Int} (h : tri3 a b d = tri3 x y z) : a = x ∧ b = y ∧ d = z := by
  unfold tri3 at h
  simp only [List.cons.injEq, Pt.mk.injEq] at h
  omega
theorem lx_tri {a b d x y z : Int} (h : a < x ∨ a = x ∧ b < y) : Lx 3 (tri3 a b d) (tri3 x y z) := by
  rcases h with h | ⟨h, h'⟩
  · refine ⟨1, by omega, by omega, fun j j0 j1 => ?_, ?_⟩
    · have : j = 0 := by omega
      subst this; rfl
    · rw [(tri3_pt a b d).2.1, (tri3_pt x y z).2.1]; unfold Less; simp only; omega
  · subst h
    refine ⟨2, by omega, by omega, fun j j0 j1 => ?_, ?_⟩
    · have : j = 0 ∨ j = 1 := by omega
      rcases this with rfl | rfl <;> rfl
    · rw [(tri3_pt a b d).2.2, (tri3_pt a y z).2.2]; unfold Less; simp only; omega
def IsK (L : Nat) (a b d : Int) : Prop := IsKind L (tri3 a b d) (tri3 a b d)
theorem isK_one {L : Nat} {n : Int} (hn : 1 ≤ n ∧ n ≤ 1000) (hL : 5000 < L) : IsK L 1 0 n := by
  have fa := fa_tri (a := 1) (b := 0) (d := n) (by omega) (by omega) (by omega)
  obtain ⟨f, _, h⟩ := mvKind_eq (L := L) fa hL
  obtain ⟨x, y, z, rfl, x0, y0, yz, e⟩ := kind_three rfl fa hL h
  rw [tri3_area] at e
  have hno := h.2 0 1 (.inl rfl)
  rw [tri_frame (by omega) (by omega) (by omega) hL] at hno
  have hx : x = 1 := by
    have : ¬ (1 < x ∨ 1 = x ∧ 0 < y) := fun k => hno (lx_tri k)
    omega
  have hy : y = 0 := by
    have : ¬ (1 < x ∨ 1 = x ∧ 0 < y) := fun k => hno (lx_tri k)
    omega
  subst hx; subst hy
  have hz : z = n := by omega
  subst hz
  exact h
theorem isK_kind {L : Nat} {t : List Pt} {x y z : Int} (ha : Fa t) (hL : 5000 < L) (h : IsKind L t (tri3 x y z)) (hx : 0 < x ∧ x ≤ 1000) (hy : 0 ≤ y ∧ y < z) (hz : z ≤ 1000) : IsK L x y z :=
  kind_own ha hL h (fa_tri hx hy hz).nr
theorem kindOf_fa {L : Nat} {a : List Pt} {x y z : Int} (ha : Fa a) (hL : 5000 < L) (h : IsKind L a (tri3 x y z)) : spec_mvList L a = some [x, y, z] ∧ impl_kindOf L a = some [x, y, z] := by
  obtain ⟨f, h1, h2, h4⟩ := kind_eq (L := L) ha hL
  obtain rfl : f = tri3 x y z := h4.eq ha hL h
  obtain ⟨e0, e1, e2⟩ := tri3_pt x y z
  obtain ⟨l1, l2, l4⟩ := list3 (f := tri3 x y z) rfl
  refine ⟨?_, ?_⟩
  · unfold spec_mvList
    simp only [h1, l1, l2, gbind_eq, Option.bind_some, e1, e2]
  · unfold impl_kindOf
    simp only [h2, l1, l2, l4, gbind_eq, Option.bind_some, ile_eq, ilt_eq, show ((0 : Int) ≤ 1) = True by simp, show ((0 : Int) ≤ 2) = True by simp, show ((1 : Int) < 3) = True by simp, show ((2 : Int) < 3) = True by simp, decide_true, Bool.and_self, cond_true, e1, e2]
end Go.AM
namespace Go.AM
def Img (p q : List Pt) (α β γ δ u v : Int) : Prop := (α * δ - β * γ = 1 ∨ α * δ - β * γ = -1) ∧ ∀ i, pt q i = aff α β γ δ u v (pt p i)
theorem Img.map {p q : List Pt} {α β γ δ u v : Int} (hn : p ≠ []) (hl : q.length = p.length) (h : Img p q α β γ δ u v) : q = p.map (aff α β γ δ u v) := by
  refine list_ext_pt (by rw [List.length_map, hl]) fun i _ _ => ?_
  rw [pt_maps hn]; exact h.2 i
theorem img_of_frames {L : Nat} {p q : List Pt} (hl : q.length = p.length) (hp : Fa p) (hq : Fa q) (hL : 5000 < L) (h : FR L p 0 1 = FR L q 0 1) : ∃ α β γ δ u v, Img p q α β γ δ u v := by
  obtain ⟨_, _, _, A, B, C, D, g, b, d, e, fr⟩ := FR_eq (L := L) hp (k := 0) (s := 1) (.inl rfl) hL
  obtain ⟨_, _, _, P, Q, R, S, g', b', d', e', fr'⟩ := FR_eq (L := L) hq (k := 0) (s := 1) (.inl rfl) hL
  rw [tour_id hp.ne] at e
  rw [tour_id hq.ne] at e'
  have det := fr.det
  have det' := fr'.det
  have key : ∀ i, brg A B C D (pt p 0) (pt p i) = brg P Q R S (pt q 0) (pt q i) := fun i => by
    rw [← pt_maps hp.ne (brg A B C D (pt p 0)), ← pt_maps hq.ne (brg P Q R S (pt q 0)), ← e, ← e', h]
  generalize hE : P * S - Q * R = ε at *
  have ee : ε * ε = 1 := by rcases det' with rfl | rfl <;> rfl
  generalize pt p 0 = o at *
  generalize pt q 0 = o' at *
  refine ⟨ε * (S * A - Q * C), ε * (S * B - Q * D), ε * (P * C - R * A), ε * (P * D - R * B), o'.x - (ε * (S * A - Q * C) * o.x + ε * (S * B - Q * D) * o.y), o'.y - (ε * (P * C - R * A) * o.x + ε * (P * D - R * B) * o.y), ?_, fun i => ?_⟩
  · have : ε * (S * A - Q * C) * (ε * (P * D - R * B)) - ε * (S * B - Q * D) * (ε * (P * C - R * A)) = (ε * ε) * ((P * S - Q * R) * (A * D - B * C)) := by grind
    rw [this, ee, hE]
    rcases det with h | h <;> rcases det' with h' | h' <;> rw [h, h'] <;> simp
  · have k := key i
    unfold brg at k
    simp only [Pt.mk.injEq] at k
    obtain ⟨k1, k2⟩ := k
    have z1 : ε * (S * (P * ((pt q i).x - o'.x) + Q * ((pt q i).y - o'.y)) - Q * (R * ((pt q i).x - o'.x) + S * ((pt q i).y - o'.y))) = (pt q i).x - o'.x := by
      have : ε * (S * (P * ((pt q i).x - o'.x) + Q * ((pt q i).y - o'.y)) - Q * (R * ((pt q i).x - o'.x) + S * ((pt q i).y - o'.y))) = ε * (P * S - Q * R) * ((pt q i).x - o'.x) := by grind
      rw [this, hE, ee]; omega
    have z2 : ε * (P * (R * ((pt q i).x - o'.x) + S * ((pt q i).y - o'.y)) - R * (P * ((pt q i).x - o'.x) + Q * ((pt q i).y - o'.y))) = (pt q i).y - o'.y := by
      have : ε * (P * (R * ((pt q i).x - o'.x) + S * ((pt q i).y - o'.y)) - R * (P * ((pt q i).x - o'.x) + Q * ((pt q i).y - o'.y))) = ε * (P * S - Q * R) * ((pt q i).y - o'.y) := by grind
      rw [this, hE, ee]; omega
    rw [← k1, ← k2] at z1 z2
    have ext : ∀ a b : Pt, a.x = b.x → a.y = b.y → a = b := fun a b h1 h2 => by cases a; cases b; simp only at h1 h2; subst h1; subst h2; rfl
    refine ext _ _ ?_ ?_
    · unfold aff; simp only
      have : (pt q i).x = o'.x + ((pt q i).x - o'.x) := by omega
      rw [this, ← z1]; grind
    · unfold aff; simp only
      have : (pt q i).y = o'.y + ((pt q i).y - o'.y) := by omega
      rw [this, ← z2]; grind
theorem frames_of_img {L : Nat} {p q : List Pt} {α β γ δ u v : Int} (hl : q.length = p.length) (hp : Fa p) (hq : Fa q) (hL : 5000 < L) (h : Img p q α β γ δ u v) : FR L p 0 1 = FR L q 0 1 := by
  have e := h.map hp.ne hl
  subst e
  exact (FR_aff h.1 hp hq (.inl rfl) hL).symm
theorem img_nums {p q : List Pt} {α β γ δ u v : Int} (h : Img p q α β γ δ u v) (a b c d : Pt) (ha : a = ⟨(pt p 1).x - (pt p 0).x, (pt p 1).y - (pt p 0).y⟩) (hb : b = ⟨(pt p 2).x - (pt p 0).x, (pt p 2).y - (pt p 0).y⟩)
    (hc : c = ⟨(pt q 1).x - (pt q 0).x, (pt q 1).y - (pt q 0).y⟩) (hd : d = ⟨(pt q 2).x - (pt q 0).x, (pt q 2).y - (pt q 0).y⟩) :
    c.x * b.y - d.x * a.y = α * (a.x * b.y - a.y * b.x) ∧ d.x * a.x - c.x * b.x = β * (a.x * b.y - a.y * b.x) ∧ c.y * b.y - d.y * a.y = γ * (a.x * b.y - a.y * b.x) ∧ d.y * a.x - c.y * b.x = δ * (a.x * b.y - a.y * b.x) := by
  have h0 := h.2 0
  have h1 := h.2 1
  have h2 := h.2 2
  subst ha; subst hb; subst hc; subst hd
  rw [h0, h1, h2]
  unfold aff
  simp only
  generalize pt p 0 = o; generalize pt p 1 = s; generalize pt p 2 = t
  refine ⟨?_, ?_, ?_, ?_⟩ <;> grind
theorem kind_of_img {L : Nat} {p q f f' : List Pt} {k s α β γ δ u v : Int} (hl : q.length = p.length) (hp : Fa p) (hq : Fa q) (hs : s = 1 ∨ s = -1) (hL : 5000 < L) (h : Img p (tour q k s q.length) α β γ δ u v) (hf : IsKind L p f) (hf' : IsKind L q f') : f = f' := by
  have hlt : (tour q k s q.length).length = p.length := by rw [tour_len, hl]
  have ht := hq.tour (k := k) hs
  have e := h.map hp.ne hlt
  have k1 := kind_aff h.1 hp (by rw [← e]; exact ht) hL hf
  rw [← e] at k1
  exact k1.eq ht hL (kind_tour hq.ne hs hf')
end Go.AM
namespace Go.AM
theorem sg_flip {s x : Int} (hs : s = 1 ∨ s = -1) : sg (s * x) = s * sg x := by
  rcases hs with rfl | rfl
  · rw [Int.one_mul, Int.one_mul]
  · rw [show -1 * x = -x by omega]
    unfold sg
    by_cases h : 0 < x
    · rw [if_pos h, if_neg (by omega), if_pos (by omega)]; rfl
    · by_cases h2 : x < 0
      · rw [if_pos (by omega), if_neg h, if_pos h2]; rfl
      · rw [if_neg (by omega), if_neg (by omega), if_neg h, if_neg h2]; rfl
theorem tellFirst_any {L : Nat} {a : List Pt} (g : Good_ a) (hL : 3000 < L) : ∃ k, IsMin a k a.length ∧ impl_tellFirst L a = some (tour a k (sg (area a)) a.length) := by
  obtain ⟨hin, hn, hi, lo⟩ := vwl g
  obtain ⟨k, k1, k2, _⟩ := impl_first_eq (L := L) hn (by omega) (by omega)
  refine ⟨k, k2, ?_⟩
  have hs := sg_bd (area a)
  unfold impl_tellFirst
  simp only [k1, gbind_eq, Option.bind_some, impl_twice_eq hn (show (a.length : Int) ≤ 1000 by omega) (show (a.length : Int) < L by omega) (fun i => (hin i).nr), impl_sign_eq]
  rw [impl_told_eq hn (by omega) ⟨k2.1, by have := k2.2.1; omega⟩ (by omega) (by omega)]
  rfl
theorem tellFirst_tour {L : Nat} {q : List Pt} {k s : Int} (g : Good_ q) (hs : s = 1 ∨ s = -1) (hL : 3000 < L) : impl_tellFirst L (tour q k s q.length) = impl_tellFirst L q := by
  obtain ⟨hin, hn, hi, lo⟩ := vwl g
  have g2 := good_tour (k := k) g hs
  obtain ⟨_, hn2, _, _⟩ := vwl g2
  obtain ⟨k1, m1, e1⟩ := tellFirst_any (L := L) g2 hL
  obtain ⟨k2, m2, e2⟩ := tellFirst_any (L := L) g hL
  rw [e1, e2, tour_len, tour_tours hn, area_tour hn hs, sg_flip hs]
  have ss : s * (s * sg (area q)) = sg (area q) := by rcases hs with rfl | rfl <;> omega
  rw [ss]
  congr 1
  refine tour_mod ?_ _
  refine pt_inj hn g.ne (not_less_eq (isMin_all hn m2 _) ?_)
  have := isMin_all hn2 m1 ((k2 - k) * s)
  rw [pt_tour' hn, pt_tour' hn] at this
  have e : k + (k2 - k) * s * s = k2 := by rcases hs with rfl | rfl <;> omega
  rwa [e] at this
end Go.AM
namespace Go.AM
def B40 (n : Int) : Prop := -40 ≤ n ∧ n ≤ 40
theorem w2 {a b c d e f g h : Int} (ha : B40 a) (hb : B40 b) (hc : B40 c) (hd : B40 d) (he : B40 e) (hf : B40 f) (hg : B40 g) (hh : B40 h) :
    wr IntKind.i64 (isub (wr IntKind.i64 (imul (wr IntKind.i64 (isub a b)) (wr IntKind.i64 (isub c d)))) (wr IntKind.i64 (imul (wr IntKind.i64 (isub e f)) (wr IntKind.i64 (isub g h))))) = (a - b) * (c - d) - (e - f) * (g - h) ∧
    (-20000 ≤ (a - b) * (c - d) - (e - f) * (g - h) ∧ (a - b) * (c - d) - (e - f) * (g - h) ≤ 20000) := by
  unfold B40 at *
  have m1 := mul_bd (x := a - b) (y := c - d) (A := 80) (B := 80) (by omega) (by omega)
  have m2 := mul_bd (x := e - f) (y := g - h) (A := 80) (B := 80) (by omega) (by omega)
  simp only [isub_eq, imul_eq]
  rw [wr_id (n := a - b) (by omega), wr_id (n := c - d) (by omega), wr_id (n := e - f) (by omega), wr_id (n := g - h) (by omega), wr_id (n := (a - b) * (c - d)) (by omega), wr_id (n := (e - f) * (g - h)) (by omega), wr_id (by omega)]
  exact ⟨rfl, by omega⟩
theorem mvTo_step {L : Nat} {a b : List Pt} {A0 A1 A2 B0 B1 B2 : Pt} {D c : Int} {m i : Nat} {w : List Int} (hA0 : In A0) (hA1 : In A1) (hA2 : In A2)
    (hD : (A1.x - A0.x) * (A2.y - A0.y) - (A1.y - A0.y) * (A2.x - A0.x) = D) (hz : D ≠ 0) (hi : i < 4) (hw : w.length = 4) (hc : lget w (i : Int) = some c) (hb : -20000 ≤ c ∧ c ≤ 20000) :
    spec_mvTo_l0 L a b A2 A0 A2 A0 A1 A0 A1 A0 B2 B0 B2 B0 B1 B0 B1 B0 (m + 1) (i : Int) w =
      if c.tmod D = 0 then spec_mvTo_l0 L a b A2 A0 A2 A0 A1 A0 A1 A0 B2 B0 B2 B0 B1 B0 B1 B0 m ((i + 1 : Nat) : Int) (w.set i (c.tdiv D)) else some no7 := by
  rw [spec_mvTo_l0]
  have q := (w2 hA1.1 hA0.1 hA2.2 hA0.2 hA1.2 hA0.2 hA2.1 hA0.1).1
  have l4 : ∀ x1 x2 x3 x4 : AV, ilen [x1, x2, x3, x4] = 4 := fun _ _ _ _ => by rw [ilen_eq]; rfl
  have lw : ilen (List.map eI w) = 4 := by rw [ilen_eq]; simp [hw]
  have wi : wr IntKind.i64 (iadd (i : Int) 1) = ((i + 1 : Nat) : Int) := by rw [iadd_eq, wr_s (by omega)]; omega
  have td := tdiv_small (a := c) (b := D) (N := 20000) hb
  simp only [l4, lw, ilt_eq, ile_eq, show (i : Int) < 4 by omega, show (0 : Int) ≤ (i : Int) by omega, decide_true, Bool.and_self, cond_true, hc, gbind_eq, Option.bind_some, q, hD, ieq_eq, hz, decide_false, cond_false, wi, irem_eq, iquo_eq, lset_eq, Int.toNat_natCast]
  rw [wr_id (n := c.tdiv D) (by omega)]
  by_cases h : c.tmod D = 0
  · simp only [h, decide_true, Bool.not_true, cond_false, if_true]
  · simp only [h, decide_false, Bool.not_false, cond_true, if_false]
    rfl
theorem mvTo_l1 {L : Nat} {a b : List Pt} {α β γ δ u v : Int} {A0 B0 : Pt} (hl : b.length = a.length) (hs : (a.length : Int) ≤ 100) (hA0 : In A0) (hB0 : In B0) (hin : ∀ i, In (pt a i))
    (hu : B0.x - α * A0.x - β * A0.y = u) (hv : B0.y - γ * A0.x - δ * A0.y = v) (bα : -20000 ≤ α ∧ α ≤ 20000) (bβ : -20000 ≤ β ∧ β ≤ 20000) (bγ : -20000 ≤ γ ∧ γ ≤ 20000) (bδ : -20000 ≤ δ ∧ δ ≤ 20000) : ∀ (m i : Nat), i ≤ a.length → a.length - i < m →
    ((∀ j : Int, (i : Int) ≤ j → j < a.length → pt b j = aff α β γ δ u v (pt a j)) → spec_mvTo_l1 L a b α β γ δ B0 A0 A0 B0 A0 A0 m (i : Int) = some (α, β, γ, δ, u, v, true)) ∧
    ((∃ j : Int, (i : Int) ≤ j ∧ j < a.length ∧ pt b j ≠ aff α β γ δ u v (pt a j)) → spec_mvTo_l1 L a b α β γ δ B0 A0 A0 B0 A0 A0 m (i : Int) = some no7) := by
  have hA := hA0
  have hB := hB0
  unfold In at hA hB
  have m1 := mul_bd (x := α) (y := A0.x) bα hA.1
  have m2 := mul_bd (x := β) (y := A0.y) bβ hA.2
  have m3 := mul_bd (x := γ) (y := A0.x) bγ hA.1
  have m4 := mul_bd (x := δ) (y := A0.y) bδ hA.2
  have wu : wr IntKind.i64 (isub (wr IntKind.i64 (isub B0.x (wr IntKind.i64 (imul α A0.x)))) (wr IntKind.i64 (imul β A0.y))) = u := by
    simp only [isub_eq, imul_eq]
    rw [wr_id (n := α * A0.x) (by omega), wr_id (n := β * A0.y) (by omega), wr_id (n := B0.x - α * A0.x) (by omega), wr_id (by omega), hu]
  have wv : wr IntKind.i64 (isub (wr IntKind.i64 (isub B0.y (wr IntKind.i64 (imul γ A0.x)))) (wr IntKind.i64 (imul δ A0.y))) = v := by
    simp only [isub_eq, imul_eq]
    rw [wr_id (n := γ * A0.x) (by omega), wr_id (n := δ * A0.y) (by omega), wr_id (n := B0.y - γ * A0.x) (by omega), wr_id (by omega), hv]
  intro m
  induction m with
  | zero => intro i _ h; omega
  | succ m ih =>
    intro i hi hm
    rw [spec_mvTo_l1]
    simp only [wu, wv]
    by_cases h : (i : Int) < (a.length : Int)
    · have wi : wr IntKind.i64 (iadd (i : Int) 1) = ((i + 1 : Nat) : Int) := by rw [iadd_eq, wr_s (by omega)]; omega
      obtain ⟨k1, k2⟩ := ih (i + 1) (by omega) (by omega)
      have hp := hin (i : Int)
      unfold In at hp
      simp only [ilen_mapep, ilt_eq, h, decide_true, cond_true, lget_pt (show (0 : Int) ≤ i by omega) h, lget_pt (a := b) (show (0 : Int) ≤ i by omega) (by omega), gbind_eq, Option.bind_some,
        spec_mvPeg_eq (L := L) (A := α) (B := β) (C := γ) (D := δ) (X := u) (Y := v) (x := (pt a i).x) (y := (pt a i).y) (by omega) (by omega) (by omega) (by omega) (by omega) (by omega) (by omega) (by omega), wi, ieq_eq]
      by_cases e : aff α β γ δ u v (pt a i) = pt b i
      · have e' := pt_eq_iff.2 e
        unfold aff at e'
        simp only at e'
        rw [e']
        simp only [Bool.not_true, cond_false]
        refine ⟨fun hh => k1 fun j j0 j1 => hh j (by omega) j1, fun ⟨j, j0, j1, j2⟩ => k2 ⟨j, ?_, j1, j2⟩⟩
        by_cases hj : j = i
        · subst hj; exact absurd e.symm j2
        · omega
      · have e' : (decide ((aff α β γ δ u v (pt a i)).x = (pt b i).x) && decide ((aff α β γ δ u v (pt a i)).y = (pt b i).y)) = false := by
          cases hc : (decide ((aff α β γ δ u v (pt a i)).x = (pt b i).x) && decide ((aff α β γ δ u v (pt a i)).y = (pt b i).y)) with
          | false => rfl
          | true => exact absurd (pt_eq_iff.1 hc) e
        unfold aff at e'
        simp only at e'
        rw [e']
        simp only [Bool.not_false, cond_true]
        exact ⟨fun hh => absurd (hh i (Int.le_refl _) h).symm e, fun _ => rfl⟩
    · simp only [ilen_mapep, ilt_eq, h, decide_false, cond_false]
      exact ⟨fun _ => trivial, fun ⟨j, j0, j1, _⟩ => by omega⟩
theorem mvTo_end {L : Nat} {a b : List Pt} {A0 A1 A2 B0 B1 B2 : Pt} {α β γ δ : Int} {m : Nat} (ha : lget a 0 = some A0) (hb : lget b 0 = some B0)
    (bα : -20000 ≤ α ∧ α ≤ 20000) (bβ : -20000 ≤ β ∧ β ≤ 20000) (bγ : -20000 ≤ γ ∧ γ ≤ 20000) (bδ : -20000 ≤ δ ∧ δ ≤ 20000) :
    spec_mvTo_l0 L a b A2 A0 A2 A0 A1 A0 A1 A0 B2 B0 B2 B0 B1 B0 B1 B0 (m + 1) 4 [α, β, γ, δ] = if α * δ - β * γ = 1 ∨ α * δ - β * γ = -1 then spec_mvTo_l1 L a b α β γ δ B0 A0 A0 B0 A0 A0 L 0 else some no7 := by
  rw [spec_mvTo_l0]
  have l4 : ∀ x1 x2 x3 x4 : AV, ilen [x1, x2, x3, x4] = 4 := fun _ _ _ _ => by rw [ilen_eq]; rfl
  have lw : ilen (List.map eI [α, β, γ, δ]) = 4 := by rw [ilen_eq]; rfl
  have g0 : lget [α, β, γ, δ] 0 = some α := by rw [lget_eq]; rfl
  have g1 : lget [α, β, γ, δ] 1 = some β := by rw [lget_eq]; rfl
  have g2 : lget [α, β, γ, δ] 2 = some γ := by rw [lget_eq]; rfl
  have g3 : lget [α, β, γ, δ] 3 = some δ := by rw [lget_eq]; rfl
  have m1 := mul_bd (x := α) (y := δ) bα bδ
  have m2 := mul_bd (x := β) (y := γ) bβ bγ
  have wd : wr IntKind.i64 (isub (wr IntKind.i64 (imul α δ)) (wr IntKind.i64 (imul β γ))) = α * δ - β * γ := by
    simp only [isub_eq, imul_eq]
    rw [wr_id (n := α * δ) (by omega), wr_id (n := β * γ) (by omega), wr_id (by omega)]
  simp only [l4, lw, ilt_eq, ile_eq, Int.lt_irrefl, decide_false, cond_false, show (0 : Int) < 4 by omega, show (1 : Int) < 4 by omega, show (2 : Int) < 4 by omega, show (3 : Int) < 4 by omega, Int.le_refl, show (0 : Int) ≤ 1 by omega, show (0 : Int) ≤ 2 by omega, show (0 : Int) ≤ 3 by omega,
    decide_true, Bool.and_self, cond_true, g0, g1, g2, g3, gbind_eq, Option.bind_some, ha, hb, wd, spec_l1Abs_eq (L := L) (n := α * δ - β * γ) (by omega), ieq_eq]
  by_cases h : α * δ - β * γ = 1 ∨ α * δ - β * γ = -1
  · have : (((α * δ - β * γ).natAbs : Int) = 1) := by omega
    simp only [h, this, decide_true, Bool.not_true, cond_false, if_true]
  · have : ¬ (((α * δ - β * γ).natAbs : Int) = 1) := by omega
    simp only [h, this, decide_false, Bool.not_false, cond_true, if_false]
    rfl
end Go.AM
namespace Go.AM
def bN0 (A0 A1 A2 B0 B1 B2 : Pt) : Int := (B1.x - B0.x) * (A2.y - A0.y) - (B2.x - B0.x) * (A1.y - A0.y)
def bN1 (A0 A1 A2 B0 B1 B2 : Pt) : Int := (B2.x - B0.x) * (A1.x - A0.x) - (B1.x - B0.x) * (A2.x - A0.x)
def bN2 (A0 A1 A2 B0 B1 B2 : Pt) : Int := (B1.y - B0.y) * (A2.y - A0.y) - (B2.y - B0.y) * (A1.y - A0.y)
def bN3 (A0 A1 A2 B0 B1 B2 : Pt) : Int := (B2.y - B0.y) * (A1.x - A0.x) - (B1.y - B0.y) * (A2.x - A0.x)
def bD (A0 A1 A2 : Pt) : Int := (A1.x - A0.x) * (A2.y - A0.y) - (A1.y - A0.y) * (A2.x - A0.x)
theorem mvTo_start {L : Nat} {a b : List Pt} {A0 A1 A2 B0 B1 B2 : Pt} (hA0 : In A0) (hA1 : In A1) (hA2 : In A2) (hB0 : In B0) (hB1 : In B1) (hB2 : In B2) (a0 : lget a 0 = some A0) (a1 : lget a 1 = some A1) (a2 : lget a 2 = some A2) (b0 : lget b 0 = some B0) (b1 : lget b 1 = some B1) (b2 : lget b 2 = some B2) :
    spec_mvTo L a b = spec_mvTo_l0 L a b A2 A0 A2 A0 A1 A0 A1 A0 B2 B0 B2 B0 B1 B0 B1 B0 L 0 [bN0 A0 A1 A2 B0 B1 B2, bN1 A0 A1 A2 B0 B1 B2, bN2 A0 A1 A2 B0 B1 B2, bN3 A0 A1 A2 B0 B1 B2] ∧
    (-20000 ≤ bN0 A0 A1 A2 B0 B1 B2 ∧ bN0 A0 A1 A2 B0 B1 B2 ≤ 20000) ∧ (-20000 ≤ bN1 A0 A1 A2 B0 B1 B2 ∧ bN1 A0 A1 A2 B0 B1 B2 ≤ 20000) ∧ (-20000 ≤ bN2 A0 A1 A2 B0 B1 B2 ∧ bN2 A0 A1 A2 B0 B1 B2 ≤ 20000) ∧ (-20000 ≤ bN3 A0 A1 A2 B0 B1 B2 ∧ bN3 A0 A1 A2 B0 B1 B2 ≤ 20000) := by
  obtain ⟨e0, k0⟩ := w2 hB1.1 hB0.1 hA2.2 hA0.2 hB2.1 hB0.1 hA1.2 hA0.2
  obtain ⟨e1, k1⟩ := w2 hB2.1 hB0.1 hA1.1 hA0.1 hB1.1 hB0.1 hA2.1 hA0.1
  obtain ⟨e2, k2⟩ := w2 hB1.2 hB0.2 hA2.2 hA0.2 hB2.2 hB0.2 hA1.2 hA0.2
  obtain ⟨e3, k3⟩ := w2 hB2.2 hB0.2 hA1.1 hA0.1 hB1.2 hB0.2 hA2.1 hA0.1
  refine ⟨?_, k0, k1, k2, k3⟩
  unfold spec_mvTo
  simp only [a0, a1, a2, b0, b1, b2, gbind_eq, Option.bind_some, e0, e1, e2, e3]
  rfl
theorem mvTo_chain {L : Nat} {a b : List Pt} {A0 A1 A2 B0 B1 B2 : Pt} {D N0 N1 N2 N3 : Int} (hA0 : In A0) (hA1 : In A1) (hA2 : In A2) (hD : bD A0 A1 A2 = D) (hz : D ≠ 0) (a0 : lget a 0 = some A0) (b0 : lget b 0 = some B0)
    (k0 : -20000 ≤ N0 ∧ N0 ≤ 20000) (k1 : -20000 ≤ N1 ∧ N1 ≤ 20000) (k2 : -20000 ≤ N2 ∧ N2 ≤ 20000) (k3 : -20000 ≤ N3 ∧ N3 ≤ 20000) (hL : 10 < L) :
    spec_mvTo_l0 L a b A2 A0 A2 A0 A1 A0 A1 A0 B2 B0 B2 B0 B1 B0 B1 B0 L 0 [N0, N1, N2, N3] =
      if (N0.tmod D = 0 ∧ N1.tmod D = 0 ∧ N2.tmod D = 0 ∧ N3.tmod D = 0) ∧ (N0.tdiv D * N3.tdiv D - N1.tdiv D * N2.tdiv D = 1 ∨ N0.tdiv D * N3.tdiv D - N1.tdiv D * N2.tdiv D = -1) then
        spec_mvTo_l1 L a b (N0.tdiv D) (N1.tdiv D) (N2.tdiv D) (N3.tdiv D) B0 A0 A0 B0 A0 A0 L 0 else some no7 := by
  have main : ∀ m, spec_mvTo_l0 L a b A2 A0 A2 A0 A1 A0 A1 A0 B2 B0 B2 B0 B1 B0 B1 B0 (m + 5) 0 [N0, N1, N2, N3] =
      if (N0.tmod D = 0 ∧ N1.tmod D = 0 ∧ N2.tmod D = 0 ∧ N3.tmod D = 0) ∧ (N0.tdiv D * N3.tdiv D - N1.tdiv D * N2.tdiv D = 1 ∨ N0.tdiv D * N3.tdiv D - N1.tdiv D * N2.tdiv D = -1) then
        spec_mvTo_l1 L a b (N0.tdiv D) (N1.tdiv D) (N2.tdiv D) (N3.tdiv D) B0 A0 A0 B0 A0 A0 L 0 else some no7 := by
    intro m
    have s0 : spec_mvTo_l0 L a b A2 A0 A2 A0 A1 A0 A1 A0 B2 B0 B2 B0 B1 B0 B1 B0 (m + 5) 0 [N0, N1, N2, N3] = if N0.tmod D = 0 then spec_mvTo_l0 L a b A2 A0 A2 A0 A1 A0 A1 A0 B2 B0 B2 B0 B1 B0 B1 B0 (m + 4) 1 [N0.tdiv D, N1, N2, N3] else some no7 :=
      mvTo_step (i := 0) (m := m + 4) hA0 hA1 hA2 hD hz (by omega) rfl (by rw [lget_eq]; rfl) k0
    have s1 : spec_mvTo_l0 L a b A2 A0 A2 A0 A1 A0 A1 A0 B2 B0 B2 B0 B1 B0 B1 B0 (m + 4) 1 [N0.tdiv D, N1, N2, N3] = if N1.tmod D = 0 then spec_mvTo_l0 L a b A2 A0 A2 A0 A1 A0 A1 A0 B2 B0 B2 B0 B1 B0 B1 B0 (m + 3) 2 [N0.tdiv D, N1.tdiv D, N2, N3] else some no7 :=
      mvTo_step (i := 1) (m := m + 3) hA0 hA1 hA2 hD hz (by omega) rfl (by rw [lget_eq]; rfl) k1
    have s2 : spec_mvTo_l0 L a b A2 A0 A2 A0 A1 A0 A1 A0 B2 B0 B2 B0 B1 B0 B1 B0 (m + 3) 2 [N0.tdiv D, N1.tdiv D, N2, N3] = if N2.tmod D = 0 then spec_mvTo_l0 L a b A2 A0 A2 A0 A1 A0 A1 A0 B2 B0 B2 B0 B1 B0 B1 B0 (m + 2) 3 [N0.tdiv D, N1.tdiv D, N2.tdiv D, N3] else some no7 :=
      mvTo_step (i := 2) (m := m + 2) hA0 hA1 hA2 hD hz (by omega) rfl (by rw [lget_eq]; rfl) k2
    have s3 : spec_mvTo_l0 L a b A2 A0 A2 A0 A1 A0 A1 A0 B2 B0 B2 B0 B1 B0 B1 B0 (m + 2) 3 [N0.tdiv D, N1.tdiv D, N2.tdiv D, N3] = if N3.tmod D = 0 then spec_mvTo_l0 L a b A2 A0 A2 A0 A1 A0 A1 A0 B2 B0 B2 B0 B1 B0 B1 B0 (m + 1) 4 [N0.tdiv D, N1.tdiv D, N2.tdiv D, N3.tdiv D] else some no7 :=
      mvTo_step (i := 3) (m := m + 1) hA0 hA1 hA2 hD hz (by omega) rfl (by rw [lget_eq]; rfl) k3
    have s4 := mvTo_end (L := L) (a := a) (b := b) (A1 := A1) (A2 := A2) (B1 := B1) (B2 := B2) (m := m) a0 b0 (tdiv_small (b := D) k0) (tdiv_small (b := D) k1) (tdiv_small (b := D) k2) (tdiv_small (b := D) k3)
    rw [s0, s1, s2, s3, s4]
    by_cases h0 : N0.tmod D = 0
    · by_cases h1 : N1.tmod D = 0
      · by_cases h2 : N2.tmod D = 0
        · by_cases h3 : N3.tmod D = 0
          · simp only [h0, h1, h2, h3, if_true, true_and]
          · simp only [h0, h1, h2, h3, if_true, if_false, and_false, false_and]
        · simp only [h0, h1, h2, if_true, if_false, false_and, and_false]
      · simp only [h0, h1, if_true, if_false, false_and, and_false]
    · simp only [h0, if_false, false_and]
  obtain ⟨m, hm⟩ : ∃ m, L = m + 5 := ⟨L - 5, by omega⟩
  have := main m
  rwa [← hm] at this
structure Pair (a b : List Pt) : Prop where
  len : b.length = a.length
  lo : 3 ≤ (a.length : Int)
  hi : (a.length : Int) ≤ 100
  inA : ∀ i, In (pt a i)
  inB : ∀ i, In (pt b i)
  turn : turn (pt a 0) (pt a 1) (pt a 2) ≠ 0
theorem Pair.gets {a b : List Pt} (h : Pair a b) : (lget a 0 = some (pt a 0) ∧ lget a 1 = some (pt a 1) ∧ lget a 2 = some (pt a 2)) ∧ lget b 0 = some (pt b 0) ∧ lget b 1 = some (pt b 1) ∧ lget b 2 = some (pt b 2) := by
  have := h.lo
  have := h.len
  exact ⟨⟨lget_pt (by omega) (by omega), lget_pt (by omega) (by omega), lget_pt (by omega) (by omega)⟩, lget_pt (by omega) (by omega), lget_pt (by omega) (by omega), lget_pt (by omega) (by omega)⟩
theorem bD_turn {A0 A1 A2 : Pt} : bD A0 A1 A2 = turn A0 A1 A2 := by unfold bD turn; grind
theorem img_div {a b : List Pt} (h : Pair a b) {α β γ δ u v : Int} (k : Img a b α β γ δ u v) :
    (bN0 (pt a 0) (pt a 1) (pt a 2) (pt b 0) (pt b 1) (pt b 2) = α * bD (pt a 0) (pt a 1) (pt a 2)) ∧ (bN1 (pt a 0) (pt a 1) (pt a 2) (pt b 0) (pt b 1) (pt b 2) = β * bD (pt a 0) (pt a 1) (pt a 2)) ∧
    (bN2 (pt a 0) (pt a 1) (pt a 2) (pt b 0) (pt b 1) (pt b 2) = γ * bD (pt a 0) (pt a 1) (pt a 2)) ∧ (bN3 (pt a 0) (pt a 1) (pt a 2) (pt b 0) (pt b 1) (pt b 2) = δ * bD (pt a 0) (pt a 1) (pt a 2)) :=
  img_nums k _ _ _ _ rfl rfl rfl rfl
theorem mvTo_yes {L : Nat} {a b : List Pt} (h : Pair a b) {α β γ δ u v : Int} (k : Img a b α β γ δ u v) (hL : 200 < L) : spec_mvTo L a b = some (α, β, γ, δ, u, v, true) := by
  obtain ⟨⟨a0, a1, a2⟩, b0, b1, b2⟩ := h.gets
  obtain ⟨st, k0, k1, k2, k3⟩ := mvTo_start (L := L) (h.inA 0) (h.inA 1) (h.inA 2) (h.inB 0) (h.inB 1) (h.inB 2) a0 a1 a2 b0 b1 b2
  obtain ⟨d0, d1, d2, d3⟩ := img_div h k
  have hz : bD (pt a 0) (pt a 1) (pt a 2) ≠ 0 := by rw [bD_turn]; exact h.turn
  rw [st, mvTo_chain (h.inA 0) (h.inA 1) (h.inA 2) rfl hz a0 b0 k0 k1 k2 k3 (by omega)]
  have t0 := tdiv_small (b := bD (pt a 0) (pt a 1) (pt a 2)) k0
  have t1 := tdiv_small (b := bD (pt a 0) (pt a 1) (pt a 2)) k1
  have t2 := tdiv_small (b := bD (pt a 0) (pt a 1) (pt a 2)) k2
  have t3 := tdiv_small (b := bD (pt a 0) (pt a 1) (pt a 2)) k3
  simp only [d0, d1, d2, d3, Int.mul_tmod_left, Int.mul_tdiv_cancel _ hz] at t0 t1 t2 t3 ⊢
  rw [if_pos ⟨⟨trivial, trivial, trivial, trivial⟩, k.1⟩]
  have e := k.2 0
  unfold aff at e
  have ex := congrArg Pt.x e
  have ey := congrArg Pt.y e
  simp only at ex ey
  exact (mvTo_l1 (L := L) (u := u) (v := v) h.len h.hi (h.inA 0) (h.inB 0) h.inA (by omega) (by omega) t0 t1 t2 t3 L 0 (by omega) (by have := h.hi; omega)).1 fun j _ _ => k.2 j
theorem mvTo_no {L : Nat} {a b : List Pt} (h : Pair a b) (k : ¬ ∃ α β γ δ u v, Img a b α β γ δ u v) (hL : 200 < L) : spec_mvTo L a b = some no7 := by
  obtain ⟨⟨a0, a1, a2⟩, b0, b1, b2⟩ := h.gets
  obtain ⟨st, k0, k1, k2, k3⟩ := mvTo_start (L := L) (h.inA 0) (h.inA 1) (h.inA 2) (h.inB 0) (h.inB 1) (h.inB 2) a0 a1 a2 b0 b1 b2
  have hz : bD (pt a 0) (pt a 1) (pt a 2) ≠ 0 := by rw [bD_turn]; exact h.turn
  rw [st, mvTo_chain (h.inA 0) (h.inA 1) (h.inA 2) rfl hz a0 b0 k0 k1 k2 k3 (by omega)]
  have t0 := tdiv_small (b := bD (pt a 0) (pt a 1) (pt a 2)) k0
  have t1 := tdiv_small (b := bD (pt a 0) (pt a 1) (pt a 2)) k1
  have t2 := tdiv_small (b := bD (pt a 0) (pt a 1) (pt a 2)) k2
  have t3 := tdiv_small (b := bD (pt a 0) (pt a 1) (pt a 2)) k3
  generalize bD (pt a 0) (pt a 1) (pt a 2) = D at *
  generalize bN0 (pt a 0) (pt a 1) (pt a 2) (pt b 0) (pt b 1) (pt b 2) = N0 at *
  generalize bN1 (pt a 0) (pt a 1) (pt a 2) (pt b 0) (pt b 1) (pt b 2) = N1 at *
  generalize bN2 (pt a 0) (pt a 1) (pt a 2) (pt b 0) (pt b 1) (pt b 2) = N2 at *
  generalize bN3 (pt a 0) (pt a 1) (pt a 2) (pt b 0) (pt b 1) (pt b 2) = N3 at *
  by_cases hc : (N0.tmod D = 0 ∧ N1.tmod D = 0 ∧ N2.tmod D = 0 ∧ N3.tmod D = 0) ∧ (N0.tdiv D * N3.tdiv D - N1.tdiv D * N2.tdiv D = 1 ∨ N0.tdiv D * N3.tdiv D - N1.tdiv D * N2.tdiv D = -1)
  · rw [if_pos hc]
    have hd := hc.2
    clear hc st k0 k1 k2 k3
    generalize N0.tdiv D = α at *
    generalize N1.tdiv D = β at *
    generalize N2.tdiv D = γ at *
    generalize N3.tdiv D = δ at *
    refine (mvTo_l1 (L := L) h.len h.hi (h.inA 0) (h.inB 0) h.inA rfl rfl t0 t1 t2 t3 L 0 (by omega) (by have := h.hi; omega)).2 ?_
    refine Classical.byContradiction fun hn => k ⟨α, β, γ, δ, (pt b 0).x - α * (pt a 0).x - β * (pt a 0).y, (pt b 0).y - γ * (pt a 0).x - δ * (pt a 0).y, hd, fun i => ?_⟩
    have lo := h.lo
    have q1 := Int.emod_nonneg i (show (a.length : Int) ≠ 0 by omega)
    have q2 := Int.emod_lt_of_pos i (show 0 < (a.length : Int) by omega)
    have e := Classical.byContradiction fun he => hn ⟨i % a.length, q1, q2, he⟩
    have pb := pt_mod b i
    rw [h.len] at pb
    rwa [pt_mod, pb] at e
  · rw [if_neg hc]
theorem between_eq {L : Nat} {a b : List Pt} (h : Pair a b) {α β γ δ u v : Int} (k : Img a b α β γ δ u v) : impl_between L a b = some (α, β, γ, δ, u, v) ∧ Wi u ∧ Wi v := by
  obtain ⟨⟨a0, a1, a2⟩, b0, b1, b2⟩ := h.gets
  have hz : bD (pt a 0) (pt a 1) (pt a 2) ≠ 0 := by rw [bD_turn]; exact h.turn
  obtain ⟨d0, d1, d2, d3⟩ := img_div h k
  have e := k.2 0
  unfold aff at e
  have ex := congrArg Pt.x e
  have ey := congrArg Pt.y e
  simp only at ex ey
  obtain ⟨_, k0, k1, k2, k3⟩ := mvTo_start (L := L) (h.inA 0) (h.inA 1) (h.inA 2) (h.inB 0) (h.inB 1) (h.inB 2) a0 a1 a2 b0 b1 b2
  have t0 := tdiv_small (b := bD (pt a 0) (pt a 1) (pt a 2)) k0
  have t1 := tdiv_small (b := bD (pt a 0) (pt a 1) (pt a 2)) k1
  have t2 := tdiv_small (b := bD (pt a 0) (pt a 1) (pt a 2)) k2
  have t3 := tdiv_small (b := bD (pt a 0) (pt a 1) (pt a 2)) k3
  rw [d0, Int.mul_tdiv_cancel _ hz] at t0
  rw [d1, Int.mul_tdiv_cancel _ hz] at t1
  rw [d2, Int.mul_tdiv_cancel _ hz] at t2
  rw [d3, Int.mul_tdiv_cancel _ hz] at t3
  have A0 := h.inA 0; have A1 := h.inA 1; have A2 := h.inA 2
  have B0 := h.inB 0; have B1 := h.inB 1; have B2 := h.inB 2
  unfold bN0 at d0 k0
  unfold bN1 at d1 k1
  unfold bN2 at d2 k2
  unfold bN3 at d3 k3
  unfold bD at d0 d1 d2 d3 hz
  clear k h
  generalize pt a 0 = P0 at *
  generalize pt a 1 = P1 at *
  generalize pt a 2 = P2 at *
  generalize pt b 0 = Q0 at *
  generalize pt b 1 = Q1 at *
  generalize pt b 2 = Q2 at *
  have r1 := less_eq (L := L) (p := P1) (q := P0) A1.nr A0.nr
  have r2 := less_eq (L := L) (p := P2) (q := P0) A2.nr A0.nr
  have r3 := less_eq (L := L) (p := Q1) (q := Q0) B1.nr B0.nr
  have r4 := less_eq (L := L) (p := Q2) (q := Q0) B2.nr B0.nr
  have r5 : impl_cross L (P1.x - P0.x) (P1.y - P0.y) (P2.x - P0.x) (P2.y - P0.y) = some ((P1.x - P0.x) * (P2.y - P0.y) - (P1.y - P0.y) * (P2.x - P0.x)) :=
    impl_cross_eq (L := L) (p := ⟨P1.x - P0.x, P1.y - P0.y⟩) (q := ⟨P2.x - P0.x, P2.y - P0.y⟩) (by unfold In at *; unfold Nr; simp only; omega) (by unfold In at *; unfold Nr; simp only; omega)
  unfold In at A0 A1 A2 B0 B1 B2
  have wq : ∀ {x y z w : Int} {c : Int}, (-80 ≤ x ∧ x ≤ 80) → (-80 ≤ y ∧ y ≤ 80) → (-80 ≤ z ∧ z ≤ 80) → (-80 ≤ w ∧ w ≤ 80) → x * y - z * w = c * ((P1.x - P0.x) * (P2.y - P0.y) - (P1.y - P0.y) * (P2.x - P0.x)) → (-20000 ≤ c ∧ c ≤ 20000) →
      wr IntKind.i64 (iquo (wr IntKind.i64 (isub (wr IntKind.i64 (imul x y)) (wr IntKind.i64 (imul z w)))) ((P1.x - P0.x) * (P2.y - P0.y) - (P1.y - P0.y) * (P2.x - P0.x))) = c := by
    intro x y z w c hx hy hz' hw he hc
    have m1 := mul_bd hx hy
    have m2 := mul_bd hz' hw
    simp only [isub_eq, imul_eq, iquo_eq]
    rw [wr_id (n := x * y) (by omega), wr_id (n := z * w) (by omega), wr_id (n := x * y - z * w) (by omega), he, Int.mul_tdiv_cancel _ hz, wr_id (by omega)]
  have g0 := wq (c := α) (show -80 ≤ Q1.x - Q0.x ∧ Q1.x - Q0.x ≤ 80 by omega) (show -80 ≤ P2.y - P0.y ∧ P2.y - P0.y ≤ 80 by omega) (show -80 ≤ Q2.x - Q0.x ∧ Q2.x - Q0.x ≤ 80 by omega) (show -80 ≤ P1.y - P0.y ∧ P1.y - P0.y ≤ 80 by omega) d0 t0
  have g1 := wq (c := β) (show -80 ≤ Q2.x - Q0.x ∧ Q2.x - Q0.x ≤ 80 by omega) (show -80 ≤ P1.x - P0.x ∧ P1.x - P0.x ≤ 80 by omega) (show -80 ≤ Q1.x - Q0.x ∧ Q1.x - Q0.x ≤ 80 by omega) (show -80 ≤ P2.x - P0.x ∧ P2.x - P0.x ≤ 80 by omega) d1 t1
  have g2 := wq (c := γ) (show -80 ≤ Q1.y - Q0.y ∧ Q1.y - Q0.y ≤ 80 by omega) (show -80 ≤ P2.y - P0.y ∧ P2.y - P0.y ≤ 80 by omega) (show -80 ≤ Q2.y - Q0.y ∧ Q2.y - Q0.y ≤ 80 by omega) (show -80 ≤ P1.y - P0.y ∧ P1.y - P0.y ≤ 80 by omega) d2 t2
  have g3 := wq (c := δ) (show -80 ≤ Q2.y - Q0.y ∧ Q2.y - Q0.y ≤ 80 by omega) (show -80 ≤ P1.x - P0.x ∧ P1.x - P0.x ≤ 80 by omega) (show -80 ≤ Q1.y - Q0.y ∧ Q1.y - Q0.y ≤ 80 by omega) (show -80 ≤ P2.x - P0.x ∧ P2.x - P0.x ≤ 80 by omega) d3 t3
  have m1 := mul_bd (x := α) (y := P0.x) t0 A0.1
  have m2 := mul_bd (x := β) (y := P0.y) t1 A0.2
  have m3 := mul_bd (x := γ) (y := P0.x) t2 A0.1
  have m4 := mul_bd (x := δ) (y := P0.y) t3 A0.2
  have bp := spec_mvPeg_eq (L := L) (A := α) (B := β) (C := γ) (D := δ) (X := 0) (Y := 0) (x := P0.x) (y := P0.y) (by omega) (by omega) (by omega) (by omega) (by omega) (by omega) (by omega) (by omega)
  have f1 : wr IntKind.i64 (isub Q0.x (α * P0.x + β * P0.y + 0)) = u := by rw [isub_eq, wr_id (by omega)]; omega
  have f2 : wr IntKind.i64 (isub Q0.y (γ * P0.x + δ * P0.y + 0)) = v := by rw [isub_eq, wr_id (by omega)]; omega
  refine ⟨?_, by unfold Wi; omega, by unfold Wi; omega⟩
  unfold impl_between
  simp only [a0, a1, a2, b0, b1, b2, gbind_eq, Option.bind_some, r1, r2, r3, r4, r5, ieq_eq, hz, decide_false, cond_false, g0, g1, g2, g3, impl_bring_eq, bp, f1, f2]
end Go.AM
