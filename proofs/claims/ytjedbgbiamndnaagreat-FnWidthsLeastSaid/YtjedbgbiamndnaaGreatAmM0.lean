import Derived.Test.YtjedbgbiamndnaaGreatAmP1
set_option linter.unusedVariables false
set_option linter.unusedSimpArgs false
set_option linter.unnecessarySimpa false
set_option linter.deprecated false
set_option linter.unusedSectionVars false
open Go Go.AM Go.Proofs
namespace Go.AM
end Go.AM
namespace Go.AM
theorem wr_id {n : Int} (h : -9223372036854775808 ≤ n ∧ n ≤ 9223372036854775807) : wr .i64 n = n := by
  rw [wr_eq]
  simp only [IntKind.wrap, IntKind.signed, IntKind.bits]
  simp
  omega
theorem mul_bd {x y A B : Int} (hx : -A ≤ x ∧ x ≤ A) (hy : -B ≤ y ∧ y ≤ B) : -(A * B) ≤ x * y ∧ x * y ≤ A * B := by
  have h : (x * y).natAbs ≤ (A * B).natAbs := by
    rw [Int.natAbs_mul, Int.natAbs_mul]
    exact Nat.mul_le_mul (by omega) (by omega)
  have hp : 0 ≤ A * B := Int.mul_nonneg (by omega) (by omega)
  omega
theorem mul_le0 {x y : Int} : x * y ≤ 0 ↔ (x ≤ 0 ∧ 0 ≤ y) ∨ (0 ≤ x ∧ y ≤ 0) := by
  constructor
  · intro h
    rcases Int.lt_trichotomy x 0 with hx | hx | hx
    · rcases Int.lt_trichotomy y 0 with hy | hy | hy
      · have := Int.mul_pos_of_neg_of_neg hx hy; omega
      · omega
      · omega
    · omega
    · rcases Int.lt_trichotomy y 0 with hy | hy | hy
      · omega
      · omega
      · have := Int.mul_pos hx hy; omega
  · rintro (⟨h1, h2⟩ | ⟨h1, h2⟩)
    · exact Int.mul_nonpos_of_nonpos_of_nonneg h1 h2
    · exact Int.mul_nonpos_of_nonneg_of_nonpos h1 h2
def turn (a b c : Pt) : Int := (b.x - a.x) * (c.y - a.y) - (b.y - a.y) * (c.x - a.x)
def Nr (p : Pt) : Prop := (-1000 ≤ p.x ∧ p.x ≤ 1000) ∧ (-1000 ≤ p.y ∧ p.y ≤ 1000)
def In (p : Pt) : Prop := (-40 ≤ p.x ∧ p.x ≤ 40) ∧ (-40 ≤ p.y ∧ p.y ≤ 40)
theorem In.nr {p : Pt} (h : In p) : Nr p := by unfold In at h; unfold Nr; omega
theorem sub_bd {p q : Pt} (hp : Nr p) (hq : Nr q) : (-2000 ≤ p.x - q.x ∧ p.x - q.x ≤ 2000) ∧ (-2000 ≤ p.y - q.y ∧ p.y - q.y ≤ 2000) := by
  unfold Nr at hp hq; omega
theorem turn_bd {a b c : Pt} (ha : Nr a) (hb : Nr b) (hc : Nr c) : -8000000 ≤ turn a b c ∧ turn a b c ≤ 8000000 := by
  have h1 := sub_bd hb ha
  have h2 := sub_bd hc ha
  have h3 := mul_bd h1.1 h2.2
  have h4 := mul_bd h1.2 h2.1
  unfold turn
  omega
theorem spec_pgTurn_eq {L : Nat} {a b c : Pt} (ha : Nr a) (hb : Nr b) (hc : Nr c) : spec_pgTurn L a.x a.y b.x b.y c.x c.y = some (turn a b c) := by
  have h1 := sub_bd hb ha
  have h2 := sub_bd hc ha
  have h3 := mul_bd h1.1 h2.2
  have h4 := mul_bd h1.2 h2.1
  unfold spec_pgTurn turn
  simp only [isub_eq, imul_eq]
  rw [wr_id (n := b.x - a.x) (by omega), wr_id (n := c.y - a.y) (by omega), wr_id (n := b.y - a.y) (by omega), wr_id (n := c.x - a.x) (by omega), wr_id (n := (b.x - a.x) * (c.y - a.y)) (by omega), wr_id (n := (b.y - a.y) * (c.x - a.x)) (by omega), wr_id (by omega)]
theorem impl_turn_eq {L : Nat} {a b c : Pt} (ha : Nr a) (hb : Nr b) (hc : Nr c) : impl_turn L a.x a.y b.x b.y c.x c.y = some (turn a b c) := by
  have h1 := sub_bd hb ha
  have h2 := sub_bd hc ha
  have h3 := mul_bd h1.1 h2.2
  have h4 := mul_bd h1.2 h2.1
  unfold impl_turn impl_Peg_less impl_cross turn
  simp only [gbind_eq, Option.bind_some, isub_eq, imul_eq]
  rw [wr_id (n := b.x - a.x) (by omega), wr_id (n := c.y - a.y) (by omega), wr_id (n := b.y - a.y) (by omega), wr_id (n := c.x - a.x) (by omega), wr_id (n := (b.x - a.x) * (c.y - a.y)) (by omega), wr_id (n := (b.y - a.y) * (c.x - a.x)) (by omega), wr_id (by omega)]
def OnL (a b p : Pt) : Prop := turn a b p = 0 ∧ (a.x - p.x) * (b.x - p.x) ≤ 0 ∧ (a.y - p.y) * (b.y - p.y) ≤ 0
instance (a b p : Pt) : Decidable (OnL a b p) := by unfold OnL; infer_instance
theorem spec_pgOn_eq {L : Nat} {a b p : Pt} (ha : Nr a) (hb : Nr b) (hp : Nr p) : spec_pgOn L a.x a.y b.x b.y p.x p.y = some (decide (OnL a b p)) := by
  have h1 := sub_bd ha hp
  have h2 := sub_bd hb hp
  have h3 := mul_bd h1.1 h2.1
  have h4 := mul_bd h1.2 h2.2
  unfold spec_pgOn
  rw [spec_pgTurn_eq ha hb hp]
  simp only [gbind_eq, Option.bind_some, isub_eq, imul_eq, ieq_eq, ile_eq]
  rw [wr_id (n := a.x - p.x) (by omega), wr_id (n := b.x - p.x) (by omega), wr_id (n := a.y - p.y) (by omega), wr_id (n := b.y - p.y) (by omega), wr_id (n := (a.x - p.x) * (b.x - p.x)) (by omega), wr_id (n := (a.y - p.y) * (b.y - p.y)) (by omega)]
  unfold OnL
  by_cases k1 : turn a b p = 0 <;> by_cases k2 : (a.x - p.x) * (b.x - p.x) ≤ 0 <;> simp [k1, k2]
theorem mid_iff {a b p : Int} : (a - p) * (b - p) ≤ 0 ↔ (if b < a then b else a) ≤ p ∧ p ≤ (if b > a then b else a) := by
  rw [mul_le0]
  split <;> split <;> omega
theorem impl_isOn_eq {L : Nat} {a b p : Pt} (ha : Nr a) (hb : Nr b) (hp : Nr p) : impl_isOn L a.x a.y b.x b.y p.x p.y = some (decide (OnL a b p)) := by
  unfold impl_isOn impl_within OnL
  rw [impl_turn_eq ha hb hp]
  simp only [gbind_eq, Option.bind_some, ieq_eq, ile_eq, imin_eq, imax_eq, mid_iff]
  by_cases k1 : turn a b p = 0
  · simp only [k1, decide_true, cond_true]
    by_cases k2 : (if b.x < a.x then b.x else a.x) ≤ p.x <;> by_cases k3 : p.x ≤ (if b.x > a.x then b.x else a.x) <;>
      by_cases k4 : (if b.y < a.y then b.y else a.y) ≤ p.y <;> by_cases k5 : p.y ≤ (if b.y > a.y then b.y else a.y) <;> simp [k2, k3, k4, k5]
  · simp [k1]
def sg (n : Int) : Int := if 0 < n then 1 else if n < 0 then -1 else 0
theorem spec_l1Sign_eq {L : Nat} {n : Int} : spec_l1Sign L n = some (sg n) := by
  unfold spec_l1Sign sg
  simp only [ilt_eq]
  by_cases h1 : 0 < n <;> by_cases h2 : n < 0 <;> simp [h1, h2]
theorem impl_sign_eq {L : Nat} {n : Int} : impl_sign L n = some (sg n) := by
  unfold impl_sign sg
  simp only [imin_eq, imax_eq]
  congr 1
  split <;> split <;> split <;> (try split) <;> omega
theorem sg_bd (n : Int) : -1 ≤ sg n ∧ sg n ≤ 1 := by unfold sg; split; omega; split <;> omega
def Meet (a b c d : Pt) : Prop := OnL a b c ∨ OnL a b d ∨ OnL c d a ∨ OnL c d b ∨ (sg (turn a b c) * sg (turn a b d) < 0 ∧ sg (turn c d a) * sg (turn c d b) < 0)
instance (a b c d : Pt) : Decidable (Meet a b c d) := by unfold Meet; infer_instance
theorem sgm {m n : Int} : wr .i64 (sg m * sg n) = sg m * sg n := by
  have := mul_bd (sg_bd m) (sg_bd n)
  exact wr_id (by omega)
theorem spec_pgMeet_eq {L : Nat} {a b c d : Pt} (ha : Nr a) (hb : Nr b) (hc : Nr c) (hd : Nr d) : spec_pgMeet L a.x a.y b.x b.y c.x c.y d.x d.y = some (decide (Meet a b c d)) := by
  unfold spec_pgMeet Meet
  rw [spec_pgOn_eq ha hb hc, spec_pgOn_eq ha hb hd, spec_pgOn_eq hc hd ha, spec_pgOn_eq hc hd hb, spec_pgTurn_eq ha hb hc, spec_pgTurn_eq ha hb hd, spec_pgTurn_eq hc hd ha, spec_pgTurn_eq hc hd hb]
  simp only [gbind_eq, Option.bind_some, spec_l1Sign_eq, imul_eq, ilt_eq, sgm]
  by_cases k1 : OnL a b c <;> by_cases k2 : OnL a b d <;> by_cases k3 : OnL c d a <;> by_cases k4 : OnL c d b <;> by_cases k5 : sg (turn a b c) * sg (turn a b d) < 0 <;>
    by_cases k6 : sg (turn c d a) * sg (turn c d b) < 0 <;> simp [k1, k2, k3, k4, k5, k6]
theorem impl_meet_eq {L : Nat} {a b c d : Pt} (ha : Nr a) (hb : Nr b) (hc : Nr c) (hd : Nr d) : impl_meet L a.x a.y b.x b.y c.x c.y d.x d.y = some (decide (Meet a b c d)) := by
  unfold impl_meet Meet
  rw [impl_isOn_eq ha hb hc, impl_isOn_eq ha hb hd, impl_isOn_eq hc hd ha, impl_isOn_eq hc hd hb, impl_turn_eq ha hb hc, impl_turn_eq ha hb hd, impl_turn_eq hc hd ha, impl_turn_eq hc hd hb]
  simp only [gbind_eq, Option.bind_some, impl_sign_eq, imul_eq, ilt_eq, sgm]
  by_cases k1 : OnL a b c <;> by_cases k2 : OnL a b d <;> by_cases k3 : OnL c d a <;> by_cases k4 : OnL c d b <;> by_cases k5 : sg (turn a b c) * sg (turn a b d) < 0 <;>
    by_cases k6 : sg (turn c d a) * sg (turn c d b) < 0 <;> simp [k1, k2, k3, k4, k5, k6]
end Go.AM
namespace Go.AM
def pt (a : List Pt) (i : Int) : Pt := a.getD (i % (a.length : Int)).toNat ⟨0, 0⟩
theorem pt_congr {a : List Pt} {i j : Int} (h : i % (a.length : Int) = j % (a.length : Int)) : pt a i = pt a j := by unfold pt; rw [h]
theorem pt_get {a : List Pt} {i : Int} (h0 : 0 ≤ i) (h1 : i < a.length) : a[i.toNat]? = some (pt a i) := by
  unfold pt
  rw [Int.emod_eq_of_lt h0 h1]
  have : i.toNat < a.length := by omega
  simp [this]
theorem lget_pt {a : List Pt} {i : Int} (h0 : 0 ≤ i) (h1 : i < a.length) : lget a i = some (pt a i) := by
  rw [lget_eq, if_pos h0, pt_get h0 h1]
theorem irem_nn {i n : Int} (h : 0 ≤ i) : irem i n = i % n := by rw [irem_eq]; exact Int.tmod_eq_emod_of_nonneg h
theorem lget_rem {a : List Pt} {i : Int} (h0 : 0 ≤ i) (hn : a ≠ []) : lget a (irem i (a.length : Int)) = some (pt a i) := by
  have hl : 0 < (a.length : Int) := by have := List.length_pos_iff.2 hn; omega
  rw [irem_nn h0, lget_pt (Int.emod_nonneg _ (by omega)) (Int.emod_lt_of_pos _ hl)]
  congr 1
  exact pt_congr (Int.emod_emod_of_dvd _ (Int.dvd_refl _))
theorem ilen_mapep (a : List Pt) : ilen (List.map ep a) = (a.length : Int) := by rw [ilen_map, ilen_eq]
theorem impl_at_eq {L : Nat} {a : List Pt} {i : Int} (hn : a ≠ []) (hs : (a.length : Int) ≤ 1000000000) : impl_at L a i = some ((pt a i).x, (pt a i).y) := by
  have hl : 0 < (a.length : Int) := by have := List.length_pos_iff.2 hn; omega
  unfold impl_at
  simp only [ilen_mapep, ieq_eq, gbind_eq, iadd_eq]
  have h0 : ¬ ((a.length : Int) = 0) := by omega
  simp only [h0, decide_false, cond_false]
  have h1 : -(a.length : Int) < irem i (a.length : Int) ∧ irem i (a.length : Int) < a.length := by
    rw [irem_eq]
    have := Int.tmod_lt_of_pos i hl
    have h2 := Int.natAbs_tmod i (a.length : Int)
    have h3 := Nat.mod_lt i.natAbs (show 0 < (a.length : Int).natAbs by omega)
    omega
  rw [wr_id (by omega), lget_rem (by omega) hn]
  simp only [Option.bind_some]
  have : pt a (irem i (a.length : Int) + a.length) = pt a i := by
    apply pt_congr
    rw [Int.add_emod_right, irem_eq]
    conv => rhs; rw [← Int.tmod_add_mul_tdiv i (a.length : Int), Int.add_mul_emod_self_left]
  rw [this]
theorem search {β : Type} {f : Nat → Int → Option β} {bad : Int → Prop} {r k : Option β} {lo n hi : Int} (hn : n ≤ hi) (hstop : ∀ m v, lo ≤ v → v ≤ hi → ¬ v < n → f (m + 1) v = k) (hbad : ∀ m v, lo ≤ v → v < n → bad v → f (m + 1) v = r)
    (hgo : ∀ m v, lo ≤ v → v < n → ¬ bad v → f (m + 1) v = f m (v + 1)) : ∀ (m : Nat) (v : Int), lo ≤ v → v ≤ hi → n - v < m → 0 < m → ((∃ j, v ≤ j ∧ j < n ∧ bad j) → f m v = r) ∧ ((∀ j, v ≤ j → j < n → ¬ bad j) → f m v = k) := by
  intro m
  induction m with
  | zero => intro v _ _ _ h; omega
  | succ m ih =>
    intro v hv hvh hm _
    by_cases hvn : v < n
    · by_cases hb : bad v
      · refine ⟨fun _ => hbad m v hv hvn hb, fun h => absurd hb (h v (Int.le_refl _) hvn)⟩
      · rw [hgo m v hv hvn hb]
        obtain ⟨h1, h2⟩ := ih (v + 1) (by omega) (by omega) (by omega) (by omega)
        refine ⟨fun ⟨j, q1, q2, q3⟩ => h1 ⟨j, ?_, q2, q3⟩, fun h => h2 fun j q1 q2 => h j (by omega) q2⟩
        by_cases hj : j = v
        · subst hj; exact absurd q3 hb
        · omega
    · rw [hstop m v hv hvh hvn]
      exact ⟨fun ⟨j, q1, q2, _⟩ => by omega, fun _ => rfl⟩
structure Good_ (a : List Pt) : Prop where
  lo : 3 ≤ (a.length : Int)
  hi : (a.length : Int) ≤ 10
  isIn : ∀ i, 0 ≤ i → i < (a.length : Int) → In (pt a i)
  ne : ∀ i k, 0 ≤ k → k < i → i < (a.length : Int) → pt a k ≠ pt a i
  turn : ∀ i, 0 ≤ i → i < (a.length : Int) → turn (pt a i) (pt a (i + 1)) (pt a (i + 2)) ≠ 0
  apart : ∀ i k, 0 ≤ i → i + 2 ≤ k → k < (a.length : Int) → k - i < (a.length : Int) - 1 → ¬ Meet (pt a i) (pt a (i + 1)) (pt a k) (pt a (k + 1))
theorem in_all {a : List Pt} (h : ∀ i, 0 ≤ i → i < (a.length : Int) → In (pt a i)) (hn : a ≠ []) (i : Int) : In (pt a i) := by
  have hl : 0 < (a.length : Int) := by have := List.length_pos_iff.2 hn; omega
  have := h (i % a.length) (Int.emod_nonneg _ (by omega)) (Int.emod_lt_of_pos _ hl)
  rwa [pt_congr (Int.emod_emod_of_dvd _ (Int.dvd_refl _))] at this
theorem spec_pgIs_eq {L : Nat} {p : Pt} : (In p → spec_pgIs L p.x p.y = some true) ∧ (¬ In p → spec_pgIs L p.x p.y = some false) := by
  unfold spec_pgIs spec_l1In In
  simp only [gbind_eq, ile_eq]
  by_cases h1 : -40 ≤ p.x <;> by_cases h2 : p.x ≤ 40 <;> by_cases h3 : -40 ≤ p.y <;> by_cases h4 : p.y ≤ 40 <;> simp [h1, h2, h3, h4]
theorem impl_IsPeg_eq {L : Nat} {p : Pt} : (In p → impl_IsPeg L p.x p.y = some true) ∧ (¬ In p → impl_IsPeg L p.x p.y = some false) := by
  unfold impl_IsPeg impl_within In
  simp only [gbind_eq, ile_eq]
  by_cases h1 : -40 ≤ p.x <;> by_cases h2 : p.x ≤ 40 <;> by_cases h3 : -40 ≤ p.y <;> by_cases h4 : p.y ≤ 40 <;> simp [h1, h2, h3, h4]
theorem pt_eq_iff {p q : Pt} : (decide (p.x = q.x) && decide (p.y = q.y)) = true ↔ p = q := by
  cases p; cases q; simp
theorem lsub0 {a : List Pt} {i : Int} (h0 : 0 ≤ i) (h1 : i ≤ a.length) : lsub a 0 i = a.take i.toNat := by
  rw [lsub_eq]; simp
theorem lsub0_len {a : List Pt} {i : Int} (h0 : 0 ≤ i) (h1 : i ≤ a.length) : ilen (lsub (List.map ep a) 0 i) = i := by
  rw [lsub_eq, ilen_eq]; simp; omega
theorem lsub0_get {a : List Pt} {i j : Int} (h0 : 0 ≤ j) (hj : j < i) (h1 : i ≤ a.length) : lget (lsub a 0 i) j = some (pt a j) := by
  rw [lsub0 (by omega) h1, lget_eq, if_pos h0, List.getElem?_take, if_pos (by omega), pt_get h0 (by omega)]
theorem good_l1 {L : Nat} {κ0 : (List Pt) → Int → (List Pt) → Int → Int → Option Bool} {a v17 : List Pt} {v3 v18 i : Int} {p : Pt} (hi : 0 ≤ i) (hl : i ≤ a.length) (hs : (a.length : Int) ≤ 10) {m : Nat} (hm : i < m) :
    ((∃ j, 0 ≤ j ∧ j < i ∧ pt a j = p) → spec_pgGood_l1 L κ0 a v3 v17 v18 i p m 0 = some false) ∧ ((∀ j, 0 ≤ j → j < i → ¬ pt a j = p) → spec_pgGood_l1 L κ0 a v3 v17 v18 i p m 0 = κ0 a v3 v17 v18 (i + 1)) := by
  refine search (lo := 0) (n := i) (hi := i) (bad := fun j => pt a j = p) (Int.le_refl _) ?_ ?_ ?_ m 0 (Int.le_refl _) (by omega) (by omega) (by omega)
  · intro m v h0 _ h
    rw [spec_pgGood_l1]
    simp only [lsub0_len hi hl, ilt_eq, h, decide_false, cond_false, iadd_eq]
    rw [wr_id (by omega)]
  · intro m v h0 h hb
    rw [spec_pgGood_l1]
    simp only [lsub0_len hi hl, ilt_eq, h, decide_true, cond_true, lsub0_get h0 h hl, gbind_eq, Option.bind_some, ieq_eq, hb, Bool.and_self]
  · intro m v h0 h hb
    rw [spec_pgGood_l1]
    simp only [lsub0_len hi hl, ilt_eq, h, decide_true, cond_true, lsub0_get h0 h hl, gbind_eq, Option.bind_some, ieq_eq, iadd_eq]
    have : (decide (p.x = (pt a v).x) && decide (p.y = (pt a v).y)) = false := by
      rw [← Bool.not_eq_true, pt_eq_iff]; exact fun e => hb e.symm
    rw [this, cond_false, wr_id (by omega)]
theorem wr_s {i : Int} (h : -1000000 ≤ i ∧ i ≤ 1000000) : wr .i64 i = i := wr_id (by omega)
theorem good_l3 {L : Nat} {κ1 : (List Pt) → Int → (List Pt) → Int → Int → Option Bool} {a v40 : List Pt} {v41 i : Int} (hi : 0 ≤ i) (hil : i < a.length) (hs : (a.length : Int) ≤ 10) (hin : ∀ i, In (pt a i)) {m : Nat} (hm : (a.length : Int) - (i + 2) < m) (hm0 : 0 < m) :
    ((∃ k, i + 2 ≤ k ∧ k < (if i = 0 then (a.length : Int) - 1 else a.length) ∧ Meet (pt a i) (pt a (i + 1)) (pt a k) (pt a (k + 1))) → spec_pgGood_l3 L κ1 a a.length v40 v41 i (pt a i) (pt a (i + 1)) m (i + 2) = some false) ∧
    ((∀ k, i + 2 ≤ k → k < (if i = 0 then (a.length : Int) - 1 else a.length) → ¬ Meet (pt a i) (pt a (i + 1)) (pt a k) (pt a (k + 1))) → spec_pgGood_l3 L κ1 a a.length v40 v41 i (pt a i) (pt a (i + 1)) m (i + 2) = κ1 a a.length v40 v41 (i + 1)) := by
  have hne : a ≠ [] := by intro e; subst e; simp at hil; omega
  refine search (lo := i + 2) (n := if i = 0 then (a.length : Int) - 1 else a.length) (hi := 12) (bad := fun k => Meet (pt a i) (pt a (i + 1)) (pt a k) (pt a (k + 1))) (by split <;> omega) ?_ ?_ ?_ m (i + 2) (Int.le_refl _) (by omega) (by split <;> omega) hm0
  · intro m v h0 _ h
    rw [spec_pgGood_l3]
    simp only [ilt_eq, isub_eq, iadd_eq]
    rw [wr_s (i := v - i) (by omega), wr_s (i := (a.length : Int) - 1) (by omega), wr_s (i := i + 1) (by omega)]
    by_cases h1 : v < (a.length : Int)
    · have h2 : ¬ (v - i < (a.length : Int) - 1) := by split at h <;> omega
      simp only [h1, h2, decide_true, decide_false, cond_true, cond_false]
    · simp only [h1, decide_false, cond_false]
  · intro m v h0 h hb
    rw [spec_pgGood_l3]
    have h1 : v < (a.length : Int) := by split at h <;> omega
    have h2 : v - i < (a.length : Int) - 1 := by split at h <;> omega
    have h3 : ¬ ((a.length : Int) = 0) := by omega
    simp only [ilt_eq, isub_eq, iadd_eq, ieq_eq]
    rw [wr_s (i := v - i) (by omega), wr_s (i := (a.length : Int) - 1) (by omega), wr_s (i := v + 1) (by omega)]
    simp only [h1, h2, h3, decide_true, decide_false, cond_true, cond_false, gbind_eq, lget_pt (show 0 ≤ v by omega) h1, lget_rem (show 0 ≤ v + 1 by omega) hne, Option.bind_some]
    rw [spec_pgMeet_eq (hin _).nr (hin _).nr (hin _).nr (hin _).nr]
    simp [hb]
  · intro m v h0 h hb
    rw [spec_pgGood_l3]
    have h1 : v < (a.length : Int) := by split at h <;> omega
    have h2 : v - i < (a.length : Int) - 1 := by split at h <;> omega
    have h3 : ¬ ((a.length : Int) = 0) := by omega
    simp only [ilt_eq, isub_eq, iadd_eq, ieq_eq]
    rw [wr_s (i := v - i) (by omega), wr_s (i := (a.length : Int) - 1) (by omega), wr_s (i := v + 1) (by omega)]
    simp only [h1, h2, h3, decide_true, decide_false, cond_true, cond_false, gbind_eq, lget_pt (show 0 ≤ v by omega) h1, lget_rem (show 0 ≤ v + 1 by omega) hne, Option.bind_some]
    rw [spec_pgMeet_eq (hin _).nr (hin _).nr (hin _).nr (hin _).nr]
    simp [hb]
theorem good_l2 {L : Nat} {a : List Pt} (hn : 3 ≤ (a.length : Int)) (hs : (a.length : Int) ≤ 10) (hL : 20 < L) (hin : ∀ i, In (pt a i)) {m : Nat} (hm : (a.length : Int) < m) :
    ((∃ i, 0 ≤ i ∧ i < (a.length : Int) ∧ (turn (pt a i) (pt a (i + 1)) (pt a (i + 2)) = 0 ∨ ∃ k, i + 2 ≤ k ∧ k < (if i = 0 then (a.length : Int) - 1 else a.length) ∧ Meet (pt a i) (pt a (i + 1)) (pt a k) (pt a (k + 1)))) → spec_pgGood_l2 L m a a.length a a.length 0 = some false) ∧
    ((∀ i, 0 ≤ i → i < (a.length : Int) → ¬ (turn (pt a i) (pt a (i + 1)) (pt a (i + 2)) = 0 ∨ ∃ k, i + 2 ≤ k ∧ k < (if i = 0 then (a.length : Int) - 1 else a.length) ∧ Meet (pt a i) (pt a (i + 1)) (pt a k) (pt a (k + 1)))) → spec_pgGood_l2 L m a a.length a a.length 0 = some true) := by
  have hne : a ≠ [] := by intro e; subst e; simp at hn
  have h3 : ¬ ((a.length : Int) = 0) := by omega
  refine search (f := fun m v => spec_pgGood_l2 L m a a.length a a.length v) (lo := 0) (n := (a.length : Int)) (hi := 10)
    (bad := fun i => turn (pt a i) (pt a (i + 1)) (pt a (i + 2)) = 0 ∨ ∃ k, i + 2 ≤ k ∧ k < (if i = 0 then (a.length : Int) - 1 else a.length) ∧ Meet (pt a i) (pt a (i + 1)) (pt a k) (pt a (k + 1))) hs ?_ ?_ ?_ m 0 (Int.le_refl _) (by omega) (by omega) (by omega)
  · intro m v h0 _ h
    simp only [spec_pgGood_l2, ilt_eq, h, decide_false, cond_false]
  · intro m v h0 h hb
    simp only [spec_pgGood_l2, ilt_eq, ieq_eq, iadd_eq, h3, h, decide_true, decide_false, cond_true, cond_false, gbind_eq, wr_s (i := v + 1) (by omega), wr_s (i := v + 2) (by omega), lget_pt h0 h, lget_rem (show 0 ≤ v + 1 by omega) hne, lget_rem (show 0 ≤ v + 2 by omega) hne, Option.bind_some]
    rw [spec_pgTurn_eq (hin _).nr (hin _).nr (hin _).nr]
    simp only [Option.bind_some]
    by_cases ht : turn (pt a v) (pt a (v + 1)) (pt a (v + 2)) = 0
    · simp only [ht, decide_true, cond_true]
    · simp only [ht, decide_false, cond_false]
      exact (good_l3 h0 h hs hin (by omega) (by omega)).1 (hb.resolve_left ht)
  · intro m v h0 h hb
    simp only [spec_pgGood_l2, ilt_eq, ieq_eq, iadd_eq, h3, h, decide_true, decide_false, cond_true, cond_false, gbind_eq, wr_s (i := v + 1) (by omega), wr_s (i := v + 2) (by omega), lget_pt h0 h, lget_rem (show 0 ≤ v + 1 by omega) hne, lget_rem (show 0 ≤ v + 2 by omega) hne, Option.bind_some]
    rw [spec_pgTurn_eq (hin _).nr (hin _).nr (hin _).nr]
    simp only [Option.bind_some]
    have ht : ¬ turn (pt a v) (pt a (v + 1)) (pt a (v + 2)) = 0 := fun e => hb (.inl e)
    simp only [ht, decide_false, cond_false]
    exact (good_l3 h0 h hs hin (by omega) (by omega)).2 fun k h1 h2 h3 => hb (.inr ⟨k, h1, h2, h3⟩)
end Go.AM
namespace Go.AM
theorem good_l0 {L : Nat} {a : List Pt} (hn : 3 ≤ (a.length : Int)) (hs : (a.length : Int) ≤ 10) (hL : 20 < L) {m : Nat} (hm : (a.length : Int) < m) :
    ((∃ i, 0 ≤ i ∧ i < (a.length : Int) ∧ (¬ In (pt a i) ∨ ∃ k, 0 ≤ k ∧ k < i ∧ pt a k = pt a i)) → spec_pgGood_l0 L m a a.length a a.length 0 = some false) ∧
    ((∀ i, 0 ≤ i → i < (a.length : Int) → ¬ (¬ In (pt a i) ∨ ∃ k, 0 ≤ k ∧ k < i ∧ pt a k = pt a i)) → spec_pgGood_l0 L m a a.length a a.length 0 = spec_pgGood_l2 L L a a.length a a.length 0) := by
  refine search (f := fun m v => spec_pgGood_l0 L m a a.length a a.length v) (lo := 0) (n := (a.length : Int)) (hi := 10)
    (bad := fun i => ¬ In (pt a i) ∨ ∃ k, 0 ≤ k ∧ k < i ∧ pt a k = pt a i) hs ?_ ?_ ?_ m 0 (Int.le_refl _) (by omega) (by omega) (by omega)
  · intro m v h0 _ h
    simp only [spec_pgGood_l0, ilt_eq, h, decide_false, cond_false, ilen_mapep]
  · intro m v h0 h hb
    simp only [spec_pgGood_l0, ilt_eq, ile_eq, h, h0, ilen_mapep, show v ≤ (a.length : Int) by omega, decide_true, Bool.and_self, cond_true, gbind_eq, lget_pt h0 h, Option.bind_some]
    by_cases hi : In (pt a v)
    · rw [spec_pgIs_eq.1 hi]
      simp only [Option.bind_some, Bool.not_true, cond_false]
      obtain ⟨k, q1, q2, q3⟩ := hb.resolve_left fun h => h hi
      exact (good_l1 h0 (by omega) hs (by omega)).1 ⟨k, q1, q2, q3⟩
    · rw [spec_pgIs_eq.2 hi]
      simp only [Option.bind_some, Bool.not_false, cond_true]
  · intro m v h0 h hb
    simp only [spec_pgGood_l0, ilt_eq, ile_eq, h, h0, ilen_mapep, show v ≤ (a.length : Int) by omega, decide_true, Bool.and_self, cond_true, gbind_eq, lget_pt h0 h, Option.bind_some]
    have hi : In (pt a v) := Classical.byContradiction fun e => hb (.inl e)
    rw [spec_pgIs_eq.1 hi]
    simp only [Option.bind_some, Bool.not_true, cond_false]
    exact (good_l1 h0 (by omega) hs (by omega)).2 fun k q1 q2 q3 => hb (.inr ⟨k, q1, q2, q3⟩)
theorem spec_l1In_eq {L : Nat} {n lo hi : Int} : spec_l1In L n lo hi = some (decide (lo ≤ n ∧ n ≤ hi)) := by
  unfold spec_l1In
  simp only [ile_eq]
  by_cases h1 : lo ≤ n <;> by_cases h2 : n ≤ hi <;> simp [h1, h2]
theorem impl_within_eq {L : Nat} {n lo hi : Int} : impl_within L n lo hi = some (decide (lo ≤ n ∧ n ≤ hi)) := by
  unfold impl_within
  simp only [ile_eq]
  by_cases h1 : lo ≤ n <;> by_cases h2 : n ≤ hi <;> simp [h1, h2]
open Classical in
theorem spec_pgGood_eq {L : Nat} {a : List Pt} (hL : 20 < L) : spec_pgGood L a = some (decide (Good_ a)) := by
  unfold spec_pgGood
  simp only [ilen_mapep, spec_l1In_eq, gbind_eq, Option.bind_some]
  by_cases hn : 3 ≤ (a.length : Int) ∧ (a.length : Int) ≤ 10
  · simp only [hn, and_self, decide_true, Bool.not_true, cond_false]
    have hne : a ≠ [] := by intro e; subst e; simp at hn
    by_cases h0 : ∃ i, 0 ≤ i ∧ i < (a.length : Int) ∧ (¬ In (pt a i) ∨ ∃ k, 0 ≤ k ∧ k < i ∧ pt a k = pt a i)
    · rw [(good_l0 hn.1 hn.2 hL (by omega)).1 h0]
      have : ¬ Good_ a := fun g => by
        obtain ⟨i, q1, q2, q3⟩ := h0
        rcases q3 with q3 | ⟨k, q4, q5, q6⟩
        · exact q3 (g.isIn i q1 q2)
        · exact g.ne i k q4 q5 q2 q6
      simp [this]
    · have h0' : ∀ i, 0 ≤ i → i < (a.length : Int) → ¬ (¬ In (pt a i) ∨ ∃ k, 0 ≤ k ∧ k < i ∧ pt a k = pt a i) := fun i q1 q2 q3 => h0 ⟨i, q1, q2, q3⟩
      rw [(good_l0 hn.1 hn.2 hL (by omega)).2 h0']
      have hIn : ∀ i, 0 ≤ i → i < (a.length : Int) → In (pt a i) := fun i q1 q2 => Classical.byContradiction fun e => h0' i q1 q2 (.inl e)
      have hin := in_all hIn hne
      by_cases h1 : ∃ i, 0 ≤ i ∧ i < (a.length : Int) ∧ (turn (pt a i) (pt a (i + 1)) (pt a (i + 2)) = 0 ∨ ∃ k, i + 2 ≤ k ∧ k < (if i = 0 then (a.length : Int) - 1 else a.length) ∧ Meet (pt a i) (pt a (i + 1)) (pt a k) (pt a (k + 1)))
      · rw [(good_l2 hn.1 hn.2 hL hin (by omega)).1 h1]
        have : ¬ Good_ a := fun g => by
          obtain ⟨i, q1, q2, q3⟩ := h1
          rcases q3 with q3 | ⟨k, q4, q5, q6⟩
          · exact g.turn i q1 q2 q3
          · exact g.apart i k q1 q4 (by split at q5 <;> omega) (by split at q5 <;> omega) q6
        simp [this]
      · have h1' : ∀ i, 0 ≤ i → i < (a.length : Int) → ¬ (turn (pt a i) (pt a (i + 1)) (pt a (i + 2)) = 0 ∨ ∃ k, i + 2 ≤ k ∧ k < (if i = 0 then (a.length : Int) - 1 else a.length) ∧ Meet (pt a i) (pt a (i + 1)) (pt a k) (pt a (k + 1))) := fun i q1 q2 q3 => h1 ⟨i, q1, q2, q3⟩
        rw [(good_l2 hn.1 hn.2 hL hin (by omega)).2 h1']
        have : Good_ a := ⟨hn.1, hn.2, hIn, fun i k q1 q2 q3 q4 => h0' i (by omega) q3 (.inr ⟨k, q1, q2, q4⟩), fun i q1 q2 q3 => h1' i q1 q2 (.inl q3), fun i k q1 q2 q3 q4 q5 => h1' i q1 (by omega) (.inr ⟨k, q2, by split <;> omega, q5⟩)⟩
        simp [this]
  · have : ¬ Good_ a := fun g => hn ⟨g.lo, g.hi⟩
    simp only [hn, this, decide_false, Bool.not_false, cond_true]
theorem arePegs_eq {L : Nat} {a : List Pt} (hs : (a.length : Int) ≤ 1000000) (hL : (a.length : Int) < L) :
    ((∃ i, 0 ≤ i ∧ i < (a.length : Int) ∧ ¬ In (pt a i)) → impl_arePegs L a = some false) ∧ ((∀ i, 0 ≤ i → i < (a.length : Int) → In (pt a i)) → impl_arePegs L a = some true) := by
  have key : (∃ i, 0 ≤ i ∧ i < (a.length : Int) ∧ ¬ In (pt a i)) → ∃ i, 0 ≤ i ∧ slices_IndexFunc_impl_Peg_impl_Peg_arePegs_l0 L a L 0 = some i := by
    have : ∀ (m : Nat) (v : Int), 0 ≤ v → (a.length : Int) - v < m → (∃ i, v ≤ i ∧ i < (a.length : Int) ∧ ¬ In (pt a i)) → ∃ i, 0 ≤ i ∧ slices_IndexFunc_impl_Peg_impl_Peg_arePegs_l0 L a m v = some i := by
      intro m
      induction m with
      | zero => rintro v h0 h ⟨i, q1, q2, _⟩; omega
      | succ m ih =>
        rintro v h0 h ⟨i, q1, q2, q3⟩
        have hv : v < (a.length : Int) := by omega
        simp only [slices_IndexFunc_impl_Peg_impl_Peg_arePegs_l0, ilt_eq, ilen_mapep, hv, decide_true, cond_true, gbind_eq, lget_pt h0 hv, Option.bind_some, impl_arePegs_1]
        by_cases hi : In (pt a v)
        · rw [impl_IsPeg_eq.1 hi]
          simp only [Option.bind_some, Bool.not_true, cond_false, iadd_eq]
          rw [wr_s (by omega)]
          refine ih (v + 1) (by omega) (by omega) ⟨i, ?_, q2, q3⟩
          by_cases e : i = v
          · subst e; exact absurd hi q3
          · omega
        · rw [impl_IsPeg_eq.2 hi]
          exact ⟨v, h0, by simp⟩
    exact this L 0 (Int.le_refl _) (by omega)
  constructor
  · intro h
    obtain ⟨i, q1, q2⟩ := key h
    simp only [impl_arePegs, slices_ContainsFunc_impl_Peg_impl_Peg_arePegs, slices_IndexFunc_impl_Peg_impl_Peg_arePegs, gbind_eq, q2, Option.bind_some, ile_eq, q1, decide_true, Bool.not_true]
  · intro h
    have := (search (f := fun m v => slices_IndexFunc_impl_Peg_impl_Peg_arePegs_l0 L a m v) (r := none) (k := some (-1)) (lo := 0) (n := (a.length : Int)) (hi := (a.length : Int)) (bad := fun i => False) (Int.le_refl _) (fun m v h0 _ h => by
        simp only [slices_IndexFunc_impl_Peg_impl_Peg_arePegs_l0, ilt_eq, ilen_mapep, h, decide_false, cond_false]) (fun m v h0 h hb => hb.elim) (fun m v h0 hv _ => by
        simp only [slices_IndexFunc_impl_Peg_impl_Peg_arePegs_l0, ilt_eq, ilen_mapep, hv, decide_true, cond_true, gbind_eq, lget_pt h0 hv, Option.bind_some, impl_arePegs_1]
        rw [impl_IsPeg_eq.1 (h v h0 hv)]
        simp only [Option.bind_some, Bool.not_true, cond_false, iadd_eq]
        rw [wr_s (by omega)]) L 0 (Int.le_refl _) (by omega) (by omega) (by omega)).2 fun _ _ _ h => h
    simp only [impl_arePegs, slices_ContainsFunc_impl_Peg_impl_Peg_arePegs, slices_IndexFunc_impl_Peg_impl_Peg_arePegs, gbind_eq, this, Option.bind_some, ile_eq]
    rfl
theorem contains_eq {L : Nat} {b : List Pt} {p : Pt} (hs : (b.length : Int) ≤ 1000000) (hL : (b.length : Int) < L) :
    ((∃ j, 0 ≤ j ∧ j < (b.length : Int) ∧ pt b j = p) → slices_Contains_impl_Peg_impl_Peg L b p.x p.y = some true) ∧ ((∀ j, 0 ≤ j → j < (b.length : Int) → ¬ pt b j = p) → slices_Contains_impl_Peg_impl_Peg L b p.x p.y = some false) := by
  have heq : ∀ v, (decide (p.x = (pt b v).x) && decide (p.y = (pt b v).y)) = decide (pt b v = p) := fun v => by
    rw [Bool.eq_iff_iff, pt_eq_iff]
    simp [eq_comm]
  have key : (∃ j, 0 ≤ j ∧ j < (b.length : Int) ∧ pt b j = p) → ∃ i, 0 ≤ i ∧ slices_Index_impl_Peg_impl_Peg_l0 L b p.x p.y L 0 = some i := by
    have : ∀ (m : Nat) (v : Int), 0 ≤ v → (b.length : Int) - v < m → (∃ i, v ≤ i ∧ i < (b.length : Int) ∧ pt b i = p) → ∃ i, 0 ≤ i ∧ slices_Index_impl_Peg_impl_Peg_l0 L b p.x p.y m v = some i := by
      intro m
      induction m with
      | zero => rintro v h0 h ⟨i, q1, q2, _⟩; omega
      | succ m ih =>
        rintro v h0 h ⟨i, q1, q2, q3⟩
        have hv : v < (b.length : Int) := by omega
        simp only [slices_Index_impl_Peg_impl_Peg_l0, ilt_eq, ilen_mapep, hv, decide_true, cond_true, gbind_eq, lget_pt h0 hv, Option.bind_some, ieq_eq, heq]
        by_cases hi : pt b v = p
        · exact ⟨v, h0, by simp [hi]⟩
        · simp only [hi, decide_false, cond_false, iadd_eq]
          rw [wr_s (by omega)]
          refine ih (v + 1) (by omega) (by omega) ⟨i, ?_, q2, q3⟩
          by_cases e : i = v
          · subst e; exact absurd q3 hi
          · omega
    exact this L 0 (Int.le_refl _) (by omega)
  constructor
  · intro h
    obtain ⟨i, q1, q2⟩ := key h
    simp only [slices_Contains_impl_Peg_impl_Peg, slices_Index_impl_Peg_impl_Peg, gbind_eq, q2, Option.bind_some, ile_eq, q1, decide_true]
  · intro h
    have := (search (f := fun m v => slices_Index_impl_Peg_impl_Peg_l0 L b p.x p.y m v) (r := none) (k := some (-1)) (lo := 0) (n := (b.length : Int)) (hi := (b.length : Int)) (bad := fun i => False) (Int.le_refl _) (fun m v h0 _ h => by
        simp only [slices_Index_impl_Peg_impl_Peg_l0, ilt_eq, ilen_mapep, h, decide_false, cond_false]) (fun m v h0 h hb => hb.elim) (fun m v h0 hv _ => by
        simp only [slices_Index_impl_Peg_impl_Peg_l0, ilt_eq, ilen_mapep, hv, decide_true, cond_true, gbind_eq, lget_pt h0 hv, Option.bind_some, ieq_eq, heq, h v h0 hv, decide_false, cond_false, iadd_eq]
        rw [wr_s (by omega)]) L 0 (Int.le_refl _) (by omega) (by omega) (by omega)).2 fun _ _ _ h => h
    simp only [slices_Contains_impl_Peg_impl_Peg, slices_Index_impl_Peg_impl_Peg, gbind_eq, this, Option.bind_some, ile_eq]
    rfl
theorem pt_take {a : List Pt} {i j : Int} (h0 : 0 ≤ j) (hj : j < i) (h1 : i ≤ a.length) : pt (lsub a 0 i) j = pt a j := by
  have h2 := lsub0_get h0 hj h1
  have h3 : ((lsub a 0 i).length : Int) = i := by rw [lsub0 (by omega) h1]; simp; omega
  rw [lget_pt h0 (by omega)] at h2
  exact Option.some.inj h2
def BadM (a : List Pt) (i k : Int) : Prop := k + 1 ≠ i ∧ ¬ (i + 1 = (a.length : Int) ∧ k = 0) ∧ Meet (pt a k) (pt a (k + 1)) (pt a i) (pt a (i + 1))
theorem poly_l1 {L : Nat} {κ0 : (List Pt) → Int → (List Pt) → Int → Int → Option Bool} {a v17 : List Pt} {v18 i : Int} (hi : 0 ≤ i) (hil : i < a.length) (hs : (a.length : Int) ≤ 10) (hin : ∀ i, In (pt a i)) {m : Nat} (hm : i < m) :
    ((∃ k, 0 ≤ k ∧ k < i ∧ BadM a i k) → impl_IsPolygon_l1 L κ0 a a.length v17 v18 i (pt a i) m 0 = some false) ∧
    ((∀ k, 0 ≤ k → k < i → ¬ BadM a i k) → impl_IsPolygon_l1 L κ0 a a.length v17 v18 i (pt a i) m 0 = κ0 a a.length v17 v18 (i + 1)) := by
  have hne : a ≠ [] := by intro e; subst e; simp at hil; omega
  refine search (lo := 0) (n := i) (hi := i) (bad := BadM a i) (Int.le_refl _) ?_ ?_ ?_ m 0 (Int.le_refl _) (by omega) (by omega) (by omega)
  · intro m v h0 _ h
    simp only [impl_IsPolygon_l1, ilt_eq, h, decide_false, cond_false, iadd_eq]
    rw [wr_s (by omega)]
  · intro m v h0 h hb
    obtain ⟨b1, b2, b3⟩ := hb
    simp only [impl_IsPolygon_l1, ilt_eq, ieq_eq, iadd_eq, wr_s (i := v + 1) (by omega), wr_s (i := i + 1) (by omega), h, b1, decide_true, decide_false, cond_true, cond_false, gbind_eq,
      lget_pt h0 (show v < (a.length : Int) by omega), lget_pt (show 0 ≤ v + 1 by omega) (show v + 1 < (a.length : Int) by omega), impl_at_eq hne (show (a.length : Int) ≤ 1000000000 by omega), Option.bind_some]
    rw [impl_meet_eq (hin _).nr (hin _).nr (hin _).nr (hin _).nr]
    rw [decide_eq_true b3]
    by_cases c1 : i + 1 = (a.length : Int)
    · have c2 : ¬ v = 0 := fun e => b2 ⟨c1, e⟩
      simp [c1, c2]
    · simp [c1]
  · intro m v h0 h hb
    simp only [impl_IsPolygon_l1, ilt_eq, ieq_eq, iadd_eq, wr_s (i := v + 1) (by omega), wr_s (i := i + 1) (by omega), h, decide_true, decide_false, cond_true, cond_false, gbind_eq,
      lget_pt h0 (show v < (a.length : Int) by omega), lget_pt (show 0 ≤ v + 1 by omega) (show v + 1 < (a.length : Int) by omega), impl_at_eq hne (show (a.length : Int) ≤ 1000000000 by omega), Option.bind_some]
    rw [impl_meet_eq (hin _).nr (hin _).nr (hin _).nr (hin _).nr]
    by_cases c0 : v + 1 = i
    · simp only [c0, decide_true, cond_true]
    · simp only [c0, decide_false, cond_false]
      by_cases c1 : i + 1 = (a.length : Int)
      · by_cases c2 : v = 0
        · simp [c1, c2]
        · have b3 : ¬ Meet (pt a v) (pt a (v + 1)) (pt a i) (pt a (i + 1)) := fun e => hb ⟨c0, fun q => c2 q.2, e⟩
          simp [c1, c2]
          rw [← c1]
          simp [b3]
      · have b3 : ¬ Meet (pt a v) (pt a (v + 1)) (pt a i) (pt a (i + 1)) := fun e => hb ⟨c0, fun q => c1 q.1, e⟩
        simp [c1, b3]
theorem poly_l0 {L : Nat} {a : List Pt} (hn : 3 ≤ (a.length : Int)) (hs : (a.length : Int) ≤ 10) (hL : 20 < L) (hin : ∀ i, In (pt a i)) {m : Nat} (hm : (a.length : Int) < m) :
    ((∃ i, 0 ≤ i ∧ i < (a.length : Int) ∧ ((∃ k, 0 ≤ k ∧ k < i ∧ pt a k = pt a i) ∨ turn (pt a (i - 1)) (pt a i) (pt a (i + 1)) = 0 ∨ ∃ k, 0 ≤ k ∧ k < i ∧ BadM a i k)) → impl_IsPolygon_l0 L m a a.length a a.length 0 = some false) ∧
    ((∀ i, 0 ≤ i → i < (a.length : Int) → ¬ ((∃ k, 0 ≤ k ∧ k < i ∧ pt a k = pt a i) ∨ turn (pt a (i - 1)) (pt a i) (pt a (i + 1)) = 0 ∨ ∃ k, 0 ≤ k ∧ k < i ∧ BadM a i k)) → impl_IsPolygon_l0 L m a a.length a a.length 0 = some true) := by
  have hne : a ≠ [] := by intro e; subst e; simp at hn
  have hc : ∀ v, 0 ≤ v → v < (a.length : Int) → ((∃ k, 0 ≤ k ∧ k < v ∧ pt a k = pt a v) → slices_Contains_impl_Peg_impl_Peg L (lsub a 0 v) (pt a v).x (pt a v).y = some true) ∧ ((¬ ∃ k, 0 ≤ k ∧ k < v ∧ pt a k = pt a v) → slices_Contains_impl_Peg_impl_Peg L (lsub a 0 v) (pt a v).x (pt a v).y = some false) := by
    intro v h0 h
    have hl : ((lsub a 0 v).length : Int) = v := by rw [lsub0 (by omega) (by omega)]; simp; omega
    obtain ⟨h1, h2⟩ := contains_eq (L := L) (b := lsub a 0 v) (p := pt a v) (by omega) (by omega)
    rw [hl] at h1 h2
    refine ⟨fun ⟨k, q1, q2, q3⟩ => h1 ⟨k, q1, q2, by rw [pt_take q1 q2 (by omega)]; exact q3⟩, fun hno => h2 fun j q1 q2 q3 => hno ⟨j, q1, q2, ?_⟩⟩
    rwa [pt_take q1 q2 (by omega)] at q3
  refine search (f := fun m v => impl_IsPolygon_l0 L m a a.length a a.length v) (lo := 0) (n := (a.length : Int)) (hi := 10)
    (bad := fun i => (∃ k, 0 ≤ k ∧ k < i ∧ pt a k = pt a i) ∨ turn (pt a (i - 1)) (pt a i) (pt a (i + 1)) = 0 ∨ ∃ k, 0 ≤ k ∧ k < i ∧ BadM a i k) hs ?_ ?_ ?_ m 0 (Int.le_refl _) (by omega) (by omega) (by omega)
  · intro m v h0 _ h
    simp only [impl_IsPolygon_l0, ilt_eq, h, decide_false, cond_false]
  · intro m v h0 h hb
    simp only [impl_IsPolygon_l0, ilt_eq, ile_eq, isub_eq, iadd_eq, h, h0, ilen_mapep, show v ≤ (a.length : Int) by omega, decide_true, Bool.and_self, cond_true, gbind_eq, lget_pt h0 h, Option.bind_some, wr_s (i := v + 1) (by omega), wr_s (i := v - 1) (by omega),
      impl_at_eq hne (show (a.length : Int) ≤ 1000000000 by omega)]
    rw [impl_turn_eq (hin _).nr (hin _).nr (hin _).nr]
    by_cases c : ∃ k, 0 ≤ k ∧ k < v ∧ pt a k = pt a v
    · rw [(hc v h0 h).1 c]; rfl
    · rw [(hc v h0 h).2 c]
      simp only [Option.bind_some, cond_false, ieq_eq]
      by_cases t : turn (pt a (v - 1)) (pt a v) (pt a (v + 1)) = 0
      · simp only [t, decide_true, cond_true]
      · simp only [t, decide_false, cond_false]
        exact (poly_l1 h0 h hs hin (by omega)).1 ((hb.resolve_left c).resolve_left t)
  · intro m v h0 h hb
    simp only [impl_IsPolygon_l0, ilt_eq, ile_eq, isub_eq, iadd_eq, h, h0, ilen_mapep, show v ≤ (a.length : Int) by omega, decide_true, Bool.and_self, cond_true, gbind_eq, lget_pt h0 h, Option.bind_some, wr_s (i := v + 1) (by omega), wr_s (i := v - 1) (by omega),
      impl_at_eq hne (show (a.length : Int) ≤ 1000000000 by omega)]
    rw [impl_turn_eq (hin _).nr (hin _).nr (hin _).nr, (hc v h0 h).2 fun c => hb (.inl c)]
    have t : ¬ turn (pt a (v - 1)) (pt a v) (pt a (v + 1)) = 0 := fun e => hb (.inr (.inl e))
    simp only [Option.bind_some, cond_false, ieq_eq, t, decide_false]
    exact (poly_l1 h0 h hs hin (by omega)).2 fun k q1 q2 q3 => hb (.inr (.inr ⟨k, q1, q2, q3⟩))
open Classical in
theorem impl_IsPolygon_eq {L : Nat} {a : List Pt} (hL : 20 < L) : impl_IsPolygon L a = some (decide (Good_ a)) := by
  unfold impl_IsPolygon
  simp only [ilen_mapep, impl_within_eq, gbind_eq, Option.bind_some]
  by_cases hn : 3 ≤ (a.length : Int) ∧ (a.length : Int) ≤ 10
  · simp only [hn, and_self, decide_true, Bool.not_true, cond_false]
    have hne : a ≠ [] := by intro e; subst e; simp at hn
    have hl : 0 < (a.length : Int) := by omega
    by_cases hI : ∀ i, 0 ≤ i → i < (a.length : Int) → In (pt a i)
    · rw [(arePegs_eq (by omega) (by omega)).2 hI]
      simp only [Option.bind_some, Bool.not_true, cond_false]
      have hin := in_all hI hne
      by_cases h0 : ∃ i, 0 ≤ i ∧ i < (a.length : Int) ∧ ((∃ k, 0 ≤ k ∧ k < i ∧ pt a k = pt a i) ∨ turn (pt a (i - 1)) (pt a i) (pt a (i + 1)) = 0 ∨ ∃ k, 0 ≤ k ∧ k < i ∧ BadM a i k)
      · rw [(poly_l0 hn.1 hn.2 hL hin (by omega)).1 h0]
        have : ¬ Good_ a := fun g => by
          obtain ⟨i, q1, q2, q3⟩ := h0
          rcases q3 with ⟨k, q4, q5, q6⟩ | q3 | ⟨k, q4, q5, q6, q7, q8⟩
          · exact g.ne i k q4 q5 q2 q6
          · refine g.turn ((i - 1) % a.length) (Int.emod_nonneg _ (by omega)) (Int.emod_lt_of_pos _ hl) ?_
            rw [pt_congr (a := a) (i := (i - 1) % a.length) (j := i - 1) (Int.emod_emod_of_dvd _ (Int.dvd_refl _)), pt_congr (a := a) (i := (i - 1) % a.length + 1) (j := i) (by rw [Int.emod_add_emod]; congr 1; omega),
              pt_congr (a := a) (i := (i - 1) % a.length + 2) (j := i + 1) (by rw [Int.emod_add_emod]; congr 1; omega)]
            exact q3
          · exact g.apart k i q4 (by omega) q2 (by
              rcases Int.lt_or_le (i - k) ((a.length : Int) - 1) with h | h
              · exact h
              · exact absurd ⟨by omega, by omega⟩ q7) q8
        simp [this]
      · have h0' : ∀ i, 0 ≤ i → i < (a.length : Int) → ¬ ((∃ k, 0 ≤ k ∧ k < i ∧ pt a k = pt a i) ∨ turn (pt a (i - 1)) (pt a i) (pt a (i + 1)) = 0 ∨ ∃ k, 0 ≤ k ∧ k < i ∧ BadM a i k) := fun i q1 q2 q3 => h0 ⟨i, q1, q2, q3⟩
        rw [(poly_l0 hn.1 hn.2 hL hin (by omega)).2 h0']
        have : Good_ a := ⟨hn.1, hn.2, hI, fun i k q1 q2 q3 q4 => h0' i (by omega) q3 (.inl ⟨k, q1, q2, q4⟩), fun i q1 q2 q3 => by
            refine h0' ((i + 1) % a.length) (Int.emod_nonneg _ (by omega)) (Int.emod_lt_of_pos _ hl) (.inr (.inl ?_))
            rw [pt_congr (a := a) (i := (i + 1) % a.length - 1) (j := i) (by rw [Int.emod_sub_emod]; congr 1; omega), pt_congr (a := a) (i := (i + 1) % a.length) (j := i + 1) (Int.emod_emod_of_dvd _ (Int.dvd_refl _)),
              pt_congr (a := a) (i := (i + 1) % a.length + 1) (j := i + 2) (by rw [Int.emod_add_emod]; congr 1; omega)]
            exact q3, fun i k q1 q2 q3 q4 q5 => h0' k (by omega) q3 (.inr (.inr ⟨i, q1, by omega, by omega, fun q => by omega, q5⟩))⟩
        simp [this]
    · have : ¬ Good_ a := fun g => hI g.isIn
      rw [(arePegs_eq (by omega) (by omega)).1 (by
        refine Classical.byContradiction fun h => hI fun i q1 q2 => Classical.byContradiction fun e => h ⟨i, q1, q2, e⟩)]
      simp [this]
  · have : ¬ Good_ a := fun g => hn ⟨g.lo, g.hi⟩
    simp only [hn, this, decide_false, Bool.not_false, cond_true]
end Go.AM
namespace Go.AM
def sm (g : Int → Int) : Nat → Int
  | 0 => 0
  | k + 1 => sm g k + g k
theorem sm_bd {g : Int → Int} {B : Int} (h : ∀ i, -B ≤ g i ∧ g i ≤ B) : ∀ k : Nat, -(k * B) ≤ sm g k ∧ sm g k ≤ k * B
  | 0 => by simp [sm]
  | k + 1 => by
    have h1 := sm_bd h k
    have h2 := h k
    simp only [sm]
    have : ((k + 1 : Nat) : Int) * B = k * B + B := by rw [Int.natCast_add, Int.add_mul]; simp
    omega
theorem sm_congr {g h : Int → Int} : ∀ {k : Nat}, (∀ i : Int, 0 ≤ i → i < k → g i = h i) → sm g k = sm h k
  | 0, _ => rfl
  | k + 1, hh => by simp only [sm]; rw [sm_congr fun i h1 h2 => hh i h1 (by omega), hh k (by omega) (by omega)]
theorem accum {β : Type} {f : Nat → Int → Int → Option β} {S : Int → Int} {r : Option β} {lo n : Int} (hstop : ∀ m, f (m + 1) (S n) n = r) (hgo : ∀ m v, lo ≤ v → v < n → f (m + 1) (S v) v = f m (S (v + 1)) (v + 1)) :
    ∀ (m : Nat) (v : Int), lo ≤ v → v ≤ n → n - v < m → f m (S v) v = r := by
  intro m
  induction m with
  | zero => intro v _ _ h; omega
  | succ m ih =>
    intro v hv hvn hm
    by_cases h : v < n
    · rw [hgo m v hv h]; exact ih (v + 1) (by omega) (by omega) (by omega)
    · have : v = n := by omega
      subst this
      exact hstop m
def cross (p q : Pt) : Int := p.x * q.y - p.y * q.x
theorem cross_bd {p q : Pt} (hp : Nr p) (hq : Nr q) : -2000000 ≤ cross p q ∧ cross p q ≤ 2000000 := by
  have h1 := mul_bd hp.1 hq.2
  have h2 := mul_bd hp.2 hq.1
  unfold cross
  omega
theorem impl_cross_eq {L : Nat} {p q : Pt} (hp : Nr p) (hq : Nr q) : impl_cross L p.x p.y q.x q.y = some (cross p q) := by
  have h1 := mul_bd hp.1 hq.2
  have h2 := mul_bd hp.2 hq.1
  unfold impl_cross cross
  simp only [isub_eq, imul_eq]
  rw [wr_id (n := p.x * q.y) (by omega), wr_id (n := p.y * q.x) (by omega), wr_id (by omega)]
theorem turn_cross (a b c : Pt) : turn a b c = cross a b + cross b c - cross a c := by unfold turn cross; grind
def area (a : List Pt) : Int := sm (fun i => cross (pt a i) (pt a (i + 1))) a.length
theorem impl_twice_eq {L : Nat} {a : List Pt} (hn : a ≠ []) (hs : (a.length : Int) ≤ 1000) (hL : (a.length : Int) < L) (hin : ∀ i, Nr (pt a i)) : impl_twice L a = some (area a) := by
  unfold impl_twice
  have := accum (f := fun m s v => impl_twice_l0 L a m s v) (S := fun v => sm (fun i => cross (pt a i) (pt a (i + 1))) v.toNat) (r := some (area a)) (lo := 0) (n := a.length) (fun m => by
    simp only [impl_twice_l0, ilt_eq, ilen_mapep, Int.lt_irrefl, decide_false, cond_false]; rfl) (fun m v h0 h => by
    simp only [impl_twice_l0, ilt_eq, ilen_mapep, h, decide_true, cond_true, gbind_eq, lget_pt h0 h, Option.bind_some, iadd_eq, wr_s (i := v + 1) (by omega), impl_at_eq hn (show (a.length : Int) ≤ 1000000000 by omega)]
    rw [impl_cross_eq (hin _) (hin _)]
    simp only [Option.bind_some]
    have h1 := sm_bd (fun i => cross_bd (hin i) (hin (i + 1))) v.toNat
    have h2 := cross_bd (hin v) (hin (v + 1))
    have h3 : (v.toNat : Int) * 2000000 ≤ 1000 * 2000000 := by omega
    rw [wr_id (by omega)]
    congr 1
    rw [show (v + 1).toNat = v.toNat + 1 by omega]
    simp only [sm]
    rw [Int.toNat_of_nonneg h0]) L 0 (Int.le_refl _) (by omega) (by omega)
  exact this
theorem fan_area (a : List Pt) (hn : 2 ≤ (a.length : Int)) : sm (fun i => turn (pt a 0) (pt a (i + 1)) (pt a (i + 2))) (a.length - 2) = area a := by
  have key : ∀ k : Nat, sm (fun i => turn (pt a 0) (pt a (i + 1)) (pt a (i + 2))) k + cross (pt a 0) (pt a (k + 1)) = sm (fun i => cross (pt a i) (pt a (i + 1))) (k + 1) := by
    intro k
    induction k with
    | zero => simp [sm]
    | succ k ih =>
      simp only [sm] at ih ⊢
      rw [turn_cross]
      have e1 : ((k + 1 : Nat) : Int) = (k : Int) + 1 := by omega
      have e2 : (k : Int) + 1 + 1 = (k : Int) + 2 := by omega
      rw [e1, e2]
      omega
  have h := key (a.length - 2)
  unfold area
  have e : a.length = (a.length - 2) + 1 + 1 := by omega
  conv => rhs; rw [e]
  simp only [sm] at h ⊢
  have e1 : (((a.length - 2 + 1 : Nat) : Int) + 1) = (a.length : Int) := by omega
  have e2 : (((a.length - 2 : Nat) : Int) + 1) = ((a.length - 2 + 1 : Nat) : Int) := by omega
  rw [e1]
  rw [e2] at h
  have e3 : pt a (a.length : Int) = pt a 0 := pt_congr (by simp)
  rw [e3]
  have e4 : cross (pt a ((a.length - 2 + 1 : Nat) : Int)) (pt a 0) = - cross (pt a 0) (pt a ((a.length - 2 + 1 : Nat) : Int)) := by unfold cross; grind
  rw [e4]
  rw [← e2] at h ⊢
  omega
theorem spec_pgArea_eq {L : Nat} {a : List Pt} (hn : 2 ≤ (a.length : Int)) (hs : (a.length : Int) ≤ 1000) (hL : (a.length : Int) < L) (hin : ∀ i, Nr (pt a i)) : spec_pgArea L a = some (area a) := by
  unfold spec_pgArea
  have := accum (f := fun m s v => spec_pgArea_l0 L a m s v) (S := fun v => sm (fun i => turn (pt a 0) (pt a (i + 1)) (pt a (i + 2))) (v - 2).toNat) (r := some (area a)) (lo := 2) (n := a.length) (fun m => by
    simp only [spec_pgArea_l0, ilt_eq, ilen_mapep, Int.lt_irrefl, decide_false, cond_false]
    rw [← fan_area a hn, show ((a.length : Int) - 2).toNat = a.length - 2 by omega]) (fun m v h0 h => by
    simp only [spec_pgArea_l0, ilt_eq, ilen_mapep, h, decide_true, cond_true, gbind_eq, lget_pt (show 0 ≤ v by omega) h, lget_pt (Int.le_refl 0) (show 0 < (a.length : Int) by omega), Option.bind_some, iadd_eq, isub_eq, wr_s (i := v + 1) (by omega), wr_s (i := v - 1) (by omega),
      lget_pt (show 0 ≤ v - 1 by omega) (show v - 1 < (a.length : Int) by omega)]
    rw [spec_pgTurn_eq (hin _) (hin _) (hin _)]
    simp only [Option.bind_some]
    have h1 := sm_bd (fun i => turn_bd (hin 0) (hin (i + 1)) (hin (i + 2))) (v - 2).toNat
    have h2 := turn_bd (hin 0) (hin (v - 1)) (hin v)
    have h3 : ((v - 2).toNat : Int) * 8000000 ≤ 1000 * 8000000 := by omega
    rw [wr_id (by omega)]
    congr 1
    rw [show (v + 1 - 2).toNat = (v - 2).toNat + 1 by omega]
    simp only [sm]
    rw [show (((v - 2).toNat : Nat) : Int) + 1 = v - 1 by omega, show (((v - 2).toNat : Nat) : Int) + 2 = v by omega]) L 2 (Int.le_refl _) (by omega) (by omega)
  exact this
end Go.AM
namespace Go.AM
theorem impl_size_eq {L : Nat} {n : Int} (h : -1000000000 ≤ n ∧ n ≤ 1000000000) : impl_size L n = some (n.natAbs : Int) := by
  unfold impl_size
  simp only [imax_eq, isub_eq]
  rw [wr_id (by omega)]
  congr 1
  split <;> omega
theorem spec_l1Abs_eq {L : Nat} {n : Int} (h : -1000000000 ≤ n ∧ n ≤ 1000000000) : spec_l1Abs L n = some (n.natAbs : Int) := by
  unfold spec_l1Abs spec_l1Most
  simp only [ilt_eq, isub_eq, gbind_eq]
  rw [wr_id (by omega)]
  by_cases h1 : 0 - n < n
  · simp only [h1, decide_true, cond_true, Option.bind_some]; congr 1; omega
  · simp only [h1, decide_false, cond_false, Option.bind_some]; congr 1; omega
theorem divisor_l0 {L : Nat} : ∀ (m : Nat) (u v : Int), (-1000000000 ≤ u ∧ u ≤ 1000000000) → (-1000000000 ≤ v ∧ v ≤ 1000000000) → v.natAbs < m → impl_divisor_l0 L m u v = some (Nat.gcd u.natAbs v.natAbs : Int)
  | 0, _, _, _, _, h => by omega
  | m + 1, u, v, hu, hv, hm => by
    simp only [impl_divisor_l0, ieq_eq]
    by_cases h0 : v = 0
    · subst h0
      simp only [decide_true, Bool.not_true, cond_false, impl_size_eq hu, gbind_eq, Option.bind_some]
      simp
    · simp only [h0, decide_false, Bool.not_false, cond_true, cond_false]
      have h1 : (irem u v).natAbs = u.natAbs % v.natAbs := by rw [irem_eq, Int.natAbs_tmod]
      have h2 := Nat.mod_lt u.natAbs (show 0 < v.natAbs by omega)
      rw [divisor_l0 m v (irem u v) hv (by omega) (by omega), h1]
      congr 2
      rw [Nat.gcd_comm u.natAbs, Nat.gcd_rec v.natAbs u.natAbs, Nat.gcd_comm]
theorem common_l0 {L : Nat} : ∀ (m : Nat) (u v : Nat), v < m → spec_pgCommon_l0 L m u v = some (Nat.gcd u v : Int)
  | 0, _, _, h => by omega
  | m + 1, u, v, hm => by
    simp only [spec_pgCommon_l0, ilt_eq, ieq_eq]
    by_cases h0 : v = 0
    · subst h0
      simp
    · have h1 : (0 : Int) < (v : Int) := by omega
      have h2 : ¬ ((v : Int) = 0) := by omega
      simp only [h1, h2, decide_true, decide_false, cond_true, cond_false]
      have h3 : irem (u : Int) (v : Int) = ((u % v : Nat) : Int) := by rw [irem_nn (by omega)]; simp
      have h4 := Nat.mod_lt u (show 0 < v by omega)
      rw [h3, common_l0 m v (u % v) (by omega)]
      congr 2
      rw [Nat.gcd_comm u v, Nat.gcd_rec v u, Nat.gcd_comm]
def step (p q : Pt) : Int := (Nat.gcd (p.x - q.x).natAbs (p.y - q.y).natAbs : Int)
theorem step_bd {p q : Pt} (hp : Nr p) (hq : Nr q) : -4000 ≤ step p q ∧ step p q ≤ 4000 := by
  have h := sub_bd hp hq
  unfold step
  have : Nat.gcd (p.x - q.x).natAbs (p.y - q.y).natAbs ≤ (p.x - q.x).natAbs + (p.y - q.y).natAbs := by
    by_cases h0 : (p.x - q.x).natAbs = 0
    · rw [h0]; simp
    · have := Nat.gcd_le_left (p.y - q.y).natAbs (show 0 < (p.x - q.x).natAbs by omega); omega
  omega
theorem impl_steps_eq {L : Nat} {p q : Pt} (hp : Nr p) (hq : Nr q) (hL : 3000 < L) : impl_steps L p.x p.y q.x q.y = some (step p q) := by
  have h := sub_bd hp hq
  unfold impl_steps impl_divisor
  simp only [isub_eq, gbind_eq]
  rw [wr_id (n := p.x - q.x) (by omega), wr_id (n := p.y - q.y) (by omega), divisor_l0 L _ _ (by omega) (by omega) (by omega)]
  rfl
theorem spec_pgStep_eq {L : Nat} {p q : Pt} (hp : Nr p) (hq : Nr q) (hL : 3000 < L) : spec_pgStep L p.x p.y q.x q.y = some (step p q) := by
  have h := sub_bd hp hq
  unfold spec_pgStep spec_pgCommon
  simp only [isub_eq, gbind_eq]
  rw [wr_id (n := p.x - q.x) (by omega), wr_id (n := p.y - q.y) (by omega), spec_l1Abs_eq (by omega), spec_l1Abs_eq (by omega)]
  simp only [Option.bind_some]
  rw [common_l0 L _ _ (by omega)]
  rfl
def round (a : List Pt) : Int := sm (fun i => step (pt a i) (pt a (i + 1))) a.length
theorem impl_around_eq {L : Nat} {a : List Pt} (hn : a ≠ []) (hs : (a.length : Int) ≤ 1000) (hL : 3000 < L) (hin : ∀ i, Nr (pt a i)) : impl_around L a = some (round a) := by
  unfold impl_around
  have := accum (f := fun m s v => impl_around_l0 L a m s v) (S := fun v => sm (fun i => step (pt a i) (pt a (i + 1))) v.toNat) (r := some (round a)) (lo := 0) (n := a.length) (fun m => by
    simp only [impl_around_l0, ilt_eq, ilen_mapep, Int.lt_irrefl, decide_false, cond_false]; rfl) (fun m v h0 h => by
    simp only [impl_around_l0, ilt_eq, ilen_mapep, h, decide_true, cond_true, gbind_eq, lget_pt h0 h, Option.bind_some, iadd_eq, wr_s (i := v + 1) (by omega), impl_at_eq hn (show (a.length : Int) ≤ 1000000000 by omega)]
    rw [impl_steps_eq (hin _) (hin _) hL]
    simp only [Option.bind_some]
    have h1 := sm_bd (fun i => step_bd (hin i) (hin (i + 1))) v.toNat
    have h2 := step_bd (hin v) (hin (v + 1))
    have h3 : (v.toNat : Int) * 4000 ≤ 1000 * 4000 := by omega
    rw [wr_id (by omega)]
    congr 1
    rw [show (v + 1).toNat = v.toNat + 1 by omega]
    simp only [sm]
    rw [Int.toNat_of_nonneg h0]) L 0 (Int.le_refl _) (by omega) (by omega)
  exact this
theorem spec_pgRound_eq {L : Nat} {a : List Pt} (hn : a ≠ []) (hs : (a.length : Int) ≤ 1000) (hL : 3000 < L) (hin : ∀ i, Nr (pt a i)) : spec_pgRound L a = some (round a) := by
  have h3 : ¬ ((a.length : Int) = 0) := by have := List.length_pos_iff.2 hn; omega
  unfold spec_pgRound
  have := accum (f := fun m s v => spec_pgRound_l0 L a m s v) (S := fun v => sm (fun i => step (pt a i) (pt a (i + 1))) v.toNat) (r := some (round a)) (lo := 0) (n := a.length) (fun m => by
    simp only [spec_pgRound_l0, ilt_eq, ilen_mapep, Int.lt_irrefl, decide_false, cond_false]; rfl) (fun m v h0 h => by
    simp only [spec_pgRound_l0, ilt_eq, ieq_eq, ilen_mapep, h, h3, decide_true, decide_false, cond_true, cond_false, gbind_eq, lget_pt h0 h, Option.bind_some, iadd_eq, wr_s (i := v + 1) (by omega), lget_rem (show 0 ≤ v + 1 by omega) hn]
    rw [spec_pgStep_eq (hin _) (hin _) hL]
    simp only [Option.bind_some]
    have h1 := sm_bd (fun i => step_bd (hin i) (hin (i + 1))) v.toNat
    have h2 := step_bd (hin v) (hin (v + 1))
    have h3 : (v.toNat : Int) * 4000 ≤ 1000 * 4000 := by omega
    rw [wr_id (by omega)]
    congr 1
    rw [show (v + 1).toNat = v.toNat + 1 by omega]
    simp only [sm]
    rw [Int.toNat_of_nonneg h0]) L 0 (Int.le_refl _) (by omega) (by omega)
  exact this
theorem area_bd {a : List Pt} (hs : (a.length : Int) ≤ 100) (hin : ∀ i, Nr (pt a i)) : -200000000 ≤ area a ∧ area a ≤ 200000000 := by
  have h1 := sm_bd (fun i => cross_bd (hin i) (hin (i + 1))) a.length
  unfold area
  omega
noncomputable def inside (a : List Pt) : Int := wr .i64 (((wr .i64 (wr .i64 ((area a).natAbs + 2) - round a))).tdiv 2)
theorem inner_eq {L : Nat} {a : List Pt} (hn : 2 ≤ (a.length : Int)) (hs : (a.length : Int) ≤ 100) (hL : 3000 < L) (hin : ∀ i, Nr (pt a i)) : spec_pgInside L a = some (inside a) ∧ impl_inner L a = some (inside a) := by
  have hne : a ≠ [] := by intro e; subst e; simp at hn
  have hb := area_bd hs hin
  constructor
  · unfold spec_pgInside inside
    rw [spec_pgArea_eq hn (by omega) (by omega) hin]
    simp only [gbind_eq, Option.bind_some, spec_l1Abs_eq (show -1000000000 ≤ area a ∧ area a ≤ 1000000000 by omega), spec_pgRound_eq hne (show (a.length : Int) ≤ 1000 by omega) hL hin, ieq_eq, isub_eq, iadd_eq, iquo_eq]
    rfl
  · unfold impl_inner inside
    rw [impl_twice_eq hne (by omega) (by omega) hin]
    simp only [gbind_eq, Option.bind_some, impl_size_eq (show -1000000000 ≤ area a ∧ area a ≤ 1000000000 by omega), impl_around_eq hne (show (a.length : Int) ≤ 1000 by omega) hL hin, ieq_eq, isub_eq, iadd_eq, iquo_eq]
    rfl
end Go.AM
namespace Go.AM
theorem turn_swap (a b p : Pt) : turn b a p = - turn a b p := by unfold turn; grind
theorem mul_self_nn (x : Int) : 0 ≤ x * x := by
  rcases Int.le_total 0 x with h | h
  · exact Int.mul_nonneg h h
  · have := Int.mul_nonneg (show 0 ≤ -x by omega) (show 0 ≤ -x by omega); rw [Int.neg_mul_neg] at this; exact this
theorem on_of {a b p : Pt} (ht : turn a b p = 0) (h1 : (a.y - p.y) * (b.y - p.y) ≤ 0) (h2 : a.y ≠ b.y) : OnL a b p := by
  refine ⟨ht, ?_, h1⟩
  have e : ((a.x - p.x) * (b.x - p.x)) * ((b.y - a.y) * (b.y - a.y)) = ((b.x - a.x) * (b.x - a.x)) * ((a.y - p.y) * (b.y - p.y)) := by
    unfold turn at ht
    have e1 : (b.x - a.x) * (p.y - a.y) = (b.y - a.y) * (p.x - a.x) := by omega
    grind
  have h3 := mul_self_nn (b.x - a.x)
  have h4 : ((b.x - a.x) * (b.x - a.x)) * ((a.y - p.y) * (b.y - p.y)) ≤ 0 := Int.mul_nonpos_of_nonneg_of_nonpos h3 h1
  have h5 : 0 < (b.y - a.y) * (b.y - a.y) := by
    have := mul_self_nn (b.y - a.y)
    rcases Int.lt_or_eq_of_le this with h | h
    · exact h
    · have := Int.mul_eq_zero.1 h.symm
      omega
  rw [← e] at h4
  rcases Int.le_total ((a.x - p.x) * (b.x - p.x)) 0 with h | h
  · exact h
  · rcases Int.lt_or_eq_of_le h with h | h
    · have := Int.mul_pos h h5
      omega
    · omega
end Go.AM
namespace Go.AM
def Less (p q : Pt) : Prop := p.x < q.x ∨ (p.x = q.x ∧ p.y < q.y)
instance (p q : Pt) : Decidable (Less p q) := by unfold Less; infer_instance
theorem Less.trans {p q r : Pt} (h : Less p q) (k : Less q r) : Less p r := by unfold Less at *; omega
theorem Less.irrefl (p : Pt) : ¬ Less p p := by unfold Less; omega
theorem not_less_eq {p q : Pt} (h : ¬ Less p q) (k : ¬ Less q p) : p = q := by
  unfold Less at *
  cases p; cases q
  simp only [Pt.mk.injEq] at *
  omega
theorem spec_pgLess_eq {L : Nat} {p q : Pt} : spec_pgLess L p.x p.y q.x q.y = some (decide (Less p q)) := by
  unfold spec_pgLess Less
  simp only [ilt_eq, ieq_eq]
  by_cases h1 : p.x < q.x <;> by_cases h2 : p.x = q.x <;> by_cases h3 : p.y < q.y <;> simp [h1, h2, h3]
def cmpI (a b : Int) : Int := if a < b then -1 else if b < a then 1 else 0
theorem cmp_eq {L : Nat} {a b : Int} : cmp_Compare_int L a b = some (cmpI a b) := by
  unfold cmp_Compare_int cmp_isNaN_int cmpI
  simp only [gbind_eq, ieq_eq, decide_true, Bool.not_true, Option.bind_some, cond_false, ilt_eq]
  by_cases h1 : a < b <;> by_cases h2 : b < a <;> simp [h1, h2]
def tour (a : List Pt) (k s : Int) (n : Nat) : List Pt := (List.range n).map fun (j : Nat) => pt a (k + (j : Int) * s)
theorem fits_s {n : Int} {b : Nat} (h : n * b ≤ 140737488355328) : fits n b = true := by rw [fits_eq]; exact decide_eq_true h
end Go.AM
namespace Go.AM
theorem tour_len (a : List Pt) (k s : Int) (n : Nat) : (tour a k s n).length = n := by simp [tour]
theorem back_l0 {L : Nat} {a : List Pt} (hn : a ≠ []) (hs : (a.length : Int) ≤ 900000) : ∀ (m : Nat) (v : Int), 0 ≤ v → v < a.length → v < m → spec_pgBack_l0 L a m v (tour a 0 (-1) (a.length - v.toNat)) = some (tour a 0 (-1) a.length)
  | 0, _, _, _, h => by omega
  | m + 1, v, h0, hv, hm => by
    by_cases h : 0 < v
    · simp only [spec_pgBack_l0, ilt_eq, ilen_mapep, h, decide_true, cond_true, gbind_eq, iadd_eq, isub_eq, lget_pt h0 hv, Option.bind_some, tour_len, wr_s (i := v - 1) (by omega)]
      rw [fits_s (by rw [ilen_eq]; simp; omega)]
      simp only [cond_true]
      have e : lcat (tour a 0 (-1) (a.length - v.toNat)) [pt a v] = tour a 0 (-1) (a.length - (v - 1).toNat) := by
        rw [lcat_eq, show a.length - (v - 1).toNat = (a.length - v.toNat) + 1 by omega]
        have : pt a v = pt a (0 + ((a.length - v.toNat : Nat) : Int) * (-1)) := by
          rw [show 0 + ((a.length - v.toNat : Nat) : Int) * (-1) = v - a.length by omega]
          exact pt_congr (by simp)
        rw [this]
        simp [tour, List.range_succ]
      rw [e]
      exact back_l0 hn hs m (v - 1) (by omega) (by omega) (by omega)
    · have e : v = 0 := by omega
      subst e
      simp only [spec_pgBack_l0, ilt_eq, h, decide_false, cond_false]
      rfl
theorem spec_pgBack_eq {L : Nat} {a : List Pt} (hn : a ≠ []) (hs : (a.length : Int) ≤ 900000) (hL : (a.length : Int) < L) : spec_pgBack L a = some (tour a 0 (-1) a.length) := by
  have hl : 0 < (a.length : Int) := by have := List.length_pos_iff.2 hn; omega
  unfold spec_pgBack
  simp only [gbind_eq, lget_pt (Int.le_refl 0) hl, Option.bind_some, ilen_mapep, isub_eq, wr_s (i := (a.length : Int) - 1) (by omega)]
  have := back_l0 (L := L) hn hs L ((a.length : Int) - 1) (by omega) (by omega) (by omega)
  have e : tour a 0 (-1) (a.length - ((a.length : Int) - 1).toNat) = [pt a 0] := by
    rw [show a.length - ((a.length : Int) - 1).toNat = 1 by omega]
    rfl
  rw [e] at this
  exact this
end Go.AM
namespace Go.AM
theorem pt_mod (a : List Pt) (i : Int) : pt a (i % (a.length : Int)) = pt a i := pt_congr (Int.emod_emod_of_dvd _ (Int.dvd_refl _))
end Go.AM
namespace Go.AM
theorem tdiv_bd {a b A : Int} (h : -A ≤ a ∧ a ≤ A) : -A ≤ a.tdiv b ∧ a.tdiv b ≤ A := by
  have h1 : (a.tdiv b).natAbs ≤ a.natAbs := by rw [Int.natAbs_tdiv]; exact Nat.div_le_self _ _
  omega
end Go.AM
namespace Go.AM
theorem step_pos {p q : Pt} (h : p ≠ q) : 0 < step p q := by
  unfold step
  have : 0 < Nat.gcd (p.x - q.x).natAbs (p.y - q.y).natAbs := by
    rw [Nat.gcd_pos_iff]
    by_cases hx : p.x = q.x
    · right
      have : p.y ≠ q.y := fun e => h (by cases p; cases q; simp_all)
      omega
    · left; omega
  omega
end Go.AM
namespace Go.AM
end Go.AM
namespace Go.AM
def tg (A B q : Pt) : Bool := decide ((A.y ≤ q.y ∧ q.y < B.y ∧ 0 < turn A B q) ∨ (B.y ≤ q.y ∧ q.y < A.y ∧ turn A B q < 0))
def par (a : List Pt) (q : Pt) (v : Int) : Nat → Bool
  | 0 => false
  | k + 1 => xor (tg (pt a v) (pt a (v + 1)) q) (par a q (v + 1) k)
theorem where_val_l0 {L : Nat} {a : List Pt} {q : Pt} (hn : a ≠ []) (hs : (a.length : Int) ≤ 1000) (hin : ∀ i, Nr (pt a i)) (hq : Nr q) : ∀ (m k : Nat) (v : Int) (s : Bool), 0 ≤ v → v + k = a.length → k < m →
    ∃ r, spec_pgWhere_l0 L a q.x q.y m s v = some r ∧ impl_where_l0 L a q.x q.y m (if s then 1 else -1) v = some r ∧
      ((∃ i, v ≤ i ∧ i < (a.length : Int) ∧ OnL (pt a i) (pt a (i + 1)) q) → r = 0) ∧ ((¬ ∃ i, v ≤ i ∧ i < (a.length : Int) ∧ OnL (pt a i) (pt a (i + 1)) q) → r = if xor s (par a q v k) then 1 else -1)
  | 0, _, _, _, _, _, h => by omega
  | m + 1, 0, v, s, h0, hv, hm => by
    have h : ¬ v < (a.length : Int) := by omega
    simp only [spec_pgWhere_l0, impl_where_l0, ilt_eq, ilen_mapep, h, decide_false, cond_false]
    have hno : ¬ ∃ i, v ≤ i ∧ i < (a.length : Int) ∧ OnL (pt a i) (pt a (i + 1)) q := fun ⟨i, h1, h2, _⟩ => by omega
    cases s
    · exact ⟨-1, rfl, rfl, fun h => absurd h hno, fun _ => by simp [par]⟩
    · exact ⟨1, rfl, rfl, fun h => absurd h hno, fun _ => by simp [par]⟩
  | m + 1, k + 1, v, s, h0, hv, hm => by
    have h3 : ¬ ((a.length : Int) = 0) := by have := List.length_pos_iff.2 hn; omega
    have h : v < (a.length : Int) := by omega
    have next : ∀ s' : Bool, ∃ r, spec_pgWhere_l0 L a q.x q.y m s' (v + 1) = some r ∧ impl_where_l0 L a q.x q.y m (if s' then 1 else -1) (v + 1) = some r ∧
      ((∃ i, v + 1 ≤ i ∧ i < (a.length : Int) ∧ OnL (pt a i) (pt a (i + 1)) q) → r = 0) ∧ ((¬ ∃ i, v + 1 ≤ i ∧ i < (a.length : Int) ∧ OnL (pt a i) (pt a (i + 1)) q) → r = if xor s' (par a q (v + 1) k) then 1 else -1) := fun s' =>
      where_val_l0 (L := L) hn hs hin hq m k (v + 1) s' (by omega) (by omega) (by omega)
    have eneg : wr .i64 (0 - (if s then 1 else -1)) = (if (!s) = true then 1 else -1) := by cases s <;> exact wr_id (by decide)
    simp only [spec_pgWhere_l0, impl_where_l0, ilt_eq, ile_eq, ieq_eq, iadd_eq, isub_eq, beqb_eq, ilen_mapep, h, h3, decide_true, decide_false, cond_true, cond_false, gbind_eq, wr_s (i := v + 1) (by omega), lget_pt h0 h, lget_rem (show 0 ≤ v + 1 by omega) hn,
      impl_at_eq hn (show (a.length : Int) ≤ 1000000000 by omega), Option.bind_some]
    rw [spec_pgOn_eq (hin _) (hin _) hq, impl_isOn_eq (hin _) (hin _) hq, spec_pgTurn_eq (hin _) (hin _) hq, spec_pgTurn_eq (hin _) (hin _) hq, impl_turn_eq (hin _) (hin _) hq]
    simp only [Option.bind_some, eneg]
    by_cases hO : OnL (pt a v) (pt a (v + 1)) q
    · exact ⟨0, by simp [hO], by simp [hO], fun _ => rfl, fun h' => absurd ⟨v, Int.le_refl _, h, hO⟩ h'⟩
    · -- what the rest tells
      have rest : ∀ s', s' = xor s (tg (pt a v) (pt a (v + 1)) q) → ∃ r, (spec_pgWhere_l0 L a q.x q.y m s' (v + 1) = some r ∧ impl_where_l0 L a q.x q.y m (if s' then 1 else -1) (v + 1) = some r) ∧
          ((∃ i, v ≤ i ∧ i < (a.length : Int) ∧ OnL (pt a i) (pt a (i + 1)) q) → r = 0) ∧ ((¬ ∃ i, v ≤ i ∧ i < (a.length : Int) ∧ OnL (pt a i) (pt a (i + 1)) q) → r = if xor s (par a q v (k + 1)) then 1 else -1) := by
        intro s' hs'
        obtain ⟨r, r1, r2, r3, r4⟩ := next s'
        refine ⟨r, ⟨r1, r2⟩, fun ⟨i, i0, i1, i2⟩ => r3 ⟨i, ?_, i1, i2⟩, fun hno => ?_⟩
        · by_cases hi : i = v
          · subst hi; exact absurd i2 hO
          · omega
        · rw [r4 fun ⟨i, i0, i1, i2⟩ => hno ⟨i, by omega, i1, i2⟩, hs']
          show _ = if xor s (xor (tg (pt a v) (pt a (v + 1)) q) (par a q (v + 1) k)) then 1 else -1
          rw [← Bool.xor_assoc]
      have fin : ∀ s' (X Y : Option Int), s' = xor s (tg (pt a v) (pt a (v + 1)) q) → X = spec_pgWhere_l0 L a q.x q.y m s' (v + 1) → Y = impl_where_l0 L a q.x q.y m (if s' then 1 else -1) (v + 1) →
          ∃ r, X = some r ∧ Y = some r ∧ ((∃ i, v ≤ i ∧ i < (a.length : Int) ∧ OnL (pt a i) (pt a (i + 1)) q) → r = 0) ∧ ((¬ ∃ i, v ≤ i ∧ i < (a.length : Int) ∧ OnL (pt a i) (pt a (i + 1)) q) → r = if xor s (par a q v (k + 1)) then 1 else -1) := by
        intro s' X Y hs' hX hY
        obtain ⟨r, ⟨r1, r2⟩, r3⟩ := rest s' hs'
        exact ⟨r, hX.trans r1, hY.trans r2, r3⟩
      clear rest next
      simp only [hO, decide_false, cond_false]
      have htg : tg (pt a v) (pt a (v + 1)) q = decide (((pt a v).y ≤ q.y ∧ q.y < (pt a (v + 1)).y ∧ 0 < turn (pt a v) (pt a (v + 1)) q) ∨ ((pt a (v + 1)).y ≤ q.y ∧ q.y < (pt a v).y ∧ turn (pt a v) (pt a (v + 1)) q < 0)) := by
        unfold tg; congr
      generalize tg (pt a v) (pt a (v + 1)) q = t at *
      generalize pt a v = A at *
      generalize pt a (v + 1) = B at *
      rw [turn_swap A B q]
      have hz : turn A B q = 0 → ¬ ((A.y - q.y) * (B.y - q.y) ≤ 0 ∧ A.y ≠ B.y) := fun e h => hO (on_of e h.1 h.2)
      rw [mul_le0] at hz
      have up : t = true → xor s t = !s := fun e => by subst e; simp
      have no : t = false → xor s t = s := fun e => by subst e; simp
      by_cases c1 : B.y < A.y
      · simp only [c1, decide_true, cond_true]
        by_cases c2 : B.y ≤ q.y
        · by_cases c3 : q.y < A.y
          · have c4 : ¬ q.y < B.y := by omega
            have c5 : ¬ A.y < B.y := by omega
            by_cases c6 : 0 < turn A B q
            · have c7 : ¬ turn A B q < 0 := by omega
              exact fin s _ _ (no (by rw [htg]; simp; omega)).symm (by simp [c2, c3, c7]) (by simp [c3, c4, c5, c6])
            · have c7 : turn A B q < 0 := by
                have : turn A B q ≠ 0 := fun e => hz e ⟨by omega, by omega⟩
                omega
              exact fin (!s) _ _ (up (by rw [htg]; simp; omega)).symm (by simp [c2, c3, c7]) (by simp [c3, c4, c5, c6])
          · have c4 : ¬ q.y < B.y := by omega
            exact fin s _ _ (no (by rw [htg]; simp; omega)).symm (by simp [c2, c3]) (by simp [c3, c4])
        · have c3 : q.y < A.y := by omega
          have c4 : q.y < B.y := by omega
          exact fin s _ _ (no (by rw [htg]; simp; omega)).symm (by simp [c2]) (by simp [c3, c4])
      · simp only [c1, decide_false, cond_false]
        by_cases c2 : A.y ≤ q.y
        · have c3 : ¬ q.y < A.y := by omega
          by_cases c4 : q.y < B.y
          · have c5 : A.y < B.y := by omega
            by_cases c6 : 0 < turn A B q
            · exact fin (!s) _ _ (up (by rw [htg]; simp; omega)).symm (by simp [c2, c4, c6]) (by simp [c3, c4, c5, c6])
            · exact fin s _ _ (no (by rw [htg]; simp; omega)).symm (by simp [c2, c4, c6]) (by simp [c3, c4, c5, c6])
          · exact fin s _ _ (no (by rw [htg]; simp; omega)).symm (by simp [c2, c4]) (by simp [c3, c4])
        · have c3 : q.y < A.y := by omega
          have c4 : q.y < B.y := by omega
          exact fin s _ _ (no (by rw [htg]; simp; omega)).symm (by simp [c2]) (by simp [c3, c4])
def Rim (a : List Pt) (q : Pt) : Prop := ∃ i, 0 ≤ i ∧ i < (a.length : Int) ∧ OnL (pt a i) (pt a (i + 1)) q
open Classical in
noncomputable def wh (a : List Pt) (q : Pt) : Int := if Rim a q then 0 else if par a q 0 a.length then 1 else -1
open Classical in
theorem where_val {L : Nat} {a : List Pt} {q : Pt} (hn : a ≠ []) (hs : (a.length : Int) ≤ 1000) (hin : ∀ i, Nr (pt a i)) (hq : Nr q) (hL : (a.length : Int) < L) : spec_pgWhere L a q.x q.y = some (wh a q) ∧ impl_where L a q.x q.y = some (wh a q) := by
  obtain ⟨r, r1, r2, r3, r4⟩ := where_val_l0 (L := L) hn hs hin hq L a.length 0 false (Int.le_refl _) (by omega) (by omega)
  have e : r = wh a q := by
    unfold wh
    by_cases h : Rim a q
    · rw [if_pos h]; exact r3 h
    · rw [if_neg h, r4 h]; simp
  subst e
  exact ⟨r1, r2⟩
end Go.AM
namespace Go.AM
def Pos (v : Pt) : Prop := 0 < v.x ∨ (v.x = 0 ∧ 0 < v.y)
def Neg (v : Pt) : Prop := v.x < 0 ∨ (v.x = 0 ∧ v.y < 0)
instance (v : Pt) : Decidable (Pos v) := by unfold Pos; infer_instance
instance (v : Pt) : Decidable (Neg v) := by unfold Neg; infer_instance
def dl (u v : Pt) : Int := if Neg u ∧ Pos v ∧ 0 < cross u v then 1 else if Pos u ∧ Neg v ∧ cross u v < 0 then -1 else 0
theorem dl_anti (u v : Pt) : dl v u = - dl u v := by
  have h : cross v u = - cross u v := by unfold cross; grind
  unfold dl
  rw [h]
  have n1 : ∀ w : Pt, Neg w → ¬ Pos w := fun w => by unfold Neg Pos; omega
  by_cases a1 : Neg u <;> by_cases a2 : Pos u <;> by_cases a3 : Neg v <;> by_cases a4 : Pos v <;> simp [a1, a2, a3, a4] <;>
    first
      | exact absurd a2 (n1 u a1)
      | exact absurd a4 (n1 v a3)
      | (by_cases b1 : 0 < cross u v <;> by_cases b2 : cross u v < 0 <;> simp [b1, b2] <;> omega)
      | skip
theorem pos_or_neg {v : Pt} (h : v ≠ ⟨0, 0⟩) : Pos v ∨ Neg v := by
  obtain ⟨x, y⟩ := v
  simp only [ne_eq, Pt.mk.injEq, not_and] at h
  unfold Pos Neg
  simp only
  by_cases hx : x = 0
  · have := h hx; omega
  · omega
theorem three_way (p q s : Pt) : cross q s * p.x + cross s p * q.x + cross p q * s.x = 0 ∧ cross q s * p.y + cross s p * q.y + cross p q * s.y = 0 := by
  unfold cross; constructor <;> grind
theorem sign_of {c : Int} {p w : Pt} (hp : Pos p) (hw : Pos w) (hx : c * p.x = w.x) (hy : c * p.y = w.y) : 0 < c := by
  unfold Pos at hp hw
  rcases Int.lt_trichotomy c 0 with h | h | h
  · exfalso
    rcases hp with hp | ⟨hp0, hp⟩
    · have := Int.mul_neg_of_neg_of_pos h hp; omega
    · rw [hp0] at hx
      have := Int.mul_neg_of_neg_of_pos h hp
      simp at hx; omega
  · subst h; simp at hx hy; omega
  · exact h
def comb (a : Int) (p : Pt) (b : Int) (q : Pt) : Pt := ⟨a * p.x + b * q.x, a * p.y + b * q.y⟩
theorem pos_comb {a b : Int} {p q : Pt} (ha : 0 < a) (hb : 0 ≤ b) (hp : Pos p) (hq : Pos q) : Pos (comb a p b q) := by
  unfold Pos comb at *
  simp only
  have bq : 0 ≤ b * q.x := by
    rcases hq with h | ⟨h, _⟩
    · exact Int.mul_nonneg hb (by omega)
    · rw [h]; simp
  rcases hp with h | ⟨h, h'⟩
  · left
    have := Int.mul_pos ha h
    omega
  · rw [h]
    simp only [Int.mul_zero, Int.zero_add]
    rcases Int.lt_or_eq_of_le bq with h1 | h1
    · exact .inl h1
    · right
      refine ⟨h1.symm, ?_⟩
      have := Int.mul_pos ha h'
      have bq' : 0 ≤ b * q.y := by
        rcases Int.mul_eq_zero.1 h1.symm with h2 | h2
        · rw [h2]; simp
        · rcases hq with h3 | ⟨_, h3⟩
          · omega
          · exact Int.mul_nonneg hb (by omega)
      omega
def ngt (v : Pt) : Pt := ⟨-v.x, -v.y⟩
theorem neg_ngt {v : Pt} : Neg v ↔ Pos (ngt v) := by unfold Neg Pos ngt; simp only; omega
theorem pos_ngt {v : Pt} : Pos v ↔ Neg (ngt v) := by unfold Neg Pos ngt; simp only; omega
theorem wedge {p q s : Pt} (hp : Pos p) (hq : Neg q) (hs : Neg s) (h1 : cross p q < 0) (h2 : 0 ≤ cross p s) : 0 < cross s q := by
  obtain ⟨e1, e2⟩ := three_way p q s
  have hw := pos_comb (a := -cross p q) (b := cross p s) (by omega) h2 (neg_ngt.1 hs) (neg_ngt.1 hq)
  refine sign_of hp hw ?_ ?_
  · have : cross s p = - cross p s := by unfold cross; grind
    have : cross q s = - cross s q := by unfold cross; grind
    unfold comb ngt; simp only; grind
  · have : cross s p = - cross p s := by unfold cross; grind
    have : cross q s = - cross s q := by unfold cross; grind
    unfold comb ngt; simp only; grind
end Go.AM
namespace Go.AM
structure NM (p q r s : Pt) : Prop where
  sx : p.x + r.x = q.x + s.x
  sy : p.y + r.y = q.y + s.y
  n1 : ¬ (cross p s = 0 ∧ p.x * s.x ≤ 0 ∧ p.y * s.y ≤ 0)
  n2 : ¬ (cross q r = 0 ∧ q.x * r.x ≤ 0 ∧ q.y * r.y ≤ 0)
  n3 : ¬ (cross p q = 0 ∧ p.x * q.x ≤ 0 ∧ p.y * q.y ≤ 0)
  n4 : ¬ (cross s r = 0 ∧ s.x * r.x ≤ 0 ∧ s.y * r.y ≤ 0)
  n5 : ¬ (((cross p q < 0 ∧ 0 < cross s r) ∨ (0 < cross p q ∧ cross s r < 0)) ∧ ((cross p s < 0 ∧ 0 < cross q r) ∨ (0 < cross p s ∧ cross q r < 0)))
theorem cross_anti (u v : Pt) : cross v u = - cross u v := by unfold cross; grind
theorem NM.rot {p q r s : Pt} (h : NM p q r s) : NM q r s p := by
  have e1 := cross_anti q p; have e2 := cross_anti r s
  have h1 := h.n1; have h2 := h.n2; have h3 := h.n3; have h4 := h.n4; have h5 := h.n5
  refine ⟨by have := h.sx; omega, by have := h.sy; omega, ?_, ?_, ?_, ?_, ?_⟩
  · rw [cross_anti p q, Int.mul_comm q.x, Int.mul_comm q.y]; intro ⟨a, b⟩; exact h3 ⟨by omega, b⟩
  · rw [cross_anti s r, Int.mul_comm r.x, Int.mul_comm r.y]; intro ⟨a, b⟩; exact h4 ⟨by omega, b⟩
  · exact h2
  · exact h1
  · intro ⟨a, b⟩
    rw [cross_anti p q, cross_anti s r] at b
    exact h5 ⟨by omega, by omega⟩
theorem NM.swap {p q r s : Pt} (h : NM p q r s) : NM p s r q :=
  ⟨by have := h.sx; omega, by have := h.sy; omega, h.n3, h.n4, h.n1, h.n2, fun ⟨a, b⟩ => h.n5 ⟨b, a⟩⟩
theorem cross_ngt (u v : Pt) : cross (ngt u) (ngt v) = cross u v := by unfold cross ngt; grind
theorem NM.ngt {p q r s : Pt} (h : NM p q r s) : NM (ngt p) (ngt q) (ngt r) (ngt s) := by
  have hm : ∀ u v : Pt, (AM.ngt u).x * (AM.ngt v).x = u.x * v.x ∧ (AM.ngt u).y * (AM.ngt v).y = u.y * v.y := fun u v => by unfold AM.ngt; simp only; constructor <;> grind
  refine ⟨by have := h.sx; unfold AM.ngt; simp only; omega, by have := h.sy; unfold AM.ngt; simp only; omega, ?_, ?_, ?_, ?_, ?_⟩
  · rw [cross_ngt, (hm _ _).1, (hm _ _).2]; exact h.n1
  · rw [cross_ngt, (hm _ _).1, (hm _ _).2]; exact h.n2
  · rw [cross_ngt, (hm _ _).1, (hm _ _).2]; exact h.n3
  · rw [cross_ngt, (hm _ _).1, (hm _ _).2]; exact h.n4
  · simp only [cross_ngt]; exact h.n5
theorem opp {p q : Pt} (hp : Pos p) (hq : Neg q) (h : cross p q = 0) : p.x * q.x ≤ 0 ∧ p.y * q.y ≤ 0 := by
  unfold Pos Neg at *
  have e : p.x * q.y = p.y * q.x := by unfold cross at h; omega
  rcases hp with hp | ⟨hp0, hp⟩
  · rcases hq with hq | ⟨hq0, hq⟩
    · refine ⟨by have := Int.mul_neg_of_pos_of_neg hp hq; omega, ?_⟩
      have e2 : p.x * (p.y * q.y) = (p.y * p.y) * q.x := by grind
      have h1 := mul_self_nn p.y
      have h2 := Int.mul_nonpos_of_nonneg_of_nonpos h1 (show q.x ≤ 0 by omega)
      rcases Int.lt_or_le 0 (p.y * q.y) with h3 | h3
      · have := Int.mul_pos hp h3; omega
      · exact h3
    · exfalso
      rw [hq0] at e
      have := Int.mul_neg_of_pos_of_neg hp hq
      simp at e; omega
  · rw [hp0] at e ⊢
    simp only [Int.zero_mul] at e ⊢
    have hqx : q.x = 0 := by
      rcases Int.mul_eq_zero.1 e.symm with h1 | h1 <;> omega
    refine ⟨Int.le_refl _, ?_⟩
    have : q.y < 0 := by omega
    have := Int.mul_neg_of_pos_of_neg hp this
    omega
theorem cell1 {p q r s : Pt} (h : NM p q r s) (hp : Pos p) (hq : Neg q) (hs : Neg s) : cross p q < 0 → cross p s < 0 := by
  intro h1
  rcases Int.lt_or_le (cross p s) 0 with h2 | h2
  · exact h2
  · exfalso
    have w := wedge hp hq hs h1 h2
    have hr : r = ⟨q.x + s.x - p.x, q.y + s.y - p.y⟩ := by
      have := h.sx; have := h.sy; obtain ⟨a, b⟩ := r; simp only at *; congr 1 <;> omega
    have b1 : cross s r = cross s q + cross p s := by rw [hr]; unfold cross; grind
    have b2 : cross q r = cross p q - cross s q := by rw [hr]; unfold cross; grind
    rcases Int.lt_or_eq_of_le h2 with h3 | h3
    · exact h.n5 ⟨.inl ⟨h1, by omega⟩, .inr ⟨h3, by omega⟩⟩
    · exact h.n1 ⟨h3.symm, opp hp hs h3.symm⟩
theorem cell_1 {p q r s : Pt} (h : NM p q r s) (hp : Pos p) (hq : Neg q) (hs : Neg s) : (cross p q < 0 ↔ cross p s < 0) ∧ cross p q ≠ 0 ∧ cross p s ≠ 0 :=
  ⟨⟨cell1 h hp hq hs, cell1 h.swap hp hs hq⟩, fun e => h.n3 ⟨e, opp hp hq e⟩, fun e => h.n1 ⟨e, opp hp hs e⟩⟩
theorem cell2 {p q r s : Pt} (h : NM p q r s) (hp : Pos p) (hq : Pos q) (hr : Neg r) (hs : Neg s) : ¬ (cross q r < 0 ∧ 0 < cross p s) := by
  rintro ⟨k, g⟩
  have e1 : cross q r = cross q s + cross p q := by
    have hr' : r = ⟨q.x + s.x - p.x, q.y + s.y - p.y⟩ := by
      have := h.sx; have := h.sy; obtain ⟨a, b⟩ := r; simp only at *; congr 1 <;> omega
    rw [hr']; unfold cross; grind
  have e2 : cross q r = cross p r - cross s r := by
    have hq' : q = ⟨p.x + r.x - s.x, p.y + r.y - s.y⟩ := by
      have := h.sx; have := h.sy; obtain ⟨a, b⟩ := q; simp only at *; congr 1 <;> omega
    rw [hq']; unfold cross; grind
  have a1 : cross p q < 0 := by
    rcases Int.lt_or_le (cross p q) 0 with h1 | h1
    · exact h1
    · have hw := pos_comb (a := -cross q s) (b := cross p s) (by omega) (by omega) hp hq
      obtain ⟨t1, t2⟩ := three_way p q s
      have a := cross_anti p s
      have := sign_of (c := -cross p q) (neg_ngt.1 hs) hw (by unfold ngt comb; simp only; grind) (by unfold ngt comb; simp only; grind)
      omega
  have b1 : 0 < cross s r := by
    rcases Int.lt_or_le 0 (cross s r) with h1 | h1
    · exact h1
    · have hw := pos_comb (a := -cross p r) (b := cross p s) (by omega) (by omega) (neg_ngt.1 hs) (neg_ngt.1 hr)
      obtain ⟨t1, t2⟩ := three_way p r s
      have a := cross_anti p s
      have a' := cross_anti s r
      exact sign_of (c := cross s r) hp hw (by unfold ngt comb; simp only; grind) (by unfold ngt comb; simp only; grind)
  exact h.n5 ⟨.inl ⟨a1, b1⟩, .inr ⟨g, k⟩⟩
theorem cell_2 {p q r s : Pt} (h : NM p q r s) (hp : Pos p) (hq : Pos q) (hr : Neg r) (hs : Neg s) : (cross q r < 0 ↔ cross p s < 0) ∧ cross q r ≠ 0 ∧ cross p s ≠ 0 := by
  have z1 : cross q r ≠ 0 := fun e => h.n2 ⟨e, opp hq hr e⟩
  have z2 : cross p s ≠ 0 := fun e => h.n1 ⟨e, opp hp hs e⟩
  have k1 := cell2 h hp hq hr hs
  have h' : NM q p s r := h.swap.rot.rot.rot
  have k2 := cell2 h' hq hp hs hr
  refine ⟨?_, z1, z2⟩
  omega
theorem pos_not_neg {v : Pt} (h : Pos v) : ¬ Neg v := by unfold Pos Neg at *; omega
theorem dl_pp {u v : Pt} (h : Pos u) (k : Pos v) : dl u v = 0 := by unfold dl; simp [pos_not_neg h, pos_not_neg k]
theorem neg_not_pos {v : Pt} (h : Neg v) : ¬ Pos v := fun k => pos_not_neg k h
theorem dl_nn {u v : Pt} (h : Neg u) (k : Neg v) : dl u v = 0 := by unfold dl; simp [neg_not_pos h, neg_not_pos k]
theorem dl_pn {u v : Pt} (h : Pos u) (k : Neg v) : dl u v = if cross u v < 0 then -1 else 0 := by unfold dl; simp [h, k, pos_not_neg h]
theorem dl_np {u v : Pt} (h : Neg u) (k : Pos v) : dl u v = if 0 < cross u v then 1 else 0 := by unfold dl; simp [h, k, neg_not_pos h]
theorem sum1 {p q r s : Pt} (h : NM p q r s) (hp : Pos p) (hq : Neg q) (hr : Neg r) (hs : Neg s) : dl p q + dl q r + dl r s + dl s p = 0 := by
  rw [dl_pn hp hq, dl_nn hq hr, dl_nn hr hs, dl_np hs hp, cross_anti p s]
  obtain ⟨k1, k2, k3⟩ := cell_1 h hp hq hs
  split <;> split <;> omega
theorem sum1n {p q r s : Pt} (h : NM p q r s) (hp : Neg p) (hq : Pos q) (hr : Pos r) (hs : Pos s) : dl p q + dl q r + dl r s + dl s p = 0 := by
  rw [dl_np hp hq, dl_pp hq hr, dl_pp hr hs, dl_pn hs hp, cross_anti p s]
  obtain ⟨k1, k2, k3⟩ := cell_1 h.ngt (neg_ngt.1 hp) (pos_ngt.1 hq) (pos_ngt.1 hs)
  rw [cross_ngt, cross_ngt] at k1
  rw [cross_ngt] at k2 k3
  split <;> split <;> omega
theorem sum2 {p q r s : Pt} (h : NM p q r s) (hp : Pos p) (hq : Pos q) (hr : Neg r) (hs : Neg s) : dl p q + dl q r + dl r s + dl s p = 0 := by
  rw [dl_pp hp hq, dl_pn hq hr, dl_nn hr hs, dl_np hs hp, cross_anti p s]
  obtain ⟨k1, k2, k3⟩ := cell_2 h hp hq hr hs
  split <;> split <;> omega
theorem sum3 {p q r s : Pt} (h : NM p q r s) (hp : Pos p) (hq : Neg q) (hr : Pos r) (hs : Neg s) : False := by
  have := h.sx; have := h.sy
  unfold Pos Neg at *
  omega
theorem cell_sum {p q r s : Pt} (h : NM p q r s) (zp : p ≠ ⟨0, 0⟩) (zq : q ≠ ⟨0, 0⟩) (zr : r ≠ ⟨0, 0⟩) (zs : s ≠ ⟨0, 0⟩) : dl p q + dl q r + dl r s + dl s p = 0 := by
  have h1 := h.rot; have h2 := h1.rot; have h3 := h2.rot
  rcases pos_or_neg zp with hp | hp <;> rcases pos_or_neg zq with hq | hq <;> rcases pos_or_neg zr with hr | hr <;> rcases pos_or_neg zs with hs | hs
  · rw [dl_pp hp hq, dl_pp hq hr, dl_pp hr hs, dl_pp hs hp]; rfl
  · have := sum1n h3 hs hp hq hr; omega
  · have := sum1n h2 hr hs hp hq; omega
  · exact sum2 h hp hq hr hs
  · have := sum1n h1 hq hr hs hp; omega
  · exact (sum3 h hp hq hr hs).elim
  · have := sum2 h3 hs hp hq hr; omega
  · exact sum1 h hp hq hr hs
  · exact sum1n h hp hq hr hs
  · have := sum2 h1 hq hr hs hp; omega
  · exact (sum3 h1 hq hr hs hp).elim
  · have := sum1 h1 hq hr hs hp; omega
  · have := sum2 h2 hr hs hp hq; omega
  · have := sum1 h2 hr hs hp hq; omega
  · have := sum1 h3 hs hp hq hr; omega
  · rw [dl_nn hp hq, dl_nn hq hr, dl_nn hr hs, dl_nn hs hp]; rfl
def df (a c : Pt) : Pt := ⟨c.x - a.x, c.y - a.y⟩
theorem nm_of {A B C D : Pt} (h : ¬ Meet A B C D) : NM (df A C) (df A D) (df B D) (df B C) := by
  unfold Meet OnL at h
  have t1 : cross (df A C) (df B C) = turn A B C := by unfold cross df turn; grind
  have t2 : cross (df A D) (df B D) = turn A B D := by unfold cross df turn; grind
  have t3 : cross (df A C) (df A D) = turn C D A := by unfold cross df turn; grind
  have t4 : cross (df B C) (df B D) = turn C D B := by unfold cross df turn; grind
  have m : ∀ a b c d : Int, (a - b) * (c - d) = (b - a) * (d - c) := fun a b c d => by grind
  simp only [not_or] at h
  obtain ⟨h1, h2, h3, h4, h5⟩ := h
  refine ⟨by unfold df; simp only; omega, by unfold df; simp only; omega, ?_, ?_, ?_, ?_, ?_⟩
  · rw [t1]; intro ⟨a, b, c⟩; exact h1 ⟨a, by rw [m]; exact b, by rw [m]; exact c⟩
  · rw [t2]; intro ⟨a, b, c⟩; exact h2 ⟨a, by rw [m]; exact b, by rw [m]; exact c⟩
  · rw [t3]; intro ⟨a, b, c⟩; exact h3 ⟨a, b, c⟩
  · rw [t4]; intro ⟨a, b, c⟩; exact h4 ⟨a, b, c⟩
  · rw [t1, t2, t3, t4]
    intro ⟨a, b⟩
    apply h5
    have key : ∀ x y : Int, ((x < 0 ∧ 0 < y) ∨ (0 < x ∧ y < 0)) → sg x * sg y < 0 := fun x y h => by
      unfold sg
      rcases h with ⟨h1, h2⟩ | ⟨h1, h2⟩
      · rw [if_neg (by omega), if_pos h1, if_pos h2]; decide
      · rw [if_pos h1, if_neg (by omega), if_pos h2]; decide
    exact ⟨key _ _ b, key _ _ a⟩
theorem df_ne {A B : Pt} (h : A ≠ B) : df A B ≠ ⟨0, 0⟩ := by
  intro e
  apply h
  obtain ⟨a, b⟩ := A; obtain ⟨c, d⟩ := B
  unfold df at e
  simp only [Pt.mk.injEq] at e ⊢
  omega
theorem not_meet_ne {A B C D : Pt} (h : ¬ Meet A B C D) : A ≠ C ∧ A ≠ D ∧ B ≠ C ∧ B ≠ D := by
  unfold Meet at h
  simp only [not_or] at h
  obtain ⟨h1, h2, h3, h4, h5⟩ := h
  refine ⟨fun e => h1 ?_, fun e => h2 ?_, fun e => h1 ?_, fun e => h2 ?_⟩ <;> subst e <;> unfold OnL turn <;> refine ⟨by grind, by simp, by simp⟩
theorem cell_df {A B C D : Pt} (h : ¬ Meet A B C D) : dl (df A C) (df A D) + dl (df A D) (df B D) + dl (df B D) (df B C) + dl (df B C) (df A C) = 0 := by
  obtain ⟨n1, n2, n3, n4⟩ := not_meet_ne h
  exact cell_sum (nm_of h) (df_ne n1) (df_ne n2) (df_ne n4) (df_ne n3)
theorem tri_sum {u v w : Pt} (hw : w = comb 1 u 1 v) (h : cross u v ≠ 0) : dl u w + dl w v = dl u v := by
  have c1 : cross u w = cross u v := by rw [hw]; unfold cross comb; grind
  have c2 : cross w v = cross u v := by rw [hw]; unfold cross comb; grind
  have zu : u ≠ ⟨0, 0⟩ := fun e => h (by rw [e]; unfold cross; simp)
  have zv : v ≠ ⟨0, 0⟩ := fun e => h (by rw [e]; unfold cross; simp)
  have zw : w ≠ ⟨0, 0⟩ := fun e => h (by rw [← c1, e]; unfold cross; simp)
  have hx : w.x = u.x + v.x := by rw [hw]; unfold comb; simp
  have hy : w.y = u.y + v.y := by rw [hw]; unfold comb; simp
  rcases pos_or_neg zu with hu | hu <;> rcases pos_or_neg zv with hv | hv <;> rcases pos_or_neg zw with hw' | hw'
  · rw [dl_pp hu hw', dl_pp hw' hv, dl_pp hu hv]; rfl
  · exfalso; unfold Pos Neg at *; omega
  · rw [dl_pp hu hw', dl_pn hw' hv, dl_pn hu hv, c2]; omega
  · rw [dl_pn hu hw', dl_nn hw' hv, dl_pn hu hv, c1]; omega
  · rw [dl_np hu hw', dl_pp hw' hv, dl_np hu hv, c1]; omega
  · rw [dl_nn hu hw', dl_np hw' hv, dl_np hu hv, c2]; omega
  · exfalso; unfold Pos Neg at *; omega
  · rw [dl_nn hu hw', dl_nn hw' hv, dl_nn hu hv]; rfl
end Go.AM
namespace Go.AM
section
variable {n : Int} {P : Int → Pt}
def eg (P : Int → Pt) (i : Int) : Pt := df (P i) (P (i + 1))
theorem turn_eg (P : Int → Pt) (i : Int) : turn (P i) (P (i + 1)) (P (i + 2)) = cross (eg P i) (eg P (i + 1)) := by
  unfold eg df turn cross
  rw [show i + 1 + 1 = i + 2 by omega]
  grind
def rowS (P : Int → Pt) (i : Int) : Nat → Int
  | 0 => 0
  | k + 1 => rowS P i k + dl (df (P i) (P (i + 1 + k))) (df (P i) (P (i + 2 + k)))
end
end Go.AM
namespace Go.AM
section
variable {n : Int} {P : Int → Pt}
end
end Go.AM
namespace Go.AM
def Up (A B : Pt) (y : Int) : Prop := A.y ≤ y ∧ y < B.y
def Dn (A B : Pt) (y : Int) : Prop := B.y ≤ y ∧ y < A.y
instance (A B : Pt) (y : Int) : Decidable (Up A B y) := by unfold Up; infer_instance
instance (A B : Pt) (y : Int) : Decidable (Dn A B y) := by unfold Dn; infer_instance
section
variable {n : Int} {P : Int → Pt}
theorem sm_zero {g : Int → Int} : ∀ {k : Nat}, (∀ i : Int, 0 ≤ i → i < k → g i = 0) → sm g k = 0
  | 0, _ => rfl
  | k + 1, h => by simp only [sm]; rw [sm_zero fun i h0 h1 => h i h0 (by omega), h k (by omega) (by omega)]; rfl
theorem sm_add (f g : Int → Int) : ∀ k : Nat, sm (fun i => f i - g i) k = sm f k - sm g k
  | 0 => rfl
  | k + 1 => by simp only [sm]; rw [sm_add f g k]; omega
theorem sm_only {g : Int → Int} {u : Int} (u0 : 0 ≤ u) : ∀ {k : Nat}, u < k → (∀ i : Int, 0 ≤ i → i < k → i ≠ u → g i = 0) → sm g k = g u
  | 0, h, _ => by omega
  | k + 1, h, hz => by
    simp only [sm]
    by_cases e : u = k
    · subst e
      rw [sm_zero fun i h0 h1 => hz i h0 (by omega) (by omega)]; omega
    · rw [sm_only u0 (by omega) fun i h0 h1 hi => hz i h0 (by omega) hi, hz k (by omega) (by omega) (fun e' => e e'.symm)]; omega
end
def xr (t : Int → Bool) : Nat → Bool
  | 0 => false
  | k + 1 => xor (xr t k) (t k)
theorem par_xr (a : List Pt) (q : Pt) : ∀ (k : Nat) (v : Int), par a q v k = xr (fun i => tg (pt a (v + i)) (pt a (v + i + 1)) q) k := by
  have shift : ∀ (t : Int → Bool) (k : Nat), xr t (k + 1) = xor (t 0) (xr (fun i => t (i + 1)) k) := by
    intro t k
    induction k with
    | zero => simp [xr]
    | succ k ih =>
      have : xr t (k + 1 + 1) = xor (xr t (k + 1)) (t ((k + 1 : Nat) : Int)) := rfl
      rw [this, ih]
      simp only [xr]
      rw [Bool.xor_assoc]; rfl
  intro k
  induction k with
  | zero => intro v; rfl
  | succ k ih =>
    intro v
    rw [shift]
    simp only [par]
    rw [ih (v + 1)]
    simp only [Int.add_zero]
    congr 1
    congr 1
    funext i
    rw [show v + 1 + i = v + (i + 1) by omega]
end Go.AM
namespace Go.AM
theorem onL_rev {a b p : Pt} : OnL b a p ↔ OnL a b p := by
  unfold OnL
  rw [turn_swap a b p, Int.mul_comm (b.x - p.x), Int.mul_comm (b.y - p.y)]
  constructor <;> intro ⟨h1, h2, h3⟩ <;> exact ⟨by omega, h2, h3⟩
theorem sg_neg (n : Int) : sg (-n) = - sg n := by
  unfold sg
  rcases Int.lt_trichotomy n 0 with h | h | h
  · rw [if_pos (by omega), if_neg (by omega), if_pos h]; rfl
  · subst h; simp
  · rw [if_neg (by omega), if_pos (by omega), if_pos h]
theorem meet_sym {A B C D : Pt} : Meet A B C D ↔ Meet C D A B := by
  unfold Meet
  constructor
  · rintro (h | h | h | h | ⟨h1, h2⟩)
    · exact .inr (.inr (.inl h))
    · exact .inr (.inr (.inr (.inl h)))
    · exact .inl h
    · exact .inr (.inl h)
    · exact .inr (.inr (.inr (.inr ⟨h2, h1⟩)))
  · rintro (h | h | h | h | ⟨h1, h2⟩)
    · exact .inr (.inr (.inl h))
    · exact .inr (.inr (.inr (.inl h)))
    · exact .inl h
    · exact .inr (.inl h)
    · exact .inr (.inr (.inr (.inr ⟨h2, h1⟩)))
theorem meet_rev1 {A B C D : Pt} : Meet B A C D → Meet A B C D := by
  unfold Meet
  rw [turn_swap A B C, turn_swap A B D, sg_neg, sg_neg, Int.neg_mul_neg, Int.mul_comm (sg (turn C D B)) (sg (turn C D A)), onL_rev (a := A) (b := B) (p := C), onL_rev (a := A) (b := B) (p := D)]
  rintro (h | h | h | h | h)
  · exact .inl h
  · exact .inr (.inl h)
  · exact .inr (.inr (.inr (.inl h)))
  · exact .inr (.inr (.inl h))
  · exact .inr (.inr (.inr (.inr h)))
theorem meet_rev {A B C D : Pt} (h : Meet B A D C) : Meet A B C D := meet_sym.1 (meet_rev1 (meet_sym.1 (meet_rev1 h)))
theorem Good_.apartAll {a : List Pt} (g : Good_ a) {i k : Int} (h1 : i + 2 ≤ k) (h2 : k - i < (a.length : Int) - 1) : ¬ Meet (pt a i) (pt a (i + 1)) (pt a k) (pt a (k + 1)) := by
  have lo := g.lo
  have q1 := Int.emod_nonneg i (show (a.length : Int) ≠ 0 by omega)
  have q2 := Int.emod_lt_of_pos i (show 0 < (a.length : Int) by omega)
  have q3 := Int.mul_ediv_add_emod i a.length
  have e : ∀ d : Int, pt a (i % a.length + d) = pt a (i + d) := fun d => pt_congr (by rw [Int.emod_add_emod])
  have e0 := e 0; have e1 := e 1; have e2 := e (k - i); have e3 := e (k + 1 - i)
  rw [Int.add_zero, Int.add_zero] at e0
  rw [show i + (k - i) = k by omega] at e2
  rw [show i + (k + 1 - i) = k + 1 by omega] at e3
  rw [← e0, ← e1, ← e2, ← e3]
  by_cases hw : i % (a.length : Int) + (k - i) < a.length
  · have := g.apart (i % a.length) (i % a.length + (k - i)) q1 (by omega) hw (by omega)
    rwa [show i % (a.length : Int) + (k - i) + 1 = i % a.length + (k + 1 - i) by omega] at this
  · have := g.apart (i % a.length + (k - i) - a.length) (i % a.length) (by omega) (by omega) q2 (by omega)
    intro hm
    apply this
    have c : ∀ x : Int, pt a (x - a.length) = pt a x := fun x => pt_congr (by rw [Int.sub_emod_right])
    rw [c, show i % (a.length : Int) + (k - i) - a.length + 1 = i % a.length + (k + 1 - i) - a.length by omega, c]
    exact meet_sym.1 hm
theorem pt_per (a : List Pt) (i : Int) : pt a (i + a.length) = pt a i := pt_congr (by rw [Int.add_emod_right])
theorem sm_plus (f g : Int → Int) : ∀ k : Nat, sm (fun i => f i + g i) k = sm f k + sm g k
  | 0 => rfl
  | k + 1 => by simp only [sm]; rw [sm_plus f g k]; omega
theorem sm_round {f : Int → Int} {k : Nat} (h : f k = f 0) : sm (fun i => f (i + 1)) k = sm f k := by
  have key : ∀ m : Nat, sm (fun i => f (i + 1)) m + f 0 = sm f m + f m := by
    intro m
    induction m with
    | zero => rfl
    | succ m ih => simp only [sm]; rw [show ((m + 1 : Nat) : Int) = (m : Int) + 1 by omega]; omega
  have := key k
  omega
theorem sm_mul (s : Int) (f : Int → Int) : ∀ k : Nat, sm (fun i => s * f i) k = s * sm f k
  | 0 => by simp [sm]
  | k + 1 => by simp only [sm]; rw [sm_mul s f k, Int.mul_add]
end Go.AM
namespace Go.AM
end Go.AM
namespace Go.AM
def Ord (l : List Pt) : Prop := l.Pairwise fun a b => ¬ Less b a
theorem ord_one {l l' : List Pt} (h : Ord l) (h' : Ord l') (hp : l.Perm l') : l = l' :=
  hp.eq_of_pairwise (fun _ _ _ _ h1 h2 => not_less_eq h2 h1) h h'
def insP (p : Pt) : List Pt → List Pt
  | [] => [p]
  | a :: l => if Less a p then a :: insP p l else p :: a :: l
def isort (l : List Pt) : List Pt := l.foldl (fun out p => insP p out) []
theorem insP_perm (p : Pt) : ∀ l : List Pt, (insP p l).Perm (p :: l)
  | [] => .refl _
  | a :: l => by
    unfold insP
    split
    · exact ((insP_perm p l).cons a).trans (List.Perm.swap p a l)
    · exact .refl _
theorem insP_ord {p : Pt} : ∀ {l : List Pt}, Ord l → Ord (insP p l)
  | [], _ => by simp [Ord, insP]
  | a :: l, h => by
    unfold Ord at h ⊢
    rw [List.pairwise_cons] at h
    unfold insP
    split
    · rename_i hl
      rw [List.pairwise_cons]
      refine ⟨fun x hx => ?_, insP_ord h.2⟩
      rcases List.mem_cons.1 ((insP_perm p l).mem_iff.1 hx) with rfl | hx
      · unfold Less at *; omega
      · exact h.1 x hx
    · rename_i hl
      rw [List.pairwise_cons, List.pairwise_cons]
      refine ⟨fun x hx => ?_, h⟩
      rcases List.mem_cons.1 hx with rfl | hx
      · exact hl
      · have := h.1 x hx
        unfold Less at *; omega
theorem isort_go : ∀ (l out : List Pt), Ord out → Ord (l.foldl (fun out p => insP p out) out) ∧ (l.foldl (fun out p => insP p out) out).Perm (l ++ out)
  | [], out, h => ⟨h, .refl _⟩
  | p :: l, out, h => by
    obtain ⟨h1, h2⟩ := isort_go l (insP p out) (insP_ord h)
    refine ⟨h1, h2.trans ?_⟩
    exact ((insP_perm p out).append_left l).trans List.perm_middle
theorem isort_ord (l : List Pt) : Ord (isort l) := (isort_go l [] .nil).1
theorem isort_perm (l : List Pt) : (isort l).Perm l := by have := (isort_go l [] .nil).2; rw [List.append_nil] at this; exact this
theorem isort_len (l : List Pt) : (isort l).length = l.length := (isort_perm l).length_eq
theorem isort_mem {l : List Pt} {p : Pt} : p ∈ isort l ↔ p ∈ l := (isort_perm l).mem_iff
theorem isort_nodup {l : List Pt} (h : l.Nodup) : (isort l).Nodup := (isort_perm l).nodup_iff.2 h
theorem ord_filter {l : List Pt} (f : Pt → Bool) (h : Ord l) : Ord (l.filter f) := List.Pairwise.filter f h
theorem isort_filter (l : List Pt) (f : Pt → Bool) : (isort l).filter f = isort (l.filter f) :=
  ord_one (ord_filter f (isort_ord l)) (isort_ord _) (((isort_perm l).filter f).trans (isort_perm _).symm)
end Go.AM
namespace Go.AM
structure Side (o : Pt → Pt → Prop) (Q A : List Pt) : Prop where
  ord : ∀ (i : Nat) a b, A[i]? = some a → A[i + 1]? = some b → o a b
  cov : ∀ (i : Nat) a b, A[i]? = some a → A[i + 1]? = some b → ∀ q ∈ Q, 0 ≤ turn a b q
  cvx : ∀ (i : Nat) a b c, A[i]? = some a → A[i + 1]? = some b → A[i + 2]? = some c → 0 < turn a b c
  sub : ∀ x ∈ A, x ∈ Q
end Go.AM
namespace Go.AM
section
variable {n : Int} {P : Int → Pt} {Q : List Pt}
end
end Go.AM
namespace Go.AM
section
variable {l A B : List Pt} {k m : Nat}
structure Sides (l A B : List Pt) (k m : Nat) : Prop where
  up : Side Less l A
  dn : Side (fun a b => Less b a) l B
  lA : A.length = k + 1
  lB : B.length = m + 1
  k0 : 0 < k
  m0 : 0 < m
  e1 : A.getLast? = B[0]?
  e2 : B.getLast? = A[0]?
namespace Sides
variable (h : Sides l A B k m)
include h
end Sides
end
end Go.AM
namespace Go.AM
namespace Sides
section
variable {l A B : List Pt} {k m : Nat} (h : Sides l A B k m)
include h
end
end Sides
end Go.AM
namespace Go.AM
section
variable {n : Int} {P : Int → Pt}
end
end Go.AM
namespace Go.AM
theorem cmp_valL {L : Nat} {p q : Pt} (hL : 5 < L) : impl_comparePegs L p.x p.y q.x q.y = some (ordP p q) := by
  unfold impl_comparePegs cmp_Or_int
  simp only [gbind_eq, cmp_eq, Option.bind_some]
  obtain ⟨m, rfl⟩ : ∃ m, L = m + 3 := ⟨L - 3, by omega⟩
  have hl : ilen (List.map eI [cmpI p.x q.x, cmpI p.y q.y]) = 2 := by rw [ilen_eq]; rfl
  have g0 : lget [cmpI p.x q.x, cmpI p.y q.y] 0 = some (cmpI p.x q.x) := by rw [lget_eq]; rfl
  have g1 : lget [cmpI p.x q.x, cmpI p.y q.y] 1 = some (cmpI p.y q.y) := by rw [lget_eq]; rfl
  have w1 : wr .i64 (0 + 1) = 1 := wr_id (by decide)
  have w2 : wr .i64 (1 + 1) = 2 := wr_id (by decide)
  simp only [cmp_Or_int_l0, hl, ilt_eq, gbind_eq, g0, g1, iadd_eq, w1, w2, ieq_eq, Option.bind_some, show ((0 : Int) < 2) = True by simp, show ((1 : Int) < 2) = True by simp, show ((2 : Int) < 2) = False by simp, decide_true, decide_false, cond_true, cond_false]
  unfold cmpI ordP
  by_cases h1 : p.x < q.x
  · simp [h1]
  · by_cases h2 : q.x < p.x
    · simp [h1, h2]
    · have e : p.x = q.x := by omega
      by_cases h3 : p.y < q.y
      · simp [h1, h2, h3]
      · by_cases h4 : q.y < p.y
        · simp [h1, h2, h3, h4]
        · simp [h1, h2, h3, h4]
theorem cmp_val (p q : Pt) : impl_comparePegs 10 p.x p.y q.x q.y = some (ordP p q) := cmp_valL (by omega)
end Go.AM
namespace Go.AM
open Go.Proofs Go.Sort
theorem srt_isort (l : List Pt) : srt ordP l = isort l := by
  have hp : (srt ordP l).Perm l := List.mergeSort_perm _ _
  refine ord_one ?_ (isort_ord l) (hp.trans (isort_perm l).symm)
  have h := List.pairwise_mergeSort (le := fun x y => !(ltOf ordP y x)) (fun a b c h1 h2 => by
    simp only [ltOf_ordP, Bool.not_eq_true', decide_eq_false_iff_not] at *; omega) (fun a b => by
    simp only [ltOf_ordP, Bool.or_eq_true, Bool.not_eq_true', decide_eq_false_iff_not]; omega) l
  exact h.imp fun {a b} h => by
    simp only [ltOf_ordP, Bool.not_eq_true', decide_eq_false_iff_not] at h
    unfold Less
    omega
theorem sortP_eq {a : List Pt} (h : (a.length : Int) ≤ 1000000000) : sortP a = some (isort a) := by
  unfold sortP
  rw [if_pos (by omega), srt_isort]
end Go.AM
namespace Go.AM
theorem mem_pt {a : List Pt} {p : Pt} (h : p ∈ a) : ∃ i : Int, 0 ≤ i ∧ i < a.length ∧ pt a i = p := by
  obtain ⟨n, hn, e⟩ := List.mem_iff_getElem.1 h
  have p1 := pt_get (a := a) (i := (n : Int)) (by omega) (by omega)
  rw [Int.toNat_natCast, List.getElem?_eq_getElem hn] at p1
  exact ⟨n, by omega, by omega, by rw [← Option.some.inj p1, e]⟩
theorem pt_mem {a : List Pt} (hn : a ≠ []) (i : Int) : pt a i ∈ a := by
  have hl : 0 < (a.length : Int) := by have := List.length_pos_iff.2 hn; omega
  have := pt_get (a := a) (i := i % a.length) (Int.emod_nonneg _ (by omega)) (Int.emod_lt_of_pos _ hl)
  rw [pt_mod] at this
  exact List.mem_of_getElem? this
end Go.AM
namespace Go.AM
theorem fits_l {n : Int} {b : Nat} (h : n * b ≤ 140737488355328) : fits n b = true := by rw [fits_eq]; exact decide_eq_true h
theorem impl_sorted_eq {L : Nat} {a : List Pt} (hn : a ≠ []) (hs : (a.length : Int) ≤ 1000000) : impl_sorted L a = some (isort a) := by
  have hpos : 0 < (a.length : Int) := by have := List.length_pos_iff.2 hn; omega
  unfold impl_sorted slices_Clone_impl_Peg_impl_Peg slices_SortFunc_impl_Peg_impl_Peg
  simp only [ilen_mapep, ieq_eq, show ¬ (a.length : Int) = 0 by omega, decide_false, cond_false, ilen_eq, List.length_nil, iadd_eq, lcat_eq, List.nil_append, List.length_map]
  rw [fits_l (by omega)]
  simp only [cond_true, gbind_eq, Option.bind_some, sortP_eq (show (a.length : Int) ≤ 1000000000 by omega)]
theorem lsubk {a : List Pt} {i : Nat} (h : i ≤ a.length) : lsub a 0 (i : Int) = a.take i ∧ lsub a (i : Int) (a.length : Int) = a.drop i := by
  rw [lsub_eq, lsub_eq]
  refine ⟨by simp, ?_⟩
  rw [Int.toNat_natCast, show ((a.length : Int) - i).toNat = a.length - i by omega]
  rw [List.take_of_length_le (by simp)]
theorem insP_len (p : Pt) (l : List Pt) : (insP p l).length = l.length + 1 := (insP_perm p l).length_eq
end Go.AM
namespace Go.AM
theorem wr_v {n : Int} (h : -1000000000 ≤ n ∧ n ≤ 1000000000) : wr .i64 n = n := wr_id (by omega)
def Dir (b c : Int) : Prop := (-200 ≤ b ∧ b ≤ 200) ∧ (-200 ≤ c ∧ c ≤ 200) ∧ Nat.gcd b.natAbs c.natAbs = 1
theorem common_eq {L : Nat} {b c : Int} (hb : -1000000 ≤ b ∧ b ≤ 1000000) (hc : -1000000 ≤ c ∧ c ≤ 1000000) (hL : c.natAbs < L) : spec_pgCommon L b c = some (Nat.gcd b.natAbs c.natAbs : Int) := by
  unfold spec_pgCommon
  rw [spec_l1Abs_eq (by omega), spec_l1Abs_eq (by omega)]
  simp only [gbind_eq, Option.bind_some]
  exact common_l0 L _ _ hL
theorem divisor_eq {L : Nat} {b c : Int} (hb : -1000000 ≤ b ∧ b ≤ 1000000) (hc : -1000000 ≤ c ∧ c ≤ 1000000) (hL : c.natAbs < L) : impl_divisor L b c = some (Nat.gcd b.natAbs c.natAbs : Int) := by
  unfold impl_divisor
  exact divisor_l0 L _ _ (by omega) (by omega) hL
open Classical in
theorem spec_wiDirection_eq {L : Nat} {b c : Int} (hL : 1000 < L) : spec_wiDirection L b c = some (decide (Dir b c)) := by
  unfold spec_wiDirection
  simp only [spec_l1In_eq, gbind_eq, Option.bind_some]
  by_cases hb : -200 ≤ b ∧ b ≤ 200
  · by_cases hc : -200 ≤ c ∧ c ≤ 200
    · simp only [hb, hc, and_self, decide_true, cond_true, common_eq (L := L) (b := b) (c := c) (by omega) (by omega) (by omega), Option.bind_some, ieq_eq, Dir, true_and]
      congr 1; simp only [decide_eq_decide]; omega
    · simp only [hb, hc, and_self, decide_true, decide_false, cond_true, cond_false, Dir, false_and, and_false]
  · simp only [hb, decide_false, cond_false, Dir, false_and]
open Classical in
theorem impl_isDirection_eq {L : Nat} {b c : Int} (hL : 1000 < L) : impl_isDirection L b c = some (decide (Dir b c)) := by
  unfold impl_isDirection
  simp only [impl_within_eq, gbind_eq, Option.bind_some]
  by_cases hb : -200 ≤ b ∧ b ≤ 200
  · by_cases hc : -200 ≤ c ∧ c ≤ 200
    · simp only [hb, hc, and_self, decide_true, cond_true, divisor_eq (L := L) (b := b) (c := c) (by omega) (by omega) (by omega), Option.bind_some, ieq_eq, Dir, true_and]
      congr 1; simp only [decide_eq_decide]; omega
    · simp only [hb, hc, and_self, decide_true, decide_false, cond_true, cond_false, Dir, false_and, and_false]
  · simp only [hb, decide_false, cond_false, Dir, false_and]
def val (b c : Int) (p : Pt) : Int := b * p.x + c * p.y
theorem val_bd {b c : Int} {p : Pt} (hb : -100000 ≤ b ∧ b ≤ 100000) (hc : -100000 ≤ c ∧ c ≤ 100000) (hp : In p) : -8000000 ≤ val b c p ∧ val b c p ≤ 8000000 := by
  have h1 := mul_bd (A := 100000) (B := 40) hb hp.1
  have h2 := mul_bd (A := 100000) (B := 40) hc hp.2
  unfold val; omega
theorem val_wr {b c : Int} {p : Pt} (hb : -100000 ≤ b ∧ b ≤ 100000) (hc : -100000 ≤ c ∧ c ≤ 100000) (hp : In p) : wr IntKind.i64 (iadd (wr IntKind.i64 (imul b p.x)) (wr IntKind.i64 (imul c p.y))) = val b c p := by
  have h1 := mul_bd (A := 100000) (B := 40) hb hp.1
  have h2 := mul_bd (A := 100000) (B := 40) hc hp.2
  simp only [imul_eq, iadd_eq]
  rw [wr_v (n := b * p.x) (by omega), wr_v (n := c * p.y) (by omega), wr_v (by omega)]
  rfl
noncomputable def rng (f : Pt → Int) : List Pt → Int → Int → Int × Int
  | [], u, v => (u, v)
  | p :: l, u, v => rng f l (if u < f p then u else f p) (if f p < v then v else f p)
theorem range_l0 {L : Nat} {a : List Pt} {b c : Int} (hb : -100000 ≤ b ∧ b ≤ 100000) (hc : -100000 ≤ c ∧ c ≤ 100000) (hs : (a.length : Int) ≤ 1000) (hin : ∀ i, In (pt a i)) :
    ∀ (m i : Nat) (u v : Int), i ≤ a.length → a.length - i < m →
      spec_wiRange_l0 L a b c m u v i = some (rng (val b c) (a.drop i) u v) ∧ impl_extent_l0 L a b c m u v i = some (rng (val b c) (a.drop i) u v) := by
  intro m
  induction m with
  | zero => intro i u v _ h; omega
  | succ m ih =>
    intro i u v hi hm
    by_cases h : (i : Int) < (a.length : Int)
    · have hlt : i < a.length := by omega
      have hg : a[i]? = some (pt a i) := by have := pt_get (a := a) (i := (i : Int)) (by omega) h; rwa [Int.toNat_natCast] at this
      rw [List.getElem?_eq_getElem hlt] at hg
      have e := Option.some.inj hg
      rw [List.drop_eq_getElem_cons hlt, e, rng]
      have w := val_wr (p := pt a i) hb hc (hin i)
      have wi : wr IntKind.i64 (iadd (i : Int) 1) = ((i + 1 : Nat) : Int) := by rw [iadd_eq, wr_s (by omega)]; omega
      constructor
      · rw [spec_wiRange_l0]
        simp only [ilen_mapep, ilt_eq, h, decide_true, cond_true, lget_pt (show (0 : Int) ≤ i by omega) h, gbind_eq, Option.bind_some, w, wi]
        unfold spec_l1Least spec_l1Most
        simp only [ilt_eq]
        rw [← (ih (i + 1) (if u < val b c (pt a i) then u else val b c (pt a i)) (if val b c (pt a i) < v then v else val b c (pt a i)) (by omega) (by omega)).1]
        by_cases h1 : u < val b c (pt a i) <;> by_cases h2 : val b c (pt a i) < v <;> simp only [h1, h2, decide_true, decide_false, cond_true, cond_false, Option.bind_some, if_true, if_false]
      · rw [impl_extent_l0]
        unfold impl_value
        simp only [ilen_mapep, ilt_eq, h, decide_true, cond_true, lget_pt (show (0 : Int) ≤ i by omega) h, gbind_eq, Option.bind_some, w, wi]
        rw [← (ih (i + 1) (if u < val b c (pt a i) then u else val b c (pt a i)) (if val b c (pt a i) < v then v else val b c (pt a i)) (by omega) (by omega)).2]
        have e1 : imin u (val b c (pt a i)) = if u < val b c (pt a i) then u else val b c (pt a i) := by rw [imin_eq]; split <;> split <;> omega
        have e2 : imax v (val b c (pt a i)) = if val b c (pt a i) < v then v else val b c (pt a i) := by rw [imax_eq]; split <;> split <;> omega
        rw [e1, e2]
    · have hd : a.drop i = [] := List.drop_of_length_le (by omega)
      rw [hd, rng, spec_wiRange_l0, impl_extent_l0]
      simp only [ilen_mapep, ilt_eq, h, decide_false, cond_false, and_self]
noncomputable def rngOf (b c : Int) (a : List Pt) : Int × Int := rng (val b c) a (val b c (pt a 0)) (val b c (pt a 0))
theorem range_eq {L : Nat} {a : List Pt} {b c : Int} (hb : -100000 ≤ b ∧ b ≤ 100000) (hc : -100000 ≤ c ∧ c ≤ 100000) (hn : a ≠ []) (hs : (a.length : Int) ≤ 1000) (hin : ∀ i, In (pt a i)) (hL : (a.length : Int) < L) :
    spec_wiRange L a b c = some (rngOf b c a) ∧ impl_extent L a b c = some (rngOf b c a) := by
  have hpos : 0 < (a.length : Int) := by have := List.length_pos_iff.2 hn; omega
  have w := val_wr (p := pt a 0) hb hc (hin 0)
  have r := range_l0 (L := L) hb hc hs hin L 0 (val b c (pt a 0)) (val b c (pt a 0)) (by omega) (by omega)
  rw [List.drop_zero] at r
  constructor
  · unfold spec_wiRange
    simp only [lget_pt (Int.le_refl 0) hpos, gbind_eq, Option.bind_some, w]
    exact r.1
  · unfold impl_extent impl_value
    simp only [lget_pt (Int.le_refl 0) hpos, gbind_eq, Option.bind_some, w]
    exact r.2
theorem rng_bd {f : Pt → Int} {A B : Int} : ∀ (l : List Pt) (u v : Int), (A ≤ u ∧ u ≤ B) → (A ≤ v ∧ v ≤ B) → (∀ p ∈ l, A ≤ f p ∧ f p ≤ B) → (A ≤ (rng f l u v).1 ∧ (rng f l u v).1 ≤ B) ∧ (A ≤ (rng f l u v).2 ∧ (rng f l u v).2 ≤ B)
  | [], u, v, hu, hv, _ => ⟨hu, hv⟩
  | p :: l, u, v, hu, hv, hl => by
    unfold rng
    have h := hl p (by simp)
    refine rng_bd l _ _ ?_ ?_ fun q hq => hl q (by simp [hq]) <;> split <;> assumption
theorem insP_take {p : Pt} {out : List Pt} {k : Nat} (hO : Ord out) (hk : k ≤ out.length) (h1 : ∀ j, k ≤ j → ∀ x, out[j]? = some x → Less p x) (h2 : ∀ j, j + 1 = k → ∀ x, out[j]? = some x → ¬ Less p x) :
    out.take k ++ p :: out.drop k = insP p out := by
  refine ord_one ?_ (insP_ord hO) ?_
  · have hs : Ord (out.take k ++ out.drop k) := by rw [List.take_append_drop]; exact hO
    obtain ⟨t1, t2, t3⟩ := List.pairwise_append.1 hs
    have hd : ∀ x ∈ out.drop k, Less p x := fun x hx => by
      obtain ⟨n, hn, e⟩ := List.mem_iff_getElem.1 hx
      refine h1 (k + n) (by omega) x ?_
      rw [← List.getElem?_drop, List.getElem?_eq_getElem hn, e]
    refine List.pairwise_append.2 ⟨t1, List.pairwise_cons.2 ⟨fun x hx => ?_, t2⟩, fun x hx y hy => ?_⟩
    · have := hd x hx; unfold Less at *; omega
    · rcases List.mem_cons.1 hy with e | hy
      · subst e
        obtain ⟨n, hn, e⟩ := List.mem_iff_getElem.1 hx
        have hnk : n < k := by rw [List.length_take] at hn; omega
        have en : out[n]? = some x := by rw [← e, List.getElem_take]; exact List.getElem?_eq_getElem (by omega)
        have hk1 : k - 1 < out.length := by omega
        have hl := h2 (k - 1) (by omega) _ (List.getElem?_eq_getElem hk1)
        by_cases h : n = k - 1
        · subst h
          rw [List.getElem?_eq_getElem hk1] at en
          rw [← Option.some.inj en]; exact hl
        · have := List.pairwise_iff_getElem.1 hO n (k - 1) (by omega) hk1 (by omega)
          rw [List.getElem?_eq_getElem (show n < out.length by omega)] at en
          rw [Option.some.inj en] at this
          unfold Less at *; omega
      · exact t3 x hx y hy
  · refine List.perm_middle.trans (List.Perm.trans (List.Perm.cons p ?_) (insP_perm p out).symm)
    rw [List.take_append_drop]
end Go.AM
namespace Go.AM
def row (p : Pt) : List Int := [p.x, p.y]
theorem row_get0 (p : Pt) : lget (row p) 0 = some p.x := by rw [lget_eq]; rfl
theorem row_get1 (p : Pt) : lget (row p) 1 = some p.y := by rw [lget_eq]; rfl
theorem lsubk' {α : Type} {a : List α} {i n : Nat} (h : i ≤ n) (hn : a.length = n) : lsub a 0 (i : Int) = a.take i ∧ lsub a (i : Int) (n : Int) = a.drop i := by
  subst hn
  rw [lsub_eq, lsub_eq]
  refine ⟨by simp, ?_⟩
  rw [Int.toNat_natCast, show ((a.length : Int) - i).toNat = a.length - i by omega]
  rw [List.take_of_length_le (by simp)]
theorem lget_row {out : List Pt} {i : Int} (h0 : 0 ≤ i) (h1 : i < out.length) : lget (out.map row) i = some (row (pt out i)) := by
  rw [lget_eq, if_pos h0, List.getElem?_map, pt_get h0 h1]; rfl
theorem ilen_li (out : List (List Int)) : ilen (List.map eLI out) = (out.length : Int) := by rw [ilen_eq]; simp
theorem wiAll_l2 {L : Nat} {κ1 : (List Pt) → Int → Int → (List (List Int)) → Int → Int → Int → Int → Int → Int → Option ((List (List Int)))} {v01 : List Pt} {v11 v71 v91 v10 b0 b1 c0 c1 : Int} {out : List Pt} {p : Pt}
    (hx : wr IntKind.i64 (iquo (wr IntKind.i64 (isub (wr IntKind.i64 (imul v91 c1)) (wr IntKind.i64 (imul v10 b1)))) v71) = p.x)
    (hy : wr IntKind.i64 (iquo (wr IntKind.i64 (isub (wr IntKind.i64 (imul v10 b0)) (wr IntKind.i64 (imul v91 c0)))) v71) = p.y)
    (hO : Ord out) (hs : (out.length : Int) ≤ 100000) (hv : -100000 ≤ v10 ∧ v10 ≤ 100000) :
    ∀ (m k : Nat), k ≤ out.length → (∀ j, k ≤ j → ∀ x, out[j]? = some x → Less p x) → k < m →
      spec_wiAll_l2 L κ1 v01 v11 v71 (out.map row) v91 v10 b0 b1 c0 c1 m k = κ1 v01 v11 v71 ((insP p out).map row) v91 (v10 + 1) b0 b1 c0 c1 := by
  intro m
  induction m with
  | zero => intro k _ _ h; omega
  | succ m ih =>
    intro k hk h1 hm
    have l1 : ilen (lsub (List.map eLI (out.map row)) 0 (k : Int)) = k := by rw [← map_lsub, ilen_li, (lsubk' hk (by simp)).1]; simp; omega
    have l2 : ilen (lsub (List.map eLI (out.map row)) (k : Int) (out.length : Int)) = ((out.length - k : Nat) : Int) := by rw [← map_lsub, ilen_li, (lsubk' hk (by simp)).2]; simp
    have l3 : ilen (lcat ([] : List AV) (lsub (List.map eLI (out.map row)) 0 (k : Int))) = k := by rw [lcat_eq, List.nil_append]; exact l1
    have l4 : ilen (lcat (lcat ([] : List AV) (lsub (List.map eLI (out.map row)) 0 (k : Int))) [AV.lst false false 1 [AV.int IntKind.i64 p.x, AV.int IntKind.i64 p.y]]) = k + 1 := by
      rw [lcat_eq, lcat_eq, List.nil_append, ilen_eq, List.length_append]; have := l1; rw [ilen_eq] at this; simp; simpa using this
    have fin : out.take k ++ p :: out.drop k = insP p out → κ1 v01 v11 v71 (lcat (lcat (lcat [] (lsub (out.map row) 0 (k : Int))) ((p.x :: p.y :: []) :: [])) (lsub (out.map row) (k : Int) (out.length : Int))) v91 (wr IntKind.i64 (v10 + 1)) b0 b1 c0 c1 = κ1 v01 v11 v71 ((insP p out).map row) v91 (v10 + 1) b0 b1 c0 c1 := fun e => by
      rw [wr_s (by omega), ← e, (lsubk' hk (by simp)).1, (lsubk' hk (by simp)).2]
      simp only [lcat_eq, List.nil_append, List.append_assoc, List.singleton_append, List.map_append, List.map_take, List.map_drop, List.map_cons, row]
    rw [spec_wiAll_l2]
    simp only [hx, hy]
    simp only [ieq_eq, ilen_li, List.length_map, ilt_eq, iadd_eq, isub_eq, ile_eq, l1, l2, l3, l4, show ilen ([] : List AV) = 0 by rw [ilen_eq]; rfl, show ilen [AV.lst false false 1 [AV.int IntKind.i64 p.x, AV.int IntKind.i64 p.y]] = 1 by rw [ilen_eq]; rfl]
    rw [fits_l (show ((0 : Int) + k) * (24 : Nat) ≤ 140737488355328 by omega), fits_l (show ((k : Int) + 1) * (24 : Nat) ≤ 140737488355328 by omega), fits_l (show ((k : Int) + 1 + ((out.length - k : Nat) : Int)) * (24 : Nat) ≤ 140737488355328 by omega)]
    simp only [show (0 : Int) ≤ k by omega, show (k : Int) ≤ (out.length : Int) by omega, decide_true, Bool.and_self, cond_true]
    by_cases hkl : (0 : Int) < (k : Int)
    · have hk1 : (k : Int) - 1 < (out.length : Int) := by omega
      have hg : out[k - 1]? = some (pt out ((k : Int) - 1)) := by
        have := pt_get (a := out) (i := (k : Int) - 1) (by omega) hk1
        rwa [show ((k : Int) - 1).toNat = k - 1 by omega] at this
      simp only [hkl, decide_true, cond_true]
      rw [wr_s (i := (k : Int) - 1) (by omega)]
      simp only [lget_row (show (0 : Int) ≤ (k : Int) - 1 by omega) hk1, gbind_eq, Option.bind_some, row_get0, row_get1]
      have go : Less p (pt out ((k : Int) - 1)) → spec_wiAll_l2 L κ1 v01 v11 v71 (out.map row) v91 v10 b0 b1 c0 c1 m ((k : Int) - 1) = κ1 v01 v11 v71 ((insP p out).map row) v91 (v10 + 1) b0 b1 c0 c1 := fun hl => by
        have := ih (k - 1) (by omega) (fun j hj x hx => by
          by_cases e : j = k - 1
          · subst e; rw [hg] at hx; rw [← Option.some.inj hx]; exact hl
          · exact h1 j (by omega) x hx) (by omega)
        rw [show ((k - 1 : Nat) : Int) = (k : Int) - 1 by omega] at this
        exact this
      have stop : ¬ Less p (pt out ((k : Int) - 1)) → out.take k ++ p :: out.drop k = insP p out := fun hl => insP_take hO hk h1 fun j hj x hx => by
        rw [show j = k - 1 by omega, hg] at hx
        rw [← Option.some.inj hx]; exact hl
      by_cases d1 : p.x < (pt out ((k : Int) - 1)).x
      · simp only [d1, decide_true, cond_true]; exact go (.inl d1)
      · simp only [d1, decide_false, cond_false]
        by_cases d2 : p.x = (pt out ((k : Int) - 1)).x
        · simp only [decide_eq_true d2, cond_true]
          by_cases d3 : p.y < (pt out ((k : Int) - 1)).y
          · simp only [d3, decide_true, cond_true]; exact go (.inr ⟨d2, d3⟩)
          · simp only [d3, decide_false, cond_false]; exact fin (stop fun h => by unfold Less at h; omega)
        · simp only [decide_eq_false d2, cond_false]; exact fin (stop fun h => by unfold Less at h; omega)
    · simp only [hkl, decide_false, cond_false]
      exact fin (insP_take hO hk h1 fun j hj => by omega)
theorem wiAll_l3 {L : Nat} {κ1 : (List Pt) → Int → Int → (List (List Int)) → Int → Int → Int → Int → Int → Int → Option ((List (List Int)))} {v01 : List Pt} {v11 v71 v91 v10 b0 b1 c0 c1 : Int} {out : List Pt} {p : Pt}
    (hx : wr IntKind.i64 (iquo (wr IntKind.i64 (isub (wr IntKind.i64 (imul v91 c1)) (wr IntKind.i64 (imul v10 b1)))) v71) = p.x)
    (hy : wr IntKind.i64 (iquo (wr IntKind.i64 (isub (wr IntKind.i64 (imul v10 b0)) (wr IntKind.i64 (imul v91 c0)))) v71) = p.y)
    (hO : Ord out) (hs : (out.length : Int) ≤ 100000) (hv : -100000 ≤ v10 ∧ v10 ≤ 100000) :
    ∀ (m k : Nat), k ≤ out.length → (∀ j, k ≤ j → ∀ x, out[j]? = some x → Less p x) → k < m →
      spec_wiAll_l3 L κ1 v01 v11 v71 (out.map row) v91 v10 b0 b1 c0 c1 m k = κ1 v01 v11 v71 ((insP p out).map row) v91 (v10 + 1) b0 b1 c0 c1 := by
  intro m
  induction m with
  | zero => intro k _ _ h; omega
  | succ m ih =>
    intro k hk h1 hm
    have l1 : ilen (lsub (List.map eLI (out.map row)) 0 (k : Int)) = k := by rw [← map_lsub, ilen_li, (lsubk' hk (by simp)).1]; simp; omega
    have l2 : ilen (lsub (List.map eLI (out.map row)) (k : Int) (out.length : Int)) = ((out.length - k : Nat) : Int) := by rw [← map_lsub, ilen_li, (lsubk' hk (by simp)).2]; simp
    have l3 : ilen (lcat ([] : List AV) (lsub (List.map eLI (out.map row)) 0 (k : Int))) = k := by rw [lcat_eq, List.nil_append]; exact l1
    have l4 : ilen (lcat (lcat ([] : List AV) (lsub (List.map eLI (out.map row)) 0 (k : Int))) [AV.lst false false 1 [AV.int IntKind.i64 p.x, AV.int IntKind.i64 p.y]]) = k + 1 := by
      rw [lcat_eq, lcat_eq, List.nil_append, ilen_eq, List.length_append]; have := l1; rw [ilen_eq] at this; simp; simpa using this
    have fin : out.take k ++ p :: out.drop k = insP p out → κ1 v01 v11 v71 (lcat (lcat (lcat [] (lsub (out.map row) 0 (k : Int))) ((p.x :: p.y :: []) :: [])) (lsub (out.map row) (k : Int) (out.length : Int))) v91 (wr IntKind.i64 (v10 + 1)) b0 b1 c0 c1 = κ1 v01 v11 v71 ((insP p out).map row) v91 (v10 + 1) b0 b1 c0 c1 := fun e => by
      rw [wr_s (by omega), ← e, (lsubk' hk (by simp)).1, (lsubk' hk (by simp)).2]
      simp only [lcat_eq, List.nil_append, List.append_assoc, List.singleton_append, List.map_append, List.map_take, List.map_drop, List.map_cons, row]
    rw [spec_wiAll_l3]
    simp only [hx, hy]
    simp only [ieq_eq, ilen_li, List.length_map, ilt_eq, iadd_eq, isub_eq, ile_eq, l1, l2, l3, l4, show ilen ([] : List AV) = 0 by rw [ilen_eq]; rfl, show ilen [AV.lst false false 1 [AV.int IntKind.i64 p.x, AV.int IntKind.i64 p.y]] = 1 by rw [ilen_eq]; rfl]
    rw [fits_l (show ((0 : Int) + k) * (24 : Nat) ≤ 140737488355328 by omega), fits_l (show ((k : Int) + 1) * (24 : Nat) ≤ 140737488355328 by omega), fits_l (show ((k : Int) + 1 + ((out.length - k : Nat) : Int)) * (24 : Nat) ≤ 140737488355328 by omega)]
    simp only [show (0 : Int) ≤ k by omega, show (k : Int) ≤ (out.length : Int) by omega, decide_true, Bool.and_self, cond_true]
    by_cases hkl : (0 : Int) < (k : Int)
    · have hk1 : (k : Int) - 1 < (out.length : Int) := by omega
      have hg : out[k - 1]? = some (pt out ((k : Int) - 1)) := by
        have := pt_get (a := out) (i := (k : Int) - 1) (by omega) hk1
        rwa [show ((k : Int) - 1).toNat = k - 1 by omega] at this
      simp only [hkl, decide_true, cond_true]
      rw [wr_s (i := (k : Int) - 1) (by omega)]
      simp only [lget_row (show (0 : Int) ≤ (k : Int) - 1 by omega) hk1, gbind_eq, Option.bind_some, row_get0, row_get1]
      have go : Less p (pt out ((k : Int) - 1)) → spec_wiAll_l3 L κ1 v01 v11 v71 (out.map row) v91 v10 b0 b1 c0 c1 m ((k : Int) - 1) = κ1 v01 v11 v71 ((insP p out).map row) v91 (v10 + 1) b0 b1 c0 c1 := fun hl => by
        have := ih (k - 1) (by omega) (fun j hj x hx => by
          by_cases e : j = k - 1
          · subst e; rw [hg] at hx; rw [← Option.some.inj hx]; exact hl
          · exact h1 j (by omega) x hx) (by omega)
        rw [show ((k - 1 : Nat) : Int) = (k : Int) - 1 by omega] at this
        exact this
      have stop : ¬ Less p (pt out ((k : Int) - 1)) → out.take k ++ p :: out.drop k = insP p out := fun hl => insP_take hO hk h1 fun j hj x hx => by
        rw [show j = k - 1 by omega, hg] at hx
        rw [← Option.some.inj hx]; exact hl
      by_cases d1 : p.x < (pt out ((k : Int) - 1)).x
      · simp only [d1, decide_true, cond_true]; exact go (.inl d1)
      · simp only [d1, decide_false, cond_false]
        by_cases d2 : p.x = (pt out ((k : Int) - 1)).x
        · simp only [decide_eq_true d2, cond_true]
          by_cases d3 : p.y < (pt out ((k : Int) - 1)).y
          · simp only [d3, decide_true, cond_true]; exact go (.inr ⟨d2, d3⟩)
          · simp only [d3, decide_false, cond_false]; exact fin (stop fun h => by unfold Less at h; omega)
        · simp only [decide_eq_false d2, cond_false]; exact fin (stop fun h => by unfold Less at h; omega)
    · simp only [hkl, decide_false, cond_false]
      exact fin (insP_take hO hk h1 fun j hj => by omega)
noncomputable def wdth (a : List Pt) (x y : Int) : Int := (rngOf x y a).2 - (rngOf x y a).1
theorem width_eq {L : Nat} {a : List Pt} {b c : Int} (hb : -100000 ≤ b ∧ b ≤ 100000) (hc : -100000 ≤ c ∧ c ≤ 100000) (hn : a ≠ []) (hs : (a.length : Int) ≤ 1000) (hin : ∀ i, In (pt a i)) (hL : (a.length : Int) < L) :
    spec_wiWidth L a b c = some (wdth a b c) ∧ impl_width L a b c = some (wdth a b c) := by
  obtain ⟨r1, r2⟩ := range_eq (L := L) hb hc hn hs hin hL
  have v0 := val_bd hb hc (hin 0)
  have bd := rng_bd (f := val b c) (A := -8000000) (B := 8000000) a (val b c (pt a 0)) (val b c (pt a 0)) v0 v0 fun p hp => by
    obtain ⟨i, _, _, e⟩ := mem_pt hp
    rw [← e]; exact val_bd hb hc (hin i)
  have e : wr IntKind.i64 (isub (rngOf b c a).2 (rngOf b c a).1) = wdth a b c := by
    rw [isub_eq, wr_v (by unfold rngOf; omega)]; rfl
  unfold spec_wiWidth impl_width
  simp only [r1, r2, gbind_eq, Option.bind_some, e, and_self]
open Classical in
noncomputable def dirOf (a : List Pt) (vx vy wx wy D t s u : Int) : Option Pt :=
  if (s * wy - u * vy).tmod D = 0 ∧ (u * vx - s * wx).tmod D = 0 ∧ (0 < (s * wy - u * vy).tdiv D ∨ ((s * wy - u * vy).tdiv D = 0 ∧ 1 ≤ (u * vx - s * wx).tdiv D)) ∧
    Nat.gcd ((s * wy - u * vy).tdiv D).natAbs ((u * vx - s * wx).tdiv D).natAbs = 1 ∧ wdth a ((s * wy - u * vy).tdiv D) ((u * vx - s * wx).tdiv D) ≤ t then some ⟨(s * wy - u * vy).tdiv D, (u * vx - s * wx).tdiv D⟩ else none
def col (f : Int → Option Pt) : Nat → Int → List Pt
  | 0, _ => []
  | n + 1, u => (f u).toList ++ col f n (u + 1)
theorem col_len (f : Int → Option Pt) : ∀ (n : Nat) (u : Int), (col f n u).length ≤ n
  | 0, _ => Nat.le_refl _
  | n + 1, u => by
    have := col_len f n (u + 1)
    unfold col
    rw [List.length_append]
    have : (f u).toList.length ≤ 1 := by cases f u <;> simp
    omega
theorem tdvd_bd {x d B : Int} (h : -B ≤ x ∧ x ≤ B) : -B ≤ x.tdiv d ∧ x.tdiv d ≤ B := by
  have h3 : (x.tdiv d).natAbs ≤ x.natAbs := by rw [Int.natAbs_tdiv]; exact Nat.div_le_self _ _
  omega
structure Vw (a : List Pt) (vx vy wx wy D t : Int) : Prop where
  nn : a ≠ []
  len : (a.length : Int) ≤ 1000
  isIn : ∀ i, In (pt a i)
  v : (-80 ≤ vx ∧ vx ≤ 80) ∧ (-80 ≤ vy ∧ vy ≤ 80)
  w : (-80 ≤ wx ∧ wx ≤ 80) ∧ (-80 ≤ wy ∧ wy ≤ 80)
  d : D ≠ 0
  t : 0 ≤ t ∧ t ≤ 100
theorem Vw.X {a : List Pt} {vx vy wx wy D t s u : Int} (h : Vw a vx vy wx wy D t) (hs : -t ≤ s ∧ s ≤ t) (hu : -t ≤ u ∧ u ≤ t) :
    (wr IntKind.i64 (isub (wr IntKind.i64 (imul s wy)) (wr IntKind.i64 (imul u vy))) = s * wy - u * vy ∧ wr IntKind.i64 (isub (wr IntKind.i64 (imul u vx)) (wr IntKind.i64 (imul s wx))) = u * vx - s * wx) ∧
    (-16000 ≤ s * wy - u * vy ∧ s * wy - u * vy ≤ 16000) ∧ (-16000 ≤ u * vx - s * wx ∧ u * vx - s * wx ≤ 16000) := by
  have ht := h.t
  have h1 := mul_bd (A := 100) (B := 80) (show -100 ≤ s ∧ s ≤ 100 by omega) h.w.2
  have h2 := mul_bd (A := 100) (B := 80) (show -100 ≤ u ∧ u ≤ 100 by omega) h.v.2
  have h3 := mul_bd (A := 100) (B := 80) (show -100 ≤ u ∧ u ≤ 100 by omega) h.v.1
  have h4 := mul_bd (A := 100) (B := 80) (show -100 ≤ s ∧ s ≤ 100 by omega) h.w.1
  simp only [imul_eq, isub_eq]
  rw [wr_v (n := s * wy) (by omega), wr_v (n := u * vy) (by omega), wr_v (n := u * vx) (by omega), wr_v (n := s * wx) (by omega), wr_v (n := s * wy - u * vy) (by omega), wr_v (n := u * vx - s * wx) (by omega)]
  exact ⟨⟨rfl, rfl⟩, by omega, by omega⟩
theorem wiAll_l1 {L : Nat} {κ0 : (List Pt) → Int → Int → (List (List Int)) → Int → Int → Int → Int → Int → Option ((List (List Int)))} {a : List Pt} {vx vy wx wy D t s : Int} (h : Vw a vx vy wx wy D t) (hs : -t ≤ s ∧ s ≤ t) (hL : 200000 < L) :
    ∀ (n m : Nat) (u : Int) (out : List Pt), u + n = t + 1 → n < m → -t ≤ u → Ord out → (out.length : Int) + n ≤ 100000 →
      spec_wiAll_l1 L κ0 m a t D (out.map row) s u vx vy wx wy = κ0 a t D (((col (dirOf a vx vy wx wy D t s) n u).foldl (fun o p => insP p o) out).map row) (s + 1) vx vy wx wy := by
  intro n
  induction n with
  | zero =>
    intro m u out hu hm h0 hO hl
    obtain ⟨m, rfl⟩ : ∃ k, m = k + 1 := ⟨m - 1, by omega⟩
    have ht := h.t
    rw [spec_wiAll_l1]
    simp only [ile_eq, show ¬ u ≤ t by omega, decide_false, cond_false, iadd_eq, col, List.foldl_nil]
    rw [wr_s (by omega)]
  | succ n ih =>
    intro m u out hu hm h0 hO hl
    obtain ⟨m, rfl⟩ : ∃ k, m = k + 1 := ⟨m - 1, by omega⟩
    have ht := h.t
    obtain ⟨⟨hX, hY⟩, bX, bY⟩ := h.X hs (show -t ≤ u ∧ u ≤ t by omega)
    have wu : wr IntKind.i64 (iadd u 1) = u + 1 := by rw [iadd_eq, wr_s (by omega)]
    have skip : dirOf a vx vy wx wy D t s u = none → spec_wiAll_l1 L κ0 m a t D (out.map row) s (u + 1) vx vy wx wy = κ0 a t D (((col (dirOf a vx vy wx wy D t s) (n + 1) u).foldl (fun o p => insP p o) out).map row) (s + 1) vx vy wx wy := fun e => by
      rw [ih m (u + 1) out (by omega) (by omega) (by omega) hO (by omega), col, e]; rfl
    have take : ∀ p, dirOf a vx vy wx wy D t s u = some p → spec_wiAll_l1 L κ0 m a t D ((insP p out).map row) s (u + 1) vx vy wx wy = κ0 a t D (((col (dirOf a vx vy wx wy D t s) (n + 1) u).foldl (fun o p => insP p o) out).map row) (s + 1) vx vy wx wy := fun p e => by
      rw [ih m (u + 1) (insP p out) (by omega) (by omega) (by omega) (insP_ord hO) (by rw [insP_len]; omega), col, e]; rfl
    have tX := tdvd_bd (d := D) bX
    have tY := tdvd_bd (d := D) bY
    have qX : wr IntKind.i64 (iquo (wr IntKind.i64 (isub (wr IntKind.i64 (imul s wy)) (wr IntKind.i64 (imul u vy)))) D) = (s * wy - u * vy).tdiv D := by rw [hX, iquo_eq, wr_v (by omega)]
    have qY : wr IntKind.i64 (iquo (wr IntKind.i64 (isub (wr IntKind.i64 (imul u vx)) (wr IntKind.i64 (imul s wx)))) D) = (u * vx - s * wx).tdiv D := by rw [hY, iquo_eq, wr_v (by omega)]
    have i2 := fun p (hx : _ = p.x) (hy : _ = p.y) => wiAll_l2 (L := L) (κ1 := spec_wiAll_l1 L κ0 m) (v01 := a) (v11 := t) (v71 := D) (v91 := s) (v10 := u) (b0 := vx) (b1 := vy) (c0 := wx) (c1 := wy) (out := out) (p := p) hx hy hO (by omega) (by omega) L out.length (Nat.le_refl _) (fun j hj x hx => by rw [List.getElem?_eq_none (by omega)] at hx; cases hx) (by omega)
    have i3 := fun p (hx : _ = p.x) (hy : _ = p.y) => wiAll_l3 (L := L) (κ1 := spec_wiAll_l1 L κ0 m) (v01 := a) (v11 := t) (v71 := D) (v91 := s) (v10 := u) (b0 := vx) (b1 := vy) (c0 := wx) (c1 := wy) (out := out) (p := p) hx hy hO (by omega) (by omega) L out.length (Nat.le_refl _) (fun j hj x hx => by rw [List.getElem?_eq_none (by omega)] at hx; cases hx) (by omega)
    have j2 := i2 ⟨(s * wy - u * vy).tdiv D, (u * vx - s * wx).tdiv D⟩ qX qY
    have j3 := i3 ⟨(s * wy - u * vy).tdiv D, (u * vx - s * wx).tdiv D⟩ qX qY
    obtain ⟨w1, _⟩ := width_eq (L := L) (a := a) (b := (s * wy - u * vy).tdiv D) (c := (u * vx - s * wx).tdiv D) (by omega) (by omega) h.nn h.len h.isIn (by have := h.len; omega)
    have g1 := common_eq (L := L) (b := (s * wy - u * vy).tdiv D) (c := (u * vx - s * wx).tdiv D) (by omega) (by omega) (by omega)
    have rX : wr IntKind.i64 (iquo (s * wy - u * vy) D) = (s * wy - u * vy).tdiv D := by rw [iquo_eq, wr_v (by omega)]
    have rY : wr IntKind.i64 (iquo (u * vx - s * wx) D) = (u * vx - s * wx).tdiv D := by rw [iquo_eq, wr_v (by omega)]
    rw [spec_wiAll_l1]
    have ll : ilen (List.map eLI (out.map row)) = (out.length : Int) := by rw [ilen_li, List.length_map]
    simp only [ile_eq, show u ≤ t by omega, decide_true, cond_true, ieq_eq, h.d, decide_false, cond_false, wu, rX, rY, w1, g1, gbind_eq, Option.bind_some, ll, j2, j3, hX, hY, irem_eq, ilt_eq]
    generalize hx : (s * wy - u * vy).tdiv D = x at *
    generalize hy : (u * vx - s * wx).tdiv D = y at *
    by_cases k1 : (s * wy - u * vy).tmod D = 0
    · simp only [k1, decide_true, Bool.not_true, cond_false]
      by_cases k2 : (u * vx - s * wx).tmod D = 0
      · simp only [k2, decide_true, Bool.not_true, cond_false]
        by_cases k3 : x < 0
        · simp only [k3, decide_true, cond_true]
          exact skip (if_neg fun e => by rw [hx] at e; have := e.2.2.1; omega)
        · simp only [k3, decide_false, cond_false]
          by_cases k4 : x = 0
          · simp only [decide_eq_true k4, cond_true]
            by_cases k5 : y < 1
            · simp only [k5, decide_true, cond_true]
              exact skip (if_neg fun e => by rw [hx, hy] at e; have := e.2.2.1; omega)
            · simp only [k5, decide_false, cond_false]
              by_cases k6 : ((Nat.gcd x.natAbs y.natAbs : Nat) : Int) = 1
              · simp only [k6, decide_true, Bool.not_true, cond_false]
                by_cases k7 : t < wdth a x y
                · simp only [k7, decide_true, cond_true]
                  exact skip (if_neg fun e => by rw [hx, hy] at e; have := e.2.2.2.2; omega)
                · simp only [k7, decide_false, cond_false]
                  exact take ⟨x, y⟩ (by unfold dirOf; rw [hx, hy]; exact if_pos ⟨k1, k2, by omega, by omega, by omega⟩)
              · simp only [k6, decide_false, Bool.not_false, cond_true]
                exact skip (if_neg fun e => by rw [hx, hy] at e; have := e.2.2.2.1; omega)
          · simp only [decide_eq_false k4, cond_false]
            by_cases k6 : ((Nat.gcd x.natAbs y.natAbs : Nat) : Int) = 1
            · simp only [k6, decide_true, Bool.not_true, cond_false]
              by_cases k7 : t < wdth a x y
              · simp only [k7, decide_true, cond_true]
                exact skip (if_neg fun e => by rw [hx, hy] at e; have := e.2.2.2.2; omega)
              · simp only [k7, decide_false, cond_false]
                exact take ⟨x, y⟩ (by unfold dirOf; rw [hx, hy]; exact if_pos ⟨k1, k2, by omega, by omega, by omega⟩)
            · simp only [k6, decide_false, Bool.not_false, cond_true]
              exact skip (if_neg fun e => by rw [hx, hy] at e; have := e.2.2.2.1; omega)
      · simp only [k2, decide_false, Bool.not_false, cond_true]
        exact skip (if_neg fun e => k2 e.2.1)
    · simp only [k1, decide_false, Bool.not_false, cond_true]
      exact skip (if_neg fun e => k1 e.1)
end Go.AM
namespace Go.AM
def allD (f : Int → Int → Option Pt) (N : Nat) (u0 : Int) : Nat → Int → List Pt
  | 0, _ => []
  | n + 1, s => col (f s) N u0 ++ allD f N u0 n (s + 1)
theorem ins_len {l out : List Pt} (hO : Ord out) : (l.foldl (fun o p => insP p o) out).length = l.length + out.length := by
  have := (isort_go l out hO).2.length_eq
  rwa [List.length_append] at this
theorem wiAll_l0 {L : Nat} {a : List Pt} {vx vy wx wy D t : Int} (h : Vw a vx vy wx wy D t) (hL : 200000 < L) {N : Nat} (hN : (N : Int) = 2 * t + 1) :
    ∀ (n m : Nat) (s : Int) (out : List Pt), s + n = t + 1 → n < m → -t ≤ s → Ord out → (out.length : Int) + n * 201 ≤ 100000 - 201 →
      spec_wiAll_l0 L m a t D (out.map row) s vx vy wx wy = some (((allD (dirOf a vx vy wx wy D t) N (-t) n s).foldl (fun o p => insP p o) out).map row) := by
  intro n
  induction n with
  | zero =>
    intro m s out hs hm h0 hO hl
    obtain ⟨m, rfl⟩ : ∃ k, m = k + 1 := ⟨m - 1, by omega⟩
    rw [spec_wiAll_l0]
    simp only [ile_eq, show ¬ s ≤ t by omega, decide_false, cond_false, allD, List.foldl_nil]
  | succ n ih =>
    intro m s out hs hm h0 hO hl
    obtain ⟨m, rfl⟩ : ∃ k, m = k + 1 := ⟨m - 1, by omega⟩
    have ht := h.t
    have e0 : wr IntKind.i64 (isub 0 t) = -t := by rw [isub_eq, wr_v (by omega)]; omega
    have cl := col_len (dirOf a vx vy wx wy D t s) N (-t)
    rw [spec_wiAll_l0]
    simp only [ile_eq, show s ≤ t by omega, decide_true, cond_true, e0]
    rw [wiAll_l1 h (by omega) hL N L (-t) out (by omega) (by omega) (by omega) hO (by omega)]
    rw [ih m (s + 1) _ (by omega) (by omega) (by omega) (isort_go _ _ hO).1 (by rw [ins_len hO]; omega), allD, List.foldl_append]
theorem dirs_l1 {L : Nat} {κ0 : (List Pt) → Int → Int → Int → (List Pt) → Int → Int → Int → Int → Option ((List Pt))} {a : List Pt} {vx vy wx wy D t s : Int} (h : Vw a vx vy wx wy D t) (hs : -t ≤ s ∧ s ≤ t) (hL : 200000 < L) :
    ∀ (n m : Nat) (u : Int) (w : List Pt), u + n = t + 1 → n < m → -t ≤ u → (w.length : Int) + n ≤ 100000 →
      impl_directions_l1 L κ0 a t D s vx vy wx wy m u w = κ0 a t D (s + 1) (w ++ col (dirOf a vx vy wx wy D t s) n u) vx vy wx wy := by
  intro n
  induction n with
  | zero =>
    intro m u w hu hm h0 hl
    obtain ⟨m, rfl⟩ : ∃ k, m = k + 1 := ⟨m - 1, by omega⟩
    have ht := h.t
    rw [impl_directions_l1]
    simp only [ile_eq, show ¬ u ≤ t by omega, decide_false, cond_false, iadd_eq, col, List.append_nil]
    rw [wr_s (by omega)]
  | succ n ih =>
    intro m u w hu hm h0 hl
    obtain ⟨m, rfl⟩ : ∃ k, m = k + 1 := ⟨m - 1, by omega⟩
    have ht := h.t
    obtain ⟨⟨hX, hY⟩, bX, bY⟩ := h.X hs (show -t ≤ u ∧ u ≤ t by omega)
    have wu : wr IntKind.i64 (iadd u 1) = u + 1 := by rw [iadd_eq, wr_s (by omega)]
    have skip : dirOf a vx vy wx wy D t s u = none → impl_directions_l1 L κ0 a t D s vx vy wx wy m (u + 1) w = κ0 a t D (s + 1) (w ++ col (dirOf a vx vy wx wy D t s) (n + 1) u) vx vy wx wy := fun e => by
      rw [ih m (u + 1) w (by omega) (by omega) (by omega) (by omega), col, e]; rfl
    have take : ∀ p, dirOf a vx vy wx wy D t s u = some p → impl_directions_l1 L κ0 a t D s vx vy wx wy m (u + 1) (lcat w [p]) = κ0 a t D (s + 1) (w ++ col (dirOf a vx vy wx wy D t s) (n + 1) u) vx vy wx wy := fun p e => by
      rw [ih m (u + 1) (lcat w [p]) (by omega) (by omega) (by omega) (by rw [lcat_eq]; simp; omega), col, e, lcat_eq, List.append_assoc]; rfl
    have tX := tdvd_bd (d := D) bX
    have tY := tdvd_bd (d := D) bY
    have rX : wr IntKind.i64 (iquo (s * wy - u * vy) D) = (s * wy - u * vy).tdiv D := by rw [iquo_eq, wr_v (by omega)]
    have rY : wr IntKind.i64 (iquo (u * vx - s * wx) D) = (u * vx - s * wx).tdiv D := by rw [iquo_eq, wr_v (by omega)]
    obtain ⟨_, w1⟩ := width_eq (L := L) (a := a) (b := (s * wy - u * vy).tdiv D) (c := (u * vx - s * wx).tdiv D) (by omega) (by omega) h.nn h.len h.isIn (by have := h.len; omega)
    have g1 := divisor_eq (L := L) (b := (s * wy - u * vy).tdiv D) (c := (u * vx - s * wx).tdiv D) (by omega) (by omega) (by omega)
    have f1 : fits (iadd (w.length : Int) 1) 16 = true := by rw [iadd_eq]; exact fits_l (by omega)
    have k1' : ∀ x y : Int, ilen [AV.agg [AV.int IntKind.i64 x, AV.int IntKind.i64 y]] = 1 := fun x y => by rw [ilen_eq]; rfl
    rw [impl_directions_l1]
    simp only [ile_eq, show u ≤ t by omega, decide_true, cond_true, ieq_eq, h.d, decide_false, cond_false, wu, rX, rY, w1, g1, gbind_eq, Option.bind_some, ilen_mapep, hX, hY, irem_eq, ilt_eq, k1', f1]
    generalize hx : (s * wy - u * vy).tdiv D = x at *
    generalize hy : (u * vx - s * wx).tdiv D = y at *
    by_cases k1 : (s * wy - u * vy).tmod D = 0
    · simp only [k1, decide_true, Bool.not_true, cond_false]
      by_cases k2 : (u * vx - s * wx).tmod D = 0
      · simp only [k2, decide_true, Bool.not_true, cond_false]
        by_cases k6 : ((Nat.gcd x.natAbs y.natAbs : Nat) : Int) = 1
        · simp only [k6, decide_true, cond_true]
          by_cases k3 : 0 < x
          · simp only [k3, decide_true, cond_true]
            by_cases k7 : wdth a x y ≤ t
            · simp only [k7, decide_true, cond_true]
              exact take ⟨x, y⟩ (by unfold dirOf; rw [hx, hy]; exact if_pos ⟨k1, k2, by omega, by omega, by omega⟩)
            · simp only [k7, decide_false, cond_false]
              exact skip (if_neg fun e => by rw [hx, hy] at e; have := e.2.2.2.2; omega)
          · simp only [k3, decide_false, cond_false]
            by_cases k4 : x = 0
            · have hg : y.natAbs = 1 := by
                have : Nat.gcd x.natAbs y.natAbs = 1 := by omega
                rw [k4] at this
                simpa using this
              simp only [decide_eq_true k4, cond_true]
              by_cases k5 : y = 1
              · simp only [decide_eq_true k5, cond_true]
                by_cases k7 : wdth a x y ≤ t
                · simp only [k7, decide_true, cond_true]
                  exact take ⟨x, y⟩ (by unfold dirOf; rw [hx, hy]; exact if_pos ⟨k1, k2, by omega, by omega, by omega⟩)
                · simp only [k7, decide_false, cond_false]
                  exact skip (if_neg fun e => by rw [hx, hy] at e; have := e.2.2.2.2; omega)
              · simp only [decide_eq_false k5, cond_false]
                exact skip (if_neg fun e => by rw [hx, hy] at e; have := e.2.2.1; omega)
            · simp only [decide_eq_false k4, cond_false]
              exact skip (if_neg fun e => by rw [hx, hy] at e; have := e.2.2.1; omega)
        · simp only [k6, decide_false, cond_false]
          exact skip (if_neg fun e => by rw [hx, hy] at e; have := e.2.2.2.1; omega)
      · simp only [k2, decide_false, Bool.not_false, cond_true]
        exact skip (if_neg fun e => k2 e.2.1)
    · simp only [k1, decide_false, Bool.not_false, cond_true]
      exact skip (if_neg fun e => k1 e.1)
theorem dirs_l0 {L : Nat} {a : List Pt} {vx vy wx wy D t : Int} (h : Vw a vx vy wx wy D t) (hL : 200000 < L) {N : Nat} (hN : (N : Int) = 2 * t + 1) :
    ∀ (n m : Nat) (s : Int) (w : List Pt), s + n = t + 1 → n < m → -t ≤ s → (w.length : Int) + n * 201 ≤ 100000 - 201 →
      impl_directions_l0 L m a t D s w vx vy wx wy = impl_sorted L (w ++ allD (dirOf a vx vy wx wy D t) N (-t) n s) := by
  intro n
  induction n with
  | zero =>
    intro m s w hs hm h0 hl
    obtain ⟨m, rfl⟩ : ∃ k, m = k + 1 := ⟨m - 1, by omega⟩
    rw [impl_directions_l0]
    simp only [ile_eq, show ¬ s ≤ t by omega, decide_false, cond_false, allD, List.append_nil, gbind_eq, Option.bind_some]
    cases impl_sorted L w <;> rfl
  | succ n ih =>
    intro m s w hs hm h0 hl
    obtain ⟨m, rfl⟩ : ∃ k, m = k + 1 := ⟨m - 1, by omega⟩
    have ht := h.t
    have e0 : wr IntKind.i64 (isub 0 t) = -t := by rw [isub_eq, wr_v (by omega)]; omega
    have cl := col_len (dirOf a vx vy wx wy D t s) N (-t)
    rw [impl_directions_l0]
    simp only [ile_eq, show s ≤ t by omega, decide_true, cond_true, e0]
    rw [dirs_l1 h (by omega) hL N L (-t) w (by omega) (by omega) (by omega) (by omega)]
    rw [ih m (s + 1) _ (by omega) (by omega) (by omega) (by rw [List.length_append]; omega), allD, List.append_assoc]
noncomputable def dirL (a : List Pt) (t : Int) : List Pt :=
  allD (dirOf a ((pt a 1).x - (pt a 0).x) ((pt a 1).y - (pt a 0).y) ((pt a 2).x - (pt a 0).x) ((pt a 2).y - (pt a 0).y) (turn (pt a 0) (pt a 1) (pt a 2)) t) (2 * t + 1).toNat (-t) (2 * t + 1).toNat (-t)
theorem vw_of {a : List Pt} {t : Int} (g : Good_ a) (ht : 0 ≤ t ∧ t ≤ 100) : Vw a ((pt a 1).x - (pt a 0).x) ((pt a 1).y - (pt a 0).y) ((pt a 2).x - (pt a 0).x) ((pt a 2).y - (pt a 0).y) (turn (pt a 0) (pt a 1) (pt a 2)) t := by
  have hn : a ≠ [] := by intro e; have := g.lo; subst e; simp at this
  have hin := in_all g.isIn hn
  have i0 := hin 0
  have i1 := hin 1
  have i2 := hin 2
  have hl := g.lo
  have hh := g.hi
  unfold In at i0 i1 i2
  exact ⟨hn, by omega, hin, ⟨by omega, by omega⟩, ⟨by omega, by omega⟩, g.turn 0 (Int.le_refl 0) (by omega), ht⟩
theorem all_eq {L : Nat} {a : List Pt} {t : Int} (g : Good_ a) (ht : 0 ≤ t ∧ t ≤ 100) (hL : 200000 < L) : spec_wiAll L a t = some ((isort (dirL a t)).map row) ∧ impl_directions L a t = impl_sorted L (dirL a t) := by
  have h := vw_of g ht
  have hl := g.lo
  have l0 : lget a 0 = some (pt a 0) := lget_pt (Int.le_refl 0) (by omega)
  have l1 : lget a 1 = some (pt a 1) := lget_pt (by omega) (by omega)
  have l2 : lget a 2 = some (pt a 2) := lget_pt (by omega) (by omega)
  have i0 := h.isIn 0
  have i1 := h.isIn 1
  have i2 := h.isIn 2
  have e0 : wr IntKind.i64 (isub 0 t) = -t := by rw [isub_eq, wr_v (by omega)]; omega
  have e1 : wr IntKind.i64 (isub (pt a 1).x (pt a 0).x) = (pt a 1).x - (pt a 0).x := by rw [isub_eq, wr_v (by unfold In at *; omega)]
  have e2 : wr IntKind.i64 (isub (pt a 1).y (pt a 0).y) = (pt a 1).y - (pt a 0).y := by rw [isub_eq, wr_v (by unfold In at *; omega)]
  have e3 : wr IntKind.i64 (isub (pt a 2).x (pt a 0).x) = (pt a 2).x - (pt a 0).x := by rw [isub_eq, wr_v (by unfold In at *; omega)]
  have e4 : wr IntKind.i64 (isub (pt a 2).y (pt a 0).y) = (pt a 2).y - (pt a 0).y := by rw [isub_eq, wr_v (by unfold In at *; omega)]
  have m1 := mul_bd h.v.1 h.w.2
  have m2 := mul_bd h.v.2 h.w.1
  have e5 : wr IntKind.i64 (isub (wr IntKind.i64 (imul ((pt a 1).x - (pt a 0).x) ((pt a 2).y - (pt a 0).y))) (wr IntKind.i64 (imul ((pt a 1).y - (pt a 0).y) ((pt a 2).x - (pt a 0).x)))) = turn (pt a 0) (pt a 1) (pt a 2) := by
    simp only [imul_eq, isub_eq]
    rw [wr_v (n := ((pt a 1).x - (pt a 0).x) * ((pt a 2).y - (pt a 0).y)) (by omega), wr_v (n := ((pt a 1).y - (pt a 0).y) * ((pt a 2).x - (pt a 0).x)) (by omega), wr_v (by omega)]
    rfl
  constructor
  · unfold spec_wiAll
    simp only [l0, l1, l2, gbind_eq, Option.bind_some, e0, e1, e2, e3, e4, e5]
    have := wiAll_l0 h hL (N := (2 * t + 1).toNat) (by omega) (2 * t + 1).toNat L (-t) [] (by omega) (by omega) (by omega) .nil (by simp; omega)
    rw [List.map_nil] at this
    exact this
  · unfold impl_directions impl_Peg_less impl_cross
    simp only [l0, l1, l2, gbind_eq, Option.bind_some, e0, e1, e2, e3, e4, e5]
    exact dirs_l0 h hL (N := (2 * t + 1).toNat) (by omega) (2 * t + 1).toNat L (-t) [] (by omega) (by omega) (by omega) (by simp; omega)
theorem dirL_len {a : List Pt} {t : Int} (ht : 0 ≤ t ∧ t ≤ 100) : ((dirL a t).length : Int) ≤ 100000 := by
  have key : ∀ (f : Int → Int → Option Pt) (N : Nat) (u0 : Int) (n : Nat) (s : Int), (allD f N u0 n s).length ≤ n * N := by
    intro f N u0 n
    induction n with
    | zero => intro s; simp [allD]
    | succ n ih =>
      intro s
      have h1 := ih (s + 1)
      have h2 := col_len (f s) N u0
      rw [allD, List.length_append, Nat.succ_mul]
      omega
  have := key (dirOf a ((pt a 1).x - (pt a 0).x) ((pt a 1).y - (pt a 0).y) ((pt a 2).x - (pt a 0).x) ((pt a 2).y - (pt a 0).y) (turn (pt a 0) (pt a 1) (pt a 2)) t) (2 * t + 1).toNat (-t) (2 * t + 1).toNat (-t)
  have h1 : (2 * t + 1).toNat ≤ 201 := by omega
  have h2 := Nat.mul_le_mul h1 h1
  unfold dirL
  omega
end Go.AM
namespace Go.AM
theorem impl_sorted_any {L : Nat} {a : List Pt} (hs : (a.length : Int) ≤ 1000000) : impl_sorted L a = some (isort a) := by
  by_cases hn : a = []
  · subst hn
    have h0 : ilen ([] : List AV) = 0 := by rw [ilen_eq]; rfl
    have f0 : fits (iadd (0 : Int) 0) 16 = true := by rw [iadd_eq]; exact fits_l (by omega)
    have hc : slices_Clone_impl_Peg_impl_Peg L [] = some [] := by
      unfold slices_Clone_impl_Peg_impl_Peg
      simp only [List.map_nil, h0, ieq_eq, decide_true, cond_true, f0, lcat_eq, List.append_nil]
      exact osame_same rfl
    unfold impl_sorted slices_SortFunc_impl_Peg_impl_Peg
    simp only [hc, gbind_eq, Option.bind_some, sortP_eq (a := []) (by simp)]
  · exact impl_sorted_eq hn hs
end Go.AM
namespace Go.AM
theorem col_mem {f : Int → Option Pt} {p : Pt} : ∀ {n : Nat} {u : Int}, p ∈ col f n u ↔ ∃ v, u ≤ v ∧ v < u + n ∧ f v = some p
  | 0, u => by
    simp only [col, List.not_mem_nil, false_iff]
    rintro ⟨v, h1, h2, _⟩; omega
  | n + 1, u => by
    rw [col, List.mem_append, col_mem (n := n) (u := u + 1)]
    constructor
    · rintro (h | ⟨v, h1, h2, h3⟩)
      · refine ⟨u, by omega, by omega, ?_⟩
        simpa [Option.mem_toList] using h
      · exact ⟨v, by omega, by omega, h3⟩
    · rintro ⟨v, h1, h2, h3⟩
      by_cases e : v = u
      · left; rw [← e, h3]; simp
      · right; exact ⟨v, by omega, by omega, h3⟩
theorem allD_mem {f : Int → Int → Option Pt} {N : Nat} {u0 : Int} {p : Pt} : ∀ {n : Nat} {s : Int}, p ∈ allD f N u0 n s ↔ ∃ v, s ≤ v ∧ v < s + n ∧ ∃ u, u0 ≤ u ∧ u < u0 + N ∧ f v u = some p
  | 0, s => by
    simp only [allD, List.not_mem_nil, false_iff]
    rintro ⟨v, h1, h2, _⟩; omega
  | n + 1, s => by
    rw [allD, List.mem_append, allD_mem (n := n) (s := s + 1), col_mem]
    constructor
    · rintro (h | ⟨v, h1, h2, h3⟩)
      · exact ⟨s, by omega, by omega, h⟩
      · exact ⟨v, by omega, by omega, h3⟩
    · rintro ⟨v, h1, h2, h3⟩
      by_cases e : v = s
      · left; rw [← e]; exact h3
      · right; exact ⟨v, by omega, by omega, h3⟩
def ToldD (p : Pt) : Prop := Nat.gcd p.x.natAbs p.y.natAbs = 1 ∧ (0 < p.x ∨ (p.x = 0 ∧ 1 ≤ p.y))
theorem rng_le {f : Pt → Int} : ∀ (l : List Pt) (u v : Int), (rng f l u v).1 ≤ u ∧ v ≤ (rng f l u v).2 ∧ ∀ p ∈ l, (rng f l u v).1 ≤ f p ∧ f p ≤ (rng f l u v).2
  | [], u, v => ⟨Int.le_refl _, Int.le_refl _, fun p hp => by cases hp⟩
  | q :: l, u, v => by
    have i1 : (if u < f q then u else f q) ≤ u ∧ (if u < f q then u else f q) ≤ f q := by split <;> omega
    have i2 : v ≤ (if f q < v then v else f q) ∧ f q ≤ (if f q < v then v else f q) := by split <;> omega
    rw [rng]
    generalize (if u < f q then u else f q) = u' at *
    generalize (if f q < v then v else f q) = v' at *
    obtain ⟨h1, h2, h3⟩ := rng_le (f := f) l u' v'
    refine ⟨by omega, by omega, fun p hp => ?_⟩
    rcases List.mem_cons.1 hp with e | hp
    · subst e; omega
    · exact h3 p hp
theorem wdth_ge {a : List Pt} {x y : Int} (i j : Int) (hn : a ≠ []) : val x y (pt a i) - val x y (pt a j) ≤ wdth a x y := by
  obtain ⟨_, _, h⟩ := rng_le (f := val x y) a (val x y (pt a 0)) (val x y (pt a 0))
  have h1 := h _ (pt_mem hn i)
  have h2 := h _ (pt_mem hn j)
  unfold wdth rngOf
  omega
theorem dirL_mem {a : List Pt} {t : Int} {p : Pt} (g : Good_ a) (ht : 0 ≤ t ∧ t ≤ 100) : p ∈ dirL a t ↔ ToldD p ∧ wdth a p.x p.y ≤ t := by
  have h := vw_of g ht
  unfold dirL
  rw [allD_mem]
  constructor
  · rintro ⟨s, _, _, u, _, _, e⟩
    unfold dirOf at e
    split at e
    · rename_i c
      cases e
      exact ⟨⟨c.2.2.2.1, c.2.2.1⟩, c.2.2.2.2⟩
    · cases e
  · rintro ⟨⟨h1, h2⟩, h3⟩
    have w1 := wdth_ge (x := p.x) (y := p.y) 1 0 h.nn
    have w2 := wdth_ge (x := p.x) (y := p.y) 0 1 h.nn
    have w3 := wdth_ge (x := p.x) (y := p.y) 2 0 h.nn
    have w4 := wdth_ge (x := p.x) (y := p.y) 0 2 h.nn
    have e1 : val p.x p.y (pt a 1) - val p.x p.y (pt a 0) = p.x * ((pt a 1).x - (pt a 0).x) + p.y * ((pt a 1).y - (pt a 0).y) := by unfold val; grind
    have e2 : val p.x p.y (pt a 2) - val p.x p.y (pt a 0) = p.x * ((pt a 2).x - (pt a 0).x) + p.y * ((pt a 2).y - (pt a 0).y) := by unfold val; grind
    refine ⟨p.x * ((pt a 1).x - (pt a 0).x) + p.y * ((pt a 1).y - (pt a 0).y), by omega, by omega, p.x * ((pt a 2).x - (pt a 0).x) + p.y * ((pt a 2).y - (pt a 0).y), by omega, by omega, ?_⟩
    have hd := h.d
    have eX : (p.x * ((pt a 1).x - (pt a 0).x) + p.y * ((pt a 1).y - (pt a 0).y)) * ((pt a 2).y - (pt a 0).y) - (p.x * ((pt a 2).x - (pt a 0).x) + p.y * ((pt a 2).y - (pt a 0).y)) * ((pt a 1).y - (pt a 0).y) = p.x * turn (pt a 0) (pt a 1) (pt a 2) := by unfold turn; grind
    have eY : (p.x * ((pt a 2).x - (pt a 0).x) + p.y * ((pt a 2).y - (pt a 0).y)) * ((pt a 1).x - (pt a 0).x) - (p.x * ((pt a 1).x - (pt a 0).x) + p.y * ((pt a 1).y - (pt a 0).y)) * ((pt a 2).x - (pt a 0).x) = p.y * turn (pt a 0) (pt a 1) (pt a 2) := by unfold turn; grind
    unfold dirOf
    rw [eX, eY, Int.mul_tdiv_cancel _ hd, Int.mul_tdiv_cancel _ hd]
    rw [if_pos ⟨Int.mul_tmod_left _ _, Int.mul_tmod_left _ _, h2, h1, h3⟩]
theorem wdth_pos {a : List Pt} {p : Pt} (g : Good_ a) (hp : ToldD p) : 1 ≤ wdth a p.x p.y := by
  have h := vw_of g (t := 0) (by omega)
  have w1 := wdth_ge (x := p.x) (y := p.y) 1 0 h.nn
  have w2 := wdth_ge (x := p.x) (y := p.y) 0 1 h.nn
  have w3 := wdth_ge (x := p.x) (y := p.y) 2 0 h.nn
  have w4 := wdth_ge (x := p.x) (y := p.y) 0 2 h.nn
  rcases Int.lt_or_le 0 (wdth a p.x p.y) with h1 | h1
  · omega
  · exfalso
    have hm : p ∈ dirL a 0 := (dirL_mem g (by omega)).2 ⟨hp, h1⟩
    have e1 : val p.x p.y (pt a 1) - val p.x p.y (pt a 0) = p.x * ((pt a 1).x - (pt a 0).x) + p.y * ((pt a 1).y - (pt a 0).y) := by unfold val; grind
    have e2 : val p.x p.y (pt a 2) - val p.x p.y (pt a 0) = p.x * ((pt a 2).x - (pt a 0).x) + p.y * ((pt a 2).y - (pt a 0).y) := by unfold val; grind
    have z1 : p.x * ((pt a 1).x - (pt a 0).x) + p.y * ((pt a 1).y - (pt a 0).y) = 0 := by omega
    have z2 : p.x * ((pt a 2).x - (pt a 0).x) + p.y * ((pt a 2).y - (pt a 0).y) = 0 := by omega
    have eX : p.x * turn (pt a 0) (pt a 1) (pt a 2) = 0 := by
      have : p.x * turn (pt a 0) (pt a 1) (pt a 2) = (p.x * ((pt a 1).x - (pt a 0).x) + p.y * ((pt a 1).y - (pt a 0).y)) * ((pt a 2).y - (pt a 0).y) - (p.x * ((pt a 2).x - (pt a 0).x) + p.y * ((pt a 2).y - (pt a 0).y)) * ((pt a 1).y - (pt a 0).y) := by unfold turn; grind
      rw [this, z1, z2]; omega
    have eY : p.y * turn (pt a 0) (pt a 1) (pt a 2) = 0 := by
      have : p.y * turn (pt a 0) (pt a 1) (pt a 2) = (p.x * ((pt a 2).x - (pt a 0).x) + p.y * ((pt a 2).y - (pt a 0).y)) * ((pt a 1).x - (pt a 0).x) - (p.x * ((pt a 1).x - (pt a 0).x) + p.y * ((pt a 1).y - (pt a 0).y)) * ((pt a 2).x - (pt a 0).x) := by unfold turn; grind
      rw [this, z1, z2]; omega
    have hx := (Int.mul_eq_zero.1 eX).resolve_right h.d
    have hy := (Int.mul_eq_zero.1 eY).resolve_right h.d
    have := hp.2
    omega
end Go.AM
namespace Go.AM
theorem wiLeast_l0 {L : Nat} {a : List Pt} {W : Int} (g : Good_ a) (hL : 200000 < L) (h1 : 1 ≤ W ∧ W ≤ 100) (hn : dirL a W ≠ []) (hno : ∀ t, 1 ≤ t → t < W → dirL a t = []) :
    ∀ (n m : Nat) (v : Int), v + n = W → n < m → 1 ≤ v → spec_wiLeast_l0 L a m v = some (W, (isort (dirL a W)).map row) := by
  intro n
  induction n with
  | zero =>
    intro m v hv hm h0
    obtain ⟨m, rfl⟩ : ∃ k, m = k + 1 := ⟨m - 1, by omega⟩
    obtain rfl : v = W := by omega
    have hp := List.length_pos_iff.2 hn
    rw [spec_wiLeast_l0, (all_eq g (by omega) hL).1]
    simp only [gbind_eq, Option.bind_some, ilen_li, List.length_map, isort_len, ilt_eq, show (0 : Int) < ((dirL a v).length : Int) by omega, decide_true, cond_true]
  | succ n ih =>
    intro m v hv hm h0
    obtain ⟨m, rfl⟩ : ∃ k, m = k + 1 := ⟨m - 1, by omega⟩
    have e := hno v h0 (by omega)
    rw [spec_wiLeast_l0, (all_eq g (by omega) hL).1, e]
    have e0 : isort ([] : List Pt) = [] := rfl
    simp only [gbind_eq, Option.bind_some, e0, List.map_nil, show ilen ([] : List AV) = 0 by rw [ilen_eq]; rfl, ilt_eq, Int.lt_irrefl, decide_false, cond_false, iadd_eq]
    rw [wr_s (by omega)]
    exact ih m (v + 1) (by omega) (by omega) (by omega)
def minF (f : Pt → Int) : List Pt → Int → Int
  | [], b => b
  | p :: l, b => minF f l (if f p < b then f p else b)
theorem minF_spec {f : Pt → Int} : ∀ (l : List Pt) (b : Int), minF f l b ≤ b ∧ (∀ p ∈ l, minF f l b ≤ f p) ∧ (minF f l b = b ∨ ∃ p ∈ l, f p = minF f l b)
  | [], b => ⟨Int.le_refl _, fun p hp => (by cases hp), .inl rfl⟩
  | q :: l, b => by
    have i1 : (if f q < b then f q else b) ≤ b ∧ (if f q < b then f q else b) ≤ f q ∧ ((if f q < b then f q else b) = b ∨ (if f q < b then f q else b) = f q) := by split <;> omega
    rw [minF]
    generalize (if f q < b then f q else b) = b' at *
    obtain ⟨h1, h2, h3⟩ := minF_spec (f := f) l b'
    refine ⟨by omega, fun p hp => ?_, ?_⟩
    · rcases List.mem_cons.1 hp with e | hp
      · subst e; omega
      · exact h2 p hp
    · rcases h3 with h3 | ⟨p, hp, e⟩
      · rcases i1.2.2 with e | e
        · left; omega
        · right; exact ⟨q, by simp, by omega⟩
      · right; exact ⟨p, by simp [hp], e⟩
theorem wd_eq {L : Nat} {a : List Pt} {x y : Int} (g : Good_ a) (hx : -100000 ≤ x ∧ x ≤ 100000) (hy : -100000 ≤ y ∧ y ≤ 100000) (hL : 200000 < L) : impl_width L a x y = some (wdth a x y) := by
  have h := vw_of g (t := 0) (by omega)
  exact (width_eq hx hy h.nn h.len h.isIn (by have := h.len; omega)).2
theorem axis_le {a : List Pt} (g : Good_ a) : wdth a 1 0 ≤ 80 ∧ wdth a 0 1 ≤ 80 := by
  have h := vw_of g (t := 0) (by omega)
  have key : ∀ x y : Int, (∀ p, val x y p = p.x) ∨ (∀ p, val x y p = p.y) → wdth a x y ≤ 80 := by
    intro x y hv
    have vb : ∀ p, In p → -40 ≤ val x y p ∧ val x y p ≤ 40 := fun p hp => by
      unfold In at hp
      rcases hv with hv | hv <;> rw [hv] <;> omega
    have bd := rng_bd (f := val x y) (A := -40) (B := 40) a (val x y (pt a 0)) (val x y (pt a 0)) (vb _ (h.isIn 0)) (vb _ (h.isIn 0)) fun p hp => by
      obtain ⟨i, _, _, e⟩ := mem_pt hp
      rw [← e]; exact vb _ (h.isIn i)
    unfold wdth rngOf
    omega
  exact ⟨key 1 0 (.inl fun p => by unfold val; omega), key 0 1 (.inr fun p => by unfold val; omega)⟩
end Go.AM
namespace Go.AM
theorem pred_eq {L : Nat} {a : List Pt} {p : Pt} {n : Int} (g : Good_ a) (hx : -100000 ≤ p.x ∧ p.x ≤ 100000) (hy : -100000 ≤ p.y ∧ p.y ≤ 100000) (hL : 200000 < L) : impl_least_1_v2 L p.x p.y a n = some (decide (n < wdth a p.x p.y)) := by
  unfold impl_least_1_v2
  simp only [wd_eq g hx hy hL, gbind_eq, Option.bind_some, ilt_eq]
end Go.AM
namespace Go.AM
end Go.AM
namespace Go.AM
end Go.AM
namespace Go.AM
theorem told10 : ToldD ⟨1, 0⟩ := ⟨by decide, .inl (by decide)⟩
theorem told01 : ToldD ⟨0, 1⟩ := ⟨by decide, .inr ⟨rfl, by decide⟩⟩
theorem ToldD.le {a : List Pt} {p : Pt} {t : Int} (g : Good_ a) (ht : 0 ≤ t ∧ t ≤ 100) (h : ToldD p) (hw : wdth a p.x p.y ≤ t) : p ∈ dirL a t := (dirL_mem g ht).2 ⟨h, hw⟩
noncomputable def axW (a : List Pt) : Int := imin (wdth a 1 0) (wdth a 0 1)
theorem axW_bd {a : List Pt} (g : Good_ a) : 1 ≤ axW a ∧ axW a ≤ 80 := by
  have h1 := wdth_pos g told10
  have h2 := wdth_pos g told01
  have h3 := axis_le g
  unfold axW
  rw [imin_eq]
  simp only at h1 h2
  split <;> omega
theorem axW_ne {a : List Pt} (g : Good_ a) : dirL a (axW a) ≠ [] := by
  have hb := axW_bd g
  have : (wdth a 1 0 ≤ axW a) ∨ (wdth a 0 1 ≤ axW a) := by
    unfold axW; rw [imin_eq]; split <;> omega
  rcases this with h | h
  · exact List.ne_nil_of_mem (ToldD.le g (by omega) told10 h)
  · exact List.ne_nil_of_mem (ToldD.le g (by omega) told01 h)
noncomputable def leastW (a : List Pt) : Int := minF (fun p => wdth a p.x p.y) (isort (dirL a (axW a))) (wdth a (pt (isort (dirL a (axW a))) 0).x (pt (isort (dirL a (axW a))) 0).y)
theorem leastW_spec {a : List Pt} (g : Good_ a) : (1 ≤ leastW a ∧ leastW a ≤ 80) ∧ dirL a (leastW a) ≠ [] ∧ ∀ t, 1 ≤ t → t < leastW a → dirL a t = [] := by
  have hb := axW_bd g
  have hn : isort (dirL a (axW a)) ≠ [] := fun e => axW_ne g (by have := isort_len (dirL a (axW a)); rw [e] at this; exact List.eq_nil_of_length_eq_zero this.symm)
  have hm : ∀ p, p ∈ isort (dirL a (axW a)) ↔ ToldD p ∧ wdth a p.x p.y ≤ axW a := fun p => by rw [isort_mem, dirL_mem g (by omega)]
  obtain ⟨h1, h2, h3⟩ := minF_spec (f := fun p => wdth a p.x p.y) (isort (dirL a (axW a))) (wdth a (pt (isort (dirL a (axW a))) 0).x (pt (isort (dirL a (axW a))) 0).y)
  have h3' : ∃ p ∈ isort (dirL a (axW a)), wdth a p.x p.y = leastW a := by
    rcases h3 with h3 | ⟨p, hp, e⟩
    · exact ⟨_, pt_mem hn 0, h3.symm⟩
    · exact ⟨p, hp, e⟩
  obtain ⟨p, hp, e⟩ := h3'
  obtain ⟨hp1, hp2⟩ := (hm p).1 hp
  have hpos := wdth_pos g hp1
  refine ⟨by omega, List.ne_nil_of_mem (ToldD.le g (by omega) hp1 (by omega)), fun t ht1 ht2 => ?_⟩
  cases hd : dirL a t with
  | nil => rfl
  | cons q l =>
    exfalso
    have hq : q ∈ dirL a t := by rw [hd]; simp
    obtain ⟨hq1, hq2⟩ := (dirL_mem g (by omega)).1 hq
    have := h2 q ((hm q).2 ⟨hq1, by omega⟩)
    have h5 : leastW a ≤ wdth a q.x q.y := this
    omega
theorem leastW_iff1 {a : List Pt} (g : Good_ a) : dirL a 1 ≠ [] ↔ leastW a = 1 := by
  obtain ⟨h1, h2, h3⟩ := leastW_spec g
  constructor
  · intro h
    rcases Int.lt_or_le 1 (leastW a) with hl | hl
    · exact absurd (h3 1 (by omega) hl) h
    · omega
  · intro e; rw [← e]; exact h2
end Go.AM
namespace Go.AM
structure SP (n : Int) (P : Int → Pt) : Prop where
  n3 : 3 ≤ n
  per : ∀ i, P (i + n) = P i
  bend : ∀ i, turn (P i) (P (i + 1)) (P (i + 2)) ≠ 0
  apart : ∀ i k, i + 2 ≤ k → k - i < n - 1 → ¬ Meet (P i) (P (i + 1)) (P k) (P (k + 1))
section
variable {n : Int} {P : Int → Pt}
theorem SP.cr (h : SP n P) (i : Int) : cross (eg P i) (eg P (i + 1)) ≠ 0 := by have := h.bend i; rwa [turn_eg] at this
theorem SP.ne (h : SP n P) {i j : Int} (h1 : i < j) (h2 : j < i + n) : P i ≠ P j := by
  have n3 := h.n3
  by_cases c1 : j = i + 1
  · subst c1
    intro e
    apply h.bend i
    rw [← e]; unfold turn; grind
  · by_cases c2 : j = i + 2
    · subst c2
      intro e
      apply h.bend i
      rw [← e]; unfold turn; grind
    · by_cases c3 : j = i + n - 1
      · subst c3
        intro e
        have hb := h.bend (i - 1)
        have hp := h.per (i - 1)
        rw [show i - 1 + n = i + n - 1 by omega] at hp
        rw [← e] at hp
        apply hb
        rw [← hp, show i - 1 + 1 = i by omega]; unfold turn; grind
      · exact (not_meet_ne (h.apart i j (by omega) (by omega))).1
theorem SP.nz (h : SP n P) (i : Int) : eg P i ≠ ⟨0, 0⟩ := fun e => by
  have := h.cr i
  rw [e] at this
  exact this (by unfold cross; simp)
theorem SP.row_step (h : SP n P) (i : Int) : ∀ k : Nat, (k : Int) + 1 < n - 1 ∨ k = 0 → rowS P i (k + 1) + dl (df (P i) (P (i + 2 + k))) (df (P (i + 1)) (P (i + 2 + k))) = dl (eg P i) (eg P (i + 1)) + rowS P (i + 1) k
  | 0, _ => by
    have hl := h.bend i
    rw [turn_eg] at hl
    have := tri_sum (u := eg P i) (v := eg P (i + 1)) (w := df (P i) (P (i + 2))) (by unfold eg df comb; rw [show i + 1 + 1 = i + 2 by omega]; simp only [Pt.mk.injEq]; omega) (by omega)
    simp only [rowS, Int.add_zero, Int.zero_add, show ((0 : Nat) : Int) = 0 from rfl]
    unfold eg at this ⊢
    rw [show i + 1 + 1 = i + 2 by omega] at *
    exact this
  | k + 1, hk => by
    have hk' : (k : Int) + 2 < n - 1 := by have := h.n3; omega
    have ih := SP.row_step h i k (by omega)
    have hm := h.apart i (i + 2 + k) (by omega) (by omega)
    have c := cell_df hm
    rw [show i + 2 + (k : Int) + 1 = i + 2 + ((k + 1 : Nat) : Int) by omega] at c
    have a1 := dl_anti (df (P (i + 1)) (P (i + 2 + k))) (df (P (i + 1)) (P (i + 2 + ((k + 1 : Nat) : Int))))
    have a2 := dl_anti (df (P i) (P (i + 2 + k))) (df (P (i + 1)) (P (i + 2 + k)))
    have r1 : rowS P i (k + 1 + 1) = rowS P i (k + 1) + dl (df (P i) (P (i + 2 + k))) (df (P i) (P (i + 2 + ((k + 1 : Nat) : Int)))) := by
      conv => lhs; unfold rowS
      rw [show i + 1 + ((k + 1 : Nat) : Int) = i + 2 + k by omega]
    have r2 : rowS P (i + 1) (k + 1) = rowS P (i + 1) k + dl (df (P (i + 1)) (P (i + 2 + k))) (df (P (i + 1)) (P (i + 2 + ((k + 1 : Nat) : Int)))) := by
      conv => lhs; unfold rowS
      rw [show i + 1 + 1 + (k : Int) = i + 2 + k by omega, show i + 1 + 2 + (k : Int) = i + 2 + ((k + 1 : Nat) : Int) by omega]
    rw [r1, r2]
    omega
theorem SP.rows_sum (h : SP n P) : ∀ (k : Nat), (k : Int) ≤ n - 2 → rowS P (n - 1 - k) k + sm (fun t => dl (df (P (n - 1 - k + t)) (P n)) (df (P (n - 1 - k + t + 1)) (P n))) k = sm (fun t => dl (eg P (n - 1 - k + t)) (eg P (n - 1 - k + t + 1))) k
  | 0, _ => by simp [rowS, sm]
  | k + 1, hk => by
    have ih := SP.rows_sum h k (by omega)
    have hs := SP.row_step h (n - 1 - (k + 1 : Nat)) k (by omega)
    have e1 : n - 1 - ((k + 1 : Nat) : Int) + 1 = n - 1 - k := by omega
    have e2 : n - 1 - ((k + 1 : Nat) : Int) + 2 + k = n := by omega
    rw [e1, e2] at hs
    have shift : ∀ (g : Int → Int), sm (fun t => g (n - 1 - ((k + 1 : Nat) : Int) + t)) (k + 1) = g (n - 1 - ((k + 1 : Nat) : Int)) + sm (fun t => g (n - 1 - k + t)) k := by
      intro g
      have : ∀ (m : Nat) (x : Int), sm (fun t => g (x + t)) (m + 1) = g x + sm (fun t => g (x + 1 + t)) m := by
        intro m x
        induction m with
        | zero => simp [sm]
        | succ m ih =>
          have e : sm (fun t => g (x + t)) (m + 1 + 1) = sm (fun t => g (x + t)) (m + 1) + g (x + ((m + 1 : Nat) : Int)) := rfl
          rw [e, ih]
          simp only [sm]
          rw [show x + ((m + 1 : Nat) : Int) = x + 1 + (m : Int) by omega]
          omega
      rw [this k, show n - 1 - ((k + 1 : Nat) : Int) + 1 = n - 1 - k by omega]
    have s1 := shift fun x => dl (df (P x) (P n)) (df (P (x + 1)) (P n))
    have s2 := shift fun x => dl (eg P x) (eg P (x + 1))
    rw [s1, s2]
    rw [show n - 1 - ((k + 1 : Nat) : Int) + 1 = n - 1 - k by omega]
    omega
def pp (v : Pt) : Int := if Pos v then 1 else 0
theorem dl_ngt {u v : Pt} (hu : u ≠ ⟨0, 0⟩) (hv : v ≠ ⟨0, 0⟩) (hc : cross u v ≠ 0) : dl u v - dl (ngt u) (ngt v) = pp v - pp u := by
  have nn : ∀ {w : Pt}, Pos w → Neg (ngt w) := fun h => by unfold Neg ngt; unfold Pos at h; simp only; omega
  have np : ∀ {w : Pt}, Neg w → Pos (ngt w) := fun h => neg_ngt.1 h
  unfold pp
  rcases pos_or_neg hu with a | a <;> rcases pos_or_neg hv with b | b
  · rw [dl_pp a b, dl_nn (nn a) (nn b), if_pos a, if_pos b]; try rfl
  · rw [dl_pn a b, dl_np (nn a) (np b), cross_ngt, if_neg (neg_not_pos b), if_pos a]
    rcases Int.lt_or_gt_of_ne hc with c | c
    · rw [if_pos c, if_neg (by omega)]; try rfl
    · rw [if_neg (by omega), if_pos (by omega)]; try rfl
  · rw [dl_np a b, dl_pn (np a) (nn b), cross_ngt, if_neg (neg_not_pos a), if_pos b]
    rcases Int.lt_or_gt_of_ne hc with c | c
    · rw [if_neg (by omega), if_pos c]; try rfl
    · rw [if_pos (by omega), if_neg (by omega)]; try rfl
  · rw [dl_nn a b, dl_pp (np a) (np b), if_neg (neg_not_pos a), if_neg (neg_not_pos b)]; try rfl
def cw (n : Int) (P : Int → Pt) (i : Int) : Int := rowS P i (n - 2).toNat
def kap (n : Int) (P : Int → Pt) (i : Int) : Int := cw n P i + dl (eg P (i - 1)) (eg P i) + pp (eg P (i - 1))
theorem SP.c_step (h : SP n P) (i : Int) : cw n P i + dl (ngt (eg P (i - 1))) (ngt (eg P i)) = dl (eg P i) (eg P (i + 1)) + cw n P (i + 1) := by
  have n3 := h.n3
  obtain ⟨k, hk⟩ : ∃ k : Nat, n = k + 3 := ⟨(n - 3).toNat, by omega⟩
  have s := h.row_step i k (by omega)
  have pm : P (i + 2 + k) = P (i - 1) := by
    have := h.per (i - 1)
    rw [show i - 1 + n = i + 2 + k by omega] at this; exact this
  have pm1 : P (i + 3 + k) = P i := by
    have := h.per i
    rw [show i + n = i + 3 + k by omega] at this; exact this
  have e1 : (n - 2).toNat = k + 1 := by omega
  unfold cw
  rw [e1]
  have r2 : rowS P (i + 1) (k + 1) = rowS P (i + 1) k + dl (df (P (i + 1)) (P (i - 1))) (df (P (i + 1)) (P i)) := by
    conv => lhs; unfold rowS
    rw [show i + 1 + 1 + (k : Int) = i + 2 + k by omega, show i + 1 + 2 + (k : Int) = i + 3 + k by omega, pm, pm1]
  rw [pm] at s
  rw [r2]
  have u1 : df (P i) (P (i - 1)) = ngt (eg P (i - 1)) := by
    unfold df ngt eg df; rw [show i - 1 + 1 = i by omega]; simp only [Pt.mk.injEq]; omega
  have v1 : df (P (i + 1)) (P i) = ngt (eg P i) := by
    unfold df ngt eg df; simp only [Pt.mk.injEq]; omega
  have hc := h.cr (i - 1)
  rw [show i - 1 + 1 = i by omega] at hc
  have tr := tri_sum (u := df (P i) (P (i - 1))) (v := df (P (i + 1)) (P i)) (w := df (P (i + 1)) (P (i - 1))) (by unfold df comb; simp only [Pt.mk.injEq]; omega) (by rw [u1, v1, cross_ngt]; exact hc)
  rw [← u1, ← v1]
  omega
theorem SP.kap_step (h : SP n P) (i : Int) : kap n P (i + 1) = kap n P i := by
  have s := h.c_step i
  have hc := h.cr (i - 1)
  rw [show i - 1 + 1 = i by omega] at hc
  have d := dl_ngt (h.nz (i - 1)) (h.nz i) hc
  unfold kap
  rw [show i + 1 - 1 = i by omega]
  omega
theorem SP.kap_all (h : SP n P) (i : Int) : kap n P i = kap n P 0 := by
  have u : ∀ k : Nat, kap n P (k : Int) = kap n P 0 := by
    intro k
    induction k with
    | zero => rfl
    | succ k ih => rw [show ((k + 1 : Nat) : Int) = (k : Int) + 1 by omega, h.kap_step, ih]
  have l : ∀ k : Nat, kap n P (-(k : Int)) = kap n P 0 := by
    intro k
    induction k with
    | zero => rfl
    | succ k ih =>
      have := h.kap_step (-((k + 1 : Nat) : Int))
      rw [show -((k + 1 : Nat) : Int) + 1 = -(k : Int) by omega] at this
      rw [← this, ih]
  rcases Int.le_total 0 i with g | g
  · have := u i.toNat
    rwa [Int.toNat_of_nonneg g] at this
  · have := l (-i).toNat
    rwa [Int.toNat_of_nonneg (by omega), Int.neg_neg] at this
structure SB (n : Int) (P : Int → Pt) : Prop extends SP n P where
  first : ∀ j, 0 < j → j < n → Pos (df (P 0) (P j))
theorem SB.row0 (h : SB n P) : ∀ m : Nat, (m : Int) ≤ n - 2 → rowS P 0 m = 0 := by
  intro m
  induction m with
  | zero => intro _; rfl
  | succ m ih =>
    intro hm
    simp only [rowS]
    rw [ih (by omega), dl_pp (h.first _ (by omega) (by omega)) (h.first _ (by omega) (by omega))]
    rfl
theorem SB.pn (h : SB n P) : P n = P 0 := by have := h.per 0; rwa [Int.zero_add] at this
theorem SB.negs (h : SB n P) : ∀ j, 0 < j → j < n → Neg (df (P j) (P n)) := fun j h0 h1 => by
  have := h.first j h0 h1
  rw [h.pn]
  unfold Pos Neg df at *
  simp only at *
  omega
def t0 (n : Int) (P : Int → Pt) : Int := cross (eg P (n - 1)) (eg P 0)
theorem SB.kap0 (h : SB n P) : kap n P 0 = if 0 < t0 n P then 1 else 0 := by
  have n3 := h.n3
  have e : eg P (0 - 1) = eg P (n - 1) := by
    unfold eg
    have p1 := h.per (0 - 1)
    rw [show 0 - 1 + n = n - 1 by omega] at p1
    rw [p1, show (0 : Int) - 1 + 1 = 0 by omega, show n - 1 + 1 = n by omega, h.pn]
  have a1 : Neg (eg P (n - 1)) := by have := h.negs (n - 1) (by omega) (by omega); unfold eg; rwa [show n - 1 + 1 = n by omega]
  have a2 : Pos (eg P 0) := by unfold eg; exact h.first _ (by omega) (by omega)
  unfold kap cw pp t0
  rw [e, h.row0 (n - 2).toNat (by omega), dl_np a1 a2, if_neg (neg_not_pos a1)]
  split <;> rfl
theorem SB.once (h : SB n P) : sm (fun t => dl (eg P t) (eg P (t + 1))) n.toNat = if 0 < t0 n P then 1 else -1 := by
  have n3 := h.n3
  obtain ⟨k, hk⟩ : ∃ k : Nat, n = k + 3 := ⟨(n - 3).toNat, by omega⟩
  have r0 := h.row0
  have pn := h.pn
  have hneg := h.negs
  have col := h.toSP.rows_sum (k + 1) (by omega)
  have e1 : n - 1 - ((k + 1 : Nat) : Int) = 1 := by omega
  rw [e1] at col
  have c0 : sm (fun t => dl (df (P (1 + t)) (P n)) (df (P (1 + t + 1)) (P n))) (k + 1) = 0 := by
    have : sm (fun t => dl (df (P (1 + t)) (P n)) (df (P (1 + t + 1)) (P n))) (k + 1) = sm (fun _ => 0) (k + 1) := sm_congr fun i h0 h1 => dl_nn (hneg _ (by omega) (by omega)) (hneg _ (by omega) (by omega))
    rw [this]
    have z : ∀ m : Nat, sm (fun _ => 0) m = 0 := fun m => by induction m with | zero => rfl | succ m ih => simp [sm, ih]
    exact z _
  rw [c0] at col
  have s0 := h.toSP.row_step 0 k (by omega)
  rw [r0 (k + 1) (by omega)] at s0
  have q1 : (0 : Int) + 2 + k = n - 1 := by omega
  rw [q1, Int.zero_add, show (0 : Int) + 1 = 1 by rfl] at s0
  have rl : rowS P 1 (k + 1) = rowS P 1 k + dl (df (P 1) (P (n - 1))) (df (P 1) (P n)) := by
    simp only [rowS]
    rw [show (1 : Int) + 1 + k = n - 1 by omega, show (1 : Int) + 2 + k = n by omega]
  have hl := h.bend (n - 1)
  rw [turn_eg, show n - 1 + 1 = n by omega] at hl
  have pn1 : P (n + 1) = P 1 := by have := h.per 1; rwa [Int.add_comm] at this
  have u1 : df (P 0) (P (n - 1)) = ngt (eg P (n - 1)) := by
    unfold df ngt eg df; rw [show n - 1 + 1 = n by omega, pn]; simp only [Pt.mk.injEq]; omega
  have v1 : df (P 1) (P n) = ngt (eg P n) := by
    unfold df ngt eg df; rw [pn1, pn]; simp only [Pt.mk.injEq]; omega
  have tr := tri_sum (u := df (P 0) (P (n - 1))) (v := df (P 1) (P n)) (w := df (P 1) (P (n - 1))) (by unfold df comb; rw [pn]; simp only [Pt.mk.injEq]; omega) (by rw [u1, v1, cross_ngt]; omega)
  have eN : eg P n = eg P 0 := by unfold eg; rw [pn1, pn]; rfl
  rw [eN] at hl
  have dlast : dl (df (P 0) (P (n - 1))) (df (P 1) (P n)) = if t0 n P < 0 then -1 else 0 := by
    rw [dl_pn (h.first _ (by omega) (by omega)) (hneg _ (by omega) (by omega)), u1, v1, cross_ngt, eN]; rfl
  have dback : dl (eg P (n - 1)) (eg P (n - 1 + 1)) = if 0 < t0 n P then 1 else 0 := by
    rw [show n - 1 + 1 = n by omega]
    have a1 : Neg (eg P (n - 1)) := by have := hneg (n - 1) (by omega) (by omega); unfold eg; rwa [show n - 1 + 1 = n by omega]
    have a2 : Pos (eg P n) := by rw [eN]; unfold eg; exact h.first _ (by omega) (by omega)
    rw [dl_np a1 a2, eN]; rfl
  have tot : sm (fun t => dl (eg P t) (eg P (t + 1))) n.toNat = dl (eg P 0) (eg P 1) + sm (fun t => dl (eg P (1 + t)) (eg P (1 + t + 1))) (k + 1) + dl (eg P (n - 1)) (eg P (n - 1 + 1)) := by
    rw [show n.toNat = (k + 2) + 1 by omega]
    simp only [sm]
    rw [show ((k + 2 : Nat) : Int) = n - 1 by omega]
    have key : ∀ m : Nat, sm (fun t => dl (eg P t) (eg P (t + 1))) (m + 1) = dl (eg P 0) (eg P 1) + sm (fun t => dl (eg P (1 + t)) (eg P (1 + t + 1))) m := by
      intro m
      induction m with
      | zero => simp [sm]
      | succ m ih =>
        have : sm (fun t => dl (eg P t) (eg P (t + 1))) (m + 1 + 1) = sm (fun t => dl (eg P t) (eg P (t + 1))) (m + 1) + dl (eg P ((m + 1 : Nat) : Int)) (eg P (((m + 1 : Nat) : Int) + 1)) := rfl
        rw [this, ih]
        simp only [sm]
        rw [show ((m + 1 : Nat) : Int) = 1 + (m : Int) by omega]
        omega
    have := key (k + 1)
    simp only [sm] at this
    omega
  have hl' : t0 n P ≠ 0 := hl
  rw [tot, dback]
  rw [dlast] at tr
  rcases Int.lt_or_gt_of_ne hl' with c | c
  · rw [if_pos c] at tr
    rw [if_neg (show ¬ 0 < t0 n P by omega), if_neg (show ¬ 0 < t0 n P by omega)]
    omega
  · rw [if_neg (by omega)] at tr
    rw [if_pos (show 0 < t0 n P from c), if_pos (show 0 < t0 n P from c)]
    omega
end
end Go.AM
namespace Go.AM
def Bt (A B m : Pt) : Prop := ∃ p r : Int, 0 < p ∧ 0 < r ∧ r * (m.x - A.x) = p * (B.x - m.x) ∧ r * (m.y - A.y) = p * (B.y - m.y)
theorem bt_aff {A B m : Pt} {p r : Int} (hx : r * (m.x - A.x) = p * (B.x - m.x)) (hy : r * (m.y - A.y) = p * (B.y - m.y)) (U V : Pt) : (p + r) * turn U V m = r * turn U V A + p * turn U V B := by
  unfold turn; grind
theorem sgn_mul {p x y : Int} (hp : 0 < p) (h : p * x = y) : (0 < x ↔ 0 < y) ∧ (x < 0 ↔ y < 0) ∧ (x = 0 ↔ y = 0) := by
  rcases Int.lt_trichotomy x 0 with c | c | c
  · have := Int.mul_neg_of_pos_of_neg hp c; omega
  · subst c; rw [Int.mul_zero] at h; omega
  · have := Int.mul_pos hp c; omega
theorem pos_scale {p : Int} {u v : Pt} (hp : 0 < p) (hx : p * u.x = v.x) (hy : p * u.y = v.y) : (Pos u ↔ Pos v) ∧ (Neg u ↔ Neg v) := by
  have a := sgn_mul hp hx
  have b := sgn_mul hp hy
  unfold Pos Neg
  omega
theorem dl_scale {p : Int} {u u' v : Pt} (hp : 0 < p) (hx : p * u.x = u'.x) (hy : p * u.y = u'.y) : dl u v = dl u' v ∧ dl v u = dl v u' := by
  obtain ⟨a, b⟩ := pos_scale hp hx hy
  have c1 := sgn_mul hp (show p * cross u v = cross u' v by unfold cross; rw [← hx, ← hy]; grind)
  have c2 := sgn_mul hp (show p * cross v u = cross v u' by unfold cross; rw [← hx, ← hy]; grind)
  unfold dl
  constructor <;> simp only [a, b, c1.1, c1.2.1, c2.1, c2.2.1]
theorem dl_par {u v : Pt} (h : cross u v = 0) : dl u v = 0 := by
  unfold dl; rw [h]; simp
theorem dl_z1 (v : Pt) : dl ⟨0, 0⟩ v = 0 := dl_par (by unfold cross; simp)
theorem dl_z2 (v : Pt) : dl v ⟨0, 0⟩ = 0 := dl_par (by unfold cross; simp)
theorem neg_comb {a b : Int} {p q : Pt} (ha : 0 < a) (hb : 0 ≤ b) (hp : Neg p) (hq : Neg q) : Neg (comb a p b q) := by
  rw [neg_ngt] at *
  have := pos_comb ha hb hp hq
  have e : ngt (comb a p b q) = comb a (ngt p) b (ngt q) := by unfold ngt comb; simp only [Pt.mk.injEq]; constructor <;> grind
  rw [e]; exact this
theorem tri_comb {u v w : Pt} {p r : Int} (hp : 0 < p) (hr : 0 < r) (hw : w = comb p u r v) (h : cross u v ≠ 0) : dl u w + dl w v = dl u v := by
  have c1 := sgn_mul hr (show r * cross u v = cross u w by rw [hw]; unfold cross comb; grind)
  have c2 := sgn_mul hp (show p * cross u v = cross w v by rw [hw]; unfold cross comb; grind)
  have zu : u ≠ ⟨0, 0⟩ := fun e => h (by rw [e]; unfold cross; simp)
  have zv : v ≠ ⟨0, 0⟩ := fun e => h (by rw [e]; unfold cross; simp)
  have zw : w ≠ ⟨0, 0⟩ := fun e => by
    have : cross u w = 0 := by rw [e]; unfold cross; simp
    exact h (c1.2.2.2 this)
  rcases pos_or_neg zu with hu | hu <;> rcases pos_or_neg zv with hv | hv
  · have hw' : Pos w := by rw [hw]; exact pos_comb hp (by omega) hu hv
    rw [dl_pp hu hw', dl_pp hw' hv, dl_pp hu hv]; rfl
  · rcases pos_or_neg zw with hw' | hw'
    · rw [dl_pp hu hw', dl_pn hw' hv, dl_pn hu hv]; simp only [c2.2.1]; omega
    · rw [dl_pn hu hw', dl_nn hw' hv, dl_pn hu hv]; simp only [c1.2.1]; omega
  · rcases pos_or_neg zw with hw' | hw'
    · rw [dl_np hu hw', dl_pp hw' hv, dl_np hu hv]; simp only [c1.1]; omega
    · rw [dl_nn hu hw', dl_np hw' hv, dl_np hu hv]; simp only [c2.1]; omega
  · have hw' : Neg w := by rw [hw]; exact neg_comb hp (by omega) hu hv
    rw [dl_nn hu hw', dl_nn hw' hv, dl_nn hu hv]; rfl
def pw (P : Int → Pt) (q : Pt) (a : Int) (k : Nat) : Int := sm (fun t => dl (df q (P (a + t))) (df q (P (a + t + 1)))) k
def wnd (n : Int) (P : Int → Pt) (q : Pt) : Int := pw P q 0 n.toNat
theorem sm_first (g : Int → Int) : ∀ (m : Nat) (x : Int), sm (fun t => g (x + t)) (m + 1) = g x + sm (fun t => g (x + 1 + t)) m := by
  intro m x
  induction m with
  | zero => simp [sm]
  | succ m ih =>
    have e : sm (fun t => g (x + t)) (m + 1 + 1) = sm (fun t => g (x + t)) (m + 1) + g (x + ((m + 1 : Nat) : Int)) := rfl
    rw [e, ih]
    simp only [sm]
    rw [show x + ((m + 1 : Nat) : Int) = x + 1 + (m : Int) by omega]
    omega
theorem pw_first (P : Int → Pt) (q : Pt) (a : Int) (k : Nat) : pw P q a (k + 1) = dl (df q (P a)) (df q (P (a + 1))) + pw P q (a + 1) k :=
  sm_first (fun x => dl (df q (P x)) (df q (P (x + 1)))) k a
theorem pw_last (P : Int → Pt) (q : Pt) (a : Int) (k : Nat) : pw P q a (k + 1) = pw P q a k + dl (df q (P (a + k))) (df q (P (a + k + 1))) := rfl
theorem row_pw (P : Int → Pt) (i : Int) : ∀ k : Nat, rowS P i k = pw P (P i) (i + 1) k
  | 0 => rfl
  | k + 1 => by
    rw [pw_last, rowS, row_pw P i k]
    rw [show i + 1 + (k : Int) + 1 = i + 2 + k by omega]
section
variable {n : Int} {P : Int → Pt}
theorem wnd_any (hn : 0 < n) (per : ∀ i, P (i + n) = P i) (q : Pt) (a : Int) : pw P q a n.toNat = wnd n P q := by
  obtain ⟨k, hk⟩ : ∃ k : Nat, n.toNat = k + 1 := ⟨n.toNat - 1, by omega⟩
  have nk : (k : Int) + 1 = n := by omega
  have step : ∀ a : Int, pw P q a (k + 1) = pw P q (a + 1) (k + 1) := fun a => by
    rw [pw_first, pw_last]
    rw [show a + 1 + (k : Int) = a + n by omega, show a + n + 1 = a + 1 + n by omega, per, per]
    omega
  unfold wnd
  rw [hk]
  have u : ∀ m : Nat, pw P q (m : Int) (k + 1) = pw P q 0 (k + 1) := by
    intro m
    induction m with
    | zero => rfl
    | succ m ih => rw [show ((m + 1 : Nat) : Int) = (m : Int) + 1 by omega, ← step, ih]
  have l : ∀ m : Nat, pw P q (-(m : Int)) (k + 1) = pw P q 0 (k + 1) := by
    intro m
    induction m with
    | zero => rfl
    | succ m ih =>
      rw [step, show -((m + 1 : Nat) : Int) + 1 = -(m : Int) by omega, ih]
  rcases Int.le_total 0 a with g | g
  · have := u a.toNat
    rwa [Int.toNat_of_nonneg g] at this
  · have := l (-a).toNat
    rwa [Int.toNat_of_nonneg (by omega), Int.neg_neg] at this
theorem df_self (p : Pt) : df p p = ⟨0, 0⟩ := by unfold df; simp
theorem SP.wnd_corner (h : SP n P) (i : Int) : wnd n P (P i) = cw n P i := by
  have n3 := h.n3
  obtain ⟨k, hk⟩ : ∃ k : Nat, n.toNat = k + 2 := ⟨n.toNat - 2, by omega⟩
  rw [← wnd_any (by omega) h.per (P i) i, hk, pw_first, pw_last, df_self, dl_z1]
  rw [show i + 1 + (k : Int) + 1 = i + n by omega, h.per, df_self, dl_z2]
  unfold cw
  rw [row_pw, show (n - 2).toNat = k by omega]
  omega
theorem pw_move {q q' : Pt} {a : Int} : ∀ {k : Nat}, (∀ t : Int, 0 ≤ t → t < k → ¬ Meet q q' (P (a + t)) (P (a + t + 1))) →
    pw P q a k - pw P q' a k = dl (df q (P a)) (df q' (P a)) - dl (df q (P (a + k))) (df q' (P (a + k)))
  | 0, _ => by simp [pw, sm]
  | k + 1, h => by
    have ih := pw_move (k := k) fun t h0 h1 => h t h0 (by omega)
    have c := cell_df (h k (by omega) (by omega))
    have a1 := dl_anti (df q' (P (a + k))) (df q' (P (a + k + 1)))
    have a2 := dl_anti (df q (P (a + k))) (df q' (P (a + k)))
    rw [pw_last, pw_last, show a + ((k + 1 : Nat) : Int) = a + k + 1 by omega]
    omega
theorem SP.wnd_on (h : SP n P) {j : Int} {m : Pt} (hb : Bt (P j) (P (j + 1)) m) (hm : ∀ t : Int, 1 ≤ t → t < n - 1 → ¬ Meet (P j) m (P (j + t)) (P (j + t + 1))) : wnd n P m = kap n P 0 - pp (eg P j) := by
  have n3 := h.n3
  obtain ⟨p, r, hp, hr, hx, hy⟩ := hb
  obtain ⟨k, hk⟩ : ∃ k : Nat, n.toNat = k + 2 := ⟨n.toNat - 2, by omega⟩
  have mv := pw_move (P := P) (q := P j) (q' := m) (a := j + 1) (k := k) fun t h0 h1 => by
    have := hm (t + 1) (by omega) (by omega)
    rwa [show j + (t + 1) = j + 1 + t by omega] at this
  have e0 : dl (df (P j) (P (j + 1))) (df m (P (j + 1))) = 0 := dl_par (by
    unfold cross df; simp only
    have : (p + r) * ((P (j + 1)).x - m.x) = r * ((P (j + 1)).x - (P j).x) := by grind
    have : (p + r) * ((P (j + 1)).y - m.y) = r * ((P (j + 1)).y - (P j).y) := by grind
    have z : (p + r) * (((P (j + 1)).x - (P j).x) * ((P (j + 1)).y - m.y) - ((P (j + 1)).y - (P j).y) * ((P (j + 1)).x - m.x)) = 0 := by grind
    rcases Int.mul_eq_zero.1 z with c | c
    · omega
    · exact c)
  have em : P (j + 1 + k) = P (j - 1) := by
    have := h.per (j - 1)
    rw [show j - 1 + n = j + 1 + k by omega] at this; exact this
  have e2 : P (j + 1 + k + 1) = P j := by
    have := h.per j
    rw [show j + n = j + 1 + k + 1 by omega] at this; exact this
  have w0 : dl (df m (P j)) (df m (P (j + 1))) = 0 := dl_par (by
    unfold cross df; simp only
    have z : r * (((P j).x - m.x) * ((P (j + 1)).y - m.y) - ((P j).y - m.y) * ((P (j + 1)).x - m.x)) = 0 := by grind
    rcases Int.mul_eq_zero.1 z with c | c
    · omega
    · exact c)
  have tr : dl (ngt (eg P (j - 1))) (df m (P (j - 1))) + dl (df m (P (j - 1))) (df m (P j)) = dl (ngt (eg P (j - 1))) (df m (P j)) := by
    refine tri_comb (p := 1) (r := 1) (by decide) (by decide) ?_ ?_
    · unfold comb ngt eg df; rw [show j - 1 + 1 = j by omega]; simp only [Pt.mk.injEq]; omega
    · have hc := h.cr (j - 1)
      rw [show j - 1 + 1 = j by omega] at hc
      intro z
      apply hc
      have : (p + r) * cross (ngt (eg P (j - 1))) (df m (P j)) = p * cross (eg P (j - 1)) (eg P j) := by
        unfold cross ngt eg df
        simp only
        have : (p + r) * ((P j).x - m.x) = -(p * ((P (j + 1)).x - (P j).x)) := by grind
        have : (p + r) * ((P j).y - m.y) = -(p * ((P (j + 1)).y - (P j).y)) := by grind
        grind
      rw [z, Int.mul_zero] at this
      rcases Int.mul_eq_zero.1 this.symm with c | c
      · omega
      · exact c
  have sc : dl (ngt (eg P (j - 1))) (df m (P j)) = dl (ngt (eg P (j - 1))) (ngt (eg P j)) := by
    have s1 := (dl_scale (p := p + r) (u := df m (P j)) (u' := ⟨p * (ngt (eg P j)).x, p * (ngt (eg P j)).y⟩) (v := ngt (eg P (j - 1))) (by omega) (by unfold df ngt eg df; simp only; grind) (by unfold df ngt eg df; simp only; grind)).2
    have s2 := (dl_scale (p := p) (u := ngt (eg P j)) (u' := ⟨p * (ngt (eg P j)).x, p * (ngt (eg P j)).y⟩) (v := ngt (eg P (j - 1))) (by omega) rfl rfl).2
    rw [s1, s2]
  have u1 : df (P j) (P (j - 1)) = ngt (eg P (j - 1)) := by
    unfold df ngt eg df; rw [show j - 1 + 1 = j by omega]; simp only [Pt.mk.injEq]; omega
  rw [← wnd_any (by omega) h.per m j, hk, pw_first, pw_last, w0, em, e2]
  rw [em, u1, e0] at mv
  have kp := h.kap_all j
  have hc := h.cr (j - 1)
  rw [show j - 1 + 1 = j by omega] at hc
  have dn := dl_ngt (h.nz (j - 1)) (h.nz j) hc
  have cwj : cw n P j = pw P (P j) (j + 1) k := by unfold cw; rw [row_pw, show (n - 2).toNat = k by omega]
  unfold kap at kp
  rw [cwj] at kp
  unfold kap
  unfold kap at *
  omega
theorem half_turn {a b d : Pt} {p r : Int} (hp : 0 < p) (hr : 0 < r) (hx : r * a.x + p * b.x = 0) (hy : r * a.y + p * b.y = 0) (hc : cross d b ≠ 0) :
    dl a (comb 1 a 1 d) + dl (comb 1 a 1 d) (comb 1 b 1 d) + dl (comb 1 b 1 d) b = if 0 < cross d b then pp b else pp b - 1 := by
  have ea : r * cross a d = p * cross d b := by unfold cross; grind
  have ca := sgn_mul hr ea
  have hcd : cross a d ≠ 0 := fun e => by
    have := ca.2.2.1 e
    rcases Int.mul_eq_zero.1 this with c | c
    · omega
    · exact hc c
  have t1 := tri_comb (u := a) (v := d) (w := comb 1 a 1 d) (by decide) (by decide) rfl hcd
  have t2 := tri_comb (u := d) (v := b) (w := comb 1 b 1 d) (p := 1) (r := 1) (by decide) (by decide) (by unfold comb; simp only [Pt.mk.injEq]; omega) hc
  have cab : r * cross (comb 1 a 1 d) (comb 1 b 1 d) = (p + r) * cross d b := by unfold cross comb; simp only; grind
  have t3 := tri_comb (u := comb 1 a 1 d) (v := comb 1 b 1 d) (w := ⟨(p + r) * d.x, (p + r) * d.y⟩) (p := r) (r := p) hr hp (by unfold comb; simp only [Pt.mk.injEq]; constructor <;> grind) (fun e => by
    rw [e, Int.mul_zero] at cab
    rcases Int.mul_eq_zero.1 cab.symm with c | c
    · omega
    · exact hc c)
  have s1 := (dl_scale (p := p + r) (u := d) (u' := ⟨(p + r) * d.x, (p + r) * d.y⟩) (v := comb 1 a 1 d) (by omega) rfl rfl).2
  have s2 := (dl_scale (p := p + r) (u := d) (u' := ⟨(p + r) * d.x, (p + r) * d.y⟩) (v := comb 1 b 1 d) (by omega) rfl rfl).1
  have an1 := dl_anti (comb 1 a 1 d) d
  have an2 := dl_anti d (comb 1 b 1 d)
  have total : dl a (comb 1 a 1 d) + dl (comb 1 a 1 d) (comb 1 b 1 d) + dl (comb 1 b 1 d) b = dl a d + dl d b := by omega
  rw [total]
  have zb : b ≠ ⟨0, 0⟩ := fun e => hc (by rw [e]; unfold cross; simp)
  have zd : d ≠ ⟨0, 0⟩ := fun e => hc (by rw [e]; unfold cross; simp)
  have sa := sgn_mul hr (show r * a.x = -(p * b.x) by omega)
  have sb := sgn_mul hr (show r * a.y = -(p * b.y) by omega)
  have sx := sgn_mul hp (show p * b.x = p * b.x from rfl)
  have sy := sgn_mul hp (show p * b.y = p * b.y from rfl)
  have cp := sgn_mul hp (show p * cross d b = r * cross a d by omega)
  have cr := sgn_mul hr (show r * cross a d = r * cross a d from rfl)
  unfold pp
  rcases pos_or_neg zb with hb | hb
  · have ha : Neg a := by unfold Neg; unfold Pos at hb; omega
    rw [if_pos hb]
    rcases pos_or_neg zd with hd | hd
    · rw [dl_np ha hd, dl_pp hd hb]
      repeat' split
      all_goals omega
    · rw [dl_nn ha hd, dl_np hd hb]
      repeat' split
      all_goals omega
  · have ha : Pos a := by unfold Pos; unfold Neg at hb; omega
    rw [if_neg (neg_not_pos hb)]
    rcases pos_or_neg zd with hd | hd
    · rw [dl_pp ha hd, dl_pn hd hb]
      repeat' split
      all_goals omega
    · rw [dl_pn ha hd, dl_nn hd hb]
      repeat' split
      all_goals omega
theorem SP.wnd_by (h : SP n P) {j : Int} {m q : Pt} (hb : Bt (P j) (P (j + 1)) m) (hm : ∀ t : Int, 1 ≤ t → t < n - 1 → ¬ Meet (P j) m (P (j + t)) (P (j + t + 1)))
    (hq : turn (P j) (P (j + 1)) q ≠ 0) (hv : ∀ t : Int, 1 ≤ t → t < n → ¬ Meet m q (P (j + t)) (P (j + t + 1))) : wnd n P q = if 0 < turn (P j) (P (j + 1)) q then kap n P 0 else kap n P 0 - 1 := by
  have n3 := h.n3
  have on := h.wnd_on hb hm
  obtain ⟨p, r, hp, hr, hx, hy⟩ := hb
  obtain ⟨k, hk⟩ : ∃ k : Nat, n.toNat = k + 1 := ⟨n.toNat - 1, by omega⟩
  have mv := pw_move (P := P) (q := m) (q' := q) (a := j + 1) (k := k) fun t h0 h1 => by
    have := hv (t + 1) (by omega) (by omega)
    rwa [show j + (t + 1) = j + 1 + t by omega] at this
  have e2 : P (j + 1 + k) = P j := by
    have := h.per j
    rw [show j + n = j + 1 + k by omega] at this; exact this
  rw [e2] at mv
  have w0 : dl (df m (P j)) (df m (P (j + 1))) = 0 := dl_par (by
    unfold cross df; simp only
    have z : r * (((P j).x - m.x) * ((P (j + 1)).y - m.y) - ((P j).y - m.y) * ((P (j + 1)).x - m.x)) = 0 := by grind
    rcases Int.mul_eq_zero.1 z with c | c
    · omega
    · exact c)
  rw [← wnd_any (by omega) h.per m j, hk, pw_first, w0] at on
  rw [← wnd_any (by omega) h.per q j, hk, pw_first]
  have key : (p + r) * cross (df q m) (df m (P (j + 1))) = r * turn (P j) (P (j + 1)) q := by
    unfold cross df turn; simp only; grind
  have ck := sgn_mul (show 0 < p + r by omega) key
  have ck2 := sgn_mul hr (show r * turn (P j) (P (j + 1)) q = r * turn (P j) (P (j + 1)) q from rfl)
  have ht := half_turn (a := df m (P j)) (b := df m (P (j + 1))) (d := df q m) hp hr (by unfold df; simp only; grind) (by unfold df; simp only; grind) (by intro z; apply hq; have := ck.2.2.1 z; exact ck2.2.2.2 this)
  have c1 : comb 1 (df m (P j)) 1 (df q m) = df q (P j) := by unfold comb df; simp only [Pt.mk.injEq]; omega
  have c2 : comb 1 (df m (P (j + 1))) 1 (df q m) = df q (P (j + 1)) := by unfold comb df; simp only [Pt.mk.injEq]; omega
  rw [c1, c2] at ht
  have pe : pp (df m (P (j + 1))) = pp (eg P j) := by
    have s1 := pos_scale (p := p + r) (u := df m (P (j + 1))) (v := ⟨r * (eg P j).x, r * (eg P j).y⟩) (by omega) (by unfold eg df; simp only; grind) (by unfold eg df; simp only; grind)
    have s2 := pos_scale (p := r) (u := eg P j) (v := ⟨r * (eg P j).x, r * (eg P j).y⟩) hr rfl rfl
    unfold pp
    simp only [s1.1, s2.1]
  rw [pe] at ht
  have an := dl_anti (df m (P (j + 1))) (df q (P (j + 1)))
  by_cases c : 0 < turn (P j) (P (j + 1)) q
  · rw [if_pos c]
    rw [if_pos (by omega)] at ht
    omega
  · rw [if_neg c]
    rw [if_neg (by omega)] at ht
    omega
end
end Go.AM
namespace Go.AM
theorem OnL.aff {A B m : Pt} (h : OnL A B m) : ∃ p r : Int, 0 ≤ p ∧ 0 ≤ r ∧ 0 < p + r ∧ (∀ U V, (p + r) * turn U V m = r * turn U V A + p * turn U V B) ∧ (p = 0 → m = A) ∧ (r = 0 → m = B) := by
  obtain ⟨hz, hx, hy⟩ := h
  rw [mul_le0] at hx hy
  by_cases cx : A.x = B.x
  · by_cases cy : A.y = B.y
    · have e1 : m.x = A.x := by omega
      have e2 : m.y = A.y := by omega
      have e3 : m = A := by cases m; cases A; simp_all
      have e4 : A = B := by cases A; cases B; simp_all
      exact ⟨0, 1, by omega, by omega, by omega, fun U V => by rw [e3]; omega, fun _ => e3, fun h => by omega⟩
    · have e1 : m.x = A.x := by omega
      have ey : ∀ U V, (B.y - A.y) * turn U V m = (B.y - m.y) * turn U V A + (m.y - A.y) * turn U V B := fun U V => by
        have : (B.y - A.y) * turn U V m = (B.y - m.y) * turn U V A + (m.y - A.y) * turn U V B + (V.y - U.y) * turn A B m := by unfold turn; grind
        rw [hz] at this; omega
      rcases Int.lt_or_gt_of_ne cy with c | c
      · refine ⟨m.y - A.y, B.y - m.y, by omega, by omega, by omega, fun U V => ?_, fun h => ?_, fun h => ?_⟩
        · rw [← ey]; congr 1; omega
        · cases m; cases A; simp only at *; simp; omega
        · cases m; cases B; simp only at *; simp; omega
      · refine ⟨A.y - m.y, m.y - B.y, by omega, by omega, by omega, fun U V => ?_, fun h => ?_, fun h => ?_⟩
        · have := ey U V
          grind
        · cases m; cases A; simp only at *; simp; omega
        · cases m; cases B; simp only at *; simp; omega
  · have ex : ∀ U V, (B.x - A.x) * turn U V m = (B.x - m.x) * turn U V A + (m.x - A.x) * turn U V B := fun U V => by
      have : (B.x - A.x) * turn U V m = (B.x - m.x) * turn U V A + (m.x - A.x) * turn U V B + (V.x - U.x) * turn A B m := by unfold turn; grind
      rw [hz] at this; omega
    have yy : (B.x - A.x) * (m.y - A.y) = (B.y - A.y) * (m.x - A.x) := by unfold turn at hz; omega
    have ends : (m.x = A.x → m = A) ∧ (m.x = B.x → m = B) := by
      constructor
      · intro e
        rw [e, Int.sub_self, Int.mul_zero] at yy
        rcases Int.mul_eq_zero.1 yy with c | c
        · omega
        · cases m; cases A; simp only at *; simp; omega
      · intro e
        have : (B.x - A.x) * (m.y - B.y) = 0 := by rw [e] at yy; grind
        rcases Int.mul_eq_zero.1 this with c | c
        · omega
        · cases m; cases B; simp only at *; simp; omega
    rcases Int.lt_or_gt_of_ne cx with c | c
    · refine ⟨m.x - A.x, B.x - m.x, by omega, by omega, by omega, fun U V => ?_, fun h => ends.1 (by omega), fun h => ends.2 (by omega)⟩
      rw [← ex]; congr 1; omega
    · refine ⟨A.x - m.x, m.x - B.x, by omega, by omega, by omega, fun U V => ?_, fun h => ends.1 (by omega), fun h => ends.2 (by omega)⟩
      have := ex U V
      grind
theorem sg_opp {x y : Int} : sg x * sg y < 0 ↔ (x < 0 ∧ 0 < y) ∨ (0 < x ∧ y < 0) := by
  have h : ∀ z : Int, (z < 0 ∧ sg z = -1) ∨ (z = 0 ∧ sg z = 0) ∨ (0 < z ∧ sg z = 1) := fun z => by
    unfold sg
    rcases Int.lt_trichotomy z 0 with c | c | c
    · left; rw [if_neg (by omega), if_pos c]; exact ⟨c, rfl⟩
    · right; left; subst c; exact ⟨rfl, rfl⟩
    · right; right; rw [if_pos c]; exact ⟨c, rfl⟩
  rcases h x with ⟨a, e⟩ | ⟨a, e⟩ | ⟨a, e⟩ <;> rcases h y with ⟨b, k⟩ | ⟨b, k⟩ | ⟨b, k⟩ <;> rw [e, k] <;> omega
theorem side_not_meet {m q C D : Pt} (h : (0 < turn C D m ∧ 0 < turn C D q) ∨ (turn C D m < 0 ∧ turn C D q < 0)) : ¬ Meet m q C D := by
  have tc : turn C D C = 0 := by unfold turn; grind
  have td : turn C D D = 0 := by unfold turn; grind
  have key : ∀ x : Pt, turn C D x = 0 → ¬ OnL m q x := fun x hx ho => by
    obtain ⟨p, r, hp, hr, hpr, ha, _, _⟩ := ho.aff
    have e := ha C D
    rw [hx, Int.mul_zero] at e
    rcases h with ⟨h1, h2⟩ | ⟨h1, h2⟩
    · have a1 := Int.mul_nonneg hr (show 0 ≤ turn C D m by omega)
      have a2 := Int.mul_nonneg hp (show 0 ≤ turn C D q by omega)
      rcases Int.lt_or_le 0 r with c | c
      · have := Int.mul_pos c h1; omega
      · have := Int.mul_pos (show 0 < p by omega) h2; omega
    · have a1 := Int.mul_nonneg hr (show 0 ≤ -turn C D m by omega)
      have a2 := Int.mul_nonneg hp (show 0 ≤ -turn C D q by omega)
      rw [Int.mul_neg] at a1 a2
      rcases Int.lt_or_le 0 r with c | c
      · have := Int.mul_neg_of_pos_of_neg c h1; omega
      · have := Int.mul_neg_of_pos_of_neg (show 0 < p by omega) h2; omega
  rintro (a | a | a | a | ⟨a, b⟩)
  · exact key C tc a
  · exact key D td a
  · have := a.1; omega
  · have := a.1; omega
  · rw [sg_opp] at b; omega
theorem apart_q {m q C D : Pt} (hm : q.x < m.x) (h1 : C.x ≤ q.x) (h2 : D.x ≤ q.x) (ho : ¬ OnL C D q) : ¬ Meet m q C D := by
  have e1 : turn m q D * (C.x - q.x) - turn m q C * (D.x - q.x) + turn C D q * (m.x - q.x) = 0 := by unfold turn; grind
  have e2 : turn m q D - turn m q C + turn C D q - turn C D m = 0 := by unfold turn; grind
  have on : ∀ x : Pt, x.x ≤ q.x → OnL m q x → x = q := fun x hx h => by
    have a := h.2.1
    rw [mul_le0] at a
    have ex : x.x = q.x := by omega
    have hz := h.1
    have : (q.x - m.x) * (x.y - q.y) = 0 := by unfold turn at hz; rw [ex] at hz; grind
    rcases Int.mul_eq_zero.1 this with c | c
    · omega
    · cases x; cases q; simp only at *; simp; omega
  have oC : OnL C D C := ⟨by unfold turn; grind, by simp, by simp⟩
  have oD : OnL C D D := ⟨by unfold turn; grind, by simp, by simp⟩
  rintro (a | a | a | a | ⟨a, b⟩)
  · exact ho (on C h1 a ▸ oC)
  · exact ho (on D h2 a ▸ oD)
  · have := a.2.1; rw [mul_le0] at this; omega
  · exact ho a
  · rw [sg_opp] at a b
    rcases a with ⟨a1, a2⟩ | ⟨a1, a2⟩ <;> rcases b with ⟨b1, b2⟩ | ⟨b1, b2⟩
    · omega
    · have x1 := Int.mul_nonneg (show 0 ≤ turn m q D by omega) (show 0 ≤ -(C.x - q.x) by omega)
      have x2 := Int.mul_nonneg (show 0 ≤ -turn m q C by omega) (show 0 ≤ -(D.x - q.x) by omega)
      have x3 := Int.mul_pos (show 0 < -turn C D q by omega) (show 0 < m.x - q.x by omega)
      rw [Int.mul_neg] at x1
      rw [Int.neg_mul, Int.mul_neg] at x2
      rw [Int.neg_mul] at x3
      omega
    · have x1 := Int.mul_nonneg (show 0 ≤ -turn m q D by omega) (show 0 ≤ -(C.x - q.x) by omega)
      have x2 := Int.mul_nonneg (show 0 ≤ turn m q C by omega) (show 0 ≤ -(D.x - q.x) by omega)
      have x3 := Int.mul_pos (show 0 < turn C D q by omega) (show 0 < m.x - q.x by omega)
      rw [Int.neg_mul, Int.mul_neg] at x1
      rw [Int.mul_neg] at x2
      omega
    · omega
def gap (A B C D : Pt) (x : Int) : Int := (B.x - A.x) * ((D.x - C.x) * C.y + (D.y - C.y) * (x - C.x)) - (D.x - C.x) * ((B.x - A.x) * A.y + (B.y - A.y) * (x - A.x))
theorem gap_q (A B C D q : Pt) : (D.x - C.x) * turn A B q - (B.x - A.x) * turn C D q = gap A B C D q.x := by
  unfold gap turn; grind
theorem gap_1 {A B C D : Pt} {x1 f g : Int} (ef : turn A B ⟨x1, f⟩ = 0) (eg : turn C D ⟨x1, g⟩ = 0) : (B.x - A.x) * (D.x - C.x) * (g - f) = gap A B C D x1 := by
  have e1 : (B.x - A.x) * f = (B.x - A.x) * A.y + (B.y - A.y) * (x1 - A.x) := by unfold turn at ef; grind
  have e2 : (D.x - C.x) * g = (D.x - C.x) * C.y + (D.y - C.y) * (x1 - C.x) := by unfold turn at eg; grind
  unfold gap
  rw [← e1, ← e2]; grind
theorem gap_ab {A B X : Pt} (C D : Pt) (h : turn A B X = 0) : (B.x - A.x) * (-turn C D X) = gap A B C D X.x := by
  have e1 : (B.x - A.x) * X.y = (B.x - A.x) * A.y + (B.y - A.y) * (X.x - A.x) := by unfold turn at h; grind
  unfold gap
  rw [← e1]; unfold turn; grind
theorem gap_cd {C D X : Pt} (A B : Pt) (h : turn C D X = 0) : (D.x - C.x) * turn A B X = gap A B C D X.x := by
  have e1 : (D.x - C.x) * X.y = (D.x - C.x) * C.y + (D.y - C.y) * (X.x - C.x) := by unfold turn at h; grind
  unfold gap
  rw [← e1]; unfold turn; grind
theorem gap_aff (A B C D : Pt) (x u x1 : Int) : (x1 - u) * gap A B C D x = gap A B C D u * (x1 - x) + gap A B C D x1 * (x - u) := by
  unfold gap; grind
theorem gap_swap (A B C D : Pt) (x : Int) : gap C D A B x = - gap A B C D x := by unfold gap; grind
theorem pos2 {s h t z : Int} (hs : 0 < s) (hh : 0 < h) (e : s * (h * t) = z) : (0 < t ↔ 0 < z) ∧ (t < 0 ↔ z < 0) ∧ (t = 0 ↔ z = 0) := by
  have a := sgn_mul hs e
  have b := sgn_mul hh (show h * t = h * t from rfl)
  omega
theorem fall {x u x1 g0 g1 : Int} (hu : u < x1) (h0 : 0 < g0) (h1 : g1 ≤ 0) : (x ≤ u → 0 < g0 * (x1 - x) + g1 * (x - u)) ∧ (x1 < x → g0 * (x1 - x) + g1 * (x - u) < 0) := by
  constructor
  · intro h
    have m1 := Int.mul_pos h0 (show 0 < x1 - x by omega)
    have m2 := Int.mul_nonneg (show 0 ≤ -g1 by omega) (show 0 ≤ u - x by omega)
    have e : -g1 * (u - x) = g1 * (x - u) := by grind
    omega
  · intro h
    have m1 := Int.mul_pos h0 (show 0 < x - x1 by omega)
    have m2 := Int.mul_nonneg (show 0 ≤ -g1 by omega) (show 0 ≤ x - u by omega)
    have e1 : g0 * (x1 - x) = -(g0 * (x - x1)) := by grind
    have e2 : -g1 * (x - u) = -(g1 * (x - u)) := by grind
    omega
theorem strip_down {A B C D : Pt} {u x1 : Int} (hx : u < x1) (hA : A.x ≤ u) (hB : x1 < B.x) (hC : C.x ≤ u) (hD : x1 < D.x)
    (good : ¬ Meet A B C D ∨ A = C ∨ B = D) (h0 : 0 < gap A B C D u) (h1 : gap A B C D x1 ≤ 0) : False := by
  have hA0 : 0 < B.x - A.x := by omega
  have hC0 : 0 < D.x - C.x := by omega
  have tAA : turn A B A = 0 := by unfold turn; grind
  have tAB : turn A B B = 0 := by unfold turn; grind
  have tCC : turn C D C = 0 := by unfold turn; grind
  have tCD : turn C D D = 0 := by unfold turn; grind
  have sA := pos2 (show 0 < x1 - u by omega) hA0 (by rw [gap_ab C D tAA, gap_aff])
  have sB := pos2 (show 0 < x1 - u by omega) hA0 (by rw [gap_ab C D tAB, gap_aff])
  have sC := pos2 (show 0 < x1 - u by omega) hC0 (by rw [gap_cd A B tCC, gap_aff])
  have sD := pos2 (show 0 < x1 - u by omega) hC0 (by rw [gap_cd A B tCD, gap_aff])
  have fA := (fall (x := A.x) hx h0 h1).1 hA
  have fB := (fall (x := B.x) hx h0 h1).2 hB
  have fC := (fall (x := C.x) hx h0 h1).1 hC
  have fD := (fall (x := D.x) hx h0 h1).2 hD
  have kA : turn C D A < 0 := by have := sA.1.2 fA; omega
  have kB : 0 < turn C D B := by have := sB.2.1.2 fB; omega
  have kC : 0 < turn A B C := sC.1.2 fC
  have kD : turn A B D < 0 := sD.2.1.2 fD
  rcases good with g | g | g
  · exact g (.inr (.inr (.inr (.inr ⟨sg_opp.2 (.inr ⟨kC, kD⟩), sg_opp.2 (.inl ⟨kA, kB⟩)⟩))))
  · subst g; omega
  · subst g; omega
theorem onL_x {A B C : Pt} (hz : turn A B C = 0) (h0 : A.x < B.x) (h1 : A.x ≤ C.x) (h2 : C.x ≤ B.x) : OnL A B C := by
  refine ⟨hz, by rw [mul_le0]; left; omega, ?_⟩
  have y1 : (B.x - A.x) * (C.y - A.y) = (B.y - A.y) * (C.x - A.x) := by unfold turn at hz; omega
  have y2 : (B.x - A.x) * (B.y - C.y) = (B.y - A.y) * (B.x - C.x) := by grind
  have sq : (A.y - C.y) * (B.y - C.y) * ((B.x - A.x) * (B.x - A.x)) = -((B.y - A.y) * (B.y - A.y) * ((C.x - A.x) * (B.x - C.x))) := by
    have : (A.y - C.y) * (B.y - C.y) * ((B.x - A.x) * (B.x - A.x)) = -(((B.x - A.x) * (C.y - A.y)) * ((B.x - A.x) * (B.y - C.y))) := by grind
    rw [this, y1, y2]; grind
  have n1 := Int.mul_nonneg (mul_self_nn (B.y - A.y)) (Int.mul_nonneg (show 0 ≤ C.x - A.x by omega) (show 0 ≤ B.x - C.x by omega))
  rcases Int.lt_or_le 0 ((A.y - C.y) * (B.y - C.y)) with p | p
  · have := Int.mul_pos p (Int.mul_pos (show 0 < B.x - A.x by omega) (show 0 < B.x - A.x by omega)); omega
  · exact p
theorem strip_flat {A B C D : Pt} {u x1 : Int} (hx : u < x1) (hA : A.x ≤ u) (hB : x1 < B.x) (hC : C.x ≤ u) (hD : x1 < D.x)
    (good : ¬ Meet A B C D ∨ (A = C ∧ turn A B D ≠ 0) ∨ (B = D ∧ turn A B C ≠ 0)) (h0 : gap A B C D u = 0) (h1 : gap A B C D x1 = 0) : False := by
  have hA0 : 0 < B.x - A.x := by omega
  have hC0 : 0 < D.x - C.x := by omega
  have tAA : turn A B A = 0 := by unfold turn; grind
  have tCC : turn C D C = 0 := by unfold turn; grind
  have tCD : turn C D D = 0 := by unfold turn; grind
  have z : ∀ x, gap A B C D x = 0 := fun x => by
    have := gap_aff A B C D x u x1
    rw [h0, h1] at this
    simp only [Int.zero_mul, Int.add_zero] at this
    rcases Int.mul_eq_zero.1 this with c | c
    · omega
    · exact c
  have kA : turn C D A = 0 := by
    have := gap_ab C D tAA
    rw [z] at this
    rcases Int.mul_eq_zero.1 this with c | c <;> omega
  have kC : turn A B C = 0 := by
    have := gap_cd A B tCC
    rw [z] at this
    rcases Int.mul_eq_zero.1 this with c | c <;> omega
  have kD : turn A B D = 0 := by
    have := gap_cd A B tCD
    rw [z] at this
    rcases Int.mul_eq_zero.1 this with c | c <;> omega
  rcases good with g | ⟨_, g⟩ | ⟨_, g⟩
  · rcases Int.lt_or_le A.x C.x with k | k
    · exact g (.inl (onL_x kC (by omega) (by omega) (by omega)))
    · exact g (.inr (.inr (.inl (onL_x kA (by omega) (by omega) (by omega)))))
  · exact g kD
  · exact g kC
theorem strip_order {A B C D q : Pt} {x1 f g : Int} (hx : q.x < x1) (hA : A.x ≤ q.x) (hB : x1 < B.x) (hC : C.x ≤ q.x) (hD : x1 < D.x)
    (ef : turn A B ⟨x1, f⟩ = 0) (eg : turn C D ⟨x1, g⟩ = 0) (good : ¬ Meet A B C D ∨ (A = C ∧ turn A B D ≠ 0) ∨ (B = D ∧ turn A B C ≠ 0)) :
    f ≠ g ∧ (0 < turn A B q → turn C D q < 0 → f < g) := by
  have hA0 : 0 < B.x - A.x := by omega
  have hC0 : 0 < D.x - C.x := by omega
  have g1 : ¬ Meet A B C D ∨ A = C ∨ B = D := by
    rcases good with g | ⟨g, _⟩ | ⟨g, _⟩
    · exact .inl g
    · exact .inr (.inl g)
    · exact .inr (.inr g)
  have g2 : ¬ Meet C D A B ∨ C = A ∨ D = B := by
    rcases good with g | ⟨g, _⟩ | ⟨g, _⟩
    · exact .inl fun m => g (meet_sym.1 m)
    · exact .inr (.inl g.symm)
    · exact .inr (.inr g.symm)
  have e1 := gap_1 ef eg
  have s1 := sgn_mul (Int.mul_pos hA0 hC0) e1
  have sw1 := gap_swap A B C D x1
  have swu := gap_swap A B C D q.x
  constructor
  · intro e
    have z : gap A B C D x1 = 0 := by rw [← e1, e, Int.sub_self, Int.mul_zero]
    rcases Int.lt_trichotomy (gap A B C D q.x) 0 with c | c | c
    · exact strip_down hx hC hD hA hB g2 (by omega) (by omega)
    · exact strip_flat hx hA hB hC hD good c z
    · exact strip_down hx hA hB hC hD g1 c (by omega)
  · intro h1 h2
    have m1 := Int.mul_pos hC0 h1
    have m2 := Int.mul_pos hA0 (show 0 < -turn C D q by omega)
    rw [Int.mul_neg] at m2
    have gq := gap_q A B C D q
    rcases Int.lt_or_le f g with k | k
    · exact k
    · exact (strip_down hx hA hB hC hD g1 (by omega) (by omega)).elim
end Go.AM
namespace Go.AM
theorem bt1 {p r u v : Int} (hp : 0 < p) (hr : 0 < r) (h : r * u = p * v) : (0 < u ∧ 0 < v) ∨ (u = 0 ∧ v = 0) ∨ (u < 0 ∧ v < 0) := by
  have a := sgn_mul hr h
  have b := sgn_mul hp (show p * v = p * v from rfl)
  omega
theorem Bt.on {A B m : Pt} (h : Bt A B m) : OnL A B m := by
  obtain ⟨p, r, hp, hr, hx, hy⟩ := h
  have a := bt1 hp hr hx
  have b := bt1 hp hr hy
  refine ⟨?_, by rw [mul_le0]; omega, by rw [mul_le0]; omega⟩
  have e := bt_aff hx hy A B
  have z1 : turn A B A = 0 := by unfold turn; grind
  have z2 : turn A B B = 0 := by unfold turn; grind
  rw [z1, z2, Int.mul_zero, Int.mul_zero] at e
  rcases Int.mul_eq_zero.1 e with c | c
  · omega
  · exact c
theorem turn_am {A B m : Pt} {p r : Int} (hx : r * (m.x - A.x) = p * (B.x - m.x)) (hy : r * (m.y - A.y) = p * (B.y - m.y)) (v : Pt) : (p + r) * turn A m v = p * turn A B v := by
  have e1 : (p + r) * (m.x - A.x) = p * (B.x - A.x) := by grind
  have e2 : (p + r) * (m.y - A.y) = p * (B.y - A.y) := by grind
  have : (p + r) * turn A m v = ((p + r) * (m.x - A.x)) * (v.y - A.y) - ((p + r) * (m.y - A.y)) * (v.x - A.x) := by unfold turn; grind
  rw [this, e1, e2]; unfold turn; grind
theorem pt_ne {A B : Pt} (h : A ≠ B) : A.x ≠ B.x ∨ A.y ≠ B.y := by
  by_cases c : A.x = B.x
  · right; intro d; apply h; cases A; cases B; simp only at *; simp [c, d]
  · exact .inl c
theorem col3 {A B C D : Pt} (hAB : A ≠ B) (h1 : turn A B C = 0) (h2 : turn A B D = 0) : turn C D A = 0 := by
  have e1 : (B.x - A.x) * turn C D A = (C.x - A.x) * turn A B D - (D.x - A.x) * turn A B C := by unfold turn; grind
  have e2 : (B.y - A.y) * turn C D A = (C.y - A.y) * turn A B D - (D.y - A.y) * turn A B C := by unfold turn; grind
  rw [h1, h2] at e1 e2
  simp only [Int.mul_zero, Int.sub_zero] at e1 e2
  rcases Int.mul_eq_zero.1 e1 with c | c
  · rcases Int.mul_eq_zero.1 e2 with d | d
    · exact absurd (by cases A; cases B; simp only at *; simp; omega) hAB
    · exact d
  · exact c
theorem onL_x' {A B C : Pt} (hz : turn A B C = 0) (h0 : A.x ≠ B.x) (h : (A.x ≤ C.x ∧ C.x ≤ B.x) ∨ (B.x ≤ C.x ∧ C.x ≤ A.x)) : OnL A B C := by
  rcases h with ⟨a, b⟩ | ⟨a, b⟩
  · exact onL_x hz (by omega) a b
  · exact onL_rev.1 (onL_x (A := B) (B := A) (by rw [turn_swap]; omega) (by omega) a b)
theorem meet_common {A B C D m : Pt} (hAB : A ≠ B) (hCD : C ≠ D) (hb : Bt A B m) (ho : OnL C D m) : Meet A B C D := by
  have on := hb.on
  obtain ⟨p, r, hp, hr, hx, hy⟩ := hb
  obtain ⟨p', r', hp', hr', hpr', ha', c0, d0⟩ := ho.aff
  have t := bt_aff hx hy C D
  rw [ho.1, Int.mul_zero] at t
  have s := ha' A B
  rw [on.1, Int.mul_zero] at s
  have bx := bt1 hp hr hx
  have by_ := bt1 hp hr hy
  by_cases t1 : turn C D A = 0
  · have t2 : turn C D B = 0 := by
      rw [t1, Int.mul_zero, Int.zero_add] at t
      rcases Int.mul_eq_zero.1 t.symm with c | c <;> omega
    have s1 : turn A B C = 0 := col3 hCD t1 t2
    have s2 : turn A B D = 0 := col3 (A := D) (B := C) hCD.symm (by rw [turn_swap]; omega) (by rw [turn_swap]; omega)
    have ox := ho.2.1
    have oy := ho.2.2
    rw [mul_le0] at ox oy
    by_cases cx : C.x = D.x
    · have cy : C.y ≠ D.y := (pt_ne hCD).resolve_left fun h => h cx
      have ax : A.x = C.x := by
        have : (D.y - C.y) * (A.x - C.x) = 0 := by unfold turn at t1; rw [cx] at t1; rw [cx]; grind
        rcases Int.mul_eq_zero.1 this with c | c <;> omega
      have bxx : B.x = C.x := by
        have : (D.y - C.y) * (B.x - C.x) = 0 := by unfold turn at t2; rw [cx] at t2; rw [cx]; grind
        rcases Int.mul_eq_zero.1 this with c | c <;> omega
      have z1 : (A.x - C.x) * (B.x - C.x) ≤ 0 := by rw [mul_le0]; omega
      have z2 : (A.x - D.x) * (B.x - D.x) ≤ 0 := by rw [mul_le0]; omega
      have z3 : (C.x - A.x) * (D.x - A.x) ≤ 0 := by rw [mul_le0]; omega
      by_cases k1 : (A.y - C.y) * (B.y - C.y) ≤ 0
      · exact .inl ⟨s1, z1, k1⟩
      · by_cases k2 : (A.y - D.y) * (B.y - D.y) ≤ 0
        · exact .inr (.inl ⟨s2, z2, k2⟩)
        · refine .inr (.inr (.inl ⟨t1, z3, ?_⟩))
          rw [mul_le0] at k1 k2 ⊢
          omega
    · have ax : A.x ≠ B.x := by
        intro e
        have : (D.x - C.x) * (A.y - B.y) = 0 := by unfold turn at t1 t2; rw [e] at t1; grind
        rcases Int.mul_eq_zero.1 this with c | c
        · omega
        · exact hAB (by cases A; cases B; simp only at *; simp; omega)
      by_cases k1 : (A.x ≤ C.x ∧ C.x ≤ B.x) ∨ (B.x ≤ C.x ∧ C.x ≤ A.x)
      · exact .inl (onL_x' s1 ax k1)
      · by_cases k2 : (A.x ≤ D.x ∧ D.x ≤ B.x) ∨ (B.x ≤ D.x ∧ D.x ≤ A.x)
        · exact .inr (.inl (onL_x' s2 ax k2))
        · exact .inr (.inr (.inl (onL_x' t1 cx (by omega))))
  · by_cases p0 : p' = 0
    · exact .inl (c0 p0 ▸ on)
    · by_cases r0 : r' = 0
      · exact .inr (.inl (d0 r0 ▸ on))
      · have a := bt1 (u := turn C D A) (v := -turn C D B) hp hr (by rw [Int.mul_neg]; omega)
        have b := bt1 (u := turn A B C) (v := -turn A B D) (show 0 < p' by omega) (show 0 < r' by omega) (by rw [Int.mul_neg]; omega)
        have nz : turn A B C ≠ 0 := fun e => t1 (col3 hAB e (by omega))
        exact .inr (.inr (.inr (.inr ⟨sg_opp.2 (by omega), sg_opp.2 (by omega)⟩)))
theorem sub_meet {A B C D m : Pt} (hAB : A ≠ B) (hCD : C ≠ D) (hb : Bt A B m) (h : Meet A m C D) : Meet A B C D := by
  have hb' := hb
  obtain ⟨p, r, hp, hr, hx, hy⟩ := hb
  have bx := bt1 hp hr hx
  have by_ := bt1 hp hr hy
  have on : ∀ v : Pt, OnL A m v → OnL A B v := fun v hv => by
    obtain ⟨z, a, b⟩ := hv
    rw [mul_le0] at a b
    have e := turn_am hx hy v
    rw [z, Int.mul_zero] at e
    refine ⟨?_, by rw [mul_le0]; omega, by rw [mul_le0]; omega⟩
    rcases Int.mul_eq_zero.1 e.symm with c | c <;> omega
  rcases h with a | a | a | a | ⟨a, b⟩
  · exact .inl (on C a)
  · exact .inr (.inl (on D a))
  · exact .inr (.inr (.inl a))
  · exact meet_common hAB hCD hb' a
  · rw [sg_opp] at a b
    have eC := turn_am hx hy C
    have eD := turn_am hx hy D
    have sC := bt1 (u := turn A m C) (v := turn A B C) hp (show 0 < p + r by omega) eC
    have sD := bt1 (u := turn A m D) (v := turn A B D) hp (show 0 < p + r by omega) eD
    have e := bt_aff hx hy C D
    refine .inr (.inr (.inr (.inr ⟨sg_opp.2 (by omega), sg_opp.2 ?_⟩)))
    rcases b with ⟨b1, b2⟩ | ⟨b1, b2⟩
    · left
      refine ⟨b1, ?_⟩
      have m1 := Int.mul_pos (show 0 < p + r by omega) b2
      have m2 := Int.mul_neg_of_pos_of_neg hr b1
      exact (sgn_mul hp (show p * turn C D B = p * turn C D B from rfl)).1.2 (by omega)
    · right
      refine ⟨b1, ?_⟩
      have m1 := Int.mul_neg_of_pos_of_neg (show 0 < p + r by omega) b2
      have m2 := Int.mul_pos hr b1
      exact (sgn_mul hp (show p * turn C D B = p * turn C D B from rfl)).2.1.2 (by omega)
theorem next_not_meet {A B D m : Pt} (hb : Bt A B m) (hd : turn A B D ≠ 0) : ¬ Meet A m B D := by
  obtain ⟨p, r, hp, hr, hx, hy⟩ := hb
  have bx := bt1 hp hr hx
  have by_ := bt1 hp hr hy
  have eD := turn_am hx hy D
  have sD := bt1 (u := turn A m D) (v := turn A B D) hp (show 0 < p + r by omega) eD
  have eB := turn_am hx hy B
  have z1 : turn A B B = 0 := by unfold turn; grind
  have z2 : turn B D B = 0 := by unfold turn; grind
  have z3 : turn B D A = turn A B D := by unfold turn; grind
  rw [z1, Int.mul_zero] at eB
  have zB : turn A m B = 0 := by rcases Int.mul_eq_zero.1 eB with c | c <;> omega
  have em := bt_aff hx hy B D
  rw [z2, z3, Int.mul_zero, Int.add_zero] at em
  have sm_ := bt1 (u := turn A B D) (v := turn B D m) (show 0 < p + r by omega) hr em.symm
  rintro (a | a | a | a | ⟨a, b⟩)
  · obtain ⟨_, a1, a2⟩ := a
    rw [mul_le0] at a1 a2
    apply hd
    have h1 : A.x = B.x := by omega
    have h2 : A.y = B.y := by omega
    unfold turn; rw [h1, h2]; grind
  · have := a.1; omega
  · have := a.1; omega
  · have := a.1; omega
  · rw [zB] at a
    have : sg 0 = 0 := rfl
    rw [this, Int.zero_mul] at a
    omega
section
variable {n : Int} {P : Int → Pt}
theorem SP.parts (h : SP n P) {j : Int} {m : Pt} (hb : Bt (P j) (P (j + 1)) m) : ∀ t : Int, 1 ≤ t → t < n - 1 → ¬ Meet (P j) m (P (j + t)) (P (j + t + 1)) := fun t h1 h2 => by
  have n3 := h.n3
  by_cases c : t = 1
  · subst c
    refine next_not_meet hb ?_
    rw [show j + 1 + 1 = j + 2 by omega]
    exact h.bend j
  · intro hm
    exact h.apart j (j + t) (by omega) (by omega) (sub_meet (h.ne (by omega) (by omega)) (h.ne (by omega) (by omega)) hb hm)
theorem SP.wnd_at (h : SP n P) {j : Int} {m : Pt} (hb : Bt (P j) (P (j + 1)) m) : wnd n P m = kap n P 0 - pp (eg P j) := h.wnd_on hb (h.parts hb)
theorem apart_r {m q C D : Pt} {M : Int} (hm : m.x ≤ M) (hq : q.x ≤ M) (h1 : M < C.x) (h2 : M < D.x) : ¬ Meet m q C D := by
  have e1 : turn m q D * (C.x - M) - turn m q C * (D.x - M) + turn C D q * (m.x - M) - turn C D m * (q.x - M) = 0 := by unfold turn; grind
  have e2 : turn m q D - turn m q C + turn C D q - turn C D m = 0 := by unfold turn; grind
  rintro (a | a | a | a | ⟨a, b⟩)
  · have := a.2.1; rw [mul_le0] at this; omega
  · have := a.2.1; rw [mul_le0] at this; omega
  · have := a.2.1; rw [mul_le0] at this; omega
  · have := a.2.1; rw [mul_le0] at this; omega
  · rw [sg_opp] at a b
    rcases a with ⟨a1, a2⟩ | ⟨a1, a2⟩ <;> rcases b with ⟨b1, b2⟩ | ⟨b1, b2⟩
    · omega
    · have x1 := Int.mul_pos a2 (show 0 < C.x - M by omega)
      have x2 := Int.mul_pos (show 0 < - turn m q C by omega) (show 0 < D.x - M by omega)
      have x3 := Int.mul_nonneg (show 0 ≤ -turn C D q by omega) (show 0 ≤ -(m.x - M) by omega)
      have x4 := Int.mul_nonneg (show 0 ≤ turn C D m by omega) (show 0 ≤ -(q.x - M) by omega)
      rw [Int.neg_mul] at x2
      rw [Int.neg_mul, Int.mul_neg] at x3
      rw [Int.mul_neg] at x4
      omega
    · have x1 := Int.mul_pos (show 0 < - turn m q D by omega) (show 0 < C.x - M by omega)
      have x2 := Int.mul_pos a1 (show 0 < D.x - M by omega)
      have x3 := Int.mul_nonneg (show 0 ≤ turn C D q by omega) (show 0 ≤ -(m.x - M) by omega)
      have x4 := Int.mul_nonneg (show 0 ≤ -turn C D m by omega) (show 0 ≤ -(q.x - M) by omega)
      rw [Int.neg_mul] at x1
      rw [Int.mul_neg] at x3
      rw [Int.neg_mul, Int.mul_neg] at x4
      omega
    · omega
def Or (P : Int → Pt) (k : Int) (A B : Pt) : Prop := (A = P k ∧ B = P (k + 1)) ∨ (A = P (k + 1) ∧ B = P k)
theorem SP.good_pair (h : SP n P) {j t u x1 : Int} {A B C D : Pt} (t1 : 1 ≤ t) (t2 : t < n) (hx : u < x1) (o1 : Or P j A B) (o2 : Or P (j + t) C D)
    (hA : A.x ≤ u) (hB : x1 < B.x) (hC : C.x ≤ u) (hD : x1 < D.x) : ¬ Meet A B C D ∨ (A = C ∧ turn A B D ≠ 0) ∨ (B = D ∧ turn A B C ≠ 0) := by
  have n3 := h.n3
  by_cases c1 : t = 1
  · subst c1
    have bd := h.bend j
    rcases o1 with ⟨rfl, rfl⟩ | ⟨rfl, rfl⟩ <;> rcases o2 with ⟨rfl, rfl⟩ | ⟨rfl, rfl⟩
    · omega
    · right; right
      exact ⟨rfl, by rw [show j + 1 + 1 = j + 2 by omega]; exact bd⟩
    · right; left
      refine ⟨rfl, ?_⟩
      rw [show j + 1 + 1 = j + 2 by omega, turn_swap]; omega
    · omega
  · by_cases c2 : t = n - 1
    · subst c2
      have bd := h.bend (j - 1)
      have e0 : P (j + (n - 1)) = P (j - 1) := by
        have := h.per (j - 1); rwa [show j - 1 + n = j + (n - 1) by omega] at this
      have e1 : P (j + (n - 1) + 1) = P j := by
        have := h.per j; rwa [show j + n = j + (n - 1) + 1 by omega] at this
      rw [show j - 1 + 1 = j by omega, show j - 1 + 2 = j + 1 by omega] at bd
      unfold Or at o2
      rw [e0, e1] at o2
      have r1 : turn (P j) (P (j + 1)) (P (j - 1)) = turn (P (j - 1)) (P j) (P (j + 1)) := by unfold turn; grind
      rcases o1 with ⟨rfl, rfl⟩ | ⟨rfl, rfl⟩ <;> rcases o2 with ⟨rfl, rfl⟩ | ⟨rfl, rfl⟩
      · omega
      · right; left
        exact ⟨rfl, by rw [r1]; exact bd⟩
      · right; right
        refine ⟨rfl, ?_⟩
        rw [turn_swap, r1]; omega
      · omega
    · left
      have ap := h.apart j (j + t) (by omega) (by omega)
      intro hm
      apply ap
      rcases o1 with ⟨rfl, rfl⟩ | ⟨rfl, rfl⟩ <;> rcases o2 with ⟨rfl, rfl⟩ | ⟨rfl, rfl⟩
      · exact hm
      · exact meet_sym.1 (meet_rev1 (meet_sym.1 hm))
      · exact meet_rev1 hm
      · exact meet_rev hm
def Ab (P : Int → Pt) (q : Pt) (x1 k : Int) : Prop := ∃ A B, Or P k A B ∧ A.x ≤ q.x ∧ x1 < B.x ∧ 0 < turn A B q
theorem dl_ab {q : Pt} {x1 k : Int} (hV : ∀ k, (P k).x ≤ q.x ∨ x1 < (P k).x) (hx : q.x < x1) (hd : dl (df q (P k)) (df q (P (k + 1))) ≠ 0) : Ab P q x1 k := by
  have v1 := hV k
  have v2 := hV (k + 1)
  have e1 : cross (df q (P k)) (df q (P (k + 1))) = turn (P k) (P (k + 1)) q := by unfold cross df turn; grind
  unfold dl at hd
  rw [e1] at hd
  split at hd
  · rename_i c
    obtain ⟨a, b, c⟩ := c
    unfold Neg at a
    unfold Pos at b
    unfold df at a b
    simp only at a b
    refine ⟨P k, P (k + 1), .inl ⟨rfl, rfl⟩, by omega, ?_, c⟩
    rcases v2 with v2 | v2
    · exfalso
      have bx : (P (k + 1)).x = q.x := by omega
      have : turn (P k) (P (k + 1)) q = -(((P (k + 1)).y - q.y) * (q.x - (P k).x)) := by unfold turn; rw [bx]; grind
      have m := Int.mul_nonneg (show 0 ≤ (P (k + 1)).y - q.y by omega) (show 0 ≤ q.x - (P k).x by omega)
      omega
    · exact v2
  · split at hd
    · rename_i c
      obtain ⟨a, b, c⟩ := c
      unfold Pos at a
      unfold Neg at b
      unfold df at a b
      simp only at a b
      refine ⟨P (k + 1), P k, .inr ⟨rfl, rfl⟩, by omega, ?_, by rw [turn_swap]; omega⟩
      rcases v1 with v1 | v1
      · exfalso
        have bx : (P k).x = q.x := by omega
        have : turn (P k) (P (k + 1)) q = ((P k).y - q.y) * (q.x - (P (k + 1)).x) := by unfold turn; rw [bx]; grind
        have m := Int.mul_nonneg (show 0 ≤ (P k).y - q.y by omega) (show 0 ≤ q.x - (P (k + 1)).x by omega)
        omega
      · exact v1
    · exact absurd rfl hd
theorem turn_col {A B : Pt} {x f g : Int} (h : turn A B ⟨x, g⟩ = 0) : turn A B ⟨x, f⟩ = (B.x - A.x) * (f - g) := by
  have : turn A B ⟨x, f⟩ = turn A B ⟨x, g⟩ + (B.x - A.x) * (f - g) := by unfold turn; simp only; grind
  omega
theorem Or.mod (h : SP n P) {k : Int} {A B : Pt} (o : Or P k A B) : Or P (k % n) A B := by
  have n3 := h.n3
  have e : ∀ x, P (x % n) = P x := fun x => by
    have up : ∀ (t : Nat) (x : Int), P (x + t * n) = P x := by
      intro t
      induction t with
      | zero => intro x; simp
      | succ t ih => intro x; rw [show x + ((t + 1 : Nat) : Int) * n = (x + t * n) + n by rw [Int.natCast_add, Int.add_mul]; simp; omega, h.per, ih]
    rcases Int.le_total 0 (x / n) with hq | hq
    · have := up (x / n).toNat (x % n)
      rw [Int.toNat_of_nonneg hq, Int.mul_comm, Int.emod_add_mul_ediv] at this
      exact this.symm
    · have := up (-(x / n)).toNat x
      rw [Int.toNat_of_nonneg (by omega), Int.neg_mul, Int.mul_comm] at this
      rw [← this]; congr 1
      have := Int.emod_add_mul_ediv x n
      omega
  have e2 : P (k % n + 1) = P (k + 1) := by
    rw [← e (k % n + 1), ← e (k + 1)]
    congr 1
    rw [Int.add_emod, Int.emod_emod_of_dvd _ (Int.dvd_refl _), ← Int.add_emod]
  unfold Or
  rw [e, e2]
  exact o
theorem SP.near (h : SP n P) {q : Pt} {x1 : Int} (hx : q.x < x1) (hV : ∀ k, (P k).x ≤ q.x ∨ x1 < (P k).x)
    (hF : ∀ k A B, Or P k A B → A.x ≤ q.x → x1 < B.x → ∃ f, turn A B ⟨x1, f⟩ = 0) (off : ∀ k, ¬ OnL (P k) (P (k + 1)) q) :
    wnd n P q = 0 ∨ wnd n P q = kap n P 0 ∨ wnd n P q = kap n P 0 - 1 := by
  have n3 := h.n3
  have off' : ∀ {k A B}, Or P k A B → ¬ OnL A B q := fun {k A B} o c => by
    rcases o with ⟨rfl, rfl⟩ | ⟨rfl, rfl⟩
    · exact off k c
    · exact off k (onL_rev.1 c)
  have mx : ∀ N : Nat, (∃ k : Int, 0 ≤ k ∧ k < N ∧ Ab P q x1 k) → ∃ (j : Int) (A B : Pt) (f : Int), 0 ≤ j ∧ j < N ∧ Or P j A B ∧ A.x ≤ q.x ∧ x1 < B.x ∧ 0 < turn A B q ∧ turn A B ⟨x1, f⟩ = 0 ∧
      ∀ (k : Int) (C D : Pt) (g : Int), 0 ≤ k → k < N → Or P k C D → C.x ≤ q.x → x1 < D.x → 0 < turn C D q → turn C D ⟨x1, g⟩ = 0 → g ≤ f := by
    intro N
    induction N with
    | zero => rintro ⟨k, h0, h1, _⟩; omega
    | succ N ih =>
      intro hk
      by_cases hN : Ab P q x1 N
      · obtain ⟨A, B, o, hA, hB, ht⟩ := hN
        obtain ⟨f, hf⟩ := hF _ A B o hA hB
        have same : ∀ C D g, Or P N C D → C.x ≤ q.x → x1 < D.x → turn C D ⟨x1, g⟩ = 0 → g = f := fun C D g o' hC hD hg => by
          have e : C = A ∧ D = B := by
            rcases o with ⟨rfl, rfl⟩ | ⟨rfl, rfl⟩ <;> rcases o' with ⟨rfl, rfl⟩ | ⟨rfl, rfl⟩
            · exact ⟨rfl, rfl⟩
            · omega
            · omega
            · exact ⟨rfl, rfl⟩
          obtain ⟨rfl, rfl⟩ := e
          have := turn_col (f := g) hf
          rw [hg] at this
          rcases Int.mul_eq_zero.1 this.symm with c | c <;> omega
        by_cases hex : ∃ k : Int, 0 ≤ k ∧ k < N ∧ Ab P q x1 k
        · obtain ⟨j, A', B', f', j0, j1, o', hA', hB', ht', hf', hm⟩ := ih hex
          by_cases hff : f' ≤ f
          · refine ⟨N, A, B, f, by omega, by omega, o, hA, hB, ht, hf, fun k C D g k0 k1 ok hC hD hk hg => ?_⟩
            by_cases e : k = N
            · subst e; rw [same C D g ok hC hD hg]; exact Int.le_refl _
            · have := hm k C D g k0 (by omega) ok hC hD hk hg; omega
          · refine ⟨j, A', B', f', j0, by omega, o', hA', hB', ht', hf', fun k C D g k0 k1 ok hC hD hk hg => ?_⟩
            by_cases e : k = N
            · subst e; rw [same C D g ok hC hD hg]; omega
            · exact hm k C D g k0 (by omega) ok hC hD hk hg
        · refine ⟨N, A, B, f, by omega, by omega, o, hA, hB, ht, hf, fun k C D g k0 k1 ok hC hD hk hg => ?_⟩
          by_cases e : k = N
          · subst e; rw [same C D g ok hC hD hg]; exact Int.le_refl _
          · exact absurd ⟨k, k0, by omega, C, D, ok, hC, hD, hk⟩ hex
      · obtain ⟨k, k0, k1, hk⟩ := hk
        have : k ≠ N := fun e => hN (e ▸ hk)
        obtain ⟨j, A', B', f', j0, j1, o', hA', hB', ht', hf', hm⟩ := ih ⟨k, k0, by omega, hk⟩
        refine ⟨j, A', B', f', j0, by omega, o', hA', hB', ht', hf', fun k C D g k0 k1 ok hC hD hk hg => ?_⟩
        by_cases e : k = N
        · subst e; exact absurd ⟨C, D, ok, hC, hD, hk⟩ hN
        · exact hm k C D g k0 (by omega) ok hC hD hk hg
  by_cases hex : ∃ k : Int, 0 ≤ k ∧ k < n.toNat ∧ Ab P q x1 k
  · right
    obtain ⟨j, A, B, f, j0, j1, o, hA, hB, ht, hf, hm⟩ := mx n.toNat hex
    have bt : Bt (P j) (P (j + 1)) ⟨x1, f⟩ := by
      have key : Bt A B ⟨x1, f⟩ := by
        refine ⟨x1 - A.x, B.x - x1, by omega, by omega, ?_, ?_⟩
        · simp only; grind
        · simp only; unfold turn at hf; simp only at hf; grind
      rcases o with ⟨rfl, rfl⟩ | ⟨rfl, rfl⟩
      · exact key
      · obtain ⟨p, r, hp, hr, a, b⟩ := key
        exact ⟨r, p, hr, hp, by grind, by grind⟩
    have tq : turn (P j) (P (j + 1)) q ≠ 0 := by
      rcases o with ⟨rfl, rfl⟩ | ⟨rfl, rfl⟩
      · omega
      · rw [turn_swap] at ht; omega
    have hv : ∀ t : Int, 1 ≤ t → t < n → ¬ Meet ⟨x1, f⟩ q (P (j + t)) (P (j + t + 1)) := fun t t1 t2 => by
      have span : ∀ C D, Or P (j + t) C D → C.x ≤ q.x → x1 < D.x → ¬ Meet ⟨x1, f⟩ q C D := fun C D oc hC hD => by
        obtain ⟨g, hg⟩ := hF _ C D oc hC hD
        have gp := h.good_pair t1 t2 hx o oc hA hB hC hD
        obtain ⟨s1, s2⟩ := strip_order hx hA hB hC hD hf hg gp
        have nz : turn C D q ≠ 0 := fun e => off' oc (onL_x e (by omega) (by omega) (by omega))
        have tc := turn_col (f := f) hg
        refine side_not_meet ?_
        rcases Int.lt_or_gt_of_ne nz with c | c
        · right
          have := s2 ht c
          have := Int.mul_neg_of_pos_of_neg (show 0 < D.x - C.x by omega) (show f - g < 0 by omega)
          exact ⟨by omega, c⟩
        · left
          have oc' := Or.mod h oc
          have := hm ((j + t) % n) C D g (Int.emod_nonneg _ (by omega)) (by have := Int.emod_lt_of_pos (j + t) (show 0 < n by omega); omega) oc' hC hD c hg
          have := Int.mul_pos (show 0 < D.x - C.x by omega) (show 0 < f - g by omega)
          exact ⟨by omega, c⟩
      rcases hV (j + t) with a | a <;> rcases hV (j + t + 1) with b | b
      · exact apart_q hx a b (off (j + t))
      · exact span _ _ (.inl ⟨rfl, rfl⟩) a b
      · intro hme
        exact span _ _ (.inr ⟨rfl, rfl⟩) b a (meet_sym.1 (meet_rev1 (meet_sym.1 hme)))
      · exact apart_r (M := x1) (by simp) (by omega) a b
    have w := h.wnd_by bt (h.parts bt) tq hv
    rw [w]
    split
    · exact .inl rfl
    · exact .inr rfl
  · left
    unfold wnd pw
    have z : sm (fun t => dl (df q (P (0 + t))) (df q (P (0 + t + 1)))) n.toNat = 0 := sm_zero fun i i0 i1 => by
      rw [Int.zero_add]
      by_cases c : dl (df q (P i)) (df q (P (i + 1))) = 0
      · exact c
      · exact absurd ⟨i, i0, i1, dl_ab hV hx c⟩ hex
    exact z
end
end Go.AM
namespace Go.AM
def sc (s : Int) (p : Pt) : Pt := ⟨s * p.x, s * p.y⟩
theorem turn_sc (s : Int) (A B C : Pt) : turn (sc s A) (sc s B) (sc s C) = s * s * turn A B C := by unfold turn sc; grind
theorem df_sc (s : Int) (A B : Pt) : df (sc s A) (sc s B) = sc s (df A B) := by unfold df sc; simp only [Pt.mk.injEq]; constructor <;> grind
theorem dl_sc {s : Int} (hs : 0 < s) (u v : Pt) : dl (sc s u) (sc s v) = dl u v := by
  have a := (dl_scale (p := s) (u := u) (u' := sc s u) (v := v) hs rfl rfl).1
  have b := (dl_scale (p := s) (u := v) (u' := sc s v) (v := sc s u) hs rfl rfl).2
  rw [← b, ← a]
theorem sq_sc {s a b c : Int} (hs : 0 < s) : (s * a - s * c) * (s * b - s * c) ≤ 0 ↔ (a - c) * (b - c) ≤ 0 := by
  have e : s * s * ((a - c) * (b - c)) = (s * a - s * c) * (s * b - s * c) := by grind
  have := sgn_mul (Int.mul_pos hs hs) e
  omega
theorem onL_sc {s : Int} (hs : 0 < s) {A B C : Pt} : OnL (sc s A) (sc s B) (sc s C) ↔ OnL A B C := by
  have t := sgn_mul (Int.mul_pos hs hs) (turn_sc s A B C).symm
  unfold OnL
  rw [show (sc s A).x = s * A.x from rfl, show (sc s B).x = s * B.x from rfl, show (sc s C).x = s * C.x from rfl, show (sc s A).y = s * A.y from rfl, show (sc s B).y = s * B.y from rfl, show (sc s C).y = s * C.y from rfl, sq_sc hs, sq_sc hs]
  constructor
  · rintro ⟨a, b, c⟩; exact ⟨t.2.2.2 a, b, c⟩
  · rintro ⟨a, b, c⟩; exact ⟨t.2.2.1 a, b, c⟩
theorem meet_sc {s : Int} (hs : 0 < s) {A B C D : Pt} : Meet (sc s A) (sc s B) (sc s C) (sc s D) → Meet A B C D := by
  have h : ∀ a b c : Pt, sg (turn (sc s a) (sc s b) (sc s c)) = sg (turn a b c) := fun a b c => by
    have t := sgn_mul (Int.mul_pos hs hs) (turn_sc s a b c).symm
    unfold sg
    simp only [← t.1, ← t.2.1]
  unfold Meet
  simp only [onL_sc hs, h]
  exact id
section
variable {n : Int} {P : Int → Pt}
theorem SP.scale (h : SP n P) {s : Int} (hs : 0 < s) : SP n fun i => sc s (P i) where
  n3 := h.n3
  per i := by simp only [h.per]
  bend i := by
    rw [turn_sc]
    intro e
    rcases Int.mul_eq_zero.1 e with c | c
    · rcases Int.mul_eq_zero.1 c with c | c <;> omega
    · exact h.bend i c
  apart i k h1 h2 hm := h.apart i k h1 h2 (meet_sc hs hm)
theorem wnd_sc {s : Int} (hs : 0 < s) (q : Pt) : wnd n (fun i => sc s (P i)) (sc s q) = wnd n P q := by
  unfold wnd pw
  refine sm_congr fun i _ _ => ?_
  rw [df_sc, df_sc, dl_sc hs]
theorem SP.kap_sc (h : SP n P) {s : Int} (hs : 0 < s) : kap n (fun i => sc s (P i)) 0 = kap n P 0 := by
  have e : ∀ i, eg (fun i => sc s (P i)) i = sc s (eg P i) := fun i => by unfold eg; rw [df_sc]
  have p : ∀ v, pp (sc s v) = pp v := fun v => by
    have := pos_scale (p := s) (u := v) (v := sc s v) hs rfl rfl
    unfold pp; simp only [this.1]
  have c1 := (h.scale hs).wnd_corner 0
  have c2 := h.wnd_corner 0
  unfold kap
  rw [← c1, ← c2, wnd_sc hs, e, e, dl_sc hs, p]
def wid (P : Int → Pt) (k : Int) : Int := if (P (k + 1)).x = (P k).x then 1 else (((P (k + 1)).x - (P k).x).natAbs : Int)
def widD (P : Int → Pt) : Nat → Int
  | 0 => 1
  | k + 1 => widD P k * wid P k
theorem wid_pos (P : Int → Pt) (k : Int) : 0 < wid P k := by unfold wid; split <;> omega
theorem widD_pos (P : Int → Pt) : ∀ N : Nat, 0 < widD P N
  | 0 => by show (0 : Int) < 1; decide
  | N + 1 => Int.mul_pos (widD_pos P N) (wid_pos P N)
theorem wid_dvd (P : Int → Pt) : ∀ (N : Nat) (k : Int), 0 ≤ k → k < N → wid P k ∣ widD P N
  | 0, k, _, _ => by omega
  | N + 1, k, h0, h1 => by
    unfold widD
    by_cases e : k = N
    · subst e; exact Int.dvd_mul_left _ _
    · exact Int.dvd_mul_of_dvd_left (wid_dvd P N k h0 (by omega))
theorem SP.seen (h : SP n P) {q : Pt} (off : ∀ k, ¬ OnL (P k) (P (k + 1)) q) : wnd n P q = 0 ∨ wnd n P q = kap n P 0 ∨ wnd n P q = kap n P 0 - 1 := by
  have n3 := h.n3
  obtain ⟨D, hD⟩ : ∃ D, D = widD P n.toNat := ⟨_, rfl⟩
  have D0 : 0 < D := hD ▸ widD_pos P _
  have hs : 0 < 2 * D := by omega
  have h' := h.scale hs
  have key := h'.near (q := sc (2 * D) q) (x1 := 2 * D * q.x + D) (by show 2 * D * q.x < _; omega) (fun k => by
    show 2 * D * (P k).x ≤ 2 * D * q.x ∨ 2 * D * q.x + D < 2 * D * (P k).x
    rcases Int.lt_or_le q.x (P k).x with c | c
    · right
      have := Int.mul_le_mul_of_nonneg_left (show q.x + 1 ≤ (P k).x by omega) (show 0 ≤ 2 * D by omega)
      rw [Int.mul_add] at this
      omega
    · left
      exact Int.mul_le_mul_of_nonneg_left c (by omega)) (fun k A B o hA hB => by
    have o' := Or.mod h' o
    obtain ⟨A0, B0, rfl, rfl, o0⟩ : ∃ A0 B0, A = sc (2 * D) A0 ∧ B = sc (2 * D) B0 ∧ Or P (k % n) A0 B0 := by
      rcases o' with ⟨rfl, rfl⟩ | ⟨rfl, rfl⟩
      · exact ⟨_, _, rfl, rfl, .inl ⟨rfl, rfl⟩⟩
      · exact ⟨_, _, rfl, rfl, .inr ⟨rfl, rfl⟩⟩
    have hlt : A0.x < B0.x := by
      rcases Int.lt_or_le A0.x B0.x with c | c
      · exact c
      · exfalso
        have a1 : 2 * D * A0.x ≤ 2 * D * q.x := hA
        have a2 : 2 * D * q.x + D < 2 * D * B0.x := hB
        have := Int.mul_le_mul_of_nonneg_left c (show 0 ≤ 2 * D by omega)
        omega
    have hw : wid P (k % n) = B0.x - A0.x := by
      unfold wid
      rcases o0 with ⟨rfl, rfl⟩ | ⟨rfl, rfl⟩
      · rw [if_neg (by omega)]; omega
      · rw [if_neg (by omega)]; omega
    have dv := wid_dvd P n.toNat (k % n) (Int.emod_nonneg _ (by omega)) (by have := Int.emod_lt_of_pos k (show 0 < n by omega); omega)
    rw [← hD, hw] at dv
    obtain ⟨e, he⟩ := dv
    refine ⟨2 * D * A0.y + (B0.y - A0.y) * (2 * q.x + 1 - 2 * A0.x) * e, ?_⟩
    have : turn (sc (2 * D) A0) (sc (2 * D) B0) ⟨2 * D * q.x + D, 2 * D * A0.y + (B0.y - A0.y) * (2 * q.x + 1 - 2 * A0.x) * e⟩ = 2 * D * (B0.y - A0.y) * (2 * q.x + 1 - 2 * A0.x) * ((B0.x - A0.x) * e - D) := by
      unfold turn sc; simp only; grind
    rw [this, ← he]
    simp) (fun k hk => off k ((onL_sc hs).1 hk))
  rw [wnd_sc hs, h.kap_sc hs] at key
  exact key
theorem SP.shift (h : SP n P) (s : Int) : SP n fun t => P (t + s) where
  n3 := h.n3
  per i := by rw [show i + n + s = i + s + n by omega]; exact h.per _
  bend i := by have := h.bend (i + s); rwa [show i + s + 1 = i + 1 + s by omega, show i + s + 2 = i + 2 + s by omega] at this
  apart i k h1 h2 := by have := h.apart (i + s) (k + s) (by omega) (by omega); rwa [show i + s + 1 = i + 1 + s by omega, show k + s + 1 = k + 1 + s by omega] at this
theorem SP.base (h : SP n P) : ∃ s, SB n fun t => P (t + s) := by
  have n3 := h.n3
  have hm : ∀ k : Nat, ∃ s : Int, 0 ≤ s ∧ s ≤ k ∧ ∀ j : Int, 0 ≤ j → j ≤ k → ¬ Less (P j) (P s) := by
    intro k
    induction k with
    | zero =>
      refine ⟨0, by omega, by omega, fun j h0 h1 => ?_⟩
      have e : j = 0 := by omega
      rw [e]
      exact Less.irrefl _
    | succ k ih =>
      obtain ⟨s, s0, s1, s2⟩ := ih
      by_cases hl : Less (P ((k + 1 : Nat) : Int)) (P s)
      · refine ⟨((k + 1 : Nat) : Int), by omega, by omega, fun j h0 h1 hx => ?_⟩
        by_cases e : j = ((k + 1 : Nat) : Int)
        · subst e; exact Less.irrefl _ hx
        · exact s2 j h0 (by omega) (hx.trans hl)
      · refine ⟨s, s0, by omega, fun j h0 h1 hx => ?_⟩
        by_cases e : j = ((k + 1 : Nat) : Int)
        · subst e; exact hl hx
        · exact s2 j h0 (by omega) hx
  obtain ⟨s, s0, s1, s2⟩ := hm (n - 1).toNat
  refine ⟨s, h.shift s, fun j j0 j1 => ?_⟩
  have hne := h.ne (i := s) (j := j + s) (by omega) (by omega)
  have hno : ¬ Less (P (j + s)) (P s) := by
    by_cases e : j + s < n
    · exact s2 (j + s) (by omega) (by omega)
    · have := h.per (j + s - n)
      rw [show j + s - n + n = j + s by omega] at this
      rw [this]
      exact s2 (j + s - n) (by omega) (by omega)
  show Pos (df (P (0 + s)) (P (j + s)))
  rw [Int.zero_add]
  rcases pos_or_neg (df_ne hne) with hp | hp
  · exact hp
  · exfalso
    apply hno
    unfold Neg df at hp
    unfold Less
    simp only at hp
    omega
theorem cyc_sum {g : Int → Int} (hn : 0 < n) (per : ∀ i, g (i + n) = g i) (a : Int) : sm (fun t => g (a + t)) n.toNat = sm g n.toNat := by
  obtain ⟨k, hk⟩ : ∃ k : Nat, n.toNat = k + 1 := ⟨n.toNat - 1, by omega⟩
  have step : ∀ a : Int, sm (fun t => g (a + t)) (k + 1) = sm (fun t => g (a + 1 + t)) (k + 1) := fun a => by
    rw [sm_first]
    show _ = sm (fun t => g (a + 1 + t)) k + g (a + 1 + k)
    rw [show a + 1 + (k : Int) = a + n by omega, per]
    omega
  have z : sm (fun t => g (0 + t)) (k + 1) = sm g (k + 1) := sm_congr fun i _ _ => by rw [Int.zero_add]
  rw [hk]
  have u : ∀ m : Nat, sm (fun t => g ((m : Int) + t)) (k + 1) = sm g (k + 1) := by
    intro m
    induction m with
    | zero => exact z
    | succ m ih => rw [show ((m + 1 : Nat) : Int) = (m : Int) + 1 by omega, ← step, ih]
  have l : ∀ m : Nat, sm (fun t => g (-(m : Int) + t)) (k + 1) = sm g (k + 1) := by
    intro m
    induction m with
    | zero => exact z
    | succ m ih =>
      rw [step, show -((m + 1 : Nat) : Int) + 1 = -(m : Int) by omega, ih]
  rcases Int.le_total 0 a with g' | g'
  · have := u a.toNat
    rwa [Int.toNat_of_nonneg g'] at this
  · have := l (-a).toNat
    rwa [Int.toNat_of_nonneg (by omega), Int.neg_neg] at this
def spin (n : Int) (P : Int → Pt) : Int := sm (fun t => dl (eg P t) (eg P (t + 1))) n.toNat
theorem SP.sides (h : SP n P) : (kap n P 0 = 1 ∧ spin n P = 1) ∨ (kap n P 0 = 0 ∧ spin n P = -1) := by
  have n3 := h.n3
  obtain ⟨s, hb⟩ := h.base
  have e : ∀ i, eg (fun t => P (t + s)) i = eg P (s + i) := fun i => by
    unfold eg
    show df (P (i + s)) (P (i + 1 + s)) = _
    rw [show i + 1 + s = s + i + 1 by omega, show i + s = s + i by omega]
  have k1 : kap n (fun t => P (t + s)) 0 = kap n P 0 := by
    rw [← h.kap_all s]
    have c1 := (h.shift s).wnd_corner 0
    have c2 := h.wnd_corner s
    have w : wnd n (fun t => P (t + s)) (P s) = wnd n P (P s) := by
      rw [← wnd_any (by omega) h.per (P s) s]
      unfold wnd pw
      refine sm_congr fun i _ _ => ?_
      show dl (df (P s) (P (0 + i + s))) (df (P s) (P (0 + i + 1 + s))) = _
      rw [show (0 : Int) + i + 1 + s = s + i + 1 by omega, show (0 : Int) + i + s = s + i by omega]
    unfold kap
    rw [← c1, ← c2, e, e]
    simp only [Int.zero_add] at *
    rw [w, Int.add_zero, show s + (0 - 1) = s - 1 by omega]
  have per : ∀ i, dl (eg P (i + n)) (eg P (i + n + 1)) = dl (eg P i) (eg P (i + 1)) := fun i => by
    have p : ∀ j, eg P (j + n) = eg P j := fun j => by unfold eg; rw [show j + n + 1 = j + 1 + n by omega, h.per, h.per]
    rw [show i + n + 1 = i + 1 + n by omega, p, p]
  have k2 : spin n (fun t => P (t + s)) = spin n P := by
    unfold spin
    rw [← cyc_sum (g := fun t => dl (eg P t) (eg P (t + 1))) (by omega) per s]
    refine sm_congr fun i _ _ => ?_
    rw [e, e, show s + (i + 1) = s + i + 1 by omega]
  have a := hb.kap0
  have b := hb.once
  rw [k1] at a
  have b' : spin n (fun t => P (t + s)) = if 0 < t0 n (fun t => P (t + s)) then 1 else -1 := b
  rw [k2] at b'
  by_cases c : 0 < t0 n (fun t => P (t + s))
  · rw [if_pos c] at a b'; exact .inl ⟨a, b'⟩
  · rw [if_neg c] at a b'; exact .inr ⟨a, b'⟩
theorem SP.seen2 (h : SP n P) {q : Pt} (off : ∀ k, ¬ OnL (P k) (P (k + 1)) q) : wnd n P q = 0 ∨ wnd n P q = 2 * kap n P 0 - 1 := by
  have := h.seen off
  have := h.sides
  omega
end
end Go.AM
namespace Go.AM
theorem sm_app (g : Int → Int) (a : Nat) : ∀ b : Nat, sm g (a + b) = sm g a + sm (fun i => g (a + i)) b
  | 0 => by simp [sm]
  | b + 1 => by
    have ih := sm_app g a b
    show sm g (a + b) + g ((a + b : Nat) : Int) = _
    rw [ih]
    simp only [sm]
    rw [show ((a + b : Nat) : Int) = (a : Int) + (b : Int) by omega]
    omega
theorem sm_revU (g : Int → Int) : ∀ k : Nat, sm (fun i => g (k - 1 - i)) k = sm g k
  | 0 => rfl
  | k + 1 => by
    have e := sm_first (fun i => g ((k : Int) - i)) k 0
    have ih := sm_revU g k
    have e1 : sm (fun i => g (((k + 1 : Nat) : Int) - 1 - i)) (k + 1) = sm (fun t => g ((k : Int) - (0 + t))) (k + 1) := sm_congr fun i _ _ => by congr 1; omega
    have e2 : sm (fun t => g ((k : Int) - (0 + 1 + t))) k = sm (fun i => g ((k : Int) - 1 - i)) k := sm_congr fun i _ _ => by congr 1; omega
    rw [e1, e, e2, ih]
    show _ = sm g k + g k
    rw [Int.sub_zero]; omega
theorem sm_const (c : Int) : ∀ k : Nat, sm (fun _ => c) k = k * c
  | 0 => by simp [sm]
  | k + 1 => by
    show sm (fun _ => c) k + c = _
    rw [sm_const c k, Int.natCast_add, Int.add_mul]; simp
theorem div_both {H z : Int} (hH : 0 < H) : z / H + (-z) / H = (if H ∣ z then 1 else 0) - 1 := by
  by_cases h : H ∣ z
  · obtain ⟨c, rfl⟩ := h
    rw [if_pos (Int.dvd_mul_right _ _), ← Int.mul_neg, Int.mul_ediv_cancel_left _ (by omega), Int.mul_ediv_cancel_left _ (by omega)]
    omega
  · rw [if_neg h]
    have r0 : z % H ≠ 0 := fun e => h (Int.dvd_of_emod_eq_zero e)
    have r1 := Int.emod_nonneg z (b := H) (by omega)
    have r2 := Int.emod_lt_of_pos z hH
    have r3 := Int.emod_add_mul_ediv z H
    have := (Int.ediv_emod_unique hH (a := -z) (r := H - z % H) (q := -(z / H) - 1)).2 ⟨by grind, by omega, by omega⟩
    omega
theorem cnt_mul (m : Nat) (hm : 0 < m) : ∀ g : Nat, sm (fun t => if (m : Int) ∣ t then 1 else 0) (g * m) = g
  | 0 => by simp [sm]
  | g + 1 => by
    rw [Nat.add_mul, Nat.one_mul, sm_app, cnt_mul m hm g]
    have : sm (fun i => if (m : Int) ∣ ((g * m : Nat) : Int) + i then 1 else 0) m = 1 := by
      have := sm_only (g := fun i => if (m : Int) ∣ ((g * m : Nat) : Int) + i then 1 else 0) (u := 0) (by omega) (k := m) (by omega) (fun i i0 i1 ne => by
        rw [if_neg]
        intro hd
        have d1 : (m : Int) ∣ ((g * m : Nat) : Int) := ⟨g, by rw [Int.natCast_mul, Int.mul_comm]⟩
        have d2 : (m : Int) ∣ i := (Int.dvd_add_right d1).1 hd
        have := Int.le_of_dvd (by omega) d2
        omega)
      rw [this, if_pos]
      exact ⟨g, by rw [Int.add_zero, Int.natCast_mul, Int.mul_comm]⟩
    rw [this]; omega
theorem cnt_gcd (H : Nat) (d : Int) (hH : 0 < H) : sm (fun t => if (H : Int) ∣ d * t then 1 else 0) H = (Nat.gcd H d.natAbs : Int) := by
  have g0 : Nat.gcd H d.natAbs ≠ 0 := fun e => by have := (Nat.gcd_eq_zero_iff.1 e).1; omega
  obtain ⟨m, hm⟩ := Nat.gcd_dvd_left H d.natAbs
  obtain ⟨e, he⟩ : ∃ e : Int, d = (Nat.gcd H d.natAbs : Int) * e := by
    have : (Nat.gcd H d.natAbs : Int) ∣ d := by rw [← Int.natAbs_dvd_natAbs]; simp only [Int.natAbs_natCast]; exact Nat.gcd_dvd_right _ _
    exact this
  have m0 : 0 < m := by rcases Nat.eq_zero_or_pos m with c | c; rw [c] at hm; omega; exact c
  have cop : Nat.gcd m e.natAbs = 1 := by
    have k : Nat.gcd H d.natAbs * Nat.gcd m e.natAbs = Nat.gcd H d.natAbs * 1 := by
      rw [← Nat.gcd_mul_left, ← hm, Nat.mul_one]
      congr 1
      have := congrArg Int.natAbs he
      rw [Int.natAbs_mul, Int.natAbs_natCast] at this
      exact this.symm
    exact Nat.eq_of_mul_eq_mul_left (by omega) k
  generalize Nat.gcd H d.natAbs = g at *
  have key : ∀ t : Int, ((H : Int) ∣ d * t) ↔ ((m : Int) ∣ t) := fun t => by
    rw [hm, he, Int.natCast_mul, Int.mul_assoc]
    constructor
    · intro h
      have h2 : (m : Int) ∣ e * t := Int.dvd_of_mul_dvd_mul_left (show (g : Int) ≠ 0 by omega) h
      rw [← Int.natAbs_dvd_natAbs, Int.natAbs_mul] at h2
      rw [← Int.natAbs_dvd_natAbs]
      simp only [Int.natAbs_natCast] at h2 ⊢
      exact Nat.Coprime.dvd_of_dvd_mul_left (show Nat.Coprime m e.natAbs from cop) h2
    · intro h
      exact Int.mul_dvd_mul_left _ (Int.dvd_trans h (Int.dvd_mul_left _ _))
  have e2 : sm (fun t => if (H : Int) ∣ d * t then 1 else 0) H = sm (fun t => if (m : Int) ∣ t then 1 else 0) H := sm_congr fun i _ _ => by simp only [key]
  rw [e2, hm, cnt_mul m m0]
theorem floor_sum (H : Nat) (d : Int) (hH : 0 < H) : 2 * sm (fun t => (d * t) / (H : Int)) H = d * (H - 1) - H + (Nat.gcd H d.natAbs : Int) := by
  have A : sm (fun t => (d * t) / (H : Int) + (-(d * t)) / (H : Int)) H = (Nat.gcd H d.natAbs : Int) - H := by
    have e : sm (fun t => (d * t) / (H : Int) + (-(d * t)) / (H : Int)) H = sm (fun t => (if (H : Int) ∣ d * t then 1 else 0) - 1) H := sm_congr fun i _ _ => div_both (by omega)
    rw [e, sm_add, cnt_gcd H d hH, sm_const]; omega
  rw [sm_plus] at A
  obtain ⟨m, rfl⟩ : ∃ m, H = m + 1 := ⟨H - 1, by omega⟩
  have B : sm (fun t => (-(d * t)) / ((m + 1 : Nat) : Int)) (m + 1) = sm (fun t => (d * t) / ((m + 1 : Nat) : Int)) (m + 1) - d * m := by
    have f1 := sm_first (fun t => (-(d * t)) / ((m + 1 : Nat) : Int)) m 0
    have f2 := sm_first (fun t => (d * t) / ((m + 1 : Nat) : Int)) m 0
    have z1 : sm (fun t => (-(d * (0 + t))) / ((m + 1 : Nat) : Int)) (m + 1) = sm (fun t => (-(d * t)) / ((m + 1 : Nat) : Int)) (m + 1) := sm_congr fun i _ _ => by rw [Int.zero_add]
    have z2 : sm (fun t => (d * (0 + t)) / ((m + 1 : Nat) : Int)) (m + 1) = sm (fun t => (d * t) / ((m + 1 : Nat) : Int)) (m + 1) := sm_congr fun i _ _ => by rw [Int.zero_add]
    have r := sm_revU (fun t => (d * (0 + 1 + t)) / ((m + 1 : Nat) : Int)) m
    have k : sm (fun t => (-(d * (0 + 1 + t))) / ((m + 1 : Nat) : Int)) m = sm (fun t => (d * (0 + 1 + (m - 1 - t))) / ((m + 1 : Nat) : Int) - d) m := sm_congr fun i _ _ => by
      have : -(d * (0 + 1 + i)) = d * (0 + 1 + (m - 1 - i)) + (-d) * ((m + 1 : Nat) : Int) := by rw [Int.natCast_add]; grind
      rw [this, Int.add_mul_ediv_right _ _ (by omega)]
      omega
    rw [sm_add, r, sm_const] at k
    rw [z1] at f1
    rw [z2] at f2
    rw [f1, f2, k]
    simp only [Int.mul_zero, Int.neg_zero, Int.zero_ediv]
    rw [Int.mul_comm d]
    omega
  rw [B] at A
  rw [show ((m + 1 : Nat) : Int) - 1 = m by omega]
  omega
def bs (M : Nat) (f : Pt → Int) : Int := sm (fun i => sm (fun j => f ⟨i - M, j - M⟩) (2 * M + 1)) (2 * M + 1)
theorem bs_congr {M : Nat} {f g : Pt → Int} (h : ∀ p : Pt, -(M : Int) ≤ p.x → p.x ≤ M → -(M : Int) ≤ p.y → p.y ≤ M → f p = g p) : bs M f = bs M g := by
  unfold bs
  refine sm_congr fun i _ _ => sm_congr fun j _ _ => h _ ?_ ?_ ?_ ?_ <;> simp only <;> omega
theorem bs_plus (M : Nat) (f g : Pt → Int) : bs M (fun p => f p + g p) = bs M f + bs M g := by
  unfold bs
  rw [← sm_plus]
  exact sm_congr fun i _ _ => sm_plus _ _ _
theorem bs_mul (M : Nat) (c : Int) (f : Pt → Int) : bs M (fun p => c * f p) = c * bs M f := by
  unfold bs
  rw [← sm_mul]
  exact sm_congr fun i _ _ => sm_mul _ _ _
theorem bs_sm (M : Nat) (f : Int → Pt → Int) : ∀ k : Nat, bs M (fun p => sm (fun i => f i p) k) = sm (fun i => bs M (f i)) k
  | 0 => by
    unfold bs
    exact sm_zero fun i _ _ => sm_zero fun j _ _ => rfl
  | k + 1 => by
    have := bs_sm M f k
    show bs M (fun p => sm (fun i => f i p) k + f k p) = sm (fun i => bs M (f i)) k + bs M (f k)
    rw [bs_plus, this]
theorem bs_one {M : Nat} {v : Pt} (h1 : -(M : Int) ≤ v.x) (h2 : v.x ≤ M) (h3 : -(M : Int) ≤ v.y) (h4 : v.y ≤ M) (c : Int) [DecidableEq Pt] : bs M (fun q => if q = v then c else 0) = c := by
  unfold bs
  rw [sm_only (u := v.x + M) (by omega) (by omega) fun i i0 i1 ne => sm_zero fun j _ _ => by
    refine if_neg ?_
    intro e; apply ne; rw [← e]; simp only; omega]
  rw [sm_only (u := v.y + M) (by omega) (by omega) fun j i0 i1 ne => by
    refine if_neg ?_
    intro e; apply ne; rw [← e]; simp only; omega]
  refine if_pos ?_
  cases v; simp only [Pt.mk.injEq]; omega
theorem cnt_gt {c : Int} (hc : -1 ≤ c) : ∀ k : Nat, sm (fun j => if c < j then 1 else 0) k = if (k : Int) ≤ c + 1 then 0 else k - c - 1
  | 0 => by rw [if_pos (by omega)]; rfl
  | k + 1 => by
    show sm (fun j => if c < j then 1 else 0) k + (if c < (k : Int) then 1 else 0) = _
    rw [cnt_gt hc k]
    repeat' split
    all_goals omega
theorem sm_in {g : Int → Int} {a b k : Nat} (hab : a ≤ b) (hbk : b ≤ k) (h : ∀ i : Int, 0 ≤ i → i < k → (i < a ∨ (b : Int) ≤ i) → g i = 0) : sm g k = sm (fun t => g (a + t)) (b - a) := by
  have e : k = a + (b - a) + (k - b) := by omega
  rw [e, sm_app, sm_app]
  rw [sm_zero (k := a) fun i i0 i1 => h i i0 (by omega) (.inl i1), sm_zero (k := k - b) fun i i0 i1 => h _ (by omega) (by omega) (.inr (by omega))]
  omega
theorem edge_right {M : Nat} {A B : Pt} (hx : A.x < B.x) (a1 : -(M : Int) ≤ A.x) (a2 : -(M : Int) ≤ A.y) (a3 : A.y ≤ M) (b1 : B.x ≤ M) (b2 : -(M : Int) ≤ B.y) (b3 : B.y ≤ M) :
    2 * bs M (fun q => dl (df q A) (df q B)) = (B.x - A.x) * (2 * M - A.y - B.y) + (B.y - A.y) + (B.x - A.x) - step A B := by
  obtain ⟨H, hH⟩ : ∃ H : Nat, B.x - A.x = H := ⟨(B.x - A.x).toNat, by omega⟩
  have H0 : 0 < H := by omega
  have cr : ∀ q : Pt, cross (df q A) (df q B) = turn A B q := fun q => by unfold cross df turn; grind
  have out : ∀ x y : Int, (x < A.x ∨ B.x ≤ x) → dl (df ⟨x, y⟩ A) (df ⟨x, y⟩ B) = 0 := fun x y h => by
    rcases h with h | h
    · exact dl_pp (by unfold Pos df; simp only; omega) (by unfold Pos df; simp only; omega)
    · have na : Neg (df ⟨x, y⟩ A) := by unfold Neg df; simp only; omega
      by_cases hb : Neg (df ⟨x, y⟩ B)
      · exact dl_nn na hb
      · unfold dl
        rw [cr, if_neg, if_neg]
        · rintro ⟨p, _⟩; exact pos_not_neg p na
        · rintro ⟨_, p, c⟩
          have hxe : x = B.x := by unfold Neg df at hb; simp only at hb; unfold Pos df at p; simp only at p; omega
          have hy : y < B.y := by unfold Pos df at p; simp only at p; omega
          have : turn A B ⟨x, y⟩ = (B.x - A.x) * (y - B.y) := by unfold turn; simp only; rw [hxe]; grind
          have := Int.mul_neg_of_pos_of_neg (show 0 < B.x - A.x by omega) (show y - B.y < 0 by omega)
          omega
  have ins : ∀ t y : Int, 0 ≤ t → t < H → dl (df ⟨A.x + t, y⟩ A) (df ⟨A.x + t, y⟩ B) = if A.y + ((B.y - A.y) * t) / H < y then 1 else 0 := fun t y t0 t1 => by
    have tq : turn A B ⟨A.x + t, y⟩ = H * (y - A.y) - (B.y - A.y) * t := by unfold turn; simp only; rw [← hH]; grind
    have pb : Pos (df ⟨A.x + t, y⟩ B) := by unfold Pos df; simp only; omega
    have iff : (A.y + ((B.y - A.y) * t) / H < y) ↔ 0 < turn A B ⟨A.x + t, y⟩ := by
      rw [tq]
      have := Int.ediv_lt_iff_lt_mul (a := (B.y - A.y) * t) (b := y - A.y) (c := (H : Int)) (by omega)
      rw [Int.mul_comm (H : Int)]
      omega
    by_cases c : 0 < turn A B ⟨A.x + t, y⟩
    · rw [if_pos (iff.2 c)]
      have na : Neg (df ⟨A.x + t, y⟩ A) := by
        unfold Neg df; simp only
        by_cases e : t = 0
        · subst e
          rw [Int.mul_zero, Int.sub_zero] at tq
          have := sgn_mul (show 0 < (H : Int) by omega) tq.symm
          omega
        · omega
      rw [dl_np na pb, cr, if_pos c]
    · rw [if_neg (fun k => c (iff.1 k))]
      unfold dl
      rw [cr, if_neg (fun k => c k.2.2), if_neg (fun k => pos_not_neg pb k.2.1)]
  have fb : ∀ t : Int, 0 ≤ t → t < H → -(M : Int) ≤ A.y + ((B.y - A.y) * t) / H ∧ A.y + ((B.y - A.y) * t) / H ≤ M := fun t t0 t1 => by
    have l1 := Int.le_ediv_iff_mul_le (a := (if 0 ≤ B.y - A.y then 0 else B.y - A.y)) (b := (B.y - A.y) * t) (c := (H : Int)) (by omega)
    have l2 := Int.ediv_lt_iff_lt_mul (a := (B.y - A.y) * t) (b := (if 0 ≤ B.y - A.y then B.y - A.y else 0) + 1) (c := (H : Int)) (by omega)
    by_cases c : 0 ≤ B.y - A.y
    · rw [if_pos c] at l1 l2
      have m1 := Int.mul_nonneg c t0
      have m2 := Int.mul_le_mul_of_nonneg_left (show t ≤ H by omega) c
      rw [Int.zero_mul] at l1
      rw [Int.add_mul] at l2
      omega
    · rw [if_neg c] at l1 l2
      have m1 := Int.mul_nonneg (show 0 ≤ -(B.y - A.y) by omega) t0
      have m2 := Int.mul_le_mul_of_nonneg_left (show t ≤ H by omega) (show 0 ≤ -(B.y - A.y) by omega)
      rw [Int.neg_mul] at m1 m2
      rw [Int.neg_mul] at m2
      rw [Int.zero_add, Int.one_mul] at l2
      omega
  have col : ∀ t : Int, 0 ≤ t → t < H → sm (fun j => dl (df ⟨A.x + t, j - M⟩ A) (df ⟨A.x + t, j - M⟩ B)) (2 * M + 1) = M - A.y - ((B.y - A.y) * t) / H := fun t t0 t1 => by
    obtain ⟨f1, f2⟩ := fb t t0 t1
    have e : sm (fun j => dl (df ⟨A.x + t, j - M⟩ A) (df ⟨A.x + t, j - M⟩ B)) (2 * M + 1) = sm (fun j => if (M + (A.y + ((B.y - A.y) * t) / H) : Int) < j then 1 else 0) (2 * M + 1) := sm_congr fun j _ _ => by
      rw [ins t _ t0 t1]
      by_cases c : A.y + ((B.y - A.y) * t) / H < j - M
      · rw [if_pos c, if_pos (by omega)]
      · rw [if_neg c, if_neg (by omega)]
    rw [e, cnt_gt (by omega)]
    split
    · omega
    · omega
  have tot : bs M (fun q => dl (df q A) (df q B)) = sm (fun t => M - A.y - ((B.y - A.y) * t) / H) H := by
    unfold bs
    rw [sm_in (a := (A.x + M).toNat) (b := (B.x + M).toNat) (by omega) (by omega) fun i i0 i1 h => sm_zero fun j _ _ => out _ _ (by omega)]
    rw [show (B.x + M).toNat - (A.x + M).toNat = H by omega]
    refine sm_congr fun t t0 t1 => ?_
    rw [← col t t0 t1]
    refine sm_congr fun j _ _ => ?_
    rw [show ((A.x + M).toNat : Int) + t - M = A.x + t by omega]
  have fs := floor_sum H (B.y - A.y) H0
  have gs : step A B = (Nat.gcd H (B.y - A.y).natAbs : Int) := by
    unfold step
    rw [show (A.x - B.x).natAbs = H by omega, show (A.y - B.y).natAbs = (B.y - A.y).natAbs by omega]
  rw [tot, sm_add, sm_const, gs, hH]
  have : (2 : Int) * ((H : Int) * (M - A.y) - sm (fun t => ((B.y - A.y) * t) / (H : Int)) H) = 2 * ((H : Int) * (M - A.y)) - 2 * sm (fun t => ((B.y - A.y) * t) / (H : Int)) H := by omega
  rw [this, fs]
  grind
theorem edge_sum {M : Nat} {A B : Pt} (hne : A ≠ B) (a0 : -(M : Int) ≤ A.x) (a1 : A.x ≤ M) (a2 : -(M : Int) ≤ A.y) (a3 : A.y ≤ M) (b0 : -(M : Int) ≤ B.x) (b1 : B.x ≤ M) (b2 : -(M : Int) ≤ B.y) (b3 : B.y ≤ M) :
    2 * bs M (fun q => dl (df q A) (df q B)) = (B.x - A.x) * (2 * M - A.y - B.y) + (B.y - A.y) + (B.x - A.x) - (2 * pp (df A B) - 1) * step A B := by
  rcases Int.lt_trichotomy A.x B.x with c | c | c
  · have e := edge_right c a0 a2 a3 b1 b2 b3
    have p : pp (df A B) = 1 := by unfold pp; rw [if_pos (by unfold Pos df; simp only; omega)]
    rw [e, p]; omega
  · have z : bs M (fun q => dl (df q A) (df q B)) = bs M (fun q => 0 * 0) := bs_congr fun q _ _ _ _ => by
      rcases Int.lt_trichotomy q.x A.x with k | k | k
      · rw [dl_pp (by unfold Pos df; simp only; omega) (by unfold Pos df; simp only; omega)]; rfl
      · exact dl_par (by unfold cross df; simp only; rw [← c, k]; grind)
      · rw [dl_nn (by unfold Neg df; simp only; omega) (by unfold Neg df; simp only; omega)]; rfl
    rw [z, bs_mul, ← c, Int.sub_self, Int.zero_mul, Int.zero_mul]
    have yne : A.y ≠ B.y := by rcases pt_ne hne with h | h; exact absurd c h; exact h
    have st : step A B = ((A.y - B.y).natAbs : Int) := by unfold step; rw [c, Int.sub_self]; simp
    rw [st]
    unfold pp
    by_cases p : Pos (df A B)
    · rw [if_pos p]; unfold Pos df at p; simp only at p; omega
    · rw [if_neg p]; unfold Pos df at p; simp only at p; omega
  · have e := edge_right (M := M) c b0 b2 b3 a1 a2 a3
    have an : bs M (fun q => dl (df q A) (df q B)) = bs M (fun q => (-1) * dl (df q B) (df q A)) := bs_congr fun q _ _ _ _ => by rw [dl_anti]; omega
    have p : pp (df A B) = 0 := by unfold pp; rw [if_neg (by unfold Pos df; simp only; omega)]
    have ss : step A B = step B A := by
      unfold step
      rw [show (A.x - B.x).natAbs = (B.x - A.x).natAbs by omega, show (A.y - B.y).natAbs = (B.y - A.y).natAbs by omega]
    rw [an, bs_mul, p, ss]
    have : (2 : Int) * (-1 * bs M (fun q => dl (df q B) (df q A))) = -(2 * bs M (fun q => dl (df q B) (df q A))) := by omega
    rw [this, e]
    grind
end Go.AM
namespace Go.AM
theorem step_one {a b : Pt} (h : a ≠ b) : 1 ≤ step a b := step_pos h
theorem prim {x y : Int} {d : Nat} (hd : d = Nat.gcd x.natAbs y.natAbs) (h0 : d ≠ 0) : ∃ u v : Int, x = d * u ∧ y = d * v ∧ Nat.gcd u.natAbs v.natAbs = 1 := by
  have h1 : (d : Int) ∣ x := by rw [← Int.natAbs_dvd_natAbs]; simp only [Int.natAbs_natCast]; rw [hd]; exact Nat.gcd_dvd_left _ _
  have h2 : (d : Int) ∣ y := by rw [← Int.natAbs_dvd_natAbs]; simp only [Int.natAbs_natCast]; rw [hd]; exact Nat.gcd_dvd_right _ _
  obtain ⟨u, hu⟩ := h1
  obtain ⟨v, hv⟩ := h2
  refine ⟨u, v, hu, hv, ?_⟩
  have e : Nat.gcd x.natAbs y.natAbs = d * Nat.gcd u.natAbs v.natAbs := by
    rw [hu, hv, Int.natAbs_mul, Int.natAbs_mul, Int.natAbs_natCast, Nat.gcd_mul_left]
  rw [← hd] at e
  have : d * 1 = d * Nat.gcd u.natAbs v.natAbs := by omega
  exact (Nat.eq_of_mul_eq_mul_left (by omega) this).symm
end Go.AM
