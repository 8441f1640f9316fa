import Derived.Test.YtkpegcamiholbaaGreatAmP1
set_option linter.unusedVariables false
set_option linter.unusedSimpArgs false
set_option linter.unnecessarySimpa false
set_option linter.deprecated false
set_option linter.unusedSectionVars false
open Go Go.AM Go.Proofs
namespace Go.AM
noncomputable def spec_pgInside (L : Nat) (a : List Pt) : Option (Int) := gbind (spec_pgArea L a) fun r => gbind (spec_l1Abs L r) fun r1 => gbind (spec_pgRound L a) fun r2 => bif ieq 2 0 then (none) else (some (wr IntKind.i64 (iquo (wr IntKind.i64 (isub (wr IntKind.i64 (iadd r1 2)) r2)) 2)))
noncomputable def spec_pgWhere_l0 (L : Nat) (a : List Pt) (b_0 : Int) (b_1 : Int) : Nat → Bool → Int → Option Int
  | 0, _, _ => none
  | m + 1, v5, v13 => bif ilt v13 (ilen (List.map ep a)) then (gbind (lget a v13) fun p => bif ieq (ilen (List.map ep a)) 0 then (none) else (gbind (lget a (irem (wr IntKind.i64 (iadd v13 1)) (ilen (List.map ep a)))) fun p1 => gbind (spec_pgOn L (Pt.x p) (Pt.y p) (Pt.x p1) (Pt.y p1) b_0 b_1) fun r => bif r then (some 0) else (bif ilt (Pt.y p1) (Pt.y p) then (bif ile (Pt.y p1) b_1 then (bif ilt b_1 (Pt.y p) then (gbind (spec_pgTurn L (Pt.x p1) (Pt.y p1) (Pt.x p) (Pt.y p) b_0 b_1) fun r1 => bif ilt 0 r1 then (spec_pgWhere_l0 L a b_0 b_1 m (!v5) (wr IntKind.i64 (iadd v13 1))) else (spec_pgWhere_l0 L a b_0 b_1 m v5 (wr IntKind.i64 (iadd v13 1)))) else (spec_pgWhere_l0 L a b_0 b_1 m v5 (wr IntKind.i64 (iadd v13 1)))) else (spec_pgWhere_l0 L a b_0 b_1 m v5 (wr IntKind.i64 (iadd v13 1)))) else (bif ile (Pt.y p) b_1 then (bif ilt b_1 (Pt.y p1) then (gbind (spec_pgTurn L (Pt.x p) (Pt.y p) (Pt.x p1) (Pt.y p1) b_0 b_1) fun r2 => bif ilt 0 r2 then (spec_pgWhere_l0 L a b_0 b_1 m (!v5) (wr IntKind.i64 (iadd v13 1))) else (spec_pgWhere_l0 L a b_0 b_1 m v5 (wr IntKind.i64 (iadd v13 1)))) else (spec_pgWhere_l0 L a b_0 b_1 m v5 (wr IntKind.i64 (iadd v13 1)))) else (spec_pgWhere_l0 L a b_0 b_1 m v5 (wr IntKind.i64 (iadd v13 1))))))) else (bif v5 then (some 1) else (some (-1)))
noncomputable def spec_pgWhere (L : Nat) (a : List Pt) (b_0 : Int) (b_1 : Int) : Option (Int) := spec_pgWhere_l0 L a b_0 b_1 L false 0
end Go.AM
namespace Go.AM
theorem wr_id {n : Int} (h : -9223372036854775808 ≤ n ∧ n ≤ 9223372036854775807) : wr .i64 n = n := by
  rw [wr_eq]
  simp only [IntKind.wrap, IntKind.signed, IntKind.bits]
  simp
  omega
theorem mul_bd {x y A B : Int} (hx : -A ≤ x ∧ x ≤ A) (hy : -B ≤ y ∧ y ≤ B) : -(A * B) ≤ x * y ∧ x * y ≤ A * B := by
  have h : (x * y).natAbs ≤ (A * B).natAbs := by
    rw [Int.natAbs_mul, Int.natAbs_mul]
    exact Nat.mul_le_mul (by omega) (by omega)
  have hp : 0 ≤ A * B := Int.mul_nonneg (by omega) (by omega)
  omega
theorem mul_le0 {x y : Int} : x * y ≤ 0 ↔ (x ≤ 0 ∧ 0 ≤ y) ∨ (0 ≤ x ∧ y ≤ 0) := by
  constructor
  · intro h
    rcases Int.lt_trichotomy x 0 with hx | hx | hx
    · rcases Int.lt_trichotomy y 0 with hy | hy | hy
      · have := Int.mul_pos_of_neg_of_neg hx hy; omega
      · omega
      · omega
    · omega
    · rcases Int.lt_trichotomy y 0 with hy | hy | hy
      · omega
      · omega
      · have := Int.mul_pos hx hy; omega
  · rintro (⟨h1, h2⟩ | ⟨h1, h2⟩)
    · exact Int.mul_nonpos_of_nonpos_of_nonneg h1 h2
    · exact Int.mul_nonpos_of_nonneg_of_nonpos h1 h2
def turn (a b c : Pt) : Int := (b.x - a.x) * (c.y - a.y) - (b.y - a.y) * (c.x - a.x)
def Nr (p : Pt) : Prop := (-1000 ≤ p.x ∧ p.x ≤ 1000) ∧ (-1000 ≤ p.y ∧ p.y ≤ 1000)
def In (p : Pt) : Prop := (-40 ≤ p.x ∧ p.x ≤ 40) ∧ (-40 ≤ p.y ∧ p.y ≤ 40)
theorem In.nr {p : Pt} (h : In p) : Nr p := by unfold In at h; unfold Nr; omega
theorem sub_bd {p q : Pt} (hp : Nr p) (hq : Nr q) : (-2000 ≤ p.x - q.x ∧ p.x - q.x ≤ 2000) ∧ (-2000 ≤ p.y - q.y ∧ p.y - q.y ≤ 2000) := by
  unfold Nr at hp hq; omega
theorem turn_bd {a b c : Pt} (ha : Nr a) (hb : Nr b) (hc : Nr c) : -8000000 ≤ turn a b c ∧ turn a b c ≤ 8000000 := by
  have h1 := sub_bd hb ha
  have h2 := sub_bd hc ha
  have h3 := mul_bd h1.1 h2.2
  have h4 := mul_bd h1.2 h2.1
  unfold turn
  omega
theorem spec_pgTurn_eq {L : Nat} {a b c : Pt} (ha : Nr a) (hb : Nr b) (hc : Nr c) : spec_pgTurn L a.x a.y b.x b.y c.x c.y = some (turn a b c) := by
  have h1 := sub_bd hb ha
  have h2 := sub_bd hc ha
  have h3 := mul_bd h1.1 h2.2
  have h4 := mul_bd h1.2 h2.1
  unfold spec_pgTurn turn
  simp only [isub_eq, imul_eq]
  rw [wr_id (n := b.x - a.x) (by omega), wr_id (n := c.y - a.y) (by omega), wr_id (n := b.y - a.y) (by omega), wr_id (n := c.x - a.x) (by omega), wr_id (n := (b.x - a.x) * (c.y - a.y)) (by omega), wr_id (n := (b.y - a.y) * (c.x - a.x)) (by omega), wr_id (by omega)]
theorem impl_turn_eq {L : Nat} {a b c : Pt} (ha : Nr a) (hb : Nr b) (hc : Nr c) : impl_turn L a.x a.y b.x b.y c.x c.y = some (turn a b c) := by
  have h1 := sub_bd hb ha
  have h2 := sub_bd hc ha
  have h3 := mul_bd h1.1 h2.2
  have h4 := mul_bd h1.2 h2.1
  unfold impl_turn impl_Peg_less impl_cross turn
  simp only [gbind_eq, Option.bind_some, isub_eq, imul_eq]
  rw [wr_id (n := b.x - a.x) (by omega), wr_id (n := c.y - a.y) (by omega), wr_id (n := b.y - a.y) (by omega), wr_id (n := c.x - a.x) (by omega), wr_id (n := (b.x - a.x) * (c.y - a.y)) (by omega), wr_id (n := (b.y - a.y) * (c.x - a.x)) (by omega), wr_id (by omega)]
def OnL (a b p : Pt) : Prop := turn a b p = 0 ∧ (a.x - p.x) * (b.x - p.x) ≤ 0 ∧ (a.y - p.y) * (b.y - p.y) ≤ 0
instance (a b p : Pt) : Decidable (OnL a b p) := by unfold OnL; infer_instance
theorem spec_pgOn_eq {L : Nat} {a b p : Pt} (ha : Nr a) (hb : Nr b) (hp : Nr p) : spec_pgOn L a.x a.y b.x b.y p.x p.y = some (decide (OnL a b p)) := by
  have h1 := sub_bd ha hp
  have h2 := sub_bd hb hp
  have h3 := mul_bd h1.1 h2.1
  have h4 := mul_bd h1.2 h2.2
  unfold spec_pgOn
  rw [spec_pgTurn_eq ha hb hp]
  simp only [gbind_eq, Option.bind_some, isub_eq, imul_eq, ieq_eq, ile_eq]
  rw [wr_id (n := a.x - p.x) (by omega), wr_id (n := b.x - p.x) (by omega), wr_id (n := a.y - p.y) (by omega), wr_id (n := b.y - p.y) (by omega), wr_id (n := (a.x - p.x) * (b.x - p.x)) (by omega), wr_id (n := (a.y - p.y) * (b.y - p.y)) (by omega)]
  unfold OnL
  by_cases k1 : turn a b p = 0 <;> by_cases k2 : (a.x - p.x) * (b.x - p.x) ≤ 0 <;> simp [k1, k2]
theorem mid_iff {a b p : Int} : (a - p) * (b - p) ≤ 0 ↔ (if b < a then b else a) ≤ p ∧ p ≤ (if b > a then b else a) := by
  rw [mul_le0]
  split <;> split <;> omega
theorem impl_isOn_eq {L : Nat} {a b p : Pt} (ha : Nr a) (hb : Nr b) (hp : Nr p) : impl_isOn L a.x a.y b.x b.y p.x p.y = some (decide (OnL a b p)) := by
  unfold impl_isOn impl_within OnL
  rw [impl_turn_eq ha hb hp]
  simp only [gbind_eq, Option.bind_some, ieq_eq, ile_eq, imin_eq, imax_eq, mid_iff]
  by_cases k1 : turn a b p = 0
  · simp only [k1, decide_true, cond_true]
    by_cases k2 : (if b.x < a.x then b.x else a.x) ≤ p.x <;> by_cases k3 : p.x ≤ (if b.x > a.x then b.x else a.x) <;>
      by_cases k4 : (if b.y < a.y then b.y else a.y) ≤ p.y <;> by_cases k5 : p.y ≤ (if b.y > a.y then b.y else a.y) <;> simp [k2, k3, k4, k5]
  · simp [k1]
def sg (n : Int) : Int := if 0 < n then 1 else if n < 0 then -1 else 0
theorem impl_sign_eq {L : Nat} {n : Int} : impl_sign L n = some (sg n) := by
  unfold impl_sign sg
  simp only [imin_eq, imax_eq]
  congr 1
  split <;> split <;> split <;> (try split) <;> omega
theorem sg_bd (n : Int) : -1 ≤ sg n ∧ sg n ≤ 1 := by unfold sg; split; omega; split <;> omega
def Meet (a b c d : Pt) : Prop := OnL a b c ∨ OnL a b d ∨ OnL c d a ∨ OnL c d b ∨ (sg (turn a b c) * sg (turn a b d) < 0 ∧ sg (turn c d a) * sg (turn c d b) < 0)
instance (a b c d : Pt) : Decidable (Meet a b c d) := by unfold Meet; infer_instance
theorem sgm {m n : Int} : wr .i64 (sg m * sg n) = sg m * sg n := by
  have := mul_bd (sg_bd m) (sg_bd n)
  exact wr_id (by omega)
theorem impl_meet_eq {L : Nat} {a b c d : Pt} (ha : Nr a) (hb : Nr b) (hc : Nr c) (hd : Nr d) : impl_meet L a.x a.y b.x b.y c.x c.y d.x d.y = some (decide (Meet a b c d)) := by
  unfold impl_meet Meet
  rw [impl_isOn_eq ha hb hc, impl_isOn_eq ha hb hd, impl_isOn_eq hc hd ha, impl_isOn_eq hc hd hb, impl_turn_eq ha hb hc, impl_turn_eq ha hb hd, impl_turn_eq hc hd ha, impl_turn_eq hc hd hb]
  simp only [gbind_eq, Option.bind_some, impl_sign_eq, imul_eq, ilt_eq, sgm]
  by_cases k1 : OnL a b c <;> by_cases k2 : OnL a b d <;> by_cases k3 : OnL c d a <;> by_cases k4 : OnL c d b <;> by_cases k5 : sg (turn a b c) * sg (turn a b d) < 0 <;>
    by_cases k6 : sg (turn c d a) * sg (turn c d b) < 0 <;> simp [k1, k2, k3, k4, k5, k6]
end Go.AM
namespace Go.AM
def pt (a : List Pt) (i : Int) : Pt := a.getD (i % (a.length : Int)).toNat ⟨0, 0⟩
theorem pt_congr {a : List Pt} {i j : Int} (h : i % (a.length : Int) = j % (a.length : Int)) : pt a i = pt a j := by unfold pt; rw [h]
theorem pt_get {a : List Pt} {i : Int} (h0 : 0 ≤ i) (h1 : i < a.length) : a[i.toNat]? = some (pt a i) := by
  unfold pt
  rw [Int.emod_eq_of_lt h0 h1]
  have : i.toNat < a.length := by omega
  simp [this]
theorem lget_pt {a : List Pt} {i : Int} (h0 : 0 ≤ i) (h1 : i < a.length) : lget a i = some (pt a i) := by
  rw [lget_eq, if_pos h0, pt_get h0 h1]
theorem irem_nn {i n : Int} (h : 0 ≤ i) : irem i n = i % n := by rw [irem_eq]; exact Int.tmod_eq_emod_of_nonneg h
theorem lget_rem {a : List Pt} {i : Int} (h0 : 0 ≤ i) (hn : a ≠ []) : lget a (irem i (a.length : Int)) = some (pt a i) := by
  have hl : 0 < (a.length : Int) := by have := List.length_pos_iff.2 hn; omega
  rw [irem_nn h0, lget_pt (Int.emod_nonneg _ (by omega)) (Int.emod_lt_of_pos _ hl)]
  congr 1
  exact pt_congr (Int.emod_emod_of_dvd _ (Int.dvd_refl _))
theorem ilen_mapep (a : List Pt) : ilen (List.map ep a) = (a.length : Int) := by rw [ilen_map, ilen_eq]
theorem impl_at_eq {L : Nat} {a : List Pt} {i : Int} (hn : a ≠ []) (hs : (a.length : Int) ≤ 1000000000) : impl_at L a i = some ((pt a i).x, (pt a i).y) := by
  have hl : 0 < (a.length : Int) := by have := List.length_pos_iff.2 hn; omega
  unfold impl_at
  simp only [ilen_mapep, ieq_eq, gbind_eq, iadd_eq]
  have h0 : ¬ ((a.length : Int) = 0) := by omega
  simp only [h0, decide_false, cond_false]
  have h1 : -(a.length : Int) < irem i (a.length : Int) ∧ irem i (a.length : Int) < a.length := by
    rw [irem_eq]
    have := Int.tmod_lt_of_pos i hl
    have h2 := Int.natAbs_tmod i (a.length : Int)
    have h3 := Nat.mod_lt i.natAbs (show 0 < (a.length : Int).natAbs by omega)
    omega
  rw [wr_id (by omega), lget_rem (by omega) hn]
  simp only [Option.bind_some]
  have : pt a (irem i (a.length : Int) + a.length) = pt a i := by
    apply pt_congr
    rw [Int.add_emod_right, irem_eq]
    conv => rhs; rw [← Int.tmod_add_mul_tdiv i (a.length : Int), Int.add_mul_emod_self_left]
  rw [this]
theorem search {β : Type} {f : Nat → Int → Option β} {bad : Int → Prop} {r k : Option β} {lo n hi : Int} (hn : n ≤ hi) (hstop : ∀ m v, lo ≤ v → v ≤ hi → ¬ v < n → f (m + 1) v = k) (hbad : ∀ m v, lo ≤ v → v < n → bad v → f (m + 1) v = r)
    (hgo : ∀ m v, lo ≤ v → v < n → ¬ bad v → f (m + 1) v = f m (v + 1)) : ∀ (m : Nat) (v : Int), lo ≤ v → v ≤ hi → n - v < m → 0 < m → ((∃ j, v ≤ j ∧ j < n ∧ bad j) → f m v = r) ∧ ((∀ j, v ≤ j → j < n → ¬ bad j) → f m v = k) := by
  intro m
  induction m with
  | zero => intro v _ _ _ h; omega
  | succ m ih =>
    intro v hv hvh hm _
    by_cases hvn : v < n
    · by_cases hb : bad v
      · refine ⟨fun _ => hbad m v hv hvn hb, fun h => absurd hb (h v (Int.le_refl _) hvn)⟩
      · rw [hgo m v hv hvn hb]
        obtain ⟨h1, h2⟩ := ih (v + 1) (by omega) (by omega) (by omega) (by omega)
        refine ⟨fun ⟨j, q1, q2, q3⟩ => h1 ⟨j, ?_, q2, q3⟩, fun h => h2 fun j q1 q2 => h j (by omega) q2⟩
        by_cases hj : j = v
        · subst hj; exact absurd q3 hb
        · omega
    · rw [hstop m v hv hvh hvn]
      exact ⟨fun ⟨j, q1, q2, _⟩ => by omega, fun _ => rfl⟩
structure Good_ (a : List Pt) : Prop where
  lo : 3 ≤ (a.length : Int)
  hi : (a.length : Int) ≤ 10
  isIn : ∀ i, 0 ≤ i → i < (a.length : Int) → In (pt a i)
  ne : ∀ i k, 0 ≤ k → k < i → i < (a.length : Int) → pt a k ≠ pt a i
  turn : ∀ i, 0 ≤ i → i < (a.length : Int) → turn (pt a i) (pt a (i + 1)) (pt a (i + 2)) ≠ 0
  apart : ∀ i k, 0 ≤ i → i + 2 ≤ k → k < (a.length : Int) → k - i < (a.length : Int) - 1 → ¬ Meet (pt a i) (pt a (i + 1)) (pt a k) (pt a (k + 1))
theorem in_all {a : List Pt} (h : ∀ i, 0 ≤ i → i < (a.length : Int) → In (pt a i)) (hn : a ≠ []) (i : Int) : In (pt a i) := by
  have hl : 0 < (a.length : Int) := by have := List.length_pos_iff.2 hn; omega
  have := h (i % a.length) (Int.emod_nonneg _ (by omega)) (Int.emod_lt_of_pos _ hl)
  rwa [pt_congr (Int.emod_emod_of_dvd _ (Int.dvd_refl _))] at this
theorem spec_pgIs_eq {L : Nat} {p : Pt} : (In p → spec_pgIs L p.x p.y = some true) ∧ (¬ In p → spec_pgIs L p.x p.y = some false) := by
  unfold spec_pgIs spec_l1In In
  simp only [gbind_eq, ile_eq]
  by_cases h1 : -40 ≤ p.x <;> by_cases h2 : p.x ≤ 40 <;> by_cases h3 : -40 ≤ p.y <;> by_cases h4 : p.y ≤ 40 <;> simp [h1, h2, h3, h4]
theorem impl_IsPeg_eq {L : Nat} {p : Pt} : (In p → impl_IsPeg L p.x p.y = some true) ∧ (¬ In p → impl_IsPeg L p.x p.y = some false) := by
  unfold impl_IsPeg impl_within In
  simp only [gbind_eq, ile_eq]
  by_cases h1 : -40 ≤ p.x <;> by_cases h2 : p.x ≤ 40 <;> by_cases h3 : -40 ≤ p.y <;> by_cases h4 : p.y ≤ 40 <;> simp [h1, h2, h3, h4]
theorem pt_eq_iff {p q : Pt} : (decide (p.x = q.x) && decide (p.y = q.y)) = true ↔ p = q := by
  cases p; cases q; simp
theorem lsub0 {a : List Pt} {i : Int} (h0 : 0 ≤ i) (h1 : i ≤ a.length) : lsub a 0 i = a.take i.toNat := by
  rw [lsub_eq]; simp
theorem lsub0_len {a : List Pt} {i : Int} (h0 : 0 ≤ i) (h1 : i ≤ a.length) : ilen (lsub (List.map ep a) 0 i) = i := by
  rw [lsub_eq, ilen_eq]; simp; omega
theorem lsub0_get {a : List Pt} {i j : Int} (h0 : 0 ≤ j) (hj : j < i) (h1 : i ≤ a.length) : lget (lsub a 0 i) j = some (pt a j) := by
  rw [lsub0 (by omega) h1, lget_eq, if_pos h0, List.getElem?_take, if_pos (by omega), pt_get h0 (by omega)]
theorem wr_s {i : Int} (h : -1000000 ≤ i ∧ i ≤ 1000000) : wr .i64 i = i := wr_id (by omega)
end Go.AM
namespace Go.AM
theorem spec_l1In_eq {L : Nat} {n lo hi : Int} : spec_l1In L n lo hi = some (decide (lo ≤ n ∧ n ≤ hi)) := by
  unfold spec_l1In
  simp only [ile_eq]
  by_cases h1 : lo ≤ n <;> by_cases h2 : n ≤ hi <;> simp [h1, h2]
theorem impl_within_eq {L : Nat} {n lo hi : Int} : impl_within L n lo hi = some (decide (lo ≤ n ∧ n ≤ hi)) := by
  unfold impl_within
  simp only [ile_eq]
  by_cases h1 : lo ≤ n <;> by_cases h2 : n ≤ hi <;> simp [h1, h2]
theorem arePegs_eq {L : Nat} {a : List Pt} (hs : (a.length : Int) ≤ 1000000) (hL : (a.length : Int) < L) :
    ((∃ i, 0 ≤ i ∧ i < (a.length : Int) ∧ ¬ In (pt a i)) → impl_arePegs L a = some false) ∧ ((∀ i, 0 ≤ i → i < (a.length : Int) → In (pt a i)) → impl_arePegs L a = some true) := by
  have key : (∃ i, 0 ≤ i ∧ i < (a.length : Int) ∧ ¬ In (pt a i)) → ∃ i, 0 ≤ i ∧ slices_IndexFunc_impl_Peg_impl_Peg_97_arePegs_l0 L a L 0 = some i := by
    have : ∀ (m : Nat) (v : Int), 0 ≤ v → (a.length : Int) - v < m → (∃ i, v ≤ i ∧ i < (a.length : Int) ∧ ¬ In (pt a i)) → ∃ i, 0 ≤ i ∧ slices_IndexFunc_impl_Peg_impl_Peg_97_arePegs_l0 L a m v = some i := by
      intro m
      induction m with
      | zero => rintro v h0 h ⟨i, q1, q2, _⟩; omega
      | succ m ih =>
        rintro v h0 h ⟨i, q1, q2, q3⟩
        have hv : v < (a.length : Int) := by omega
        simp only [slices_IndexFunc_impl_Peg_impl_Peg_97_arePegs_l0, ilt_eq, ilen_mapep, hv, decide_true, cond_true, gbind_eq, lget_pt h0 hv, Option.bind_some, impl_arePegs_1]
        by_cases hi : In (pt a v)
        · rw [impl_IsPeg_eq.1 hi]
          simp only [Option.bind_some, Bool.not_true, cond_false, iadd_eq]
          rw [wr_s (by omega)]
          refine ih (v + 1) (by omega) (by omega) ⟨i, ?_, q2, q3⟩
          by_cases e : i = v
          · subst e; exact absurd hi q3
          · omega
        · rw [impl_IsPeg_eq.2 hi]
          exact ⟨v, h0, by simp⟩
    exact this L 0 (Int.le_refl _) (by omega)
  constructor
  · intro h
    obtain ⟨i, q1, q2⟩ := key h
    simp only [impl_arePegs, slices_ContainsFunc_impl_Peg_impl_Peg_arePegs, slices_IndexFunc_impl_Peg_impl_Peg_97_arePegs, gbind_eq, q2, Option.bind_some, ile_eq, q1, decide_true, Bool.not_true]
  · intro h
    have := (search (f := fun m v => slices_IndexFunc_impl_Peg_impl_Peg_97_arePegs_l0 L a m v) (r := none) (k := some (-1)) (lo := 0) (n := (a.length : Int)) (hi := (a.length : Int)) (bad := fun i => False) (Int.le_refl _) (fun m v h0 _ h => by
        simp only [slices_IndexFunc_impl_Peg_impl_Peg_97_arePegs_l0, ilt_eq, ilen_mapep, h, decide_false, cond_false]) (fun m v h0 h hb => hb.elim) (fun m v h0 hv _ => by
        simp only [slices_IndexFunc_impl_Peg_impl_Peg_97_arePegs_l0, ilt_eq, ilen_mapep, hv, decide_true, cond_true, gbind_eq, lget_pt h0 hv, Option.bind_some, impl_arePegs_1]
        rw [impl_IsPeg_eq.1 (h v h0 hv)]
        simp only [Option.bind_some, Bool.not_true, cond_false, iadd_eq]
        rw [wr_s (by omega)]) L 0 (Int.le_refl _) (by omega) (by omega) (by omega)).2 fun _ _ _ h => h
    simp only [impl_arePegs, slices_ContainsFunc_impl_Peg_impl_Peg_arePegs, slices_IndexFunc_impl_Peg_impl_Peg_97_arePegs, gbind_eq, this, Option.bind_some, ile_eq]
    rfl
theorem contains_eq {L : Nat} {b : List Pt} {p : Pt} (hs : (b.length : Int) ≤ 1000000) (hL : (b.length : Int) < L) :
    ((∃ j, 0 ≤ j ∧ j < (b.length : Int) ∧ pt b j = p) → slices_Contains_impl_Peg_impl_Peg L b p.x p.y = some true) ∧ ((∀ j, 0 ≤ j → j < (b.length : Int) → ¬ pt b j = p) → slices_Contains_impl_Peg_impl_Peg L b p.x p.y = some false) := by
  have heq : ∀ v, (decide (p.x = (pt b v).x) && decide (p.y = (pt b v).y)) = decide (pt b v = p) := fun v => by
    rw [Bool.eq_iff_iff, pt_eq_iff]
    simp [eq_comm]
  have key : (∃ j, 0 ≤ j ∧ j < (b.length : Int) ∧ pt b j = p) → ∃ i, 0 ≤ i ∧ slices_Index_impl_Peg_impl_Peg_l0 L b p.x p.y L 0 = some i := by
    have : ∀ (m : Nat) (v : Int), 0 ≤ v → (b.length : Int) - v < m → (∃ i, v ≤ i ∧ i < (b.length : Int) ∧ pt b i = p) → ∃ i, 0 ≤ i ∧ slices_Index_impl_Peg_impl_Peg_l0 L b p.x p.y m v = some i := by
      intro m
      induction m with
      | zero => rintro v h0 h ⟨i, q1, q2, _⟩; omega
      | succ m ih =>
        rintro v h0 h ⟨i, q1, q2, q3⟩
        have hv : v < (b.length : Int) := by omega
        simp only [slices_Index_impl_Peg_impl_Peg_l0, ilt_eq, ilen_mapep, hv, decide_true, cond_true, gbind_eq, lget_pt h0 hv, Option.bind_some, ieq_eq, heq]
        by_cases hi : pt b v = p
        · exact ⟨v, h0, by simp [hi]⟩
        · simp only [hi, decide_false, cond_false, iadd_eq]
          rw [wr_s (by omega)]
          refine ih (v + 1) (by omega) (by omega) ⟨i, ?_, q2, q3⟩
          by_cases e : i = v
          · subst e; exact absurd q3 hi
          · omega
    exact this L 0 (Int.le_refl _) (by omega)
  constructor
  · intro h
    obtain ⟨i, q1, q2⟩ := key h
    simp only [slices_Contains_impl_Peg_impl_Peg, slices_Index_impl_Peg_impl_Peg, gbind_eq, q2, Option.bind_some, ile_eq, q1, decide_true]
  · intro h
    have := (search (f := fun m v => slices_Index_impl_Peg_impl_Peg_l0 L b p.x p.y m v) (r := none) (k := some (-1)) (lo := 0) (n := (b.length : Int)) (hi := (b.length : Int)) (bad := fun i => False) (Int.le_refl _) (fun m v h0 _ h => by
        simp only [slices_Index_impl_Peg_impl_Peg_l0, ilt_eq, ilen_mapep, h, decide_false, cond_false]) (fun m v h0 h hb => hb.elim) (fun m v h0 hv _ => by
        simp only [slices_Index_impl_Peg_impl_Peg_l0, ilt_eq, ilen_mapep, hv, decide_true, cond_true, gbind_eq, lget_pt h0 hv, Option.bind_some, ieq_eq, heq, h v h0 hv, decide_false, cond_false, iadd_eq]
        rw [wr_s (by omega)]) L 0 (Int.le_refl _) (by omega) (by omega) (by omega)).2 fun _ _ _ h => h
    simp only [slices_Contains_impl_Peg_impl_Peg, slices_Index_impl_Peg_impl_Peg, gbind_eq, this, Option.bind_some, ile_eq]
    rfl
theorem pt_take {a : List Pt} {i j : Int} (h0 : 0 ≤ j) (hj : j < i) (h1 : i ≤ a.length) : pt (lsub a 0 i) j = pt a j := by
  have h2 := lsub0_get h0 hj h1
  have h3 : ((lsub a 0 i).length : Int) = i := by rw [lsub0 (by omega) h1]; simp; omega
  rw [lget_pt h0 (by omega)] at h2
  exact Option.some.inj h2
def BadM (a : List Pt) (i k : Int) : Prop := k + 1 ≠ i ∧ ¬ (i + 1 = (a.length : Int) ∧ k = 0) ∧ Meet (pt a k) (pt a (k + 1)) (pt a i) (pt a (i + 1))
theorem poly_l1 {L : Nat} {κ0 : (List Pt) → Int → (List Pt) → Int → Int → Option Bool} {a v17 : List Pt} {v18 i : Int} (hi : 0 ≤ i) (hil : i < a.length) (hs : (a.length : Int) ≤ 10) (hin : ∀ i, In (pt a i)) {m : Nat} (hm : i < m) :
    ((∃ k, 0 ≤ k ∧ k < i ∧ BadM a i k) → impl_IsPolygon_l1 L κ0 a a.length v17 v18 i (pt a i) m 0 = some false) ∧
    ((∀ k, 0 ≤ k → k < i → ¬ BadM a i k) → impl_IsPolygon_l1 L κ0 a a.length v17 v18 i (pt a i) m 0 = κ0 a a.length v17 v18 (i + 1)) := by
  have hne : a ≠ [] := by intro e; subst e; simp at hil; omega
  refine search (lo := 0) (n := i) (hi := i) (bad := BadM a i) (Int.le_refl _) ?_ ?_ ?_ m 0 (Int.le_refl _) (by omega) (by omega) (by omega)
  · intro m v h0 _ h
    simp only [impl_IsPolygon_l1, ilt_eq, h, decide_false, cond_false, iadd_eq]
    rw [wr_s (by omega)]
  · intro m v h0 h hb
    obtain ⟨b1, b2, b3⟩ := hb
    simp only [impl_IsPolygon_l1, ilt_eq, ieq_eq, iadd_eq, wr_s (i := v + 1) (by omega), wr_s (i := i + 1) (by omega), h, b1, decide_true, decide_false, cond_true, cond_false, gbind_eq,
      lget_pt h0 (show v < (a.length : Int) by omega), lget_pt (show 0 ≤ v + 1 by omega) (show v + 1 < (a.length : Int) by omega), impl_at_eq hne (show (a.length : Int) ≤ 1000000000 by omega), Option.bind_some]
    rw [impl_meet_eq (hin _).nr (hin _).nr (hin _).nr (hin _).nr]
    rw [decide_eq_true b3]
    by_cases c1 : i + 1 = (a.length : Int)
    · have c2 : ¬ v = 0 := fun e => b2 ⟨c1, e⟩
      simp [c1, c2]
    · simp [c1]
  · intro m v h0 h hb
    simp only [impl_IsPolygon_l1, ilt_eq, ieq_eq, iadd_eq, wr_s (i := v + 1) (by omega), wr_s (i := i + 1) (by omega), h, decide_true, decide_false, cond_true, cond_false, gbind_eq,
      lget_pt h0 (show v < (a.length : Int) by omega), lget_pt (show 0 ≤ v + 1 by omega) (show v + 1 < (a.length : Int) by omega), impl_at_eq hne (show (a.length : Int) ≤ 1000000000 by omega), Option.bind_some]
    rw [impl_meet_eq (hin _).nr (hin _).nr (hin _).nr (hin _).nr]
    by_cases c0 : v + 1 = i
    · simp only [c0, decide_true, cond_true]
    · simp only [c0, decide_false, cond_false]
      by_cases c1 : i + 1 = (a.length : Int)
      · by_cases c2 : v = 0
        · simp [c1, c2]
        · have b3 : ¬ Meet (pt a v) (pt a (v + 1)) (pt a i) (pt a (i + 1)) := fun e => hb ⟨c0, fun q => c2 q.2, e⟩
          simp [c1, c2]
          rw [← c1]
          simp [b3]
      · have b3 : ¬ Meet (pt a v) (pt a (v + 1)) (pt a i) (pt a (i + 1)) := fun e => hb ⟨c0, fun q => c1 q.1, e⟩
        simp [c1, b3]
theorem poly_l0 {L : Nat} {a : List Pt} (hn : 3 ≤ (a.length : Int)) (hs : (a.length : Int) ≤ 10) (hL : 20 < L) (hin : ∀ i, In (pt a i)) {m : Nat} (hm : (a.length : Int) < m) :
    ((∃ i, 0 ≤ i ∧ i < (a.length : Int) ∧ ((∃ k, 0 ≤ k ∧ k < i ∧ pt a k = pt a i) ∨ turn (pt a (i - 1)) (pt a i) (pt a (i + 1)) = 0 ∨ ∃ k, 0 ≤ k ∧ k < i ∧ BadM a i k)) → impl_IsPolygon_l0 L m a a.length a a.length 0 = some false) ∧
    ((∀ i, 0 ≤ i → i < (a.length : Int) → ¬ ((∃ k, 0 ≤ k ∧ k < i ∧ pt a k = pt a i) ∨ turn (pt a (i - 1)) (pt a i) (pt a (i + 1)) = 0 ∨ ∃ k, 0 ≤ k ∧ k < i ∧ BadM a i k)) → impl_IsPolygon_l0 L m a a.length a a.length 0 = some true) := by
  have hne : a ≠ [] := by intro e; subst e; simp at hn
  have hc : ∀ v, 0 ≤ v → v < (a.length : Int) → ((∃ k, 0 ≤ k ∧ k < v ∧ pt a k = pt a v) → slices_Contains_impl_Peg_impl_Peg L (lsub a 0 v) (pt a v).x (pt a v).y = some true) ∧ ((¬ ∃ k, 0 ≤ k ∧ k < v ∧ pt a k = pt a v) → slices_Contains_impl_Peg_impl_Peg L (lsub a 0 v) (pt a v).x (pt a v).y = some false) := by
    intro v h0 h
    have hl : ((lsub a 0 v).length : Int) = v := by rw [lsub0 (by omega) (by omega)]; simp; omega
    obtain ⟨h1, h2⟩ := contains_eq (L := L) (b := lsub a 0 v) (p := pt a v) (by omega) (by omega)
    rw [hl] at h1 h2
    refine ⟨fun ⟨k, q1, q2, q3⟩ => h1 ⟨k, q1, q2, by rw [pt_take q1 q2 (by omega)]; exact q3⟩, fun hno => h2 fun j q1 q2 q3 => hno ⟨j, q1, q2, ?_⟩⟩
    rwa [pt_take q1 q2 (by omega)] at q3
  refine search (f := fun m v => impl_IsPolygon_l0 L m a a.length a a.length v) (lo := 0) (n := (a.length : Int)) (hi := 10)
    (bad := fun i => (∃ k, 0 ≤ k ∧ k < i ∧ pt a k = pt a i) ∨ turn (pt a (i - 1)) (pt a i) (pt a (i + 1)) = 0 ∨ ∃ k, 0 ≤ k ∧ k < i ∧ BadM a i k) hs ?_ ?_ ?_ m 0 (Int.le_refl _) (by omega) (by omega) (by omega)
  · intro m v h0 _ h
    simp only [impl_IsPolygon_l0, ilt_eq, h, decide_false, cond_false]
  · intro m v h0 h hb
    simp only [impl_IsPolygon_l0, ilt_eq, ile_eq, isub_eq, iadd_eq, h, h0, ilen_mapep, show v ≤ (a.length : Int) by omega, decide_true, Bool.and_self, cond_true, gbind_eq, lget_pt h0 h, Option.bind_some, wr_s (i := v + 1) (by omega), wr_s (i := v - 1) (by omega),
      impl_at_eq hne (show (a.length : Int) ≤ 1000000000 by omega)]
    rw [impl_turn_eq (hin _).nr (hin _).nr (hin _).nr]
    by_cases c : ∃ k, 0 ≤ k ∧ k < v ∧ pt a k = pt a v
    · rw [(hc v h0 h).1 c]; rfl
    · rw [(hc v h0 h).2 c]
      simp only [Option.bind_some, cond_false, ieq_eq]
      by_cases t : turn (pt a (v - 1)) (pt a v) (pt a (v + 1)) = 0
      · simp only [t, decide_true, cond_true]
      · simp only [t, decide_false, cond_false]
        exact (poly_l1 h0 h hs hin (by omega)).1 ((hb.resolve_left c).resolve_left t)
  · intro m v h0 h hb
    simp only [impl_IsPolygon_l0, ilt_eq, ile_eq, isub_eq, iadd_eq, h, h0, ilen_mapep, show v ≤ (a.length : Int) by omega, decide_true, Bool.and_self, cond_true, gbind_eq, lget_pt h0 h, Option.bind_some, wr_s (i := v + 1) (by omega), wr_s (i := v - 1) (by omega),
      impl_at_eq hne (show (a.length : Int) ≤ 1000000000 by omega)]
    rw [impl_turn_eq (hin _).nr (hin _).nr (hin _).nr, (hc v h0 h).2 fun c => hb (.inl c)]
    have t : ¬ turn (pt a (v - 1)) (pt a v) (pt a (v + 1)) = 0 := fun e => hb (.inr (.inl e))
    simp only [Option.bind_some, cond_false, ieq_eq, t, decide_false]
    exact (poly_l1 h0 h hs hin (by omega)).2 fun k q1 q2 q3 => hb (.inr (.inr ⟨k, q1, q2, q3⟩))
open Classical in
theorem impl_IsPolygon_eq {L : Nat} {a : List Pt} (hL : 20 < L) : impl_IsPolygon L a = some (decide (Good_ a)) := by
  unfold impl_IsPolygon
  simp only [ilen_mapep, impl_within_eq, gbind_eq, Option.bind_some]
  by_cases hn : 3 ≤ (a.length : Int) ∧ (a.length : Int) ≤ 10
  · simp only [hn, and_self, decide_true, Bool.not_true, cond_false]
    have hne : a ≠ [] := by intro e; subst e; simp at hn
    have hl : 0 < (a.length : Int) := by omega
    by_cases hI : ∀ i, 0 ≤ i → i < (a.length : Int) → In (pt a i)
    · rw [(arePegs_eq (by omega) (by omega)).2 hI]
      simp only [Option.bind_some, Bool.not_true, cond_false]
      have hin := in_all hI hne
      by_cases h0 : ∃ i, 0 ≤ i ∧ i < (a.length : Int) ∧ ((∃ k, 0 ≤ k ∧ k < i ∧ pt a k = pt a i) ∨ turn (pt a (i - 1)) (pt a i) (pt a (i + 1)) = 0 ∨ ∃ k, 0 ≤ k ∧ k < i ∧ BadM a i k)
      · rw [(poly_l0 hn.1 hn.2 hL hin (by omega)).1 h0]
        have : ¬ Good_ a := fun g => by
          obtain ⟨i, q1, q2, q3⟩ := h0
          rcases q3 with ⟨k, q4, q5, q6⟩ | q3 | ⟨k, q4, q5, q6, q7, q8⟩
          · exact g.ne i k q4 q5 q2 q6
          · refine g.turn ((i - 1) % a.length) (Int.emod_nonneg _ (by omega)) (Int.emod_lt_of_pos _ hl) ?_
            rw [pt_congr (a := a) (i := (i - 1) % a.length) (j := i - 1) (Int.emod_emod_of_dvd _ (Int.dvd_refl _)), pt_congr (a := a) (i := (i - 1) % a.length + 1) (j := i) (by rw [Int.emod_add_emod]; congr 1; omega),
              pt_congr (a := a) (i := (i - 1) % a.length + 2) (j := i + 1) (by rw [Int.emod_add_emod]; congr 1; omega)]
            exact q3
          · exact g.apart k i q4 (by omega) q2 (by
              rcases Int.lt_or_le (i - k) ((a.length : Int) - 1) with h | h
              · exact h
              · exact absurd ⟨by omega, by omega⟩ q7) q8
        simp [this]
      · have h0' : ∀ i, 0 ≤ i → i < (a.length : Int) → ¬ ((∃ k, 0 ≤ k ∧ k < i ∧ pt a k = pt a i) ∨ turn (pt a (i - 1)) (pt a i) (pt a (i + 1)) = 0 ∨ ∃ k, 0 ≤ k ∧ k < i ∧ BadM a i k) := fun i q1 q2 q3 => h0 ⟨i, q1, q2, q3⟩
        rw [(poly_l0 hn.1 hn.2 hL hin (by omega)).2 h0']
        have : Good_ a := ⟨hn.1, hn.2, hI, fun i k q1 q2 q3 q4 => h0' i (by omega) q3 (.inl ⟨k, q1, q2, q4⟩), fun i q1 q2 q3 => by
            refine h0' ((i + 1) % a.length) (Int.emod_nonneg _ (by omega)) (Int.emod_lt_of_pos _ hl) (.inr (.inl ?_))
            rw [pt_congr (a := a) (i := (i + 1) % a.length - 1) (j := i) (by rw [Int.emod_sub_emod]; congr 1; omega), pt_congr (a := a) (i := (i + 1) % a.length) (j := i + 1) (Int.emod_emod_of_dvd _ (Int.dvd_refl _)),
              pt_congr (a := a) (i := (i + 1) % a.length + 1) (j := i + 2) (by rw [Int.emod_add_emod]; congr 1; omega)]
            exact q3, fun i k q1 q2 q3 q4 q5 => h0' k (by omega) q3 (.inr (.inr ⟨i, q1, by omega, by omega, fun q => by omega, q5⟩))⟩
        simp [this]
    · have : ¬ Good_ a := fun g => hI g.isIn
      rw [(arePegs_eq (by omega) (by omega)).1 (by
        refine Classical.byContradiction fun h => hI fun i q1 q2 => Classical.byContradiction fun e => h ⟨i, q1, q2, e⟩)]
      simp [this]
  · have : ¬ Good_ a := fun g => hn ⟨g.lo, g.hi⟩
    simp only [hn, this, decide_false, Bool.not_false, cond_true]
end Go.AM
namespace Go.AM
def sm (g : Int → Int) : Nat → Int
  | 0 => 0
  | k + 1 => sm g k + g k
theorem sm_bd {g : Int → Int} {B : Int} (h : ∀ i, -B ≤ g i ∧ g i ≤ B) : ∀ k : Nat, -(k * B) ≤ sm g k ∧ sm g k ≤ k * B
  | 0 => by simp [sm]
  | k + 1 => by
    have h1 := sm_bd h k
    have h2 := h k
    simp only [sm]
    have : ((k + 1 : Nat) : Int) * B = k * B + B := by rw [Int.natCast_add, Int.add_mul]; simp
    omega
theorem sm_congr {g h : Int → Int} : ∀ {k : Nat}, (∀ i : Int, 0 ≤ i → i < k → g i = h i) → sm g k = sm h k
  | 0, _ => rfl
  | k + 1, hh => by simp only [sm]; rw [sm_congr fun i h1 h2 => hh i h1 (by omega), hh k (by omega) (by omega)]
theorem accum {β : Type} {f : Nat → Int → Int → Option β} {S : Int → Int} {r : Option β} {lo n : Int} (hstop : ∀ m, f (m + 1) (S n) n = r) (hgo : ∀ m v, lo ≤ v → v < n → f (m + 1) (S v) v = f m (S (v + 1)) (v + 1)) :
    ∀ (m : Nat) (v : Int), lo ≤ v → v ≤ n → n - v < m → f m (S v) v = r := by
  intro m
  induction m with
  | zero => intro v _ _ h; omega
  | succ m ih =>
    intro v hv hvn hm
    by_cases h : v < n
    · rw [hgo m v hv h]; exact ih (v + 1) (by omega) (by omega) (by omega)
    · have : v = n := by omega
      subst this
      exact hstop m
def cross (p q : Pt) : Int := p.x * q.y - p.y * q.x
theorem cross_bd {p q : Pt} (hp : Nr p) (hq : Nr q) : -2000000 ≤ cross p q ∧ cross p q ≤ 2000000 := by
  have h1 := mul_bd hp.1 hq.2
  have h2 := mul_bd hp.2 hq.1
  unfold cross
  omega
theorem impl_cross_eq {L : Nat} {p q : Pt} (hp : Nr p) (hq : Nr q) : impl_cross L p.x p.y q.x q.y = some (cross p q) := by
  have h1 := mul_bd hp.1 hq.2
  have h2 := mul_bd hp.2 hq.1
  unfold impl_cross cross
  simp only [isub_eq, imul_eq]
  rw [wr_id (n := p.x * q.y) (by omega), wr_id (n := p.y * q.x) (by omega), wr_id (by omega)]
theorem turn_cross (a b c : Pt) : turn a b c = cross a b + cross b c - cross a c := by unfold turn cross; grind
def area (a : List Pt) : Int := sm (fun i => cross (pt a i) (pt a (i + 1))) a.length
theorem impl_twice_eq {L : Nat} {a : List Pt} (hn : a ≠ []) (hs : (a.length : Int) ≤ 1000) (hL : (a.length : Int) < L) (hin : ∀ i, Nr (pt a i)) : impl_twice L a = some (area a) := by
  unfold impl_twice
  have := accum (f := fun m s v => impl_twice_l0 L a m s v) (S := fun v => sm (fun i => cross (pt a i) (pt a (i + 1))) v.toNat) (r := some (area a)) (lo := 0) (n := a.length) (fun m => by
    simp only [impl_twice_l0, ilt_eq, ilen_mapep, Int.lt_irrefl, decide_false, cond_false]; rfl) (fun m v h0 h => by
    simp only [impl_twice_l0, ilt_eq, ilen_mapep, h, decide_true, cond_true, gbind_eq, lget_pt h0 h, Option.bind_some, iadd_eq, wr_s (i := v + 1) (by omega), impl_at_eq hn (show (a.length : Int) ≤ 1000000000 by omega)]
    rw [impl_cross_eq (hin _) (hin _)]
    simp only [Option.bind_some]
    have h1 := sm_bd (fun i => cross_bd (hin i) (hin (i + 1))) v.toNat
    have h2 := cross_bd (hin v) (hin (v + 1))
    have h3 : (v.toNat : Int) * 2000000 ≤ 1000 * 2000000 := by omega
    rw [wr_id (by omega)]
    congr 1
    rw [show (v + 1).toNat = v.toNat + 1 by omega]
    simp only [sm]
    rw [Int.toNat_of_nonneg h0]) L 0 (Int.le_refl _) (by omega) (by omega)
  exact this
theorem fan_area (a : List Pt) (hn : 2 ≤ (a.length : Int)) : sm (fun i => turn (pt a 0) (pt a (i + 1)) (pt a (i + 2))) (a.length - 2) = area a := by
  have key : ∀ k : Nat, sm (fun i => turn (pt a 0) (pt a (i + 1)) (pt a (i + 2))) k + cross (pt a 0) (pt a (k + 1)) = sm (fun i => cross (pt a i) (pt a (i + 1))) (k + 1) := by
    intro k
    induction k with
    | zero => simp [sm]
    | succ k ih =>
      simp only [sm] at ih ⊢
      rw [turn_cross]
      have e1 : ((k + 1 : Nat) : Int) = (k : Int) + 1 := by omega
      have e2 : (k : Int) + 1 + 1 = (k : Int) + 2 := by omega
      rw [e1, e2]
      omega
  have h := key (a.length - 2)
  unfold area
  have e : a.length = (a.length - 2) + 1 + 1 := by omega
  conv => rhs; rw [e]
  simp only [sm] at h ⊢
  have e1 : (((a.length - 2 + 1 : Nat) : Int) + 1) = (a.length : Int) := by omega
  have e2 : (((a.length - 2 : Nat) : Int) + 1) = ((a.length - 2 + 1 : Nat) : Int) := by omega
  rw [e1]
  rw [e2] at h
  have e3 : pt a (a.length : Int) = pt a 0 := pt_congr (by simp)
  rw [e3]
  have e4 : cross (pt a ((a.length - 2 + 1 : Nat) : Int)) (pt a 0) = - cross (pt a 0) (pt a ((a.length - 2 + 1 : Nat) : Int)) := by unfold cross; grind
  rw [e4]
  rw [← e2] at h ⊢
  omega
theorem spec_pgArea_eq {L : Nat} {a : List Pt} (hn : 2 ≤ (a.length : Int)) (hs : (a.length : Int) ≤ 1000) (hL : (a.length : Int) < L) (hin : ∀ i, Nr (pt a i)) : spec_pgArea L a = some (area a) := by
  unfold spec_pgArea
  have := accum (f := fun m s v => spec_pgArea_l0 L a m s v) (S := fun v => sm (fun i => turn (pt a 0) (pt a (i + 1)) (pt a (i + 2))) (v - 2).toNat) (r := some (area a)) (lo := 2) (n := a.length) (fun m => by
    simp only [spec_pgArea_l0, ilt_eq, ilen_mapep, Int.lt_irrefl, decide_false, cond_false]
    rw [← fan_area a hn, show ((a.length : Int) - 2).toNat = a.length - 2 by omega]) (fun m v h0 h => by
    simp only [spec_pgArea_l0, ilt_eq, ilen_mapep, h, decide_true, cond_true, gbind_eq, lget_pt (show 0 ≤ v by omega) h, lget_pt (Int.le_refl 0) (show 0 < (a.length : Int) by omega), Option.bind_some, iadd_eq, isub_eq, wr_s (i := v + 1) (by omega), wr_s (i := v - 1) (by omega),
      lget_pt (show 0 ≤ v - 1 by omega) (show v - 1 < (a.length : Int) by omega)]
    rw [spec_pgTurn_eq (hin _) (hin _) (hin _)]
    simp only [Option.bind_some]
    have h1 := sm_bd (fun i => turn_bd (hin 0) (hin (i + 1)) (hin (i + 2))) (v - 2).toNat
    have h2 := turn_bd (hin 0) (hin (v - 1)) (hin v)
    have h3 : ((v - 2).toNat : Int) * 8000000 ≤ 1000 * 8000000 := by omega
    rw [wr_id (by omega)]
    congr 1
    rw [show (v + 1 - 2).toNat = (v - 2).toNat + 1 by omega]
    simp only [sm]
    rw [show (((v - 2).toNat : Nat) : Int) + 1 = v - 1 by omega, show (((v - 2).toNat : Nat) : Int) + 2 = v by omega]) L 2 (Int.le_refl _) (by omega) (by omega)
  exact this
end Go.AM
namespace Go.AM
theorem impl_size_eq {L : Nat} {n : Int} (h : -1000000000 ≤ n ∧ n ≤ 1000000000) : impl_size L n = some (n.natAbs : Int) := by
  unfold impl_size
  simp only [imax_eq, isub_eq]
  rw [wr_id (by omega)]
  congr 1
  split <;> omega
theorem spec_l1Abs_eq {L : Nat} {n : Int} (h : -1000000000 ≤ n ∧ n ≤ 1000000000) : spec_l1Abs L n = some (n.natAbs : Int) := by
  unfold spec_l1Abs spec_l1Most
  simp only [ilt_eq, isub_eq, gbind_eq]
  rw [wr_id (by omega)]
  by_cases h1 : 0 - n < n
  · simp only [h1, decide_true, cond_true, Option.bind_some]; congr 1; omega
  · simp only [h1, decide_false, cond_false, Option.bind_some]; congr 1; omega
theorem divisor_l0 {L : Nat} : ∀ (m : Nat) (u v : Int), (-1000000000 ≤ u ∧ u ≤ 1000000000) → (-1000000000 ≤ v ∧ v ≤ 1000000000) → v.natAbs < m → impl_divisor_l0 L m u v = some (Nat.gcd u.natAbs v.natAbs : Int)
  | 0, _, _, _, _, h => by omega
  | m + 1, u, v, hu, hv, hm => by
    simp only [impl_divisor_l0, ieq_eq]
    by_cases h0 : v = 0
    · subst h0
      simp only [decide_true, Bool.not_true, cond_false, impl_size_eq hu, gbind_eq, Option.bind_some]
      simp
    · simp only [h0, decide_false, Bool.not_false, cond_true, cond_false]
      have h1 : (irem u v).natAbs = u.natAbs % v.natAbs := by rw [irem_eq, Int.natAbs_tmod]
      have h2 := Nat.mod_lt u.natAbs (show 0 < v.natAbs by omega)
      rw [divisor_l0 m v (irem u v) hv (by omega) (by omega), h1]
      congr 2
      rw [Nat.gcd_comm u.natAbs, Nat.gcd_rec v.natAbs u.natAbs, Nat.gcd_comm]
theorem common_l0 {L : Nat} : ∀ (m : Nat) (u v : Nat), v < m → spec_pgCommon_l0 L m u v = some (Nat.gcd u v : Int)
  | 0, _, _, h => by omega
  | m + 1, u, v, hm => by
    simp only [spec_pgCommon_l0, ilt_eq, ieq_eq]
    by_cases h0 : v = 0
    · subst h0
      simp
    · have h1 : (0 : Int) < (v : Int) := by omega
      have h2 : ¬ ((v : Int) = 0) := by omega
      simp only [h1, h2, decide_true, decide_false, cond_true, cond_false]
      have h3 : irem (u : Int) (v : Int) = ((u % v : Nat) : Int) := by rw [irem_nn (by omega)]; simp
      have h4 := Nat.mod_lt u (show 0 < v by omega)
      rw [h3, common_l0 m v (u % v) (by omega)]
      congr 2
      rw [Nat.gcd_comm u v, Nat.gcd_rec v u, Nat.gcd_comm]
def step (p q : Pt) : Int := (Nat.gcd (p.x - q.x).natAbs (p.y - q.y).natAbs : Int)
theorem step_bd {p q : Pt} (hp : Nr p) (hq : Nr q) : -4000 ≤ step p q ∧ step p q ≤ 4000 := by
  have h := sub_bd hp hq
  unfold step
  have : Nat.gcd (p.x - q.x).natAbs (p.y - q.y).natAbs ≤ (p.x - q.x).natAbs + (p.y - q.y).natAbs := by
    by_cases h0 : (p.x - q.x).natAbs = 0
    · rw [h0]; simp
    · have := Nat.gcd_le_left (p.y - q.y).natAbs (show 0 < (p.x - q.x).natAbs by omega); omega
  omega
theorem impl_steps_eq {L : Nat} {p q : Pt} (hp : Nr p) (hq : Nr q) (hL : 3000 < L) : impl_steps L p.x p.y q.x q.y = some (step p q) := by
  have h := sub_bd hp hq
  unfold impl_steps impl_divisor
  simp only [isub_eq, gbind_eq]
  rw [wr_id (n := p.x - q.x) (by omega), wr_id (n := p.y - q.y) (by omega), divisor_l0 L _ _ (by omega) (by omega) (by omega)]
  rfl
theorem spec_pgStep_eq {L : Nat} {p q : Pt} (hp : Nr p) (hq : Nr q) (hL : 3000 < L) : spec_pgStep L p.x p.y q.x q.y = some (step p q) := by
  have h := sub_bd hp hq
  unfold spec_pgStep spec_pgCommon
  simp only [isub_eq, gbind_eq]
  rw [wr_id (n := p.x - q.x) (by omega), wr_id (n := p.y - q.y) (by omega), spec_l1Abs_eq (by omega), spec_l1Abs_eq (by omega)]
  simp only [Option.bind_some]
  rw [common_l0 L _ _ (by omega)]
  rfl
def round (a : List Pt) : Int := sm (fun i => step (pt a i) (pt a (i + 1))) a.length
theorem impl_around_eq {L : Nat} {a : List Pt} (hn : a ≠ []) (hs : (a.length : Int) ≤ 1000) (hL : 3000 < L) (hin : ∀ i, Nr (pt a i)) : impl_around L a = some (round a) := by
  unfold impl_around
  have := accum (f := fun m s v => impl_around_l0 L a m s v) (S := fun v => sm (fun i => step (pt a i) (pt a (i + 1))) v.toNat) (r := some (round a)) (lo := 0) (n := a.length) (fun m => by
    simp only [impl_around_l0, ilt_eq, ilen_mapep, Int.lt_irrefl, decide_false, cond_false]; rfl) (fun m v h0 h => by
    simp only [impl_around_l0, ilt_eq, ilen_mapep, h, decide_true, cond_true, gbind_eq, lget_pt h0 h, Option.bind_some, iadd_eq, wr_s (i := v + 1) (by omega), impl_at_eq hn (show (a.length : Int) ≤ 1000000000 by omega)]
    rw [impl_steps_eq (hin _) (hin _) hL]
    simp only [Option.bind_some]
    have h1 := sm_bd (fun i => step_bd (hin i) (hin (i + 1))) v.toNat
    have h2 := step_bd (hin v) (hin (v + 1))
    have h3 : (v.toNat : Int) * 4000 ≤ 1000 * 4000 := by omega
    rw [wr_id (by omega)]
    congr 1
    rw [show (v + 1).toNat = v.toNat + 1 by omega]
    simp only [sm]
    rw [Int.toNat_of_nonneg h0]) L 0 (Int.le_refl _) (by omega) (by omega)
  exact this
theorem spec_pgRound_eq {L : Nat} {a : List Pt} (hn : a ≠ []) (hs : (a.length : Int) ≤ 1000) (hL : 3000 < L) (hin : ∀ i, Nr (pt a i)) : spec_pgRound L a = some (round a) := by
  have h3 : ¬ ((a.length : Int) = 0) := by have := List.length_pos_iff.2 hn; omega
  unfold spec_pgRound
  have := accum (f := fun m s v => spec_pgRound_l0 L a m s v) (S := fun v => sm (fun i => step (pt a i) (pt a (i + 1))) v.toNat) (r := some (round a)) (lo := 0) (n := a.length) (fun m => by
    simp only [spec_pgRound_l0, ilt_eq, ilen_mapep, Int.lt_irrefl, decide_false, cond_false]; rfl) (fun m v h0 h => by
    simp only [spec_pgRound_l0, ilt_eq, ieq_eq, ilen_mapep, h, h3, decide_true, decide_false, cond_true, cond_false, gbind_eq, lget_pt h0 h, Option.bind_some, iadd_eq, wr_s (i := v + 1) (by omega), lget_rem (show 0 ≤ v + 1 by omega) hn]
    rw [spec_pgStep_eq (hin _) (hin _) hL]
    simp only [Option.bind_some]
    have h1 := sm_bd (fun i => step_bd (hin i) (hin (i + 1))) v.toNat
    have h2 := step_bd (hin v) (hin (v + 1))
    have h3 : (v.toNat : Int) * 4000 ≤ 1000 * 4000 := by omega
    rw [wr_id (by omega)]
    congr 1
    rw [show (v + 1).toNat = v.toNat + 1 by omega]
    simp only [sm]
    rw [Int.toNat_of_nonneg h0]) L 0 (Int.le_refl _) (by omega) (by omega)
  exact this
theorem area_bd {a : List Pt} (hs : (a.length : Int) ≤ 100) (hin : ∀ i, Nr (pt a i)) : -200000000 ≤ area a ∧ area a ≤ 200000000 := by
  have h1 := sm_bd (fun i => cross_bd (hin i) (hin (i + 1))) a.length
  unfold area
  omega
noncomputable def inside (a : List Pt) : Int := wr .i64 (((wr .i64 (wr .i64 ((area a).natAbs + 2) - round a))).tdiv 2)
theorem inner_eq {L : Nat} {a : List Pt} (hn : 2 ≤ (a.length : Int)) (hs : (a.length : Int) ≤ 100) (hL : 3000 < L) (hin : ∀ i, Nr (pt a i)) : spec_pgInside L a = some (inside a) ∧ impl_inner L a = some (inside a) := by
  have hne : a ≠ [] := by intro e; subst e; simp at hn
  have hb := area_bd hs hin
  constructor
  · unfold spec_pgInside inside
    rw [spec_pgArea_eq hn (by omega) (by omega) hin]
    simp only [gbind_eq, Option.bind_some, spec_l1Abs_eq (show -1000000000 ≤ area a ∧ area a ≤ 1000000000 by omega), spec_pgRound_eq hne (show (a.length : Int) ≤ 1000 by omega) hL hin, ieq_eq, isub_eq, iadd_eq, iquo_eq]
    rfl
  · unfold impl_inner inside
    rw [impl_twice_eq hne (by omega) (by omega) hin]
    simp only [gbind_eq, Option.bind_some, impl_size_eq (show -1000000000 ≤ area a ∧ area a ≤ 1000000000 by omega), impl_around_eq hne (show (a.length : Int) ≤ 1000 by omega) hL hin, ieq_eq, isub_eq, iadd_eq, iquo_eq]
    rfl
end Go.AM
namespace Go.AM
theorem turn_swap (a b p : Pt) : turn b a p = - turn a b p := by unfold turn; grind
theorem mul_self_nn (x : Int) : 0 ≤ x * x := by
  rcases Int.le_total 0 x with h | h
  · exact Int.mul_nonneg h h
  · have := Int.mul_nonneg (show 0 ≤ -x by omega) (show 0 ≤ -x by omega); rw [Int.neg_mul_neg] at this; exact this
theorem on_of {a b p : Pt} (ht : turn a b p = 0) (h1 : (a.y - p.y) * (b.y - p.y) ≤ 0) (h2 : a.y ≠ b.y) : OnL a b p := by
  refine ⟨ht, ?_, h1⟩
  have e : ((a.x - p.x) * (b.x - p.x)) * ((b.y - a.y) * (b.y - a.y)) = ((b.x - a.x) * (b.x - a.x)) * ((a.y - p.y) * (b.y - p.y)) := by
    unfold turn at ht
    have e1 : (b.x - a.x) * (p.y - a.y) = (b.y - a.y) * (p.x - a.x) := by omega
    grind
  have h3 := mul_self_nn (b.x - a.x)
  have h4 : ((b.x - a.x) * (b.x - a.x)) * ((a.y - p.y) * (b.y - p.y)) ≤ 0 := Int.mul_nonpos_of_nonneg_of_nonpos h3 h1
  have h5 : 0 < (b.y - a.y) * (b.y - a.y) := by
    have := mul_self_nn (b.y - a.y)
    rcases Int.lt_or_eq_of_le this with h | h
    · exact h
    · have := Int.mul_eq_zero.1 h.symm
      omega
  rw [← e] at h4
  rcases Int.le_total ((a.x - p.x) * (b.x - p.x)) 0 with h | h
  · exact h
  · rcases Int.lt_or_eq_of_le h with h | h
    · have := Int.mul_pos h h5
      omega
    · omega
end Go.AM
namespace Go.AM
def Less (p q : Pt) : Prop := p.x < q.x ∨ (p.x = q.x ∧ p.y < q.y)
instance (p q : Pt) : Decidable (Less p q) := by unfold Less; infer_instance
theorem Less.trans {p q r : Pt} (h : Less p q) (k : Less q r) : Less p r := by unfold Less at *; omega
theorem Less.irrefl (p : Pt) : ¬ Less p p := by unfold Less; omega
theorem not_less_eq {p q : Pt} (h : ¬ Less p q) (k : ¬ Less q p) : p = q := by
  unfold Less at *
  cases p; cases q
  simp only [Pt.mk.injEq] at *
  omega
theorem spec_pgLess_eq {L : Nat} {p q : Pt} : spec_pgLess L p.x p.y q.x q.y = some (decide (Less p q)) := by
  unfold spec_pgLess Less
  simp only [ilt_eq, ieq_eq]
  by_cases h1 : p.x < q.x <;> by_cases h2 : p.x = q.x <;> by_cases h3 : p.y < q.y <;> simp [h1, h2, h3]
def cmpI (a b : Int) : Int := if a < b then -1 else if b < a then 1 else 0
theorem cmp_eq {L : Nat} {a b : Int} : cmp_Compare_int L a b = some (cmpI a b) := by
  unfold cmp_Compare_int cmp_isNaN_int cmpI
  simp only [gbind_eq, ieq_eq, decide_true, Bool.not_true, Option.bind_some, cond_false, ilt_eq]
  by_cases h1 : a < b <;> by_cases h2 : b < a <;> simp [h1, h2]
end Go.AM
namespace Go.AM
end Go.AM
namespace Go.AM
theorem pt_mod (a : List Pt) (i : Int) : pt a (i % (a.length : Int)) = pt a i := pt_congr (Int.emod_emod_of_dvd _ (Int.dvd_refl _))
end Go.AM
namespace Go.AM
theorem step_nn (p q : Pt) : 0 ≤ step p q := by unfold step; omega
theorem tdiv_bd {a b A : Int} (h : -A ≤ a ∧ a ≤ A) : -A ≤ a.tdiv b ∧ a.tdiv b ≤ A := by
  have h1 : (a.tdiv b).natAbs ≤ a.natAbs := by rw [Int.natAbs_tdiv]; exact Nat.div_le_self _ _
  omega
end Go.AM
namespace Go.AM
theorem step_pos {p q : Pt} (h : p ≠ q) : 0 < step p q := by
  unfold step
  have : 0 < Nat.gcd (p.x - q.x).natAbs (p.y - q.y).natAbs := by
    rw [Nat.gcd_pos_iff]
    by_cases hx : p.x = q.x
    · right
      have : p.y ≠ q.y := fun e => h (by cases p; cases q; simp_all)
      omega
    · left; omega
  omega
end Go.AM
namespace Go.AM
end Go.AM
namespace Go.AM
def tg (A B q : Pt) : Bool := decide ((A.y ≤ q.y ∧ q.y < B.y ∧ 0 < turn A B q) ∨ (B.y ≤ q.y ∧ q.y < A.y ∧ turn A B q < 0))
def par (a : List Pt) (q : Pt) (v : Int) : Nat → Bool
  | 0 => false
  | k + 1 => xor (tg (pt a v) (pt a (v + 1)) q) (par a q (v + 1) k)
theorem where_val_l0 {L : Nat} {a : List Pt} {q : Pt} (hn : a ≠ []) (hs : (a.length : Int) ≤ 1000) (hin : ∀ i, Nr (pt a i)) (hq : Nr q) : ∀ (m k : Nat) (v : Int) (s : Bool), 0 ≤ v → v + k = a.length → k < m →
    ∃ r, spec_pgWhere_l0 L a q.x q.y m s v = some r ∧ impl_where_l0 L a q.x q.y m (if s then 1 else -1) v = some r ∧
      ((∃ i, v ≤ i ∧ i < (a.length : Int) ∧ OnL (pt a i) (pt a (i + 1)) q) → r = 0) ∧ ((¬ ∃ i, v ≤ i ∧ i < (a.length : Int) ∧ OnL (pt a i) (pt a (i + 1)) q) → r = if xor s (par a q v k) then 1 else -1)
  | 0, _, _, _, _, _, h => by omega
  | m + 1, 0, v, s, h0, hv, hm => by
    have h : ¬ v < (a.length : Int) := by omega
    simp only [spec_pgWhere_l0, impl_where_l0, ilt_eq, ilen_mapep, h, decide_false, cond_false]
    have hno : ¬ ∃ i, v ≤ i ∧ i < (a.length : Int) ∧ OnL (pt a i) (pt a (i + 1)) q := fun ⟨i, h1, h2, _⟩ => by omega
    cases s
    · exact ⟨-1, rfl, rfl, fun h => absurd h hno, fun _ => by simp [par]⟩
    · exact ⟨1, rfl, rfl, fun h => absurd h hno, fun _ => by simp [par]⟩
  | m + 1, k + 1, v, s, h0, hv, hm => by
    have h3 : ¬ ((a.length : Int) = 0) := by have := List.length_pos_iff.2 hn; omega
    have h : v < (a.length : Int) := by omega
    have next : ∀ s' : Bool, ∃ r, spec_pgWhere_l0 L a q.x q.y m s' (v + 1) = some r ∧ impl_where_l0 L a q.x q.y m (if s' then 1 else -1) (v + 1) = some r ∧
      ((∃ i, v + 1 ≤ i ∧ i < (a.length : Int) ∧ OnL (pt a i) (pt a (i + 1)) q) → r = 0) ∧ ((¬ ∃ i, v + 1 ≤ i ∧ i < (a.length : Int) ∧ OnL (pt a i) (pt a (i + 1)) q) → r = if xor s' (par a q (v + 1) k) then 1 else -1) := fun s' =>
      where_val_l0 (L := L) hn hs hin hq m k (v + 1) s' (by omega) (by omega) (by omega)
    have eneg : wr .i64 (0 - (if s then 1 else -1)) = (if (!s) = true then 1 else -1) := by cases s <;> exact wr_id (by decide)
    simp only [spec_pgWhere_l0, impl_where_l0, ilt_eq, ile_eq, ieq_eq, iadd_eq, isub_eq, beqb_eq, ilen_mapep, h, h3, decide_true, decide_false, cond_true, cond_false, gbind_eq, wr_s (i := v + 1) (by omega), lget_pt h0 h, lget_rem (show 0 ≤ v + 1 by omega) hn,
      impl_at_eq hn (show (a.length : Int) ≤ 1000000000 by omega), Option.bind_some]
    rw [spec_pgOn_eq (hin _) (hin _) hq, impl_isOn_eq (hin _) (hin _) hq, spec_pgTurn_eq (hin _) (hin _) hq, spec_pgTurn_eq (hin _) (hin _) hq, impl_turn_eq (hin _) (hin _) hq]
    simp only [Option.bind_some, eneg]
    by_cases hO : OnL (pt a v) (pt a (v + 1)) q
    · exact ⟨0, by simp [hO], by simp [hO], fun _ => rfl, fun h' => absurd ⟨v, Int.le_refl _, h, hO⟩ h'⟩
    · -- what the rest tells
      have rest : ∀ s', s' = xor s (tg (pt a v) (pt a (v + 1)) q) → ∃ r, (spec_pgWhere_l0 L a q.x q.y m s' (v + 1) = some r ∧ impl_where_l0 L a q.x q.y m (if s' then 1 else -1) (v + 1) = some r) ∧
          ((∃ i, v ≤ i ∧ i < (a.length : Int) ∧ OnL (pt a i) (pt a (i + 1)) q) → r = 0) ∧ ((¬ ∃ i, v ≤ i ∧ i < (a.length : Int) ∧ OnL (pt a i) (pt a (i + 1)) q) → r = if xor s (par a q v (k + 1)) then 1 else -1) := by
        intro s' hs'
        obtain ⟨r, r1, r2, r3, r4⟩ := next s'
        refine ⟨r, ⟨r1, r2⟩, fun ⟨i, i0, i1, i2⟩ => r3 ⟨i, ?_, i1, i2⟩, fun hno => ?_⟩
        · by_cases hi : i = v
          · subst hi; exact absurd i2 hO
          · omega
        · rw [r4 fun ⟨i, i0, i1, i2⟩ => hno ⟨i, by omega, i1, i2⟩, hs']
          show _ = if xor s (xor (tg (pt a v) (pt a (v + 1)) q) (par a q (v + 1) k)) then 1 else -1
          rw [← Bool.xor_assoc]
      have fin : ∀ s' (X Y : Option Int), s' = xor s (tg (pt a v) (pt a (v + 1)) q) → X = spec_pgWhere_l0 L a q.x q.y m s' (v + 1) → Y = impl_where_l0 L a q.x q.y m (if s' then 1 else -1) (v + 1) →
          ∃ r, X = some r ∧ Y = some r ∧ ((∃ i, v ≤ i ∧ i < (a.length : Int) ∧ OnL (pt a i) (pt a (i + 1)) q) → r = 0) ∧ ((¬ ∃ i, v ≤ i ∧ i < (a.length : Int) ∧ OnL (pt a i) (pt a (i + 1)) q) → r = if xor s (par a q v (k + 1)) then 1 else -1) := by
        intro s' X Y hs' hX hY
        obtain ⟨r, ⟨r1, r2⟩, r3⟩ := rest s' hs'
        exact ⟨r, hX.trans r1, hY.trans r2, r3⟩
      clear rest next
      simp only [hO, decide_false, cond_false]
      have htg : tg (pt a v) (pt a (v + 1)) q = decide (((pt a v).y ≤ q.y ∧ q.y < (pt a (v + 1)).y ∧ 0 < turn (pt a v) (pt a (v + 1)) q) ∨ ((pt a (v + 1)).y ≤ q.y ∧ q.y < (pt a v).y ∧ turn (pt a v) (pt a (v + 1)) q < 0)) := by
        unfold tg; congr
      generalize tg (pt a v) (pt a (v + 1)) q = t at *
      generalize pt a v = A at *
      generalize pt a (v + 1) = B at *
      rw [turn_swap A B q]
      have hz : turn A B q = 0 → ¬ ((A.y - q.y) * (B.y - q.y) ≤ 0 ∧ A.y ≠ B.y) := fun e h => hO (on_of e h.1 h.2)
      rw [mul_le0] at hz
      have up : t = true → xor s t = !s := fun e => by subst e; simp
      have no : t = false → xor s t = s := fun e => by subst e; simp
      by_cases c1 : B.y < A.y
      · simp only [c1, decide_true, cond_true]
        by_cases c2 : B.y ≤ q.y
        · by_cases c3 : q.y < A.y
          · have c4 : ¬ q.y < B.y := by omega
            have c5 : ¬ A.y < B.y := by omega
            by_cases c6 : 0 < turn A B q
            · have c7 : ¬ turn A B q < 0 := by omega
              exact fin s _ _ (no (by rw [htg]; simp; omega)).symm (by simp [c2, c3, c7]) (by simp [c3, c4, c5, c6])
            · have c7 : turn A B q < 0 := by
                have : turn A B q ≠ 0 := fun e => hz e ⟨by omega, by omega⟩
                omega
              exact fin (!s) _ _ (up (by rw [htg]; simp; omega)).symm (by simp [c2, c3, c7]) (by simp [c3, c4, c5, c6])
          · have c4 : ¬ q.y < B.y := by omega
            exact fin s _ _ (no (by rw [htg]; simp; omega)).symm (by simp [c2, c3]) (by simp [c3, c4])
        · have c3 : q.y < A.y := by omega
          have c4 : q.y < B.y := by omega
          exact fin s _ _ (no (by rw [htg]; simp; omega)).symm (by simp [c2]) (by simp [c3, c4])
      · simp only [c1, decide_false, cond_false]
        by_cases c2 : A.y ≤ q.y
        · have c3 : ¬ q.y < A.y := by omega
          by_cases c4 : q.y < B.y
          · have c5 : A.y < B.y := by omega
            by_cases c6 : 0 < turn A B q
            · exact fin (!s) _ _ (up (by rw [htg]; simp; omega)).symm (by simp [c2, c4, c6]) (by simp [c3, c4, c5, c6])
            · exact fin s _ _ (no (by rw [htg]; simp; omega)).symm (by simp [c2, c4, c6]) (by simp [c3, c4, c5, c6])
          · exact fin s _ _ (no (by rw [htg]; simp; omega)).symm (by simp [c2, c4]) (by simp [c3, c4])
        · have c3 : q.y < A.y := by omega
          have c4 : q.y < B.y := by omega
          exact fin s _ _ (no (by rw [htg]; simp; omega)).symm (by simp [c2]) (by simp [c3, c4])
def Rim (a : List Pt) (q : Pt) : Prop := ∃ i, 0 ≤ i ∧ i < (a.length : Int) ∧ OnL (pt a i) (pt a (i + 1)) q
open Classical in
noncomputable def wh (a : List Pt) (q : Pt) : Int := if Rim a q then 0 else if par a q 0 a.length then 1 else -1
open Classical in
theorem where_val {L : Nat} {a : List Pt} {q : Pt} (hn : a ≠ []) (hs : (a.length : Int) ≤ 1000) (hin : ∀ i, Nr (pt a i)) (hq : Nr q) (hL : (a.length : Int) < L) : spec_pgWhere L a q.x q.y = some (wh a q) ∧ impl_where L a q.x q.y = some (wh a q) := by
  obtain ⟨r, r1, r2, r3, r4⟩ := where_val_l0 (L := L) hn hs hin hq L a.length 0 false (Int.le_refl _) (by omega) (by omega)
  have e : r = wh a q := by
    unfold wh
    by_cases h : Rim a q
    · rw [if_pos h]; exact r3 h
    · rw [if_neg h, r4 h]; simp
  subst e
  exact ⟨r1, r2⟩
end Go.AM
namespace Go.AM
def Pos (v : Pt) : Prop := 0 < v.x ∨ (v.x = 0 ∧ 0 < v.y)
def Neg (v : Pt) : Prop := v.x < 0 ∨ (v.x = 0 ∧ v.y < 0)
instance (v : Pt) : Decidable (Pos v) := by unfold Pos; infer_instance
instance (v : Pt) : Decidable (Neg v) := by unfold Neg; infer_instance
def dl (u v : Pt) : Int := if Neg u ∧ Pos v ∧ 0 < cross u v then 1 else if Pos u ∧ Neg v ∧ cross u v < 0 then -1 else 0
theorem dl_anti (u v : Pt) : dl v u = - dl u v := by
  have h : cross v u = - cross u v := by unfold cross; grind
  unfold dl
  rw [h]
  have n1 : ∀ w : Pt, Neg w → ¬ Pos w := fun w => by unfold Neg Pos; omega
  by_cases a1 : Neg u <;> by_cases a2 : Pos u <;> by_cases a3 : Neg v <;> by_cases a4 : Pos v <;> simp [a1, a2, a3, a4] <;>
    first
      | exact absurd a2 (n1 u a1)
      | exact absurd a4 (n1 v a3)
      | (by_cases b1 : 0 < cross u v <;> by_cases b2 : cross u v < 0 <;> simp [b1, b2] <;> omega)
      | skip
theorem pos_or_neg {v : Pt} (h : v ≠ ⟨0, 0⟩) : Pos v ∨ Neg v := by
  obtain ⟨x, y⟩ := v
  simp only [ne_eq, Pt.mk.injEq, not_and] at h
  unfold Pos Neg
  simp only
  by_cases hx : x = 0
  · have := h hx; omega
  · omega
theorem three_way (p q s : Pt) : cross q s * p.x + cross s p * q.x + cross p q * s.x = 0 ∧ cross q s * p.y + cross s p * q.y + cross p q * s.y = 0 := by
  unfold cross; constructor <;> grind
theorem sign_of {c : Int} {p w : Pt} (hp : Pos p) (hw : Pos w) (hx : c * p.x = w.x) (hy : c * p.y = w.y) : 0 < c := by
  unfold Pos at hp hw
  rcases Int.lt_trichotomy c 0 with h | h | h
  · exfalso
    rcases hp with hp | ⟨hp0, hp⟩
    · have := Int.mul_neg_of_neg_of_pos h hp; omega
    · rw [hp0] at hx
      have := Int.mul_neg_of_neg_of_pos h hp
      simp at hx; omega
  · subst h; simp at hx hy; omega
  · exact h
def comb (a : Int) (p : Pt) (b : Int) (q : Pt) : Pt := ⟨a * p.x + b * q.x, a * p.y + b * q.y⟩
theorem pos_comb {a b : Int} {p q : Pt} (ha : 0 < a) (hb : 0 ≤ b) (hp : Pos p) (hq : Pos q) : Pos (comb a p b q) := by
  unfold Pos comb at *
  simp only
  have bq : 0 ≤ b * q.x := by
    rcases hq with h | ⟨h, _⟩
    · exact Int.mul_nonneg hb (by omega)
    · rw [h]; simp
  rcases hp with h | ⟨h, h'⟩
  · left
    have := Int.mul_pos ha h
    omega
  · rw [h]
    simp only [Int.mul_zero, Int.zero_add]
    rcases Int.lt_or_eq_of_le bq with h1 | h1
    · exact .inl h1
    · right
      refine ⟨h1.symm, ?_⟩
      have := Int.mul_pos ha h'
      have bq' : 0 ≤ b * q.y := by
        rcases Int.mul_eq_zero.1 h1.symm with h2 | h2
        · rw [h2]; simp
        · rcases hq with h3 | ⟨_, h3⟩
          · omega
          · exact Int.mul_nonneg hb (by omega)
      omega
def ngt (v : Pt) : Pt := ⟨-v.x, -v.y⟩
theorem neg_ngt {v : Pt} : Neg v ↔ Pos (ngt v) := by unfold Neg Pos ngt; simp only; omega
theorem pos_ngt {v : Pt} : Pos v ↔ Neg (ngt v) := by unfold Neg Pos ngt; simp only; omega
theorem cross_ngt1 (u v : Pt) : cross (ngt u) v = - cross u v := by unfold cross ngt; grind
theorem wedge {p q s : Pt} (hp : Pos p) (hq : Neg q) (hs : Neg s) (h1 : cross p q < 0) (h2 : 0 ≤ cross p s) : 0 < cross s q := by
  obtain ⟨e1, e2⟩ := three_way p q s
  have hw := pos_comb (a := -cross p q) (b := cross p s) (by omega) h2 (neg_ngt.1 hs) (neg_ngt.1 hq)
  refine sign_of hp hw ?_ ?_
  · have : cross s p = - cross p s := by unfold cross; grind
    have : cross q s = - cross s q := by unfold cross; grind
    unfold comb ngt; simp only; grind
  · have : cross s p = - cross p s := by unfold cross; grind
    have : cross q s = - cross s q := by unfold cross; grind
    unfold comb ngt; simp only; grind
end Go.AM
namespace Go.AM
structure NM (p q r s : Pt) : Prop where
  sx : p.x + r.x = q.x + s.x
  sy : p.y + r.y = q.y + s.y
  n1 : ¬ (cross p s = 0 ∧ p.x * s.x ≤ 0 ∧ p.y * s.y ≤ 0)
  n2 : ¬ (cross q r = 0 ∧ q.x * r.x ≤ 0 ∧ q.y * r.y ≤ 0)
  n3 : ¬ (cross p q = 0 ∧ p.x * q.x ≤ 0 ∧ p.y * q.y ≤ 0)
  n4 : ¬ (cross s r = 0 ∧ s.x * r.x ≤ 0 ∧ s.y * r.y ≤ 0)
  n5 : ¬ (((cross p q < 0 ∧ 0 < cross s r) ∨ (0 < cross p q ∧ cross s r < 0)) ∧ ((cross p s < 0 ∧ 0 < cross q r) ∨ (0 < cross p s ∧ cross q r < 0)))
theorem cross_anti (u v : Pt) : cross v u = - cross u v := by unfold cross; grind
theorem NM.rot {p q r s : Pt} (h : NM p q r s) : NM q r s p := by
  have e1 := cross_anti q p; have e2 := cross_anti r s
  have h1 := h.n1; have h2 := h.n2; have h3 := h.n3; have h4 := h.n4; have h5 := h.n5
  refine ⟨by have := h.sx; omega, by have := h.sy; omega, ?_, ?_, ?_, ?_, ?_⟩
  · rw [cross_anti p q, Int.mul_comm q.x, Int.mul_comm q.y]; intro ⟨a, b⟩; exact h3 ⟨by omega, b⟩
  · rw [cross_anti s r, Int.mul_comm r.x, Int.mul_comm r.y]; intro ⟨a, b⟩; exact h4 ⟨by omega, b⟩
  · exact h2
  · exact h1
  · intro ⟨a, b⟩
    rw [cross_anti p q, cross_anti s r] at b
    exact h5 ⟨by omega, by omega⟩
theorem NM.swap {p q r s : Pt} (h : NM p q r s) : NM p s r q :=
  ⟨by have := h.sx; omega, by have := h.sy; omega, h.n3, h.n4, h.n1, h.n2, fun ⟨a, b⟩ => h.n5 ⟨b, a⟩⟩
theorem cross_ngt (u v : Pt) : cross (ngt u) (ngt v) = cross u v := by unfold cross ngt; grind
theorem NM.ngt {p q r s : Pt} (h : NM p q r s) : NM (ngt p) (ngt q) (ngt r) (ngt s) := by
  have hm : ∀ u v : Pt, (AM.ngt u).x * (AM.ngt v).x = u.x * v.x ∧ (AM.ngt u).y * (AM.ngt v).y = u.y * v.y := fun u v => by unfold AM.ngt; simp only; constructor <;> grind
  refine ⟨by have := h.sx; unfold AM.ngt; simp only; omega, by have := h.sy; unfold AM.ngt; simp only; omega, ?_, ?_, ?_, ?_, ?_⟩
  · rw [cross_ngt, (hm _ _).1, (hm _ _).2]; exact h.n1
  · rw [cross_ngt, (hm _ _).1, (hm _ _).2]; exact h.n2
  · rw [cross_ngt, (hm _ _).1, (hm _ _).2]; exact h.n3
  · rw [cross_ngt, (hm _ _).1, (hm _ _).2]; exact h.n4
  · simp only [cross_ngt]; exact h.n5
theorem opp {p q : Pt} (hp : Pos p) (hq : Neg q) (h : cross p q = 0) : p.x * q.x ≤ 0 ∧ p.y * q.y ≤ 0 := by
  unfold Pos Neg at *
  have e : p.x * q.y = p.y * q.x := by unfold cross at h; omega
  rcases hp with hp | ⟨hp0, hp⟩
  · rcases hq with hq | ⟨hq0, hq⟩
    · refine ⟨by have := Int.mul_neg_of_pos_of_neg hp hq; omega, ?_⟩
      have e2 : p.x * (p.y * q.y) = (p.y * p.y) * q.x := by grind
      have h1 := mul_self_nn p.y
      have h2 := Int.mul_nonpos_of_nonneg_of_nonpos h1 (show q.x ≤ 0 by omega)
      rcases Int.lt_or_le 0 (p.y * q.y) with h3 | h3
      · have := Int.mul_pos hp h3; omega
      · exact h3
    · exfalso
      rw [hq0] at e
      have := Int.mul_neg_of_pos_of_neg hp hq
      simp at e; omega
  · rw [hp0] at e ⊢
    simp only [Int.zero_mul] at e ⊢
    have hqx : q.x = 0 := by
      rcases Int.mul_eq_zero.1 e.symm with h1 | h1 <;> omega
    refine ⟨Int.le_refl _, ?_⟩
    have : q.y < 0 := by omega
    have := Int.mul_neg_of_pos_of_neg hp this
    omega
theorem cell1 {p q r s : Pt} (h : NM p q r s) (hp : Pos p) (hq : Neg q) (hs : Neg s) : cross p q < 0 → cross p s < 0 := by
  intro h1
  rcases Int.lt_or_le (cross p s) 0 with h2 | h2
  · exact h2
  · exfalso
    have w := wedge hp hq hs h1 h2
    have hr : r = ⟨q.x + s.x - p.x, q.y + s.y - p.y⟩ := by
      have := h.sx; have := h.sy; obtain ⟨a, b⟩ := r; simp only at *; congr 1 <;> omega
    have b1 : cross s r = cross s q + cross p s := by rw [hr]; unfold cross; grind
    have b2 : cross q r = cross p q - cross s q := by rw [hr]; unfold cross; grind
    rcases Int.lt_or_eq_of_le h2 with h3 | h3
    · exact h.n5 ⟨.inl ⟨h1, by omega⟩, .inr ⟨h3, by omega⟩⟩
    · exact h.n1 ⟨h3.symm, opp hp hs h3.symm⟩
theorem cell_1 {p q r s : Pt} (h : NM p q r s) (hp : Pos p) (hq : Neg q) (hs : Neg s) : (cross p q < 0 ↔ cross p s < 0) ∧ cross p q ≠ 0 ∧ cross p s ≠ 0 :=
  ⟨⟨cell1 h hp hq hs, cell1 h.swap hp hs hq⟩, fun e => h.n3 ⟨e, opp hp hq e⟩, fun e => h.n1 ⟨e, opp hp hs e⟩⟩
theorem cell2 {p q r s : Pt} (h : NM p q r s) (hp : Pos p) (hq : Pos q) (hr : Neg r) (hs : Neg s) : ¬ (cross q r < 0 ∧ 0 < cross p s) := by
  rintro ⟨k, g⟩
  have e1 : cross q r = cross q s + cross p q := by
    have hr' : r = ⟨q.x + s.x - p.x, q.y + s.y - p.y⟩ := by
      have := h.sx; have := h.sy; obtain ⟨a, b⟩ := r; simp only at *; congr 1 <;> omega
    rw [hr']; unfold cross; grind
  have e2 : cross q r = cross p r - cross s r := by
    have hq' : q = ⟨p.x + r.x - s.x, p.y + r.y - s.y⟩ := by
      have := h.sx; have := h.sy; obtain ⟨a, b⟩ := q; simp only at *; congr 1 <;> omega
    rw [hq']; unfold cross; grind
  have a1 : cross p q < 0 := by
    rcases Int.lt_or_le (cross p q) 0 with h1 | h1
    · exact h1
    · have hw := pos_comb (a := -cross q s) (b := cross p s) (by omega) (by omega) hp hq
      obtain ⟨t1, t2⟩ := three_way p q s
      have a := cross_anti p s
      have := sign_of (c := -cross p q) (neg_ngt.1 hs) hw (by unfold ngt comb; simp only; grind) (by unfold ngt comb; simp only; grind)
      omega
  have b1 : 0 < cross s r := by
    rcases Int.lt_or_le 0 (cross s r) with h1 | h1
    · exact h1
    · have hw := pos_comb (a := -cross p r) (b := cross p s) (by omega) (by omega) (neg_ngt.1 hs) (neg_ngt.1 hr)
      obtain ⟨t1, t2⟩ := three_way p r s
      have a := cross_anti p s
      have a' := cross_anti s r
      exact sign_of (c := cross s r) hp hw (by unfold ngt comb; simp only; grind) (by unfold ngt comb; simp only; grind)
  exact h.n5 ⟨.inl ⟨a1, b1⟩, .inr ⟨g, k⟩⟩
theorem cell_2 {p q r s : Pt} (h : NM p q r s) (hp : Pos p) (hq : Pos q) (hr : Neg r) (hs : Neg s) : (cross q r < 0 ↔ cross p s < 0) ∧ cross q r ≠ 0 ∧ cross p s ≠ 0 := by
  have z1 : cross q r ≠ 0 := fun e => h.n2 ⟨e, opp hq hr e⟩
  have z2 : cross p s ≠ 0 := fun e => h.n1 ⟨e, opp hp hs e⟩
  have k1 := cell2 h hp hq hr hs
  have h' : NM q p s r := h.swap.rot.rot.rot
  have k2 := cell2 h' hq hp hs hr
  refine ⟨?_, z1, z2⟩
  omega
theorem pos_not_neg {v : Pt} (h : Pos v) : ¬ Neg v := by unfold Pos Neg at *; omega
theorem dl_pp {u v : Pt} (h : Pos u) (k : Pos v) : dl u v = 0 := by unfold dl; simp [pos_not_neg h, pos_not_neg k]
theorem neg_not_pos {v : Pt} (h : Neg v) : ¬ Pos v := fun k => pos_not_neg k h
theorem dl_nn {u v : Pt} (h : Neg u) (k : Neg v) : dl u v = 0 := by unfold dl; simp [neg_not_pos h, neg_not_pos k]
theorem dl_pn {u v : Pt} (h : Pos u) (k : Neg v) : dl u v = if cross u v < 0 then -1 else 0 := by unfold dl; simp [h, k, pos_not_neg h]
theorem dl_np {u v : Pt} (h : Neg u) (k : Pos v) : dl u v = if 0 < cross u v then 1 else 0 := by unfold dl; simp [h, k, neg_not_pos h]
theorem sum1 {p q r s : Pt} (h : NM p q r s) (hp : Pos p) (hq : Neg q) (hr : Neg r) (hs : Neg s) : dl p q + dl q r + dl r s + dl s p = 0 := by
  rw [dl_pn hp hq, dl_nn hq hr, dl_nn hr hs, dl_np hs hp, cross_anti p s]
  obtain ⟨k1, k2, k3⟩ := cell_1 h hp hq hs
  split <;> split <;> omega
theorem sum1n {p q r s : Pt} (h : NM p q r s) (hp : Neg p) (hq : Pos q) (hr : Pos r) (hs : Pos s) : dl p q + dl q r + dl r s + dl s p = 0 := by
  rw [dl_np hp hq, dl_pp hq hr, dl_pp hr hs, dl_pn hs hp, cross_anti p s]
  obtain ⟨k1, k2, k3⟩ := cell_1 h.ngt (neg_ngt.1 hp) (pos_ngt.1 hq) (pos_ngt.1 hs)
  rw [cross_ngt, cross_ngt] at k1
  rw [cross_ngt] at k2 k3
  split <;> split <;> omega
theorem sum2 {p q r s : Pt} (h : NM p q r s) (hp : Pos p) (hq : Pos q) (hr : Neg r) (hs : Neg s) : dl p q + dl q r + dl r s + dl s p = 0 := by
  rw [dl_pp hp hq, dl_pn hq hr, dl_nn hr hs, dl_np hs hp, cross_anti p s]
  obtain ⟨k1, k2, k3⟩ := cell_2 h hp hq hr hs
  split <;> split <;> omega
theorem sum3 {p q r s : Pt} (h : NM p q r s) (hp : Pos p) (hq : Neg q) (hr : Pos r) (hs : Neg s) : False := by
  have := h.sx; have := h.sy
  unfold Pos Neg at *
  omega
theorem cell_sum {p q r s : Pt} (h : NM p q r s) (zp : p ≠ ⟨0, 0⟩) (zq : q ≠ ⟨0, 0⟩) (zr : r ≠ ⟨0, 0⟩) (zs : s ≠ ⟨0, 0⟩) : dl p q + dl q r + dl r s + dl s p = 0 := by
  have h1 := h.rot; have h2 := h1.rot; have h3 := h2.rot
  rcases pos_or_neg zp with hp | hp <;> rcases pos_or_neg zq with hq | hq <;> rcases pos_or_neg zr with hr | hr <;> rcases pos_or_neg zs with hs | hs
  · rw [dl_pp hp hq, dl_pp hq hr, dl_pp hr hs, dl_pp hs hp]; rfl
  · have := sum1n h3 hs hp hq hr; omega
  · have := sum1n h2 hr hs hp hq; omega
  · exact sum2 h hp hq hr hs
  · have := sum1n h1 hq hr hs hp; omega
  · exact (sum3 h hp hq hr hs).elim
  · have := sum2 h3 hs hp hq hr; omega
  · exact sum1 h hp hq hr hs
  · exact sum1n h hp hq hr hs
  · have := sum2 h1 hq hr hs hp; omega
  · exact (sum3 h1 hq hr hs hp).elim
  · have := sum1 h1 hq hr hs hp; omega
  · have := sum2 h2 hr hs hp hq; omega
  · have := sum1 h2 hr hs hp hq; omega
  · have := sum1 h3 hs hp hq hr; omega
  · rw [dl_nn hp hq, dl_nn hq hr, dl_nn hr hs, dl_nn hs hp]; rfl
def df (a c : Pt) : Pt := ⟨c.x - a.x, c.y - a.y⟩
theorem nm_of {A B C D : Pt} (h : ¬ Meet A B C D) : NM (df A C) (df A D) (df B D) (df B C) := by
  unfold Meet OnL at h
  have t1 : cross (df A C) (df B C) = turn A B C := by unfold cross df turn; grind
  have t2 : cross (df A D) (df B D) = turn A B D := by unfold cross df turn; grind
  have t3 : cross (df A C) (df A D) = turn C D A := by unfold cross df turn; grind
  have t4 : cross (df B C) (df B D) = turn C D B := by unfold cross df turn; grind
  have m : ∀ a b c d : Int, (a - b) * (c - d) = (b - a) * (d - c) := fun a b c d => by grind
  simp only [not_or] at h
  obtain ⟨h1, h2, h3, h4, h5⟩ := h
  refine ⟨by unfold df; simp only; omega, by unfold df; simp only; omega, ?_, ?_, ?_, ?_, ?_⟩
  · rw [t1]; intro ⟨a, b, c⟩; exact h1 ⟨a, by rw [m]; exact b, by rw [m]; exact c⟩
  · rw [t2]; intro ⟨a, b, c⟩; exact h2 ⟨a, by rw [m]; exact b, by rw [m]; exact c⟩
  · rw [t3]; intro ⟨a, b, c⟩; exact h3 ⟨a, b, c⟩
  · rw [t4]; intro ⟨a, b, c⟩; exact h4 ⟨a, b, c⟩
  · rw [t1, t2, t3, t4]
    intro ⟨a, b⟩
    apply h5
    have key : ∀ x y : Int, ((x < 0 ∧ 0 < y) ∨ (0 < x ∧ y < 0)) → sg x * sg y < 0 := fun x y h => by
      unfold sg
      rcases h with ⟨h1, h2⟩ | ⟨h1, h2⟩
      · rw [if_neg (by omega), if_pos h1, if_pos h2]; decide
      · rw [if_pos h1, if_neg (by omega), if_pos h2]; decide
    exact ⟨key _ _ b, key _ _ a⟩
theorem df_ne {A B : Pt} (h : A ≠ B) : df A B ≠ ⟨0, 0⟩ := by
  intro e
  apply h
  obtain ⟨a, b⟩ := A; obtain ⟨c, d⟩ := B
  unfold df at e
  simp only [Pt.mk.injEq] at e ⊢
  omega
theorem not_meet_ne {A B C D : Pt} (h : ¬ Meet A B C D) : A ≠ C ∧ A ≠ D ∧ B ≠ C ∧ B ≠ D := by
  unfold Meet at h
  simp only [not_or] at h
  obtain ⟨h1, h2, h3, h4, h5⟩ := h
  refine ⟨fun e => h1 ?_, fun e => h2 ?_, fun e => h1 ?_, fun e => h2 ?_⟩ <;> subst e <;> unfold OnL turn <;> refine ⟨by grind, by simp, by simp⟩
theorem cell_df {A B C D : Pt} (h : ¬ Meet A B C D) : dl (df A C) (df A D) + dl (df A D) (df B D) + dl (df B D) (df B C) + dl (df B C) (df A C) = 0 := by
  obtain ⟨n1, n2, n3, n4⟩ := not_meet_ne h
  exact cell_sum (nm_of h) (df_ne n1) (df_ne n2) (df_ne n4) (df_ne n3)
theorem tri_sum {u v w : Pt} (hw : w = comb 1 u 1 v) (h : cross u v ≠ 0) : dl u w + dl w v = dl u v := by
  have c1 : cross u w = cross u v := by rw [hw]; unfold cross comb; grind
  have c2 : cross w v = cross u v := by rw [hw]; unfold cross comb; grind
  have zu : u ≠ ⟨0, 0⟩ := fun e => h (by rw [e]; unfold cross; simp)
  have zv : v ≠ ⟨0, 0⟩ := fun e => h (by rw [e]; unfold cross; simp)
  have zw : w ≠ ⟨0, 0⟩ := fun e => h (by rw [← c1, e]; unfold cross; simp)
  have hx : w.x = u.x + v.x := by rw [hw]; unfold comb; simp
  have hy : w.y = u.y + v.y := by rw [hw]; unfold comb; simp
  rcases pos_or_neg zu with hu | hu <;> rcases pos_or_neg zv with hv | hv <;> rcases pos_or_neg zw with hw' | hw'
  · rw [dl_pp hu hw', dl_pp hw' hv, dl_pp hu hv]; rfl
  · exfalso; unfold Pos Neg at *; omega
  · rw [dl_pp hu hw', dl_pn hw' hv, dl_pn hu hv, c2]; omega
  · rw [dl_pn hu hw', dl_nn hw' hv, dl_pn hu hv, c1]; omega
  · rw [dl_np hu hw', dl_pp hw' hv, dl_np hu hv, c1]; omega
  · rw [dl_nn hu hw', dl_np hw' hv, dl_np hu hv, c2]; omega
  · exfalso; unfold Pos Neg at *; omega
  · rw [dl_nn hu hw', dl_nn hw' hv, dl_nn hu hv]; rfl
end Go.AM
namespace Go.AM
structure LP (n : Int) (P : Int → Pt) : Prop where
  n3 : 3 ≤ n
  per : ∀ i, P (i + n) = P i
  left : ∀ i, 0 < turn (P i) (P (i + 1)) (P (i + 2))
  apart : ∀ i k, i + 2 ≤ k → k - i < n - 1 → ¬ Meet (P i) (P (i + 1)) (P k) (P (k + 1))
section
variable {n : Int} {P : Int → Pt}
def eg (P : Int → Pt) (i : Int) : Pt := df (P i) (P (i + 1))
theorem turn_eg (P : Int → Pt) (i : Int) : turn (P i) (P (i + 1)) (P (i + 2)) = cross (eg P i) (eg P (i + 1)) := by
  unfold eg df turn cross
  rw [show i + 1 + 1 = i + 2 by omega]
  grind
def rowS (P : Int → Pt) (i : Int) : Nat → Int
  | 0 => 0
  | k + 1 => rowS P i k + dl (df (P i) (P (i + 1 + k))) (df (P i) (P (i + 2 + k)))
theorem row_step (h : LP n P) (i : Int) : ∀ k : Nat, (k : Int) + 1 < n - 1 ∨ k = 0 → rowS P i (k + 1) + dl (df (P i) (P (i + 2 + k))) (df (P (i + 1)) (P (i + 2 + k))) = dl (eg P i) (eg P (i + 1)) + rowS P (i + 1) k
  | 0, _ => by
    have hl := h.left i
    rw [turn_eg] at hl
    have := tri_sum (u := eg P i) (v := eg P (i + 1)) (w := df (P i) (P (i + 2))) (by unfold eg df comb; rw [show i + 1 + 1 = i + 2 by omega]; simp only [Pt.mk.injEq]; omega) (by omega)
    simp only [rowS, Int.add_zero, Int.zero_add, show ((0 : Nat) : Int) = 0 from rfl]
    unfold eg at this ⊢
    rw [show i + 1 + 1 = i + 2 by omega] at *
    exact this
  | k + 1, hk => by
    have hk' : (k : Int) + 2 < n - 1 := by have := h.n3; omega
    have ih := row_step h i k (by omega)
    have hm := h.apart i (i + 2 + k) (by omega) (by omega)
    have c := cell_df hm
    rw [show i + 2 + (k : Int) + 1 = i + 2 + ((k + 1 : Nat) : Int) by omega] at c
    have a1 := dl_anti (df (P (i + 1)) (P (i + 2 + k))) (df (P (i + 1)) (P (i + 2 + ((k + 1 : Nat) : Int))))
    have a2 := dl_anti (df (P i) (P (i + 2 + k))) (df (P (i + 1)) (P (i + 2 + k)))
    have r1 : rowS P i (k + 1 + 1) = rowS P i (k + 1) + dl (df (P i) (P (i + 2 + k))) (df (P i) (P (i + 2 + ((k + 1 : Nat) : Int)))) := by
      conv => lhs; unfold rowS
      rw [show i + 1 + ((k + 1 : Nat) : Int) = i + 2 + k by omega]
    have r2 : rowS P (i + 1) (k + 1) = rowS P (i + 1) k + dl (df (P (i + 1)) (P (i + 2 + k))) (df (P (i + 1)) (P (i + 2 + ((k + 1 : Nat) : Int)))) := by
      conv => lhs; unfold rowS
      rw [show i + 1 + 1 + (k : Int) = i + 2 + k by omega, show i + 1 + 2 + (k : Int) = i + 2 + ((k + 1 : Nat) : Int) by omega]
    rw [r1, r2]
    omega
theorem rows_sum (h : LP n P) : ∀ (k : Nat), (k : Int) ≤ n - 2 → rowS P (n - 1 - k) k + sm (fun t => dl (df (P (n - 1 - k + t)) (P n)) (df (P (n - 1 - k + t + 1)) (P n))) k = sm (fun t => dl (eg P (n - 1 - k + t)) (eg P (n - 1 - k + t + 1))) k
  | 0, _ => by simp [rowS, sm]
  | k + 1, hk => by
    have ih := rows_sum h k (by omega)
    have hs := row_step h (n - 1 - (k + 1 : Nat)) k (by omega)
    have e1 : n - 1 - ((k + 1 : Nat) : Int) + 1 = n - 1 - k := by omega
    have e2 : n - 1 - ((k + 1 : Nat) : Int) + 2 + k = n := by omega
    rw [e1, e2] at hs
    have shift : ∀ f : Int → Int, sm (fun t => f (n - 1 - ((k + 1 : Nat) : Int) + t)) (k + 1) = f (n - 1 - ((k + 1 : Nat) : Int)) + sm (fun t => f (n - 1 - (k : Int) + t)) k := by
      intro f
      have key : ∀ m : Nat, sm (fun t => f (n - 1 - ((k + 1 : Nat) : Int) + t)) (m + 1) = f (n - 1 - ((k + 1 : Nat) : Int)) + sm (fun t => f (n - 1 - (k : Int) + t)) m := by
        intro m
        induction m with
        | zero => simp [sm]
        | succ m ihm =>
          have : sm (fun t => f (n - 1 - ((k + 1 : Nat) : Int) + t)) (m + 1 + 1) = sm (fun t => f (n - 1 - ((k + 1 : Nat) : Int) + t)) (m + 1) + f (n - 1 - ((k + 1 : Nat) : Int) + ((m + 1 : Nat) : Int)) := rfl
          rw [this, ihm]
          simp only [sm]
          rw [show n - 1 - ((k + 1 : Nat) : Int) + ((m + 1 : Nat) : Int) = n - 1 - (k : Int) + (m : Int) by omega]
          omega
      exact key k
    have s1 := shift fun x => dl (df (P x) (P n)) (df (P (x + 1)) (P n))
    have s2 := shift fun x => dl (eg P x) (eg P (x + 1))
    rw [s1, s2]
    rw [show n - 1 - ((k + 1 : Nat) : Int) + 1 = n - 1 - k by omega]
    omega
structure Base (n : Int) (P : Int → Pt) : Prop extends LP n P where
  first : ∀ j, 0 < j → j < n → Pos (df (P 0) (P j))
theorem once (h : Base n P) : sm (fun t => dl (eg P t) (eg P (t + 1))) n.toNat = 1 := by
  have n3 := h.n3
  obtain ⟨k, hk⟩ : ∃ k : Nat, n = k + 3 := ⟨(n - 3).toNat, by omega⟩
  have r0 : ∀ m : Nat, (m : Int) ≤ n - 2 → rowS P 0 m = 0 := by
    intro m
    induction m with
    | zero => intro _; rfl
    | succ m ih =>
      intro hm
      simp only [rowS]
      rw [ih (by omega), dl_pp (h.first _ (by omega) (by omega)) (h.first _ (by omega) (by omega))]
      rfl
  have pn : P n = P 0 := by have := h.per 0; rwa [Int.zero_add] at this
  have hneg : ∀ j, 0 < j → j < n → Neg (df (P j) (P n)) := fun j h0 h1 => by
    have := h.first j h0 h1
    rw [pn]
    unfold Pos Neg df at *
    simp only at *
    omega
  have col := rows_sum h.toLP (k + 1) (by omega)
  have e1 : n - 1 - ((k + 1 : Nat) : Int) = 1 := by omega
  rw [e1] at col
  have c0 : sm (fun t => dl (df (P (1 + t)) (P n)) (df (P (1 + t + 1)) (P n))) (k + 1) = 0 := by
    have : sm (fun t => dl (df (P (1 + t)) (P n)) (df (P (1 + t + 1)) (P n))) (k + 1) = sm (fun _ => 0) (k + 1) := sm_congr fun i h0 h1 => dl_nn (hneg _ (by omega) (by omega)) (hneg _ (by omega) (by omega))
    rw [this]
    have z : ∀ m : Nat, sm (fun _ => 0) m = 0 := fun m => by induction m with | zero => rfl | succ m ih => simp [sm, ih]
    exact z _
  rw [c0] at col
  have s0 := row_step h.toLP 0 k (by omega)
  rw [r0 (k + 1) (by omega)] at s0
  have q1 : (0 : Int) + 2 + k = n - 1 := by omega
  rw [q1, Int.zero_add, show (0 : Int) + 1 = 1 by rfl] at s0
  have rl : rowS P 1 (k + 1) = rowS P 1 k + dl (df (P 1) (P (n - 1))) (df (P 1) (P n)) := by
    simp only [rowS]
    rw [show (1 : Int) + 1 + k = n - 1 by omega, show (1 : Int) + 2 + k = n by omega]
  have hl := h.left (n - 1)
  rw [turn_eg, show n - 1 + 1 = n by omega] at hl
  have pn1 : P (n + 1) = P 1 := by have := h.per 1; rwa [Int.add_comm] at this
  have u1 : df (P 0) (P (n - 1)) = ngt (eg P (n - 1)) := by
    unfold df ngt eg df; rw [show n - 1 + 1 = n by omega, pn]; simp only [Pt.mk.injEq]; omega
  have v1 : df (P 1) (P n) = ngt (eg P n) := by
    unfold df ngt eg df; rw [pn1, pn]; simp only [Pt.mk.injEq]; omega
  have tr := tri_sum (u := df (P 0) (P (n - 1))) (v := df (P 1) (P n)) (w := df (P 1) (P (n - 1))) (by unfold df comb; rw [pn]; simp only [Pt.mk.injEq]; omega) (by rw [u1, v1, cross_ngt]; omega)
  have dlast : dl (df (P 0) (P (n - 1))) (df (P 1) (P n)) = 0 := by
    rw [dl_pn (h.first _ (by omega) (by omega)) (hneg _ (by omega) (by omega)), u1, v1, cross_ngt, if_neg (by omega)]
  have eN : eg P n = eg P 0 := by unfold eg; rw [pn1, pn]; rfl
  have dback : dl (eg P (n - 1)) (eg P (n - 1 + 1)) = 1 := by
    rw [show n - 1 + 1 = n by omega]
    have a1 : Neg (eg P (n - 1)) := by have := hneg (n - 1) (by omega) (by omega); unfold eg; rwa [show n - 1 + 1 = n by omega]
    have a2 : Pos (eg P n) := by rw [eN]; unfold eg; exact h.first _ (by omega) (by omega)
    rw [dl_np a1 a2, if_pos hl]
  have tot : sm (fun t => dl (eg P t) (eg P (t + 1))) n.toNat = dl (eg P 0) (eg P 1) + sm (fun t => dl (eg P (1 + t)) (eg P (1 + t + 1))) (k + 1) + dl (eg P (n - 1)) (eg P (n - 1 + 1)) := by
    rw [show n.toNat = (k + 2) + 1 by omega]
    simp only [sm]
    rw [show ((k + 2 : Nat) : Int) = n - 1 by omega]
    have key : ∀ m : Nat, sm (fun t => dl (eg P t) (eg P (t + 1))) (m + 1) = dl (eg P 0) (eg P 1) + sm (fun t => dl (eg P (1 + t)) (eg P (1 + t + 1))) m := by
      intro m
      induction m with
      | zero => simp [sm]
      | succ m ih =>
        have : sm (fun t => dl (eg P t) (eg P (t + 1))) (m + 1 + 1) = sm (fun t => dl (eg P t) (eg P (t + 1))) (m + 1) + dl (eg P ((m + 1 : Nat) : Int)) (eg P (((m + 1 : Nat) : Int) + 1)) := rfl
        rw [this, ih]
        simp only [sm]
        rw [show ((m + 1 : Nat) : Int) = 1 + (m : Int) by omega]
        omega
    have := key (k + 1)
    simp only [sm] at this
    omega
  rw [tot, dback]
  rw [dlast] at tr
  omega
end
end Go.AM
namespace Go.AM
theorem tplus {u v w : Pt} (hu : Pos u) (hv : Pos v) (hw : Pos w) (h1 : 0 ≤ cross u v) (h2 : 0 < cross v w) : 0 < cross u w := by
  obtain ⟨e1, e2⟩ := three_way u v w
  have a := cross_anti u w
  have hc := pos_comb (a := cross v w) (b := cross u v) h2 h1 hu hw
  exact sign_of (c := cross u w) hv hc (by unfold comb; simp only; grind) (by unfold comb; simp only; grind)
theorem tneg {u v w : Pt} (hu : Neg u) (hv : Neg v) (hw : Neg w) (h1 : 0 ≤ cross u v) (h2 : 0 < cross v w) : 0 < cross u w := by
  have := tplus (neg_ngt.1 hu) (neg_ngt.1 hv) (neg_ngt.1 hw) (by rw [cross_ngt]; exact h1) (by rw [cross_ngt]; exact h2)
  rwa [cross_ngt] at this
theorem sm_nonneg {g : Int → Int} : ∀ {k : Nat}, (∀ i : Int, 0 ≤ i → i < k → 0 ≤ g i) → 0 ≤ sm g k ∧ ∀ i : Int, 0 ≤ i → i < k → g i ≤ sm g k
  | 0, _ => ⟨by simp [sm], fun i h0 h1 => by omega⟩
  | k + 1, h => by
    obtain ⟨h1, h2⟩ := sm_nonneg (k := k) fun i h0 h1 => h i h0 (by omega)
    have h3 := h k (by omega) (by omega)
    simp only [sm]
    refine ⟨by omega, fun i i0 i1 => ?_⟩
    by_cases e : i = k
    · subst e; omega
    · have := h2 i i0 (by omega); omega
section
variable {n : Int} {P : Int → Pt}
theorem LP.cr (h : LP n P) (i : Int) : 0 < cross (eg P i) (eg P (i + 1)) := by have := h.left i; rwa [turn_eg] at this
theorem LP.pr (h : LP n P) (i : Int) : eg P (i + n) = eg P i := by
  unfold eg; rw [h.per, show i + n + 1 = i + 1 + n by omega, h.per]
theorem LP.nz (h : LP n P) (i : Int) : eg P i ≠ ⟨0, 0⟩ := fun e => by
  have := h.cr i; rw [e] at this; unfold cross at this; simp at this
theorem LP.ne (h : LP n P) {i j : Int} (h0 : i < j) (h1 : j < i + n) : P i ≠ P j := by
  have n3 := h.n3
  have step : ∀ i, P i ≠ P (i + 1) := fun i e => h.nz i (by unfold eg df; rw [← e]; simp)
  by_cases e1 : j = i + 1
  · subst e1; exact step i
  · by_cases e2 : j = i + n - 1
    · intro e
      have := step j
      rw [show j + 1 = i + n by omega, h.per] at this
      exact this e.symm
    · exact (not_meet_ne (h.apart i j (by omega) (by omega))).1
theorem Base.stay (h : Base n P) {i : Int} (h0 : 0 ≤ i) (h1 : i + 1 < n) : Neg (eg P i) → Neg (eg P (i + 1)) := by
  intro hn
  rcases pos_or_neg (h.nz (i + 1)) with hp | hp
  · exfalso
    have n3 := h.n3
    have ho := once h
    have hnn : ∀ t : Int, 0 ≤ dl (eg P t) (eg P (t + 1)) := fun t => by
      unfold dl
      have := h.cr t
      split
      · omega
      · rw [if_neg (by omega)]; omega
    obtain ⟨m, hm⟩ : ∃ m : Nat, n.toNat = m + 1 := ⟨n.toNat - 1, by omega⟩
    rw [hm] at ho
    simp only [sm] at ho
    have hb := (sm_nonneg (g := fun t => dl (eg P t) (eg P (t + 1))) (k := m) fun t _ _ => hnn t).2 i h0 (by omega)
    have e1 : dl (eg P i) (eg P (i + 1)) = 1 := by rw [dl_np hn hp, if_pos (h.cr i)]
    have e2 : dl (eg P (m : Int)) (eg P ((m : Int) + 1)) = 1 := by
      have hmn : (m : Int) = n - 1 := by omega
      rw [hmn]
      have pn : P n = P 0 := by have := h.per 0; rwa [Int.zero_add] at this
      have a1 : Neg (eg P (n - 1)) := by
        have := h.first (n - 1) (by omega) (by omega)
        unfold eg; rw [show n - 1 + 1 = n by omega, pn]
        unfold Pos Neg df at *; simp only at *; omega
      have a2 : Pos (eg P (n - 1 + 1)) := by
        rw [show n - 1 + 1 = 0 + n by omega, h.pr]
        have := h.first 1 (by omega) (by omega)
        unfold eg; exact this
      rw [dl_np a1 a2, if_pos (h.cr _)]
    omega
  · exact hp
theorem Base.stays (h : Base n P) {i : Int} (h0 : 0 ≤ i) (hn : Neg (eg P i)) : ∀ k : Nat, i + k < n → Neg (eg P (i + k))
  | 0, _ => by simpa using hn
  | k + 1, hk => by
    have := h.stay (i := i + k) (by omega) (by omega) (h.stays h0 hn k (by omega))
    rwa [show i + (k : Int) + 1 = i + ((k + 1 : Nat) : Int) by omega] at this
theorem Base.pos_le (h : Base n P) {i j : Int} (h0 : 0 ≤ i) (hij : i ≤ j) (hj : j < n) (hp : Pos (eg P j)) : Pos (eg P i) := by
  rcases pos_or_neg (h.nz i) with hi | hi
  · exact hi
  · have := h.stays h0 hi (j - i).toNat (by omega)
    rw [show i + ((j - i).toNat : Int) = j by omega] at this
    exact absurd this (pos_not_neg hp)
theorem Base.chain (h : Base n P) {i : Int} (h0 : 0 ≤ i) : ∀ k : Nat, i + 1 + k < n → Pos (eg P (i + 1 + k)) → 0 < cross (eg P i) (eg P (i + 1 + k))
  | 0, _, _ => by simpa using h.cr i
  | k + 1, hk, hp => by
    have e : i + 1 + ((k + 1 : Nat) : Int) = i + 1 + k + 1 := by omega
    rw [e] at hp ⊢
    have hp1 := h.pos_le (i := i + 1 + k) (by omega) (by omega) (by omega) hp
    have hp0 := h.pos_le (i := i) h0 (by omega) (by omega) hp
    exact tplus hp0 hp1 hp (by have := h.chain h0 k (by omega) hp1; omega) (h.cr _)
theorem Base.lt (h : Base n P) {i j : Int} (h0 : 0 ≤ i) (hij : i < j) (hj : j < n) (hp : Pos (eg P j)) : 0 < cross (eg P i) (eg P j) := by
  have := h.chain h0 (j - i - 1).toNat (by omega)
  rw [show i + 1 + ((j - i - 1).toNat : Int) = j by omega] at this
  exact this hp
theorem Base.down (h : Base n P) {i m : Int} (h0 : 0 ≤ i) (h1 : i < n) (hp : Pos (eg P i)) (hm : i < m) (hm2 : m + 1 ≤ i + n - 1) (hd : cross (eg P i) (eg P m) ≤ 0) : cross (eg P i) (eg P (m + 1)) < 0 := by
  by_cases hmn : m < n
  · rcases pos_or_neg (h.nz m) with q | q
    · have := h.lt h0 hm hmn q; omega
    · by_cases hm1 : m + 1 < n
      · have q1 := h.stay (by omega) hm1 q
        have := tneg (pos_ngt.1 hp) q q1 (by rw [cross_ngt1]; omega) (h.cr m)
        rw [cross_ngt1] at this
        omega
      · have e : m + 1 = 0 + n := by omega
        rw [e, h.pr]
        have := h.lt (i := 0) (j := i) (by omega) (by omega) h1 hp
        rw [cross_anti (eg P 0) (eg P i)]
        omega
  · have e : m + 1 = (m + 1 - n) + n := by omega
    rw [e, h.pr]
    have := h.lt (i := m + 1 - n) (j := i) (by omega) (by omega) h1 hp
    rw [cross_anti (eg P (m + 1 - n)) (eg P i)]
    omega
theorem turn_next (P : Int → Pt) (i j : Int) : turn (P i) (P (i + 1)) (P (j + 1)) = turn (P i) (P (i + 1)) (P j) + cross (eg P i) (eg P j) := by
  unfold turn cross eg df; grind
theorem Base.conv (h : Base n P) {i : Int} (h0 : 0 ≤ i) (h1 : i < n) (hp : Pos (eg P i)) {j : Int} (hj : i + 2 ≤ j) (hj2 : j ≤ i + n - 1) : 0 < turn (P i) (P (i + 1)) (P j) := by
  have t1 : turn (P i) (P (i + 1)) (P (i + 1)) = 0 := by unfold turn; grind
  have tn : turn (P i) (P (i + 1)) (P (i + n)) = 0 := by rw [h.per]; unfold turn; grind
  by_cases hall : ∀ m, i < m → m < j → 0 < cross (eg P i) (eg P m)
  · have up : ∀ k : Nat, i + 2 + k ≤ j → 0 < turn (P i) (P (i + 1)) (P (i + 2 + k)) := by
      intro k
      induction k with
      | zero => intro hk; have := turn_next P i (i + 1); have := hall (i + 1) (by omega) (by omega); rw [show i + 1 + 1 = i + 2 by omega] at *; simp; omega
      | succ k ih =>
        intro hk
        have a := turn_next P i (i + 2 + k)
        have b := hall (i + 2 + k) (by omega) (by omega)
        have c := ih (by omega)
        rw [show i + 2 + ((k + 1 : Nat) : Int) = i + 2 + k + 1 by omega, a]
        omega
    have := up (j - i - 2).toNat (by omega)
    rwa [show i + 2 + ((j - i - 2).toNat : Int) = j by omega] at this
  · obtain ⟨m, hm⟩ := Classical.not_forall.1 hall
    simp only [Classical.not_imp] at hm
    obtain ⟨m0, m1, m2⟩ := hm
    have dn : ∀ k : Nat, m + 1 + k ≤ i + n - 1 → cross (eg P i) (eg P (m + 1 + k)) < 0 := by
      intro k
      induction k with
      | zero => intro hk; have := h.down h0 h1 hp m0 (by omega) (by omega); simpa using this
      | succ k ih =>
        intro hk
        have := h.down (m := m + 1 + k) h0 h1 hp (by omega) (by omega) (by have := ih (by omega); omega)
        rwa [show m + 1 + (k : Int) + 1 = m + 1 + ((k + 1 : Nat) : Int) by omega] at this
    have back : ∀ k : Nat, j ≤ i + n - 1 - k → 0 < turn (P i) (P (i + 1)) (P (i + n - 1 - k)) := by
      intro k
      induction k with
      | zero =>
        intro hk
        have a := turn_next P i (i + n - 1)
        rw [show i + n - 1 + 1 = i + n by omega, tn] at a
        have b := dn (i + n - 1 - (m + 1)).toNat (by omega)
        rw [show m + 1 + ((i + n - 1 - (m + 1)).toNat : Int) = i + n - 1 by omega] at b
        simp; omega
      | succ k ih =>
        intro hk
        have a := turn_next P i (i + n - 1 - (k + 1 : Nat))
        rw [show i + n - 1 - ((k + 1 : Nat) : Int) + 1 = i + n - 1 - k by omega] at a
        have b := dn (i + n - 1 - (k + 1 : Nat) - (m + 1)).toNat (by omega)
        rw [show m + 1 + ((i + n - 1 - ((k + 1 : Nat) : Int) - (m + 1)).toNat : Int) = i + n - 1 - ((k + 1 : Nat) : Int) by omega] at b
        have c := ih (by omega)
        omega
    have := back (i + n - 1 - j).toNat (by omega)
    rwa [show i + n - 1 - ((i + n - 1 - j).toNat : Int) = j by omega] at this
theorem LP.shift (h : LP n P) (s : Int) : LP n fun t => P (t + s) where
  n3 := h.n3
  per i := by rw [show i + n + s = i + s + n by omega]; exact h.per _
  left i := by have := h.left (i + s); rwa [show i + s + 1 = i + 1 + s by omega, show i + s + 2 = i + 2 + s by omega] at this
  apart i k h1 h2 := by have := h.apart (i + s) (k + s) (by omega) (by omega); rwa [show i + s + 1 = i + 1 + s by omega, show k + s + 1 = k + 1 + s by omega] at this
theorem LP.base (h : LP n P) : ∃ s, Base n fun t => P (t + s) := by
  have n3 := h.n3
  have hm : ∀ k : Nat, ∃ s : Int, 0 ≤ s ∧ s ≤ k ∧ ∀ j : Int, 0 ≤ j → j ≤ k → ¬ Less (P j) (P s) := by
    intro k
    induction k with
    | zero =>
      refine ⟨0, by omega, by omega, fun j h0 h1 => ?_⟩
      have e : j = 0 := by omega
      rw [e]
      exact Less.irrefl _
    | succ k ih =>
      obtain ⟨s, s0, s1, s2⟩ := ih
      by_cases hl : Less (P ((k + 1 : Nat) : Int)) (P s)
      · refine ⟨((k + 1 : Nat) : Int), by omega, by omega, fun j h0 h1 hx => ?_⟩
        by_cases e : j = ((k + 1 : Nat) : Int)
        · subst e; exact Less.irrefl _ hx
        · exact s2 j h0 (by omega) (hx.trans hl)
      · refine ⟨s, s0, by omega, fun j h0 h1 hx => ?_⟩
        by_cases e : j = ((k + 1 : Nat) : Int)
        · subst e; exact hl hx
        · exact s2 j h0 (by omega) hx
  obtain ⟨s, s0, s1, s2⟩ := hm (n - 1).toNat
  refine ⟨s, h.shift s, fun j j0 j1 => ?_⟩
  have hne := h.ne (i := s) (j := j + s) (by omega) (by omega)
  have hno : ¬ Less (P (j + s)) (P s) := by
    by_cases e : j + s < n
    · exact s2 (j + s) (by omega) (by omega)
    · have := h.per (j + s - n)
      rw [show j + s - n + n = j + s by omega] at this
      rw [this]
      exact s2 (j + s - n) (by omega) (by omega)
  show Pos (df (P (0 + s)) (P (j + s)))
  rw [Int.zero_add]
  rcases pos_or_neg (df_ne hne) with hp | hp
  · exact hp
  · exfalso
    apply hno
    unfold Neg df at hp
    unfold Less
    simp only at hp
    omega
theorem LP.conv_pos (h : LP n P) {i j : Int} (hp : Pos (eg P i)) (hj : i + 2 ≤ j) (hj2 : j ≤ i + n - 1) : 0 < turn (P i) (P (i + 1)) (P j) := by
  have n3 := h.n3
  obtain ⟨s, hb⟩ := h.base
  have hper : ∀ (x q : Int), P (x + q * n) = P x := by
    have up : ∀ (k : Nat) (x : Int), P (x + k * n) = P x := by
      intro k
      induction k with
      | zero => intro x; simp
      | succ k ih => intro x; rw [show x + ((k + 1 : Nat) : Int) * n = (x + k * n) + n by rw [Int.natCast_add, Int.add_mul]; simp; omega, h.per, ih]
    intro x q
    rcases Int.le_total 0 q with hq | hq
    · have := up q.toNat x; rwa [Int.toNat_of_nonneg hq] at this
    · have := up (-q).toNat (x + q * n)
      rw [Int.toNat_of_nonneg (by omega), Int.neg_mul] at this
      rw [← this]; congr 1; omega
  have q1 := Int.emod_nonneg (i - s) (show n ≠ 0 by omega)
  have q2 := Int.emod_lt_of_pos (i - s) (show 0 < n by omega)
  have q3 := Int.mul_ediv_add_emod (i - s) n
  have ex : ∀ d : Int, P ((i - s) % n + d + s) = P (i + d) := fun d => by
    have := hper ((i - s) % n + d + s) ((i - s) / n)
    rw [← this]; congr 1
    rw [Int.mul_comm]; omega
  have e0 := ex 0; have e1 := ex 1; have ej := ex (j - i)
  rw [Int.add_zero, Int.add_zero] at e0
  rw [show i + (j - i) = j by omega] at ej
  have := hb.conv (i := (i - s) % n) (j := (i - s) % n + (j - i)) q1 q2 (by unfold eg; simp only; rw [e0, e1]; exact hp) (by omega) (by omega)
  rwa [e0, e1, ej] at this
theorem turn_ngt (a b c : Pt) : turn (ngt a) (ngt b) (ngt c) = turn a b c := by unfold turn ngt; grind
theorem meet_ngt {A B C D : Pt} : Meet (ngt A) (ngt B) (ngt C) (ngt D) ↔ Meet A B C D := by
  have hm : ∀ a b c d : Pt, ((AM.ngt a).x - (AM.ngt b).x) * ((AM.ngt c).x - (AM.ngt b).x) = (a.x - b.x) * (c.x - b.x) := fun a b c d => by unfold AM.ngt; simp only; grind
  have ho : ∀ a b p : Pt, OnL (ngt a) (ngt b) (ngt p) ↔ OnL a b p := fun a b p => by
    unfold OnL
    rw [turn_ngt]
    have e1 : ((AM.ngt a).x - (AM.ngt p).x) * ((AM.ngt b).x - (AM.ngt p).x) = (a.x - p.x) * (b.x - p.x) := by unfold AM.ngt; simp only; grind
    have e2 : ((AM.ngt a).y - (AM.ngt p).y) * ((AM.ngt b).y - (AM.ngt p).y) = (a.y - p.y) * (b.y - p.y) := by unfold AM.ngt; simp only; grind
    rw [e1, e2]
  unfold Meet
  simp only [ho, turn_ngt]
theorem LP.neg (h : LP n P) : LP n fun t => ngt (P t) where
  n3 := h.n3
  per i := by rw [h.per]
  left i := by rw [turn_ngt]; exact h.left i
  apart i k h1 h2 := by rw [meet_ngt]; exact h.apart i k h1 h2
theorem LP.conv (h : LP n P) {i j : Int} (hj : i + 2 ≤ j) (hj2 : j ≤ i + n - 1) : 0 < turn (P i) (P (i + 1)) (P j) := by
  rcases pos_or_neg (h.nz i) with hp | hp
  · exact h.conv_pos hp hj hj2
  · have := h.neg.conv_pos (i := i) (j := j) (by
      have := neg_ngt.1 hp
      unfold eg df ngt at *
      simp only at *
      unfold Pos at *
      simp only at *
      omega) hj hj2
    rwa [turn_ngt] at this
end
end Go.AM
namespace Go.AM
def Up (A B : Pt) (y : Int) : Prop := A.y ≤ y ∧ y < B.y
def Dn (A B : Pt) (y : Int) : Prop := B.y ≤ y ∧ y < A.y
instance (A B : Pt) (y : Int) : Decidable (Up A B y) := by unfold Up; infer_instance
instance (A B : Pt) (y : Int) : Decidable (Dn A B y) := by unfold Dn; infer_instance
section
variable {n : Int} {P : Int → Pt}
theorem LP.mul (h : LP n P) (x q : Int) : P (x + q * n) = P x := by
  have up : ∀ (k : Nat) (x : Int), P (x + k * n) = P x := by
    intro k
    induction k with
    | zero => intro x; simp
    | succ k ih => intro x; rw [show x + ((k + 1 : Nat) : Int) * n = (x + k * n) + n by rw [Int.natCast_add, Int.add_mul]; simp; omega, h.per, ih]
  rcases Int.le_total 0 q with hq | hq
  · have := up q.toNat x; rwa [Int.toNat_of_nonneg hq] at this
  · have := up (-q).toNat (x + q * n)
    rw [Int.toNat_of_nonneg (by omega), Int.neg_mul] at this
    rw [← this]; congr 1; omega
theorem LP.ge (h : LP n P) (i j : Int) (h0 : 0 ≤ i) (h1 : i < n) (j0 : 0 ≤ j) (j1 : j < n) : 0 ≤ turn (P i) (P (i + 1)) (P j) ∧ (turn (P i) (P (i + 1)) (P j) = 0 → j = i ∨ j = i + 1 ∨ (i = n - 1 ∧ j = 0)) := by
  have n3 := h.n3
  have z0 : turn (P i) (P (i + 1)) (P i) = 0 := by unfold turn; grind
  have z1 : turn (P i) (P (i + 1)) (P (i + 1)) = 0 := by unfold turn; grind
  by_cases e0 : j = i
  · subst e0; exact ⟨by omega, fun _ => .inl rfl⟩
  · by_cases e1 : j = i + 1
    · subst e1; exact ⟨by omega, fun _ => .inr (.inl rfl)⟩
    · by_cases e2 : i = n - 1 ∧ j = 0
      · obtain ⟨rfl, rfl⟩ := e2
        have : P (n - 1 + 1) = P 0 := by rw [show n - 1 + 1 = 0 + n by omega, h.per]
        rw [this] at z1 ⊢
        exact ⟨by omega, fun _ => .inr (.inr ⟨rfl, rfl⟩)⟩
      · have pos : 0 < turn (P i) (P (i + 1)) (P j) := by
          by_cases hij : i < j
          · exact h.conv (by omega) (by omega)
          · have := h.conv (i := i) (j := j + n) (by omega) (by omega)
            rwa [h.per] at this
        exact ⟨by omega, fun e => by omega⟩
theorem up_once (h : LP n P) {i j y : Int} (i0 : 0 ≤ i) (i1 : i < n) (j0 : 0 ≤ j) (j1 : j < n) (hi : Up (P i) (P (i + 1)) y) (hj : Up (P j) (P (j + 1)) y) : i = j := by
  have pn : P n = P 0 := by have := h.per 0; rwa [Int.zero_add] at this
  obtain ⟨i', i0', i1', ei, ei'⟩ : ∃ i', 0 ≤ i' ∧ i' < n ∧ P (i + 1) = P i' ∧ (i' = i + 1 ∨ (i = n - 1 ∧ i' = 0)) := by
    by_cases e : i + 1 < n
    · exact ⟨i + 1, by omega, e, rfl, .inl rfl⟩
    · exact ⟨0, by omega, by omega, by rw [show i + 1 = n by omega, pn], .inr ⟨by omega, rfl⟩⟩
  obtain ⟨j', j0', j1', ej, ej'⟩ : ∃ j', 0 ≤ j' ∧ j' < n ∧ P (j + 1) = P j' ∧ (j' = j + 1 ∨ (j = n - 1 ∧ j' = 0)) := by
    by_cases e : j + 1 < n
    · exact ⟨j + 1, by omega, e, rfl, .inl rfl⟩
    · exact ⟨0, by omega, by omega, by rw [show j + 1 = n by omega, pn], .inr ⟨by omega, rfl⟩⟩
  have a1 := h.ge i j i0 i1 j0 j1
  have a2 := (h.ge i j' i0 i1 j0' j1').1
  have a3 := (h.ge j i j0 j1 i0 i1).1
  have a4 := (h.ge j i' j0 j1 i0' i1').1
  rw [← ej] at a2; rw [← ei] at a4
  have id : ((P (j + 1)).y - y) * turn (P i) (P (i + 1)) (P j) + (y - (P j).y) * turn (P i) (P (i + 1)) (P (j + 1)) + ((P (i + 1)).y - y) * turn (P j) (P (j + 1)) (P i) + (y - (P i).y) * turn (P j) (P (j + 1)) (P (i + 1)) = 0 := by
    unfold turn; grind
  unfold Up at hi hj
  have m1 := Int.mul_nonneg (show 0 ≤ (P (j + 1)).y - y by omega) a1.1
  have m2 := Int.mul_nonneg (show 0 ≤ y - (P j).y by omega) a2
  have m3 := Int.mul_nonneg (show 0 ≤ (P (i + 1)).y - y by omega) a3
  have m4 := Int.mul_nonneg (show 0 ≤ y - (P i).y by omega) a4
  have z : ((P (j + 1)).y - y) * turn (P i) (P (i + 1)) (P j) = 0 := by omega
  have z2 : turn (P i) (P (i + 1)) (P j) = 0 := by
    rcases Int.mul_eq_zero.1 z with h1 | h1
    · omega
    · exact h1
  rcases a1.2 z2 with e | e | ⟨e1, e2⟩
  · exact e.symm
  · subst e; omega
  · rw [e1, show n - 1 + 1 = n by omega, pn] at hi
    rw [e2] at hj
    omega
theorem dn_once (h : LP n P) {i j y : Int} (i0 : 0 ≤ i) (i1 : i < n) (j0 : 0 ≤ j) (j1 : j < n) (hi : Dn (P i) (P (i + 1)) y) (hj : Dn (P j) (P (j + 1)) y) : i = j := by
  have pn : P n = P 0 := by have := h.per 0; rwa [Int.zero_add] at this
  obtain ⟨i', i0', i1', ei, ei'⟩ : ∃ i', 0 ≤ i' ∧ i' < n ∧ P (i + 1) = P i' ∧ (i' = i + 1 ∨ (i = n - 1 ∧ i' = 0)) := by
    by_cases e : i + 1 < n
    · exact ⟨i + 1, by omega, e, rfl, .inl rfl⟩
    · exact ⟨0, by omega, by omega, by rw [show i + 1 = n by omega, pn], .inr ⟨by omega, rfl⟩⟩
  obtain ⟨j', j0', j1', ej, ej'⟩ : ∃ j', 0 ≤ j' ∧ j' < n ∧ P (j + 1) = P j' ∧ (j' = j + 1 ∨ (j = n - 1 ∧ j' = 0)) := by
    by_cases e : j + 1 < n
    · exact ⟨j + 1, by omega, e, rfl, .inl rfl⟩
    · exact ⟨0, by omega, by omega, by rw [show j + 1 = n by omega, pn], .inr ⟨by omega, rfl⟩⟩
  have a1 := (h.ge i j i0 i1 j0 j1).1
  have a2 := h.ge i j' i0 i1 j0' j1'
  have a3 := (h.ge j i j0 j1 i0 i1).1
  have a4 := (h.ge j i' j0 j1 i0' i1').1
  rw [← ej] at a2; rw [← ei] at a4
  have id : ((P (j + 1)).y - y) * turn (P i) (P (i + 1)) (P j) + (y - (P j).y) * turn (P i) (P (i + 1)) (P (j + 1)) + ((P (i + 1)).y - y) * turn (P j) (P (j + 1)) (P i) + (y - (P i).y) * turn (P j) (P (j + 1)) (P (i + 1)) = 0 := by
    unfold turn; grind
  unfold Dn at hi hj
  have m1 := Int.mul_nonpos_of_nonpos_of_nonneg (show (P (j + 1)).y - y ≤ 0 by omega) a1
  have m2 := Int.mul_nonpos_of_nonpos_of_nonneg (show y - (P j).y ≤ 0 by omega) a2.1
  have m3 := Int.mul_nonpos_of_nonpos_of_nonneg (show (P (i + 1)).y - y ≤ 0 by omega) a3
  have m4 := Int.mul_nonpos_of_nonpos_of_nonneg (show y - (P i).y ≤ 0 by omega) a4
  have z : (y - (P j).y) * turn (P i) (P (i + 1)) (P (j + 1)) = 0 := by omega
  have z2 : turn (P i) (P (i + 1)) (P (j + 1)) = 0 := by
    rcases Int.mul_eq_zero.1 z with h1 | h1
    · omega
    · exact h1
  rcases a2.2 z2 with e | e | ⟨e1, e2⟩
  · -- the other line's end is this one's beginning
    rw [ej, e] at hj; omega
  · omega
  · omega
theorem up_dn (P : Int → Pt) (y : Int) : ∀ k : Nat, sm (fun i => (if Up (P i) (P (i + 1)) y then 1 else 0) - (if Dn (P i) (P (i + 1)) y then 1 else 0)) k = (if y < (P k).y then 1 else 0) - (if y < (P 0).y then 1 else 0)
  | 0 => by simp [sm]
  | k + 1 => by
    simp only [sm]
    rw [up_dn P y k]
    rw [show ((k + 1 : Nat) : Int) = (k : Int) + 1 by omega]
    unfold Up Dn
    by_cases a : y < (P k).y <;> by_cases b : y < (P ((k : Int) + 1)).y <;> simp [a, b] <;> omega
theorem sm_zero {g : Int → Int} : ∀ {k : Nat}, (∀ i : Int, 0 ≤ i → i < k → g i = 0) → sm g k = 0
  | 0, _ => rfl
  | k + 1, h => by simp only [sm]; rw [sm_zero fun i h0 h1 => h i h0 (by omega), h k (by omega) (by omega)]; rfl
theorem sm_add (f g : Int → Int) : ∀ k : Nat, sm (fun i => f i - g i) k = sm f k - sm g k
  | 0 => rfl
  | k + 1 => by simp only [sm]; rw [sm_add f g k]; omega
theorem up_has_dn (h : LP n P) {u y : Int} (u0 : 0 ≤ u) (u1 : u < n) (hu : Up (P u) (P (u + 1)) y) : ∃ d, 0 ≤ d ∧ d < n ∧ Dn (P d) (P (d + 1)) y := by
  have pn : P n = P 0 := by have := h.per 0; rwa [Int.zero_add] at this
  refine Classical.byContradiction fun hno => ?_
  have hs := up_dn P y n.toNat
  rw [Int.toNat_of_nonneg (by have := h.n3; omega), pn, sm_add (fun i => if Up (P i) (P (i + 1)) y then 1 else 0) (fun i => if Dn (P i) (P (i + 1)) y then 1 else 0)] at hs
  have z : sm (fun i => if Dn (P i) (P (i + 1)) y then 1 else 0) n.toNat = 0 := sm_zero fun i i0 i1 => if_neg fun hd => hno ⟨i, i0, by omega, hd⟩
  have o := (sm_nonneg (g := fun i => if Up (P i) (P (i + 1)) y then 1 else 0) (k := n.toNat) fun i _ _ => by split <;> omega).2 u u0 (by omega)
  simp only [if_pos hu] at o
  omega
theorem dn_has_up (h : LP n P) {u y : Int} (u0 : 0 ≤ u) (u1 : u < n) (hu : Dn (P u) (P (u + 1)) y) : ∃ d, 0 ≤ d ∧ d < n ∧ Up (P d) (P (d + 1)) y := by
  have pn : P n = P 0 := by have := h.per 0; rwa [Int.zero_add] at this
  refine Classical.byContradiction fun hno => ?_
  have hs := up_dn P y n.toNat
  rw [Int.toNat_of_nonneg (by have := h.n3; omega), pn, sm_add (fun i => if Up (P i) (P (i + 1)) y then 1 else 0) (fun i => if Dn (P i) (P (i + 1)) y then 1 else 0)] at hs
  have z : sm (fun i => if Up (P i) (P (i + 1)) y then 1 else 0) n.toNat = 0 := sm_zero fun i i0 i1 => if_neg fun hd => hno ⟨i, i0, by omega, hd⟩
  have o := (sm_nonneg (g := fun i => if Dn (P i) (P (i + 1)) y then 1 else 0) (k := n.toNat) fun i _ _ => by split <;> omega).2 u u0 (by omega)
  simp only [if_pos hu] at o
  omega
theorem between (h : LP n P) {u d i : Int} {q : Pt} (u0 : 0 ≤ u) (u1 : u < n) (d0 : 0 ≤ d) (d1 : d < n) (i0 : 0 ≤ i) (i1 : i < n) (hu : Up (P u) (P (u + 1)) q.y) (hd : Dn (P d) (P (d + 1)) q.y)
    (tu : 0 < turn (P u) (P (u + 1)) q) (td : 0 < turn (P d) (P (d + 1)) q) (hno : ¬ OnL (P i) (P (i + 1)) q) : 0 < turn (P i) (P (i + 1)) q := by
  have pn : P n = P 0 := by have := h.per 0; rwa [Int.zero_add] at this
  have nxt : ∀ i : Int, 0 ≤ i → i < n → ∃ i', 0 ≤ i' ∧ i' < n ∧ P (i + 1) = P i' ∧ (i' = i + 1 ∨ (i = n - 1 ∧ i' = 0)) := fun i i0 i1 => by
    by_cases e : i + 1 < n
    · exact ⟨i + 1, by omega, e, rfl, .inl rfl⟩
    · exact ⟨0, by omega, by omega, by rw [show i + 1 = n by omega, pn], .inr ⟨by omega, rfl⟩⟩
  obtain ⟨u', u0', u1', eu, eu'⟩ := nxt u u0 u1
  obtain ⟨d', d0', d1', ed, ed'⟩ := nxt d d0 d1
  have gA := h.ge i u i0 i1 u0 u1
  have gB := h.ge i u' i0 i1 u0' u1'
  have gC := h.ge i d i0 i1 d0 d1
  have gD := h.ge i d' i0 i1 d0' d1'
  rw [← eu] at gB; rw [← ed] at gD
  have id : turn (P i) (P (i + 1)) q * (((P d).y - (P (d + 1)).y) * turn (P u) (P (u + 1)) q + ((P (u + 1)).y - (P u).y) * turn (P d) (P (d + 1)) q) =
      (((P (u + 1)).y - q.y) * turn (P i) (P (i + 1)) (P u) + (q.y - (P u).y) * turn (P i) (P (i + 1)) (P (u + 1))) * turn (P d) (P (d + 1)) q +
      (((P d).y - q.y) * turn (P i) (P (i + 1)) (P (d + 1)) + (q.y - (P (d + 1)).y) * turn (P i) (P (i + 1)) (P d)) * turn (P u) (P (u + 1)) q := by
    unfold turn; grind
  unfold Up at hu; unfold Dn at hd
  have b1 := Int.mul_nonneg (show 0 ≤ (P (u + 1)).y - q.y by omega) gA.1
  have b2 := Int.mul_nonneg (show 0 ≤ q.y - (P u).y by omega) gB.1
  have b3 := Int.mul_nonneg (show 0 ≤ (P d).y - q.y by omega) gD.1
  have b4 := Int.mul_nonneg (show 0 ≤ q.y - (P (d + 1)).y by omega) gC.1
  generalize hMu : ((P (u + 1)).y - q.y) * turn (P i) (P (i + 1)) (P u) + (q.y - (P u).y) * turn (P i) (P (i + 1)) (P (u + 1)) = Mu at *
  generalize hMd : ((P d).y - q.y) * turn (P i) (P (i + 1)) (P (d + 1)) + (q.y - (P (d + 1)).y) * turn (P i) (P (i + 1)) (P d) = Md at *
  have cpos : 0 < ((P d).y - (P (d + 1)).y) * turn (P u) (P (u + 1)) q + ((P (u + 1)).y - (P u).y) * turn (P d) (P (d + 1)) q := by
    have := Int.mul_pos (show 0 < (P d).y - (P (d + 1)).y by omega) tu
    have := Int.mul_pos (show 0 < (P (u + 1)).y - (P u).y by omega) td
    omega
  generalize hc : ((P d).y - (P (d + 1)).y) * turn (P u) (P (u + 1)) q + ((P (u + 1)).y - (P u).y) * turn (P d) (P (d + 1)) q = c at *
  have mu0 : 0 ≤ Mu := by omega
  have md0 : 0 ≤ Md := by omega
  by_cases hui : u = i
  · subst hui; exact tu
  by_cases hdi : d = i
  · subst hdi; exact td
  by_cases hz : Mu = 0 ∧ Md = 0
  · exfalso
    obtain ⟨z1, z2⟩ := hz
    have y1 : ((P (u + 1)).y - q.y) * turn (P i) (P (i + 1)) (P u) = 0 := by omega
    have y2 : (q.y - (P u).y) * turn (P i) (P (i + 1)) (P (u + 1)) = 0 := by omega
    have y3 : ((P d).y - q.y) * turn (P i) (P (i + 1)) (P (d + 1)) = 0 := by omega
    have y4 : (q.y - (P (d + 1)).y) * turn (P i) (P (i + 1)) (P d) = 0 := by omega
    have tA : turn (P i) (P (i + 1)) (P u) = 0 := (Int.mul_eq_zero.1 y1).resolve_left (by omega)
    have tD : turn (P i) (P (i + 1)) (P (d + 1)) = 0 := (Int.mul_eq_zero.1 y3).resolve_left (by omega)
    have cA := gA.2 tA
    have cD := gD.2 tD
    have n3 := h.n3
    have eA : P (i + 1) = P u ∧ P (u + 1) = P (i + 2) := by
      rcases cA with e | e | ⟨e1, e2⟩
      · exact absurd e hui
      · subst e; exact ⟨rfl, by rw [show i + 1 + 1 = i + 2 by omega]⟩
      · subst e1; subst e2
        exact ⟨by rw [show n - 1 + 1 = n by omega, pn], by rw [show n - 1 + 2 = (0 + 1) + n by omega, h.per]⟩
    have eD : P i = P (d + 1) ∧ P d = P (i - 1) := by
      rcases ed' with e | ⟨e1, e2⟩
      · rcases cD with e' | e' | ⟨e1', e2'⟩
        · have : i = d + 1 := by omega
          subst this; exact ⟨rfl, by rw [show d + 1 - 1 = d by omega]⟩
        · omega
        · omega
      · rcases cD with e' | e' | ⟨e1', e2'⟩
        · have : i = 0 := by omega
          subst this; subst e1
          refine ⟨by rw [show n - 1 + 1 = n by omega, pn], ?_⟩
          have := h.per (0 - 1)
          rw [show (0 : Int) - 1 + n = n - 1 by omega] at this
          exact this
        · omega
        · omega
    have l1 := h.left i
    have l2 := h.left (i - 1)
    rw [show i - 1 + 1 = i by omega, show i - 1 + 2 = i + 1 by omega] at l2
    have l2' : turn (P i) (P (i + 1)) (P (i - 1)) = turn (P (i - 1)) (P i) (P (i + 1)) := by unfold turn; grind
    rw [eA.2] at y2
    rw [eD.2, l2'] at y4
    have hyA : q.y = (P u).y := by
      rcases Int.mul_eq_zero.1 y2 with h1 | h1 <;> omega
    have hyD : q.y = (P (d + 1)).y := by
      rcases Int.mul_eq_zero.1 y4 with h1 | h1 <;> omega
    have xA : q.x < (P u).x := by
      have e : turn (P u) (P (u + 1)) q = ((P (u + 1)).y - (P u).y) * ((P u).x - q.x) := by unfold turn; rw [hyA]; grind
      rw [e] at tu
      rcases Int.lt_or_le q.x (P u).x with h1 | h1
      · exact h1
      · have := Int.mul_nonpos_of_nonneg_of_nonpos (show 0 ≤ (P (u + 1)).y - (P u).y by omega) (show (P u).x - q.x ≤ 0 by omega); omega
    have xD : (P (d + 1)).x < q.x := by
      have e : turn (P d) (P (d + 1)) q = ((P d).y - (P (d + 1)).y) * (q.x - (P (d + 1)).x) := by unfold turn; rw [hyD]; grind
      rw [e] at td
      rcases Int.lt_or_le (P (d + 1)).x q.x with h1 | h1
      · exact h1
      · have := Int.mul_nonpos_of_nonneg_of_nonpos (show 0 ≤ (P d).y - (P (d + 1)).y by omega) (show q.x - (P (d + 1)).x ≤ 0 by omega); omega
    apply hno
    rw [eD.1, eA.1]
    refine ⟨?_, ?_, ?_⟩
    · unfold turn; rw [← hyA, ← hyD]; simp
    · have := Int.mul_neg_of_neg_of_pos (show (P (d + 1)).x - q.x < 0 by omega) (show 0 < (P u).x - q.x by omega); omega
    · rw [← hyA, ← hyD]; simp
  · have hr : 0 < Mu * turn (P d) (P (d + 1)) q + Md * turn (P u) (P (u + 1)) q := by
      have p1 := Int.mul_nonneg mu0 (show 0 ≤ turn (P d) (P (d + 1)) q by omega)
      have p2 := Int.mul_nonneg md0 (show 0 ≤ turn (P u) (P (u + 1)) q by omega)
      by_cases h1 : Mu = 0
      · have := Int.mul_pos (show 0 < Md by omega) tu; omega
      · have := Int.mul_pos (show 0 < Mu by omega) td; omega
    rw [← id] at hr
    rcases Int.lt_or_le 0 (turn (P i) (P (i + 1)) q) with h1 | h1
    · exact h1
    · have := Int.mul_nonpos_of_nonpos_of_nonneg h1 (show 0 ≤ c by omega); omega
theorem not_both (h : LP n P) {u d : Int} {q : Pt} (u0 : 0 ≤ u) (u1 : u < n) (d0 : 0 ≤ d) (d1 : d < n) (hu : Up (P u) (P (u + 1)) q.y) (hd : Dn (P d) (P (d + 1)) q.y)
    (tu : turn (P u) (P (u + 1)) q < 0) (td : turn (P d) (P (d + 1)) q < 0) : False := by
  have pn : P n = P 0 := by have := h.per 0; rwa [Int.zero_add] at this
  obtain ⟨d', d0', d1', ed⟩ : ∃ i', 0 ≤ i' ∧ i' < n ∧ P (d + 1) = P i' := by
    by_cases e : d + 1 < n
    · exact ⟨d + 1, by omega, e, rfl⟩
    · exact ⟨0, by omega, by omega, by rw [show d + 1 = n by omega, pn]⟩
  have gC := (h.ge u d u0 u1 d0 d1).1
  have gD := (h.ge u d' u0 u1 d0' d1').1
  rw [← ed] at gD
  have id : ((P d).y - q.y) * turn (P u) (P (u + 1)) (P (d + 1)) + (q.y - (P (d + 1)).y) * turn (P u) (P (u + 1)) (P d) =
      ((P d).y - (P (d + 1)).y) * turn (P u) (P (u + 1)) q + ((P (u + 1)).y - (P u).y) * turn (P d) (P (d + 1)) q := by
    unfold turn; grind
  unfold Up at hu; unfold Dn at hd
  have b3 := Int.mul_nonneg (show 0 ≤ (P d).y - q.y by omega) gD
  have b4 := Int.mul_nonneg (show 0 ≤ q.y - (P (d + 1)).y by omega) gC
  have c1 := Int.mul_neg_of_pos_of_neg (show 0 < (P d).y - (P (d + 1)).y by omega) tu
  have c2 := Int.mul_neg_of_pos_of_neg (show 0 < (P (u + 1)).y - (P u).y by omega) td
  omega
end
def xr (t : Int → Bool) : Nat → Bool
  | 0 => false
  | k + 1 => xor (xr t k) (t k)
theorem xr_zero {t : Int → Bool} : ∀ {k : Nat}, (∀ i : Int, 0 ≤ i → i < k → t i = false) → xr t k = false
  | 0, _ => rfl
  | k + 1, h => by simp only [xr]; rw [xr_zero fun i h0 h1 => h i h0 (by omega), h k (by omega) (by omega)]; rfl
theorem xr_two {t : Int → Bool} {u d : Int} (u0 : 0 ≤ u) (d0 : 0 ≤ d) (hud : u ≠ d) (he : t u = t d) : ∀ {k : Nat}, u < k → d < k → (∀ i : Int, 0 ≤ i → i < k → i ≠ u → i ≠ d → t i = false) → xr t k = false := by
  have one : ∀ {v : Int} {k : Nat}, 0 ≤ v → v < k → (∀ i : Int, 0 ≤ i → i < k → i ≠ v → t i = false) → xr t k = t v := by
    intro v k
    induction k with
    | zero => intro _ h; omega
    | succ k ih =>
      intro v0 hv hz
      simp only [xr]
      by_cases e : v = k
      · subst e; rw [xr_zero fun i h0 h1 => hz i h0 (by omega) (by omega)]; simp
      · rw [ih v0 (by omega) fun i h0 h1 hi => hz i h0 (by omega) hi, hz k (by omega) (by omega) (fun e' => e e'.symm)]; simp
  intro k
  induction k with
  | zero => intro h; omega
  | succ k ih =>
    intro hu hd hz
    simp only [xr]
    by_cases e1 : u = k
    · rw [one d0 (by omega) fun i h0 h1 hi => hz i h0 (by omega) (by omega) hi, ← he, e1]; simp
    · by_cases e2 : d = k
      · rw [one u0 (by omega) fun i h0 h1 hi => hz i h0 (by omega) hi (by omega), he, e2]; simp
      · rw [ih (by omega) (by omega) fun i h0 h1 h2 h3 => hz i h0 (by omega) h2 h3, hz k (by omega) (by omega) (fun e => e1 e.symm) (fun e => e2 e.symm)]; rfl
theorem par_xr (a : List Pt) (q : Pt) : ∀ (k : Nat) (v : Int), par a q v k = xr (fun i => tg (pt a (v + i)) (pt a (v + i + 1)) q) k := by
  have shift : ∀ (t : Int → Bool) (k : Nat), xr t (k + 1) = xor (t 0) (xr (fun i => t (i + 1)) k) := by
    intro t k
    induction k with
    | zero => simp [xr]
    | succ k ih =>
      have : xr t (k + 1 + 1) = xor (xr t (k + 1)) (t ((k + 1 : Nat) : Int)) := rfl
      rw [this, ih]
      simp only [xr]
      rw [Bool.xor_assoc]; rfl
  intro k
  induction k with
  | zero => intro v; rfl
  | succ k ih =>
    intro v
    rw [shift]
    simp only [par]
    rw [ih (v + 1)]
    simp only [Int.add_zero]
    congr 1
    congr 1
    funext i
    rw [show v + 1 + i = v + (i + 1) by omega]
theorem inside_left {a : List Pt} {q : Pt} (h : LP a.length (pt a)) (hr : ¬ Rim a q) (hp : par a q 0 a.length = true) {i : Int} (i0 : 0 ≤ i) (i1 : i < a.length) : 0 < turn (pt a i) (pt a (i + 1)) q := by
  refine Classical.byContradiction fun hc => ?_
  have rim : ∀ j : Int, 0 ≤ j → j < a.length → ¬ OnL (pt a j) (pt a (j + 1)) q := fun j j0 j1 ho => hr ⟨j, j0, j1, ho⟩
  rw [par_xr] at hp
  simp only [Int.zero_add] at hp
  have tz : ∀ j : Int, ¬ Up (pt a j) (pt a (j + 1)) q.y → ¬ Dn (pt a j) (pt a (j + 1)) q.y → tg (pt a j) (pt a (j + 1)) q = false := fun j h1 h2 => by
    unfold tg; unfold Up at h1; unfold Dn at h2; simp; omega
  by_cases hu : ∃ u, 0 ≤ u ∧ u < (a.length : Int) ∧ Up (pt a u) (pt a (u + 1)) q.y
  · obtain ⟨u, u0, u1, u2⟩ := hu
    obtain ⟨d, d0, d1, d2⟩ := up_has_dn h u0 u1 u2
    have hud : u ≠ d := fun e => by subst e; unfold Up at u2; unfold Dn at d2; omega
    have nu : turn (pt a u) (pt a (u + 1)) q ≠ 0 := fun e => rim u u0 u1 (on_of e (by rw [mul_le0]; unfold Up at u2; omega) (by unfold Up at u2; omega))
    have nd : turn (pt a d) (pt a (d + 1)) q ≠ 0 := fun e => rim d d0 d1 (on_of e (by rw [mul_le0]; unfold Dn at d2; omega) (by unfold Dn at d2; omega))
    have he : tg (pt a u) (pt a (u + 1)) q = tg (pt a d) (pt a (d + 1)) q := by
      have k1 : ¬ (0 < turn (pt a u) (pt a (u + 1)) q ∧ 0 < turn (pt a d) (pt a (d + 1)) q) := fun ⟨x, y⟩ => hc (between h u0 u1 d0 d1 i0 i1 u2 d2 x y (rim i i0 i1))
      have k2 : ¬ (turn (pt a u) (pt a (u + 1)) q < 0 ∧ turn (pt a d) (pt a (d + 1)) q < 0) := fun ⟨x, y⟩ => not_both h u0 u1 d0 d1 u2 d2 x y
      unfold tg Up Dn at *
      by_cases c : 0 < turn (pt a u) (pt a (u + 1)) q
      · have : turn (pt a d) (pt a (d + 1)) q < 0 := by omega
        rw [decide_eq_true (by omega), decide_eq_true (by omega)]
      · have : 0 < turn (pt a d) (pt a (d + 1)) q := by omega
        rw [decide_eq_false (by omega), decide_eq_false (by omega)]
    have := xr_two (t := fun i => tg (pt a i) (pt a (i + 1)) q) u0 d0 hud he u1 d1 fun j j0 j1 h1 h2 => tz j (fun hx => h1 (up_once h j0 j1 u0 u1 hx u2)) (fun hx => h2 (dn_once h j0 j1 d0 d1 hx d2))
    rw [this] at hp
    cases hp
  · have hd : ¬ ∃ d, 0 ≤ d ∧ d < (a.length : Int) ∧ Dn (pt a d) (pt a (d + 1)) q.y := fun ⟨d, d0, d1, d2⟩ => hu (dn_has_up h d0 d1 d2)
    have := xr_zero (t := fun i => tg (pt a i) (pt a (i + 1)) q) (k := a.length) fun j j0 j1 => tz j (fun hx => hu ⟨j, j0, j1, hx⟩) (fun hx => hd ⟨j, j0, j1, hx⟩)
    rw [this] at hp
    cases hp
end Go.AM
namespace Go.AM
theorem pt_per (a : List Pt) (i : Int) : pt a (i + a.length) = pt a i := pt_congr (by rw [Int.add_emod_right])
def ev (p : Pt) : Int := if p.x % 2 = 0 ∧ p.y % 2 = 0 then 1 else 0
theorem step_even (p q : Pt) : step p q % 2 = if (p.x - q.x) % 2 = 0 ∧ (p.y - q.y) % 2 = 0 then 0 else 1 := by
  unfold step
  generalize hX : p.x - q.x = X
  generalize hY : p.y - q.y = Y
  by_cases h : X % 2 = 0 ∧ Y % 2 = 0
  · rw [if_pos h]
    have : 2 ∣ Nat.gcd X.natAbs Y.natAbs := Nat.dvd_gcd (by omega) (by omega)
    omega
  · rw [if_neg h]
    have h1 : ¬ 2 ∣ Nat.gcd X.natAbs Y.natAbs := fun hd => h (by
      have a := Nat.dvd_trans hd (Nat.gcd_dvd_left _ _)
      have b := Nat.dvd_trans hd (Nat.gcd_dvd_right _ _)
      omega)
    omega
theorem parity (p q : Pt) : (cross p q + step p q + ev p + ev q) % 2 = 0 := by
  have h1 := step_even p q
  have hc : cross p q % 2 = ((p.x % 2) * (q.y % 2) - (p.y % 2) * (q.x % 2)) % 2 := by
    unfold cross
    rw [Int.sub_emod, Int.mul_emod, Int.mul_emod p.y, ← Int.sub_emod]
  have a1 : p.x % 2 = 0 ∨ p.x % 2 = 1 := by omega
  have a2 : p.y % 2 = 0 ∨ p.y % 2 = 1 := by omega
  have a3 : q.x % 2 = 0 ∨ q.x % 2 = 1 := by omega
  have a4 : q.y % 2 = 0 ∨ q.y % 2 = 1 := by omega
  unfold ev
  rcases a1 with e1 | e1 <;> rcases a2 with e2 | e2 <;> rcases a3 with e3 | e3 <;> rcases a4 with e4 | e4 <;>
    (rw [e1, e2, e3, e4] at hc
     have d1 : (p.x - q.x) % 2 = (p.x % 2 - q.x % 2) % 2 := by omega
     have d2 : (p.y - q.y) % 2 = (p.y % 2 - q.y % 2) % 2 := by omega
     rw [d1, d2, e1, e2, e3, e4] at h1
     simp [e1, e2, e3, e4] at h1 hc ⊢
     omega)
theorem sm_plus (f g : Int → Int) : ∀ k : Nat, sm (fun i => f i + g i) k = sm f k + sm g k
  | 0 => rfl
  | k + 1 => by simp only [sm]; rw [sm_plus f g k]; omega
theorem sm_mod {f : Int → Int} (h : ∀ i, f i % 2 = 0) : ∀ k : Nat, sm f k % 2 = 0
  | 0 => rfl
  | k + 1 => by simp only [sm]; have := sm_mod h k; have := h k; omega
theorem sm_round {f : Int → Int} {k : Nat} (h : f k = f 0) : sm (fun i => f (i + 1)) k = sm f k := by
  have key : ∀ m : Nat, sm (fun i => f (i + 1)) m + f 0 = sm f m + f m := by
    intro m
    induction m with
    | zero => rfl
    | succ m ih => simp only [sm]; rw [show ((m + 1 : Nat) : Int) = (m : Int) + 1 by omega]; omega
  have := key k
  omega
theorem area_round (a : List Pt) : (area a + round a) % 2 = 0 := by
  have h1 := sm_mod (f := fun i => cross (pt a i) (pt a (i + 1)) + step (pt a i) (pt a (i + 1)) + ev (pt a i) + ev (pt a (i + 1))) (fun i => parity _ _) a.length
  rw [sm_plus (fun i => cross (pt a i) (pt a (i + 1)) + step (pt a i) (pt a (i + 1)) + ev (pt a i)) (fun i => ev (pt a (i + 1))), sm_plus (fun i => cross (pt a i) (pt a (i + 1)) + step (pt a i) (pt a (i + 1))) (fun i => ev (pt a i)),
    sm_plus (fun i => cross (pt a i) (pt a (i + 1))) (fun i => step (pt a i) (pt a (i + 1))), sm_round (f := fun i => ev (pt a i)) (by show ev (pt a a.length) = ev (pt a 0); rw [show (a.length : Int) = 0 + a.length by omega, pt_per])] at h1
  unfold area round
  omega
end Go.AM
namespace Go.AM
theorem less_pos {a b : Pt} : Less a b ↔ Pos (df a b) := by unfold Less Pos df; simp only; omega
theorem turn_df (a b c : Pt) : turn a b c = cross (df a b) (df a c) := by unfold turn cross df; rfl
theorem tp0 {u v w : Pt} (hu : Pos u) (hv : Pos v) (hw : Pos w) (h1 : 0 ≤ cross u v) (h2 : 0 ≤ cross v w) : 0 ≤ cross u w := by
  obtain ⟨e1, _⟩ := three_way u v w
  rw [cross_anti u w] at e1
  rcases Int.lt_or_le (cross u w) 0 with h | h
  · exfalso
    have ux : 0 ≤ u.x := by unfold Pos at hu; omega
    have vx : 0 ≤ v.x := by unfold Pos at hv; omega
    have wx : 0 ≤ w.x := by unfold Pos at hw; omega
    have m1 := Int.mul_nonneg h2 ux
    have m2 := Int.mul_nonneg h1 wx
    by_cases hvx : v.x = 0
    · have hvy : 0 < v.y := by unfold Pos at hv; omega
      have c2 : cross v w = -(v.y * w.x) := by unfold cross; rw [hvx]; grind
      have hwx : w.x = 0 := by
        rcases Int.lt_or_le 0 w.x with h3 | h3
        · have := Int.mul_pos hvy h3; omega
        · omega
      have hwy : 0 < w.y := by unfold Pos at hw; omega
      have c3 : cross u w = u.x * w.y := by unfold cross; rw [hwx]; grind
      have := Int.mul_nonneg ux (Int.le_of_lt hwy)
      omega
    · have := Int.mul_neg_of_neg_of_pos h (show 0 < v.x by omega)
      have e : -cross u w * v.x = -(cross u w * v.x) := by grind
      omega
  · exact h
theorem tp1 {u v w : Pt} (hu : Pos u) (hv : Pos v) (hw : Pos w) (h1 : 0 < cross u v) (h2 : 0 ≤ cross v w) : 0 < cross u w := by
  have h0 := tp0 hu hv hw (by omega) h2
  rcases Int.lt_or_le 0 (cross u w) with h | h
  · exact h
  · exfalso
    have hz : cross u w = 0 := by omega
    obtain ⟨e1, e2⟩ := three_way u v w
    rw [cross_anti u w, hz] at e1 e2
    have ux : 0 ≤ u.x := by unfold Pos at hu; omega
    have wx : 0 ≤ w.x := by unfold Pos at hw; omega
    have m1 := Int.mul_nonneg h2 ux
    have m2 := Int.mul_nonneg (Int.le_of_lt h1) wx
    have z1 : cross u v * w.x = 0 := by simp at e1; omega
    have z2 : cross v w * u.x = 0 := by simp at e1; omega
    have hwx : w.x = 0 := by
      rcases Int.mul_eq_zero.1 z1 with h | h <;> omega
    have hwy : 0 < w.y := by unfold Pos at hw; omega
    have c3 : cross u w = u.x * w.y := by unfold cross; rw [hwx]; grind
    have hux : u.x = 0 := by
      rcases Int.lt_or_le 0 u.x with h3 | h3
      · have := Int.mul_pos h3 hwy; omega
      · omega
    have huy : 0 < u.y := by unfold Pos at hu; omega
    have c4 : cross u v = -(u.y * v.x) := by unfold cross; rw [hux]; grind
    have vx : 0 ≤ v.x := by unfold Pos at hv; omega
    have := Int.mul_nonneg (Int.le_of_lt huy) vx
    omega
theorem tp2 {u v w : Pt} (hu : Pos u) (hv : Pos v) (hw : Pos w) (h1 : 0 ≤ cross u v) (h2 : 0 < cross v w) : 0 < cross u w := by
  have h0 := tp0 hu hv hw h1 (by omega)
  rcases Int.lt_or_le 0 (cross u w) with h | h
  · exact h
  · exfalso
    have hz : cross u w = 0 := by omega
    have := tp1 hw hu hv (by
      rcases Int.lt_or_le 0 (cross w u) with h | h
      · exact h
      · exfalso
        obtain ⟨e1, e2⟩ := three_way u v w
        rw [cross_anti u w, hz] at e1 e2
        have ux : 0 ≤ u.x := by unfold Pos at hu; omega
        have wx : 0 ≤ w.x := by unfold Pos at hw; omega
        have m1 := Int.mul_nonneg (Int.le_of_lt h2) ux
        have m2 := Int.mul_nonneg h1 wx
        have z2 : cross v w * u.x = 0 := by simp at e1; omega
        have hux : u.x = 0 := by rcases Int.mul_eq_zero.1 z2 with h | h <;> omega
        have huy : 0 < u.y := by unfold Pos at hu; omega
        have c3 : cross u w = -(u.y * w.x) := by unfold cross; rw [hux]; grind
        have hwx : w.x = 0 := by
          rcases Int.lt_or_le 0 w.x with h3 | h3
          · have := Int.mul_pos huy h3; omega
          · omega
        have vx : 0 ≤ v.x := by unfold Pos at hv; omega
        have hwy : 0 < w.y := by unfold Pos at hw; omega
        have c4 : cross u v = -(u.y * v.x) := by unfold cross; rw [hux]; grind
        have hvx : v.x = 0 := by
          rcases Int.lt_or_le 0 v.x with h3 | h3
          · have := Int.mul_pos huy h3; omega
          · omega
        have c5 : cross v w = 0 := by unfold cross; rw [hvx, hwx]; grind
        omega) h1
    rw [cross_anti] at this
    omega
def Edges (f : Pt → Pt → Prop) : List Pt → Prop
  | b :: a :: r => f a b ∧ Edges f (a :: r)
  | _ => True
def Trips : List Pt → Prop
  | c :: b :: a :: r => 0 < turn a b c ∧ Trips (b :: a :: r)
  | _ => True
def stk : List Pt → Pt → List Pt
  | b :: a :: r, p => if turn a b p ≤ 0 then stk (a :: r) p else p :: b :: a :: r
  | s, p => p :: s
structure CI (Q s : List Pt) : Prop where
  ord : Edges Less s
  cvx : Trips s
  cov : ∀ q ∈ Q, Edges (fun a b => 0 ≤ turn a b q) s
  low : ∀ q ∈ Q, ∀ x, s.getLast? = some x → q = x ∨ Less x q
  sub : ∀ x ∈ s, x ∈ Q
theorem Edges.tail {f : Pt → Pt → Prop} {b : Pt} {s : List Pt} (h : Edges f (b :: s)) : Edges f s := by
  cases s with
  | nil => trivial
  | cons a r => exact h.2
theorem Trips.tail {b : Pt} {s : List Pt} (h : Trips (b :: s)) : Trips s := by
  match s, h with
  | [], _ => trivial
  | [_], _ => trivial
  | _ :: _ :: _, h => exact h.2
theorem turn_self1 (a b : Pt) : turn a b a = 0 := by unfold turn; grind
theorem turn_self2 (a b : Pt) : turn a b b = 0 := by unfold turn; grind
theorem ahead {p : Pt} : ∀ {r : List Pt} {a b : Pt}, Edges Less (b :: a :: r) → Trips (b :: a :: r) → Less b p → 0 < turn a b p → Edges (fun a b => 0 ≤ turn a b p) (b :: a :: r)
  | [], a, b, _, _, _, h => ⟨by omega, trivial⟩
  | z :: r, a, b, ho, ht, hl, h => by
    refine ⟨by omega, ahead ho.tail ht.tail (ho.1.trans hl) ?_⟩
    have h1 : 0 < turn z a b := ht.1
    have hza : Less z a := ho.2.1
    have hab : Less a b := ho.1
    have e1 : turn z a b = cross (df z a) (df a b) := by unfold turn cross df; grind
    have e2 : turn z a p = cross (df z a) (df a p) := by unfold turn cross df; grind
    rw [turn_df] at h
    rw [e1] at h1
    rw [e2]
    exact tp1 (less_pos.1 hza) (less_pos.1 hab) (less_pos.1 (hab.trans hl)) h1 (by omega)
theorem stk_step {Q : List Pt} {p : Pt} (hp : ∀ q ∈ Q, Less q p) : ∀ {s : List Pt} {t : Pt}, CI Q (t :: s) → (∀ q ∈ Q, Less t q → 0 ≤ turn t p q) → CI (p :: Q) (stk (t :: s) p)
  | [], t, h, hk => by
    have ht : t ∈ Q := h.sub t (by simp)
    refine ⟨⟨hp t ht, trivial⟩, trivial, fun q hq => ?_, fun q hq x hx => ?_, fun x hx => ?_⟩
    · rcases List.mem_cons.1 hq with rfl | hq
      · exact ⟨by show 0 ≤ turn _ _ _; rw [turn_self2]; omega, trivial⟩
      · refine ⟨?_, trivial⟩
        rcases h.low q hq t rfl with rfl | h1
        · show 0 ≤ turn _ _ _; rw [turn_self1]; omega
        · exact hk q hq h1
    · simp [stk] at hx; subst hx
      rcases List.mem_cons.1 hq with rfl | hq
      · exact .inr (hp t ht)
      · exact h.low q hq t rfl
    · simp [stk] at hx; rcases hx with rfl | rfl
      · exact List.mem_cons_self
      · exact List.mem_cons_of_mem _ ht
  | a :: r, b, h, hk => by
    have hb : b ∈ Q := h.sub b (by simp)
    have ha : a ∈ Q := h.sub a (by simp)
    have hab : Less a b := h.ord.1
    by_cases hc : turn a b p ≤ 0
    · have e : stk (b :: a :: r) p = stk (a :: r) p := by rw [stk]; simp [hc]
      rw [e]
      refine stk_step hp ⟨h.ord.tail, h.cvx.tail, fun q hq => (h.cov q hq).tail, fun q hq x hx => h.low q hq x (by rw [List.getLast?_cons_cons]; exact hx), fun x hx => h.sub x (List.mem_cons_of_mem _ hx)⟩ fun q hq hl => ?_
      have h1 : 0 ≤ turn a b q := (h.cov q hq).1
      rw [turn_df] at hc h1 ⊢
      have c1 : 0 ≤ cross (df a p) (df a b) := by rw [cross_anti]; omega
      exact tp0 (less_pos.1 (hp a ha)) (less_pos.1 hab) (less_pos.1 hl) c1 h1
    · have e : stk (b :: a :: r) p = p :: b :: a :: r := by rw [stk]; simp [hc]
      rw [e]
      have hbp := hp b hb
      refine ⟨⟨hbp, h.ord⟩, ⟨by omega, h.cvx⟩, fun q hq => ?_, fun q hq x hx => ?_, fun x hx => ?_⟩
      · rcases List.mem_cons.1 hq with rfl | hq
        · exact ⟨by show 0 ≤ turn _ _ _; rw [turn_self2]; omega, ahead h.ord h.cvx hbp (by omega)⟩
        · refine ⟨?_, h.cov q hq⟩
          by_cases e1 : Less b q
          · exact hk q hq e1
          · by_cases e2 : Less q b
            · have h1 : 0 ≤ turn a b q := (h.cov q hq).1
              have f1 : turn a b q = cross (df q b) (df a b) := by unfold turn cross df; grind
              have f2 : turn a b p = cross (df a b) (df b p) := by unfold turn cross df; grind
              have f3 : turn b p q = cross (df q b) (df b p) := by unfold turn cross df; grind
              have := tp2 (less_pos.1 e2) (less_pos.1 hab) (less_pos.1 hbp) (by omega) (show 0 < cross (df a b) (df b p) by omega)
              omega
            · have := not_less_eq e1 e2
              subst this
              show 0 ≤ turn _ _ _; rw [turn_self1]; omega
      · rcases List.mem_cons.1 hq with rfl | hq
        · have hx' : x ∈ b :: a :: r := List.mem_of_getLast? (by rw [List.getLast?_cons_cons] at hx; exact hx)
          exact .inr (hp x (h.sub x hx'))
        · exact h.low q hq x (by rw [List.getLast?_cons_cons] at hx; exact hx)
      · rcases List.mem_cons.1 hx with rfl | hx
        · exact List.mem_cons_self
        · exact List.mem_cons_of_mem _ (h.sub x hx)
def stack (l : List Pt) : List Pt := l.foldl stk []
def Rise : List Pt → Prop
  | a :: b :: r => Less a b ∧ Rise (b :: r)
  | _ => True
theorem stk_head (s : List Pt) (p : Pt) : ∃ r, stk s p = p :: r := by
  match s with
  | [] => exact ⟨[], rfl⟩
  | [a] => exact ⟨[a], rfl⟩
  | b :: a :: r =>
    by_cases hc : turn a b p ≤ 0
    · have e : stk (b :: a :: r) p = stk (a :: r) p := by rw [stk]; simp [hc]
      rw [e]; exact stk_head (a :: r) p
    · have e : stk (b :: a :: r) p = p :: b :: a :: r := by rw [stk]; simp [hc]
      exact ⟨_, e⟩
termination_by s.length
theorem fold_ci : ∀ {l Q : List Pt} {t : Pt} {s : List Pt}, CI Q (t :: s) → (∀ q ∈ Q, q = t ∨ Less q t) → Rise (t :: l) → CI (l.reverse ++ Q) (l.foldl stk (t :: s))
  | [], Q, t, s, h, _, _ => by simpa using h
  | p :: l, Q, t, s, h, ht, hr => by
    have hp : ∀ q ∈ Q, Less q p := fun q hq => by
      rcases ht q hq with rfl | h1
      · exact hr.1
      · exact h1.trans hr.1
    have h1 := stk_step hp h fun q hq hl => by
      rcases ht q hq with rfl | h2
      · exact absurd hl (Less.irrefl _)
      · exact absurd (h2.trans hl) (Less.irrefl _)
    obtain ⟨r, hr1⟩ := stk_head (t :: s) p
    rw [List.foldl_cons, hr1]
    rw [hr1] at h1
    have := fold_ci h1 (fun q hq => by
      rcases List.mem_cons.1 hq with rfl | hq
      · exact .inl rfl
      · exact .inr (hp q hq)) hr.2
    simpa using this
theorem stack_ci {l : List Pt} (hl : l ≠ []) (hr : Rise l) : CI l.reverse (stack l) := by
  match l, hl with
  | a :: l, _ =>
    have h0 : CI [a] [a] := ⟨trivial, trivial, fun _ _ => trivial, fun q hq x hx => by simp at hx hq; subst hx; subst hq; exact .inl rfl, fun x hx => hx⟩
    have := fold_ci (l := l) h0 (fun q hq => by simp at hq; exact .inl hq) hr
    simpa [stack, stk] using this
theorem fold_head : ∀ (l : List Pt) (t : Pt) (s : List Pt), ∃ r, l.foldl stk (t :: s) = ((t :: l).getLast (by simp)) :: r
  | [], t, s => ⟨s, rfl⟩
  | p :: l, t, s => by
    obtain ⟨r, hr⟩ := stk_head (t :: s) p
    rw [List.foldl_cons, hr]
    obtain ⟨r', h'⟩ := fold_head l p r
    exact ⟨r', by rw [h']; simp⟩
theorem stk_last (p : Pt) : ∀ (s : List Pt) (t : Pt), (stk (t :: s) p).getLast? = (t :: s).getLast?
  | [], t => rfl
  | a :: r, b => by
    by_cases hc : turn a b p ≤ 0
    · have e : stk (b :: a :: r) p = stk (a :: r) p := by rw [stk]; simp [hc]
      rw [e, stk_last p r a, List.getLast?_cons_cons]
    · have e : stk (b :: a :: r) p = p :: b :: a :: r := by rw [stk]; simp [hc]
      rw [e, List.getLast?_cons_cons]
theorem fold_last : ∀ (l : List Pt) (t : Pt) (s : List Pt), (l.foldl stk (t :: s)).getLast? = (t :: s).getLast?
  | [], t, s => rfl
  | p :: l, t, s => by
    obtain ⟨r, hr⟩ := stk_head (t :: s) p
    have h1 := stk_last p s t
    rw [List.foldl_cons, hr, fold_last l p r, ← hr, h1]
theorem stk_two {p : Pt} : ∀ (s : List Pt) (t : Pt), 2 ≤ (stk (t :: s) p).length
  | [], t => by simp [stk]
  | a :: r, b => by
    by_cases hc : turn a b p ≤ 0
    · have e : stk (b :: a :: r) p = stk (a :: r) p := by rw [stk]; simp [hc]
      rw [e]; exact stk_two r a
    · have e : stk (b :: a :: r) p = p :: b :: a :: r := by rw [stk]; simp [hc]
      rw [e]; simp
theorem fold_two : ∀ (l : List Pt) (t : Pt) (s : List Pt), l ≠ [] → 2 ≤ (l.foldl stk (t :: s)).length
  | [p], t, s, _ => stk_two s t
  | p :: q :: l, t, s, _ => by
    obtain ⟨r, hr⟩ := stk_head (t :: s) p
    rw [List.foldl_cons, hr]
    exact fold_two (q :: l) p r (by simp)
end Go.AM
namespace Go.AM
def Ord (l : List Pt) : Prop := l.Pairwise fun a b => ¬ Less b a
theorem ord_one {l l' : List Pt} (h : Ord l) (h' : Ord l') (hp : l.Perm l') : l = l' :=
  hp.eq_of_pairwise (fun _ _ _ _ h1 h2 => not_less_eq h2 h1) h h'
def insP (p : Pt) : List Pt → List Pt
  | [] => [p]
  | a :: l => if Less a p then a :: insP p l else p :: a :: l
def isort (l : List Pt) : List Pt := l.foldl (fun out p => insP p out) []
theorem insP_perm (p : Pt) : ∀ l : List Pt, (insP p l).Perm (p :: l)
  | [] => .refl _
  | a :: l => by
    unfold insP
    split
    · exact ((insP_perm p l).cons a).trans (List.Perm.swap p a l)
    · exact .refl _
theorem insP_ord {p : Pt} : ∀ {l : List Pt}, Ord l → Ord (insP p l)
  | [], _ => by simp [Ord, insP]
  | a :: l, h => by
    unfold Ord at h ⊢
    rw [List.pairwise_cons] at h
    unfold insP
    split
    · rename_i hl
      rw [List.pairwise_cons]
      refine ⟨fun x hx => ?_, insP_ord h.2⟩
      rcases List.mem_cons.1 ((insP_perm p l).mem_iff.1 hx) with rfl | hx
      · unfold Less at *; omega
      · exact h.1 x hx
    · rename_i hl
      rw [List.pairwise_cons, List.pairwise_cons]
      refine ⟨fun x hx => ?_, h⟩
      rcases List.mem_cons.1 hx with rfl | hx
      · exact hl
      · have := h.1 x hx
        unfold Less at *; omega
theorem isort_go : ∀ (l out : List Pt), Ord out → Ord (l.foldl (fun out p => insP p out) out) ∧ (l.foldl (fun out p => insP p out) out).Perm (l ++ out)
  | [], out, h => ⟨h, .refl _⟩
  | p :: l, out, h => by
    obtain ⟨h1, h2⟩ := isort_go l (insP p out) (insP_ord h)
    refine ⟨h1, h2.trans ?_⟩
    exact ((insP_perm p out).append_left l).trans List.perm_middle
theorem isort_ord (l : List Pt) : Ord (isort l) := (isort_go l [] .nil).1
theorem isort_perm (l : List Pt) : (isort l).Perm l := by have := (isort_go l [] .nil).2; rw [List.append_nil] at this; exact this
theorem isort_len (l : List Pt) : (isort l).length = l.length := (isort_perm l).length_eq
theorem isort_mem {l : List Pt} {p : Pt} : p ∈ isort l ↔ p ∈ l := (isort_perm l).mem_iff
theorem isort_nodup {l : List Pt} (h : l.Nodup) : (isort l).Nodup := (isort_perm l).nodup_iff.2 h
theorem rise_of : ∀ {l : List Pt}, Ord l → l.Nodup → Rise l
  | [], _, _ => trivial
  | [a], _, _ => trivial
  | a :: b :: l, h, hn => by
    unfold Ord at h
    rw [List.pairwise_cons] at h
    rw [List.nodup_cons] at hn
    refine ⟨?_, rise_of (l := b :: l) h.2 hn.2⟩
    by_cases hl : Less a b
    · exact hl
    · have := not_less_eq hl (h.1 b List.mem_cons_self)
      exact absurd (this ▸ List.mem_cons_self) hn.1
theorem rise_ord : ∀ {l : List Pt}, Rise l → l.Pairwise Less
  | [], _ => .nil
  | [a], _ => by simp
  | a :: b :: l, h => by
    have ih := rise_ord (l := b :: l) h.2
    rw [List.pairwise_cons]
    refine ⟨fun x hx => ?_, ih⟩
    rcases List.mem_cons.1 hx with rfl | hx
    · exact h.1
    · rw [List.pairwise_cons] at ih
      exact h.1.trans (ih.1 x hx)
end Go.AM
namespace Go.AM
def sideL (l : List Pt) : List Pt := (stack l).reverse
def bandL (l : List Pt) : List Pt := if l.length = 1 then l else (sideL l).dropLast ++ (sideL l.reverse).dropLast
theorem edges_get {f : Pt → Pt → Prop} : ∀ {s : List Pt}, Edges f s → ∀ (i : Nat) (a b : Pt), s[i]? = some b → s[i + 1]? = some a → f a b
  | [], _, i, a, b, h, _ => by simp at h
  | [x], _, i, a, b, _, h => by simp at h
  | x :: y :: s, h, 0, a, b, h1, h2 => by simp at h1 h2; subst h1; subst h2; exact h.1
  | x :: y :: s, h, i + 1, a, b, h1, h2 => by
    simp only [List.getElem?_cons_succ] at h1 h2
    exact edges_get (s := y :: s) h.2 i a b h1 h2
theorem trips_get : ∀ {s : List Pt}, Trips s → ∀ (i : Nat) (a b c : Pt), s[i]? = some c → s[i + 1]? = some b → s[i + 2]? = some a → 0 < turn a b c
  | [], _, i, a, b, c, h, _, _ => by simp at h
  | [x], _, i, a, b, c, _, h, _ => by simp at h
  | [x, y], _, i, a, b, c, _, _, h => by simp at h
  | x :: y :: z :: s, h, 0, a, b, c, h1, h2, h3 => by simp at h1 h2 h3; subst h1; subst h2; subst h3; exact h.1
  | x :: y :: z :: s, h, i + 1, a, b, c, h1, h2, h3 => by
    simp only [List.getElem?_cons_succ] at h1 h2 h3
    exact trips_get (s := y :: z :: s) h.2 i a b c h1 h2 h3
theorem edges_rev {f : Pt → Pt → Prop} {s : List Pt} (h : Edges f s) {i : Nat} {a b : Pt} (ha : s.reverse[i]? = some a) (hb : s.reverse[i + 1]? = some b) : f a b := by
  have hl : i + 1 < s.length := by
    have := (List.getElem?_eq_some_iff.1 hb).1
    simpa using this
  rw [List.getElem?_reverse (by omega)] at ha hb
  exact edges_get h (s.length - 1 - (i + 1)) a b hb (by rw [show s.length - 1 - (i + 1) + 1 = s.length - 1 - i by omega]; exact ha)
theorem trips_rev {s : List Pt} (h : Trips s) {i : Nat} {a b c : Pt} (ha : s.reverse[i]? = some a) (hb : s.reverse[i + 1]? = some b) (hc : s.reverse[i + 2]? = some c) : 0 < turn a b c := by
  have hl : i + 2 < s.length := by
    have := (List.getElem?_eq_some_iff.1 hc).1
    simpa using this
  rw [List.getElem?_reverse (by omega)] at ha hb hc
  exact trips_get h (s.length - 1 - (i + 2)) a b c hc (by rw [show s.length - 1 - (i + 2) + 1 = s.length - 1 - (i + 1) by omega]; exact hb) (by rw [show s.length - 1 - (i + 2) + 2 = s.length - 1 - i by omega]; exact ha)
theorem stk_ngt (p : Pt) : ∀ s : List Pt, stk (s.map ngt) (ngt p) = (stk s p).map ngt
  | [] => rfl
  | [a] => rfl
  | b :: a :: r => by
    have ih := stk_ngt p (a :: r)
    simp only [List.map_cons] at ih ⊢
    rw [stk, stk, turn_ngt]
    split
    · exact ih
    · simp
theorem fold_ngt : ∀ (l s : List Pt), (l.map ngt).foldl stk (s.map ngt) = (l.foldl stk s).map ngt
  | [], s => rfl
  | p :: l, s => by simp only [List.map_cons, List.foldl_cons]; rw [stk_ngt, fold_ngt]
theorem stack_ngt (l : List Pt) : stack (l.map ngt) = (stack l).map ngt := fold_ngt l []
theorem ngt_ngt (p : Pt) : ngt (ngt p) = p := by unfold ngt; simp
theorem less_ngt {a b : Pt} : Less (ngt a) (ngt b) ↔ Less b a := by unfold Less ngt; simp only; omega
theorem rise_rev : ∀ {l : List Pt}, Rise l → Rise (l.reverse.map ngt) := by
  intro l h
  have h1 := rise_ord h
  have h2 : (l.reverse.map ngt).Pairwise Less := by
    rw [List.pairwise_map, List.pairwise_reverse]
    exact h1.imp fun h => less_ngt.2 h
  have : ∀ {m : List Pt}, m.Pairwise Less → Rise m := by
    intro m
    induction m with
    | nil => intro _; trivial
    | cons a m ih =>
      intro hp
      rw [List.pairwise_cons] at hp
      cases m with
      | nil => trivial
      | cons b m => exact ⟨hp.1 b List.mem_cons_self, ih hp.2⟩
  exact this h2
structure Side (o : Pt → Pt → Prop) (Q A : List Pt) : Prop where
  ord : ∀ (i : Nat) a b, A[i]? = some a → A[i + 1]? = some b → o a b
  cov : ∀ (i : Nat) a b, A[i]? = some a → A[i + 1]? = some b → ∀ q ∈ Q, 0 ≤ turn a b q
  cvx : ∀ (i : Nat) a b c, A[i]? = some a → A[i + 1]? = some b → A[i + 2]? = some c → 0 < turn a b c
  sub : ∀ x ∈ A, x ∈ Q
theorem side_up {l : List Pt} (hl : l ≠ []) (hr : Rise l) : Side Less l (sideL l) := by
  have h := stack_ci hl hr
  refine ⟨fun i a b ha hb => edges_rev h.ord ha hb, fun i a b ha hb q hq => ?_, fun i a b c ha hb hc => trips_rev h.cvx ha hb hc, fun x hx => ?_⟩
  · exact edges_rev (f := fun a b => 0 ≤ turn a b q) (h.cov q (by simpa using hq)) ha hb
  · have := h.sub x (by simpa [sideL] using hx)
    simpa using this
theorem side_down {l : List Pt} (hl : l ≠ []) (hr : Rise l) : Side (fun a b => Less b a) l (sideL l.reverse) := by
  have h := side_up (l := l.reverse.map ngt) (by simpa using hl) (rise_rev hr)
  have e : sideL (l.reverse.map ngt) = (sideL l.reverse).map ngt := by unfold sideL; rw [stack_ngt, List.map_reverse]
  rw [e] at h
  have g : ∀ {i : Nat} {a : Pt}, (sideL l.reverse)[i]? = some a → ((sideL l.reverse).map ngt)[i]? = some (ngt a) := fun h => by rw [List.getElem?_map, h]; rfl
  refine ⟨fun i a b ha hb => less_ngt.1 (h.ord i _ _ (g ha) (g hb)), fun i a b ha hb q hq => ?_, fun i a b c ha hb hc => ?_, fun x hx => ?_⟩
  · have := h.cov i _ _ (g ha) (g hb) (ngt q) (List.mem_map.2 ⟨q, by simpa using hq, rfl⟩)
    rwa [turn_ngt] at this
  · have := h.cvx i _ _ _ (g ha) (g hb) (g hc)
    rwa [turn_ngt] at this
  · obtain ⟨y, hy, e⟩ := List.mem_map.1 (h.sub (ngt x) (List.mem_map.2 ⟨x, hx, rfl⟩))
    have : y = x := by rw [← ngt_ngt y, e, ngt_ngt]
    subst this
    simpa using hy
theorem side_ends {l : List Pt} (hl : 2 ≤ l.length) : 2 ≤ (sideL l).length ∧ (sideL l)[0]? = l[0]? ∧ (sideL l).getLast? = l.getLast? := by
  match l, hl with
  | a :: b :: l, _ =>
    have e : stack (a :: b :: l) = (b :: l).foldl stk [a] := rfl
    refine ⟨?_, ?_, ?_⟩
    · unfold sideL; rw [List.length_reverse, e]; exact fold_two (b :: l) a [] (by simp)
    · have h1 := fold_last (b :: l) a []
      unfold sideL
      rw [← List.head?_eq_getElem?, List.head?_reverse, e, h1]
      rfl
    · obtain ⟨r, h1⟩ := fold_head (b :: l) a []
      unfold sideL
      rw [List.getLast?_reverse, e, h1]
      simp [List.getLast?_eq_getLast]
end Go.AM
namespace Go.AM
theorem par0 {d1 d2 e : Pt} (h1 : Pos d1) (h2 : Pos d2) (hz : cross d1 d2 = 0) (h : 0 ≤ cross d1 e) : 0 ≤ cross d2 e := by
  obtain ⟨e1, e2⟩ := three_way d1 d2 e
  rw [hz, cross_anti d1 e] at e1 e2
  have x1 : cross d2 e * d1.x = cross d1 e * d2.x := by grind
  have x2 : cross d2 e * d1.y = cross d1 e * d2.y := by grind
  rcases Int.lt_or_le (cross d2 e) 0 with hc | hc
  · exfalso
    have a1 : 0 ≤ d1.x := by unfold Pos at h1; omega
    have a2 : 0 ≤ d2.x := by unfold Pos at h2; omega
    have m2 := Int.mul_nonneg h a2
    have hx1 : d1.x = 0 := by
      rcases Int.lt_or_le 0 d1.x with h3 | h3
      · have := Int.mul_neg_of_neg_of_pos hc h3; omega
      · omega
    have y1 : 0 < d1.y := by unfold Pos at h1; omega
    have c : cross d1 d2 = -(d1.y * d2.x) := by unfold cross; rw [hx1]; grind
    have hx2 : d2.x = 0 := by
      rcases Int.lt_or_le 0 d2.x with h3 | h3
      · have := Int.mul_pos y1 h3; omega
      · omega
    have y2 : 0 < d2.y := by unfold Pos at h2; omega
    have m3 := Int.mul_neg_of_neg_of_pos hc y1
    have m4 := Int.mul_nonneg h (Int.le_of_lt y2)
    omega
  · exact hc
theorem col0 {d x z : Pt} (h : Pos d) (h1 : cross d x = 0) (h2 : cross d z = 0) : cross x z = 0 := by
  obtain ⟨e1, e2⟩ := three_way d x z
  rw [h1, cross_anti d z, h2] at e1 e2
  have e1' : cross x z * d.x = 0 := by omega
  have e2' : cross x z * d.y = 0 := by omega
  unfold Pos at h
  rcases Int.mul_eq_zero.1 e1' with e1 | e1
  · exact e1
  · rcases Int.mul_eq_zero.1 e2' with e2 | e2
    · exact e2
    · omega
theorem cross_neg2 (u v : Pt) : cross u (ngt v) = - cross u v := by unfold cross ngt; grind
theorem mid_corner {X M Z U V : Pt} (hU : Less U M) (hV : Less M V) (hz : turn U M V = 0) (hc : 0 < turn X M Z) (u1 : 0 ≤ turn X M U) (v1 : 0 ≤ turn X M V) (u2 : 0 ≤ turn M Z U) (v2 : 0 ≤ turn M Z V) : False := by
  have p1 := less_pos.1 hU
  have p2 := less_pos.1 hV
  have e0 : cross (df U M) (df M V) = 0 := by rw [← hz]; unfold turn cross df; grind
  have e0' : cross (df M V) (df U M) = 0 := by rw [cross_anti, e0]; rfl
  have f1 : turn X M U = - cross (df X M) (df U M) := by unfold turn cross df; grind
  have f2 : turn X M V = cross (df X M) (df M V) := by unfold turn cross df; grind
  have f3 : turn M Z U = - cross (df M Z) (df U M) := by unfold turn cross df; grind
  have f4 : turn M Z V = cross (df M Z) (df M V) := by unfold turn cross df; grind
  have f5 : turn X M Z = cross (df X M) (df M Z) := by unfold turn cross df; grind
  have g : ∀ x : Pt, 0 ≤ cross x (df M V) → cross x (df U M) ≤ 0 → cross (df M V) x = 0 := fun x h1 h2 => by
    have a : 0 ≤ cross (df U M) x := by rw [cross_anti]; omega
    have b := par0 p1 p2 e0 a
    rw [cross_anti] at h1
    omega
  have z1 := g (df X M) (by omega) (by omega)
  have z2 := g (df M Z) (by omega) (by omega)
  have := col0 p2 z1 z2
  omega
structure Hull (n : Int) (P : Int → Pt) (Q : List Pt) : Prop where
  n3 : 3 ≤ n
  per : ∀ i, P (i + n) = P i
  left : ∀ i, 0 < turn (P i) (P (i + 1)) (P (i + 2))
  cov : ∀ i, ∀ q ∈ Q, 0 ≤ turn (P i) (P (i + 1)) q
  sub : ∀ i, P i ∈ Q
  inj : ∀ i j, 0 ≤ i → i < j → j < n → P i ≠ P j
section
variable {n : Int} {P : Int → Pt} {Q : List Pt}
theorem Hull.between (h : Hull n P Q) {t : Int} {U V : Pt} (hU : U ∈ Q) (hV : V ∈ Q) (h1 : Less U (P t)) (h2 : Less (P t) V) (hz : turn U (P t) V = 0) : False := by
  have l := h.left (t - 1)
  have c1 := h.cov (t - 1)
  have c2 := h.cov t
  rw [show t - 1 + 1 = t by omega, show t - 1 + 2 = t + 1 by omega] at l
  rw [show t - 1 + 1 = t by omega] at c1
  exact mid_corner h1 h2 hz l (c1 U hU) (c1 V hV) (c2 U hU) (c2 V hV)
theorem turn_p1 (a b c : Pt) : turn b c a = turn a b c := by unfold turn; grind
theorem turn_p2 (a b c : Pt) : turn b a c = - turn a b c := by unfold turn; grind
theorem turn_p3 (a b c : Pt) : turn a c b = - turn a b c := by unfold turn; grind
theorem Hull.strict (h : Hull n P Q) {i j : Int} (h1 : P j ≠ P i) (h2 : P j ≠ P (i + 1)) : 0 < turn (P i) (P (i + 1)) (P j) := by
  have h0 := h.cov i (P j) (h.sub j)
  rcases Int.lt_or_le 0 (turn (P i) (P (i + 1)) (P j)) with hp | hp
  · exact hp
  · exfalso
    have hz : turn (P i) (P (i + 1)) (P j) = 0 := by omega
    have hne : P i ≠ P (i + 1) := fun e => by
      have := h.left i
      rw [← e] at this
      unfold turn at this
      simp at this
    have tri : ∀ {a b : Pt}, a ≠ b → Less a b ∨ Less b a := fun {a b} hab => by
      by_cases l1 : Less a b
      · exact .inl l1
      · by_cases l2 : Less b a
        · exact .inr l2
        · exact absurd (not_less_eq l1 l2) hab
    have A := h.sub i
    have B := h.sub (i + 1)
    have C := h.sub j
    have z2 := turn_p1 (P i) (P (i + 1)) (P j)
    have z3 := turn_p2 (P i) (P (i + 1)) (P j)
    have z4 := turn_p3 (P i) (P (i + 1)) (P j)
    have z5 := turn_p1 (P (i + 1)) (P j) (P i)
    have z6 := turn_p2 (P j) (P (i + 1)) (P i)
    have z7 := turn_p1 (P i) (P j) (P (i + 1))
    have z8 := turn_p2 (P j) (P i) (P (i + 1))
    have z9 := turn_p2 (P (i + 1)) (P j) (P i)
    rcases tri hne with ab | ba <;> rcases tri h1 with ca | ac <;> rcases tri h2 with cb | bc
    · exact h.between C B ca ab (by omega)
    · exact absurd ((bc.trans ca).trans ab) (Less.irrefl _)
    · exact h.between A B ac cb (by omega)
    · exact h.between A C ab bc (by omega)
    · exact h.between C A cb ba (by omega)
    · exact h.between B A bc ca (by omega)
    · exact absurd ((ac.trans cb).trans ba) (Less.irrefl _)
    · exact h.between B C ba ac (by omega)
theorem Hull.mod (h : Hull n P Q) (i : Int) : P (i % n) = P i := by
  have up : ∀ (k : Nat) (x : Int), P (x + k * n) = P x := by
    intro k
    induction k with
    | zero => intro x; simp
    | succ k ih => intro x; rw [show x + ((k + 1 : Nat) : Int) * n = (x + k * n) + n by rw [Int.natCast_add, Int.add_mul]; simp; omega, h.per, ih]
  have n3 := h.n3
  rcases Int.le_total 0 (i / n) with hq | hq
  · have := up (i / n).toNat (i % n)
    rw [Int.toNat_of_nonneg hq, Int.mul_comm, Int.emod_add_mul_ediv] at this
    exact this.symm
  · have := up (-(i / n)).toNat i
    rw [Int.toNat_of_nonneg (by omega), Int.neg_mul, Int.mul_comm] at this
    rw [← this]; congr 1
    have := Int.emod_add_mul_ediv i n
    omega
theorem Hull.ne (h : Hull n P Q) {i j : Int} (h1 : i < j) (h2 : j < i + n) : P i ≠ P j := fun e => by
  have n3 := h.n3
  have a := Int.emod_nonneg i (b := n) (by omega)
  have b := Int.emod_lt_of_pos i (b := n) (by omega)
  have c := Int.emod_nonneg j (b := n) (by omega)
  have d := Int.emod_lt_of_pos j (b := n) (by omega)
  have ne : i % n ≠ j % n := fun e1 => by
    have := Int.emod_emod_of_dvd (j - i) (Int.dvd_refl n)
    have h3 : (j - i) % n = 0 := by rw [Int.sub_emod, e1]; simp
    have h4 : (j - i) % n = j - i := Int.emod_eq_of_lt (by omega) (by omega)
    omega
  rw [← h.mod i, ← h.mod j] at e
  rcases Int.lt_or_le (i % n) (j % n) with h3 | h3
  · exact h.inj _ _ a h3 d e
  · exact h.inj _ _ c (by omega) b e.symm
theorem Hull.conv (h : Hull n P Q) {i j : Int} (h1 : i + 2 ≤ j) (h2 : j ≤ i + n - 1) : 0 < turn (P i) (P (i + 1)) (P j) :=
  h.strict (fun e => h.ne (i := i) (j := j) (by omega) (by omega) e.symm) (fun e => h.ne (i := i + 1) (j := j) (by omega) (by omega) e.symm)
end
end Go.AM
namespace Go.AM
section
variable {l A B : List Pt} {k m : Nat}
theorem band_get (hA : A.length = k + 1) (hB : B.length = m + 1) (hm : 0 < m) (hk : 0 < k) (e1 : A.getLast? = B[0]?) (e2 : B.getLast? = A[0]?) :
    (A.dropLast ++ B.dropLast).length = k + m ∧ (∀ i : Nat, i ≤ k → A[i]? = some (pt (A.dropLast ++ B.dropLast) i)) ∧ (∀ j : Nat, j ≤ m → B[j]? = some (pt (A.dropLast ++ B.dropLast) ((k + j : Nat) : Int))) := by
  have hl : (A.dropLast ++ B.dropLast).length = k + m := by simp; omega
  have g : ∀ i : Nat, i < k + m → (A.dropLast ++ B.dropLast)[i]? = some (pt (A.dropLast ++ B.dropLast) i) := fun i hi => by
    unfold pt
    rw [hl, Int.emod_eq_of_lt (by omega) (by omega), Int.toNat_natCast, List.getD_eq_getElem?_getD, List.getElem?_eq_getElem (by omega)]
    simp
  have gA : ∀ i : Nat, i < k → A[i]? = some (pt (A.dropLast ++ B.dropLast) i) := fun i hi => by
    rw [← g i (by omega), List.getElem?_append_left (by simp; omega), List.getElem?_dropLast, if_pos (by omega)]
  have gB : ∀ j : Nat, j < m → B[j]? = some (pt (A.dropLast ++ B.dropLast) ((k + j : Nat) : Int)) := fun j hj => by
    rw [← g (k + j) (by omega), List.getElem?_append_right (by simp; omega), List.getElem?_dropLast, List.length_dropLast, hA, show k + j - (k + 1 - 1) = j by omega, if_pos (by omega)]
  refine ⟨hl, fun i hi => ?_, fun j hj => ?_⟩
  · rcases Nat.lt_or_ge i k with h | h
    · exact gA i h
    · obtain rfl : i = k := by omega
      rw [List.getLast?_eq_getElem?, hA, show i + 1 - 1 = i by omega] at e1
      rw [e1, gB 0 hm, Nat.add_zero]
  · rcases Nat.lt_or_ge j m with h | h
    · exact gB j h
    · obtain rfl : j = m := by omega
      rw [List.getLast?_eq_getElem?, hB, show j + 1 - 1 = j by omega] at e2
      rw [e2, gA 0 hk]
      congr 1
      unfold pt
      rw [hl]
      congr 2
      simp
theorem turn_three (Z a b c : Pt) : turn a b c = cross (df Z b) (df Z c) - cross (df Z b) (df Z a) - cross (df Z a) (df Z c) := by unfold turn cross df; grind
theorem all_col {Q : List Pt} {Z d : Pt} (hd : Pos d) (h : ∀ q ∈ Q, cross d (df Z q) = 0) {a b c : Pt} (ha : a ∈ Q) (hb : b ∈ Q) (hc : c ∈ Q) : turn a b c = 0 := by
  rw [turn_three Z, col0 hd (h b hb) (h c hc), col0 hd (h b hb) (h a ha), col0 hd (h a ha) (h c hc)]
  rfl
structure Sides (l A B : List Pt) (k m : Nat) : Prop where
  up : Side Less l A
  dn : Side (fun a b => Less b a) l B
  lA : A.length = k + 1
  lB : B.length = m + 1
  k0 : 0 < k
  m0 : 0 < m
  e1 : A.getLast? = B[0]?
  e2 : B.getLast? = A[0]?
theorem sides_of_rise {l : List Pt} (hl : 2 ≤ l.length) (hr : Rise l) : ∃ k m, Sides l (sideL l) (sideL l.reverse) k m := by
  have hn : l ≠ [] := by intro h; subst h; simp at hl
  obtain ⟨a1, a2, a3⟩ := side_ends hl
  obtain ⟨b1, b2, b3⟩ := side_ends (l := l.reverse) (by simpa using hl)
  refine ⟨(sideL l).length - 1, (sideL l.reverse).length - 1, side_up hn hr, side_down hn hr, by omega, by omega, by omega, by omega, ?_, ?_⟩
  · rw [a3, b2, ← List.head?_eq_getElem?, List.head?_reverse]
  · rw [b3, a2, ← List.head?_eq_getElem?, List.getLast?_reverse]
namespace Sides
variable (h : Sides l A B k m)
include h
omit h in
theorem len (h : Sides l A B k m) : (A.dropLast ++ B.dropLast).length = k + m := (band_get h.lA h.lB h.m0 h.k0 h.e1 h.e2).1
theorem gA (i : Nat) (hi : i ≤ k) : A[i]? = some (pt (A.dropLast ++ B.dropLast) i) := (band_get h.lA h.lB h.m0 h.k0 h.e1 h.e2).2.1 i hi
theorem gB (j : Nat) (hj : j ≤ m) : B[j]? = some (pt (A.dropLast ++ B.dropLast) ((k + j : Nat) : Int)) := (band_get h.lA h.lB h.m0 h.k0 h.e1 h.e2).2.2 j hj
theorem ptmod (i : Int) : pt (A.dropLast ++ B.dropLast) (i % ((k + m : Nat) : Int)) = pt (A.dropLast ++ B.dropLast) i := by
  unfold pt; rw [h.len, Int.emod_emod_of_dvd _ (Int.dvd_refl _)]
theorem edge (i : Nat) (hi : i < k + m) : (i < k ∧ A[i]? = some (pt (A.dropLast ++ B.dropLast) i) ∧ A[i + 1]? = some (pt (A.dropLast ++ B.dropLast) ((i + 1 : Nat) : Int))) ∨
    (k ≤ i ∧ B[i - k]? = some (pt (A.dropLast ++ B.dropLast) i) ∧ B[i - k + 1]? = some (pt (A.dropLast ++ B.dropLast) ((i + 1 : Nat) : Int))) := by
  rcases Nat.lt_or_ge i k with h1 | h1
  · exact .inl ⟨h1, h.gA i (by omega), h.gA (i + 1) (by omega)⟩
  · refine .inr ⟨h1, ?_, ?_⟩
    · have := h.gB (i - k) (by omega); rwa [show k + (i - k) = i by omega] at this
    · have := h.gB (i - k + 1) (by omega); rwa [show k + (i - k + 1) = i + 1 by omega] at this
theorem nat_of (f : Int → Prop) (hf : ∀ i : Nat, i < k + m → f i) (hp : ∀ i : Int, f (i % ((k + m : Nat) : Int)) → f i) (i : Int) : f i := by
  have hk := h.k0
  have a := Int.emod_nonneg i (b := ((k + m : Nat) : Int)) (by omega)
  have b := Int.emod_lt_of_pos i (b := ((k + m : Nat) : Int)) (by omega)
  have := hf (i % ((k + m : Nat) : Int)).toNat (by omega)
  rw [Int.toNat_of_nonneg a] at this
  exact hp i this
theorem ptmod1 (i c : Int) : pt (A.dropLast ++ B.dropLast) (i % ((k + m : Nat) : Int) + c) = pt (A.dropLast ++ B.dropLast) (i + c) := by
  rw [← h.ptmod, ← h.ptmod (i + c), Int.add_emod (i % _) c, Int.emod_emod_of_dvd _ (Int.dvd_refl _), ← Int.add_emod]
theorem cov (i : Int) : ∀ q ∈ l, 0 ≤ turn (pt (A.dropLast ++ B.dropLast) i) (pt (A.dropLast ++ B.dropLast) (i + 1)) q := by
  refine h.nat_of (fun i => ∀ q ∈ l, 0 ≤ turn (pt (A.dropLast ++ B.dropLast) i) (pt (A.dropLast ++ B.dropLast) (i + 1)) q) (fun i hi q hq => ?_) (fun i hi => ?_) i
  · rcases h.edge i hi with ⟨_, h2, h3⟩ | ⟨_, h2, h3⟩
    · exact h.up.cov _ _ _ h2 h3 q hq
    · exact h.dn.cov _ _ _ h2 h3 q hq
  · rw [h.ptmod1 i 1, h.ptmod] at hi; exact hi
theorem sub (i : Int) : pt (A.dropLast ++ B.dropLast) i ∈ l := by
  refine h.nat_of (fun i => pt (A.dropLast ++ B.dropLast) i ∈ l) (fun i hi => ?_) (fun i hi => by rwa [h.ptmod] at hi) i
  rcases h.edge i hi with ⟨_, h2, _⟩ | ⟨_, h2, _⟩
  · exact h.up.sub _ (List.mem_of_getElem? h2)
  · exact h.dn.sub _ (List.mem_of_getElem? h2)
theorem not_col (h3 : 3 ≤ k + m) {Z d : Pt} (hd : Pos d) (hc : ∀ q ∈ l, cross d (df Z q) = 0) : False := by
  rcases Nat.lt_or_ge k 2 with hk | hk
  · have hm : 2 ≤ m := by omega
    have c := h.dn.cvx 0 _ _ _ (h.gB 0 (by omega)) (h.gB 1 (by omega)) (h.gB 2 (by omega))
    rw [all_col hd hc (h.sub _) (h.sub _) (h.sub _)] at c
    omega
  · have c := h.up.cvx 0 _ _ _ (h.gA 0 (by omega)) (h.gA 1 (by omega)) (h.gA 2 (by omega))
    rw [all_col hd hc (h.sub _) (h.sub _) (h.sub _)] at c
    omega
theorem joint {U Z V : Pt} (h3 : 3 ≤ k + m) (c1 : ∀ q ∈ l, 0 ≤ turn U Z q) (c2 : ∀ q ∈ l, 0 ≤ turn Z V q) (hV : V ∈ l) (o : (Less U Z ∧ Less V Z) ∨ (Less Z U ∧ Less Z V)) : 0 < turn U Z V := by
  have h0 := c1 V hV
  rcases Int.lt_or_le 0 (turn U Z V) with hp | hp
  · exact hp
  · exfalso
    have hz : turn U Z V = 0 := by omega
    rcases o with ⟨o1, o2⟩ | ⟨o1, o2⟩
    · -- ways from both to Z
      have p1 := less_pos.1 o1
      have p2 := less_pos.1 o2
      have e0 : cross (df U Z) (df V Z) = 0 := by have : turn U Z V = - cross (df U Z) (df V Z) := by unfold turn cross df; grind
                                                  omega
      have e0' : cross (df V Z) (df U Z) = 0 := by rw [cross_anti, e0]; rfl
      refine h.not_col h3 (Z := Z) p1 fun q hq => ?_
      have f1 : turn U Z q = cross (df U Z) (df Z q) := by unfold turn cross df; grind
      have f2 : turn Z V q = - cross (df V Z) (df Z q) := by unfold turn cross df; grind
      have a1 := c1 q hq
      have a2 := c2 q hq
      have b1 := par0 p1 p2 e0 (show 0 ≤ cross (df U Z) (df Z q) by omega)
      have b2 : 0 ≤ cross (df V Z) (ngt (df Z q)) := by rw [cross_neg2]; omega
      have b3 := par0 p2 p1 e0' b2
      rw [cross_neg2] at b3
      omega
    · have p1 := less_pos.1 o1
      have p2 := less_pos.1 o2
      have e0 : cross (df Z U) (df Z V) = 0 := by have : turn U Z V = - cross (df Z U) (df Z V) := by unfold turn cross df; grind
                                                  omega
      have e0' : cross (df Z V) (df Z U) = 0 := by rw [cross_anti, e0]; rfl
      refine h.not_col h3 (Z := Z) p1 fun q hq => ?_
      have f1 : turn U Z q = - cross (df Z U) (df Z q) := by unfold turn cross df; grind
      have f2 : turn Z V q = cross (df Z V) (df Z q) := by unfold turn cross df; grind
      have a1 := c1 q hq
      have a2 := c2 q hq
      have b2 : 0 ≤ cross (df Z U) (ngt (df Z q)) := by rw [cross_neg2]; omega
      have b3 := par0 p2 p1 e0' (show 0 ≤ cross (df Z V) (df Z q) by omega)
      omega
theorem left (h3 : 3 ≤ k + m) (i : Int) : 0 < turn (pt (A.dropLast ++ B.dropLast) i) (pt (A.dropLast ++ B.dropLast) (i + 1)) (pt (A.dropLast ++ B.dropLast) (i + 2)) := by
  refine h.nat_of (fun i => 0 < turn (pt (A.dropLast ++ B.dropLast) i) (pt (A.dropLast ++ B.dropLast) (i + 1)) (pt (A.dropLast ++ B.dropLast) (i + 2))) (fun i hi => ?_) (fun i hi => ?_) i
  · have k0 := h.k0
    have m0 := h.m0
    have cv := h.cov
    rcases Nat.lt_or_ge (i + 1) k with h1 | h1
    · exact h.up.cvx i _ _ _ (h.gA i (by omega)) (h.gA (i + 1) (by omega)) (h.gA (i + 2) (by omega))
    · rcases Nat.lt_or_ge i k with h2 | h2
      · -- the last line up, the first one down
        have c1 := cv i
        have c2 := cv (i + 1)
        rw [show (i : Int) + 1 + 1 = i + 2 by omega] at c2
        refine h.joint h3 c1 c2 (h.sub _) (.inl ⟨?_, ?_⟩)
        · exact h.up.ord i _ _ (h.gA i (by omega)) (h.gA (i + 1) (by omega))
        · have q1 := h.gB 0 (by omega)
          have q2 := h.gB 1 (by omega)
          have := h.dn.ord 0 _ _ q1 q2
          rw [show ((k + 0 : Nat) : Int) = i + 1 by omega, show ((k + 1 : Nat) : Int) = i + 2 by omega] at this
          exact this
      · rcases Nat.lt_or_ge (i + 1) (k + m) with h4 | h4
        · have q0 := h.gB (i - k) (by omega)
          have q1 := h.gB (i - k + 1) (by omega)
          have q2 := h.gB (i - k + 2) (by omega)
          have := h.dn.cvx (i - k) _ _ _ q0 q1 q2
          rw [show ((k + (i - k) : Nat) : Int) = i by omega, show ((k + (i - k + 1) : Nat) : Int) = i + 1 by omega, show ((k + (i - k + 2) : Nat) : Int) = i + 2 by omega] at this
          exact this
        · have c1 := cv i
          have c2 := cv (i + 1)
          rw [show (i : Int) + 1 + 1 = i + 2 by omega] at c2
          have e1 : pt (A.dropLast ++ B.dropLast) ((i : Int) + 1) = pt (A.dropLast ++ B.dropLast) 0 := by
            rw [← h.ptmod, show (i : Int) + 1 = ((k + m : Nat) : Int) by omega]; simp
          have e2 : pt (A.dropLast ++ B.dropLast) ((i : Int) + 2) = pt (A.dropLast ++ B.dropLast) 1 := by
            rw [← h.ptmod, show (i : Int) + 2 = 1 + ((k + m : Nat) : Int) by omega, Int.add_emod_right, h.ptmod]
          refine h.joint h3 c1 c2 (h.sub _) (.inr ⟨?_, ?_⟩)
          · have := h.dn.ord (m - 1) _ _ (h.gB (m - 1) (by omega)) (h.gB (m - 1 + 1) (by omega))
            rw [show ((k + (m - 1) : Nat) : Int) = i by omega, show ((k + (m - 1 + 1) : Nat) : Int) = i + 1 by omega] at this
            exact this
          · rw [e1, e2]
            exact h.up.ord 0 _ _ (h.gA 0 (by omega)) (h.gA 1 (by omega))
  · rw [h.ptmod1 i 1, h.ptmod1 i 2, h.ptmod] at hi; exact hi
end Sides
end
end Go.AM
namespace Go.AM
namespace Sides
section
variable {l A B : List Pt} {k m : Nat} (h : Sides l A B k m)
include h
theorem upLess : ∀ (d i : Nat), i + d + 1 ≤ k → Less (pt (A.dropLast ++ B.dropLast) i) (pt (A.dropLast ++ B.dropLast) ((i + d + 1 : Nat) : Int))
  | 0, i, hi => h.up.ord i _ _ (h.gA i (by omega)) (h.gA (i + 1) (by omega))
  | d + 1, i, hi => (upLess d i (by omega)).trans (h.up.ord (i + d + 1) _ _ (h.gA _ (by omega)) (h.gA (i + (d + 1) + 1) (by omega)))
theorem dnLess : ∀ (d j : Nat), j + d + 1 ≤ m → Less (pt (A.dropLast ++ B.dropLast) ((k + (j + d + 1) : Nat) : Int)) (pt (A.dropLast ++ B.dropLast) ((k + j : Nat) : Int))
  | 0, j, hj => h.dn.ord j _ _ (h.gB j (by omega)) (h.gB (j + 1) (by omega))
  | d + 1, j, hj => (h.dn.ord (j + d + 1) _ _ (h.gB _ (by omega)) (h.gB (j + (d + 1) + 1) (by omega))).trans (dnLess d j (by omega))
theorem apart2 {i j : Nat} (h1 : i < j) (h2 : j < k + m) : pt (A.dropLast ++ B.dropLast) i ≠ pt (A.dropLast ++ B.dropLast) j := fun e => by
  rcases Nat.lt_or_ge k j with hj | hj
  · rcases Nat.lt_or_ge i k with hi | hi
    · rcases Nat.eq_zero_or_pos i with h0 | h0
      · -- the first one comes before all
        subst h0
        have a := h.dnLess (m - (j - k) - 1) (j - k) (by omega)
        rw [show k + (j - k + (m - (j - k) - 1) + 1) = k + m by omega, show k + (j - k) = j by omega] at a
        have e1 : pt (A.dropLast ++ B.dropLast) ((k + m : Nat) : Int) = pt (A.dropLast ++ B.dropLast) ((0 : Nat) : Int) := by
          rw [← h.ptmod]; simp
        rw [e1, e] at a
        exact Less.irrefl _ a
      · -- a corner within both sides
        have u1 : Less (pt (A.dropLast ++ B.dropLast) ((i - 1 : Nat) : Int)) (pt (A.dropLast ++ B.dropLast) i) := by
          have := h.upLess 0 (i - 1) (by omega); rwa [show i - 1 + 0 + 1 = i by omega] at this
        have u2 : Less (pt (A.dropLast ++ B.dropLast) i) (pt (A.dropLast ++ B.dropLast) ((i + 1 : Nat) : Int)) := h.upLess 0 i (by omega)
        have w1 : Less (pt (A.dropLast ++ B.dropLast) i) (pt (A.dropLast ++ B.dropLast) ((j - 1 : Nat) : Int)) := by
          have := h.dnLess 0 (j - 1 - k) (by omega)
          rw [show k + (j - 1 - k + 0 + 1) = j by omega, show k + (j - 1 - k) = j - 1 by omega, ← e] at this
          exact this
        have lf : 0 < turn (pt (A.dropLast ++ B.dropLast) ((i - 1 : Nat) : Int)) (pt (A.dropLast ++ B.dropLast) i) (pt (A.dropLast ++ B.dropLast) ((i + 1 : Nat) : Int)) :=
          h.up.cvx (i - 1) _ _ _ (h.gA (i - 1) (by omega)) (by have := h.gA i (by omega); rwa [show i - 1 + 1 = i by omega]) (by have := h.gA (i + 1) (by omega); rwa [show i - 1 + 2 = i + 1 by omega])
        have c1 := h.cov i (pt (A.dropLast ++ B.dropLast) ((j - 1 : Nat) : Int)) (h.sub _)
        have c2 := h.cov ((j - 1 : Nat) : Int) (pt (A.dropLast ++ B.dropLast) ((i - 1 : Nat) : Int)) (h.sub _)
        rw [show (((j - 1 : Nat) : Int) + 1) = (j : Int) by omega, ← e] at c2
        rw [show ((i : Int) + 1) = ((i + 1 : Nat) : Int) by omega] at c1
        revert u1 u2 w1 lf c1 c2
        generalize pt (A.dropLast ++ B.dropLast) ((i - 1 : Nat) : Int) = X
        generalize pt (A.dropLast ++ B.dropLast) (i : Int) = M
        generalize pt (A.dropLast ++ B.dropLast) ((i + 1 : Nat) : Int) = Y
        generalize pt (A.dropLast ++ B.dropLast) ((j - 1 : Nat) : Int) = W
        intro u1 u2 w1 lf c1 c2
        have f1 : turn X M Y = cross (df X M) (df M Y) := by unfold turn cross df; grind
        have f2 : turn M Y W = cross (df M Y) (df M W) := by unfold turn cross df; grind
        have f3 : turn W M X = - cross (df X M) (df M W) := by unfold turn cross df; grind
        have := tp1 (less_pos.1 u1) (less_pos.1 u2) (less_pos.1 w1) (by omega) (show 0 ≤ cross (df M Y) (df M W) by omega)
        omega
    · have a := h.dnLess (j - i - 1) (i - k) (by omega)
      rw [show k + (i - k + (j - i - 1) + 1) = j by omega, show k + (i - k) = i by omega, e] at a
      exact Less.irrefl _ a
  · have a := h.upLess (j - i - 1) i (by omega)
    rw [show i + (j - i - 1) + 1 = j by omega, e] at a
    exact Less.irrefl _ a
theorem hull (h3 : 3 ≤ k + m) : Hull ((k + m : Nat) : Int) (pt (A.dropLast ++ B.dropLast)) l where
  n3 := by omega
  per i := by rw [← h.ptmod, Int.add_emod_right, h.ptmod]
  left := h.left h3
  cov := h.cov
  sub := h.sub
  inj i j h0 h1 h2 := by
    have := h.apart2 (i := i.toNat) (j := j.toNat) (by omega) (by omega)
    rwa [Int.toNat_of_nonneg h0, Int.toNat_of_nonneg (by omega)] at this
end
end Sides
theorem band_hull {l : List Pt} (hr : Rise l) (hn : l ≠ []) : (l.length = 1 ∧ bandL l = l) ∨ (2 ≤ l.length ∧ (bandL l).length = 2) ∨ (3 ≤ (bandL l).length ∧ Hull ((bandL l).length : Int) (pt (bandL l)) l) := by
  have hpos := List.length_pos_iff.2 hn
  rcases Nat.lt_or_ge l.length 2 with h1 | h1
  · exact .inl ⟨by omega, by unfold bandL; rw [if_pos (by omega)]⟩
  · right
    obtain ⟨k, m, h⟩ := sides_of_rise h1 hr
    have e : bandL l = (sideL l).dropLast ++ (sideL l.reverse).dropLast := by unfold bandL; rw [if_neg (by omega)]
    have hl := h.len
    have k0 := h.k0
    have m0 := h.m0
    rw [e, hl]
    rcases Nat.lt_or_ge (k + m) 3 with h3 | h3
    · exact .inl ⟨h1, by omega⟩
    · exact .inr ⟨h3, h.hull h3⟩
theorem band_mem {l : List Pt} (hr : Rise l) (hn : l ≠ []) : bandL l ≠ [] ∧ ∀ x ∈ bandL l, x ∈ l := by
  have hpos := List.length_pos_iff.2 hn
  rcases Nat.lt_or_ge l.length 2 with h1 | h1
  · have e : bandL l = l := by unfold bandL; rw [if_pos (by omega)]
    rw [e]; exact ⟨hn, fun x h => h⟩
  · obtain ⟨k, m, h⟩ := sides_of_rise h1 hr
    have e : bandL l = (sideL l).dropLast ++ (sideL l.reverse).dropLast := by unfold bandL; rw [if_neg (by omega)]
    rw [e]
    refine ⟨fun e => ?_, fun x hx => ?_⟩
    · have := h.len; rw [e] at this; have := h.k0; simp at *; omega
    · rcases List.mem_append.1 hx with hx | hx
      · exact h.up.sub x ((List.dropLast_sublist _).subset hx)
      · exact h.dn.sub x ((List.dropLast_sublist _).subset hx)
end Go.AM
namespace Go.AM
theorem Hull.lp {n : Int} {P : Int → Pt} {Q : List Pt} (h : Hull n P Q) : LP n P where
  n3 := h.n3
  per := h.per
  left := h.left
  apart i k h1 h2 := by
    have c1 := h.conv (i := i) (j := k) (by omega) (by omega)
    have c2 := h.conv (i := i) (j := k + 1) (by omega) (by omega)
    have c3 := h.conv (i := k) (j := i + n) (by omega) (by omega)
    have c4 := h.conv (i := k) (j := i + 1 + n) (by omega) (by omega)
    rw [h.per] at c3 c4
    unfold Meet OnL
    rintro (m | m | m | m | m)
    · have := m.1; omega
    · have := m.1; omega
    · have := m.1; omega
    · have := m.1; omega
    · have s1 : sg (turn (P i) (P (i + 1)) (P k)) = 1 := by unfold sg; rw [if_pos c1]
      have s2 : sg (turn (P i) (P (i + 1)) (P (k + 1))) = 1 := by unfold sg; rw [if_pos c2]
      rw [s1, s2] at m
      have := m.1; omega
theorem on_nonneg {U V A B q : Pt} (hA : 0 ≤ turn U V A) (hB : 0 ≤ turn U V B) (h : OnL A B q) (hne : A ≠ B) : 0 ≤ turn U V q := by
  obtain ⟨hz, hx, hy⟩ := h
  have ex : (B.x - A.x) * turn U V q = (B.x - q.x) * turn U V A + (q.x - A.x) * turn U V B + (V.x - U.x) * turn A B q := by unfold turn; grind
  have ey : (B.y - A.y) * turn U V q = (B.y - q.y) * turn U V A + (q.y - A.y) * turn U V B + (V.y - U.y) * turn A B q := by unfold turn; grind
  rw [hz] at ex ey
  simp only [Int.mul_zero, Int.add_zero] at ex ey
  have key : ∀ a b c t s r : Int, (b - a) * r = (b - c) * t + (c - a) * s → (a - c) * (b - c) ≤ 0 → 0 ≤ t → 0 ≤ s → a ≠ b → 0 ≤ r := by
    intro a b c t s r e h h1 h2 hab
    rw [mul_le0] at h
    rcases Int.lt_or_gt_of_ne hab with hl | hl
    · have m1 := Int.mul_nonneg (show 0 ≤ b - c by omega) h1
      have m2 := Int.mul_nonneg (show 0 ≤ c - a by omega) h2
      rcases Int.lt_or_le r 0 with hr | hr
      · have := Int.mul_neg_of_pos_of_neg (show 0 < b - a by omega) hr; omega
      · exact hr
    · have m1 := Int.mul_nonneg (show 0 ≤ c - b by omega) h1
      have m2 := Int.mul_nonneg (show 0 ≤ a - c by omega) h2
      have e' : (a - b) * r = (c - b) * t + (a - c) * s := by grind
      rcases Int.lt_or_le r 0 with hr | hr
      · have := Int.mul_neg_of_pos_of_neg (show 0 < a - b by omega) hr; omega
      · exact hr
  by_cases hx0 : A.x = B.x
  · have hy0 : A.y ≠ B.y := fun e => hne (by cases A; cases B; simp_all)
    exact key _ _ _ _ _ _ ey hy hA hB hy0
  · exact key _ _ _ _ _ _ ex hx hA hB hx0
section
variable {n : Int} {P : Int → Pt}
theorem LP.gen (h : LP n P) (i j : Int) : 0 ≤ turn (P i) (P (i + 1)) (P j) := by
  have n3 := h.n3
  have md : ∀ i, P (i % n) = P i := fun i => by
    have := h.mul i (-(i / n))
    rw [← this]; congr 1
    have := Int.emod_add_mul_ediv i n
    have e : -(i / n) * n = -(n * (i / n)) := by grind
    omega
  have md1 : ∀ i, P (i % n + 1) = P (i + 1) := fun i => by
    have := h.mul (i + 1) (-(i / n))
    rw [← this]; congr 1
    have := Int.emod_add_mul_ediv i n
    have e : -(i / n) * n = -(n * (i / n)) := by grind
    omega
  rw [← md i, ← md j, ← md1 i]
  exact (h.ge _ _ (Int.emod_nonneg _ (by omega)) (Int.emod_lt_of_pos _ (by omega)) (Int.emod_nonneg _ (by omega)) (Int.emod_lt_of_pos _ (by omega))).1
theorem LP.onEdge (h : LP n P) {i : Int} {q : Pt} (ha : ∀ i, 0 ≤ turn (P i) (P (i + 1)) q) (hz : turn (P i) (P (i + 1)) q = 0) : OnL (P i) (P (i + 1)) q := by
  have a1 := ha (i - 1)
  have a2 := ha (i + 1)
  have l1 := h.left (i - 1)
  have l2 := h.left i
  rw [show i - 1 + 1 = i by omega, show i - 1 + 2 = i + 1 by omega] at l1
  rw [show i - 1 + 1 = i by omega] at a1
  rw [show i + 1 + 1 = i + 2 by omega] at a2
  revert a1 a2 l1 l2 hz
  generalize P (i - 1) = Z
  generalize P i = A
  generalize P (i + 1) = B
  generalize P (i + 2) = C
  intro hz a1 a2 l1 l2
  have e1 : ∀ s t : Int, turn Z A B * s = turn Z A q * t → 0 ≤ turn Z A q := fun _ _ _ => a1
  have x1 : turn Z A B * (q.x - A.x) = turn Z A q * (B.x - A.x) - (A.x - Z.x) * turn A B q := by unfold turn; grind
  have y1 : turn Z A B * (q.y - A.y) = turn Z A q * (B.y - A.y) - (A.y - Z.y) * turn A B q := by unfold turn; grind
  have x2 : turn A B C * (q.x - B.x) = turn B C q * (A.x - B.x) + (C.x - B.x) * turn A B q := by unfold turn; grind
  have y2 : turn A B C * (q.y - B.y) = turn B C q * (A.y - B.y) + (C.y - B.y) * turn A B q := by unfold turn; grind
  rw [hz] at x1 y1 x2 y2
  simp only [Int.mul_zero, Int.add_zero, Int.sub_zero] at x1 y1 x2 y2
  have key : ∀ c d c' d' a b p : Int, 0 < c → 0 < d → 0 ≤ c' → 0 ≤ d' → c * (p - a) = c' * (b - a) → d * (p - b) = d' * (a - b) → (a - p) * (b - p) ≤ 0 := by
    intro c d c' d' a b p hc hd hc' hd' e1 e2
    rw [mul_le0]
    rcases Int.lt_trichotomy a b with hl | hl | hl
    · have m1 := Int.mul_nonneg hc' (show 0 ≤ b - a by omega)
      have m2 := Int.mul_nonneg hd' (show 0 ≤ b - a by omega)
      have f1 : 0 ≤ p - a := by
        rcases Int.lt_or_le (p - a) 0 with hr | hr
        · have := Int.mul_neg_of_pos_of_neg hc hr; omega
        · exact hr
      have e3 : d * (b - p) = d' * (b - a) := by grind
      have f2 : 0 ≤ b - p := by
        rcases Int.lt_or_le (b - p) 0 with hr | hr
        · have := Int.mul_neg_of_pos_of_neg hd hr; omega
        · exact hr
      omega
    · subst hl
      have e3 : c * (p - a) = 0 := by rw [e1]; simp
      have := (Int.mul_eq_zero.1 e3)
      omega
    · have m1 := Int.mul_nonneg hc' (show 0 ≤ a - b by omega)
      have m2 := Int.mul_nonneg hd' (show 0 ≤ a - b by omega)
      have e3 : c * (a - p) = c' * (a - b) := by grind
      have f1 : 0 ≤ a - p := by
        rcases Int.lt_or_le (a - p) 0 with hr | hr
        · have := Int.mul_neg_of_pos_of_neg hc hr; omega
        · exact hr
      have f2 : 0 ≤ p - b := by
        rcases Int.lt_or_le (p - b) 0 with hr | hr
        · have := Int.mul_neg_of_pos_of_neg hd hr; omega
        · exact hr
      omega
  exact ⟨hz, key _ _ _ _ _ _ _ l1 l2 a1 a2 x1 x2, key _ _ _ _ _ _ _ l1 l2 a1 a2 y1 y2⟩
theorem argmax (f : Int → Int) : ∀ k : Nat, ∃ t : Int, 0 ≤ t ∧ t ≤ k ∧ ∀ j : Int, 0 ≤ j → j ≤ k → f j ≤ f t
  | 0 => ⟨0, by omega, by omega, fun j h1 h2 => by rw [show j = 0 by omega]; omega⟩
  | k + 1 => by
    obtain ⟨t, h0, h1, h2⟩ := argmax f k
    rcases Int.lt_or_le (f t) (f (k + 1)) with h | h
    · refine ⟨k + 1, by omega, by omega, fun j j0 j1 => ?_⟩
      rcases Int.lt_or_le k j with h3 | h3
      · rw [show j = (k : Int) + 1 by omega]; omega
      · have := h2 j j0 h3; omega
    · refine ⟨t, h0, by omega, fun j j0 j1 => ?_⟩
      rcases Int.lt_or_le k j with h3 | h3
      · rw [show j = (k : Int) + 1 by omega]; omega
      · exact h2 j j0 h3
theorem top_out {A M B q : Pt} (h1 : 0 < turn A M q) (h2 : 0 < turn M B q) (h3 : 0 < turn A M B) (hA : A.y ≤ M.y) (hB : B.y ≤ M.y) : q.y < M.y := by
  have e : turn A M B * (q.y - M.y) = - (turn M B q * (M.y - A.y)) - turn A M q * (M.y - B.y) := by unfold turn; grind
  have m1 := Int.mul_nonneg (Int.le_of_lt h2) (show 0 ≤ M.y - A.y by omega)
  have m2 := Int.mul_nonneg (Int.le_of_lt h1) (show 0 ≤ M.y - B.y by omega)
  rcases Int.lt_or_le (q.y - M.y) 0 with h | h
  · omega
  · exfalso
    have m3 := Int.mul_nonneg (Int.le_of_lt h3) h
    have z1 : turn M B q * (M.y - A.y) = 0 := by omega
    have z2 : turn A M q * (M.y - B.y) = 0 := by omega
    have a1 : M.y - A.y = 0 := by rcases Int.mul_eq_zero.1 z1 with h | h <;> omega
    have a2 : M.y - B.y = 0 := by rcases Int.mul_eq_zero.1 z2 with h | h <;> omega
    have : turn A M B = 0 := by
      have e1 : A.y = M.y := by omega
      have e2 : B.y = M.y := by omega
      unfold turn; rw [e1, e2]; simp
    omega
theorem bot_out {A M B q : Pt} (h1 : 0 < turn A M q) (h2 : 0 < turn M B q) (h3 : 0 < turn A M B) (hA : M.y ≤ A.y) (hB : M.y ≤ B.y) : M.y ≤ q.y := by
  have e : turn A M B * (q.y - M.y) = turn M B q * (A.y - M.y) + turn A M q * (B.y - M.y) := by unfold turn; grind
  have m1 := Int.mul_nonneg (Int.le_of_lt h2) (show 0 ≤ A.y - M.y by omega)
  have m2 := Int.mul_nonneg (Int.le_of_lt h1) (show 0 ≤ B.y - M.y by omega)
  rcases Int.lt_or_le (q.y - M.y) 0 with h | h
  · have := Int.mul_neg_of_pos_of_neg h3 h; omega
  · omega
theorem LP.upEx (h : LP n P) {q : Pt} (ha : ∀ i, 0 < turn (P i) (P (i + 1)) q) : ∃ u, 0 ≤ u ∧ u < n ∧ Up (P u) (P (u + 1)) q.y := by
  have n3 := h.n3
  have md : ∀ i, P (i % n) = P i := fun i => by
    have := h.mul i (-(i / n))
    rw [← this]; congr 1
    have := Int.emod_add_mul_ediv i n
    have e : -(i / n) * n = -(n * (i / n)) := by grind
    omega
  have all : ∀ (f : Int → Int) (t : Int), (∀ j : Int, 0 ≤ j → j ≤ ((n - 1).toNat : Int) → f j ≤ t) → (∀ j, f (j % n) = f j) → ∀ j, f j ≤ t := fun f t hh hp j => by
    rw [← hp]
    exact hh _ (Int.emod_nonneg _ (by omega)) (by have := Int.emod_lt_of_pos j (b := n) (by omega); omega)
  by_cases hu : ∃ u, 0 ≤ u ∧ u < n ∧ Up (P u) (P (u + 1)) q.y
  · exact hu
  · exfalso
    have hd : ¬ ∃ d, 0 ≤ d ∧ d < n ∧ Dn (P d) (P (d + 1)) q.y := fun ⟨d, d0, d1, hd⟩ => hu (dn_has_up h d0 d1 hd)
    obtain ⟨t, t0, t1, ht⟩ := argmax (fun i => (P i).y) (n - 1).toNat
    obtain ⟨s, s0, s1, hs⟩ := argmax (fun i => -(P i).y) (n - 1).toNat
    have htop := all (fun i => (P i).y) _ ht (fun j => by simp only [md])
    have hbot := all (fun i => -(P i).y) _ hs (fun j => by simp only [md])
    have b1 : q.y < (P t).y := by
      have a1 := ha (t - 1)
      have l := h.left (t - 1)
      rw [show t - 1 + 1 = t by omega, show t - 1 + 2 = t + 1 by omega] at l
      rw [show t - 1 + 1 = t by omega] at a1
      exact top_out a1 (ha t) l (htop _) (htop _)
    have b2 : (P s).y ≤ q.y := by
      have a1 := ha (s - 1)
      have l := h.left (s - 1)
      rw [show s - 1 + 1 = s by omega, show s - 1 + 2 = s + 1 by omega] at l
      rw [show s - 1 + 1 = s by omega] at a1
      have c1 := hbot (s - 1)
      have c2 := hbot (s + 1)
      exact bot_out a1 (ha s) l (by omega) (by omega)
    have e : ∀ k : Nat, (k : Int) ≤ n → (if q.y < (P k).y then (1 : Int) else 0) = if q.y < (P 0).y then 1 else 0 := fun k hk => by
      have := up_dn P q.y k
      rw [sm_zero fun i i0 i1 => by
        rw [if_neg (fun hh => hu ⟨i, i0, by omega, hh⟩), if_neg (fun hh => hd ⟨i, i0, by omega, hh⟩)]; rfl] at this
      omega
    have e1 := e t.toNat (by omega)
    have e2 := e s.toNat (by omega)
    rw [Int.toNat_of_nonneg t0, if_pos b1] at e1
    rw [Int.toNat_of_nonneg s0, if_neg (by omega)] at e2
    omega
end
theorem xr_one {t : Int → Bool} {u : Int} (u0 : 0 ≤ u) (hu : t u = true) : ∀ {k : Nat}, u < k → (∀ i : Int, 0 ≤ i → i < k → i ≠ u → t i = false) → xr t k = true := by
  intro k hk ho
  induction k with
  | zero => omega
  | succ k ih =>
    simp only [xr]
    by_cases e : (k : Int) = u
    · have z : xr t k = false := xr_zero fun i i0 i1 => ho i i0 (by omega) (by omega)
      rw [z, e, hu]; rfl
    · rw [ih (by omega) fun i i0 i1 i2 => ho i i0 (by omega) i2, ho k (by omega) (by omega) e]; rfl
theorem in_iff {a : List Pt} {q : Pt} (h : LP a.length (pt a)) : 0 ≤ wh a q ↔ ∀ i, 0 ≤ turn (pt a i) (pt a (i + 1)) q := by
  have n3 := h.n3
  have md : ∀ i c, pt a (i % (a.length : Int) + c) = pt a (i + c) := fun i c => pt_congr (by rw [Int.add_emod (i % _) c, Int.emod_emod_of_dvd _ (Int.dvd_refl _), ← Int.add_emod])
  have md0 : ∀ i, pt a (i % (a.length : Int)) = pt a i := fun i => by have := md i 0; simpa using this
  have red : ∀ (f : Int → Prop), (∀ i, f (i % (a.length : Int)) → f i) → (∀ i, 0 ≤ i → i < (a.length : Int) → f i) → ∀ i, f i := fun f h1 h2 i => h1 i (h2 _ (Int.emod_nonneg _ (by omega)) (Int.emod_lt_of_pos _ (by omega)))
  unfold wh
  by_cases hr : Rim a q
  · rw [if_pos hr]
    refine ⟨fun _ i => ?_, fun _ => by omega⟩
    obtain ⟨j, j0, j1, ho⟩ := hr
    refine on_nonneg (h.gen i j) (h.gen i (j + 1)) ho fun e => ?_
    have := h.left j
    rw [← e] at this
    unfold turn at this
    simp at this
  · rw [if_neg hr]
    by_cases hp : par a q 0 a.length = true
    · rw [if_pos hp]
      refine ⟨fun _ => ?_, fun _ => by omega⟩
      refine red (fun i => 0 ≤ turn (pt a i) (pt a (i + 1)) q) (fun i hi => ?_) fun i i0 i1 => Int.le_of_lt (inside_left h hr hp i0 i1)
      rw [md i 1, md0] at hi
      exact hi
    · rw [if_neg hp]
      refine ⟨fun h => by omega, fun ha => ?_⟩
      exfalso
      have hpos : ∀ i, 0 < turn (pt a i) (pt a (i + 1)) q := by
        refine red (fun i => 0 < turn (pt a i) (pt a (i + 1)) q) (fun i hi => by rw [md i 1, md0] at hi; exact hi) fun i i0 i1 => ?_
        rcases Int.lt_or_le 0 (turn (pt a i) (pt a (i + 1)) q) with h1 | h1
        · exact h1
        · have := ha i
          exact absurd ⟨i, i0, i1, h.onEdge ha (by omega)⟩ hr
      obtain ⟨u, u0, u1, hu⟩ := h.upEx hpos
      refine hp ?_
      rw [par_xr]
      refine xr_one (u := u) u0 ?_ u1 fun i i0 i1 hne => ?_
      · have := hpos u
        simp only [Int.zero_add]
        unfold tg
        unfold Up at hu
        rw [decide_eq_true_eq]
        exact .inl ⟨hu.1, hu.2, this⟩
      · have := hpos i
        simp only [Int.zero_add]
        unfold tg
        rw [decide_eq_false_iff_not]
        rintro (⟨h1, h2, _⟩ | ⟨_, _, h3⟩)
        · exact hne (up_once h i0 i1 u0 u1 ⟨h1, h2⟩ hu)
        · omega
end Go.AM
namespace Go.AM
theorem cmp_valL {L : Nat} {p q : Pt} (hL : 5 < L) : impl_comparePegs L p.x p.y q.x q.y = some (ordP p q) := by
  unfold impl_comparePegs cmp_Or_int
  simp only [gbind_eq, cmp_eq, Option.bind_some]
  obtain ⟨m, rfl⟩ : ∃ m, L = m + 3 := ⟨L - 3, by omega⟩
  have hl : ilen (List.map eI [cmpI p.x q.x, cmpI p.y q.y]) = 2 := by rw [ilen_eq]; rfl
  have g0 : lget [cmpI p.x q.x, cmpI p.y q.y] 0 = some (cmpI p.x q.x) := by rw [lget_eq]; rfl
  have g1 : lget [cmpI p.x q.x, cmpI p.y q.y] 1 = some (cmpI p.y q.y) := by rw [lget_eq]; rfl
  have w1 : wr .i64 (0 + 1) = 1 := wr_id (by decide)
  have w2 : wr .i64 (1 + 1) = 2 := wr_id (by decide)
  simp only [cmp_Or_int_l0, hl, ilt_eq, gbind_eq, g0, g1, iadd_eq, w1, w2, ieq_eq, Option.bind_some, show ((0 : Int) < 2) = True by simp, show ((1 : Int) < 2) = True by simp, show ((2 : Int) < 2) = False by simp, decide_true, decide_false, cond_true, cond_false]
  unfold cmpI ordP
  by_cases h1 : p.x < q.x
  · simp [h1]
  · by_cases h2 : q.x < p.x
    · simp [h1, h2]
    · have e : p.x = q.x := by omega
      by_cases h3 : p.y < q.y
      · simp [h1, h2, h3]
      · by_cases h4 : q.y < p.y
        · simp [h1, h2, h3, h4]
        · simp [h1, h2, h3, h4]
theorem cmp_val (p q : Pt) : impl_comparePegs 10 p.x p.y q.x q.y = some (ordP p q) := cmp_valL (by omega)
end Go.AM
namespace Go.AM
open Go.Proofs Go.Sort
theorem srt_isort (l : List Pt) : srt ordP l = isort l := by
  have hp : (srt ordP l).Perm l := List.mergeSort_perm _ _
  refine ord_one ?_ (isort_ord l) (hp.trans (isort_perm l).symm)
  have h := List.pairwise_mergeSort (le := fun x y => !(ltOf ordP y x)) (fun a b c h1 h2 => by
    simp only [ltOf_ordP, Bool.not_eq_true', decide_eq_false_iff_not] at *; omega) (fun a b => by
    simp only [ltOf_ordP, Bool.or_eq_true, Bool.not_eq_true', decide_eq_false_iff_not]; omega) l
  exact h.imp fun {a b} h => by
    simp only [ltOf_ordP, Bool.not_eq_true', decide_eq_false_iff_not] at h
    unfold Less
    omega
theorem sortP_eq {a : List Pt} (h : (a.length : Int) ≤ 1000000000) : sortP a = some (isort a) := by
  unfold sortP
  rw [if_pos (by omega), srt_isort]
end Go.AM
namespace Go.AM
structure Diff (a : List Pt) : Prop where
  lo : 1 ≤ (a.length : Int)
  hi : (a.length : Int) ≤ 30
  isIn : ∀ i, 0 ≤ i → i < (a.length : Int) → In (pt a i)
  ne : ∀ i k, 0 ≤ k → k < i → i < (a.length : Int) → pt a k ≠ pt a i
theorem Diff.nn {a : List Pt} (h : Diff a) : a ≠ [] := fun e => by have := h.lo; subst e; simp at this
theorem Diff.nodup {a : List Pt} (h : Diff a) : a.Nodup := by
  rw [List.nodup_iff_pairwise_ne, List.pairwise_iff_getElem]
  intro i j hi hj hij e
  have := h.ne j i (by omega) (by omega) (by omega)
  refine this ?_
  have p1 := pt_get (a := a) (i := (i : Int)) (by omega) (by omega)
  have p2 := pt_get (a := a) (i := (j : Int)) (by omega) (by omega)
  rw [Int.toNat_natCast, List.getElem?_eq_getElem hi] at p1
  rw [Int.toNat_natCast, List.getElem?_eq_getElem hj] at p2
  rw [← Option.some.inj p1, ← Option.some.inj p2, e]
theorem mem_pt {a : List Pt} {p : Pt} (h : p ∈ a) : ∃ i : Int, 0 ≤ i ∧ i < a.length ∧ pt a i = p := by
  obtain ⟨n, hn, e⟩ := List.mem_iff_getElem.1 h
  have p1 := pt_get (a := a) (i := (n : Int)) (by omega) (by omega)
  rw [Int.toNat_natCast, List.getElem?_eq_getElem hn] at p1
  exact ⟨n, by omega, by omega, by rw [← Option.some.inj p1, e]⟩
theorem pt_mem {a : List Pt} (hn : a ≠ []) (i : Int) : pt a i ∈ a := by
  have hl : 0 < (a.length : Int) := by have := List.length_pos_iff.2 hn; omega
  have := pt_get (a := a) (i := i % a.length) (Int.emod_nonneg _ (by omega)) (Int.emod_lt_of_pos _ hl)
  rw [pt_mod] at this
  exact List.mem_of_getElem? this
theorem Diff.mem {a : List Pt} (h : Diff a) {p : Pt} (hp : p ∈ a) : In p := by
  obtain ⟨i, h0, h1, e⟩ := mem_pt hp
  rw [← e]; exact h.isIn i h0 h1
theorem bdGood_l1 {L : Nat} {κ0 : (List Pt) → (List Pt) → Int → Int → Option Bool} {a v11 : List Pt} {v12 i : Int} {p : Pt} (hi : 0 ≤ i) (hl : i ≤ a.length) (hs : (a.length : Int) ≤ 30) {m : Nat} (hm : i < m) :
    ((∃ j, 0 ≤ j ∧ j < i ∧ pt a j = p) → spec_bdGood_l1 L κ0 a v11 v12 i p m 0 = some false) ∧ ((∀ j, 0 ≤ j → j < i → ¬ pt a j = p) → spec_bdGood_l1 L κ0 a v11 v12 i p m 0 = κ0 a v11 v12 (i + 1)) := by
  refine search (lo := 0) (n := i) (hi := i) (bad := fun j => pt a j = p) (Int.le_refl _) ?_ ?_ ?_ m 0 (Int.le_refl _) (by omega) (by omega) (by omega)
  · intro m v h0 _ h
    rw [spec_bdGood_l1]
    simp only [lsub0_len hi hl, ilt_eq, h, decide_false, cond_false, iadd_eq]
    rw [wr_id (by omega)]
  · intro m v h0 h hb
    rw [spec_bdGood_l1]
    simp only [lsub0_len hi hl, ilt_eq, h, decide_true, cond_true, lsub0_get h0 h hl, gbind_eq, Option.bind_some, ieq_eq, hb, Bool.and_self]
  · intro m v h0 h hb
    rw [spec_bdGood_l1]
    simp only [lsub0_len hi hl, ilt_eq, h, decide_true, cond_true, lsub0_get h0 h hl, gbind_eq, Option.bind_some, ieq_eq, iadd_eq]
    have : (decide (p.x = (pt a v).x) && decide (p.y = (pt a v).y)) = false := by
      rw [← Bool.not_eq_true, pt_eq_iff]; exact fun e => hb e.symm
    rw [this, cond_false, wr_id (by omega)]
theorem bdGood_l0 {L : Nat} {a : List Pt} (hs : (a.length : Int) ≤ 30) (hL : 100 < L) {m : Nat} (hm : (a.length : Int) < m) :
    ((∃ i, 0 ≤ i ∧ i < (a.length : Int) ∧ (¬ In (pt a i) ∨ ∃ k, 0 ≤ k ∧ k < i ∧ pt a k = pt a i)) → spec_bdGood_l0 L m a a a.length 0 = some false) ∧
    ((∀ i, 0 ≤ i → i < (a.length : Int) → ¬ (¬ In (pt a i) ∨ ∃ k, 0 ≤ k ∧ k < i ∧ pt a k = pt a i)) → spec_bdGood_l0 L m a a a.length 0 = some true) := by
  refine search (f := fun m v => spec_bdGood_l0 L m a a a.length v) (lo := 0) (n := (a.length : Int)) (hi := 30)
    (bad := fun i => ¬ In (pt a i) ∨ ∃ k, 0 ≤ k ∧ k < i ∧ pt a k = pt a i) hs ?_ ?_ ?_ m 0 (Int.le_refl _) (by omega) (by omega) (by omega)
  · intro m v h0 _ h
    simp only [spec_bdGood_l0, ilt_eq, h, decide_false, cond_false, ilen_mapep]
  · intro m v h0 h hb
    simp only [spec_bdGood_l0, ilt_eq, ile_eq, h, h0, ilen_mapep, show v ≤ (a.length : Int) by omega, decide_true, Bool.and_self, cond_true, gbind_eq, lget_pt h0 h, Option.bind_some]
    by_cases hi : In (pt a v)
    · rw [spec_pgIs_eq.1 hi]
      simp only [Option.bind_some, Bool.not_true, cond_false]
      obtain ⟨k, q1, q2, q3⟩ := hb.resolve_left fun h => h hi
      exact (bdGood_l1 h0 (by omega) hs (by omega)).1 ⟨k, q1, q2, q3⟩
    · rw [spec_pgIs_eq.2 hi]
      simp only [Option.bind_some, Bool.not_false, cond_true]
  · intro m v h0 h hb
    simp only [spec_bdGood_l0, ilt_eq, ile_eq, h, h0, ilen_mapep, show v ≤ (a.length : Int) by omega, decide_true, Bool.and_self, cond_true, gbind_eq, lget_pt h0 h, Option.bind_some]
    have hi : In (pt a v) := Classical.byContradiction fun e => hb (.inl e)
    rw [spec_pgIs_eq.1 hi]
    simp only [Option.bind_some, Bool.not_true, cond_false]
    exact (bdGood_l1 h0 (by omega) hs (by omega)).2 fun k q1 q2 q3 => hb (.inr ⟨k, q1, q2, q3⟩)
open Classical in
theorem spec_bdGood_eq {L : Nat} {a : List Pt} (hL : 100 < L) : spec_bdGood L a = some (decide (Diff a)) := by
  unfold spec_bdGood
  simp only [ilen_mapep, spec_l1In_eq, gbind_eq, Option.bind_some]
  by_cases hn : 1 ≤ (a.length : Int) ∧ (a.length : Int) ≤ 30
  · simp only [hn, and_self, decide_true, Bool.not_true, cond_false]
    by_cases h0 : ∃ i, 0 ≤ i ∧ i < (a.length : Int) ∧ (¬ In (pt a i) ∨ ∃ k, 0 ≤ k ∧ k < i ∧ pt a k = pt a i)
    · rw [(bdGood_l0 hn.2 hL (by omega)).1 h0]
      have : ¬ Diff a := fun g => by
        obtain ⟨i, q1, q2, q3⟩ := h0
        rcases q3 with q3 | ⟨k, q4, q5, q6⟩
        · exact q3 (g.isIn i q1 q2)
        · exact g.ne i k q4 q5 q2 q6
      simp [this]
    · have h0' : ∀ i, 0 ≤ i → i < (a.length : Int) → ¬ (¬ In (pt a i) ∨ ∃ k, 0 ≤ k ∧ k < i ∧ pt a k = pt a i) := fun i q1 q2 q3 => h0 ⟨i, q1, q2, q3⟩
      rw [(bdGood_l0 hn.2 hL (by omega)).2 h0']
      have : Diff a := ⟨hn.1, hn.2, fun i q1 q2 => Classical.byContradiction fun e => h0' i q1 q2 (.inl e), fun i k q1 q2 q3 q4 => h0' i (by omega) q3 (.inr ⟨k, q1, q2, q4⟩)⟩
      simp [this]
  · have : ¬ Diff a := fun g => hn ⟨g.lo, g.hi⟩
    simp only [hn, this, decide_false, Bool.not_false, cond_true]
theorem areDiff_l0 {L : Nat} {a : List Pt} (hs : (a.length : Int) ≤ 30) (hL : 100 < L) {m : Nat} (hm : (a.length : Int) < m) :
    ((∃ i, 0 ≤ i ∧ i < (a.length : Int) ∧ ∃ k, 0 ≤ k ∧ k < i ∧ pt a k = pt a i) → impl_AreDifferent_l0 L a m 0 = some false) ∧
    ((∀ i, 0 ≤ i → i < (a.length : Int) → ¬ ∃ k, 0 ≤ k ∧ k < i ∧ pt a k = pt a i) → impl_AreDifferent_l0 L a m 0 = some true) := by
  have hc : ∀ v, 0 ≤ v → v < (a.length : Int) → ((∃ k, 0 ≤ k ∧ k < v ∧ pt a k = pt a v) → slices_Contains_impl_Peg_impl_Peg L (lsub a 0 v) (pt a v).x (pt a v).y = some true) ∧ ((¬ ∃ k, 0 ≤ k ∧ k < v ∧ pt a k = pt a v) → slices_Contains_impl_Peg_impl_Peg L (lsub a 0 v) (pt a v).x (pt a v).y = some false) := by
    intro v h0 h
    have hl : ((lsub a 0 v).length : Int) = v := by rw [lsub0 (by omega) (by omega)]; simp; omega
    obtain ⟨h1, h2⟩ := contains_eq (L := L) (b := lsub a 0 v) (p := pt a v) (by omega) (by omega)
    rw [hl] at h1 h2
    refine ⟨fun ⟨k, q1, q2, q3⟩ => h1 ⟨k, q1, q2, by rw [pt_take q1 q2 (by omega)]; exact q3⟩, fun hno => h2 fun j q1 q2 q3 => hno ⟨j, q1, q2, ?_⟩⟩
    rwa [pt_take q1 q2 (by omega)] at q3
  refine search (f := fun m v => impl_AreDifferent_l0 L a m v) (lo := 0) (n := (a.length : Int)) (hi := 30)
    (bad := fun i => ∃ k, 0 ≤ k ∧ k < i ∧ pt a k = pt a i) hs ?_ ?_ ?_ m 0 (Int.le_refl _) (by omega) (by omega) (by omega)
  · intro m v h0 _ h
    simp only [impl_AreDifferent_l0, ilt_eq, h, decide_false, cond_false, ilen_mapep]
  · intro m v h0 h hb
    simp only [impl_AreDifferent_l0, ilt_eq, ile_eq, h, h0, ilen_mapep, show v ≤ (a.length : Int) by omega, decide_true, Bool.and_self, cond_true, gbind_eq, lget_pt h0 h, Option.bind_some]
    rw [(hc v h0 h).1 hb]; rfl
  · intro m v h0 h hb
    simp only [impl_AreDifferent_l0, ilt_eq, ile_eq, iadd_eq, h, h0, ilen_mapep, show v ≤ (a.length : Int) by omega, decide_true, Bool.and_self, cond_true, gbind_eq, lget_pt h0 h, Option.bind_some]
    rw [(hc v h0 h).2 hb, wr_s (by omega)]; rfl
open Classical in
theorem impl_AreDifferent_eq {L : Nat} {a : List Pt} (hL : 100 < L) : impl_AreDifferent L a = some (decide (Diff a)) := by
  unfold impl_AreDifferent
  simp only [ilen_mapep, impl_within_eq, gbind_eq, Option.bind_some]
  by_cases hn : 1 ≤ (a.length : Int) ∧ (a.length : Int) ≤ 30
  · simp only [hn, and_self, decide_true, Bool.not_true, cond_false]
    by_cases hI : ∀ i, 0 ≤ i → i < (a.length : Int) → In (pt a i)
    · rw [(arePegs_eq (by omega) (by omega)).2 hI]
      simp only [Option.bind_some, Bool.not_true, cond_false]
      by_cases h0 : ∃ i, 0 ≤ i ∧ i < (a.length : Int) ∧ ∃ k, 0 ≤ k ∧ k < i ∧ pt a k = pt a i
      · rw [(areDiff_l0 hn.2 hL (by omega)).1 h0]
        have : ¬ Diff a := fun g => by
          obtain ⟨i, q1, q2, k, q4, q5, q6⟩ := h0
          exact g.ne i k q4 q5 q2 q6
        simp [this]
      · have h0' : ∀ i, 0 ≤ i → i < (a.length : Int) → ¬ ∃ k, 0 ≤ k ∧ k < i ∧ pt a k = pt a i := fun i q1 q2 q3 => h0 ⟨i, q1, q2, q3⟩
        rw [(areDiff_l0 hn.2 hL (by omega)).2 h0']
        have : Diff a := ⟨hn.1, hn.2, hI, fun i k q1 q2 q3 q4 => h0' i (by omega) q3 ⟨k, q1, q2, q4⟩⟩
        simp [this]
    · have hI' : ∃ i, 0 ≤ i ∧ i < (a.length : Int) ∧ ¬ In (pt a i) := Classical.byContradiction fun e => hI fun i q1 q2 => Classical.byContradiction fun h => e ⟨i, q1, q2, h⟩
      rw [(arePegs_eq (by omega) (by omega)).1 hI']
      have : ¬ Diff a := fun g => hI g.isIn
      simp [this]
  · have : ¬ Diff a := fun g => hn ⟨g.lo, g.hi⟩
    simp only [hn, this, decide_false, Bool.not_false, cond_true]
end Go.AM
namespace Go.AM
theorem fits_l {n : Int} {b : Nat} (h : n * b ≤ 140737488355328) : fits n b = true := by rw [fits_eq]; exact decide_eq_true h
theorem impl_sorted_eq {L : Nat} {a : List Pt} (hn : a ≠ []) (hs : (a.length : Int) ≤ 1000000) : impl_sorted L a = some (isort a) := by
  have hpos : 0 < (a.length : Int) := by have := List.length_pos_iff.2 hn; omega
  unfold impl_sorted slices_Clone_impl_Peg_impl_Peg slices_SortFunc_impl_Peg_impl_Peg
  simp only [ilen_mapep, ieq_eq, show ¬ (a.length : Int) = 0 by omega, decide_false, cond_false, ilen_eq, List.length_nil, iadd_eq, lcat_eq, List.nil_append, List.length_map]
  rw [fits_l (by omega)]
  simp only [cond_true, gbind_eq, Option.bind_some, sortP_eq (show (a.length : Int) ≤ 1000000000 by omega)]
def insK (p : Pt) : List Pt → Nat
  | [] => 0
  | a :: l => if Less a p then insK p l + 1 else 0
theorem insK_le (p : Pt) : ∀ l : List Pt, insK p l ≤ l.length
  | [] => Nat.le_refl _
  | a :: l => by unfold insK; split; (have := insK_le p l; simp; exact this); exact Nat.zero_le _
theorem insK_lt (p : Pt) : ∀ (l : List Pt) (j : Nat), j < insK p l → ∀ x, l[j]? = some x → Less x p
  | [], j, h, _, _ => by simp [insK] at h
  | a :: l, j, h, x, hx => by
    unfold insK at h
    split at h
    · rename_i hl
      cases j with
      | zero => simp at hx; subst hx; exact hl
      | succ j => exact insK_lt p l j (by omega) x (by simpa using hx)
    · omega
theorem insK_not (p : Pt) : ∀ (l : List Pt) x, l[insK p l]? = some x → ¬ Less x p
  | [], x, h => by simp at h
  | a :: l, x, h => by
    unfold insK at h
    split at h
    · exact insK_not p l x (by simpa using h)
    · rename_i hl; simp at h; subst h; exact hl
theorem insP_eq (p : Pt) : ∀ l : List Pt, insP p l = l.take (insK p l) ++ [p] ++ l.drop (insK p l)
  | [] => rfl
  | a :: l => by
    unfold insP insK
    split
    · rw [insP_eq p l]; simp
    · simp
theorem lsubk {a : List Pt} {i : Nat} (h : i ≤ a.length) : lsub a 0 (i : Int) = a.take i ∧ lsub a (i : Int) (a.length : Int) = a.drop i := by
  rw [lsub_eq, lsub_eq]
  refine ⟨by simp, ?_⟩
  rw [Int.toNat_natCast, show ((a.length : Int) - i).toNat = a.length - i by omega]
  rw [List.take_of_length_le (by simp)]
theorem bdSorted_l1 {L : Nat} {κ0 : (List Pt) → (List Pt) → Int → Int → Option ((List Pt))} {v8 out : List Pt} {v9 v10 : Int} {p : Pt} (hs : (out.length : Int) ≤ 100000) (hv : 0 ≤ v10 ∧ v10 ≤ 100000) :
    ∀ (m k : Nat), k ≤ insK p out → insK p out - k < m → spec_bdSorted_l1 L κ0 out v8 v9 v10 p m k = κ0 (insP p out) v8 v9 (v10 + 1) := by
  intro m
  induction m with
  | zero => intro k _ h; omega
  | succ m ih =>
    intro k hk hm
    have hle := insK_le p out
    have l1 : ∀ n : Nat, n ≤ out.length → ilen (lsub (List.map ep out) 0 (n : Int)) = n := fun n hn => by rw [← map_lsub, ilen_mapep, (lsubk hn).1]; simp; omega
    have l2 : ∀ n : Nat, n ≤ out.length → ilen (lsub (List.map ep out) (n : Int) (out.length : Int)) = ((out.length - n : Nat) : Int) := fun n hn => by rw [← map_lsub, ilen_mapep, (lsubk hn).2]; simp
    have l3 : ∀ n : Nat, n ≤ out.length → ilen (lcat ([] : List AV) (lsub (List.map ep out) 0 (n : Int))) = n := fun n hn => by rw [lcat_eq, List.nil_append]; exact l1 n hn
    have l4 : ∀ n : Nat, n ≤ out.length → ilen (lcat (lcat ([] : List AV) (lsub (List.map ep out) 0 (n : Int))) [AV.agg [AV.int IntKind.i64 p.x, AV.int IntKind.i64 p.y]]) = n + 1 := fun n hn => by
      rw [lcat_eq, lcat_eq, List.nil_append, ilen_eq, List.length_append]; have := l1 n hn; rw [ilen_eq] at this; simp; simpa using this
    have fin : insK p out = k → κ0 (lcat (lcat (lcat [] (lsub out 0 (k : Int))) (p :: [])) (lsub out (k : Int) (out.length : Int))) v8 v9 (wr IntKind.i64 (v10 + 1)) = κ0 (insP p out) v8 v9 (v10 + 1) := fun e => by
      rw [wr_s (by omega), insP_eq, e, (lsubk (by omega)).1, (lsubk (by omega)).2]
      simp only [lcat_eq, List.nil_append]
    have l5 : ilen (lcat ([] : List AV) [AV.agg [AV.int IntKind.i64 p.x, AV.int IntKind.i64 p.y]]) = 1 := by rw [lcat_eq, ilen_eq]; rfl
    have fin0 : (k : Int) = 0 → insK p out = k → κ0 (lcat (lcat [] (p :: [])) (lsub out (k : Int) (out.length : Int))) v8 v9 (wr IntKind.i64 (v10 + 1)) = κ0 (insP p out) v8 v9 (v10 + 1) := fun e0 e => by
      rw [← fin e]
      have : lsub out 0 (k : Int) = [] := by rw [(lsubk (by omega)).1, show k = 0 by omega]; rfl
      rw [this]
      simp only [lcat_eq, List.nil_append]
    rw [spec_bdSorted_l1]
    simp only [l5, ieq_eq, ilen_mapep, ilt_eq, iadd_eq, ile_eq, l1 k (by omega), l2 k (by omega), l3 k (by omega), l4 k (by omega), show ilen ([] : List AV) = 0 by rw [ilen_eq]; rfl, show ilen [AV.agg [AV.int IntKind.i64 p.x, AV.int IntKind.i64 p.y]] = 1 by rw [ilen_eq]; rfl]
    rw [fits_l (show ((0 : Int) + k) * (16 : Nat) ≤ 140737488355328 by omega), fits_l (show ((k : Int) + 1) * (16 : Nat) ≤ 140737488355328 by omega), fits_l (show ((k : Int) + 1 + ((out.length - k : Nat) : Int)) * (16 : Nat) ≤ 140737488355328 by omega)]
    rw [fits_l (show (0 : Int) * (16 : Nat) ≤ 140737488355328 by omega), fits_l (show ((0 : Int) + 1) * (16 : Nat) ≤ 140737488355328 by omega), fits_l (show ((1 : Int) + ((out.length - k : Nat) : Int)) * (16 : Nat) ≤ 140737488355328 by omega)]
    simp only [show (0 : Int) ≤ k by omega, show (k : Int) ≤ (out.length : Int) by omega, decide_true, Bool.and_self, cond_true]
    have both : insK p out = k → (bif decide ((k : Int) = 0) then κ0 (lcat (lcat [] (p :: [])) (lsub out (k : Int) (out.length : Int))) v8 v9 (wr IntKind.i64 (v10 + 1)) else κ0 (lcat (lcat (lcat [] (lsub out 0 (k : Int))) (p :: [])) (lsub out (k : Int) (out.length : Int))) v8 v9 (wr IntKind.i64 (v10 + 1))) = κ0 (insP p out) v8 v9 (v10 + 1) := fun e => by
      by_cases e0 : (k : Int) = 0
      · simp only [e0, decide_true, cond_true]
        have := fin0 e0 e
        rwa [e0] at this
      · simp only [e0, decide_false, cond_false]
        exact fin e
    by_cases hkl : (k : Int) < (out.length : Int)
    · simp only [hkl, decide_true, cond_true, lget_pt (show (0 : Int) ≤ k by omega) hkl, gbind_eq, Option.bind_some, spec_pgLess_eq]
      have hg : out[k]? = some (pt out k) := by have := pt_get (a := out) (i := (k : Int)) (by omega) hkl; rwa [Int.toNat_natCast] at this
      by_cases hl : Less (pt out k) p
      · simp only [hl, decide_true, cond_true]
        rw [wr_s (by omega)]
        have hne : insK p out ≠ k := fun e => insK_not p out _ (by rw [e]; exact hg) hl
        have := ih (k + 1) (by omega) (by omega)
        simpa using this
      · simp only [hl, decide_false, cond_false]
        refine both ?_
        rcases Nat.lt_or_ge k (insK p out) with h | h
        · exact absurd (insK_lt p out k h _ hg) hl
        · omega
    · simp only [hkl, decide_false, cond_false]
      exact both (by omega)
theorem insP_len (p : Pt) (l : List Pt) : (insP p l).length = l.length + 1 := (insP_perm p l).length_eq
theorem bdSorted_l0 {L : Nat} {a : List Pt} (hs : (a.length : Int) ≤ 1000) (hL : (a.length : Int) < L) : ∀ (m i : Nat) (out : List Pt), i ≤ a.length → out.length = i → a.length - i < m →
    spec_bdSorted_l0 L m out a a.length i = some ((a.drop i).foldl (fun out p => insP p out) out) := by
  intro m
  induction m with
  | zero => intro i out _ _ h; omega
  | succ m ih =>
    intro i out hi ho hm
    rw [spec_bdSorted_l0]
    simp only [ilt_eq]
    by_cases h : (i : Int) < (a.length : Int)
    · have hg : a[i]? = some (pt a i) := by have := pt_get (a := a) (i := (i : Int)) (by omega) h; rwa [Int.toNat_natCast] at this
      simp only [h, decide_true, cond_true, lget_pt (show (0 : Int) ≤ i by omega) h, gbind_eq, Option.bind_some]
      have := insK_le (pt a i) out
      have e := bdSorted_l1 (L := L) (κ0 := spec_bdSorted_l0 L m) (v8 := a) (out := out) (v9 := a.length) (v10 := i) (p := pt a i) (by omega) (by omega) L 0 (by omega) (by omega)
      rw [show ((0 : Nat) : Int) = 0 by rfl] at e
      rw [e]
      have := ih (i + 1) (insP (pt a i) out) (by omega) (by rw [insP_len]; omega) (by omega)
      rw [show ((i + 1 : Nat) : Int) = (i : Int) + 1 by omega] at this
      rw [this]
      have hlt : i < a.length := by omega
      rw [List.drop_eq_getElem_cons hlt, List.foldl_cons]
      rw [List.getElem?_eq_getElem hlt] at hg
      rw [Option.some.inj hg]
    · simp only [h, decide_false, cond_false]
      rw [List.drop_of_length_le (by omega)]
      rfl
theorem spec_bdSorted_eq {L : Nat} {a : List Pt} (hs : (a.length : Int) ≤ 1000) (hL : (a.length : Int) < L) : spec_bdSorted L a = some (isort a) := by
  unfold spec_bdSorted
  rw [ilen_mapep]
  have := bdSorted_l0 hs hL L 0 [] (by omega) rfl (by omega)
  rw [show ((0 : Nat) : Int) = 0 by rfl] at this
  rw [this, List.drop_zero]
  rfl
end Go.AM
namespace Go.AM
theorem ilen_one (p : Pt) : ilen [AV.agg [AV.int IntKind.i64 p.x, AV.int IntKind.i64 p.y]] = 1 := by rw [ilen_eq]; rfl
theorem cut_facts {w : List Pt} {n : Nat} (hn : n ≤ w.length) : lsub w 0 (n : Int) = w.take n ∧ ilen (lcat (lsub (List.map ep w) 0 (n : Int)) [AV.agg [AV.int IntKind.i64 (0 : Int), AV.int IntKind.i64 (0 : Int)]]) = n + 1 := by
  refine ⟨(lsub_eq w 0 n).trans (by simp), ?_⟩
  rw [lcat_eq, ilen_eq, lsub_eq]
  simp
  omega
theorem cut_len {w : List Pt} {n : Nat} (hn : n ≤ w.length) (p : Pt) : ilen (lcat (lsub (List.map ep w) 0 (n : Int)) [AV.agg [AV.int IntKind.i64 p.x, AV.int IntKind.i64 p.y]]) = ((n + 1 : Nat) : Int) := by
  rw [lcat_eq, ilen_eq, lsub_eq]
  simp
  omega
theorem stk_len (p : Pt) : ∀ s : List Pt, (stk s p).length ≤ s.length + 1
  | [] => by simp [stk]
  | [a] => by simp [stk]
  | b :: a :: r => by
    rw [stk]
    split
    · have := stk_len p (a :: r); simp at this ⊢; omega
    · simp
theorem rev_two {w : List Pt} {b a : Pt} {r : List Pt} {n : Nat} {pre : List Pt} (h : w.take n = pre ++ (b :: a :: r).reverse) (hn : n = pre.length + (r.length + 2)) : lget w ((n : Int) - 1) = some b ∧ lget w ((n : Int) - 2) = some a := by
  have hl : n ≤ w.length := by
    have := congrArg List.length h
    simp at this
    omega
  have g : ∀ j : Nat, j < n → w[j]? = (pre ++ (b :: a :: r).reverse)[j]? := fun j hj => by rw [← h, List.getElem?_take_of_lt hj]
  have h1 : w[n - 1]? = some b := by
    rw [g (n - 1) (by omega), List.getElem?_append_right (by omega), List.getElem?_reverse (by simp; omega)]
    rw [show (b :: a :: r).length - 1 - (n - 1 - pre.length) = 0 by simp; omega]
    rfl
  have h2 : w[n - 2]? = some a := by
    rw [g (n - 2) (by omega), List.getElem?_append_right (by omega), List.getElem?_reverse (by simp; omega)]
    rw [show (b :: a :: r).length - 1 - (n - 2 - pre.length) = 1 by simp; omega]
    rfl
  rw [lget_eq, lget_eq, if_pos (by omega), if_pos (by omega), show ((n : Int) - 1).toNat = n - 1 by omega, show ((n : Int) - 2).toNat = n - 2 by omega]
  exact ⟨h1, h2⟩
theorem take_pop {w : List Pt} {b : Pt} {s pre : List Pt} {n : Nat} (h : w.take n = pre ++ (b :: s).reverse) (hn : n = pre.length + (s.length + 1)) : w.take (n - 1) = pre ++ s.reverse := by
  have : w.take (n - 1) = (w.take n).take (n - 1) := by rw [List.take_take]; congr 1; omega
  rw [this, h, List.reverse_cons, ← List.append_assoc, List.take_append_of_le_length (by simp; omega), List.take_of_length_le (by simp; omega)]
theorem put_end {w : List Pt} {p : Pt} {s pre : List Pt} {n : Nat} (h : w.take n = pre ++ s.reverse) (hn : n = pre.length + s.length) (hw : n ≤ w.length) (x : List Pt) (hx : x = w.take n ++ [p] ∨ x = w.take n ++ [p] ++ w.drop (n + 1)) : x.take (n + 1) = pre ++ (p :: s).reverse ∧ n + 1 ≤ x.length := by
  have hl : (w.take n).length = n := by simp; omega
  rcases hx with rfl | rfl
  · refine ⟨?_, by simp; omega⟩
    rw [List.take_of_length_le (by simp; omega), h, List.reverse_cons, List.append_assoc]
  · refine ⟨?_, by simp; omega⟩
    rw [List.take_append_of_le_length (by simp; omega), List.take_of_length_le (by simp; omega), h, List.reverse_cons, List.append_assoc]
theorem chain_l1 {L : Nat} {κ0 : Int → Int → (List Pt) → Int → Int → (List Pt) → Option ((List Pt))} {v7 : List Pt} {v8 v9 : Int} {p : Pt} (hp : Nr p) (h9 : 0 ≤ v9 ∧ v9 ≤ 100000) :
    ∀ (m : Nat) (s w : List Pt) (n : Nat), (∀ x ∈ s, Nr x) → s.length < m → n = s.length → n ≤ 100000 → n ≤ w.length → w.take n = s.reverse →
      ∃ w', w'.take (stk s p).length = (stk s p).reverse ∧ (stk s p).length ≤ w'.length ∧ impl_chain_l1 L κ0 0 v7 v8 v9 w p m n = κ0 0 ((stk s p).length : Nat) v7 v8 (v9 + 1) w' := by
  intro m
  induction m with
  | zero => intro s w n _ h; omega
  | succ m ih =>
    intro s w n hN hm hn hnb hw ht
    have lay : stk s p = p :: s → ∃ w', w'.take (stk s p).length = (stk s p).reverse ∧ (stk s p).length ≤ w'.length ∧
        (bif fits ((n : Int) + 1) 16 then (bif decide ((n : Int) = (w.length : Int)) then (κ0 0 (ilen (lcat (lsub (List.map ep w) 0 (n : Int)) [AV.agg [AV.int IntKind.i64 (Pt.x p), AV.int IntKind.i64 (Pt.y p)]])) v7 v8 (wr IntKind.i64 (v9 + 1)) (lcat (lsub w 0 (n : Int)) (p :: []))) else (bif decide ((n : Int) + 1 ≤ (w.length : Int)) then (κ0 0 ((n : Int) + 1) v7 v8 (wr IntKind.i64 (v9 + 1)) (lcat (lcat (lsub w 0 (n : Int)) (p :: [])) (lsub w ((n : Int) + 1) (w.length : Int)))) else (none))) else (none)) = κ0 0 ((stk s p).length : Nat) v7 v8 (v9 + 1) w' := by
      intro e
      rw [e, fits_l (by omega), cond_true, wr_s (by omega), cut_len hw p, (cut_facts hw).1]
      have hlen : (p :: s).length = n + 1 := by simp; omega
      rw [hlen]
      by_cases hf : (n : Int) = (w.length : Int)
      · simp only [hf, decide_true, cond_true]
        obtain ⟨q1, q2⟩ := put_end (p := p) (pre := []) (by simpa using ht) (by simpa using hn) hw _ (.inl rfl)
        refine ⟨w.take n ++ [p], by simpa using q1, q2, ?_⟩
        rw [lcat_eq]
      · have hle : (n : Int) + 1 ≤ (w.length : Int) := by omega
        simp only [hf, hle, decide_false, decide_true, cond_false, cond_true]
        obtain ⟨q1, q2⟩ := put_end (p := p) (pre := []) (by simpa using ht) (by simpa using hn) hw _ (.inr rfl)
        refine ⟨w.take n ++ [p] ++ w.drop (n + 1), by simpa using q1, q2, ?_⟩
        have := (lsubk (a := w) (i := n + 1) (by omega)).2
        rw [show ((n + 1 : Nat) : Int) = (n : Int) + 1 by omega] at this
        rw [this, lcat_eq, lcat_eq]
        rfl
    rw [impl_chain_l1]
    simp only [iadd_eq, isub_eq, ilt_eq, ile_eq, ieq_eq, ilen_mapep, ilen_one, Int.zero_add]
    match s, hN, hm, hn, ht, lay with
    | [], hN, hm, hn, ht, lay =>
      obtain rfl : n = 0 := by simpa using hn
      simp only [show ¬ (1 : Int) < ((0 : Nat) : Int) by omega, decide_false, cond_false]
      exact lay rfl
    | [a], hN, hm, hn, ht, lay =>
      obtain rfl : n = 1 := by simpa using hn
      simp only [show ¬ (1 : Int) < ((1 : Nat) : Int) by omega, decide_false, cond_false]
      exact lay rfl
    | b :: a :: r, hN, hm, hn, ht, lay =>
      have hn2 : n = r.length + 2 := by simpa using hn
      obtain ⟨g1, g2⟩ := rev_two (pre := []) (by simpa using ht) (by simpa using hn2)
      simp only [show (1 : Int) < (n : Int) by omega, decide_true, cond_true, wr_s (show -1000000 ≤ (n : Int) - 2 ∧ (n : Int) - 2 ≤ 1000000 by omega), wr_s (show -1000000 ≤ (n : Int) - 1 ∧ (n : Int) - 1 ≤ 1000000 by omega),
        show (0 : Int) ≤ (n : Int) - 2 by omega, show (n : Int) - 2 < (n : Int) by omega, show (0 : Int) ≤ (n : Int) - 1 by omega, show (n : Int) - 1 < (n : Int) by omega, Bool.and_self, g1, g2, gbind_eq, Option.bind_some,
        impl_turn_eq (hN a (by simp)) (hN b (by simp)) hp]
      by_cases hc : turn a b p ≤ 0
      · have e : stk (b :: a :: r) p = stk (a :: r) p := by rw [stk]; simp [hc]
        simp only [hc, decide_true, cond_true, Bool.not_false, show (n : Int) - 1 ≤ (w.length : Int) by omega, Bool.and_self]
        have := ih (a :: r) w (n - 1) (fun x hx => hN x (List.mem_cons_of_mem _ hx)) (by simp at hm ⊢; omega) (by simp; omega) (by omega) (by omega) (by have := take_pop (pre := []) (s := a :: r) (by simpa using ht) (by simpa using hn2); simpa using this)
        rw [show ((n - 1 : Nat) : Int) = (n : Int) - 1 by omega, ← e] at this
        exact this
      · have e : stk (b :: a :: r) p = p :: b :: a :: r := by rw [stk]; simp [hc]
        simp only [hc, decide_false, cond_false]
        exact lay e
theorem chain_l0 {L : Nat} {a : List Pt} (hs : (a.length : Int) ≤ 1000) (hL : (a.length : Int) + 5 < L) (hN : ∀ x ∈ a, Nr x) : ∀ (m i : Nat) (s w : List Pt), i ≤ a.length → s.length ≤ i → (∀ x ∈ s, Nr x) → s.length ≤ w.length → w.take s.length = s.reverse → a.length - i < m →
    impl_chain_l0 L m 0 s.length a a.length i w = some ((a.drop i).foldl stk s).reverse := by
  intro m
  induction m with
  | zero => intro i s w _ _ _ _ _ h; omega
  | succ m ih =>
    intro i s w hi hsi hsN hsw ht hm
    rw [impl_chain_l0]
    simp only [ilt_eq]
    by_cases h : (i : Int) < (a.length : Int)
    · have hg : a[i]? = some (pt a i) := by have := pt_get (a := a) (i := (i : Int)) (by omega) h; rwa [Int.toNat_natCast] at this
      have hlt : i < a.length := by omega
      have hpN : Nr (pt a i) := hN _ (List.mem_of_getElem? hg)
      simp only [h, decide_true, cond_true, lget_pt (show (0 : Int) ≤ i by omega) h, gbind_eq, Option.bind_some]
      obtain ⟨w', q1, q2, q3⟩ := chain_l1 (L := L) (κ0 := impl_chain_l0 L m) (v7 := a) (v8 := a.length) (v9 := i) hpN (by omega) L s w s.length hsN (by omega) rfl (by omega) hsw ht
      rw [q3]
      have hlen := stk_len (pt a i) s
      have hN' : ∀ x ∈ stk s (pt a i), Nr x := by
        have sub : ∀ (s : List Pt) (x : Pt), x ∈ stk s (pt a i) → x = pt a i ∨ x ∈ s := by
          intro s
          induction s with
          | nil => intro x hx; simp [stk] at hx; exact .inl hx
          | cons b s ihs =>
            intro x hx
            cases s with
            | nil => simp [stk] at hx; rcases hx with rfl | rfl <;> simp
            | cons c r =>
              rw [stk] at hx
              split at hx
              · rcases ihs x hx with h | h
                · exact .inl h
                · exact .inr (List.mem_cons_of_mem _ h)
              · rcases List.mem_cons.1 hx with rfl | hx
                · exact .inl rfl
                · exact .inr hx
        intro x hx
        rcases sub s x hx with rfl | h
        · exact hpN
        · exact hsN x h
      have := ih (i + 1) (stk s (pt a i)) w' (by omega) (by omega) hN' q2 q1 (by omega)
      rw [show ((i + 1 : Nat) : Int) = (i : Int) + 1 by omega] at this
      rw [this, List.drop_eq_getElem_cons hlt, List.foldl_cons]
      rw [List.getElem?_eq_getElem hlt] at hg
      rw [Option.some.inj hg]
    · simp only [h, decide_false, cond_false]
      rw [List.drop_of_length_le (by omega), iadd_eq, Int.zero_add, lsub_eq]
      simp [ht]
theorem impl_chain_eq {L : Nat} {a : List Pt} (hs : (a.length : Int) ≤ 1000) (hL : (a.length : Int) + 5 < L) (hN : ∀ x ∈ a, Nr x) : impl_chain L a = some (sideL a) := by
  unfold impl_chain
  rw [ilen_mapep, show ilen ([] : List AV) = 0 by rw [ilen_eq]; rfl]
  have := chain_l0 (L := L) hs hL hN L 0 [] [] (by omega) (by simp) (by simp) (by simp) rfl (by omega)
  simp only [List.length_nil] at this
  rw [show ((0 : Nat) : Int) = 0 by rfl] at this
  rw [this, List.drop_zero]
  rfl
theorem rev_l0 {L : Nat} : ∀ (m : Nat) (a : List Pt) (i : Nat), (a.length : Int) ≤ 100000 → 2 * i ≤ a.length + 1 → a.length / 2 - i < m → ∀ w : List Pt, w.length = a.length → (∀ j : Nat, j < a.length → w[j]? = if j < i ∨ a.length - 1 - j < i then a[a.length - 1 - j]? else a[j]?) →
    slices_Reverse_impl_Peg_impl_Peg_l0 L m i ((a.length : Int) - 1 - i) w = some a.reverse := by
  intro m
  induction m with
  | zero => intro a i _ _ h; omega
  | succ m ih =>
    intro a i hs hi hm w hw hv
    rw [slices_Reverse_impl_Peg_impl_Peg_l0]
    simp only [ilt_eq, ile_eq, ilen_mapep, hw, isub_eq, iadd_eq]
    by_cases h : (i : Int) < (a.length : Int) - 1 - i
    · have hj : ((a.length : Int) - 1 - i).toNat = a.length - 1 - i := by omega
      have gi : lget w (i : Int) = some (pt w i) := lget_pt (by omega) (by omega)
      have gj : lget w ((a.length : Int) - 1 - i) = some (pt w ((a.length : Int) - 1 - i)) := lget_pt (by omega) (by omega)
      have hml : ilen (lset (List.map ep w) (i : Int) (AV.agg [AV.int IntKind.i64 (pt w ((a.length : Int) - 1 - i)).x, AV.int IntKind.i64 (pt w ((a.length : Int) - 1 - i)).y])) = (a.length : Int) := by rw [lset_eq, ilen_eq]; simp [hw]
      have gj2 : lget (lset w (i : Int) (pt w ((a.length : Int) - 1 - i))) ((a.length : Int) - 1 - i) = some (pt w ((a.length : Int) - 1 - i)) := by
        have h0 := gj
        rw [lget_eq, if_pos (by omega)] at h0 ⊢
        rw [lset_eq, List.getElem?_set_ne (by omega)]
        exact h0
      simp only [h, decide_true, cond_true, show (0 : Int) ≤ (a.length : Int) - 1 - i by omega, show (a.length : Int) - 1 - i < (a.length : Int) by omega, show (0 : Int) ≤ (i : Int) by omega, show (i : Int) < (a.length : Int) by omega, Bool.and_self, gi, gj, gj2, hml, gbind_eq, Option.bind_some]
      rw [wr_s (by omega), wr_s (by omega)]
      have := ih a (i + 1) hs (by omega) (by omega) (lset (lset w (i : Int) (pt w ((a.length : Int) - 1 - i))) ((a.length : Int) - 1 - i) (pt w (i : Int))) (by rw [lset_eq, lset_eq]; simp [hw]) fun j hj' => ?_
      · rw [show ((i + 1 : Nat) : Int) = (i : Int) + 1 by omega] at this
        rw [show (a.length : Int) - 1 - i - 1 = (a.length : Int) - 1 - ((i : Int) + 1) by omega]
        exact this
      · rw [lset_eq, lset_eq, Int.toNat_natCast, hj]
        have vi := hv i (by omega)
        have vj := hv (a.length - 1 - i) (by omega)
        rw [if_neg (by omega)] at vi vj
        have pi : w[i]? = some (pt w (i : Int)) := by have := pt_get (a := w) (i := (i : Int)) (by omega) (by omega); rwa [Int.toNat_natCast] at this
        have pj : w[a.length - 1 - i]? = some (pt w ((a.length : Int) - 1 - i)) := by have := pt_get (a := w) (i := (a.length : Int) - 1 - i) (by omega) (by omega); rwa [hj] at this
        by_cases e1 : j = a.length - 1 - i
        · subst e1
          rw [List.getElem?_set_self (by simp [hw]; omega), if_pos (by omega), ← pi, vi]
          congr 1; omega
        · rw [List.getElem?_set_ne (by omega)]
          by_cases e2 : j = i
          · subst e2
            rw [List.getElem?_set_self (by omega), if_pos (by omega), ← pj, vj]
          · rw [List.getElem?_set_ne (by omega), hv j hj']
            by_cases c : j < i ∨ a.length - 1 - j < i
            · rw [if_pos c, if_pos (by omega)]
            · rw [if_neg c, if_neg (by omega)]
    · simp only [h, decide_false, cond_false]
      congr 1
      refine List.ext_getElem? fun j => ?_
      by_cases hj : j < a.length
      · rw [hv j hj, List.getElem?_reverse hj]
        by_cases c : j < i ∨ a.length - 1 - j < i
        · rw [if_pos c]
        · rw [if_neg c]
          congr 1; omega
      · rw [List.getElem?_eq_none (by omega), List.getElem?_eq_none (by simp; omega)]
theorem rev_eq {L : Nat} {a : List Pt} (hs : (a.length : Int) ≤ 100000) (hL : (a.length : Int) < L) : slices_Reverse_impl_Peg_impl_Peg L a = some a.reverse := by
  unfold slices_Reverse_impl_Peg_impl_Peg
  rw [ilen_mapep, isub_eq, wr_s (by omega)]
  have := rev_l0 (L := L) L a 0 hs (by omega) (by omega) a rfl fun j hj => by rw [if_neg (by omega)]
  simpa using this
end Go.AM
namespace Go.AM
theorem band_l2 {L : Nat} {κ1 : (List Pt) → Int → Int → Int → Int → Int → Int → (List Pt) → Option ((List Pt))} {v3 : List Pt} {v5 v22 v23 : Int} {p : Pt} {pre : List Pt} (hp : Nr p) (h23 : 0 ≤ v23 ∧ v23 ≤ 100000) :
    ∀ (m : Nat) (s w : List Pt) (n : Nat), (∀ x ∈ s, Nr x) → s.length < m → n = pre.length + s.length → n ≤ 100000 → n ≤ w.length → w.take n = pre ++ s.reverse →
      ∃ w', w'.take (pre.length + (stk s p).length) = pre ++ (stk s p).reverse ∧ pre.length + (stk s p).length ≤ w'.length ∧ spec_bdBand_l2 L κ1 v3 0 v5 (pre.length : Nat) v22 v23 w p m n = κ1 v3 0 ((pre.length + (stk s p).length : Nat) : Int) v5 (pre.length : Nat) v22 (v23 + 1) w' := by
  intro m
  induction m with
  | zero => intro s w n _ h; omega
  | succ m ih =>
    intro s w n hN hm hn hnb hw ht
    have lay : stk s p = p :: s → ∃ w', w'.take (pre.length + (stk s p).length) = pre ++ (stk s p).reverse ∧ pre.length + (stk s p).length ≤ w'.length ∧
        (bif fits ((n : Int) + 1) 16 then (bif decide ((n : Int) = (w.length : Int)) then (κ1 v3 0 (ilen (lcat (lsub (List.map ep w) 0 (n : Int)) [AV.agg [AV.int IntKind.i64 (Pt.x p), AV.int IntKind.i64 (Pt.y p)]])) v5 (pre.length : Nat) v22 (wr IntKind.i64 (v23 + 1)) (lcat (lsub w 0 (n : Int)) (p :: []))) else (bif decide ((n : Int) + 1 ≤ (w.length : Int)) then (κ1 v3 0 ((n : Int) + 1) v5 (pre.length : Nat) v22 (wr IntKind.i64 (v23 + 1)) (lcat (lcat (lsub w 0 (n : Int)) (p :: [])) (lsub w ((n : Int) + 1) (w.length : Int)))) else (none))) else (none)) = κ1 v3 0 ((pre.length + (stk s p).length : Nat) : Int) v5 (pre.length : Nat) v22 (v23 + 1) w' := by
      intro e
      rw [e, fits_l (by omega), cond_true, wr_s (by omega), cut_len hw p, (cut_facts hw).1]
      have hlen : pre.length + (p :: s).length = n + 1 := by simp; omega
      rw [hlen]
      by_cases hf : (n : Int) = (w.length : Int)
      · simp only [hf, decide_true, cond_true]
        obtain ⟨q1, q2⟩ := put_end (p := p) ht hn hw _ (.inl rfl)
        refine ⟨w.take n ++ [p], q1, q2, ?_⟩
        rw [lcat_eq]
      · have hle : (n : Int) + 1 ≤ (w.length : Int) := by omega
        simp only [hf, hle, decide_false, decide_true, cond_false, cond_true]
        obtain ⟨q1, q2⟩ := put_end (p := p) ht hn hw _ (.inr rfl)
        refine ⟨w.take n ++ [p] ++ w.drop (n + 1), q1, q2, ?_⟩
        have := (lsubk (a := w) (i := n + 1) (by omega)).2
        rw [show ((n + 1 : Nat) : Int) = (n : Int) + 1 by omega] at this
        rw [this, lcat_eq, lcat_eq]
        rfl
    rw [spec_bdBand_l2]
    simp only [iadd_eq, isub_eq, ilt_eq, ile_eq, ieq_eq, ilen_mapep, ilen_one, Int.zero_add, wr_s (show -1000000 ≤ ((pre.length : Nat) : Int) + 1 ∧ ((pre.length : Nat) : Int) + 1 ≤ 1000000 by omega)]
    match s, hN, hm, hn, ht, lay with
    | [], hN, hm, hn, ht, lay =>
      have hn1 : n = pre.length := by simpa using hn
      simp only [show ¬ ((pre.length : Nat) : Int) + 1 < (n : Int) by omega, decide_false, cond_false]
      exact lay rfl
    | [a], hN, hm, hn, ht, lay =>
      have hn1 : n = pre.length + 1 := by simpa using hn
      simp only [show ¬ ((pre.length : Nat) : Int) + 1 < (n : Int) by omega, decide_false, cond_false]
      exact lay rfl
    | b :: a :: r, hN, hm, hn, ht, lay =>
      have hn2 : n = pre.length + (r.length + 2) := by simpa using hn
      obtain ⟨g1, g2⟩ := rev_two ht hn2
      simp only [show ((pre.length : Nat) : Int) + 1 < (n : Int) by omega, decide_true, cond_true, wr_s (show -1000000 ≤ (n : Int) - 2 ∧ (n : Int) - 2 ≤ 1000000 by omega), wr_s (show -1000000 ≤ (n : Int) - 1 ∧ (n : Int) - 1 ≤ 1000000 by omega),
        show (0 : Int) ≤ (n : Int) - 2 by omega, show (n : Int) - 2 < (n : Int) by omega, show (0 : Int) ≤ (n : Int) - 1 by omega, show (n : Int) - 1 < (n : Int) by omega, Bool.and_self, g1, g2, gbind_eq, Option.bind_some,
        spec_pgTurn_eq (hN a (by simp)) (hN b (by simp)) hp]
      by_cases hc : turn a b p ≤ 0
      · have e : stk (b :: a :: r) p = stk (a :: r) p := by rw [stk]; simp [hc]
        simp only [hc, decide_true, cond_true, Bool.not_false, show (n : Int) - 1 ≤ (w.length : Int) by omega, Bool.and_self]
        have := ih (a :: r) w (n - 1) (fun x hx => hN x (List.mem_cons_of_mem _ hx)) (by simp at hm ⊢; omega) (by simp; omega) (by omega) (by omega) (by have := take_pop (s := a :: r) ht (by simpa using hn2); simpa using this)
        rw [show ((n - 1 : Nat) : Int) = (n : Int) - 1 by omega, ← e] at this
        exact this
      · have e : stk (b :: a :: r) p = p :: b :: a :: r := by rw [stk]; simp [hc]
        simp only [hc, decide_false, cond_false]
        exact lay e
theorem band_l3 {L : Nat} {κ1 : (List Pt) → Int → Int → Int → Int → Int → Int → (List Pt) → Option ((List Pt))} {v3 : List Pt} {v5 v22 v23 : Int} {p : Pt} {pre : List Pt} (hp : Nr p) (h23 : 0 ≤ v23 ∧ v23 ≤ 100000) :
    ∀ (m : Nat) (s w : List Pt) (n : Nat), (∀ x ∈ s, Nr x) → s.length < m → n = pre.length + s.length → n ≤ 100000 → n ≤ w.length → w.take n = pre ++ s.reverse →
      ∃ w', w'.take (pre.length + (stk s p).length) = pre ++ (stk s p).reverse ∧ pre.length + (stk s p).length ≤ w'.length ∧ spec_bdBand_l3 L κ1 v3 0 v5 (pre.length : Nat) v22 v23 w p m n = κ1 v3 0 ((pre.length + (stk s p).length : Nat) : Int) v5 (pre.length : Nat) v22 (v23 + 1) w' := by
  intro m
  induction m with
  | zero => intro s w n _ h; omega
  | succ m ih =>
    intro s w n hN hm hn hnb hw ht
    have lay : stk s p = p :: s → ∃ w', w'.take (pre.length + (stk s p).length) = pre ++ (stk s p).reverse ∧ pre.length + (stk s p).length ≤ w'.length ∧
        (bif fits ((n : Int) + 1) 16 then (bif decide ((n : Int) = (w.length : Int)) then (κ1 v3 0 (ilen (lcat (lsub (List.map ep w) 0 (n : Int)) [AV.agg [AV.int IntKind.i64 (Pt.x p), AV.int IntKind.i64 (Pt.y p)]])) v5 (pre.length : Nat) v22 (wr IntKind.i64 (v23 + 1)) (lcat (lsub w 0 (n : Int)) (p :: []))) else (bif decide ((n : Int) + 1 ≤ (w.length : Int)) then (κ1 v3 0 ((n : Int) + 1) v5 (pre.length : Nat) v22 (wr IntKind.i64 (v23 + 1)) (lcat (lcat (lsub w 0 (n : Int)) (p :: [])) (lsub w ((n : Int) + 1) (w.length : Int)))) else (none))) else (none)) = κ1 v3 0 ((pre.length + (stk s p).length : Nat) : Int) v5 (pre.length : Nat) v22 (v23 + 1) w' := by
      intro e
      rw [e, fits_l (by omega), cond_true, wr_s (by omega), cut_len hw p, (cut_facts hw).1]
      have hlen : pre.length + (p :: s).length = n + 1 := by simp; omega
      rw [hlen]
      by_cases hf : (n : Int) = (w.length : Int)
      · simp only [hf, decide_true, cond_true]
        obtain ⟨q1, q2⟩ := put_end (p := p) ht hn hw _ (.inl rfl)
        refine ⟨w.take n ++ [p], q1, q2, ?_⟩
        rw [lcat_eq]
      · have hle : (n : Int) + 1 ≤ (w.length : Int) := by omega
        simp only [hf, hle, decide_false, decide_true, cond_false, cond_true]
        obtain ⟨q1, q2⟩ := put_end (p := p) ht hn hw _ (.inr rfl)
        refine ⟨w.take n ++ [p] ++ w.drop (n + 1), q1, q2, ?_⟩
        have := (lsubk (a := w) (i := n + 1) (by omega)).2
        rw [show ((n + 1 : Nat) : Int) = (n : Int) + 1 by omega] at this
        rw [this, lcat_eq, lcat_eq]
        rfl
    rw [spec_bdBand_l3]
    simp only [iadd_eq, isub_eq, ilt_eq, ile_eq, ieq_eq, ilen_mapep, ilen_one, Int.zero_add, wr_s (show -1000000 ≤ ((pre.length : Nat) : Int) + 1 ∧ ((pre.length : Nat) : Int) + 1 ≤ 1000000 by omega)]
    match s, hN, hm, hn, ht, lay with
    | [], hN, hm, hn, ht, lay =>
      have hn1 : n = pre.length := by simpa using hn
      simp only [show ¬ ((pre.length : Nat) : Int) + 1 < (n : Int) by omega, decide_false, cond_false]
      exact lay rfl
    | [a], hN, hm, hn, ht, lay =>
      have hn1 : n = pre.length + 1 := by simpa using hn
      simp only [show ¬ ((pre.length : Nat) : Int) + 1 < (n : Int) by omega, decide_false, cond_false]
      exact lay rfl
    | b :: a :: r, hN, hm, hn, ht, lay =>
      have hn2 : n = pre.length + (r.length + 2) := by simpa using hn
      obtain ⟨g1, g2⟩ := rev_two ht hn2
      simp only [show ((pre.length : Nat) : Int) + 1 < (n : Int) by omega, decide_true, cond_true, wr_s (show -1000000 ≤ (n : Int) - 2 ∧ (n : Int) - 2 ≤ 1000000 by omega), wr_s (show -1000000 ≤ (n : Int) - 1 ∧ (n : Int) - 1 ≤ 1000000 by omega),
        show (0 : Int) ≤ (n : Int) - 2 by omega, show (n : Int) - 2 < (n : Int) by omega, show (0 : Int) ≤ (n : Int) - 1 by omega, show (n : Int) - 1 < (n : Int) by omega, Bool.and_self, g1, g2, gbind_eq, Option.bind_some,
        spec_pgTurn_eq (hN a (by simp)) (hN b (by simp)) hp]
      by_cases hc : turn a b p ≤ 0
      · have e : stk (b :: a :: r) p = stk (a :: r) p := by rw [stk]; simp [hc]
        simp only [hc, decide_true, cond_true, Bool.not_false, show (n : Int) - 1 ≤ (w.length : Int) by omega, Bool.and_self]
        have := ih (a :: r) w (n - 1) (fun x hx => hN x (List.mem_cons_of_mem _ hx)) (by simp at hm ⊢; omega) (by simp; omega) (by omega) (by omega) (by have := take_pop (s := a :: r) ht (by simpa using hn2); simpa using this)
        rw [show ((n - 1 : Nat) : Int) = (n : Int) - 1 by omega, ← e] at this
        exact this
      · have e : stk (b :: a :: r) p = p :: b :: a :: r := by rw [stk]; simp [hc]
        simp only [hc, decide_false, cond_false]
        exact lay e
theorem stk_nr {p : Pt} (hp : Nr p) : ∀ {s : List Pt}, (∀ x ∈ s, Nr x) → ∀ x ∈ stk s p, Nr x := by
  have sub : ∀ (s : List Pt) (x : Pt), x ∈ stk s p → x = p ∨ x ∈ s := by
    intro s
    induction s with
    | nil => intro x hx; simp [stk] at hx; exact .inl hx
    | cons b s ihs =>
      intro x hx
      cases s with
      | nil => simp [stk] at hx; rcases hx with rfl | rfl <;> simp
      | cons c r =>
        rw [stk] at hx
        split at hx
        · rcases ihs x hx with h | h
          · exact .inl h
          · exact .inr (List.mem_cons_of_mem _ h)
        · rcases List.mem_cons.1 hx with rfl | hx
          · exact .inl rfl
          · exact .inr hx
  intro s hs x hx
  rcases sub s x hx with rfl | h
  · exact hp
  · exact hs x h
theorem band_lo {L : Nat} {κ0 : (List Pt) → Int → Int → Int → (List Pt) → Option ((List Pt))} {a : List Pt} (hs : (a.length : Int) ≤ 1000) (hL : (a.length : Int) + 5 < L) (hN : ∀ x ∈ a, Nr x) (hne : a ≠ []) : ∀ (m i : Nat) (s w : List Pt), i ≤ a.length → s.length ≤ i → (∀ x ∈ s, Nr x) → s.length ≤ w.length → w.take s.length = s.reverse → a.length - i < m →
    ∃ w', ((a.drop i).foldl stk s).length ≤ w'.length ∧ w'.take ((a.drop i).foldl stk s).length = ((a.drop i).foldl stk s).reverse ∧ (0 < ((a.drop i).foldl stk s).length → spec_bdBand_l1 L κ0 m a 0 s.length 0 0 a.length i w = κ0 a 0 ((((a.drop i).foldl stk s).length : Int) - 1) 1 w') ∧ ((a.drop i).foldl stk s).length ≤ a.length := by
  intro m
  induction m with
  | zero => intro i s w _ _ _ _ _ h; omega
  | succ m ih =>
    intro i s w hi hsi hsN hsw ht hm
    by_cases h : (i : Int) < (a.length : Int)
    · have hg : a[i]? = some (pt a i) := by have := pt_get (a := a) (i := (i : Int)) (by omega) h; rwa [Int.toNat_natCast] at this
      have hlt : i < a.length := by omega
      have hpN : Nr (pt a i) := hN _ (List.mem_of_getElem? hg)
      obtain ⟨w', q1, q2, q3⟩ := band_l3 (L := L) (κ1 := spec_bdBand_l1 L κ0 m) (v3 := a) (v5 := 0) (v22 := a.length) (v23 := i) (pre := []) hpN (by omega) L s w s.length hsN (by omega) (by simp) (by omega) hsw (by simpa using ht)
      simp only [List.length_nil, Nat.zero_add, List.nil_append, show ((0 : Nat) : Int) = 0 by rfl] at q1 q2 q3
      have hlen := stk_len (pt a i) s
      have e : (a.drop i).foldl stk s = (a.drop (i + 1)).foldl stk (stk s (pt a i)) := by
        rw [List.drop_eq_getElem_cons hlt, List.foldl_cons]
        rw [List.getElem?_eq_getElem hlt] at hg
        rw [Option.some.inj hg]
      obtain ⟨w2, r1, r2, r3, r4⟩ := ih (i + 1) (stk s (pt a i)) w' (by omega) (by omega) (stk_nr hpN hsN) q2 q1 (by omega)
      rw [e]
      refine ⟨w2, r1, r2, fun h0 => ?_, r4⟩
      rw [spec_bdBand_l1]
      simp only [ilt_eq, h, decide_true, cond_true, lget_pt (show (0 : Int) ≤ i by omega) h, gbind_eq, Option.bind_some, ieq_eq, show ¬ (0 : Int) = 1 by omega, decide_false, cond_false]
      rw [q3]
      have := r3 h0
      rw [show ((i + 1 : Nat) : Int) = (i : Int) + 1 by omega] at this
      exact this
    · have hd : a.drop i = [] := List.drop_of_length_le (by omega)
      rw [hd]
      refine ⟨w, hsw, ht, fun h0 => ?_, by simp only [List.foldl_nil]; omega⟩
      simp only [List.foldl_nil] at h0 ⊢
      rw [spec_bdBand_l1]
      simp only [ilt_eq, h, decide_false, cond_false, isub_eq, iadd_eq, ile_eq, ilen_mapep, Int.zero_add]
      rw [wr_s (by omega), wr_s (by omega)]
      simp only [Bool.not_false, show (0 : Int) ≤ (s.length : Int) - 1 by omega, show (s.length : Int) - 1 ≤ (w.length : Int) by omega, decide_true, Bool.and_self, cond_true]
theorem band_up {L : Nat} {κ0 : (List Pt) → Int → Int → Int → (List Pt) → Option ((List Pt))} {a pre : List Pt} (hs : (a.length : Int) ≤ 1000) (hL : (a.length : Int) + 5 < L) (hN : ∀ x ∈ a, Nr x) (hpre : pre.length ≤ a.length) : ∀ (m i : Nat) (s w : List Pt), i ≤ a.length → s.length ≤ i → (∀ x ∈ s, Nr x) → pre.length + s.length ≤ w.length → w.take (pre.length + s.length) = pre ++ s.reverse → a.length - i < m →
    ∃ w', pre.length + ((a.reverse.drop i).foldl stk s).length ≤ w'.length ∧ w'.take (pre.length + ((a.reverse.drop i).foldl stk s).length) = pre ++ ((a.reverse.drop i).foldl stk s).reverse ∧
      (0 < ((a.reverse.drop i).foldl stk s).length → spec_bdBand_l1 L κ0 m a 0 ((pre.length + s.length : Nat) : Int) 1 (pre.length : Nat) a.length i w = κ0 a 0 (((pre.length + ((a.reverse.drop i).foldl stk s).length : Nat) : Int) - 1) 2 w') ∧ ((a.reverse.drop i).foldl stk s).length ≤ a.length := by
  intro m
  induction m with
  | zero => intro i s w _ _ _ _ _ h; omega
  | succ m ih =>
    intro i s w hi hsi hsN hsw ht hm
    by_cases h : (i : Int) < (a.length : Int)
    · have hlt : i < a.reverse.length := by simp; omega
      have hg : a[a.length - 1 - i]? = some (pt a ((a.length : Int) - 1 - i)) := by have := pt_get (a := a) (i := (a.length : Int) - 1 - i) (by omega) (by omega); rwa [show ((a.length : Int) - 1 - i).toNat = a.length - 1 - i by omega] at this
      have hpN : Nr (pt a ((a.length : Int) - 1 - i)) := hN _ (List.mem_of_getElem? hg)
      obtain ⟨w', q1, q2, q3⟩ := band_l2 (L := L) (κ1 := spec_bdBand_l1 L κ0 m) (v3 := a) (v5 := 1) (v22 := a.length) (v23 := i) (pre := pre) hpN (by omega) L s w (pre.length + s.length) hsN (by omega) rfl (by omega) hsw ht
      have hlen := stk_len (pt a ((a.length : Int) - 1 - i)) s
      have e : (a.reverse.drop i).foldl stk s = (a.reverse.drop (i + 1)).foldl stk (stk s (pt a ((a.length : Int) - 1 - i))) := by
        rw [List.drop_eq_getElem_cons hlt, List.foldl_cons]
        have : a.reverse[i] = pt a ((a.length : Int) - 1 - i) := by
          have h2 : a.reverse[i]? = some (pt a ((a.length : Int) - 1 - i)) := by rw [List.getElem?_reverse (by omega)]; exact hg
          rw [List.getElem?_eq_getElem hlt] at h2
          exact Option.some.inj h2
        rw [this]
      obtain ⟨w2, r1, r2, r3, r4⟩ := ih (i + 1) (stk s (pt a ((a.length : Int) - 1 - i))) w' (by omega) (by omega) (stk_nr hpN hsN) q2 q1 (by omega)
      rw [e]
      refine ⟨w2, r1, r2, fun h0 => ?_, r4⟩
      rw [spec_bdBand_l1]
      simp only [ilt_eq, h, decide_true, cond_true, lget_pt (show (0 : Int) ≤ i by omega) h, gbind_eq, Option.bind_some, ieq_eq, ilen_mapep, isub_eq]
      rw [wr_s (show -1000000 ≤ (a.length : Int) - 1 ∧ (a.length : Int) - 1 ≤ 1000000 by omega), wr_s (show -1000000 ≤ (a.length : Int) - 1 - i ∧ (a.length : Int) - 1 - i ≤ 1000000 by omega)]
      simp only [lget_pt (show (0 : Int) ≤ (a.length : Int) - 1 - i by omega) (show (a.length : Int) - 1 - i < (a.length : Int) by omega), Option.bind_some]
      rw [q3]
      have := r3 h0
      rw [show ((i + 1 : Nat) : Int) = (i : Int) + 1 by omega] at this
      exact this
    · have hd : a.reverse.drop i = [] := List.drop_of_length_le (by simp; omega)
      rw [hd]
      refine ⟨w, hsw, ht, fun h0 => ?_, by simp only [List.foldl_nil]; omega⟩
      simp only [List.foldl_nil] at h0 ⊢
      rw [spec_bdBand_l1]
      simp only [ilt_eq, h, decide_false, cond_false, isub_eq, iadd_eq, ile_eq, ilen_mapep, Int.zero_add]
      rw [wr_s (by omega), wr_s (by omega)]
      simp only [Bool.not_false, show (0 : Int) ≤ ((pre.length + s.length : Nat) : Int) - 1 by omega, show ((pre.length + s.length : Nat) : Int) - 1 ≤ (w.length : Int) by omega, decide_true, Bool.and_self, cond_true]
      rfl
theorem bandL_few {l : List Pt} (h : l.length < 3) : bandL l = l := by
  match l, h with
  | [], _ => rfl
  | [a], _ => rfl
  | [a, b], _ => rfl
theorem dropLast_take (l : List Pt) : l.dropLast = l.take (l.length - 1) := List.dropLast_eq_take
theorem spec_bdBand_eq {L : Nat} {a : List Pt} (hs : (a.length : Int) ≤ 1000) (hL : (a.length : Int) + 5 < L) (hN : ∀ x ∈ a, Nr x) : spec_bdBand L a = some (bandL (isort a)) := by
  unfold spec_bdBand
  rw [spec_bdSorted_eq hs (by omega)]
  simp only [gbind_eq, Option.bind_some, ilen_mapep, ilt_eq, show ilen ([] : List AV) = 0 by rw [ilen_eq]; rfl]
  have hlen := isort_len a
  generalize hl : isort a = l at *
  have hN' : ∀ x ∈ l, Nr x := fun x hx => hN x (isort_mem.1 (hl ▸ hx))
  by_cases h3 : (l.length : Int) < 3
  · simp only [h3, decide_true, cond_true]
    rw [bandL_few (by omega)]
  · simp only [h3, decide_false, cond_false]
    have hne : l ≠ [] := by intro e; subst e; simp at h3
    obtain ⟨m, rfl⟩ : ∃ m, L = m + 3 := ⟨L - 3, by omega⟩
    have e1 := side_ends (l := l) (by omega)
    have e2 := side_ends (l := l.reverse) (by simp; omega)
    unfold sideL at e1 e2
    rw [List.length_reverse] at e1 e2
    obtain ⟨w1, q1, q2, q3, q4⟩ := band_lo (L := m + 3) (κ0 := spec_bdBand_l0 (m + 3) (m + 2)) (a := l) (by omega) (by omega) hN' hne (m + 3) 0 [] [] (by omega) (by simp) (by simp) (by simp) rfl (by omega)
    rw [List.drop_zero] at q1 q2 q3 q4
    have es : l.foldl stk [] = stack l := rfl
    rw [es] at q1 q2 q3 q4
    have q3 := q3 (by omega)
    simp only [List.length_nil, show ((0 : Nat) : Int) = 0 by rfl] at q3
    rw [spec_bdBand_l0]
    simp only [ilt_eq, show (0 : Int) < 2 by omega, decide_true, cond_true, ilen_mapep]
    rw [q3]
    have hpl : ((stack l).reverse.dropLast).length = (stack l).length - 1 := by simp
    obtain ⟨w2, p1, p2, p3, p4⟩ := band_up (L := m + 3) (κ0 := spec_bdBand_l0 (m + 3) (m + 1)) (a := l) (pre := (stack l).reverse.dropLast) (by omega) (by omega) hN' (by omega) (m + 3) 0 [] w1 (by omega) (by simp) (by simp) (by simp; omega) (by
      simp only [List.length_nil, Nat.add_zero, List.reverse_nil, List.append_nil]
      rw [hpl, List.dropLast_eq_take, ← q2, List.take_take, List.length_take]
      congr 1; omega) (by omega)
    rw [List.drop_zero] at p1 p2 p3 p4
    have es2 : l.reverse.foldl stk [] = stack l.reverse := rfl
    rw [es2] at p1 p2 p3 p4
    have p3 := p3 (by omega)
    simp only [List.length_nil, Nat.add_zero, show ((0 : Nat) : Int) = 0 by rfl] at p3
    rw [show m + 2 = (m + 1) + 1 by rfl, spec_bdBand_l0]
    simp only [ilt_eq, show (1 : Int) < 2 by omega, decide_true, cond_true, ilen_mapep]
    rw [show ((stack l).length : Int) - 1 = (((stack l).reverse.dropLast).length : Int) by omega, p3, spec_bdBand_l0]
    simp only [ilt_eq, show ¬ (2 : Int) < 2 by omega, decide_false, cond_false, iadd_eq, Int.zero_add]
    congr 1
    unfold bandL sideL
    rw [if_neg (by omega), lsub_eq]
    rw [show (0 : Int).toNat = 0 by rfl, List.drop_zero, Int.sub_zero, show ((((stack l).reverse.dropLast.length + (stack l.reverse).length : Nat) : Int) - 1).toNat = (stack l).reverse.dropLast.length + (stack l.reverse).length - 1 by omega]
    have : w2.take ((stack l).reverse.dropLast.length + (stack l.reverse).length - 1) = (w2.take ((stack l).reverse.dropLast.length + (stack l.reverse).length)).take ((stack l).reverse.dropLast.length + (stack l.reverse).length - 1) := by rw [List.take_take]; congr 1; omega
    rw [this, p2, show (stack l).reverse.dropLast.length + (stack l.reverse).length - 1 = (stack l).reverse.dropLast.length + ((stack l.reverse).length - 1) by omega, List.take_length_add_append, dropLast_take (stack l.reverse).reverse, List.length_reverse]
end Go.AM
namespace Go.AM
theorem grow_eq {L : Nat} {n : Int} (h0 : 0 ≤ n) (h1 : n ≤ 1000000) : slices_Grow_impl_Peg_impl_Peg_v2 L n = some [] := by
  unfold slices_Grow_impl_Peg_impl_Peg_v2
  have w0 : wr .i64 (isub 0 0) = 0 := by rw [isub_eq]; exact wr_id (by omega)
  have w1 : wr .i64 (isub n 0) = n := by rw [isub_eq, Int.sub_zero]; exact wr_id (by omega)
  simp only [w0, w1, ilt_eq, show ¬ n < 0 by omega, decide_false, cond_false, ieq_eq, decide_true, cond_true, ile_eq]
  by_cases h : 0 < n
  · have hl : ilen (lrep n (AV.agg [AV.int IntKind.i64 0, AV.int IntKind.i64 0])) = n := by rw [lrep_eq, ilen_eq]; simp; omega
    simp only [h, decide_true, cond_true, Bool.true_and, hl, h0, show (0 : Int) ≤ 0 by omega, fits_l (show n * (16 : Nat) ≤ 140737488355328 by omega)]
    rw [lsub_eq, iadd_eq]
    simp
  · simp only [h, decide_false, cond_false]
theorem concat_eq {L : Nat} {x y : List Pt} (hx : (x.length : Int) ≤ 10000) (hy : (y.length : Int) ≤ 10000) (hL : 10 < L) : slices_Concat_impl_Peg_impl_Peg L [x, y] = some (x ++ y) := by
  obtain ⟨m, rfl⟩ : ∃ m, L = m + 4 := ⟨L - 4, by omega⟩
  have hl : ilen (List.map eLP [x, y]) = 2 := by rw [ilen_eq]; rfl
  have g0 : lget [x, y] 0 = some x := by rw [lget_eq]; rfl
  have g1 : lget [x, y] 1 = some y := by rw [lget_eq]; rfl
  unfold slices_Concat_impl_Peg_impl_Peg
  simp only [slices_Concat_impl_Peg_impl_Peg_l0, hl, ilt_eq, show (0 : Int) < 2 by omega, decide_true, cond_true, g0, gbind_eq, Option.bind_some, ilen_mapep, iadd_eq, Int.zero_add]
  rw [wr_s (show -1000000 ≤ (x.length : Int) ∧ (x.length : Int) ≤ 1000000 by omega), wr_s (show -1000000 ≤ (1 : Int) ∧ (1 : Int) ≤ 1000000 by omega)]
  simp only [show ¬ (x.length : Int) < 0 by omega, decide_false, cond_false, show (1 : Int) < 2 by omega, decide_true, cond_true, g1, Option.bind_some]
  rw [wr_s (show -1000000 ≤ (x.length : Int) + (y.length : Int) ∧ (x.length : Int) + (y.length : Int) ≤ 1000000 by omega), wr_s (show -1000000 ≤ (1 : Int) + 1 ∧ (1 : Int) + 1 ≤ 1000000 by omega)]
  simp only [show ¬ (x.length : Int) + (y.length : Int) < 0 by omega, show ¬ (1 : Int) + 1 < 2 by omega, decide_false, cond_false]
  rw [grow_eq (by omega) (by omega)]
  simp only [Option.bind_some, slices_Concat_impl_Peg_impl_Peg_l1, hl, ilt_eq, show (0 : Int) < 2 by omega, decide_true, cond_true, g0, gbind_eq, ilen_mapep, iadd_eq, List.length_nil, Int.zero_add, lcat_eq, List.nil_append]
  rw [wr_s (show -1000000 ≤ (1 : Int) ∧ (1 : Int) ≤ 1000000 by omega), fits_l (show (((0 : Nat) : Int) + (x.length : Int)) * (16 : Nat) ≤ 140737488355328 by omega)]
  simp only [show (1 : Int) < 2 by omega, decide_true, cond_true, g1, Option.bind_some]
  rw [fits_l (show ((x.length : Int) + (y.length : Int)) * (16 : Nat) ≤ 140737488355328 by omega), wr_s (show -1000000 ≤ (1 : Int) + 1 ∧ (1 : Int) + 1 ≤ 1000000 by omega)]
  simp only [show ¬ (1 : Int) + 1 < 2 by omega, decide_false, cond_false, cond_true]
theorem fold_len' : ∀ (l s : List Pt), (l.foldl stk s).length ≤ s.length + l.length
  | [], s => by simp
  | p :: l, s => by
    have h1 := fold_len' l (stk s p)
    have h2 := stk_len p s
    simp only [List.foldl_cons, List.length_cons]
    omega
theorem impl_band_eq {L : Nat} {a : List Pt} (hn : a ≠ []) (hs : (a.length : Int) ≤ 1000) (hL : (a.length : Int) + 20 < L) (hN : ∀ x ∈ a, Nr x) : impl_band L a = some (bandL (isort a)) := by
  unfold impl_band
  rw [impl_sorted_eq hn (by omega)]
  have hlen := isort_len a
  have hpos := List.length_pos_iff.2 hn
  generalize hl : isort a = l at *
  have hN' : ∀ x ∈ l, Nr x := fun x hx => hN x (isort_mem.1 (hl ▸ hx))
  simp only [gbind_eq, Option.bind_some, ilen_mapep, ieq_eq]
  by_cases h1 : (l.length : Int) = 1
  · simp only [h1, decide_true, cond_true]
    unfold bandL
    rw [if_pos (by omega)]
  · simp only [h1, decide_false, cond_false]
    rw [impl_chain_eq (by omega) (by omega) hN', rev_eq (by omega) (by omega)]
    simp only [Option.bind_some]
    rw [impl_chain_eq (a := l.reverse) (by simp; omega) (by simp; omega) (fun x hx => hN' x (by simpa using hx))]
    have e1 := side_ends (l := l) (by omega)
    have e2 := side_ends (l := l.reverse) (by simp; omega)
    have b1 : (sideL l).length ≤ l.length := by have := fold_len' l []; unfold sideL stack; simpa using this
    have b2 : (sideL l.reverse).length ≤ l.length := by have := fold_len' l.reverse []; unfold sideL stack; simpa using this
    simp only [Option.bind_some, ilen_mapep, isub_eq, iadd_eq, ile_eq, Int.zero_add]
    rw [wr_s (show -1000000 ≤ ((sideL l).length : Int) - 1 ∧ ((sideL l).length : Int) - 1 ≤ 1000000 by omega), wr_s (show -1000000 ≤ ((sideL l.reverse).length : Int) - 1 ∧ ((sideL l.reverse).length : Int) - 1 ≤ 1000000 by omega)]
    simp only [show (0 : Int) ≤ ((sideL l).length : Int) - 1 by omega, show ((sideL l).length : Int) - 1 ≤ ((sideL l).length : Int) by omega, show (0 : Int) ≤ ((sideL l.reverse).length : Int) - 1 by omega, show ((sideL l.reverse).length : Int) - 1 ≤ ((sideL l.reverse).length : Int) by omega, decide_true, Bool.and_self, cond_true]
    have cut : ∀ w : List Pt, 2 ≤ w.length → lsub w 0 ((w.length : Int) - 1) = w.dropLast := fun w hw => by
      rw [lsub_eq, show (0 : Int).toNat = 0 by rfl, List.drop_zero, Int.sub_zero, show ((w.length : Int) - 1).toNat = w.length - 1 by omega, List.dropLast_eq_take]
    rw [cut _ e1.1, cut _ e2.1, concat_eq (by simp; omega) (by simp; omega) (by omega)]
    simp only [Option.bind_some]
    unfold bandL
    rw [if_neg (by omega)]
end Go.AM
namespace Go.AM
theorem fold_len : ∀ (l s : List Pt), (l.foldl stk s).length ≤ s.length + l.length
  | [], s => by simp
  | p :: l, s => by
    have h1 := fold_len l (stk s p)
    have h2 := stk_len p s
    simp only [List.foldl_cons, List.length_cons]
    omega
theorem band_len (l : List Pt) : (bandL l).length ≤ 2 * l.length + 1 := by
  unfold bandL
  split
  · omega
  · have h1 := fold_len l []
    have h2 := fold_len l.reverse []
    simp only [List.length_append, List.length_dropLast, sideL, List.length_reverse, List.length_nil] at *
    unfold stack
    omega
structure BandOf (a B : List Pt) : Prop where
  nn : B ≠ []
  len : (B.length : Int) ≤ 61
  isIn : ∀ i, In (pt B i)
  mem : ∀ x ∈ B, x ∈ a
theorem Diff.rise {a : List Pt} (h : Diff a) : Rise (isort a) := rise_of (isort_ord a) (isort_nodup h.nodup)
theorem Diff.band {a : List Pt} (h : Diff a) : BandOf a (bandL (isort a)) := by
  have hne : isort a ≠ [] := fun e => h.nn (List.eq_nil_of_length_eq_zero (by rw [← isort_len, e]; rfl))
  obtain ⟨h1, h2⟩ := band_mem h.rise hne
  have hm : ∀ x ∈ bandL (isort a), x ∈ a := fun x hx => isort_mem.1 (h2 x hx)
  refine ⟨h1, ?_, fun i => h.mem (hm _ (pt_mem h1 i)), hm⟩
  have := band_len (isort a)
  rw [isort_len] at this
  have := h.hi
  omega
theorem Diff.nr {a : List Pt} (h : Diff a) : ∀ x ∈ a, Nr x := fun x hx => (h.mem hx).nr
theorem area_one {L : Nat} {B : List Pt} (h : (B.length : Int) = 1) (hL : 3 < L) : spec_pgArea L B = some (area B) := by
  match B, h with
  | [p], _ =>
    obtain ⟨m, rfl⟩ : ∃ m, L = m + 1 := ⟨L - 1, by omega⟩
    have e : area [p] = 0 := by simp [area, sm, pt, cross]; grind
    unfold spec_pgArea
    rw [e]
    simp only [spec_pgArea_l0, ilen_mapep, ilt_eq]
    rfl
theorem pgArea_any {L : Nat} {B : List Pt} (hn : B ≠ []) (hs : (B.length : Int) ≤ 1000) (hL : (B.length : Int) + 3 < L) (hin : ∀ i, Nr (pt B i)) : spec_pgArea L B = some (area B) := by
  have hpos := List.length_pos_iff.2 hn
  by_cases h : (B.length : Int) = 1
  · exact area_one h (by omega)
  · exact spec_pgArea_eq (by omega) hs (by omega) hin
theorem twiceBand_eq {L : Nat} {a : List Pt} (hL : 5000 < L) : ∃ r, spec_TwiceBand L a = some r ∧ impl_TwiceBand L a = some r := by
  unfold spec_TwiceBand impl_TwiceBand
  rw [spec_bdGood_eq (by omega), impl_AreDifferent_eq (by omega)]
  simp only [gbind_eq, Option.bind_some]
  by_cases h : Diff a
  · have hb := h.band
    have hi := h.hi
    simp only [h, decide_true, Bool.not_true, cond_false]
    rw [spec_bdBand_eq (by omega) (by omega) h.nr, impl_band_eq h.nn (by omega) (by omega) h.nr]
    have hl := hb.len
    have hN : ∀ i, Nr (pt (bandL (isort a)) i) := fun i => (hb.isIn i).nr
    simp only [Option.bind_some]
    rw [pgArea_any hb.nn (by omega) (by omega) hN, impl_twice_eq hb.nn (by omega) (by omega) hN]
    exact ⟨_, rfl, rfl⟩
  · simp only [h, decide_false, Bool.not_false, cond_true]
    exact ⟨_, rfl, rfl⟩
theorem step_sym (p q : Pt) : step p q = step q p := by
  unfold step
  congr 2
  · omega
  · omega
theorem countInBand_eq {L : Nat} {a : List Pt} (hL : 5000 < L) : ∃ r, spec_CountInBand L a = some r ∧ impl_CountInBand L a = some r := by
  unfold spec_CountInBand impl_CountInBand
  rw [spec_bdGood_eq (by omega), impl_AreDifferent_eq (by omega)]
  simp only [gbind_eq, Option.bind_some]
  by_cases h : Diff a
  · have hb := h.band
    have hi := h.hi
    simp only [h, decide_true, Bool.not_true, cond_false]
    rw [spec_bdBand_eq (by omega) (by omega) h.nr, impl_band_eq h.nn (by omega) (by omega) h.nr]
    have hl := hb.len
    have hN : ∀ i, Nr (pt (bandL (isort a)) i) := fun i => (hb.isIn i).nr
    revert hb hl hN
    generalize bandL (isort a) = B
    intro hb hl hN
    simp only [Option.bind_some]
    rw [impl_twice_eq hb.nn (by omega) (by omega) hN, impl_around_eq hb.nn (by omega) (by omega) hN]
    simp only [ilen_mapep, ieq_eq, Option.bind_some, show ¬ (2 : Int) = 0 by omega, decide_false, cond_false, iadd_eq, iquo_eq]
    have hpos := List.length_pos_iff.2 hb.nn
    by_cases h1 : (B.length : Int) = 1
    · simp only [h1, decide_true, cond_true]
      match B, h1 with
      | [p], _ =>
        have e1 : area [p] = 0 := by simp [area, sm, pt, cross]; grind
        have e2 : round [p] = 0 := by simp [round, sm, pt, step]
        rw [e1, e2]
        refine ⟨_, rfl, ?_⟩
        rw [show (0 : Int) + 0 = 0 by omega, wr_s (show -1000000 ≤ (0 : Int) ∧ (0 : Int) ≤ 1000000 by omega), show (0 : Int).tdiv 2 = 0 by decide, wr_s (show -1000000 ≤ (0 : Int) ∧ (0 : Int) ≤ 1000000 by omega), wr_s (show -1000000 ≤ (0 : Int) + 1 ∧ (0 : Int) + 1 ≤ 1000000 by omega)]
        rfl
    · by_cases h2 : (B.length : Int) = 2
      · simp only [h2, decide_true, cond_true, show ¬ (2 : Int) = 1 by omega, decide_false, cond_false]
        have g0 : lget B 0 = some (pt B 0) := lget_pt (by omega) (by omega)
        have g1 : lget B 1 = some (pt B 1) := lget_pt (by omega) (by omega)
        rw [g0, g1]
        simp only [Option.bind_some]
        rw [spec_pgStep_eq (hN 0) (hN 1) (by omega)]
        simp only [Option.bind_some]
        have hp2 : pt B 2 = pt B 0 := by have := pt_per B 0; rwa [h2] at this
        have hBl : B.length = 2 := by omega
        have e1 : area B = 0 := by
          unfold area; rw [hBl]; simp only [sm]
          rw [show ((0 : Nat) : Int) = 0 by rfl, show ((1 : Nat) : Int) = 1 by rfl, show (0 : Int) + 1 = 1 by omega, show (1 : Int) + 1 = 2 by omega, hp2]
          unfold cross; grind
        have e2 : round B = 2 * step (pt B 0) (pt B 1) := by
          unfold round; rw [hBl]; simp only [sm]
          rw [show ((0 : Nat) : Int) = 0 by rfl, show ((1 : Nat) : Int) = 1 by rfl, show (0 : Int) + 1 = 1 by omega, show (1 : Int) + 1 = 2 by omega, hp2, step_sym (pt B 1) (pt B 0)]
          omega
        have sb := step_bd (hN 0) (hN 1)
        have sn := step_nn (pt B 0) (pt B 1)
        rw [e1, e2]
        refine ⟨_, rfl, ?_⟩
        rw [wr_s (show -1000000 ≤ (0 : Int) + 2 * step (pt B 0) (pt B 1) ∧ (0 : Int) + 2 * step (pt B 0) (pt B 1) ≤ 1000000 by omega)]
        have : ((0 : Int) + 2 * step (pt B 0) (pt B 1)).tdiv 2 = step (pt B 0) (pt B 1) := by rw [Int.zero_add, Int.mul_tdiv_cancel_left _ (by omega)]
        rw [this, wr_s (show -1000000 ≤ step (pt B 0) (pt B 1) ∧ step (pt B 0) (pt B 1) ≤ 1000000 by omega)]
      · simp only [h1, h2, decide_false, cond_false]
        rw [spec_pgArea_eq (by omega) (by omega) (by omega) hN, spec_pgRound_eq hb.nn (by omega) (by omega) hN]
        exact ⟨_, rfl, rfl⟩
  · simp only [h, decide_false, Bool.not_false, cond_true]
    exact ⟨_, rfl, rfl⟩
end Go.AM
namespace Go.AM
def pth (f : Pt → Pt → Int) : List Pt → Int
  | a :: b :: r => f a b + pth f (b :: r)
  | _ => 0
theorem pth_app (f : Pt → Pt → Int) (m : Pt) (y : List Pt) : ∀ x : List Pt, pth f (x ++ m :: y) = pth f (x ++ [m]) + pth f (m :: y)
  | [] => by simp [pth]
  | [a] => by simp [pth]
  | a :: b :: x => by
    have := pth_app f m y (b :: x)
    simp only [List.cons_append, pth] at this ⊢
    omega
theorem pth_last (f : Pt → Pt → Int) (x : List Pt) (a b : Pt) : pth f (x ++ [a, b]) = pth f (x ++ [a]) + f a b := by
  rw [pth_app f a [b] x]; simp [pth]
def cs (a b : Pt) : Int := cross a b + step a b
theorem step_one {a b : Pt} (h : a ≠ b) : 1 ≤ step a b := step_pos h
theorem mul_ge {a b : Int} (ha : 1 ≤ a) (hb : 1 ≤ b) : a + b - 1 ≤ a * b := by
  have : 0 ≤ (a - 1) * (b - 1) := Int.mul_nonneg (by omega) (by omega)
  have e : (a - 1) * (b - 1) = a * b - a - b + 1 := by grind
  omega
theorem prim {x y : Int} {d : Nat} (hd : d = Nat.gcd x.natAbs y.natAbs) (h0 : d ≠ 0) : ∃ u v : Int, x = d * u ∧ y = d * v ∧ Nat.gcd u.natAbs v.natAbs = 1 := by
  have h1 : (d : Int) ∣ x := by rw [← Int.natAbs_dvd_natAbs]; simp only [Int.natAbs_natCast]; rw [hd]; exact Nat.gcd_dvd_left _ _
  have h2 : (d : Int) ∣ y := by rw [← Int.natAbs_dvd_natAbs]; simp only [Int.natAbs_natCast]; rw [hd]; exact Nat.gcd_dvd_right _ _
  obtain ⟨u, hu⟩ := h1
  obtain ⟨v, hv⟩ := h2
  refine ⟨u, v, hu, hv, ?_⟩
  have e : Nat.gcd x.natAbs y.natAbs = d * Nat.gcd u.natAbs v.natAbs := by
    rw [hu, hv, Int.natAbs_mul, Int.natAbs_mul, Int.natAbs_natCast, Nat.gcd_mul_left]
  rw [← hd] at e
  have : d * 1 = d * Nat.gcd u.natAbs v.natAbs := by omega
  exact (Nat.eq_of_mul_eq_mul_left (by omega) this).symm
theorem same_prim {u v s t : Int} (h : u * t = v * s) (g : Nat.gcd u.natAbs v.natAbs = 1) (k : Nat.gcd s.natAbs t.natAbs = 1) : u.natAbs = s.natAbs ∧ v.natAbs = t.natAbs := by
  have e : u.natAbs * t.natAbs = v.natAbs * s.natAbs := by rw [← Int.natAbs_mul, ← Int.natAbs_mul, h]
  have c1 : Nat.Coprime u.natAbs v.natAbs := g
  have c2 : Nat.Coprime s.natAbs t.natAbs := k
  have d1 : u.natAbs ∣ s.natAbs := c1.dvd_of_dvd_mul_left ⟨_, e.symm⟩
  have d2 : s.natAbs ∣ u.natAbs := c2.dvd_of_dvd_mul_right ⟨v.natAbs, by rw [e]; exact Nat.mul_comm _ _⟩
  have d3 : v.natAbs ∣ t.natAbs := c1.symm.dvd_of_dvd_mul_left ⟨s.natAbs, e⟩
  have d4 : t.natAbs ∣ v.natAbs := c2.symm.dvd_of_dvd_mul_right ⟨u.natAbs, by rw [← e]; exact Nat.mul_comm _ _⟩
  exact ⟨Nat.dvd_antisymm d1 d2, Nat.dvd_antisymm d3 d4⟩
theorem step_tri {a b p : Pt} (h1 : Less a b) (h2 : Less b p) (ht : turn a b p ≤ 0) : step a b + step b p ≤ step a p - turn a b p := by
  have n1 : a ≠ b := fun e => Less.irrefl b (e ▸ h1)
  have n2 : b ≠ p := fun e => Less.irrefl p (e ▸ h2)
  have n3 : a ≠ p := by intro e; subst e; exact Less.irrefl a (h1.trans h2)
  have s1 := step_one n1
  have s2 := step_one n2
  have s3 := step_one n3
  obtain ⟨u, v, hu, hv, g⟩ := prim (x := a.x - b.x) (y := a.y - b.y) rfl (by unfold step at s1; omega)
  obtain ⟨s, t, hs, ht', k⟩ := prim (x := b.x - p.x) (y := b.y - p.y) rfl (by unfold step at s2; omega)
  have eu : a.x - b.x = step a b * u := hu
  have ev : a.y - b.y = step a b * v := hv
  have es : b.x - p.x = step b p * s := hs
  have et : b.y - p.y = step b p * t := ht'
  have e : turn a b p = step a b * step b p * (u * t - v * s) := by
    have : turn a b p = (a.x - b.x) * (b.y - p.y) - (a.y - b.y) * (b.x - p.x) := by unfold turn; grind
    rw [this, eu, ev, es, et]; grind
  rcases Int.lt_or_eq_of_le ht with hlt | heq
  · have hn : u * t - v * s ≤ -1 := by
      rcases Int.lt_or_le (u * t - v * s) 0 with h | h
      · omega
      · exfalso
        have := Int.mul_nonneg (Int.mul_nonneg (show 0 ≤ step a b by omega) (show 0 ≤ step b p by omega)) h
        omega
    have m := mul_ge s1 s2
    have q : step a b * step b p * (u * t - v * s) ≤ step a b * step b p * (-1) := Int.mul_le_mul_of_nonneg_left hn (Int.mul_nonneg (by omega) (by omega))
    omega
  · have hz : u * t - v * s = 0 := by
      rw [heq] at e
      rcases Int.mul_eq_zero.1 e.symm with h | h
      · rcases Int.mul_eq_zero.1 h with h | h <;> omega
      · exact h
    obtain ⟨q1, q2⟩ := same_prim (by omega) g k
    have su : (u = s ∧ v = t) := by
      have pu : 0 < -u ∨ (u = 0 ∧ 0 < -v) := by
        rcases h1 with h | ⟨h, h'⟩
        · left
          rcases Int.lt_or_le 0 (-u) with c | c
          · exact c
          · have := Int.mul_nonneg (show 0 ≤ step a b by omega) (show 0 ≤ u by omega); omega
        · right
          have z : step a b * u = 0 := by omega
          refine ⟨?_, ?_⟩
          · rcases Int.mul_eq_zero.1 z with c | c <;> omega
          · rcases Int.lt_or_le 0 (-v) with c | c
            · exact c
            · have := Int.mul_nonneg (show 0 ≤ step a b by omega) (show 0 ≤ v by omega); omega
      have ps : 0 < -s ∨ (s = 0 ∧ 0 < -t) := by
        rcases h2 with h | ⟨h, h'⟩
        · left
          rcases Int.lt_or_le 0 (-s) with c | c
          · exact c
          · have := Int.mul_nonneg (show 0 ≤ step b p by omega) (show 0 ≤ s by omega); omega
        · right
          have z : step b p * s = 0 := by omega
          refine ⟨?_, ?_⟩
          · rcases Int.mul_eq_zero.1 z with c | c <;> omega
          · rcases Int.lt_or_le 0 (-t) with c | c
            · exact c
            · have := Int.mul_nonneg (show 0 ≤ step b p by omega) (show 0 ≤ t by omega); omega
      have us : u = s := by omega
      refine ⟨us, ?_⟩
      by_cases c : u = 0
      · omega
      · have : u * (t - v) = 0 := by rw [us] at hz ⊢; grind
        rcases Int.mul_eq_zero.1 this with c' | c' <;> omega
    obtain ⟨rfl, rfl⟩ := su
    have ep : step a p = step a b + step b p := by
      have x1 : a.x - p.x = (step a b + step b p) * u := by rw [Int.add_mul]; omega
      have y1 : a.y - p.y = (step a b + step b p) * v := by rw [Int.add_mul]; omega
      have : step a p = (Nat.gcd ((step a b + step b p) * u).natAbs ((step a b + step b p) * v).natAbs : Int) := by unfold step at x1 y1 ⊢; rw [x1, y1]
      rw [this, Int.natAbs_mul, Int.natAbs_mul, Nat.gcd_mul_left, g, Nat.mul_one]
      omega
    omega
end Go.AM
namespace Go.AM
theorem cs_tri {a b p : Pt} (h1 : Less a b) (h2 : Less b p) (ht : turn a b p ≤ 0) : cs a b + cs b p ≤ cs a p := by
  have := step_tri h1 h2 ht
  have e := turn_cross a b p
  unfold cs
  omega
theorem stk_W {p : Pt} : ∀ {s : List Pt} {t : Pt}, Edges Less (t :: s) → Less t p → pth cs (t :: s).reverse + cs t p ≤ pth cs (stk (t :: s) p).reverse ∧ Edges Less (stk (t :: s) p)
  | [], t, _, h => by simp [stk, pth, Edges, h]
  | a :: r, t, he, h => by
    have hat : Less a t := he.1
    have e1 : pth cs (t :: a :: r).reverse = pth cs (a :: r).reverse + cs a t := by
      have := pth_last cs r.reverse a t
      simpa using this
    by_cases c : turn a t p ≤ 0
    · have ih := stk_W (s := r) (t := a) he.2 (hat.trans h)
      have k := cs_tri hat h c
      have es : stk (t :: a :: r) p = stk (a :: r) p := by rw [stk, if_pos c]
      rw [es]
      exact ⟨by omega, ih.2⟩
    · have es : stk (t :: a :: r) p = p :: t :: a :: r := by rw [stk, if_neg c]
      rw [es]
      have e2 : pth cs (p :: t :: a :: r).reverse = pth cs (t :: a :: r).reverse + cs t p := by
        have := pth_last cs (a :: r).reverse t p
        simpa using this
      exact ⟨by omega, h, he⟩
theorem fold_W : ∀ (l : List Pt) (t : Pt) (s : List Pt), Edges Less (t :: s) → Rise (t :: l) → pth cs (t :: s).reverse + pth cs (t :: l) ≤ pth cs (l.foldl stk (t :: s)).reverse
  | [], t, s, _, _ => by simp [pth]
  | p :: l, t, s, he, hr => by
    obtain ⟨k1, k2⟩ := stk_W (p := p) he hr.1
    obtain ⟨r, er⟩ := stk_head (t :: s) p
    have ih := fold_W l p r (er ▸ k2) hr.2
    simp only [List.foldl_cons, pth]
    rw [er] at k1 ⊢
    omega
theorem side_W {l : List Pt} (hr : Rise l) : pth cs l ≤ pth cs (sideL l) := by
  match l, hr with
  | [], _ => simp [sideL, stack]
  | p :: l, hr =>
    have := fold_W l p [] trivial hr
    have e : stack (p :: l) = l.foldl stk [p] := rfl
    unfold sideL
    rw [e]
    simpa [pth] using this
theorem step_ngt (a b : Pt) : step (ngt a) (ngt b) = step a b := by
  unfold step ngt
  simp only
  congr 2
  · omega
  · omega
theorem pth_ngt : ∀ l : List Pt, pth cs (l.map ngt) = pth cs l
  | [] => rfl
  | [_] => rfl
  | a :: b :: r => by
    have := pth_ngt (b :: r)
    simp only [List.map_cons, pth] at this ⊢
    rw [this]
    unfold cs
    rw [cross_ngt, step_ngt]
theorem side_W2 {l : List Pt} (hr : Rise l) : pth cs l.reverse ≤ pth cs (sideL l.reverse) := by
  have h := side_W (rise_rev hr)
  have e : sideL (l.reverse.map ngt) = (sideL l.reverse).map ngt := by unfold sideL; rw [stack_ngt, List.map_reverse]
  rw [e, pth_ngt, pth_ngt] at h
  exact h
theorem there_back : ∀ {l : List Pt}, Rise l → 2 * ((l.length : Int) - 1) ≤ pth cs l + pth cs l.reverse
  | [], _ => by simp [pth]
  | [_], _ => by simp [pth]
  | a :: b :: r, hr => by
    have ih := there_back (l := b :: r) hr.2
    have e : pth cs (a :: b :: r).reverse = pth cs (b :: r).reverse + cs b a := by
      have := pth_last cs r.reverse b a
      simpa using this
    have ne : a ≠ b := fun e => Less.irrefl b (e ▸ hr.1)
    have s := step_one ne
    have k : cs a b + cs b a = 2 * step a b := by
      unfold cs
      rw [step_sym b a, cross_anti a b]; omega
    simp only [pth, List.length_cons] at ih ⊢
    omega
theorem pth_sm (f : Pt → Pt → Int) (D : List Pt) (P : Int → Pt) (h : ∀ i : Nat, i < D.length → D[i]? = some (P i)) : ∀ k : Nat, k < D.length → pth f (D.take (k + 1)) = sm (fun i => f (P i) (P (i + 1))) k
  | 0, hk => by
    match D, hk with
    | a :: D, _ => simp [pth, sm]
  | k + 1, hk => by
    have ih := pth_sm f D P h k (by omega)
    have g1 := h k (by omega)
    have g2 := h (k + 1) (by omega)
    have t1 : D.take (k + 1) = D.take k ++ [P k] := by rw [List.take_add_one, g1]; rfl
    have t2 : D.take (k + 1 + 1) = D.take k ++ [P k, P ((k : Int) + 1)] := by
      rw [List.take_add_one, t1, g2]; simp
    rw [t2, pth_last, ← t1, ih]
    rfl
theorem closed (f : Pt → Pt → Int) {c : List Pt} (hn : c ≠ []) : pth f (c ++ [pt c 0]) = sm (fun i => f (pt c i) (pt c (i + 1))) c.length := by
  have hpos := List.length_pos_iff.2 hn
  have h : ∀ i : Nat, i < (c ++ [pt c 0]).length → (c ++ [pt c 0])[i]? = some (pt c i) := fun i hi => by
    simp only [List.length_append, List.length_singleton] at hi
    by_cases hc : i < c.length
    · rw [List.getElem?_append_left hc]
      have := pt_get (a := c) (i := (i : Int)) (by omega) (by omega)
      simpa using this
    · have : i = c.length := by omega
      subst this
      rw [List.getElem?_append_right (by omega)]
      have e : pt c (c.length : Int) = pt c 0 := pt_congr (by simp)
      simp [e]
  have := pth_sm f (c ++ [pt c 0]) (pt c) h c.length (by simp)
  rw [← this, List.take_of_length_le (by simp)]
theorem band_W {l : List Pt} (hl : 2 ≤ l.length) (hr : Rise l) : 2 * ((l.length : Int) - 1) ≤ area (bandL l) + round (bandL l) := by
  obtain ⟨a1, a2, a3⟩ := side_ends hl
  obtain ⟨b1, b2, b3⟩ := side_ends (l := l.reverse) (by simpa using hl)
  have w1 := side_W hr
  have w2 := side_W2 hr
  have tb := there_back hr
  have eB : bandL l = (sideL l).dropLast ++ (sideL l.reverse).dropLast := by unfold bandL; rw [if_neg (by omega)]
  have e1 : (sideL l).getLast? = (sideL l.reverse)[0]? := by
    rw [a3, b2, ← List.head?_eq_getElem?, List.head?_reverse]
  have e2 : (sideL l.reverse).getLast? = (sideL l)[0]? := by
    rw [b3, a2, List.getLast?_reverse, ← List.head?_eq_getElem?]
  revert eB a1 b1 e1 e2 w1 w2
  generalize sideL l = A
  generalize sideL l.reverse = C
  intro a1 b1 w1 w2 eB e1 e2
  obtain ⟨x, m, hA⟩ : ∃ x m, A = x ++ [m] := ⟨A.dropLast, A.getLast (by intro e; subst e; simp at a1), (List.dropLast_concat_getLast _).symm⟩
  obtain ⟨y, z, hC⟩ : ∃ y z, C = y ++ [z] := ⟨C.dropLast, C.getLast (by intro e; subst e; simp at b1), (List.dropLast_concat_getLast _).symm⟩
  subst hA
  have hx : x ≠ [] := by intro e; subst e; simp at a1
  have hy : y ≠ [] := by intro e; subst e; subst hC; simp at b1
  obtain ⟨x0, x', rfl⟩ := List.exists_cons_of_ne_nil hx
  obtain ⟨y0, y', rfl⟩ := List.exists_cons_of_ne_nil hy
  subst hC
  rw [List.getLast?_concat] at e1 e2
  simp at e1 e2
  subst e1
  subst e2
  simp only [List.dropLast_concat] at eB
  have h0 : pt (bandL l) 0 = z := by
    have hg := pt_get (a := bandL l) (i := 0) (by omega) (by rw [eB]; simp; omega)
    rw [eB] at hg ⊢
    simp at hg
    exact hg.symm
  have hn : bandL l ≠ [] := by rw [eB]; simp
  have k := closed cs hn
  rw [h0] at k
  have sp : bandL l ++ [z] = (z :: x') ++ m :: (y' ++ [z]) := by rw [eB]; simp
  rw [sp, pth_app] at k
  have ar : sm (fun i => cs (pt (bandL l) i) (pt (bandL l) (i + 1))) (bandL l).length = area (bandL l) + round (bandL l) := sm_plus _ _ _
  rw [ar] at k
  simp only [List.cons_append] at k w1 w2
  omega
end Go.AM
