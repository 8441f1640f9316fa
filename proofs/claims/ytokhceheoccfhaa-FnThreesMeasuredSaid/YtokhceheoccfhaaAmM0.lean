import Derived.Test.YtokhceheoccfhaaAmP1
set_option linter.unusedVariables false
set_option linter.unusedSimpArgs false
set_option linter.unnecessarySimpa false
set_option linter.deprecated false
set_option linter.unusedSectionVars false
open Go Go.AM Go.Proofs
namespace Go.AM

noncomputable def spec_mvFull_l0 (L : Nat) : Nat → Int → Int → Int → Int → Int → Int → Option (Int × Int)
  | 0, _, _, _, _, _, _ => none
  | m + 1, v0, v1, v6, v7, v8, v9 => bif !ieq v1 0 then (bif ieq v1 0 then (none) else (spec_mvFull_l0 L m v1 (wr IntKind.i64 (isub v0 (wr IntKind.i64 (imul (wr IntKind.i64 (iquo v0 v1)) v1)))) v8 v9 (wr IntKind.i64 (isub v6 (wr IntKind.i64 (imul (wr IntKind.i64 (iquo v0 v1)) v8)))) (wr IntKind.i64 (isub v7 (wr IntKind.i64 (imul (wr IntKind.i64 (iquo v0 v1)) v9)))))) else (bif ilt v0 0 then (some ((wr IntKind.i64 (isub 0 v6), wr IntKind.i64 (isub 0 v7)))) else (some ((v6, v7))))

noncomputable def spec_mvFull (L : Nat) (a : Int) (b : Int) : Option (Int × Int) := spec_mvFull_l0 L L a b 1 0 0 1

noncomputable def spec_mvFrame_l0 (L : Nat) (a : List Pt) (p : Pt) (p1 : Pt) (p2 : Pt) (r : Int) (r1 : Int × Int) (r2 : Int × Int) : Nat → Int → (List Pt) → Option ((List Pt))
  | 0, _, _ => none
  | m + 1, v119, w2 => bif ilt v119 (ilen (List.map ep a)) then (gbind (lget a v119) fun p5 => gbind (spec_mvPeg L (wr IntKind.i64 (iadd (Prod.fst r1) (wr IntKind.i64 (imul (wr IntKind.i64 (iquo (wr IntKind.i64 (isub (irem (wr IntKind.i64 (iadd (irem (Prod.fst r2) (wr IntKind.i64 (isub 0 (Prod.snd r2)))) (wr IntKind.i64 (isub 0 (Prod.snd r2))))) (wr IntKind.i64 (isub 0 (Prod.snd r2)))) (Prod.fst r2))) (wr IntKind.i64 (isub 0 (Prod.snd r2))))) (wr IntKind.i64 (isub 0 (wr IntKind.i64 (iquo (wr IntKind.i64 (isub 0 (wr IntKind.i64 (isub (Pt.y p2) (Pt.y p))))) r)))))))) (wr IntKind.i64 (iadd (Prod.snd r1) (wr IntKind.i64 (imul (wr IntKind.i64 (iquo (wr IntKind.i64 (isub (irem (wr IntKind.i64 (iadd (irem (Prod.fst r2) (wr IntKind.i64 (isub 0 (Prod.snd r2)))) (wr IntKind.i64 (isub 0 (Prod.snd r2))))) (wr IntKind.i64 (isub 0 (Prod.snd r2)))) (Prod.fst r2))) (wr IntKind.i64 (isub 0 (Prod.snd r2))))) (wr IntKind.i64 (isub 0 (wr IntKind.i64 (iquo (wr IntKind.i64 (isub (Pt.x p1) (Pt.x p))) r)))))))) (wr IntKind.i64 (isub 0 (wr IntKind.i64 (iquo (wr IntKind.i64 (isub 0 (wr IntKind.i64 (isub (Pt.y p2) (Pt.y p))))) r)))) (wr IntKind.i64 (isub 0 (wr IntKind.i64 (iquo (wr IntKind.i64 (isub (Pt.x p1) (Pt.x p))) r)))) 0 0 (wr IntKind.i64 (isub (Pt.x p5) (Pt.x p))) (wr IntKind.i64 (isub (Pt.y p5) (Pt.y p)))) fun r3 => bif fits (iadd (ilen (List.map ep w2)) (ilen [AV.agg [AV.int IntKind.i64 (Prod.fst r3), AV.int IntKind.i64 (Prod.snd r3)]])) 16 then (spec_mvFrame_l0 L a p p1 p2 r r1 r2 m (wr IntKind.i64 (iadd v119 1)) (lcat w2 ({ x := Prod.fst r3, y := Prod.snd r3 } :: []))) else (none)) else (some w2)

noncomputable def spec_mvFrame_l1 (L : Nat) (a : List Pt) (p : Pt) (p1 : Pt) (p2 : Pt) (r : Int) (r1 : Int × Int) (r2 : Int × Int) : Nat → Int → (List Pt) → Option ((List Pt))
  | 0, _, _ => none
  | m1 + 1, v1191, w21 => bif ilt v1191 (ilen (List.map ep a)) then (gbind (lget a v1191) fun p6 => gbind (spec_mvPeg L (wr IntKind.i64 (iadd (Prod.fst r1) (wr IntKind.i64 (imul (wr IntKind.i64 (iquo (wr IntKind.i64 (isub (irem (wr IntKind.i64 (iadd (irem (Prod.fst r2) (Prod.snd r2)) (Prod.snd r2))) (Prod.snd r2)) (Prod.fst r2))) (Prod.snd r2))) (wr IntKind.i64 (iquo (wr IntKind.i64 (isub 0 (wr IntKind.i64 (isub (Pt.y p2) (Pt.y p))))) r)))))) (wr IntKind.i64 (iadd (Prod.snd r1) (wr IntKind.i64 (imul (wr IntKind.i64 (iquo (wr IntKind.i64 (isub (irem (wr IntKind.i64 (iadd (irem (Prod.fst r2) (Prod.snd r2)) (Prod.snd r2))) (Prod.snd r2)) (Prod.fst r2))) (Prod.snd r2))) (wr IntKind.i64 (iquo (wr IntKind.i64 (isub (Pt.x p1) (Pt.x p))) r)))))) (wr IntKind.i64 (iquo (wr IntKind.i64 (isub 0 (wr IntKind.i64 (isub (Pt.y p2) (Pt.y p))))) r)) (wr IntKind.i64 (iquo (wr IntKind.i64 (isub (Pt.x p1) (Pt.x p))) r)) 0 0 (wr IntKind.i64 (isub (Pt.x p6) (Pt.x p))) (wr IntKind.i64 (isub (Pt.y p6) (Pt.y p)))) fun r4 => bif fits (iadd (ilen (List.map ep w21)) (ilen [AV.agg [AV.int IntKind.i64 (Prod.fst r4), AV.int IntKind.i64 (Prod.snd r4)]])) 16 then (spec_mvFrame_l1 L a p p1 p2 r r1 r2 m1 (wr IntKind.i64 (iadd v1191 1)) (lcat w21 ({ x := Prod.fst r4, y := Prod.snd r4 } :: []))) else (none)) else (some w21)

noncomputable def spec_mvFrame (L : Nat) (a : List Pt) : Option ((List Pt)) := gbind (lget a 0) fun p => gbind (lget a 1) fun p1 => gbind (lget a 1) fun p2 => gbind (spec_pgCommon L (wr IntKind.i64 (isub (Pt.x p1) (Pt.x p))) (wr IntKind.i64 (isub (Pt.y p2) (Pt.y p)))) fun r => gbind (spec_mvFull L (wr IntKind.i64 (isub (Pt.x p1) (Pt.x p))) (wr IntKind.i64 (isub (Pt.y p2) (Pt.y p)))) fun r1 => bif ieq r 0 then (none) else (bif ieq r 0 then (none) else (gbind (lget a 2) fun p3 => gbind (lget a 2) fun p4 => gbind (spec_mvPeg L (Prod.fst r1) (Prod.snd r1) (wr IntKind.i64 (iquo (wr IntKind.i64 (isub 0 (wr IntKind.i64 (isub (Pt.y p2) (Pt.y p))))) r)) (wr IntKind.i64 (iquo (wr IntKind.i64 (isub (Pt.x p1) (Pt.x p))) r)) 0 0 (wr IntKind.i64 (isub (Pt.x p3) (Pt.x p))) (wr IntKind.i64 (isub (Pt.y p4) (Pt.y p)))) fun r2 => bif ilt (Prod.snd r2) 0 then (bif ieq (wr IntKind.i64 (isub 0 (Prod.snd r2))) 0 then (none) else (bif ieq (wr IntKind.i64 (isub 0 (Prod.snd r2))) 0 then (none) else (bif ieq (wr IntKind.i64 (isub 0 (Prod.snd r2))) 0 then (none) else (spec_mvFrame_l0 L a p p1 p2 r r1 r2 L 0 [])))) else (bif ieq (Prod.snd r2) 0 then (none) else (bif ieq (Prod.snd r2) 0 then (none) else (bif ieq (Prod.snd r2) 0 then (none) else (spec_mvFrame_l1 L a p p1 p2 r r1 r2 L 0 []))))))

end Go.AM

namespace Go.AM
set_option linter.unusedVariables false

theorem wr_id {n : Int} (h : -9223372036854775808 ≤ n ∧ n ≤ 9223372036854775807) : wr .i64 n = n := by
  rw [wr_eq]
  simp only [IntKind.wrap, IntKind.signed, IntKind.bits]
  simp
  omega

theorem mul_bd {x y A B : Int} (hx : -A ≤ x ∧ x ≤ A) (hy : -B ≤ y ∧ y ≤ B) : -(A * B) ≤ x * y ∧ x * y ≤ A * B := by
  have h : (x * y).natAbs ≤ (A * B).natAbs := by
    rw [Int.natAbs_mul, Int.natAbs_mul]
    exact Nat.mul_le_mul (by omega) (by omega)
  have hp : 0 ≤ A * B := Int.mul_nonneg (by omega) (by omega)
  omega

theorem mul_le0 {x y : Int} : x * y ≤ 0 ↔ (x ≤ 0 ∧ 0 ≤ y) ∨ (0 ≤ x ∧ y ≤ 0) := by
  constructor
  · intro h
    rcases Int.lt_trichotomy x 0 with hx | hx | hx
    · rcases Int.lt_trichotomy y 0 with hy | hy | hy
      · have := Int.mul_pos_of_neg_of_neg hx hy; omega
      · omega
      · omega
    · omega
    · rcases Int.lt_trichotomy y 0 with hy | hy | hy
      · omega
      · omega
      · have := Int.mul_pos hx hy; omega
  · rintro (⟨h1, h2⟩ | ⟨h1, h2⟩)
    · exact Int.mul_nonpos_of_nonpos_of_nonneg h1 h2
    · exact Int.mul_nonpos_of_nonneg_of_nonpos h1 h2

def turn (a b c : Pt) : Int := (b.x - a.x) * (c.y - a.y) - (b.y - a.y) * (c.x - a.x)

def Nr (p : Pt) : Prop := (-1000 ≤ p.x ∧ p.x ≤ 1000) ∧ (-1000 ≤ p.y ∧ p.y ≤ 1000)
def In (p : Pt) : Prop := (-40 ≤ p.x ∧ p.x ≤ 40) ∧ (-40 ≤ p.y ∧ p.y ≤ 40)
theorem In.nr {p : Pt} (h : In p) : Nr p := by unfold In at h; unfold Nr; omega

theorem sub_bd {p q : Pt} (hp : Nr p) (hq : Nr q) : (-2000 ≤ p.x - q.x ∧ p.x - q.x ≤ 2000) ∧ (-2000 ≤ p.y - q.y ∧ p.y - q.y ≤ 2000) := by
  unfold Nr at hp hq; omega

theorem turn_bd {a b c : Pt} (ha : Nr a) (hb : Nr b) (hc : Nr c) : -8000000 ≤ turn a b c ∧ turn a b c ≤ 8000000 := by
  have h1 := sub_bd hb ha
  have h2 := sub_bd hc ha
  have h3 := mul_bd h1.1 h2.2
  have h4 := mul_bd h1.2 h2.1
  unfold turn
  omega

theorem spec_pgTurn_eq {L : Nat} {a b c : Pt} (ha : Nr a) (hb : Nr b) (hc : Nr c) : spec_pgTurn L a.x a.y b.x b.y c.x c.y = some (turn a b c) := by
  have h1 := sub_bd hb ha
  have h2 := sub_bd hc ha
  have h3 := mul_bd h1.1 h2.2
  have h4 := mul_bd h1.2 h2.1
  unfold spec_pgTurn turn
  simp only [isub_eq, imul_eq]
  rw [wr_id (n := b.x - a.x) (by omega), wr_id (n := c.y - a.y) (by omega), wr_id (n := b.y - a.y) (by omega), wr_id (n := c.x - a.x) (by omega), wr_id (n := (b.x - a.x) * (c.y - a.y)) (by omega), wr_id (n := (b.y - a.y) * (c.x - a.x)) (by omega), wr_id (by omega)]

theorem impl_turn_eq {L : Nat} {a b c : Pt} (ha : Nr a) (hb : Nr b) (hc : Nr c) : impl_turn L a.x a.y b.x b.y c.x c.y = some (turn a b c) := by
  have h1 := sub_bd hb ha
  have h2 := sub_bd hc ha
  have h3 := mul_bd h1.1 h2.2
  have h4 := mul_bd h1.2 h2.1
  unfold impl_turn impl_Peg_less impl_cross turn
  simp only [gbind_eq, Option.bind_some, isub_eq, imul_eq]
  rw [wr_id (n := b.x - a.x) (by omega), wr_id (n := c.y - a.y) (by omega), wr_id (n := b.y - a.y) (by omega), wr_id (n := c.x - a.x) (by omega), wr_id (n := (b.x - a.x) * (c.y - a.y)) (by omega), wr_id (n := (b.y - a.y) * (c.x - a.x)) (by omega), wr_id (by omega)]

/-- on a line between two points -/
def OnL (a b p : Pt) : Prop := turn a b p = 0 ∧ (a.x - p.x) * (b.x - p.x) ≤ 0 ∧ (a.y - p.y) * (b.y - p.y) ≤ 0
instance (a b p : Pt) : Decidable (OnL a b p) := by unfold OnL; infer_instance

theorem spec_pgOn_eq {L : Nat} {a b p : Pt} (ha : Nr a) (hb : Nr b) (hp : Nr p) : spec_pgOn L a.x a.y b.x b.y p.x p.y = some (decide (OnL a b p)) := by
  have h1 := sub_bd ha hp
  have h2 := sub_bd hb hp
  have h3 := mul_bd h1.1 h2.1
  have h4 := mul_bd h1.2 h2.2
  unfold spec_pgOn
  rw [spec_pgTurn_eq ha hb hp]
  simp only [gbind_eq, Option.bind_some, isub_eq, imul_eq, ieq_eq, ile_eq]
  rw [wr_id (n := a.x - p.x) (by omega), wr_id (n := b.x - p.x) (by omega), wr_id (n := a.y - p.y) (by omega), wr_id (n := b.y - p.y) (by omega), wr_id (n := (a.x - p.x) * (b.x - p.x)) (by omega), wr_id (n := (a.y - p.y) * (b.y - p.y)) (by omega)]
  unfold OnL
  by_cases k1 : turn a b p = 0 <;> by_cases k2 : (a.x - p.x) * (b.x - p.x) ≤ 0 <;> simp [k1, k2]

theorem mid_iff {a b p : Int} : (a - p) * (b - p) ≤ 0 ↔ (if b < a then b else a) ≤ p ∧ p ≤ (if b > a then b else a) := by
  rw [mul_le0]
  split <;> split <;> omega

theorem impl_isOn_eq {L : Nat} {a b p : Pt} (ha : Nr a) (hb : Nr b) (hp : Nr p) : impl_isOn L a.x a.y b.x b.y p.x p.y = some (decide (OnL a b p)) := by
  unfold impl_isOn impl_within OnL
  rw [impl_turn_eq ha hb hp]
  simp only [gbind_eq, Option.bind_some, ieq_eq, ile_eq, imin_eq, imax_eq, mid_iff]
  by_cases k1 : turn a b p = 0
  · simp only [k1, decide_true, cond_true]
    by_cases k2 : (if b.x < a.x then b.x else a.x) ≤ p.x <;> by_cases k3 : p.x ≤ (if b.x > a.x then b.x else a.x) <;>
      by_cases k4 : (if b.y < a.y then b.y else a.y) ≤ p.y <;> by_cases k5 : p.y ≤ (if b.y > a.y then b.y else a.y) <;> simp [k2, k3, k4, k5]
  · simp [k1]

def sg (n : Int) : Int := if 0 < n then 1 else if n < 0 then -1 else 0

theorem spec_l1Sign_eq {L : Nat} {n : Int} : spec_l1Sign L n = some (sg n) := by
  unfold spec_l1Sign sg
  simp only [ilt_eq]
  by_cases h1 : 0 < n <;> by_cases h2 : n < 0 <;> simp [h1, h2]
theorem impl_sign_eq {L : Nat} {n : Int} : impl_sign L n = some (sg n) := by
  unfold impl_sign sg
  simp only [imin_eq, imax_eq]
  congr 1
  split <;> split <;> split <;> (try split) <;> omega

theorem sg_bd (n : Int) : -1 ≤ sg n ∧ sg n ≤ 1 := by unfold sg; split; omega; split <;> omega

/-- two lines have a point in common -/
def Meet (a b c d : Pt) : Prop := OnL a b c ∨ OnL a b d ∨ OnL c d a ∨ OnL c d b ∨ (sg (turn a b c) * sg (turn a b d) < 0 ∧ sg (turn c d a) * sg (turn c d b) < 0)
instance (a b c d : Pt) : Decidable (Meet a b c d) := by unfold Meet; infer_instance

theorem sgm {m n : Int} : wr .i64 (sg m * sg n) = sg m * sg n := by
  have := mul_bd (sg_bd m) (sg_bd n)
  exact wr_id (by omega)

theorem spec_pgMeet_eq {L : Nat} {a b c d : Pt} (ha : Nr a) (hb : Nr b) (hc : Nr c) (hd : Nr d) : spec_pgMeet L a.x a.y b.x b.y c.x c.y d.x d.y = some (decide (Meet a b c d)) := by
  unfold spec_pgMeet Meet
  rw [spec_pgOn_eq ha hb hc, spec_pgOn_eq ha hb hd, spec_pgOn_eq hc hd ha, spec_pgOn_eq hc hd hb, spec_pgTurn_eq ha hb hc, spec_pgTurn_eq ha hb hd, spec_pgTurn_eq hc hd ha, spec_pgTurn_eq hc hd hb]
  simp only [gbind_eq, Option.bind_some, spec_l1Sign_eq, imul_eq, ilt_eq, sgm]
  by_cases k1 : OnL a b c <;> by_cases k2 : OnL a b d <;> by_cases k3 : OnL c d a <;> by_cases k4 : OnL c d b <;> by_cases k5 : sg (turn a b c) * sg (turn a b d) < 0 <;>
    by_cases k6 : sg (turn c d a) * sg (turn c d b) < 0 <;> simp [k1, k2, k3, k4, k5, k6]

theorem impl_meet_eq {L : Nat} {a b c d : Pt} (ha : Nr a) (hb : Nr b) (hc : Nr c) (hd : Nr d) : impl_meet L a.x a.y b.x b.y c.x c.y d.x d.y = some (decide (Meet a b c d)) := by
  unfold impl_meet Meet
  rw [impl_isOn_eq ha hb hc, impl_isOn_eq ha hb hd, impl_isOn_eq hc hd ha, impl_isOn_eq hc hd hb, impl_turn_eq ha hb hc, impl_turn_eq ha hb hd, impl_turn_eq hc hd ha, impl_turn_eq hc hd hb]
  simp only [gbind_eq, Option.bind_some, impl_sign_eq, imul_eq, ilt_eq, sgm]
  by_cases k1 : OnL a b c <;> by_cases k2 : OnL a b d <;> by_cases k3 : OnL c d a <;> by_cases k4 : OnL c d b <;> by_cases k5 : sg (turn a b c) * sg (turn a b d) < 0 <;>
    by_cases k6 : sg (turn c d a) * sg (turn c d b) < 0 <;> simp [k1, k2, k3, k4, k5, k6]
end Go.AM

namespace Go.AM
set_option linter.unusedVariables false

/-- the i-th one of a list, told round -/
def pt (a : List Pt) (i : Int) : Pt := a.getD (i % (a.length : Int)).toNat ⟨0, 0⟩

theorem pt_congr {a : List Pt} {i j : Int} (h : i % (a.length : Int) = j % (a.length : Int)) : pt a i = pt a j := by unfold pt; rw [h]

theorem pt_get {a : List Pt} {i : Int} (h0 : 0 ≤ i) (h1 : i < a.length) : a[i.toNat]? = some (pt a i) := by
  unfold pt
  rw [Int.emod_eq_of_lt h0 h1]
  have : i.toNat < a.length := by omega
  simp [this]

theorem lget_pt {a : List Pt} {i : Int} (h0 : 0 ≤ i) (h1 : i < a.length) : lget a i = some (pt a i) := by
  rw [lget_eq, if_pos h0, pt_get h0 h1]

theorem irem_nn {i n : Int} (h : 0 ≤ i) : irem i n = i % n := by rw [irem_eq]; exact Int.tmod_eq_emod_of_nonneg h

theorem lget_rem {a : List Pt} {i : Int} (h0 : 0 ≤ i) (hn : a ≠ []) : lget a (irem i (a.length : Int)) = some (pt a i) := by
  have hl : 0 < (a.length : Int) := by have := List.length_pos_iff.2 hn; omega
  rw [irem_nn h0, lget_pt (Int.emod_nonneg _ (by omega)) (Int.emod_lt_of_pos _ hl)]
  congr 1
  exact pt_congr (Int.emod_emod_of_dvd _ (Int.dvd_refl _))

theorem ilen_mapep (a : List Pt) : ilen (List.map ep a) = (a.length : Int) := by rw [ilen_map, ilen_eq]

theorem impl_at_eq {L : Nat} {a : List Pt} {i : Int} (hn : a ≠ []) (hs : (a.length : Int) ≤ 1000000000) : impl_at L a i = some ((pt a i).x, (pt a i).y) := by
  have hl : 0 < (a.length : Int) := by have := List.length_pos_iff.2 hn; omega
  unfold impl_at
  simp only [ilen_mapep, ieq_eq, gbind_eq, iadd_eq]
  have h0 : ¬ ((a.length : Int) = 0) := by omega
  simp only [h0, decide_false, cond_false]
  have h1 : -(a.length : Int) < irem i (a.length : Int) ∧ irem i (a.length : Int) < a.length := by
    rw [irem_eq]
    have := Int.tmod_lt_of_pos i hl
    have h2 := Int.natAbs_tmod i (a.length : Int)
    have h3 := Nat.mod_lt i.natAbs (show 0 < (a.length : Int).natAbs by omega)
    omega
  rw [wr_id (by omega), lget_rem (by omega) hn]
  simp only [Option.bind_some]
  have : pt a (irem i (a.length : Int) + a.length) = pt a i := by
    apply pt_congr
    rw [Int.add_emod_right, irem_eq]
    conv => rhs; rw [← Int.tmod_add_mul_tdiv i (a.length : Int), Int.add_mul_emod_self_left]
  rw [this]

/-- a search that goes on from v to n -/
theorem search {β : Type} {f : Nat → Int → Option β} {bad : Int → Prop} {r k : Option β} {lo n hi : Int} (hn : n ≤ hi) (hstop : ∀ m v, lo ≤ v → v ≤ hi → ¬ v < n → f (m + 1) v = k) (hbad : ∀ m v, lo ≤ v → v < n → bad v → f (m + 1) v = r)
    (hgo : ∀ m v, lo ≤ v → v < n → ¬ bad v → f (m + 1) v = f m (v + 1)) : ∀ (m : Nat) (v : Int), lo ≤ v → v ≤ hi → n - v < m → 0 < m → ((∃ j, v ≤ j ∧ j < n ∧ bad j) → f m v = r) ∧ ((∀ j, v ≤ j → j < n → ¬ bad j) → f m v = k) := by
  intro m
  induction m with
  | zero => intro v _ _ _ h; omega
  | succ m ih =>
    intro v hv hvh hm _
    by_cases hvn : v < n
    · by_cases hb : bad v
      · refine ⟨fun _ => hbad m v hv hvn hb, fun h => absurd hb (h v (Int.le_refl _) hvn)⟩
      · rw [hgo m v hv hvn hb]
        obtain ⟨h1, h2⟩ := ih (v + 1) (by omega) (by omega) (by omega) (by omega)
        refine ⟨fun ⟨j, q1, q2, q3⟩ => h1 ⟨j, ?_, q2, q3⟩, fun h => h2 fun j q1 q2 => h j (by omega) q2⟩
        by_cases hj : j = v
        · subst hj; exact absurd q3 hb
        · omega
    · rw [hstop m v hv hvh hvn]
      exact ⟨fun ⟨j, q1, q2, _⟩ => by omega, fun _ => rfl⟩

/-- a polygon -/
structure Good_ (a : List Pt) : Prop where
  lo : 3 ≤ (a.length : Int)
  hi : (a.length : Int) ≤ 10
  isIn : ∀ i, 0 ≤ i → i < (a.length : Int) → In (pt a i)
  ne : ∀ i k, 0 ≤ k → k < i → i < (a.length : Int) → pt a k ≠ pt a i
  turn : ∀ i, 0 ≤ i → i < (a.length : Int) → turn (pt a i) (pt a (i + 1)) (pt a (i + 2)) ≠ 0
  apart : ∀ i k, 0 ≤ i → i + 2 ≤ k → k < (a.length : Int) → k - i < (a.length : Int) - 1 → ¬ Meet (pt a i) (pt a (i + 1)) (pt a k) (pt a (k + 1))

theorem in_all {a : List Pt} (h : ∀ i, 0 ≤ i → i < (a.length : Int) → In (pt a i)) (hn : a ≠ []) (i : Int) : In (pt a i) := by
  have hl : 0 < (a.length : Int) := by have := List.length_pos_iff.2 hn; omega
  have := h (i % a.length) (Int.emod_nonneg _ (by omega)) (Int.emod_lt_of_pos _ hl)
  rwa [pt_congr (Int.emod_emod_of_dvd _ (Int.dvd_refl _))] at this

theorem spec_pgIs_eq {L : Nat} {p : Pt} : (In p → spec_pgIs L p.x p.y = some true) ∧ (¬ In p → spec_pgIs L p.x p.y = some false) := by
  unfold spec_pgIs spec_l1In In
  simp only [gbind_eq, ile_eq]
  by_cases h1 : -40 ≤ p.x <;> by_cases h2 : p.x ≤ 40 <;> by_cases h3 : -40 ≤ p.y <;> by_cases h4 : p.y ≤ 40 <;> simp [h1, h2, h3, h4]

theorem impl_IsPeg_eq {L : Nat} {p : Pt} : (In p → impl_IsPeg L p.x p.y = some true) ∧ (¬ In p → impl_IsPeg L p.x p.y = some false) := by
  unfold impl_IsPeg impl_within In
  simp only [gbind_eq, ile_eq]
  by_cases h1 : -40 ≤ p.x <;> by_cases h2 : p.x ≤ 40 <;> by_cases h3 : -40 ≤ p.y <;> by_cases h4 : p.y ≤ 40 <;> simp [h1, h2, h3, h4]

theorem pt_eq_iff {p q : Pt} : (decide (p.x = q.x) && decide (p.y = q.y)) = true ↔ p = q := by
  cases p; cases q; simp

theorem lsub0 {a : List Pt} {i : Int} (h0 : 0 ≤ i) (h1 : i ≤ a.length) : lsub a 0 i = a.take i.toNat := by
  rw [lsub_eq]; simp

theorem lsub0_len {a : List Pt} {i : Int} (h0 : 0 ≤ i) (h1 : i ≤ a.length) : ilen (lsub (List.map ep a) 0 i) = i := by
  rw [lsub_eq, ilen_eq]; simp; omega

theorem lsub0_get {a : List Pt} {i j : Int} (h0 : 0 ≤ j) (hj : j < i) (h1 : i ≤ a.length) : lget (lsub a 0 i) j = some (pt a j) := by
  rw [lsub0 (by omega) h1, lget_eq, if_pos h0, List.getElem?_take, if_pos (by omega), pt_get h0 (by omega)]

theorem good_l1 {L : Nat} {κ0 : (List Pt) → Int → (List Pt) → Int → Int → Option Bool} {a v17 : List Pt} {v3 v18 i : Int} {p : Pt} (hi : 0 ≤ i) (hl : i ≤ a.length) (hs : (a.length : Int) ≤ 10) {m : Nat} (hm : i < m) :
    ((∃ j, 0 ≤ j ∧ j < i ∧ pt a j = p) → spec_pgGood_l1 L κ0 a v3 v17 v18 i p m 0 = some false) ∧ ((∀ j, 0 ≤ j → j < i → ¬ pt a j = p) → spec_pgGood_l1 L κ0 a v3 v17 v18 i p m 0 = κ0 a v3 v17 v18 (i + 1)) := by
  refine search (lo := 0) (n := i) (hi := i) (bad := fun j => pt a j = p) (Int.le_refl _) ?_ ?_ ?_ m 0 (Int.le_refl _) (by omega) (by omega) (by omega)
  · intro m v h0 _ h
    rw [spec_pgGood_l1]
    simp only [lsub0_len hi hl, ilt_eq, h, decide_false, cond_false, iadd_eq]
    rw [wr_id (by omega)]
  · intro m v h0 h hb
    rw [spec_pgGood_l1]
    simp only [lsub0_len hi hl, ilt_eq, h, decide_true, cond_true, lsub0_get h0 h hl, gbind_eq, Option.bind_some, ieq_eq, hb, Bool.and_self]
  · intro m v h0 h hb
    rw [spec_pgGood_l1]
    simp only [lsub0_len hi hl, ilt_eq, h, decide_true, cond_true, lsub0_get h0 h hl, gbind_eq, Option.bind_some, ieq_eq, iadd_eq]
    have : (decide (p.x = (pt a v).x) && decide (p.y = (pt a v).y)) = false := by
      rw [← Bool.not_eq_true, pt_eq_iff]; exact fun e => hb e.symm
    rw [this, cond_false, wr_id (by omega)]

theorem wr_s {i : Int} (h : -1000000 ≤ i ∧ i ≤ 1000000) : wr .i64 i = i := wr_id (by omega)

theorem good_l3 {L : Nat} {κ1 : (List Pt) → Int → (List Pt) → Int → Int → Option Bool} {a v40 : List Pt} {v41 i : Int} (hi : 0 ≤ i) (hil : i < a.length) (hs : (a.length : Int) ≤ 10) (hin : ∀ i, In (pt a i)) {m : Nat} (hm : (a.length : Int) - (i + 2) < m) (hm0 : 0 < m) :
    ((∃ k, i + 2 ≤ k ∧ k < (if i = 0 then (a.length : Int) - 1 else a.length) ∧ Meet (pt a i) (pt a (i + 1)) (pt a k) (pt a (k + 1))) → spec_pgGood_l3 L κ1 a a.length v40 v41 i (pt a i) (pt a (i + 1)) m (i + 2) = some false) ∧
    ((∀ k, i + 2 ≤ k → k < (if i = 0 then (a.length : Int) - 1 else a.length) → ¬ Meet (pt a i) (pt a (i + 1)) (pt a k) (pt a (k + 1))) → spec_pgGood_l3 L κ1 a a.length v40 v41 i (pt a i) (pt a (i + 1)) m (i + 2) = κ1 a a.length v40 v41 (i + 1)) := by
  have hne : a ≠ [] := by intro e; subst e; simp at hil; omega
  refine search (lo := i + 2) (n := if i = 0 then (a.length : Int) - 1 else a.length) (hi := 12) (bad := fun k => Meet (pt a i) (pt a (i + 1)) (pt a k) (pt a (k + 1))) (by split <;> omega) ?_ ?_ ?_ m (i + 2) (Int.le_refl _) (by omega) (by split <;> omega) hm0
  · intro m v h0 _ h
    rw [spec_pgGood_l3]
    simp only [ilt_eq, isub_eq, iadd_eq]
    rw [wr_s (i := v - i) (by omega), wr_s (i := (a.length : Int) - 1) (by omega), wr_s (i := i + 1) (by omega)]
    by_cases h1 : v < (a.length : Int)
    · have h2 : ¬ (v - i < (a.length : Int) - 1) := by split at h <;> omega
      simp only [h1, h2, decide_true, decide_false, cond_true, cond_false]
    · simp only [h1, decide_false, cond_false]
  · intro m v h0 h hb
    rw [spec_pgGood_l3]
    have h1 : v < (a.length : Int) := by split at h <;> omega
    have h2 : v - i < (a.length : Int) - 1 := by split at h <;> omega
    have h3 : ¬ ((a.length : Int) = 0) := by omega
    simp only [ilt_eq, isub_eq, iadd_eq, ieq_eq]
    rw [wr_s (i := v - i) (by omega), wr_s (i := (a.length : Int) - 1) (by omega), wr_s (i := v + 1) (by omega)]
    simp only [h1, h2, h3, decide_true, decide_false, cond_true, cond_false, gbind_eq, lget_pt (show 0 ≤ v by omega) h1, lget_rem (show 0 ≤ v + 1 by omega) hne, Option.bind_some]
    rw [spec_pgMeet_eq (hin _).nr (hin _).nr (hin _).nr (hin _).nr]
    simp [hb]
  · intro m v h0 h hb
    rw [spec_pgGood_l3]
    have h1 : v < (a.length : Int) := by split at h <;> omega
    have h2 : v - i < (a.length : Int) - 1 := by split at h <;> omega
    have h3 : ¬ ((a.length : Int) = 0) := by omega
    simp only [ilt_eq, isub_eq, iadd_eq, ieq_eq]
    rw [wr_s (i := v - i) (by omega), wr_s (i := (a.length : Int) - 1) (by omega), wr_s (i := v + 1) (by omega)]
    simp only [h1, h2, h3, decide_true, decide_false, cond_true, cond_false, gbind_eq, lget_pt (show 0 ≤ v by omega) h1, lget_rem (show 0 ≤ v + 1 by omega) hne, Option.bind_some]
    rw [spec_pgMeet_eq (hin _).nr (hin _).nr (hin _).nr (hin _).nr]
    simp [hb]

theorem good_l2 {L : Nat} {a : List Pt} (hn : 3 ≤ (a.length : Int)) (hs : (a.length : Int) ≤ 10) (hL : 20 < L) (hin : ∀ i, In (pt a i)) {m : Nat} (hm : (a.length : Int) < m) :
    ((∃ i, 0 ≤ i ∧ i < (a.length : Int) ∧ (turn (pt a i) (pt a (i + 1)) (pt a (i + 2)) = 0 ∨ ∃ k, i + 2 ≤ k ∧ k < (if i = 0 then (a.length : Int) - 1 else a.length) ∧ Meet (pt a i) (pt a (i + 1)) (pt a k) (pt a (k + 1)))) → spec_pgGood_l2 L m a a.length a a.length 0 = some false) ∧
    ((∀ i, 0 ≤ i → i < (a.length : Int) → ¬ (turn (pt a i) (pt a (i + 1)) (pt a (i + 2)) = 0 ∨ ∃ k, i + 2 ≤ k ∧ k < (if i = 0 then (a.length : Int) - 1 else a.length) ∧ Meet (pt a i) (pt a (i + 1)) (pt a k) (pt a (k + 1)))) → spec_pgGood_l2 L m a a.length a a.length 0 = some true) := by
  have hne : a ≠ [] := by intro e; subst e; simp at hn
  have h3 : ¬ ((a.length : Int) = 0) := by omega
  refine search (f := fun m v => spec_pgGood_l2 L m a a.length a a.length v) (lo := 0) (n := (a.length : Int)) (hi := 10)
    (bad := fun i => turn (pt a i) (pt a (i + 1)) (pt a (i + 2)) = 0 ∨ ∃ k, i + 2 ≤ k ∧ k < (if i = 0 then (a.length : Int) - 1 else a.length) ∧ Meet (pt a i) (pt a (i + 1)) (pt a k) (pt a (k + 1))) hs ?_ ?_ ?_ m 0 (Int.le_refl _) (by omega) (by omega) (by omega)
  · intro m v h0 _ h
    simp only [spec_pgGood_l2, ilt_eq, h, decide_false, cond_false]
  · intro m v h0 h hb
    simp only [spec_pgGood_l2, ilt_eq, ieq_eq, iadd_eq, h3, h, decide_true, decide_false, cond_true, cond_false, gbind_eq, wr_s (i := v + 1) (by omega), wr_s (i := v + 2) (by omega), lget_pt h0 h, lget_rem (show 0 ≤ v + 1 by omega) hne, lget_rem (show 0 ≤ v + 2 by omega) hne, Option.bind_some]
    rw [spec_pgTurn_eq (hin _).nr (hin _).nr (hin _).nr]
    simp only [Option.bind_some]
    by_cases ht : turn (pt a v) (pt a (v + 1)) (pt a (v + 2)) = 0
    · simp only [ht, decide_true, cond_true]
    · simp only [ht, decide_false, cond_false]
      exact (good_l3 h0 h hs hin (by omega) (by omega)).1 (hb.resolve_left ht)
  · intro m v h0 h hb
    simp only [spec_pgGood_l2, ilt_eq, ieq_eq, iadd_eq, h3, h, decide_true, decide_false, cond_true, cond_false, gbind_eq, wr_s (i := v + 1) (by omega), wr_s (i := v + 2) (by omega), lget_pt h0 h, lget_rem (show 0 ≤ v + 1 by omega) hne, lget_rem (show 0 ≤ v + 2 by omega) hne, Option.bind_some]
    rw [spec_pgTurn_eq (hin _).nr (hin _).nr (hin _).nr]
    simp only [Option.bind_some]
    have ht : ¬ turn (pt a v) (pt a (v + 1)) (pt a (v + 2)) = 0 := fun e => hb (.inl e)
    simp only [ht, decide_false, cond_false]
    exact (good_l3 h0 h hs hin (by omega) (by omega)).2 fun k h1 h2 h3 => hb (.inr ⟨k, h1, h2, h3⟩)
end Go.AM

namespace Go.AM
set_option linter.unusedVariables false

theorem good_l0 {L : Nat} {a : List Pt} (hn : 3 ≤ (a.length : Int)) (hs : (a.length : Int) ≤ 10) (hL : 20 < L) {m : Nat} (hm : (a.length : Int) < m) :
    ((∃ i, 0 ≤ i ∧ i < (a.length : Int) ∧ (¬ In (pt a i) ∨ ∃ k, 0 ≤ k ∧ k < i ∧ pt a k = pt a i)) → spec_pgGood_l0 L m a a.length a a.length 0 = some false) ∧
    ((∀ i, 0 ≤ i → i < (a.length : Int) → ¬ (¬ In (pt a i) ∨ ∃ k, 0 ≤ k ∧ k < i ∧ pt a k = pt a i)) → spec_pgGood_l0 L m a a.length a a.length 0 = spec_pgGood_l2 L L a a.length a a.length 0) := by
  refine search (f := fun m v => spec_pgGood_l0 L m a a.length a a.length v) (lo := 0) (n := (a.length : Int)) (hi := 10)
    (bad := fun i => ¬ In (pt a i) ∨ ∃ k, 0 ≤ k ∧ k < i ∧ pt a k = pt a i) hs ?_ ?_ ?_ m 0 (Int.le_refl _) (by omega) (by omega) (by omega)
  · intro m v h0 _ h
    simp only [spec_pgGood_l0, ilt_eq, h, decide_false, cond_false, ilen_mapep]
  · intro m v h0 h hb
    simp only [spec_pgGood_l0, ilt_eq, ile_eq, h, h0, ilen_mapep, show v ≤ (a.length : Int) by omega, decide_true, Bool.and_self, cond_true, gbind_eq, lget_pt h0 h, Option.bind_some]
    by_cases hi : In (pt a v)
    · rw [spec_pgIs_eq.1 hi]
      simp only [Option.bind_some, Bool.not_true, cond_false]
      obtain ⟨k, q1, q2, q3⟩ := hb.resolve_left fun h => h hi
      exact (good_l1 h0 (by omega) hs (by omega)).1 ⟨k, q1, q2, q3⟩
    · rw [spec_pgIs_eq.2 hi]
      simp only [Option.bind_some, Bool.not_false, cond_true]
  · intro m v h0 h hb
    simp only [spec_pgGood_l0, ilt_eq, ile_eq, h, h0, ilen_mapep, show v ≤ (a.length : Int) by omega, decide_true, Bool.and_self, cond_true, gbind_eq, lget_pt h0 h, Option.bind_some]
    have hi : In (pt a v) := Classical.byContradiction fun e => hb (.inl e)
    rw [spec_pgIs_eq.1 hi]
    simp only [Option.bind_some, Bool.not_true, cond_false]
    exact (good_l1 h0 (by omega) hs (by omega)).2 fun k q1 q2 q3 => hb (.inr ⟨k, q1, q2, q3⟩)

theorem spec_l1In_eq {L : Nat} {n lo hi : Int} : spec_l1In L n lo hi = some (decide (lo ≤ n ∧ n ≤ hi)) := by
  unfold spec_l1In
  simp only [ile_eq]
  by_cases h1 : lo ≤ n <;> by_cases h2 : n ≤ hi <;> simp [h1, h2]
theorem impl_within_eq {L : Nat} {n lo hi : Int} : impl_within L n lo hi = some (decide (lo ≤ n ∧ n ≤ hi)) := by
  unfold impl_within
  simp only [ile_eq]
  by_cases h1 : lo ≤ n <;> by_cases h2 : n ≤ hi <;> simp [h1, h2]

open Classical in
theorem spec_pgGood_eq {L : Nat} {a : List Pt} (hL : 20 < L) : spec_pgGood L a = some (decide (Good_ a)) := by
  unfold spec_pgGood
  simp only [ilen_mapep, spec_l1In_eq, gbind_eq, Option.bind_some]
  by_cases hn : 3 ≤ (a.length : Int) ∧ (a.length : Int) ≤ 10
  · simp only [hn, and_self, decide_true, Bool.not_true, cond_false]
    have hne : a ≠ [] := by intro e; subst e; simp at hn
    by_cases h0 : ∃ i, 0 ≤ i ∧ i < (a.length : Int) ∧ (¬ In (pt a i) ∨ ∃ k, 0 ≤ k ∧ k < i ∧ pt a k = pt a i)
    · rw [(good_l0 hn.1 hn.2 hL (by omega)).1 h0]
      have : ¬ Good_ a := fun g => by
        obtain ⟨i, q1, q2, q3⟩ := h0
        rcases q3 with q3 | ⟨k, q4, q5, q6⟩
        · exact q3 (g.isIn i q1 q2)
        · exact g.ne i k q4 q5 q2 q6
      simp [this]
    · have h0' : ∀ i, 0 ≤ i → i < (a.length : Int) → ¬ (¬ In (pt a i) ∨ ∃ k, 0 ≤ k ∧ k < i ∧ pt a k = pt a i) := fun i q1 q2 q3 => h0 ⟨i, q1, q2, q3⟩
      rw [(good_l0 hn.1 hn.2 hL (by omega)).2 h0']
      have hIn : ∀ i, 0 ≤ i → i < (a.length : Int) → In (pt a i) := fun i q1 q2 => Classical.byContradiction fun e => h0' i q1 q2 (.inl e)
      have hin := in_all hIn hne
      by_cases h1 : ∃ i, 0 ≤ i ∧ i < (a.length : Int) ∧ (turn (pt a i) (pt a (i + 1)) (pt a (i + 2)) = 0 ∨ ∃ k, i + 2 ≤ k ∧ k < (if i = 0 then (a.length : Int) - 1 else a.length) ∧ Meet (pt a i) (pt a (i + 1)) (pt a k) (pt a (k + 1)))
      · rw [(good_l2 hn.1 hn.2 hL hin (by omega)).1 h1]
        have : ¬ Good_ a := fun g => by
          obtain ⟨i, q1, q2, q3⟩ := h1
          rcases q3 with q3 | ⟨k, q4, q5, q6⟩
          · exact g.turn i q1 q2 q3
          · exact g.apart i k q1 q4 (by split at q5 <;> omega) (by split at q5 <;> omega) q6
        simp [this]
      · have h1' : ∀ i, 0 ≤ i → i < (a.length : Int) → ¬ (turn (pt a i) (pt a (i + 1)) (pt a (i + 2)) = 0 ∨ ∃ k, i + 2 ≤ k ∧ k < (if i = 0 then (a.length : Int) - 1 else a.length) ∧ Meet (pt a i) (pt a (i + 1)) (pt a k) (pt a (k + 1))) := fun i q1 q2 q3 => h1 ⟨i, q1, q2, q3⟩
        rw [(good_l2 hn.1 hn.2 hL hin (by omega)).2 h1']
        have : Good_ a := ⟨hn.1, hn.2, hIn, fun i k q1 q2 q3 q4 => h0' i (by omega) q3 (.inr ⟨k, q1, q2, q4⟩), fun i q1 q2 q3 => h1' i q1 q2 (.inl q3), fun i k q1 q2 q3 q4 q5 => h1' i q1 (by omega) (.inr ⟨k, q2, by split <;> omega, q5⟩)⟩
        simp [this]
  · have : ¬ Good_ a := fun g => hn ⟨g.lo, g.hi⟩
    simp only [hn, this, decide_false, Bool.not_false, cond_true]

theorem arePegs_eq {L : Nat} {a : List Pt} (hs : (a.length : Int) ≤ 1000000) (hL : (a.length : Int) < L) :
    ((∃ i, 0 ≤ i ∧ i < (a.length : Int) ∧ ¬ In (pt a i)) → impl_arePegs L a = some false) ∧ ((∀ i, 0 ≤ i → i < (a.length : Int) → In (pt a i)) → impl_arePegs L a = some true) := by
  have key : (∃ i, 0 ≤ i ∧ i < (a.length : Int) ∧ ¬ In (pt a i)) → ∃ i, 0 ≤ i ∧ slices_IndexFunc_impl_Peg_impl_Peg_arePegs_l0 L a L 0 = some i := by
    have : ∀ (m : Nat) (v : Int), 0 ≤ v → (a.length : Int) - v < m → (∃ i, v ≤ i ∧ i < (a.length : Int) ∧ ¬ In (pt a i)) → ∃ i, 0 ≤ i ∧ slices_IndexFunc_impl_Peg_impl_Peg_arePegs_l0 L a m v = some i := by
      intro m
      induction m with
      | zero => rintro v h0 h ⟨i, q1, q2, _⟩; omega
      | succ m ih =>
        rintro v h0 h ⟨i, q1, q2, q3⟩
        have hv : v < (a.length : Int) := by omega
        simp only [slices_IndexFunc_impl_Peg_impl_Peg_arePegs_l0, ilt_eq, ilen_mapep, hv, decide_true, cond_true, gbind_eq, lget_pt h0 hv, Option.bind_some, impl_arePegs_1]
        by_cases hi : In (pt a v)
        · rw [impl_IsPeg_eq.1 hi]
          simp only [Option.bind_some, Bool.not_true, cond_false, iadd_eq]
          rw [wr_s (by omega)]
          refine ih (v + 1) (by omega) (by omega) ⟨i, ?_, q2, q3⟩
          by_cases e : i = v
          · subst e; exact absurd hi q3
          · omega
        · rw [impl_IsPeg_eq.2 hi]
          exact ⟨v, h0, by simp⟩
    exact this L 0 (Int.le_refl _) (by omega)
  constructor
  · intro h
    obtain ⟨i, q1, q2⟩ := key h
    simp only [impl_arePegs, slices_ContainsFunc_impl_Peg_impl_Peg_arePegs, slices_IndexFunc_impl_Peg_impl_Peg_arePegs, gbind_eq, q2, Option.bind_some, ile_eq, q1, decide_true, Bool.not_true]
  · intro h
    have := (search (f := fun m v => slices_IndexFunc_impl_Peg_impl_Peg_arePegs_l0 L a m v) (r := none) (k := some (-1)) (lo := 0) (n := (a.length : Int)) (hi := (a.length : Int)) (bad := fun i => False) (Int.le_refl _) (fun m v h0 _ h => by
        simp only [slices_IndexFunc_impl_Peg_impl_Peg_arePegs_l0, ilt_eq, ilen_mapep, h, decide_false, cond_false]) (fun m v h0 h hb => hb.elim) (fun m v h0 hv _ => by
        simp only [slices_IndexFunc_impl_Peg_impl_Peg_arePegs_l0, ilt_eq, ilen_mapep, hv, decide_true, cond_true, gbind_eq, lget_pt h0 hv, Option.bind_some, impl_arePegs_1]
        rw [impl_IsPeg_eq.1 (h v h0 hv)]
        simp only [Option.bind_some, Bool.not_true, cond_false, iadd_eq]
        rw [wr_s (by omega)]) L 0 (Int.le_refl _) (by omega) (by omega) (by omega)).2 fun _ _ _ h => h
    simp only [impl_arePegs, slices_ContainsFunc_impl_Peg_impl_Peg_arePegs, slices_IndexFunc_impl_Peg_impl_Peg_arePegs, gbind_eq, this, Option.bind_some, ile_eq]
    rfl

theorem contains_eq {L : Nat} {b : List Pt} {p : Pt} (hs : (b.length : Int) ≤ 1000000) (hL : (b.length : Int) < L) :
    ((∃ j, 0 ≤ j ∧ j < (b.length : Int) ∧ pt b j = p) → slices_Contains_impl_Peg_impl_Peg L b p.x p.y = some true) ∧ ((∀ j, 0 ≤ j → j < (b.length : Int) → ¬ pt b j = p) → slices_Contains_impl_Peg_impl_Peg L b p.x p.y = some false) := by
  have heq : ∀ v, (decide (p.x = (pt b v).x) && decide (p.y = (pt b v).y)) = decide (pt b v = p) := fun v => by
    rw [Bool.eq_iff_iff, pt_eq_iff]
    simp [eq_comm]
  have key : (∃ j, 0 ≤ j ∧ j < (b.length : Int) ∧ pt b j = p) → ∃ i, 0 ≤ i ∧ slices_Index_impl_Peg_impl_Peg_l0 L b p.x p.y L 0 = some i := by
    have : ∀ (m : Nat) (v : Int), 0 ≤ v → (b.length : Int) - v < m → (∃ i, v ≤ i ∧ i < (b.length : Int) ∧ pt b i = p) → ∃ i, 0 ≤ i ∧ slices_Index_impl_Peg_impl_Peg_l0 L b p.x p.y m v = some i := by
      intro m
      induction m with
      | zero => rintro v h0 h ⟨i, q1, q2, _⟩; omega
      | succ m ih =>
        rintro v h0 h ⟨i, q1, q2, q3⟩
        have hv : v < (b.length : Int) := by omega
        simp only [slices_Index_impl_Peg_impl_Peg_l0, ilt_eq, ilen_mapep, hv, decide_true, cond_true, gbind_eq, lget_pt h0 hv, Option.bind_some, ieq_eq, heq]
        by_cases hi : pt b v = p
        · exact ⟨v, h0, by simp [hi]⟩
        · simp only [hi, decide_false, cond_false, iadd_eq]
          rw [wr_s (by omega)]
          refine ih (v + 1) (by omega) (by omega) ⟨i, ?_, q2, q3⟩
          by_cases e : i = v
          · subst e; exact absurd q3 hi
          · omega
    exact this L 0 (Int.le_refl _) (by omega)
  constructor
  · intro h
    obtain ⟨i, q1, q2⟩ := key h
    simp only [slices_Contains_impl_Peg_impl_Peg, slices_Index_impl_Peg_impl_Peg, gbind_eq, q2, Option.bind_some, ile_eq, q1, decide_true]
  · intro h
    have := (search (f := fun m v => slices_Index_impl_Peg_impl_Peg_l0 L b p.x p.y m v) (r := none) (k := some (-1)) (lo := 0) (n := (b.length : Int)) (hi := (b.length : Int)) (bad := fun i => False) (Int.le_refl _) (fun m v h0 _ h => by
        simp only [slices_Index_impl_Peg_impl_Peg_l0, ilt_eq, ilen_mapep, h, decide_false, cond_false]) (fun m v h0 h hb => hb.elim) (fun m v h0 hv _ => by
        simp only [slices_Index_impl_Peg_impl_Peg_l0, ilt_eq, ilen_mapep, hv, decide_true, cond_true, gbind_eq, lget_pt h0 hv, Option.bind_some, ieq_eq, heq, h v h0 hv, decide_false, cond_false, iadd_eq]
        rw [wr_s (by omega)]) L 0 (Int.le_refl _) (by omega) (by omega) (by omega)).2 fun _ _ _ h => h
    simp only [slices_Contains_impl_Peg_impl_Peg, slices_Index_impl_Peg_impl_Peg, gbind_eq, this, Option.bind_some, ile_eq]
    rfl

theorem pt_take {a : List Pt} {i j : Int} (h0 : 0 ≤ j) (hj : j < i) (h1 : i ≤ a.length) : pt (lsub a 0 i) j = pt a j := by
  have h2 := lsub0_get h0 hj h1
  have h3 : ((lsub a 0 i).length : Int) = i := by rw [lsub0 (by omega) h1]; simp; omega
  rw [lget_pt h0 (by omega)] at h2
  exact Option.some.inj h2

def BadM (a : List Pt) (i k : Int) : Prop := k + 1 ≠ i ∧ ¬ (i + 1 = (a.length : Int) ∧ k = 0) ∧ Meet (pt a k) (pt a (k + 1)) (pt a i) (pt a (i + 1))

theorem poly_l1 {L : Nat} {κ0 : (List Pt) → Int → (List Pt) → Int → Int → Option Bool} {a v17 : List Pt} {v18 i : Int} (hi : 0 ≤ i) (hil : i < a.length) (hs : (a.length : Int) ≤ 10) (hin : ∀ i, In (pt a i)) {m : Nat} (hm : i < m) :
    ((∃ k, 0 ≤ k ∧ k < i ∧ BadM a i k) → impl_IsPolygon_l1 L κ0 a a.length v17 v18 i (pt a i) m 0 = some false) ∧
    ((∀ k, 0 ≤ k → k < i → ¬ BadM a i k) → impl_IsPolygon_l1 L κ0 a a.length v17 v18 i (pt a i) m 0 = κ0 a a.length v17 v18 (i + 1)) := by
  have hne : a ≠ [] := by intro e; subst e; simp at hil; omega
  refine search (lo := 0) (n := i) (hi := i) (bad := BadM a i) (Int.le_refl _) ?_ ?_ ?_ m 0 (Int.le_refl _) (by omega) (by omega) (by omega)
  · intro m v h0 _ h
    simp only [impl_IsPolygon_l1, ilt_eq, h, decide_false, cond_false, iadd_eq]
    rw [wr_s (by omega)]
  · intro m v h0 h hb
    obtain ⟨b1, b2, b3⟩ := hb
    simp only [impl_IsPolygon_l1, ilt_eq, ieq_eq, iadd_eq, wr_s (i := v + 1) (by omega), wr_s (i := i + 1) (by omega), h, b1, decide_true, decide_false, cond_true, cond_false, gbind_eq,
      lget_pt h0 (show v < (a.length : Int) by omega), lget_pt (show 0 ≤ v + 1 by omega) (show v + 1 < (a.length : Int) by omega), impl_at_eq hne (show (a.length : Int) ≤ 1000000000 by omega), Option.bind_some]
    rw [impl_meet_eq (hin _).nr (hin _).nr (hin _).nr (hin _).nr]
    rw [decide_eq_true b3]
    by_cases c1 : i + 1 = (a.length : Int)
    · have c2 : ¬ v = 0 := fun e => b2 ⟨c1, e⟩
      simp [c1, c2]
    · simp [c1]
  · intro m v h0 h hb
    simp only [impl_IsPolygon_l1, ilt_eq, ieq_eq, iadd_eq, wr_s (i := v + 1) (by omega), wr_s (i := i + 1) (by omega), h, decide_true, decide_false, cond_true, cond_false, gbind_eq,
      lget_pt h0 (show v < (a.length : Int) by omega), lget_pt (show 0 ≤ v + 1 by omega) (show v + 1 < (a.length : Int) by omega), impl_at_eq hne (show (a.length : Int) ≤ 1000000000 by omega), Option.bind_some]
    rw [impl_meet_eq (hin _).nr (hin _).nr (hin _).nr (hin _).nr]
    by_cases c0 : v + 1 = i
    · simp only [c0, decide_true, cond_true]
    · simp only [c0, decide_false, cond_false]
      by_cases c1 : i + 1 = (a.length : Int)
      · by_cases c2 : v = 0
        · simp [c1, c2]
        · have b3 : ¬ Meet (pt a v) (pt a (v + 1)) (pt a i) (pt a (i + 1)) := fun e => hb ⟨c0, fun q => c2 q.2, e⟩
          simp [c1, c2]
          rw [← c1]
          simp [b3]
      · have b3 : ¬ Meet (pt a v) (pt a (v + 1)) (pt a i) (pt a (i + 1)) := fun e => hb ⟨c0, fun q => c1 q.1, e⟩
        simp [c1, b3]

theorem poly_l0 {L : Nat} {a : List Pt} (hn : 3 ≤ (a.length : Int)) (hs : (a.length : Int) ≤ 10) (hL : 20 < L) (hin : ∀ i, In (pt a i)) {m : Nat} (hm : (a.length : Int) < m) :
    ((∃ i, 0 ≤ i ∧ i < (a.length : Int) ∧ ((∃ k, 0 ≤ k ∧ k < i ∧ pt a k = pt a i) ∨ turn (pt a (i - 1)) (pt a i) (pt a (i + 1)) = 0 ∨ ∃ k, 0 ≤ k ∧ k < i ∧ BadM a i k)) → impl_IsPolygon_l0 L m a a.length a a.length 0 = some false) ∧
    ((∀ i, 0 ≤ i → i < (a.length : Int) → ¬ ((∃ k, 0 ≤ k ∧ k < i ∧ pt a k = pt a i) ∨ turn (pt a (i - 1)) (pt a i) (pt a (i + 1)) = 0 ∨ ∃ k, 0 ≤ k ∧ k < i ∧ BadM a i k)) → impl_IsPolygon_l0 L m a a.length a a.length 0 = some true) := by
  have hne : a ≠ [] := by intro e; subst e; simp at hn
  have hc : ∀ v, 0 ≤ v → v < (a.length : Int) → ((∃ k, 0 ≤ k ∧ k < v ∧ pt a k = pt a v) → slices_Contains_impl_Peg_impl_Peg L (lsub a 0 v) (pt a v).x (pt a v).y = some true) ∧ ((¬ ∃ k, 0 ≤ k ∧ k < v ∧ pt a k = pt a v) → slices_Contains_impl_Peg_impl_Peg L (lsub a 0 v) (pt a v).x (pt a v).y = some false) := by
    intro v h0 h
    have hl : ((lsub a 0 v).length : Int) = v := by rw [lsub0 (by omega) (by omega)]; simp; omega
    obtain ⟨h1, h2⟩ := contains_eq (L := L) (b := lsub a 0 v) (p := pt a v) (by omega) (by omega)
    rw [hl] at h1 h2
    refine ⟨fun ⟨k, q1, q2, q3⟩ => h1 ⟨k, q1, q2, by rw [pt_take q1 q2 (by omega)]; exact q3⟩, fun hno => h2 fun j q1 q2 q3 => hno ⟨j, q1, q2, ?_⟩⟩
    rwa [pt_take q1 q2 (by omega)] at q3
  refine search (f := fun m v => impl_IsPolygon_l0 L m a a.length a a.length v) (lo := 0) (n := (a.length : Int)) (hi := 10)
    (bad := fun i => (∃ k, 0 ≤ k ∧ k < i ∧ pt a k = pt a i) ∨ turn (pt a (i - 1)) (pt a i) (pt a (i + 1)) = 0 ∨ ∃ k, 0 ≤ k ∧ k < i ∧ BadM a i k) hs ?_ ?_ ?_ m 0 (Int.le_refl _) (by omega) (by omega) (by omega)
  · intro m v h0 _ h
    simp only [impl_IsPolygon_l0, ilt_eq, h, decide_false, cond_false]
  · intro m v h0 h hb
    simp only [impl_IsPolygon_l0, ilt_eq, ile_eq, isub_eq, iadd_eq, h, h0, ilen_mapep, show v ≤ (a.length : Int) by omega, decide_true, Bool.and_self, cond_true, gbind_eq, lget_pt h0 h, Option.bind_some, wr_s (i := v + 1) (by omega), wr_s (i := v - 1) (by omega),
      impl_at_eq hne (show (a.length : Int) ≤ 1000000000 by omega)]
    rw [impl_turn_eq (hin _).nr (hin _).nr (hin _).nr]
    by_cases c : ∃ k, 0 ≤ k ∧ k < v ∧ pt a k = pt a v
    · rw [(hc v h0 h).1 c]; rfl
    · rw [(hc v h0 h).2 c]
      simp only [Option.bind_some, cond_false, ieq_eq]
      by_cases t : turn (pt a (v - 1)) (pt a v) (pt a (v + 1)) = 0
      · simp only [t, decide_true, cond_true]
      · simp only [t, decide_false, cond_false]
        exact (poly_l1 h0 h hs hin (by omega)).1 ((hb.resolve_left c).resolve_left t)
  · intro m v h0 h hb
    simp only [impl_IsPolygon_l0, ilt_eq, ile_eq, isub_eq, iadd_eq, h, h0, ilen_mapep, show v ≤ (a.length : Int) by omega, decide_true, Bool.and_self, cond_true, gbind_eq, lget_pt h0 h, Option.bind_some, wr_s (i := v + 1) (by omega), wr_s (i := v - 1) (by omega),
      impl_at_eq hne (show (a.length : Int) ≤ 1000000000 by omega)]
    rw [impl_turn_eq (hin _).nr (hin _).nr (hin _).nr, (hc v h0 h).2 fun c => hb (.inl c)]
    have t : ¬ turn (pt a (v - 1)) (pt a v) (pt a (v + 1)) = 0 := fun e => hb (.inr (.inl e))
    simp only [Option.bind_some, cond_false, ieq_eq, t, decide_false]
    exact (poly_l1 h0 h hs hin (by omega)).2 fun k q1 q2 q3 => hb (.inr (.inr ⟨k, q1, q2, q3⟩))

open Classical in
theorem impl_IsPolygon_eq {L : Nat} {a : List Pt} (hL : 20 < L) : impl_IsPolygon L a = some (decide (Good_ a)) := by
  unfold impl_IsPolygon
  simp only [ilen_mapep, impl_within_eq, gbind_eq, Option.bind_some]
  by_cases hn : 3 ≤ (a.length : Int) ∧ (a.length : Int) ≤ 10
  · simp only [hn, and_self, decide_true, Bool.not_true, cond_false]
    have hne : a ≠ [] := by intro e; subst e; simp at hn
    have hl : 0 < (a.length : Int) := by omega
    by_cases hI : ∀ i, 0 ≤ i → i < (a.length : Int) → In (pt a i)
    · rw [(arePegs_eq (by omega) (by omega)).2 hI]
      simp only [Option.bind_some, Bool.not_true, cond_false]
      have hin := in_all hI hne
      by_cases h0 : ∃ i, 0 ≤ i ∧ i < (a.length : Int) ∧ ((∃ k, 0 ≤ k ∧ k < i ∧ pt a k = pt a i) ∨ turn (pt a (i - 1)) (pt a i) (pt a (i + 1)) = 0 ∨ ∃ k, 0 ≤ k ∧ k < i ∧ BadM a i k)
      · rw [(poly_l0 hn.1 hn.2 hL hin (by omega)).1 h0]
        have : ¬ Good_ a := fun g => by
          obtain ⟨i, q1, q2, q3⟩ := h0
          rcases q3 with ⟨k, q4, q5, q6⟩ | q3 | ⟨k, q4, q5, q6, q7, q8⟩
          · exact g.ne i k q4 q5 q2 q6
          · refine g.turn ((i - 1) % a.length) (Int.emod_nonneg _ (by omega)) (Int.emod_lt_of_pos _ hl) ?_
            rw [pt_congr (a := a) (i := (i - 1) % a.length) (j := i - 1) (Int.emod_emod_of_dvd _ (Int.dvd_refl _)), pt_congr (a := a) (i := (i - 1) % a.length + 1) (j := i) (by rw [Int.emod_add_emod]; congr 1; omega),
              pt_congr (a := a) (i := (i - 1) % a.length + 2) (j := i + 1) (by rw [Int.emod_add_emod]; congr 1; omega)]
            exact q3
          · exact g.apart k i q4 (by omega) q2 (by
              rcases Int.lt_or_le (i - k) ((a.length : Int) - 1) with h | h
              · exact h
              · exact absurd ⟨by omega, by omega⟩ q7) q8
        simp [this]
      · have h0' : ∀ i, 0 ≤ i → i < (a.length : Int) → ¬ ((∃ k, 0 ≤ k ∧ k < i ∧ pt a k = pt a i) ∨ turn (pt a (i - 1)) (pt a i) (pt a (i + 1)) = 0 ∨ ∃ k, 0 ≤ k ∧ k < i ∧ BadM a i k) := fun i q1 q2 q3 => h0 ⟨i, q1, q2, q3⟩
        rw [(poly_l0 hn.1 hn.2 hL hin (by omega)).2 h0']
        have : Good_ a := ⟨hn.1, hn.2, hI, fun i k q1 q2 q3 q4 => h0' i (by omega) q3 (.inl ⟨k, q1, q2, q4⟩), fun i q1 q2 q3 => by
            refine h0' ((i + 1) % a.length) (Int.emod_nonneg _ (by omega)) (Int.emod_lt_of_pos _ hl) (.inr (.inl ?_))
            rw [pt_congr (a := a) (i := (i + 1) % a.length - 1) (j := i) (by rw [Int.emod_sub_emod]; congr 1; omega), pt_congr (a := a) (i := (i + 1) % a.length) (j := i + 1) (Int.emod_emod_of_dvd _ (Int.dvd_refl _)),
              pt_congr (a := a) (i := (i + 1) % a.length + 1) (j := i + 2) (by rw [Int.emod_add_emod]; congr 1; omega)]
            exact q3, fun i k q1 q2 q3 q4 q5 => h0' k (by omega) q3 (.inr (.inr ⟨i, q1, by omega, by omega, fun q => by omega, q5⟩))⟩
        simp [this]
    · have : ¬ Good_ a := fun g => hI g.isIn
      rw [(arePegs_eq (by omega) (by omega)).1 (by
        refine Classical.byContradiction fun h => hI fun i q1 q2 => Classical.byContradiction fun e => h ⟨i, q1, q2, e⟩)]
      simp [this]
  · have : ¬ Good_ a := fun g => hn ⟨g.lo, g.hi⟩
    simp only [hn, this, decide_false, Bool.not_false, cond_true]
end Go.AM

namespace Go.AM
set_option linter.unusedVariables false

def sm (g : Int → Int) : Nat → Int
  | 0 => 0
  | k + 1 => sm g k + g k

theorem sm_bd {g : Int → Int} {B : Int} (h : ∀ i, -B ≤ g i ∧ g i ≤ B) : ∀ k : Nat, -(k * B) ≤ sm g k ∧ sm g k ≤ k * B
  | 0 => by simp [sm]
  | k + 1 => by
    have h1 := sm_bd h k
    have h2 := h k
    simp only [sm]
    have : ((k + 1 : Nat) : Int) * B = k * B + B := by rw [Int.natCast_add, Int.add_mul]; simp
    omega

theorem sm_congr {g h : Int → Int} : ∀ {k : Nat}, (∀ i : Int, 0 ≤ i → i < k → g i = h i) → sm g k = sm h k
  | 0, _ => rfl
  | k + 1, hh => by simp only [sm]; rw [sm_congr fun i h1 h2 => hh i h1 (by omega), hh k (by omega) (by omega)]

/-- a loop that adds -/
theorem accum {β : Type} {f : Nat → Int → Int → Option β} {S : Int → Int} {r : Option β} {lo n : Int} (hstop : ∀ m, f (m + 1) (S n) n = r) (hgo : ∀ m v, lo ≤ v → v < n → f (m + 1) (S v) v = f m (S (v + 1)) (v + 1)) :
    ∀ (m : Nat) (v : Int), lo ≤ v → v ≤ n → n - v < m → f m (S v) v = r := by
  intro m
  induction m with
  | zero => intro v _ _ h; omega
  | succ m ih =>
    intro v hv hvn hm
    by_cases h : v < n
    · rw [hgo m v hv h]; exact ih (v + 1) (by omega) (by omega) (by omega)
    · have : v = n := by omega
      subst this
      exact hstop m

def cross (p q : Pt) : Int := p.x * q.y - p.y * q.x

theorem cross_bd {p q : Pt} (hp : Nr p) (hq : Nr q) : -2000000 ≤ cross p q ∧ cross p q ≤ 2000000 := by
  have h1 := mul_bd hp.1 hq.2
  have h2 := mul_bd hp.2 hq.1
  unfold cross
  omega

theorem impl_cross_eq {L : Nat} {p q : Pt} (hp : Nr p) (hq : Nr q) : impl_cross L p.x p.y q.x q.y = some (cross p q) := by
  have h1 := mul_bd hp.1 hq.2
  have h2 := mul_bd hp.2 hq.1
  unfold impl_cross cross
  simp only [isub_eq, imul_eq]
  rw [wr_id (n := p.x * q.y) (by omega), wr_id (n := p.y * q.x) (by omega), wr_id (by omega)]

theorem turn_cross (a b c : Pt) : turn a b c = cross a b + cross b c - cross a c := by unfold turn cross; grind

/-- twice the area, as the program adds it -/
def area (a : List Pt) : Int := sm (fun i => cross (pt a i) (pt a (i + 1))) a.length

theorem impl_twice_eq {L : Nat} {a : List Pt} (hn : a ≠ []) (hs : (a.length : Int) ≤ 1000) (hL : (a.length : Int) < L) (hin : ∀ i, Nr (pt a i)) : impl_twice L a = some (area a) := by
  unfold impl_twice
  have := accum (f := fun m s v => impl_twice_l0 L a m s v) (S := fun v => sm (fun i => cross (pt a i) (pt a (i + 1))) v.toNat) (r := some (area a)) (lo := 0) (n := a.length) (fun m => by
    simp only [impl_twice_l0, ilt_eq, ilen_mapep, Int.lt_irrefl, decide_false, cond_false]; rfl) (fun m v h0 h => by
    simp only [impl_twice_l0, ilt_eq, ilen_mapep, h, decide_true, cond_true, gbind_eq, lget_pt h0 h, Option.bind_some, iadd_eq, wr_s (i := v + 1) (by omega), impl_at_eq hn (show (a.length : Int) ≤ 1000000000 by omega)]
    rw [impl_cross_eq (hin _) (hin _)]
    simp only [Option.bind_some]
    have h1 := sm_bd (fun i => cross_bd (hin i) (hin (i + 1))) v.toNat
    have h2 := cross_bd (hin v) (hin (v + 1))
    have h3 : (v.toNat : Int) * 2000000 ≤ 1000 * 2000000 := by omega
    rw [wr_id (by omega)]
    congr 1
    rw [show (v + 1).toNat = v.toNat + 1 by omega]
    simp only [sm]
    rw [Int.toNat_of_nonneg h0]) L 0 (Int.le_refl _) (by omega) (by omega)
  exact this

theorem fan_area (a : List Pt) (hn : 2 ≤ (a.length : Int)) : sm (fun i => turn (pt a 0) (pt a (i + 1)) (pt a (i + 2))) (a.length - 2) = area a := by
  have key : ∀ k : Nat, sm (fun i => turn (pt a 0) (pt a (i + 1)) (pt a (i + 2))) k + cross (pt a 0) (pt a (k + 1)) = sm (fun i => cross (pt a i) (pt a (i + 1))) (k + 1) := by
    intro k
    induction k with
    | zero => simp [sm]
    | succ k ih =>
      simp only [sm] at ih ⊢
      rw [turn_cross]
      have e1 : ((k + 1 : Nat) : Int) = (k : Int) + 1 := by omega
      have e2 : (k : Int) + 1 + 1 = (k : Int) + 2 := by omega
      rw [e1, e2]
      omega
  have h := key (a.length - 2)
  unfold area
  have e : a.length = (a.length - 2) + 1 + 1 := by omega
  conv => rhs; rw [e]
  simp only [sm] at h ⊢
  have e1 : (((a.length - 2 + 1 : Nat) : Int) + 1) = (a.length : Int) := by omega
  have e2 : (((a.length - 2 : Nat) : Int) + 1) = ((a.length - 2 + 1 : Nat) : Int) := by omega
  rw [e1]
  rw [e2] at h
  have e3 : pt a (a.length : Int) = pt a 0 := pt_congr (by simp)
  rw [e3]
  have e4 : cross (pt a ((a.length - 2 + 1 : Nat) : Int)) (pt a 0) = - cross (pt a 0) (pt a ((a.length - 2 + 1 : Nat) : Int)) := by unfold cross; grind
  rw [e4]
  rw [← e2] at h ⊢
  omega

theorem spec_pgArea_eq {L : Nat} {a : List Pt} (hn : 2 ≤ (a.length : Int)) (hs : (a.length : Int) ≤ 1000) (hL : (a.length : Int) < L) (hin : ∀ i, Nr (pt a i)) : spec_pgArea L a = some (area a) := by
  unfold spec_pgArea
  have := accum (f := fun m s v => spec_pgArea_l0 L a m s v) (S := fun v => sm (fun i => turn (pt a 0) (pt a (i + 1)) (pt a (i + 2))) (v - 2).toNat) (r := some (area a)) (lo := 2) (n := a.length) (fun m => by
    simp only [spec_pgArea_l0, ilt_eq, ilen_mapep, Int.lt_irrefl, decide_false, cond_false]
    rw [← fan_area a hn, show ((a.length : Int) - 2).toNat = a.length - 2 by omega]) (fun m v h0 h => by
    simp only [spec_pgArea_l0, ilt_eq, ilen_mapep, h, decide_true, cond_true, gbind_eq, lget_pt (show 0 ≤ v by omega) h, lget_pt (Int.le_refl 0) (show 0 < (a.length : Int) by omega), Option.bind_some, iadd_eq, isub_eq, wr_s (i := v + 1) (by omega), wr_s (i := v - 1) (by omega),
      lget_pt (show 0 ≤ v - 1 by omega) (show v - 1 < (a.length : Int) by omega)]
    rw [spec_pgTurn_eq (hin _) (hin _) (hin _)]
    simp only [Option.bind_some]
    have h1 := sm_bd (fun i => turn_bd (hin 0) (hin (i + 1)) (hin (i + 2))) (v - 2).toNat
    have h2 := turn_bd (hin 0) (hin (v - 1)) (hin v)
    have h3 : ((v - 2).toNat : Int) * 8000000 ≤ 1000 * 8000000 := by omega
    rw [wr_id (by omega)]
    congr 1
    rw [show (v + 1 - 2).toNat = (v - 2).toNat + 1 by omega]
    simp only [sm]
    rw [show (((v - 2).toNat : Nat) : Int) + 1 = v - 1 by omega, show (((v - 2).toNat : Nat) : Int) + 2 = v by omega]) L 2 (Int.le_refl _) (by omega) (by omega)
  exact this
end Go.AM

namespace Go.AM
set_option linter.unusedVariables false

def Cvx (a : List Pt) : Prop := ∀ i, 0 ≤ i → i < (a.length : Int) → sg (turn (pt a i) (pt a (i + 1)) (pt a (i + 2))) = sg (area a)

theorem impl_size_eq {L : Nat} {n : Int} (h : -1000000000 ≤ n ∧ n ≤ 1000000000) : impl_size L n = some (n.natAbs : Int) := by
  unfold impl_size
  simp only [imax_eq, isub_eq]
  rw [wr_id (by omega)]
  congr 1
  split <;> omega

theorem spec_l1Abs_eq {L : Nat} {n : Int} (h : -1000000000 ≤ n ∧ n ≤ 1000000000) : spec_l1Abs L n = some (n.natAbs : Int) := by
  unfold spec_l1Abs spec_l1Most
  simp only [ilt_eq, isub_eq, gbind_eq]
  rw [wr_id (by omega)]
  by_cases h1 : 0 - n < n
  · simp only [h1, decide_true, cond_true, Option.bind_some]; congr 1; omega
  · simp only [h1, decide_false, cond_false, Option.bind_some]; congr 1; omega

theorem divisor_l0 {L : Nat} : ∀ (m : Nat) (u v : Int), (-1000000000 ≤ u ∧ u ≤ 1000000000) → (-1000000000 ≤ v ∧ v ≤ 1000000000) → v.natAbs < m → impl_divisor_l0 L m u v = some (Nat.gcd u.natAbs v.natAbs : Int)
  | 0, _, _, _, _, h => by omega
  | m + 1, u, v, hu, hv, hm => by
    simp only [impl_divisor_l0, ieq_eq]
    by_cases h0 : v = 0
    · subst h0
      simp only [decide_true, Bool.not_true, cond_false, impl_size_eq hu, gbind_eq, Option.bind_some]
      simp
    · simp only [h0, decide_false, Bool.not_false, cond_true, cond_false]
      have h1 : (irem u v).natAbs = u.natAbs % v.natAbs := by rw [irem_eq, Int.natAbs_tmod]
      have h2 := Nat.mod_lt u.natAbs (show 0 < v.natAbs by omega)
      rw [divisor_l0 m v (irem u v) hv (by omega) (by omega), h1]
      congr 2
      rw [Nat.gcd_comm u.natAbs, Nat.gcd_rec v.natAbs u.natAbs, Nat.gcd_comm]

theorem common_l0 {L : Nat} : ∀ (m : Nat) (u v : Nat), v < m → spec_pgCommon_l0 L m u v = some (Nat.gcd u v : Int)
  | 0, _, _, h => by omega
  | m + 1, u, v, hm => by
    simp only [spec_pgCommon_l0, ilt_eq, ieq_eq]
    by_cases h0 : v = 0
    · subst h0
      simp
    · have h1 : (0 : Int) < (v : Int) := by omega
      have h2 : ¬ ((v : Int) = 0) := by omega
      simp only [h1, h2, decide_true, decide_false, cond_true, cond_false]
      have h3 : irem (u : Int) (v : Int) = ((u % v : Nat) : Int) := by rw [irem_nn (by omega)]; simp
      have h4 := Nat.mod_lt u (show 0 < v by omega)
      rw [h3, common_l0 m v (u % v) (by omega)]
      congr 2
      rw [Nat.gcd_comm u v, Nat.gcd_rec v u, Nat.gcd_comm]

def step (p q : Pt) : Int := (Nat.gcd (p.x - q.x).natAbs (p.y - q.y).natAbs : Int)

theorem step_bd {p q : Pt} (hp : Nr p) (hq : Nr q) : -4000 ≤ step p q ∧ step p q ≤ 4000 := by
  have h := sub_bd hp hq
  unfold step
  have : Nat.gcd (p.x - q.x).natAbs (p.y - q.y).natAbs ≤ (p.x - q.x).natAbs + (p.y - q.y).natAbs := by
    by_cases h0 : (p.x - q.x).natAbs = 0
    · rw [h0]; simp
    · have := Nat.gcd_le_left (p.y - q.y).natAbs (show 0 < (p.x - q.x).natAbs by omega); omega
  omega

theorem impl_steps_eq {L : Nat} {p q : Pt} (hp : Nr p) (hq : Nr q) (hL : 3000 < L) : impl_steps L p.x p.y q.x q.y = some (step p q) := by
  have h := sub_bd hp hq
  unfold impl_steps impl_divisor
  simp only [isub_eq, gbind_eq]
  rw [wr_id (n := p.x - q.x) (by omega), wr_id (n := p.y - q.y) (by omega), divisor_l0 L _ _ (by omega) (by omega) (by omega)]
  rfl

theorem spec_pgStep_eq {L : Nat} {p q : Pt} (hp : Nr p) (hq : Nr q) (hL : 3000 < L) : spec_pgStep L p.x p.y q.x q.y = some (step p q) := by
  have h := sub_bd hp hq
  unfold spec_pgStep spec_pgCommon
  simp only [isub_eq, gbind_eq]
  rw [wr_id (n := p.x - q.x) (by omega), wr_id (n := p.y - q.y) (by omega), spec_l1Abs_eq (by omega), spec_l1Abs_eq (by omega)]
  simp only [Option.bind_some]
  rw [common_l0 L _ _ (by omega)]
  rfl

def round (a : List Pt) : Int := sm (fun i => step (pt a i) (pt a (i + 1))) a.length

theorem impl_around_eq {L : Nat} {a : List Pt} (hn : a ≠ []) (hs : (a.length : Int) ≤ 1000) (hL : 3000 < L) (hin : ∀ i, Nr (pt a i)) : impl_around L a = some (round a) := by
  unfold impl_around
  have := accum (f := fun m s v => impl_around_l0 L a m s v) (S := fun v => sm (fun i => step (pt a i) (pt a (i + 1))) v.toNat) (r := some (round a)) (lo := 0) (n := a.length) (fun m => by
    simp only [impl_around_l0, ilt_eq, ilen_mapep, Int.lt_irrefl, decide_false, cond_false]; rfl) (fun m v h0 h => by
    simp only [impl_around_l0, ilt_eq, ilen_mapep, h, decide_true, cond_true, gbind_eq, lget_pt h0 h, Option.bind_some, iadd_eq, wr_s (i := v + 1) (by omega), impl_at_eq hn (show (a.length : Int) ≤ 1000000000 by omega)]
    rw [impl_steps_eq (hin _) (hin _) hL]
    simp only [Option.bind_some]
    have h1 := sm_bd (fun i => step_bd (hin i) (hin (i + 1))) v.toNat
    have h2 := step_bd (hin v) (hin (v + 1))
    have h3 : (v.toNat : Int) * 4000 ≤ 1000 * 4000 := by omega
    rw [wr_id (by omega)]
    congr 1
    rw [show (v + 1).toNat = v.toNat + 1 by omega]
    simp only [sm]
    rw [Int.toNat_of_nonneg h0]) L 0 (Int.le_refl _) (by omega) (by omega)
  exact this

theorem spec_pgRound_eq {L : Nat} {a : List Pt} (hn : a ≠ []) (hs : (a.length : Int) ≤ 1000) (hL : 3000 < L) (hin : ∀ i, Nr (pt a i)) : spec_pgRound L a = some (round a) := by
  have h3 : ¬ ((a.length : Int) = 0) := by have := List.length_pos_iff.2 hn; omega
  unfold spec_pgRound
  have := accum (f := fun m s v => spec_pgRound_l0 L a m s v) (S := fun v => sm (fun i => step (pt a i) (pt a (i + 1))) v.toNat) (r := some (round a)) (lo := 0) (n := a.length) (fun m => by
    simp only [spec_pgRound_l0, ilt_eq, ilen_mapep, Int.lt_irrefl, decide_false, cond_false]; rfl) (fun m v h0 h => by
    simp only [spec_pgRound_l0, ilt_eq, ieq_eq, ilen_mapep, h, h3, decide_true, decide_false, cond_true, cond_false, gbind_eq, lget_pt h0 h, Option.bind_some, iadd_eq, wr_s (i := v + 1) (by omega), lget_rem (show 0 ≤ v + 1 by omega) hn]
    rw [spec_pgStep_eq (hin _) (hin _) hL]
    simp only [Option.bind_some]
    have h1 := sm_bd (fun i => step_bd (hin i) (hin (i + 1))) v.toNat
    have h2 := step_bd (hin v) (hin (v + 1))
    have h3 : (v.toNat : Int) * 4000 ≤ 1000 * 4000 := by omega
    rw [wr_id (by omega)]
    congr 1
    rw [show (v + 1).toNat = v.toNat + 1 by omega]
    simp only [sm]
    rw [Int.toNat_of_nonneg h0]) L 0 (Int.le_refl _) (by omega) (by omega)
  exact this

theorem area_bd {a : List Pt} (hs : (a.length : Int) ≤ 100) (hin : ∀ i, Nr (pt a i)) : -200000000 ≤ area a ∧ area a ≤ 200000000 := by
  have h1 := sm_bd (fun i => cross_bd (hin i) (hin (i + 1))) a.length
  unfold area
  omega

noncomputable def inside (a : List Pt) : Int := wr .i64 (((wr .i64 (wr .i64 ((area a).natAbs + 2) - round a))).tdiv 2)

theorem inner_eq {L : Nat} {a : List Pt} (hn : 2 ≤ (a.length : Int)) (hs : (a.length : Int) ≤ 100) (hL : 3000 < L) (hin : ∀ i, Nr (pt a i)) : spec_pgInside L a = some (inside a) ∧ impl_inner L a = some (inside a) := by
  have hne : a ≠ [] := by intro e; subst e; simp at hn
  have hb := area_bd hs hin
  constructor
  · unfold spec_pgInside inside
    rw [spec_pgArea_eq hn (by omega) (by omega) hin]
    simp only [gbind_eq, Option.bind_some, spec_l1Abs_eq (show -1000000000 ≤ area a ∧ area a ≤ 1000000000 by omega), spec_pgRound_eq hne (show (a.length : Int) ≤ 1000 by omega) hL hin, ieq_eq, isub_eq, iadd_eq, iquo_eq]
    rfl
  · unfold impl_inner inside
    rw [impl_twice_eq hne (by omega) (by omega) hin]
    simp only [gbind_eq, Option.bind_some, impl_size_eq (show -1000000000 ≤ area a ∧ area a ≤ 1000000000 by omega), impl_around_eq hne (show (a.length : Int) ≤ 1000 by omega) hL hin, ieq_eq, isub_eq, iadd_eq, iquo_eq]
    rfl
end Go.AM

namespace Go.AM
set_option linter.unusedVariables false

theorem mul_self_nn (x : Int) : 0 ≤ x * x := by
  rcases Int.le_total 0 x with h | h
  · exact Int.mul_nonneg h h
  · have := Int.mul_nonneg (show 0 ≤ -x by omega) (show 0 ≤ -x by omega); rw [Int.neg_mul_neg] at this; exact this

end Go.AM

namespace Go.AM
set_option linter.unusedVariables false

def Less (p q : Pt) : Prop := p.x < q.x ∨ (p.x = q.x ∧ p.y < q.y)
instance (p q : Pt) : Decidable (Less p q) := by unfold Less; infer_instance

theorem Less.trans {p q r : Pt} (h : Less p q) (k : Less q r) : Less p r := by unfold Less at *; omega
theorem Less.irrefl (p : Pt) : ¬ Less p p := by unfold Less; omega
theorem not_less_eq {p q : Pt} (h : ¬ Less p q) (k : ¬ Less q p) : p = q := by
  unfold Less at *
  cases p; cases q
  simp only [Pt.mk.injEq] at *
  omega
/-- so many of a list told round, from one on, by a step -/
def tour (a : List Pt) (k s : Int) (n : Nat) : List Pt := (List.range n).map fun (j : Nat) => pt a (k + (j : Int) * s)

theorem fits_s {n : Int} {b : Nat} (h : n * b ≤ 140737488355328) : fits n b = true := by rw [fits_eq]; exact decide_eq_true h

end Go.AM

namespace Go.AM
set_option linter.unusedVariables false

theorem tour_len (a : List Pt) (k s : Int) (n : Nat) : (tour a k s n).length = n := by simp [tour]

theorem tour_get {a : List Pt} {k s : Int} {n j : Nat} (h : j < n) : (tour a k s n)[j]? = some (pt a (k + (j : Int) * s)) := by simp [tour, h]

theorem pt_tour {a : List Pt} {k s i : Int} (hn : a ≠ []) : pt (tour a k s a.length) i = pt a (k + (i % (a.length : Int)) * s) := by
  have hl : 0 < (a.length : Int) := by have := List.length_pos_iff.2 hn; omega
  have h1 := Int.emod_nonneg i (show (a.length : Int) ≠ 0 by omega)
  have h2 := Int.emod_lt_of_pos i hl
  conv => lhs; unfold pt
  rw [tour_len, List.getD_eq_getElem?_getD, tour_get (by omega), Int.toNat_of_nonneg h1]
  rfl

theorem back_l0 {L : Nat} {a : List Pt} (hn : a ≠ []) (hs : (a.length : Int) ≤ 900000) : ∀ (m : Nat) (v : Int), 0 ≤ v → v < a.length → v < m → spec_pgBack_l0 L a m v (tour a 0 (-1) (a.length - v.toNat)) = some (tour a 0 (-1) a.length)
  | 0, _, _, _, h => by omega
  | m + 1, v, h0, hv, hm => by
    by_cases h : 0 < v
    · simp only [spec_pgBack_l0, ilt_eq, ilen_mapep, h, decide_true, cond_true, gbind_eq, iadd_eq, isub_eq, lget_pt h0 hv, Option.bind_some, tour_len, wr_s (i := v - 1) (by omega)]
      rw [fits_s (by rw [ilen_eq]; simp; omega)]
      simp only [cond_true]
      have e : lcat (tour a 0 (-1) (a.length - v.toNat)) [pt a v] = tour a 0 (-1) (a.length - (v - 1).toNat) := by
        rw [lcat_eq, show a.length - (v - 1).toNat = (a.length - v.toNat) + 1 by omega]
        have : pt a v = pt a (0 + ((a.length - v.toNat : Nat) : Int) * (-1)) := by
          rw [show 0 + ((a.length - v.toNat : Nat) : Int) * (-1) = v - a.length by omega]
          exact pt_congr (by simp)
        rw [this]
        simp [tour, List.range_succ]
      rw [e]
      exact back_l0 hn hs m (v - 1) (by omega) (by omega) (by omega)
    · have e : v = 0 := by omega
      subst e
      simp only [spec_pgBack_l0, ilt_eq, h, decide_false, cond_false]
      rfl

theorem spec_pgBack_eq {L : Nat} {a : List Pt} (hn : a ≠ []) (hs : (a.length : Int) ≤ 900000) (hL : (a.length : Int) < L) : spec_pgBack L a = some (tour a 0 (-1) a.length) := by
  have hl : 0 < (a.length : Int) := by have := List.length_pos_iff.2 hn; omega
  unfold spec_pgBack
  simp only [gbind_eq, lget_pt (Int.le_refl 0) hl, Option.bind_some, ilen_mapep, isub_eq, wr_s (i := (a.length : Int) - 1) (by omega)]
  have := back_l0 (L := L) hn hs L ((a.length : Int) - 1) (by omega) (by omega) (by omega)
  have e : tour a 0 (-1) (a.length - ((a.length : Int) - 1).toNat) = [pt a 0] := by
    rw [show a.length - ((a.length : Int) - 1).toNat = 1 by omega]
    rfl
  rw [e] at this
  exact this

end Go.AM

namespace Go.AM
set_option linter.unusedVariables false

theorem pt_mod (a : List Pt) (i : Int) : pt a (i % (a.length : Int)) = pt a i := pt_congr (Int.emod_emod_of_dvd _ (Int.dvd_refl _))

end Go.AM

namespace Go.AM
set_option linter.unusedVariables false

theorem step_dvd (p q : Pt) : step p q ∣ (q.x - p.x) ∧ step p q ∣ (q.y - p.y) := by
  unfold step
  constructor
  · rw [Int.ofNat_dvd_left, show (q.x - p.x).natAbs = (p.x - q.x).natAbs by omega]; exact Nat.gcd_dvd_left _ _
  · rw [Int.ofNat_dvd_left, show (q.y - p.y).natAbs = (p.y - q.y).natAbs by omega]; exact Nat.gcd_dvd_right _ _

theorem tdiv_bd {a b A : Int} (h : -A ≤ a ∧ a ≤ A) : -A ≤ a.tdiv b ∧ a.tdiv b ≤ A := by
  have h1 : (a.tdiv b).natAbs ≤ a.natAbs := by rw [Int.natAbs_tdiv]; exact Nat.div_le_self _ _
  omega

end Go.AM

namespace Go.AM
set_option linter.unusedVariables false

theorem step_pos {p q : Pt} (h : p ≠ q) : 0 < step p q := by
  unfold step
  have : 0 < Nat.gcd (p.x - q.x).natAbs (p.y - q.y).natAbs := by
    rw [Nat.gcd_pos_iff]
    by_cases hx : p.x = q.x
    · right
      have : p.y ≠ q.y := fun e => h (by cases p; cases q; simp_all)
      omega
    · left; omega
  omega

end Go.AM

namespace Go.AM
set_option linter.unusedVariables false

end Go.AM

namespace Go.AM
set_option linter.unusedVariables false

/-- does the half line from q to the right cross this line, from the inside? -/
def tg (A B q : Pt) : Bool := decide ((A.y ≤ q.y ∧ q.y < B.y ∧ 0 < turn A B q) ∨ (B.y ≤ q.y ∧ q.y < A.y ∧ turn A B q < 0))

/-- the parity of the crossings from place v on, so many -/
def par (a : List Pt) (q : Pt) (v : Int) : Nat → Bool
  | 0 => false
  | k + 1 => xor (tg (pt a v) (pt a (v + 1)) q) (par a q (v + 1) k)

/-- on some line -/
def Rim (a : List Pt) (q : Pt) : Prop := ∃ i, 0 ≤ i ∧ i < (a.length : Int) ∧ OnL (pt a i) (pt a (i + 1)) q

open Classical in
noncomputable def wh (a : List Pt) (q : Pt) : Int := if Rim a q then 0 else if par a q 0 a.length then 1 else -1

end Go.AM

namespace Go.AM
set_option linter.unusedVariables false

/-- ahead of nothing -/
def Pos (v : Pt) : Prop := 0 < v.x ∨ (v.x = 0 ∧ 0 < v.y)
def Neg (v : Pt) : Prop := v.x < 0 ∨ (v.x = 0 ∧ v.y < 0)
instance (v : Pt) : Decidable (Pos v) := by unfold Pos; infer_instance
instance (v : Pt) : Decidable (Neg v) := by unfold Neg; infer_instance

/-- how often the way from one direction to the other one passes straight down, to the left -/
def dl (u v : Pt) : Int := if Neg u ∧ Pos v ∧ 0 < cross u v then 1 else if Pos u ∧ Neg v ∧ cross u v < 0 then -1 else 0

theorem dl_anti (u v : Pt) : dl v u = - dl u v := by
  have h : cross v u = - cross u v := by unfold cross; grind
  unfold dl
  rw [h]
  have n1 : ∀ w : Pt, Neg w → ¬ Pos w := fun w => by unfold Neg Pos; omega
  by_cases a1 : Neg u <;> by_cases a2 : Pos u <;> by_cases a3 : Neg v <;> by_cases a4 : Pos v <;> simp [a1, a2, a3, a4] <;>
    first
      | exact absurd a2 (n1 u a1)
      | exact absurd a4 (n1 v a3)
      | (by_cases b1 : 0 < cross u v <;> by_cases b2 : cross u v < 0 <;> simp [b1, b2] <;> omega)
      | skip

theorem pos_or_neg {v : Pt} (h : v ≠ ⟨0, 0⟩) : Pos v ∨ Neg v := by
  obtain ⟨x, y⟩ := v
  simp only [ne_eq, Pt.mk.injEq, not_and] at h
  unfold Pos Neg
  simp only
  by_cases hx : x = 0
  · have := h hx; omega
  · omega

/-- of three in the plane -/
theorem three_way (p q s : Pt) : cross q s * p.x + cross s p * q.x + cross p q * s.x = 0 ∧ cross q s * p.y + cross s p * q.y + cross p q * s.y = 0 := by
  unfold cross; constructor <;> grind

/-- a multiple of one ahead that is ahead -/
theorem sign_of {c : Int} {p w : Pt} (hp : Pos p) (hw : Pos w) (hx : c * p.x = w.x) (hy : c * p.y = w.y) : 0 < c := by
  unfold Pos at hp hw
  rcases Int.lt_trichotomy c 0 with h | h | h
  · exfalso
    rcases hp with hp | ⟨hp0, hp⟩
    · have := Int.mul_neg_of_neg_of_pos h hp; omega
    · rw [hp0] at hx
      have := Int.mul_neg_of_neg_of_pos h hp
      simp at hx; omega
  · subst h; simp at hx hy; omega
  · exact h

def comb (a : Int) (p : Pt) (b : Int) (q : Pt) : Pt := ⟨a * p.x + b * q.x, a * p.y + b * q.y⟩

theorem pos_comb {a b : Int} {p q : Pt} (ha : 0 < a) (hb : 0 ≤ b) (hp : Pos p) (hq : Pos q) : Pos (comb a p b q) := by
  unfold Pos comb at *
  simp only
  have bq : 0 ≤ b * q.x := by
    rcases hq with h | ⟨h, _⟩
    · exact Int.mul_nonneg hb (by omega)
    · rw [h]; simp
  rcases hp with h | ⟨h, h'⟩
  · left
    have := Int.mul_pos ha h
    omega
  · rw [h]
    simp only [Int.mul_zero, Int.zero_add]
    rcases Int.lt_or_eq_of_le bq with h1 | h1
    · exact .inl h1
    · right
      refine ⟨h1.symm, ?_⟩
      have := Int.mul_pos ha h'
      have bq' : 0 ≤ b * q.y := by
        rcases Int.mul_eq_zero.1 h1.symm with h2 | h2
        · rw [h2]; simp
        · rcases hq with h3 | ⟨_, h3⟩
          · omega
          · exact Int.mul_nonneg hb (by omega)
      omega

def ngt (v : Pt) : Pt := ⟨-v.x, -v.y⟩
theorem neg_ngt {v : Pt} : Neg v ↔ Pos (ngt v) := by unfold Neg Pos ngt; simp only; omega
theorem pos_ngt {v : Pt} : Pos v ↔ Neg (ngt v) := by unfold Neg Pos ngt; simp only; omega
theorem cross_ngt1 (u v : Pt) : cross (ngt u) v = - cross u v := by unfold cross ngt; grind
/-- p ahead, s and q behind, on both sides: from s to q it goes to the left -/
theorem wedge {p q s : Pt} (hp : Pos p) (hq : Neg q) (hs : Neg s) (h1 : cross p q < 0) (h2 : 0 ≤ cross p s) : 0 < cross s q := by
  obtain ⟨e1, e2⟩ := three_way p q s
  have hw := pos_comb (a := -cross p q) (b := cross p s) (by omega) h2 (neg_ngt.1 hs) (neg_ngt.1 hq)
  refine sign_of hp hw ?_ ?_
  · have : cross s p = - cross p s := by unfold cross; grind
    have : cross q s = - cross s q := by unfold cross; grind
    unfold comb ngt; simp only; grind
  · have : cross s p = - cross p s := by unfold cross; grind
    have : cross q s = - cross s q := by unfold cross; grind
    unfold comb ngt; simp only; grind
end Go.AM

namespace Go.AM
set_option linter.unusedVariables false

structure NM (p q r s : Pt) : Prop where
  sx : p.x + r.x = q.x + s.x
  sy : p.y + r.y = q.y + s.y
  n1 : ¬ (cross p s = 0 ∧ p.x * s.x ≤ 0 ∧ p.y * s.y ≤ 0)
  n2 : ¬ (cross q r = 0 ∧ q.x * r.x ≤ 0 ∧ q.y * r.y ≤ 0)
  n3 : ¬ (cross p q = 0 ∧ p.x * q.x ≤ 0 ∧ p.y * q.y ≤ 0)
  n4 : ¬ (cross s r = 0 ∧ s.x * r.x ≤ 0 ∧ s.y * r.y ≤ 0)
  n5 : ¬ (((cross p q < 0 ∧ 0 < cross s r) ∨ (0 < cross p q ∧ cross s r < 0)) ∧ ((cross p s < 0 ∧ 0 < cross q r) ∨ (0 < cross p s ∧ cross q r < 0)))

theorem cross_anti (u v : Pt) : cross v u = - cross u v := by unfold cross; grind

theorem NM.rot {p q r s : Pt} (h : NM p q r s) : NM q r s p := by
  have e1 := cross_anti q p; have e2 := cross_anti r s
  have h1 := h.n1; have h2 := h.n2; have h3 := h.n3; have h4 := h.n4; have h5 := h.n5
  refine ⟨by have := h.sx; omega, by have := h.sy; omega, ?_, ?_, ?_, ?_, ?_⟩
  · rw [cross_anti p q, Int.mul_comm q.x, Int.mul_comm q.y]; intro ⟨a, b⟩; exact h3 ⟨by omega, b⟩
  · rw [cross_anti s r, Int.mul_comm r.x, Int.mul_comm r.y]; intro ⟨a, b⟩; exact h4 ⟨by omega, b⟩
  · exact h2
  · exact h1
  · intro ⟨a, b⟩
    rw [cross_anti p q, cross_anti s r] at b
    exact h5 ⟨by omega, by omega⟩

theorem NM.swap {p q r s : Pt} (h : NM p q r s) : NM p s r q :=
  ⟨by have := h.sx; omega, by have := h.sy; omega, h.n3, h.n4, h.n1, h.n2, fun ⟨a, b⟩ => h.n5 ⟨b, a⟩⟩

theorem cross_ngt (u v : Pt) : cross (ngt u) (ngt v) = cross u v := by unfold cross ngt; grind

theorem NM.ngt {p q r s : Pt} (h : NM p q r s) : NM (ngt p) (ngt q) (ngt r) (ngt s) := by
  have hm : ∀ u v : Pt, (AM.ngt u).x * (AM.ngt v).x = u.x * v.x ∧ (AM.ngt u).y * (AM.ngt v).y = u.y * v.y := fun u v => by unfold AM.ngt; simp only; constructor <;> grind
  refine ⟨by have := h.sx; unfold AM.ngt; simp only; omega, by have := h.sy; unfold AM.ngt; simp only; omega, ?_, ?_, ?_, ?_, ?_⟩
  · rw [cross_ngt, (hm _ _).1, (hm _ _).2]; exact h.n1
  · rw [cross_ngt, (hm _ _).1, (hm _ _).2]; exact h.n2
  · rw [cross_ngt, (hm _ _).1, (hm _ _).2]; exact h.n3
  · rw [cross_ngt, (hm _ _).1, (hm _ _).2]; exact h.n4
  · simp only [cross_ngt]; exact h.n5

/-- against each other -/
theorem opp {p q : Pt} (hp : Pos p) (hq : Neg q) (h : cross p q = 0) : p.x * q.x ≤ 0 ∧ p.y * q.y ≤ 0 := by
  unfold Pos Neg at *
  have e : p.x * q.y = p.y * q.x := by unfold cross at h; omega
  rcases hp with hp | ⟨hp0, hp⟩
  · rcases hq with hq | ⟨hq0, hq⟩
    · refine ⟨by have := Int.mul_neg_of_pos_of_neg hp hq; omega, ?_⟩
      have e2 : p.x * (p.y * q.y) = (p.y * p.y) * q.x := by grind
      have h1 := mul_self_nn p.y
      have h2 := Int.mul_nonpos_of_nonneg_of_nonpos h1 (show q.x ≤ 0 by omega)
      rcases Int.lt_or_le 0 (p.y * q.y) with h3 | h3
      · have := Int.mul_pos hp h3; omega
      · exact h3
    · exfalso
      rw [hq0] at e
      have := Int.mul_neg_of_pos_of_neg hp hq
      simp at e; omega
  · rw [hp0] at e ⊢
    simp only [Int.zero_mul] at e ⊢
    have hqx : q.x = 0 := by
      rcases Int.mul_eq_zero.1 e.symm with h1 | h1 <;> omega
    refine ⟨Int.le_refl _, ?_⟩
    have : q.y < 0 := by omega
    have := Int.mul_neg_of_pos_of_neg hp this
    omega

theorem cell1 {p q r s : Pt} (h : NM p q r s) (hp : Pos p) (hq : Neg q) (hs : Neg s) : cross p q < 0 → cross p s < 0 := by
  intro h1
  rcases Int.lt_or_le (cross p s) 0 with h2 | h2
  · exact h2
  · exfalso
    have w := wedge hp hq hs h1 h2
    have hr : r = ⟨q.x + s.x - p.x, q.y + s.y - p.y⟩ := by
      have := h.sx; have := h.sy; obtain ⟨a, b⟩ := r; simp only at *; congr 1 <;> omega
    have b1 : cross s r = cross s q + cross p s := by rw [hr]; unfold cross; grind
    have b2 : cross q r = cross p q - cross s q := by rw [hr]; unfold cross; grind
    rcases Int.lt_or_eq_of_le h2 with h3 | h3
    · exact h.n5 ⟨.inl ⟨h1, by omega⟩, .inr ⟨h3, by omega⟩⟩
    · exact h.n1 ⟨h3.symm, opp hp hs h3.symm⟩

theorem cell_1 {p q r s : Pt} (h : NM p q r s) (hp : Pos p) (hq : Neg q) (hs : Neg s) : (cross p q < 0 ↔ cross p s < 0) ∧ cross p q ≠ 0 ∧ cross p s ≠ 0 :=
  ⟨⟨cell1 h hp hq hs, cell1 h.swap hp hs hq⟩, fun e => h.n3 ⟨e, opp hp hq e⟩, fun e => h.n1 ⟨e, opp hp hs e⟩⟩

theorem cell2 {p q r s : Pt} (h : NM p q r s) (hp : Pos p) (hq : Pos q) (hr : Neg r) (hs : Neg s) : ¬ (cross q r < 0 ∧ 0 < cross p s) := by
  rintro ⟨k, g⟩
  have e1 : cross q r = cross q s + cross p q := by
    have hr' : r = ⟨q.x + s.x - p.x, q.y + s.y - p.y⟩ := by
      have := h.sx; have := h.sy; obtain ⟨a, b⟩ := r; simp only at *; congr 1 <;> omega
    rw [hr']; unfold cross; grind
  have e2 : cross q r = cross p r - cross s r := by
    have hq' : q = ⟨p.x + r.x - s.x, p.y + r.y - s.y⟩ := by
      have := h.sx; have := h.sy; obtain ⟨a, b⟩ := q; simp only at *; congr 1 <;> omega
    rw [hq']; unfold cross; grind
  have a1 : cross p q < 0 := by
    rcases Int.lt_or_le (cross p q) 0 with h1 | h1
    · exact h1
    · have hw := pos_comb (a := -cross q s) (b := cross p s) (by omega) (by omega) hp hq
      obtain ⟨t1, t2⟩ := three_way p q s
      have a := cross_anti p s
      have := sign_of (c := -cross p q) (neg_ngt.1 hs) hw (by unfold ngt comb; simp only; grind) (by unfold ngt comb; simp only; grind)
      omega
  have b1 : 0 < cross s r := by
    rcases Int.lt_or_le 0 (cross s r) with h1 | h1
    · exact h1
    · have hw := pos_comb (a := -cross p r) (b := cross p s) (by omega) (by omega) (neg_ngt.1 hs) (neg_ngt.1 hr)
      obtain ⟨t1, t2⟩ := three_way p r s
      have a := cross_anti p s
      have a' := cross_anti s r
      exact sign_of (c := cross s r) hp hw (by unfold ngt comb; simp only; grind) (by unfold ngt comb; simp only; grind)
  exact h.n5 ⟨.inl ⟨a1, b1⟩, .inr ⟨g, k⟩⟩

theorem cell_2 {p q r s : Pt} (h : NM p q r s) (hp : Pos p) (hq : Pos q) (hr : Neg r) (hs : Neg s) : (cross q r < 0 ↔ cross p s < 0) ∧ cross q r ≠ 0 ∧ cross p s ≠ 0 := by
  have z1 : cross q r ≠ 0 := fun e => h.n2 ⟨e, opp hq hr e⟩
  have z2 : cross p s ≠ 0 := fun e => h.n1 ⟨e, opp hp hs e⟩
  have k1 := cell2 h hp hq hr hs
  have h' : NM q p s r := h.swap.rot.rot.rot
  have k2 := cell2 h' hq hp hs hr
  refine ⟨?_, z1, z2⟩
  omega

theorem pos_not_neg {v : Pt} (h : Pos v) : ¬ Neg v := by unfold Pos Neg at *; omega
theorem dl_pp {u v : Pt} (h : Pos u) (k : Pos v) : dl u v = 0 := by unfold dl; simp [pos_not_neg h, pos_not_neg k]
theorem neg_not_pos {v : Pt} (h : Neg v) : ¬ Pos v := fun k => pos_not_neg k h
theorem dl_nn {u v : Pt} (h : Neg u) (k : Neg v) : dl u v = 0 := by unfold dl; simp [neg_not_pos h, neg_not_pos k]
theorem dl_pn {u v : Pt} (h : Pos u) (k : Neg v) : dl u v = if cross u v < 0 then -1 else 0 := by unfold dl; simp [h, k, pos_not_neg h]
theorem dl_np {u v : Pt} (h : Neg u) (k : Pos v) : dl u v = if 0 < cross u v then 1 else 0 := by unfold dl; simp [h, k, neg_not_pos h]

theorem sum1 {p q r s : Pt} (h : NM p q r s) (hp : Pos p) (hq : Neg q) (hr : Neg r) (hs : Neg s) : dl p q + dl q r + dl r s + dl s p = 0 := by
  rw [dl_pn hp hq, dl_nn hq hr, dl_nn hr hs, dl_np hs hp, cross_anti p s]
  obtain ⟨k1, k2, k3⟩ := cell_1 h hp hq hs
  split <;> split <;> omega
theorem sum1n {p q r s : Pt} (h : NM p q r s) (hp : Neg p) (hq : Pos q) (hr : Pos r) (hs : Pos s) : dl p q + dl q r + dl r s + dl s p = 0 := by
  rw [dl_np hp hq, dl_pp hq hr, dl_pp hr hs, dl_pn hs hp, cross_anti p s]
  obtain ⟨k1, k2, k3⟩ := cell_1 h.ngt (neg_ngt.1 hp) (pos_ngt.1 hq) (pos_ngt.1 hs)
  rw [cross_ngt, cross_ngt] at k1
  rw [cross_ngt] at k2 k3
  split <;> split <;> omega
theorem sum2 {p q r s : Pt} (h : NM p q r s) (hp : Pos p) (hq : Pos q) (hr : Neg r) (hs : Neg s) : dl p q + dl q r + dl r s + dl s p = 0 := by
  rw [dl_pp hp hq, dl_pn hq hr, dl_nn hr hs, dl_np hs hp, cross_anti p s]
  obtain ⟨k1, k2, k3⟩ := cell_2 h hp hq hr hs
  split <;> split <;> omega
theorem sum3 {p q r s : Pt} (h : NM p q r s) (hp : Pos p) (hq : Neg q) (hr : Pos r) (hs : Neg s) : False := by
  have := h.sx; have := h.sy
  unfold Pos Neg at *
  omega

/-- a cell passes straight down as often to the left as to the right -/
theorem cell_sum {p q r s : Pt} (h : NM p q r s) (zp : p ≠ ⟨0, 0⟩) (zq : q ≠ ⟨0, 0⟩) (zr : r ≠ ⟨0, 0⟩) (zs : s ≠ ⟨0, 0⟩) : dl p q + dl q r + dl r s + dl s p = 0 := by
  have h1 := h.rot; have h2 := h1.rot; have h3 := h2.rot
  rcases pos_or_neg zp with hp | hp <;> rcases pos_or_neg zq with hq | hq <;> rcases pos_or_neg zr with hr | hr <;> rcases pos_or_neg zs with hs | hs
  · rw [dl_pp hp hq, dl_pp hq hr, dl_pp hr hs, dl_pp hs hp]; rfl
  · have := sum1n h3 hs hp hq hr; omega
  · have := sum1n h2 hr hs hp hq; omega
  · exact sum2 h hp hq hr hs
  · have := sum1n h1 hq hr hs hp; omega
  · exact (sum3 h hp hq hr hs).elim
  · have := sum2 h3 hs hp hq hr; omega
  · exact sum1 h hp hq hr hs
  · exact sum1n h hp hq hr hs
  · have := sum2 h1 hq hr hs hp; omega
  · exact (sum3 h1 hq hr hs hp).elim
  · have := sum1 h1 hq hr hs hp; omega
  · have := sum2 h2 hr hs hp hq; omega
  · have := sum1 h2 hr hs hp hq; omega
  · have := sum1 h3 hs hp hq hr; omega
  · rw [dl_nn hp hq, dl_nn hq hr, dl_nn hr hs, dl_nn hs hp]; rfl

/-- the way between two points -/
def df (a c : Pt) : Pt := ⟨c.x - a.x, c.y - a.y⟩

theorem nm_of {A B C D : Pt} (h : ¬ Meet A B C D) : NM (df A C) (df A D) (df B D) (df B C) := by
  unfold Meet OnL at h
  have t1 : cross (df A C) (df B C) = turn A B C := by unfold cross df turn; grind
  have t2 : cross (df A D) (df B D) = turn A B D := by unfold cross df turn; grind
  have t3 : cross (df A C) (df A D) = turn C D A := by unfold cross df turn; grind
  have t4 : cross (df B C) (df B D) = turn C D B := by unfold cross df turn; grind
  have m : ∀ a b c d : Int, (a - b) * (c - d) = (b - a) * (d - c) := fun a b c d => by grind
  simp only [not_or] at h
  obtain ⟨h1, h2, h3, h4, h5⟩ := h
  refine ⟨by unfold df; simp only; omega, by unfold df; simp only; omega, ?_, ?_, ?_, ?_, ?_⟩
  · rw [t1]; intro ⟨a, b, c⟩; exact h1 ⟨a, by rw [m]; exact b, by rw [m]; exact c⟩
  · rw [t2]; intro ⟨a, b, c⟩; exact h2 ⟨a, by rw [m]; exact b, by rw [m]; exact c⟩
  · rw [t3]; intro ⟨a, b, c⟩; exact h3 ⟨a, b, c⟩
  · rw [t4]; intro ⟨a, b, c⟩; exact h4 ⟨a, b, c⟩
  · rw [t1, t2, t3, t4]
    intro ⟨a, b⟩
    apply h5
    have key : ∀ x y : Int, ((x < 0 ∧ 0 < y) ∨ (0 < x ∧ y < 0)) → sg x * sg y < 0 := fun x y h => by
      unfold sg
      rcases h with ⟨h1, h2⟩ | ⟨h1, h2⟩
      · rw [if_neg (by omega), if_pos h1, if_pos h2]; decide
      · rw [if_pos h1, if_neg (by omega), if_pos h2]; decide
    exact ⟨key _ _ b, key _ _ a⟩

theorem df_ne {A B : Pt} (h : A ≠ B) : df A B ≠ ⟨0, 0⟩ := by
  intro e
  apply h
  obtain ⟨a, b⟩ := A; obtain ⟨c, d⟩ := B
  unfold df at e
  simp only [Pt.mk.injEq] at e ⊢
  omega

theorem not_meet_ne {A B C D : Pt} (h : ¬ Meet A B C D) : A ≠ C ∧ A ≠ D ∧ B ≠ C ∧ B ≠ D := by
  unfold Meet at h
  simp only [not_or] at h
  obtain ⟨h1, h2, h3, h4, h5⟩ := h
  refine ⟨fun e => h1 ?_, fun e => h2 ?_, fun e => h1 ?_, fun e => h2 ?_⟩ <;> subst e <;> unfold OnL turn <;> refine ⟨by grind, by simp, by simp⟩

theorem cell_df {A B C D : Pt} (h : ¬ Meet A B C D) : dl (df A C) (df A D) + dl (df A D) (df B D) + dl (df B D) (df B C) + dl (df B C) (df A C) = 0 := by
  obtain ⟨n1, n2, n3, n4⟩ := not_meet_ne h
  exact cell_sum (nm_of h) (df_ne n1) (df_ne n2) (df_ne n4) (df_ne n3)

/-- the cell of two lines that follow each other -/
theorem tri_sum {u v w : Pt} (hw : w = comb 1 u 1 v) (h : cross u v ≠ 0) : dl u w + dl w v = dl u v := by
  have c1 : cross u w = cross u v := by rw [hw]; unfold cross comb; grind
  have c2 : cross w v = cross u v := by rw [hw]; unfold cross comb; grind
  have zu : u ≠ ⟨0, 0⟩ := fun e => h (by rw [e]; unfold cross; simp)
  have zv : v ≠ ⟨0, 0⟩ := fun e => h (by rw [e]; unfold cross; simp)
  have zw : w ≠ ⟨0, 0⟩ := fun e => h (by rw [← c1, e]; unfold cross; simp)
  have hx : w.x = u.x + v.x := by rw [hw]; unfold comb; simp
  have hy : w.y = u.y + v.y := by rw [hw]; unfold comb; simp
  rcases pos_or_neg zu with hu | hu <;> rcases pos_or_neg zv with hv | hv <;> rcases pos_or_neg zw with hw' | hw'
  · rw [dl_pp hu hw', dl_pp hw' hv, dl_pp hu hv]; rfl
  · exfalso; unfold Pos Neg at *; omega
  · rw [dl_pp hu hw', dl_pn hw' hv, dl_pn hu hv, c2]; omega
  · rw [dl_pn hu hw', dl_nn hw' hv, dl_pn hu hv, c1]; omega
  · rw [dl_np hu hw', dl_pp hw' hv, dl_np hu hv, c1]; omega
  · rw [dl_nn hu hw', dl_np hw' hv, dl_np hu hv, c2]; omega
  · exfalso; unfold Pos Neg at *; omega
  · rw [dl_nn hu hw', dl_nn hw' hv, dl_nn hu hv]; rfl
end Go.AM

namespace Go.AM
set_option linter.unusedVariables false

structure LP (n : Int) (P : Int → Pt) : Prop where
  n3 : 3 ≤ n
  per : ∀ i, P (i + n) = P i
  left : ∀ i, 0 < turn (P i) (P (i + 1)) (P (i + 2))
  apart : ∀ i k, i + 2 ≤ k → k - i < n - 1 → ¬ Meet (P i) (P (i + 1)) (P k) (P (k + 1))

section
variable {n : Int} {P : Int → Pt}

def eg (P : Int → Pt) (i : Int) : Pt := df (P i) (P (i + 1))

theorem turn_eg (P : Int → Pt) (i : Int) : turn (P i) (P (i + 1)) (P (i + 2)) = cross (eg P i) (eg P (i + 1)) := by
  unfold eg df turn cross
  rw [show i + 1 + 1 = i + 2 by omega]
  grind

/-- the path from corner i's line to the k-th corner behind it, as seen from corner i -/
def rowS (P : Int → Pt) (i : Int) : Nat → Int
  | 0 => 0
  | k + 1 => rowS P i k + dl (df (P i) (P (i + 1 + k))) (df (P i) (P (i + 2 + k)))

theorem row_step (h : LP n P) (i : Int) : ∀ k : Nat, (k : Int) + 1 < n - 1 ∨ k = 0 → rowS P i (k + 1) + dl (df (P i) (P (i + 2 + k))) (df (P (i + 1)) (P (i + 2 + k))) = dl (eg P i) (eg P (i + 1)) + rowS P (i + 1) k
  | 0, _ => by
    have hl := h.left i
    rw [turn_eg] at hl
    have := tri_sum (u := eg P i) (v := eg P (i + 1)) (w := df (P i) (P (i + 2))) (by unfold eg df comb; rw [show i + 1 + 1 = i + 2 by omega]; simp only [Pt.mk.injEq]; omega) (by omega)
    simp only [rowS, Int.add_zero, Int.zero_add, show ((0 : Nat) : Int) = 0 from rfl]
    unfold eg at this ⊢
    rw [show i + 1 + 1 = i + 2 by omega] at *
    exact this
  | k + 1, hk => by
    have hk' : (k : Int) + 2 < n - 1 := by have := h.n3; omega
    have ih := row_step h i k (by omega)
    have hm := h.apart i (i + 2 + k) (by omega) (by omega)
    have c := cell_df hm
    rw [show i + 2 + (k : Int) + 1 = i + 2 + ((k + 1 : Nat) : Int) by omega] at c
    have a1 := dl_anti (df (P (i + 1)) (P (i + 2 + k))) (df (P (i + 1)) (P (i + 2 + ((k + 1 : Nat) : Int))))
    have a2 := dl_anti (df (P i) (P (i + 2 + k))) (df (P (i + 1)) (P (i + 2 + k)))
    have r1 : rowS P i (k + 1 + 1) = rowS P i (k + 1) + dl (df (P i) (P (i + 2 + k))) (df (P i) (P (i + 2 + ((k + 1 : Nat) : Int)))) := by
      conv => lhs; unfold rowS
      rw [show i + 1 + ((k + 1 : Nat) : Int) = i + 2 + k by omega]
    have r2 : rowS P (i + 1) (k + 1) = rowS P (i + 1) k + dl (df (P (i + 1)) (P (i + 2 + k))) (df (P (i + 1)) (P (i + 2 + ((k + 1 : Nat) : Int)))) := by
      conv => lhs; unfold rowS
      rw [show i + 1 + 1 + (k : Int) = i + 2 + k by omega, show i + 1 + 2 + (k : Int) = i + 2 + ((k + 1 : Nat) : Int) by omega]
    rw [r1, r2]
    omega

/-- all rows from 1 on -/
theorem rows_sum (h : LP n P) : ∀ (k : Nat), (k : Int) ≤ n - 2 → rowS P (n - 1 - k) k + sm (fun t => dl (df (P (n - 1 - k + t)) (P n)) (df (P (n - 1 - k + t + 1)) (P n))) k = sm (fun t => dl (eg P (n - 1 - k + t)) (eg P (n - 1 - k + t + 1))) k
  | 0, _ => by simp [rowS, sm]
  | k + 1, hk => by
    have ih := rows_sum h k (by omega)
    have hs := row_step h (n - 1 - (k + 1 : Nat)) k (by omega)
    have e1 : n - 1 - ((k + 1 : Nat) : Int) + 1 = n - 1 - k := by omega
    have e2 : n - 1 - ((k + 1 : Nat) : Int) + 2 + k = n := by omega
    rw [e1, e2] at hs
    have shift : ∀ f : Int → Int, sm (fun t => f (n - 1 - ((k + 1 : Nat) : Int) + t)) (k + 1) = f (n - 1 - ((k + 1 : Nat) : Int)) + sm (fun t => f (n - 1 - (k : Int) + t)) k := by
      intro f
      have key : ∀ m : Nat, sm (fun t => f (n - 1 - ((k + 1 : Nat) : Int) + t)) (m + 1) = f (n - 1 - ((k + 1 : Nat) : Int)) + sm (fun t => f (n - 1 - (k : Int) + t)) m := by
        intro m
        induction m with
        | zero => simp [sm]
        | succ m ihm =>
          have : sm (fun t => f (n - 1 - ((k + 1 : Nat) : Int) + t)) (m + 1 + 1) = sm (fun t => f (n - 1 - ((k + 1 : Nat) : Int) + t)) (m + 1) + f (n - 1 - ((k + 1 : Nat) : Int) + ((m + 1 : Nat) : Int)) := rfl
          rw [this, ihm]
          simp only [sm]
          rw [show n - 1 - ((k + 1 : Nat) : Int) + ((m + 1 : Nat) : Int) = n - 1 - (k : Int) + (m : Int) by omega]
          omega
      exact key k
    have s1 := shift fun x => dl (df (P x) (P n)) (df (P (x + 1)) (P n))
    have s2 := shift fun x => dl (eg P x) (eg P (x + 1))
    rw [s1, s2]
    rw [show n - 1 - ((k + 1 : Nat) : Int) + 1 = n - 1 - k by omega]
    omega

/-- corner 0 is the first one in order -/
structure Base (n : Int) (P : Int → Pt) : Prop extends LP n P where
  first : ∀ j, 0 < j → j < n → Pos (df (P 0) (P j))

theorem once (h : Base n P) : sm (fun t => dl (eg P t) (eg P (t + 1))) n.toNat = 1 := by
  have n3 := h.n3
  obtain ⟨k, hk⟩ : ∃ k : Nat, n = k + 3 := ⟨(n - 3).toNat, by omega⟩
  -- row 0
  have r0 : ∀ m : Nat, (m : Int) ≤ n - 2 → rowS P 0 m = 0 := by
    intro m
    induction m with
    | zero => intro _; rfl
    | succ m ih =>
      intro hm
      simp only [rowS]
      rw [ih (by omega), dl_pp (h.first _ (by omega) (by omega)) (h.first _ (by omega) (by omega))]
      rfl
  -- the last column
  have pn : P n = P 0 := by have := h.per 0; rwa [Int.zero_add] at this
  have hneg : ∀ j, 0 < j → j < n → Neg (df (P j) (P n)) := fun j h0 h1 => by
    have := h.first j h0 h1
    rw [pn]
    unfold Pos Neg df at *
    simp only at *
    omega
  have col := rows_sum h.toLP (k + 1) (by omega)
  have e1 : n - 1 - ((k + 1 : Nat) : Int) = 1 := by omega
  rw [e1] at col
  have c0 : sm (fun t => dl (df (P (1 + t)) (P n)) (df (P (1 + t + 1)) (P n))) (k + 1) = 0 := by
    have : sm (fun t => dl (df (P (1 + t)) (P n)) (df (P (1 + t + 1)) (P n))) (k + 1) = sm (fun _ => 0) (k + 1) := sm_congr fun i h0 h1 => dl_nn (hneg _ (by omega) (by omega)) (hneg _ (by omega) (by omega))
    rw [this]
    have z : ∀ m : Nat, sm (fun _ => 0) m = 0 := fun m => by induction m with | zero => rfl | succ m ih => simp [sm, ih]
    exact z _
  rw [c0] at col
  -- the corner where the first line meets the last one
  have s0 := row_step h.toLP 0 k (by omega)
  rw [r0 (k + 1) (by omega)] at s0
  have q1 : (0 : Int) + 2 + k = n - 1 := by omega
  rw [q1, Int.zero_add, show (0 : Int) + 1 = 1 by rfl] at s0
  have rl : rowS P 1 (k + 1) = rowS P 1 k + dl (df (P 1) (P (n - 1))) (df (P 1) (P n)) := by
    simp only [rowS]
    rw [show (1 : Int) + 1 + k = n - 1 by omega, show (1 : Int) + 2 + k = n by omega]
  have hl := h.left (n - 1)
  rw [turn_eg, show n - 1 + 1 = n by omega] at hl
  have pn1 : P (n + 1) = P 1 := by have := h.per 1; rwa [Int.add_comm] at this
  have u1 : df (P 0) (P (n - 1)) = ngt (eg P (n - 1)) := by
    unfold df ngt eg df; rw [show n - 1 + 1 = n by omega, pn]; simp only [Pt.mk.injEq]; omega
  have v1 : df (P 1) (P n) = ngt (eg P n) := by
    unfold df ngt eg df; rw [pn1, pn]; simp only [Pt.mk.injEq]; omega
  have tr := tri_sum (u := df (P 0) (P (n - 1))) (v := df (P 1) (P n)) (w := df (P 1) (P (n - 1))) (by unfold df comb; rw [pn]; simp only [Pt.mk.injEq]; omega) (by rw [u1, v1, cross_ngt]; omega)
  have dlast : dl (df (P 0) (P (n - 1))) (df (P 1) (P n)) = 0 := by
    rw [dl_pn (h.first _ (by omega) (by omega)) (hneg _ (by omega) (by omega)), u1, v1, cross_ngt, if_neg (by omega)]
  have eN : eg P n = eg P 0 := by unfold eg; rw [pn1, pn]; rfl
  have dback : dl (eg P (n - 1)) (eg P (n - 1 + 1)) = 1 := by
    rw [show n - 1 + 1 = n by omega]
    have a1 : Neg (eg P (n - 1)) := by have := hneg (n - 1) (by omega) (by omega); unfold eg; rwa [show n - 1 + 1 = n by omega]
    have a2 : Pos (eg P n) := by rw [eN]; unfold eg; exact h.first _ (by omega) (by omega)
    rw [dl_np a1 a2, if_pos hl]
  -- all together
  have tot : sm (fun t => dl (eg P t) (eg P (t + 1))) n.toNat = dl (eg P 0) (eg P 1) + sm (fun t => dl (eg P (1 + t)) (eg P (1 + t + 1))) (k + 1) + dl (eg P (n - 1)) (eg P (n - 1 + 1)) := by
    rw [show n.toNat = (k + 2) + 1 by omega]
    simp only [sm]
    rw [show ((k + 2 : Nat) : Int) = n - 1 by omega]
    have key : ∀ m : Nat, sm (fun t => dl (eg P t) (eg P (t + 1))) (m + 1) = dl (eg P 0) (eg P 1) + sm (fun t => dl (eg P (1 + t)) (eg P (1 + t + 1))) m := by
      intro m
      induction m with
      | zero => simp [sm]
      | succ m ih =>
        have : sm (fun t => dl (eg P t) (eg P (t + 1))) (m + 1 + 1) = sm (fun t => dl (eg P t) (eg P (t + 1))) (m + 1) + dl (eg P ((m + 1 : Nat) : Int)) (eg P (((m + 1 : Nat) : Int) + 1)) := rfl
        rw [this, ih]
        simp only [sm]
        rw [show ((m + 1 : Nat) : Int) = 1 + (m : Int) by omega]
        omega
    have := key (k + 1)
    simp only [sm] at this
    omega
  rw [tot, dback]
  rw [dlast] at tr
  omega
end
end Go.AM

namespace Go.AM
set_option linter.unusedVariables false

theorem tplus {u v w : Pt} (hu : Pos u) (hv : Pos v) (hw : Pos w) (h1 : 0 ≤ cross u v) (h2 : 0 < cross v w) : 0 < cross u w := by
  obtain ⟨e1, e2⟩ := three_way u v w
  have a := cross_anti u w
  have hc := pos_comb (a := cross v w) (b := cross u v) h2 h1 hu hw
  exact sign_of (c := cross u w) hv hc (by unfold comb; simp only; grind) (by unfold comb; simp only; grind)

theorem tneg {u v w : Pt} (hu : Neg u) (hv : Neg v) (hw : Neg w) (h1 : 0 ≤ cross u v) (h2 : 0 < cross v w) : 0 < cross u w := by
  have := tplus (neg_ngt.1 hu) (neg_ngt.1 hv) (neg_ngt.1 hw) (by rw [cross_ngt]; exact h1) (by rw [cross_ngt]; exact h2)
  rwa [cross_ngt] at this

theorem sm_nonneg {g : Int → Int} : ∀ {k : Nat}, (∀ i : Int, 0 ≤ i → i < k → 0 ≤ g i) → 0 ≤ sm g k ∧ ∀ i : Int, 0 ≤ i → i < k → g i ≤ sm g k
  | 0, _ => ⟨by simp [sm], fun i h0 h1 => by omega⟩
  | k + 1, h => by
    obtain ⟨h1, h2⟩ := sm_nonneg (k := k) fun i h0 h1 => h i h0 (by omega)
    have h3 := h k (by omega) (by omega)
    simp only [sm]
    refine ⟨by omega, fun i i0 i1 => ?_⟩
    by_cases e : i = k
    · subst e; omega
    · have := h2 i i0 (by omega); omega

section
variable {n : Int} {P : Int → Pt}

theorem LP.cr (h : LP n P) (i : Int) : 0 < cross (eg P i) (eg P (i + 1)) := by have := h.left i; rwa [turn_eg] at this

theorem LP.pr (h : LP n P) (i : Int) : eg P (i + n) = eg P i := by
  unfold eg; rw [h.per, show i + n + 1 = i + 1 + n by omega, h.per]

theorem LP.nz (h : LP n P) (i : Int) : eg P i ≠ ⟨0, 0⟩ := fun e => by
  have := h.cr i; rw [e] at this; unfold cross at this; simp at this

theorem LP.ne (h : LP n P) {i j : Int} (h0 : i < j) (h1 : j < i + n) : P i ≠ P j := by
  have n3 := h.n3
  have step : ∀ i, P i ≠ P (i + 1) := fun i e => h.nz i (by unfold eg df; rw [← e]; simp)
  by_cases e1 : j = i + 1
  · subst e1; exact step i
  · by_cases e2 : j = i + n - 1
    · intro e
      have := step j
      rw [show j + 1 = i + n by omega, h.per] at this
      exact this e.symm
    · exact (not_meet_ne (h.apart i j (by omega) (by omega))).1

/-- no line points ahead behind one that points back -/
theorem Base.stay (h : Base n P) {i : Int} (h0 : 0 ≤ i) (h1 : i + 1 < n) : Neg (eg P i) → Neg (eg P (i + 1)) := by
  intro hn
  rcases pos_or_neg (h.nz (i + 1)) with hp | hp
  · exfalso
    have n3 := h.n3
    have ho := once h
    have hnn : ∀ t : Int, 0 ≤ dl (eg P t) (eg P (t + 1)) := fun t => by
      unfold dl
      have := h.cr t
      split
      · omega
      · rw [if_neg (by omega)]; omega
    obtain ⟨m, hm⟩ : ∃ m : Nat, n.toNat = m + 1 := ⟨n.toNat - 1, by omega⟩
    rw [hm] at ho
    simp only [sm] at ho
    have hb := (sm_nonneg (g := fun t => dl (eg P t) (eg P (t + 1))) (k := m) fun t _ _ => hnn t).2 i h0 (by omega)
    have e1 : dl (eg P i) (eg P (i + 1)) = 1 := by rw [dl_np hn hp, if_pos (h.cr i)]
    have e2 : dl (eg P (m : Int)) (eg P ((m : Int) + 1)) = 1 := by
      have hmn : (m : Int) = n - 1 := by omega
      rw [hmn]
      have pn : P n = P 0 := by have := h.per 0; rwa [Int.zero_add] at this
      have a1 : Neg (eg P (n - 1)) := by
        have := h.first (n - 1) (by omega) (by omega)
        unfold eg; rw [show n - 1 + 1 = n by omega, pn]
        unfold Pos Neg df at *; simp only at *; omega
      have a2 : Pos (eg P (n - 1 + 1)) := by
        rw [show n - 1 + 1 = 0 + n by omega, h.pr]
        have := h.first 1 (by omega) (by omega)
        unfold eg; exact this
      rw [dl_np a1 a2, if_pos (h.cr _)]
    omega
  · exact hp

theorem Base.stays (h : Base n P) {i : Int} (h0 : 0 ≤ i) (hn : Neg (eg P i)) : ∀ k : Nat, i + k < n → Neg (eg P (i + k))
  | 0, _ => by simpa using hn
  | k + 1, hk => by
    have := h.stay (i := i + k) (by omega) (by omega) (h.stays h0 hn k (by omega))
    rwa [show i + (k : Int) + 1 = i + ((k + 1 : Nat) : Int) by omega] at this

theorem Base.pos_le (h : Base n P) {i j : Int} (h0 : 0 ≤ i) (hij : i ≤ j) (hj : j < n) (hp : Pos (eg P j)) : Pos (eg P i) := by
  rcases pos_or_neg (h.nz i) with hi | hi
  · exact hi
  · have := h.stays h0 hi (j - i).toNat (by omega)
    rw [show i + ((j - i).toNat : Int) = j by omega] at this
    exact absurd this (pos_not_neg hp)

theorem Base.chain (h : Base n P) {i : Int} (h0 : 0 ≤ i) : ∀ k : Nat, i + 1 + k < n → Pos (eg P (i + 1 + k)) → 0 < cross (eg P i) (eg P (i + 1 + k))
  | 0, _, _ => by simpa using h.cr i
  | k + 1, hk, hp => by
    have e : i + 1 + ((k + 1 : Nat) : Int) = i + 1 + k + 1 := by omega
    rw [e] at hp ⊢
    have hp1 := h.pos_le (i := i + 1 + k) (by omega) (by omega) (by omega) hp
    have hp0 := h.pos_le (i := i) h0 (by omega) (by omega) hp
    exact tplus hp0 hp1 hp (by have := h.chain h0 k (by omega) hp1; omega) (h.cr _)

theorem Base.lt (h : Base n P) {i j : Int} (h0 : 0 ≤ i) (hij : i < j) (hj : j < n) (hp : Pos (eg P j)) : 0 < cross (eg P i) (eg P j) := by
  have := h.chain h0 (j - i - 1).toNat (by omega)
  rw [show i + 1 + ((j - i - 1).toNat : Int) = j by omega] at this
  exact this hp

/-- once the lines turn away from line i, they go on so -/
theorem Base.down (h : Base n P) {i m : Int} (h0 : 0 ≤ i) (h1 : i < n) (hp : Pos (eg P i)) (hm : i < m) (hm2 : m + 1 ≤ i + n - 1) (hd : cross (eg P i) (eg P m) ≤ 0) : cross (eg P i) (eg P (m + 1)) < 0 := by
  by_cases hmn : m < n
  · rcases pos_or_neg (h.nz m) with q | q
    · have := h.lt h0 hm hmn q; omega
    · by_cases hm1 : m + 1 < n
      · have q1 := h.stay (by omega) hm1 q
        have := tneg (pos_ngt.1 hp) q q1 (by rw [cross_ngt1]; omega) (h.cr m)
        rw [cross_ngt1] at this
        omega
      · have e : m + 1 = 0 + n := by omega
        rw [e, h.pr]
        have := h.lt (i := 0) (j := i) (by omega) (by omega) h1 hp
        rw [cross_anti (eg P 0) (eg P i)]
        omega
  · have e : m + 1 = (m + 1 - n) + n := by omega
    rw [e, h.pr]
    have := h.lt (i := m + 1 - n) (j := i) (by omega) (by omega) h1 hp
    rw [cross_anti (eg P (m + 1 - n)) (eg P i)]
    omega

theorem turn_next (P : Int → Pt) (i j : Int) : turn (P i) (P (i + 1)) (P (j + 1)) = turn (P i) (P (i + 1)) (P j) + cross (eg P i) (eg P j) := by
  unfold turn cross eg df; grind

theorem Base.conv (h : Base n P) {i : Int} (h0 : 0 ≤ i) (h1 : i < n) (hp : Pos (eg P i)) {j : Int} (hj : i + 2 ≤ j) (hj2 : j ≤ i + n - 1) : 0 < turn (P i) (P (i + 1)) (P j) := by
  have t1 : turn (P i) (P (i + 1)) (P (i + 1)) = 0 := by unfold turn; grind
  have tn : turn (P i) (P (i + 1)) (P (i + n)) = 0 := by rw [h.per]; unfold turn; grind
  by_cases hall : ∀ m, i < m → m < j → 0 < cross (eg P i) (eg P m)
  · have up : ∀ k : Nat, i + 2 + k ≤ j → 0 < turn (P i) (P (i + 1)) (P (i + 2 + k)) := by
      intro k
      induction k with
      | zero => intro hk; have := turn_next P i (i + 1); have := hall (i + 1) (by omega) (by omega); rw [show i + 1 + 1 = i + 2 by omega] at *; simp; omega
      | succ k ih =>
        intro hk
        have a := turn_next P i (i + 2 + k)
        have b := hall (i + 2 + k) (by omega) (by omega)
        have c := ih (by omega)
        rw [show i + 2 + ((k + 1 : Nat) : Int) = i + 2 + k + 1 by omega, a]
        omega
    have := up (j - i - 2).toNat (by omega)
    rwa [show i + 2 + ((j - i - 2).toNat : Int) = j by omega] at this
  · obtain ⟨m, hm⟩ := Classical.not_forall.1 hall
    simp only [Classical.not_imp] at hm
    obtain ⟨m0, m1, m2⟩ := hm
    have dn : ∀ k : Nat, m + 1 + k ≤ i + n - 1 → cross (eg P i) (eg P (m + 1 + k)) < 0 := by
      intro k
      induction k with
      | zero => intro hk; have := h.down h0 h1 hp m0 (by omega) (by omega); simpa using this
      | succ k ih =>
        intro hk
        have := h.down (m := m + 1 + k) h0 h1 hp (by omega) (by omega) (by have := ih (by omega); omega)
        rwa [show m + 1 + (k : Int) + 1 = m + 1 + ((k + 1 : Nat) : Int) by omega] at this
    have back : ∀ k : Nat, j ≤ i + n - 1 - k → 0 < turn (P i) (P (i + 1)) (P (i + n - 1 - k)) := by
      intro k
      induction k with
      | zero =>
        intro hk
        have a := turn_next P i (i + n - 1)
        rw [show i + n - 1 + 1 = i + n by omega, tn] at a
        have b := dn (i + n - 1 - (m + 1)).toNat (by omega)
        rw [show m + 1 + ((i + n - 1 - (m + 1)).toNat : Int) = i + n - 1 by omega] at b
        simp; omega
      | succ k ih =>
        intro hk
        have a := turn_next P i (i + n - 1 - (k + 1 : Nat))
        rw [show i + n - 1 - ((k + 1 : Nat) : Int) + 1 = i + n - 1 - k by omega] at a
        have b := dn (i + n - 1 - (k + 1 : Nat) - (m + 1)).toNat (by omega)
        rw [show m + 1 + ((i + n - 1 - ((k + 1 : Nat) : Int) - (m + 1)).toNat : Int) = i + n - 1 - ((k + 1 : Nat) : Int) by omega] at b
        have c := ih (by omega)
        omega
    have := back (i + n - 1 - j).toNat (by omega)
    rwa [show i + n - 1 - ((i + n - 1 - j).toNat : Int) = j by omega] at this

theorem LP.shift (h : LP n P) (s : Int) : LP n fun t => P (t + s) where
  n3 := h.n3
  per i := by rw [show i + n + s = i + s + n by omega]; exact h.per _
  left i := by have := h.left (i + s); rwa [show i + s + 1 = i + 1 + s by omega, show i + s + 2 = i + 2 + s by omega] at this
  apart i k h1 h2 := by have := h.apart (i + s) (k + s) (by omega) (by omega); rwa [show i + s + 1 = i + 1 + s by omega, show k + s + 1 = k + 1 + s by omega] at this

theorem LP.base (h : LP n P) : ∃ s, Base n fun t => P (t + s) := by
  have n3 := h.n3
  have hm : ∀ k : Nat, ∃ s : Int, 0 ≤ s ∧ s ≤ k ∧ ∀ j : Int, 0 ≤ j → j ≤ k → ¬ Less (P j) (P s) := by
    intro k
    induction k with
    | zero =>
      refine ⟨0, by omega, by omega, fun j h0 h1 => ?_⟩
      have e : j = 0 := by omega
      rw [e]
      exact Less.irrefl _
    | succ k ih =>
      obtain ⟨s, s0, s1, s2⟩ := ih
      by_cases hl : Less (P ((k + 1 : Nat) : Int)) (P s)
      · refine ⟨((k + 1 : Nat) : Int), by omega, by omega, fun j h0 h1 hx => ?_⟩
        by_cases e : j = ((k + 1 : Nat) : Int)
        · subst e; exact Less.irrefl _ hx
        · exact s2 j h0 (by omega) (hx.trans hl)
      · refine ⟨s, s0, by omega, fun j h0 h1 hx => ?_⟩
        by_cases e : j = ((k + 1 : Nat) : Int)
        · subst e; exact hl hx
        · exact s2 j h0 (by omega) hx
  obtain ⟨s, s0, s1, s2⟩ := hm (n - 1).toNat
  refine ⟨s, h.shift s, fun j j0 j1 => ?_⟩
  have hne := h.ne (i := s) (j := j + s) (by omega) (by omega)
  have hno : ¬ Less (P (j + s)) (P s) := by
    by_cases e : j + s < n
    · exact s2 (j + s) (by omega) (by omega)
    · have := h.per (j + s - n)
      rw [show j + s - n + n = j + s by omega] at this
      rw [this]
      exact s2 (j + s - n) (by omega) (by omega)
  show Pos (df (P (0 + s)) (P (j + s)))
  rw [Int.zero_add]
  rcases pos_or_neg (df_ne hne) with hp | hp
  · exact hp
  · exfalso
    apply hno
    unfold Neg df at hp
    unfold Less
    simp only at hp
    omega

theorem LP.conv_pos (h : LP n P) {i j : Int} (hp : Pos (eg P i)) (hj : i + 2 ≤ j) (hj2 : j ≤ i + n - 1) : 0 < turn (P i) (P (i + 1)) (P j) := by
  have n3 := h.n3
  obtain ⟨s, hb⟩ := h.base
  have hper : ∀ (x q : Int), P (x + q * n) = P x := by
    have up : ∀ (k : Nat) (x : Int), P (x + k * n) = P x := by
      intro k
      induction k with
      | zero => intro x; simp
      | succ k ih => intro x; rw [show x + ((k + 1 : Nat) : Int) * n = (x + k * n) + n by rw [Int.natCast_add, Int.add_mul]; simp; omega, h.per, ih]
    intro x q
    rcases Int.le_total 0 q with hq | hq
    · have := up q.toNat x; rwa [Int.toNat_of_nonneg hq] at this
    · have := up (-q).toNat (x + q * n)
      rw [Int.toNat_of_nonneg (by omega), Int.neg_mul] at this
      rw [← this]; congr 1; omega
  -- i as a corner of the shifted one
  have q1 := Int.emod_nonneg (i - s) (show n ≠ 0 by omega)
  have q2 := Int.emod_lt_of_pos (i - s) (show 0 < n by omega)
  have q3 := Int.mul_ediv_add_emod (i - s) n
  have ex : ∀ d : Int, P ((i - s) % n + d + s) = P (i + d) := fun d => by
    have := hper ((i - s) % n + d + s) ((i - s) / n)
    rw [← this]; congr 1
    rw [Int.mul_comm]; omega
  have e0 := ex 0; have e1 := ex 1; have ej := ex (j - i)
  rw [Int.add_zero, Int.add_zero] at e0
  rw [show i + (j - i) = j by omega] at ej
  have := hb.conv (i := (i - s) % n) (j := (i - s) % n + (j - i)) q1 q2 (by unfold eg; simp only; rw [e0, e1]; exact hp) (by omega) (by omega)
  rwa [e0, e1, ej] at this

theorem turn_ngt (a b c : Pt) : turn (ngt a) (ngt b) (ngt c) = turn a b c := by unfold turn ngt; grind

theorem meet_ngt {A B C D : Pt} : Meet (ngt A) (ngt B) (ngt C) (ngt D) ↔ Meet A B C D := by
  have hm : ∀ a b c d : Pt, ((AM.ngt a).x - (AM.ngt b).x) * ((AM.ngt c).x - (AM.ngt b).x) = (a.x - b.x) * (c.x - b.x) := fun a b c d => by unfold AM.ngt; simp only; grind
  have ho : ∀ a b p : Pt, OnL (ngt a) (ngt b) (ngt p) ↔ OnL a b p := fun a b p => by
    unfold OnL
    rw [turn_ngt]
    have e1 : ((AM.ngt a).x - (AM.ngt p).x) * ((AM.ngt b).x - (AM.ngt p).x) = (a.x - p.x) * (b.x - p.x) := by unfold AM.ngt; simp only; grind
    have e2 : ((AM.ngt a).y - (AM.ngt p).y) * ((AM.ngt b).y - (AM.ngt p).y) = (a.y - p.y) * (b.y - p.y) := by unfold AM.ngt; simp only; grind
    rw [e1, e2]
  unfold Meet
  simp only [ho, turn_ngt]

theorem LP.neg (h : LP n P) : LP n fun t => ngt (P t) where
  n3 := h.n3
  per i := by rw [h.per]
  left i := by rw [turn_ngt]; exact h.left i
  apart i k h1 h2 := by rw [meet_ngt]; exact h.apart i k h1 h2

/-- all corners stand to the left of each line -/
theorem LP.conv (h : LP n P) {i j : Int} (hj : i + 2 ≤ j) (hj2 : j ≤ i + n - 1) : 0 < turn (P i) (P (i + 1)) (P j) := by
  rcases pos_or_neg (h.nz i) with hp | hp
  · exact h.conv_pos hp hj hj2
  · have := h.neg.conv_pos (i := i) (j := j) (by
      have := neg_ngt.1 hp
      unfold eg df ngt at *
      simp only at *
      unfold Pos at *
      simp only at *
      omega) hj hj2
    rwa [turn_ngt] at this
end
end Go.AM

namespace Go.AM
set_option linter.unusedVariables false

/-- spans of a height -/
def Up (A B : Pt) (y : Int) : Prop := A.y ≤ y ∧ y < B.y
def Dn (A B : Pt) (y : Int) : Prop := B.y ≤ y ∧ y < A.y
instance (A B : Pt) (y : Int) : Decidable (Up A B y) := by unfold Up; infer_instance
instance (A B : Pt) (y : Int) : Decidable (Dn A B y) := by unfold Dn; infer_instance

section
variable {n : Int} {P : Int → Pt}

/-- no corner is to the right of a line; it is on it only as its end -/
theorem LP.ge (h : LP n P) (i j : Int) (h0 : 0 ≤ i) (h1 : i < n) (j0 : 0 ≤ j) (j1 : j < n) : 0 ≤ turn (P i) (P (i + 1)) (P j) ∧ (turn (P i) (P (i + 1)) (P j) = 0 → j = i ∨ j = i + 1 ∨ (i = n - 1 ∧ j = 0)) := by
  have n3 := h.n3
  have z0 : turn (P i) (P (i + 1)) (P i) = 0 := by unfold turn; grind
  have z1 : turn (P i) (P (i + 1)) (P (i + 1)) = 0 := by unfold turn; grind
  by_cases e0 : j = i
  · subst e0; exact ⟨by omega, fun _ => .inl rfl⟩
  · by_cases e1 : j = i + 1
    · subst e1; exact ⟨by omega, fun _ => .inr (.inl rfl)⟩
    · by_cases e2 : i = n - 1 ∧ j = 0
      · obtain ⟨rfl, rfl⟩ := e2
        have : P (n - 1 + 1) = P 0 := by rw [show n - 1 + 1 = 0 + n by omega, h.per]
        rw [this] at z1 ⊢
        exact ⟨by omega, fun _ => .inr (.inr ⟨rfl, rfl⟩)⟩
      · have pos : 0 < turn (P i) (P (i + 1)) (P j) := by
          by_cases hij : i < j
          · exact h.conv (by omega) (by omega)
          · have := h.conv (i := i) (j := j + n) (by omega) (by omega)
            rwa [h.per] at this
        exact ⟨by omega, fun e => by omega⟩

/-- between the line up and the line down every line has the point to its left -/
theorem between (h : LP n P) {u d i : Int} {q : Pt} (u0 : 0 ≤ u) (u1 : u < n) (d0 : 0 ≤ d) (d1 : d < n) (i0 : 0 ≤ i) (i1 : i < n) (hu : Up (P u) (P (u + 1)) q.y) (hd : Dn (P d) (P (d + 1)) q.y)
    (tu : 0 < turn (P u) (P (u + 1)) q) (td : 0 < turn (P d) (P (d + 1)) q) (hno : ¬ OnL (P i) (P (i + 1)) q) : 0 < turn (P i) (P (i + 1)) q := by
  have pn : P n = P 0 := by have := h.per 0; rwa [Int.zero_add] at this
  have nxt : ∀ i : Int, 0 ≤ i → i < n → ∃ i', 0 ≤ i' ∧ i' < n ∧ P (i + 1) = P i' ∧ (i' = i + 1 ∨ (i = n - 1 ∧ i' = 0)) := fun i i0 i1 => by
    by_cases e : i + 1 < n
    · exact ⟨i + 1, by omega, e, rfl, .inl rfl⟩
    · exact ⟨0, by omega, by omega, by rw [show i + 1 = n by omega, pn], .inr ⟨by omega, rfl⟩⟩
  obtain ⟨u', u0', u1', eu, eu'⟩ := nxt u u0 u1
  obtain ⟨d', d0', d1', ed, ed'⟩ := nxt d d0 d1
  have gA := h.ge i u i0 i1 u0 u1
  have gB := h.ge i u' i0 i1 u0' u1'
  have gC := h.ge i d i0 i1 d0 d1
  have gD := h.ge i d' i0 i1 d0' d1'
  rw [← eu] at gB; rw [← ed] at gD
  have id : turn (P i) (P (i + 1)) q * (((P d).y - (P (d + 1)).y) * turn (P u) (P (u + 1)) q + ((P (u + 1)).y - (P u).y) * turn (P d) (P (d + 1)) q) =
      (((P (u + 1)).y - q.y) * turn (P i) (P (i + 1)) (P u) + (q.y - (P u).y) * turn (P i) (P (i + 1)) (P (u + 1))) * turn (P d) (P (d + 1)) q +
      (((P d).y - q.y) * turn (P i) (P (i + 1)) (P (d + 1)) + (q.y - (P (d + 1)).y) * turn (P i) (P (i + 1)) (P d)) * turn (P u) (P (u + 1)) q := by
    unfold turn; grind
  unfold Up at hu; unfold Dn at hd
  have b1 := Int.mul_nonneg (show 0 ≤ (P (u + 1)).y - q.y by omega) gA.1
  have b2 := Int.mul_nonneg (show 0 ≤ q.y - (P u).y by omega) gB.1
  have b3 := Int.mul_nonneg (show 0 ≤ (P d).y - q.y by omega) gD.1
  have b4 := Int.mul_nonneg (show 0 ≤ q.y - (P (d + 1)).y by omega) gC.1
  generalize hMu : ((P (u + 1)).y - q.y) * turn (P i) (P (i + 1)) (P u) + (q.y - (P u).y) * turn (P i) (P (i + 1)) (P (u + 1)) = Mu at *
  generalize hMd : ((P d).y - q.y) * turn (P i) (P (i + 1)) (P (d + 1)) + (q.y - (P (d + 1)).y) * turn (P i) (P (i + 1)) (P d) = Md at *
  have cpos : 0 < ((P d).y - (P (d + 1)).y) * turn (P u) (P (u + 1)) q + ((P (u + 1)).y - (P u).y) * turn (P d) (P (d + 1)) q := by
    have := Int.mul_pos (show 0 < (P d).y - (P (d + 1)).y by omega) tu
    have := Int.mul_pos (show 0 < (P (u + 1)).y - (P u).y by omega) td
    omega
  generalize hc : ((P d).y - (P (d + 1)).y) * turn (P u) (P (u + 1)) q + ((P (u + 1)).y - (P u).y) * turn (P d) (P (d + 1)) q = c at *
  have mu0 : 0 ≤ Mu := by omega
  have md0 : 0 ≤ Md := by omega
  by_cases hui : u = i
  · subst hui; exact tu
  by_cases hdi : d = i
  · subst hdi; exact td
  by_cases hz : Mu = 0 ∧ Md = 0
  · exfalso
    obtain ⟨z1, z2⟩ := hz
    have y1 : ((P (u + 1)).y - q.y) * turn (P i) (P (i + 1)) (P u) = 0 := by omega
    have y2 : (q.y - (P u).y) * turn (P i) (P (i + 1)) (P (u + 1)) = 0 := by omega
    have y3 : ((P d).y - q.y) * turn (P i) (P (i + 1)) (P (d + 1)) = 0 := by omega
    have y4 : (q.y - (P (d + 1)).y) * turn (P i) (P (i + 1)) (P d) = 0 := by omega
    have tA : turn (P i) (P (i + 1)) (P u) = 0 := (Int.mul_eq_zero.1 y1).resolve_left (by omega)
    have tD : turn (P i) (P (i + 1)) (P (d + 1)) = 0 := (Int.mul_eq_zero.1 y3).resolve_left (by omega)
    have cA := gA.2 tA
    have cD := gD.2 tD
    have n3 := h.n3
    -- line i leads from the lower end of the one to that of the other
    have eA : P (i + 1) = P u ∧ P (u + 1) = P (i + 2) := by
      rcases cA with e | e | ⟨e1, e2⟩
      · exact absurd e hui
      · subst e; exact ⟨rfl, by rw [show i + 1 + 1 = i + 2 by omega]⟩
      · subst e1; subst e2
        exact ⟨by rw [show n - 1 + 1 = n by omega, pn], by rw [show n - 1 + 2 = (0 + 1) + n by omega, h.per]⟩
    have eD : P i = P (d + 1) ∧ P d = P (i - 1) := by
      rcases ed' with e | ⟨e1, e2⟩
      · rcases cD with e' | e' | ⟨e1', e2'⟩
        · have : i = d + 1 := by omega
          subst this; exact ⟨rfl, by rw [show d + 1 - 1 = d by omega]⟩
        · omega
        · omega
      · rcases cD with e' | e' | ⟨e1', e2'⟩
        · have : i = 0 := by omega
          subst this; subst e1
          refine ⟨by rw [show n - 1 + 1 = n by omega, pn], ?_⟩
          have := h.per (0 - 1)
          rw [show (0 : Int) - 1 + n = n - 1 by omega] at this
          exact this
        · omega
        · omega
    have l1 := h.left i
    have l2 := h.left (i - 1)
    rw [show i - 1 + 1 = i by omega, show i - 1 + 2 = i + 1 by omega] at l2
    have l2' : turn (P i) (P (i + 1)) (P (i - 1)) = turn (P (i - 1)) (P i) (P (i + 1)) := by unfold turn; grind
    rw [eA.2] at y2
    rw [eD.2, l2'] at y4
    have hyA : q.y = (P u).y := by
      rcases Int.mul_eq_zero.1 y2 with h1 | h1 <;> omega
    have hyD : q.y = (P (d + 1)).y := by
      rcases Int.mul_eq_zero.1 y4 with h1 | h1 <;> omega
    have xA : q.x < (P u).x := by
      have e : turn (P u) (P (u + 1)) q = ((P (u + 1)).y - (P u).y) * ((P u).x - q.x) := by unfold turn; rw [hyA]; grind
      rw [e] at tu
      rcases Int.lt_or_le q.x (P u).x with h1 | h1
      · exact h1
      · have := Int.mul_nonpos_of_nonneg_of_nonpos (show 0 ≤ (P (u + 1)).y - (P u).y by omega) (show (P u).x - q.x ≤ 0 by omega); omega
    have xD : (P (d + 1)).x < q.x := by
      have e : turn (P d) (P (d + 1)) q = ((P d).y - (P (d + 1)).y) * (q.x - (P (d + 1)).x) := by unfold turn; rw [hyD]; grind
      rw [e] at td
      rcases Int.lt_or_le (P (d + 1)).x q.x with h1 | h1
      · exact h1
      · have := Int.mul_nonpos_of_nonneg_of_nonpos (show 0 ≤ (P d).y - (P (d + 1)).y by omega) (show q.x - (P (d + 1)).x ≤ 0 by omega); omega
    apply hno
    rw [eD.1, eA.1]
    refine ⟨?_, ?_, ?_⟩
    · unfold turn; rw [← hyA, ← hyD]; simp
    · have := Int.mul_neg_of_neg_of_pos (show (P (d + 1)).x - q.x < 0 by omega) (show 0 < (P u).x - q.x by omega); omega
    · rw [← hyA, ← hyD]; simp
  · have hr : 0 < Mu * turn (P d) (P (d + 1)) q + Md * turn (P u) (P (u + 1)) q := by
      have p1 := Int.mul_nonneg mu0 (show 0 ≤ turn (P d) (P (d + 1)) q by omega)
      have p2 := Int.mul_nonneg md0 (show 0 ≤ turn (P u) (P (u + 1)) q by omega)
      by_cases h1 : Mu = 0
      · have := Int.mul_pos (show 0 < Md by omega) tu; omega
      · have := Int.mul_pos (show 0 < Mu by omega) td; omega
    rw [← id] at hr
    rcases Int.lt_or_le 0 (turn (P i) (P (i + 1)) q) with h1 | h1
    · exact h1
    · have := Int.mul_nonpos_of_nonpos_of_nonneg h1 (show 0 ≤ c by omega); omega

end

end Go.AM

namespace Go.AM
set_option linter.unusedVariables false

theorem Cvx.all {a : List Pt} (hn : a ≠ []) (c : Cvx a) (i : Int) : sg (turn (pt a i) (pt a (i + 1)) (pt a (i + 2))) = sg (area a) := by
  have hl : 0 < (a.length : Int) := by have := List.length_pos_iff.2 hn; omega
  have := c (i % a.length) (Int.emod_nonneg _ (by omega)) (Int.emod_lt_of_pos _ hl)
  have e : ∀ d : Int, pt a (i % a.length + d) = pt a (i + d) := fun d => pt_congr (by rw [Int.emod_add_emod])
  rwa [e, e, pt_mod] at this

theorem pt_per (a : List Pt) (i : Int) : pt a (i + a.length) = pt a i := pt_congr (by rw [Int.add_emod_right])

def ev (p : Pt) : Int := if p.x % 2 = 0 ∧ p.y % 2 = 0 then 1 else 0

theorem step_even (p q : Pt) : step p q % 2 = if (p.x - q.x) % 2 = 0 ∧ (p.y - q.y) % 2 = 0 then 0 else 1 := by
  unfold step
  generalize hX : p.x - q.x = X
  generalize hY : p.y - q.y = Y
  by_cases h : X % 2 = 0 ∧ Y % 2 = 0
  · rw [if_pos h]
    have : 2 ∣ Nat.gcd X.natAbs Y.natAbs := Nat.dvd_gcd (by omega) (by omega)
    omega
  · rw [if_neg h]
    have h1 : ¬ 2 ∣ Nat.gcd X.natAbs Y.natAbs := fun hd => h (by
      have a := Nat.dvd_trans hd (Nat.gcd_dvd_left _ _)
      have b := Nat.dvd_trans hd (Nat.gcd_dvd_right _ _)
      omega)
    omega

/-- cross and steps are both odd or both even, but where a point is all even -/
theorem parity (p q : Pt) : (cross p q + step p q + ev p + ev q) % 2 = 0 := by
  have h1 := step_even p q
  have hc : cross p q % 2 = ((p.x % 2) * (q.y % 2) - (p.y % 2) * (q.x % 2)) % 2 := by
    unfold cross
    rw [Int.sub_emod, Int.mul_emod, Int.mul_emod p.y, ← Int.sub_emod]
  have a1 : p.x % 2 = 0 ∨ p.x % 2 = 1 := by omega
  have a2 : p.y % 2 = 0 ∨ p.y % 2 = 1 := by omega
  have a3 : q.x % 2 = 0 ∨ q.x % 2 = 1 := by omega
  have a4 : q.y % 2 = 0 ∨ q.y % 2 = 1 := by omega
  unfold ev
  rcases a1 with e1 | e1 <;> rcases a2 with e2 | e2 <;> rcases a3 with e3 | e3 <;> rcases a4 with e4 | e4 <;>
    (rw [e1, e2, e3, e4] at hc
     have d1 : (p.x - q.x) % 2 = (p.x % 2 - q.x % 2) % 2 := by omega
     have d2 : (p.y - q.y) % 2 = (p.y % 2 - q.y % 2) % 2 := by omega
     rw [d1, d2, e1, e2, e3, e4] at h1
     simp [e1, e2, e3, e4] at h1 hc ⊢
     omega)

theorem sm_plus (f g : Int → Int) : ∀ k : Nat, sm (fun i => f i + g i) k = sm f k + sm g k
  | 0 => rfl
  | k + 1 => by simp only [sm]; rw [sm_plus f g k]; omega

theorem sm_mod {f : Int → Int} (h : ∀ i, f i % 2 = 0) : ∀ k : Nat, sm f k % 2 = 0
  | 0 => rfl
  | k + 1 => by simp only [sm]; have := sm_mod h k; have := h k; omega

theorem sm_round {f : Int → Int} {k : Nat} (h : f k = f 0) : sm (fun i => f (i + 1)) k = sm f k := by
  have key : ∀ m : Nat, sm (fun i => f (i + 1)) m + f 0 = sm f m + f m := by
    intro m
    induction m with
    | zero => rfl
    | succ m ih => simp only [sm]; rw [show ((m + 1 : Nat) : Int) = (m : Int) + 1 by omega]; omega
  have := key k
  omega

/-- area and steps around have one parity -/
theorem area_round (a : List Pt) : (area a + round a) % 2 = 0 := by
  have h1 := sm_mod (f := fun i => cross (pt a i) (pt a (i + 1)) + step (pt a i) (pt a (i + 1)) + ev (pt a i) + ev (pt a (i + 1))) (fun i => parity _ _) a.length
  rw [sm_plus (fun i => cross (pt a i) (pt a (i + 1)) + step (pt a i) (pt a (i + 1)) + ev (pt a i)) (fun i => ev (pt a (i + 1))), sm_plus (fun i => cross (pt a i) (pt a (i + 1)) + step (pt a i) (pt a (i + 1))) (fun i => ev (pt a i)),
    sm_plus (fun i => cross (pt a i) (pt a (i + 1))) (fun i => step (pt a i) (pt a (i + 1))), sm_round (f := fun i => ev (pt a i)) (by show ev (pt a a.length) = ev (pt a 0); rw [show (a.length : Int) = 0 + a.length by omega, pt_per])] at h1
  unfold area round
  omega

end Go.AM

namespace Go.AM
set_option linter.unusedVariables false

theorem idxLoop {β γ : Type} {f : Nat → Int → List β → Option γ} {H : Int → β} {n : Nat} {K : List β → Option γ} (hstop : ∀ m w, f (m + 1) n w = K w)
    (hgo : ∀ m v w, 0 ≤ v → v < (n : Int) → w.length ≤ n → f (m + 1) v w = f m (v + 1) (w ++ [H v])) : ∀ (m i : Nat), i ≤ n → n - i < m → f m i ((List.range i).map fun (j : Nat) => H j) = K ((List.range n).map fun (j : Nat) => H j)
  | 0, i, _, hm => by omega
  | m + 1, i, hi, hm => by
    by_cases h : i < n
    · rw [hgo m i _ (by omega) (by omega) (by simp; omega)]
      have e : (List.range i).map (fun (j : Nat) => H j) ++ [H i] = (List.range (i + 1)).map fun (j : Nat) => H j := by simp [List.range_succ]
      rw [e]
      exact idxLoop hstop hgo m (i + 1) (by omega) (by omega)
    · have e : i = n := by omega
      subst e
      exact hstop m _

end Go.AM

namespace Go.AM
set_option linter.unusedVariables false

theorem tmod_abs (a b : Int) : (a.tmod b).natAbs = a.natAbs % b.natAbs := Int.natAbs_tmod a b

/-- |a - q b| = |a| - |q| |b| -/
theorem rem_abs {a b : Int} (hb : b ≠ 0) : ((a - a.tdiv b * b).natAbs : Int) = a.natAbs - (a.tdiv b).natAbs * b.natAbs ∧ (a - a.tdiv b * b) = a.tmod b := by
  have h1 : a - a.tdiv b * b = a.tmod b := by
    have := Int.tmod_add_mul_tdiv a b
    rw [Int.mul_comm b] at this
    omega
  refine ⟨?_, h1⟩
  rw [h1, tmod_abs, Int.natAbs_tdiv]
  have := Nat.div_add_mod a.natAbs b.natAbs
  have h2 : ((a.natAbs.div b.natAbs : Nat) : Int) * (b.natAbs : Int) = ((b.natAbs * (a.natAbs / b.natAbs) : Nat) : Int) := by rw [Nat.mul_comm b.natAbs]; simp; rfl
  rw [h2]
  omega

/-- what holds at a round's beginning -/
structure Bz (a0 b0 a b u x v y : Int) : Prop where
  e1 : u * a0 + v * b0 = a
  e2 : x * a0 + y * b0 = b
  k1 : (u.natAbs : Int) * b.natAbs + x.natAbs * a.natAbs ≤ b0.natAbs
  k2 : (v.natAbs : Int) * b.natAbs + y.natAbs * a.natAbs ≤ a0.natAbs
  hu : u.natAbs ≤ 1 ∨ (u.natAbs : Int) ≤ b0.natAbs
  hv : v.natAbs ≤ 1 ∨ (v.natAbs : Int) ≤ a0.natAbs
  hx : x.natAbs ≤ 1 ∨ (x.natAbs : Int) ≤ b0.natAbs
  hy : y.natAbs ≤ 1 ∨ (y.natAbs : Int) ≤ a0.natAbs
  gcd : Nat.gcd a.natAbs b.natAbs = Nat.gcd a0.natAbs b0.natAbs
  ha : a.natAbs ≤ 4000
  hb : b.natAbs ≤ 4000

theorem bz0 {a0 b0 : Int} (ha : a0.natAbs ≤ 4000) (hb : b0.natAbs ≤ 4000) : Bz a0 b0 a0 b0 1 0 0 1 := by
  refine ⟨by omega, by omega, by simp, by simp, .inl (by simp), .inl (by simp), .inl (by simp), .inl (by simp), rfl, ha, hb⟩

theorem mul_le_of {a b c : Nat} (h : (a : Int) * b ≤ c) (hb : 0 < b) : a ≤ c := by
  have h1 : a * b ≤ c := by exact_mod_cast h
  exact Nat.le_trans (Nat.le_mul_of_pos_right a hb) h1

theorem bz_step {a0 b0 a b u x v y : Int} (h : Bz a0 b0 a b u x v y) (hb : b ≠ 0) : Bz a0 b0 b (a - a.tdiv b * b) x (u - a.tdiv b * x) y (v - a.tdiv b * y) := by
  obtain ⟨r1, r2⟩ := rem_abs (a := a) hb
  have tri : ∀ p q z : Int, ((p - q * z).natAbs : Int) ≤ p.natAbs + q.natAbs * z.natAbs := fun p q z => by
    have := Int.natAbs_sub_le p (q * z)
    rw [Int.natAbs_mul] at this
    have e : ((q.natAbs * z.natAbs : Nat) : Int) = (q.natAbs : Int) * z.natAbs := by simp
    omega
  have key : ∀ p z : Int, ∀ c : Nat, (p.natAbs : Int) * b.natAbs + z.natAbs * a.natAbs ≤ c → (z.natAbs : Int) * (a - a.tdiv b * b).natAbs + ((p - a.tdiv b * z).natAbs : Int) * b.natAbs ≤ c := fun p z c hc => by
    have t := tri p (a.tdiv b) z
    have hbn : (0 : Int) ≤ b.natAbs := by omega
    have m := Int.mul_le_mul_of_nonneg_right t hbn
    rw [r1]
    have e1 : (z.natAbs : Int) * (a.natAbs - (a.tdiv b).natAbs * b.natAbs) = z.natAbs * a.natAbs - (a.tdiv b).natAbs * z.natAbs * b.natAbs := by grind
    have e2 : ((p.natAbs : Int) + (a.tdiv b).natAbs * z.natAbs) * b.natAbs = p.natAbs * b.natAbs + (a.tdiv b).natAbs * z.natAbs * b.natAbs := by grind
    rw [e1]
    rw [e2] at m
    omega
  have hbp : 0 < b.natAbs := by omega
  have n1 := key u x _ h.k1
  have n2 := key v y _ h.k2
  have bd : ∀ p q : Int, ∀ c : Nat, (q.natAbs : Int) * (a - a.tdiv b * b).natAbs + (p.natAbs : Int) * b.natAbs ≤ c → p.natAbs ≤ 1 ∨ (p.natAbs : Int) ≤ c := fun p q c hc => by
    right
    have : (p.natAbs : Int) * b.natAbs ≤ c := by
      have : (0 : Int) ≤ q.natAbs * (a - a.tdiv b * b).natAbs := by exact_mod_cast Nat.zero_le _
      omega
    exact_mod_cast mul_le_of this hbp
  refine ⟨h.e2, ?_, n1, n2, h.hx, h.hy, bd _ _ _ n1, bd _ _ _ n2, ?_, h.hb, ?_⟩
  · have := h.e1; have := h.e2; subst_vars; grind
  · rw [r2, tmod_abs, ← h.gcd, Nat.gcd_comm, ← Nat.gcd_rec, Nat.gcd_comm]
  · rw [r2, tmod_abs]
    have := Nat.mod_le a.natAbs b.natAbs
    have := h.ha
    omega

/-- |q z| is small -/
theorem bz_q {a0 b0 a b u x v y : Int} (h : Bz a0 b0 a b u x v y) (hb : b ≠ 0) (hA : a0.natAbs ≤ 4000) (hB : b0.natAbs ≤ 4000) :
    (-4000 ≤ a.tdiv b ∧ a.tdiv b ≤ 4000) ∧ (-4000 ≤ a.tdiv b * x ∧ a.tdiv b * x ≤ 4000) ∧ (-4000 ≤ a.tdiv b * y ∧ a.tdiv b * y ≤ 4000) ∧ (-4000 ≤ a.tdiv b * b ∧ a.tdiv b * b ≤ 4000) := by
  have hq : (a.tdiv b).natAbs * b.natAbs ≤ a.natAbs := by
    rw [Int.natAbs_tdiv]
    exact Nat.div_mul_le_self _ _
  have hbp : 0 < b.natAbs := by omega
  have hq1 : (a.tdiv b).natAbs ≤ a.natAbs := Nat.le_trans (Nat.le_mul_of_pos_right _ hbp) hq
  have one : ∀ z : Int, ∀ c : Nat, (z.natAbs : Int) * a.natAbs ≤ c → c ≤ 4000 → (a.tdiv b * z).natAbs ≤ 4000 := fun z c hz hc => by
    have h1 : z.natAbs * a.natAbs ≤ c := by exact_mod_cast hz
    rw [Int.natAbs_mul, Nat.mul_comm]
    exact Nat.le_trans (Nat.mul_le_mul_left _ hq1) (Nat.le_trans h1 hc)
  have p1 : (x.natAbs : Int) * a.natAbs ≤ b0.natAbs := by
    have := h.k1
    have : (0 : Int) ≤ u.natAbs * b.natAbs := by exact_mod_cast Nat.zero_le _
    omega
  have p2 : (y.natAbs : Int) * a.natAbs ≤ a0.natAbs := by
    have := h.k2
    have : (0 : Int) ≤ v.natAbs * b.natAbs := by exact_mod_cast Nat.zero_le _
    omega
  have q1 := one x _ p1 hB
  have q2 := one y _ p2 hA
  have q3 : (a.tdiv b * b).natAbs ≤ 4000 := by rw [Int.natAbs_mul]; exact Nat.le_trans hq h.ha
  have := h.ha
  omega

theorem bezout_l0 {L : Nat} {a0 b0 : Int} (hA : a0.natAbs ≤ 4000) (hB : b0.natAbs ≤ 4000) : ∀ (m : Nat) (a b u x v y : Int), Bz a0 b0 a b u x v y → b.natAbs < m →
    ∃ g p q, impl_bezout_l0 L m a b u v x y = some (g, p, q) ∧ spec_mvFull_l0 L m a b u v x y = some (if g < 0 then (-p, -q) else (p, q)) ∧
      p * a0 + q * b0 = g ∧ g.natAbs = Nat.gcd a0.natAbs b0.natAbs ∧ (-4000 ≤ p ∧ p ≤ 4000) ∧ (-4000 ≤ q ∧ q ≤ 4000)
  | 0, _, _, _, _, _, _, _, h => by omega
  | m + 1, a, b, u, x, v, y, h, hm => by
    by_cases hb : b = 0
    · subst hb
      have bu : -4000 ≤ u ∧ u ≤ 4000 := by have := h.hu; omega
      have bv : -4000 ≤ v ∧ v ≤ 4000 := by have := h.hv; omega
      refine ⟨a, u, v, ?_, ?_, h.e1, ?_, bu, bv⟩
      · simp only [impl_bezout_l0, ieq_eq, decide_true, Bool.not_true, cond_false]
      · simp only [spec_mvFull_l0, ieq_eq, ilt_eq, isub_eq, decide_true, Bool.not_true, cond_false]
        rw [wr_id (n := 0 - u) (by omega), wr_id (n := 0 - v) (by omega)]
        by_cases ha : a < 0
        · simp only [ha, decide_true, cond_true, if_true]; congr 2 <;> omega
        · simp only [ha, decide_false, cond_false, if_false]
      · have := h.gcd; simpa using this
    · obtain ⟨b1, b2, b3, b4⟩ := bz_q h hb hA hB
      have k1 := h.hu; have k2 := h.hv; have k3 := h.ha
      have s := bz_step h hb
      obtain ⟨r1, r2⟩ := rem_abs (a := a) hb
      have hlt : (a - a.tdiv b * b).natAbs < m := by
        rw [r2, tmod_abs]
        have := Nat.mod_lt a.natAbs (show 0 < b.natAbs by omega)
        omega
      obtain ⟨g, p, q, e1, e2, e3⟩ := bezout_l0 (L := L) hA hB m _ _ _ _ _ _ s hlt
      refine ⟨g, p, q, ?_, ?_, e3⟩
      · simp only [impl_bezout_l0, ieq_eq, hb, decide_false, Bool.not_false, cond_true, cond_false, iquo_eq, imul_eq, isub_eq]
        rw [wr_id (n := a.tdiv b) (by omega), wr_id (n := a.tdiv b * b) (by omega), wr_id (n := a.tdiv b * x) (by omega), wr_id (n := a.tdiv b * y) (by omega), wr_id (n := a - a.tdiv b * b) (by omega), wr_id (n := u - a.tdiv b * x) (by omega), wr_id (n := v - a.tdiv b * y) (by omega)]
        exact e1
      · simp only [spec_mvFull_l0, ieq_eq, hb, decide_false, Bool.not_false, cond_true, cond_false, iquo_eq, imul_eq, isub_eq]
        rw [wr_id (n := a.tdiv b) (by omega), wr_id (n := a.tdiv b * b) (by omega), wr_id (n := a.tdiv b * x) (by omega), wr_id (n := a.tdiv b * y) (by omega), wr_id (n := a - a.tdiv b * b) (by omega), wr_id (n := u - a.tdiv b * x) (by omega), wr_id (n := v - a.tdiv b * y) (by omega)]
        exact e2

theorem bezout_eq {L : Nat} {a b : Int} (hA : a.natAbs ≤ 4000) (hB : b.natAbs ≤ 4000) (hL : 4000 < L) :
    ∃ g p q, impl_bezout L a b = some (g, p, q) ∧ spec_mvFull L a b = some (if g < 0 then (-p, -q) else (p, q)) ∧
      p * a + q * b = g ∧ g.natAbs = Nat.gcd a.natAbs b.natAbs ∧ (-4000 ≤ p ∧ p ≤ 4000) ∧ (-4000 ≤ q ∧ q ≤ 4000) := by
  unfold impl_bezout spec_mvFull
  exact bezout_l0 hA hB L a b 1 0 0 1 (bz0 hA hB) (by omega)
end Go.AM

namespace Go.AM
set_option linter.unusedVariables false

theorem take_map_succ {β : Type} {a : List Pt} {h : Pt → β} {v : Int} (h0 : 0 ≤ v) (h1 : v < a.length) : (a.take (v + 1).toNat).map h = (a.take v.toNat).map h ++ [h (pt a v)] := by
  have e : (v + 1).toNat = v.toNat + 1 := by omega
  rw [e, List.take_add_one, pt_get h0 h1]
  simp

theorem mapLoop {β : Type} {f : Nat → Int → List β → Option (List β)} {h : Pt → β} {a : List Pt} (hstop : ∀ m w, f (m + 1) a.length w = some w)
    (hgo : ∀ m v w, 0 ≤ v → v < (a.length : Int) → w.length ≤ a.length → f (m + 1) v w = f m (v + 1) (w ++ [h (pt a v)])) : ∀ (m : Nat) (v : Int), 0 ≤ v → v ≤ a.length → (a.length : Int) - v < m → f m v ((a.take v.toNat).map h) = some (a.map h)
  | 0, v, _, _, hm => by omega
  | m + 1, v, h0, hv, hm => by
    by_cases hvn : v < (a.length : Int)
    · rw [hgo m v _ h0 hvn (by simp; omega), ← take_map_succ h0 hvn]
      exact mapLoop hstop hgo m (v + 1) (by omega) (by omega) (by omega)
    · have e : v = (a.length : Int) := by omega
      subst e
      rw [hstop]
      simp

def brg (A B C D : Int) (o p : Pt) : Pt := ⟨A * (p.x - o.x) + B * (p.y - o.y), C * (p.x - o.x) + D * (p.y - o.y)⟩

theorem spec_mvPeg_eq {L : Nat} {A B C D X Y x y : Int} (hA : -60000000000 ≤ A ∧ A ≤ 60000000000) (hB : -60000000000 ≤ B ∧ B ≤ 60000000000) (hC : -60000000000 ≤ C ∧ C ≤ 60000000000) (hD : -60000000000 ≤ D ∧ D ≤ 60000000000)
    (hX : -1000000000 ≤ X ∧ X ≤ 1000000000) (hY : -1000000000 ≤ Y ∧ Y ≤ 1000000000) (hx : -4000 ≤ x ∧ x ≤ 4000) (hy : -4000 ≤ y ∧ y ≤ 4000) :
    spec_mvPeg L A B C D X Y x y = some (A * x + B * y + X, C * x + D * y + Y) := by
  have h1 := mul_bd hA hx; have h2 := mul_bd hB hy; have h3 := mul_bd hC hx; have h4 := mul_bd hD hy
  unfold spec_mvPeg
  simp only [iadd_eq, imul_eq]
  rw [wr_id (n := A * x) (by omega), wr_id (n := B * y) (by omega), wr_id (n := C * x) (by omega), wr_id (n := D * y) (by omega), wr_id (n := A * x + B * y) (by omega), wr_id (n := C * x + D * y) (by omega), wr_id (n := A * x + B * y + X) (by omega), wr_id (n := C * x + D * y + Y) (by omega)]

theorem impl_bring_eq {L : Nat} {A B C D X Y x y : Int} : impl_Move_bring L A B C D X Y x y = spec_mvPeg L A B C D X Y x y := rfl

theorem less_eq {L : Nat} {p q : Pt} (hp : Nr p) (hq : Nr q) : impl_Peg_less L p.x p.y q.x q.y = some (p.x - q.x, p.y - q.y) := by
  have := sub_bd hp hq
  unfold impl_Peg_less
  simp only [isub_eq]
  rw [wr_id (by omega), wr_id (by omega)]

theorem spec_mvFrame_l0_eq {L : Nat} {a : List Pt} {o p1 p2 : Pt} {r : Int} {r1 r2 : Int × Int} {A B C D K : Int} (hin : ∀ i, Nr (pt a i)) (ho : Nr o) (hs : (a.length : Int) ≤ 1000)
    (hC : wr IntKind.i64 (isub 0 (wr IntKind.i64 (iquo (wr IntKind.i64 (isub 0 (wr IntKind.i64 (isub (Pt.y p2) (Pt.y o))))) r))) = C) (hD : wr IntKind.i64 (isub 0 (wr IntKind.i64 (iquo (wr IntKind.i64 (isub (Pt.x p1) (Pt.x o))) r))) = D)
    (hK : wr IntKind.i64 (iquo (wr IntKind.i64 (isub (irem (wr IntKind.i64 (iadd (irem (Prod.fst r2) (wr IntKind.i64 (isub 0 (Prod.snd r2)))) (wr IntKind.i64 (isub 0 (Prod.snd r2))))) (wr IntKind.i64 (isub 0 (Prod.snd r2)))) (Prod.fst r2))) (wr IntKind.i64 (isub 0 (Prod.snd r2)))) = K)
    (hA : wr IntKind.i64 (iadd (Prod.fst r1) (wr IntKind.i64 (imul K C))) = A) (hB : wr IntKind.i64 (iadd (Prod.snd r1) (wr IntKind.i64 (imul K D))) = B)
    (bA : -60000000000 ≤ A ∧ A ≤ 60000000000) (bB : -60000000000 ≤ B ∧ B ≤ 60000000000) (bC : -60000000000 ≤ C ∧ C ≤ 60000000000) (bD : -60000000000 ≤ D ∧ D ≤ 60000000000) (hL : (a.length : Int) < L) :
    spec_mvFrame_l0 L a o p1 p2 r r1 r2 L 0 [] = some (a.map (brg A B C D o)) := by
  have := mapLoop (f := spec_mvFrame_l0 L a o p1 p2 r r1 r2) (h := brg A B C D o) (a := a) (fun m w => by
    simp only [spec_mvFrame_l0, ilt_eq, ilen_mapep, Int.lt_irrefl, decide_false, cond_false]) (fun m v w hv0 h1 hw => by
    have hb := sub_bd (hin v) ho
    simp only [spec_mvFrame_l0, ilt_eq, ilen_mapep, h1, decide_true, cond_true, gbind_eq, lget_pt hv0 h1, Option.bind_some, hC, hD, hK, hA, hB]
    simp only [isub_eq]
    rw [wr_id (n := (pt a v).x - o.x) (by omega), wr_id (n := (pt a v).y - o.y) (by omega), spec_mvPeg_eq bA bB bC bD (by omega) (by omega) (by omega) (by omega)]
    simp only [Option.bind_some, iadd_eq, ilen_eq, List.length_cons, List.length_nil, fits_s (n := (w.length : Int) + ((0 + 1 : Nat) : Int)) (b := 16) (by omega), cond_true, lcat_eq, wr_id (n := v + 1) (by omega)]
    simp [brg]) L 0 (by omega) (by omega) (by omega)
  simpa using this

theorem spec_mvFrame_l1_eq {L : Nat} {a : List Pt} {o p1 p2 : Pt} {r : Int} {r1 r2 : Int × Int} {A B C D K : Int} (hin : ∀ i, Nr (pt a i)) (ho : Nr o) (hs : (a.length : Int) ≤ 1000)
    (hC : wr IntKind.i64 (iquo (wr IntKind.i64 (isub 0 (wr IntKind.i64 (isub (Pt.y p2) (Pt.y o))))) r) = C) (hD : wr IntKind.i64 (iquo (wr IntKind.i64 (isub (Pt.x p1) (Pt.x o))) r) = D)
    (hK : wr IntKind.i64 (iquo (wr IntKind.i64 (isub (irem (wr IntKind.i64 (iadd (irem (Prod.fst r2) (Prod.snd r2)) (Prod.snd r2))) (Prod.snd r2)) (Prod.fst r2))) (Prod.snd r2)) = K)
    (hA : wr IntKind.i64 (iadd (Prod.fst r1) (wr IntKind.i64 (imul K C))) = A) (hB : wr IntKind.i64 (iadd (Prod.snd r1) (wr IntKind.i64 (imul K D))) = B)
    (bA : -60000000000 ≤ A ∧ A ≤ 60000000000) (bB : -60000000000 ≤ B ∧ B ≤ 60000000000) (bC : -60000000000 ≤ C ∧ C ≤ 60000000000) (bD : -60000000000 ≤ D ∧ D ≤ 60000000000) (hL : (a.length : Int) < L) :
    spec_mvFrame_l1 L a o p1 p2 r r1 r2 L 0 [] = some (a.map (brg A B C D o)) := by
  have := mapLoop (f := spec_mvFrame_l1 L a o p1 p2 r r1 r2) (h := brg A B C D o) (a := a) (fun m w => by
    simp only [spec_mvFrame_l1, ilt_eq, ilen_mapep, Int.lt_irrefl, decide_false, cond_false]) (fun m v w hv0 h1 hw => by
    have hb := sub_bd (hin v) ho
    simp only [spec_mvFrame_l1, ilt_eq, ilen_mapep, h1, decide_true, cond_true, gbind_eq, lget_pt hv0 h1, Option.bind_some, hC, hD, hK, hA, hB]
    simp only [isub_eq]
    rw [wr_id (n := (pt a v).x - o.x) (by omega), wr_id (n := (pt a v).y - o.y) (by omega), spec_mvPeg_eq bA bB bC bD (by omega) (by omega) (by omega) (by omega)]
    simp only [Option.bind_some, iadd_eq, ilen_eq, List.length_cons, List.length_nil, fits_s (n := (w.length : Int) + ((0 + 1 : Nat) : Int)) (b := 16) (by omega), cond_true, lcat_eq, wr_id (n := v + 1) (by omega)]
    simp [brg]) L 0 (by omega) (by omega) (by omega)
  simpa using this

theorem impl_frame_l0_eq {L : Nat} {a : List Pt} {o : Pt} {r : Int × Int} {r1 : Int × Int × Int} {r3 : Int × Int} {A B C D K : Int} (h0 : lget a 0 = some o) (hin : ∀ i, Nr (pt a i)) (ho : Nr o) (hs : (a.length : Int) ≤ 1000)
    (hC : wr IntKind.i64 (isub 0 (wr IntKind.i64 (iquo (wr IntKind.i64 (isub 0 (Prod.snd r))) (wr IntKind.i64 (isub 0 (Prod.fst r1)))))) = C) (hD : wr IntKind.i64 (isub 0 (wr IntKind.i64 (iquo (Prod.fst r) (wr IntKind.i64 (isub 0 (Prod.fst r1)))))) = D)
    (hK : wr IntKind.i64 (iquo (wr IntKind.i64 (isub (irem (wr IntKind.i64 (iadd (irem (Prod.fst r3) (wr IntKind.i64 (isub 0 (Prod.snd r3)))) (wr IntKind.i64 (isub 0 (Prod.snd r3))))) (wr IntKind.i64 (isub 0 (Prod.snd r3)))) (Prod.fst r3))) (wr IntKind.i64 (isub 0 (Prod.snd r3)))) = K)
    (hA : wr IntKind.i64 (iadd (wr IntKind.i64 (isub 0 (Prod.fst (Prod.snd r1)))) (wr IntKind.i64 (imul K C))) = A) (hB : wr IntKind.i64 (iadd (wr IntKind.i64 (isub 0 (Prod.snd (Prod.snd r1)))) (wr IntKind.i64 (imul K D))) = B)
    (bA : -60000000000 ≤ A ∧ A ≤ 60000000000) (bB : -60000000000 ≤ B ∧ B ≤ 60000000000) (bC : -60000000000 ≤ C ∧ C ≤ 60000000000) (bD : -60000000000 ≤ D ∧ D ≤ 60000000000) (hL : (a.length : Int) < L) :
    impl_frame_l0 L a r r1 r3 L 0 [] = some (a.map (brg A B C D o)) := by
  have := mapLoop (f := impl_frame_l0 L a r r1 r3) (h := brg A B C D o) (a := a) (fun m w => by
    simp only [impl_frame_l0, ilt_eq, ilen_mapep, Int.lt_irrefl, decide_false, cond_false]) (fun m v w hv0 h1 hw => by
    have hb := sub_bd (hin v) ho
    simp only [impl_frame_l0, ilt_eq, ilen_mapep, h1, decide_true, cond_true, gbind_eq, lget_pt hv0 h1, Option.bind_some, hC, hD, hK, hA, hB, h0]
    rw [less_eq (hin v) ho]
    simp only [Option.bind_some, impl_bring_eq]
    rw [spec_mvPeg_eq bA bB bC bD (by omega) (by omega) (by omega) (by omega)]
    simp only [Option.bind_some, iadd_eq, ilen_eq, List.length_cons, List.length_nil, fits_s (n := (w.length : Int) + ((0 + 1 : Nat) : Int)) (b := 16) (by omega), cond_true, lcat_eq, wr_id (n := v + 1) (by omega)]
    simp [brg]) L 0 (by omega) (by omega) (by omega)
  simpa using this

theorem impl_frame_l1_eq {L : Nat} {a : List Pt} {o : Pt} {r : Int × Int} {r1 : Int × Int × Int} {r3 : Int × Int} {A B C D K : Int} (h0 : lget a 0 = some o) (hin : ∀ i, Nr (pt a i)) (ho : Nr o) (hs : (a.length : Int) ≤ 1000)
    (hC : wr IntKind.i64 (iquo (wr IntKind.i64 (isub 0 (Prod.snd r))) (wr IntKind.i64 (isub 0 (Prod.fst r1)))) = C) (hD : wr IntKind.i64 (iquo (Prod.fst r) (wr IntKind.i64 (isub 0 (Prod.fst r1)))) = D)
    (hK : wr IntKind.i64 (iquo (wr IntKind.i64 (isub (irem (wr IntKind.i64 (iadd (irem (Prod.fst r3) (Prod.snd r3)) (Prod.snd r3))) (Prod.snd r3)) (Prod.fst r3))) (Prod.snd r3)) = K)
    (hA : wr IntKind.i64 (iadd (wr IntKind.i64 (isub 0 (Prod.fst (Prod.snd r1)))) (wr IntKind.i64 (imul K C))) = A) (hB : wr IntKind.i64 (iadd (wr IntKind.i64 (isub 0 (Prod.snd (Prod.snd r1)))) (wr IntKind.i64 (imul K D))) = B)
    (bA : -60000000000 ≤ A ∧ A ≤ 60000000000) (bB : -60000000000 ≤ B ∧ B ≤ 60000000000) (bC : -60000000000 ≤ C ∧ C ≤ 60000000000) (bD : -60000000000 ≤ D ∧ D ≤ 60000000000) (hL : (a.length : Int) < L) :
    impl_frame_l1 L a r r1 r3 L 0 [] = some (a.map (brg A B C D o)) := by
  have := mapLoop (f := impl_frame_l1 L a r r1 r3) (h := brg A B C D o) (a := a) (fun m w => by
    simp only [impl_frame_l1, ilt_eq, ilen_mapep, Int.lt_irrefl, decide_false, cond_false]) (fun m v w hv0 h1 hw => by
    have hb := sub_bd (hin v) ho
    simp only [impl_frame_l1, ilt_eq, ilen_mapep, h1, decide_true, cond_true, gbind_eq, lget_pt hv0 h1, Option.bind_some, hC, hD, hK, hA, hB, h0]
    rw [less_eq (hin v) ho]
    simp only [Option.bind_some, impl_bring_eq]
    rw [spec_mvPeg_eq bA bB bC bD (by omega) (by omega) (by omega) (by omega)]
    simp only [Option.bind_some, iadd_eq, ilen_eq, List.length_cons, List.length_nil, fits_s (n := (w.length : Int) + ((0 + 1 : Nat) : Int)) (b := 16) (by omega), cond_true, lcat_eq, wr_id (n := v + 1) (by omega)]
    simp [brg]) L 0 (by omega) (by omega) (by omega)
  simpa using this

theorem impl_frame_l2_eq {L : Nat} {a : List Pt} {o : Pt} {r : Int × Int} {r1 : Int × Int × Int} {r9 : Int × Int} {A B C D K : Int} (h0 : lget a 0 = some o) (hin : ∀ i, Nr (pt a i)) (ho : Nr o) (hs : (a.length : Int) ≤ 1000)
    (hC : wr IntKind.i64 (isub 0 (wr IntKind.i64 (iquo (wr IntKind.i64 (isub 0 (Prod.snd r))) (Prod.fst r1)))) = C) (hD : wr IntKind.i64 (isub 0 (wr IntKind.i64 (iquo (Prod.fst r) (Prod.fst r1)))) = D)
    (hK : wr IntKind.i64 (iquo (wr IntKind.i64 (isub (irem (wr IntKind.i64 (iadd (irem (Prod.fst r9) (wr IntKind.i64 (isub 0 (Prod.snd r9)))) (wr IntKind.i64 (isub 0 (Prod.snd r9))))) (wr IntKind.i64 (isub 0 (Prod.snd r9)))) (Prod.fst r9))) (wr IntKind.i64 (isub 0 (Prod.snd r9)))) = K)
    (hA : wr IntKind.i64 (iadd (Prod.fst (Prod.snd r1)) (wr IntKind.i64 (imul K C))) = A) (hB : wr IntKind.i64 (iadd (Prod.snd (Prod.snd r1)) (wr IntKind.i64 (imul K D))) = B)
    (bA : -60000000000 ≤ A ∧ A ≤ 60000000000) (bB : -60000000000 ≤ B ∧ B ≤ 60000000000) (bC : -60000000000 ≤ C ∧ C ≤ 60000000000) (bD : -60000000000 ≤ D ∧ D ≤ 60000000000) (hL : (a.length : Int) < L) :
    impl_frame_l2 L a r r1 r9 L 0 [] = some (a.map (brg A B C D o)) := by
  have := mapLoop (f := impl_frame_l2 L a r r1 r9) (h := brg A B C D o) (a := a) (fun m w => by
    simp only [impl_frame_l2, ilt_eq, ilen_mapep, Int.lt_irrefl, decide_false, cond_false]) (fun m v w hv0 h1 hw => by
    have hb := sub_bd (hin v) ho
    simp only [impl_frame_l2, ilt_eq, ilen_mapep, h1, decide_true, cond_true, gbind_eq, lget_pt hv0 h1, Option.bind_some, hC, hD, hK, hA, hB, h0]
    rw [less_eq (hin v) ho]
    simp only [Option.bind_some, impl_bring_eq]
    rw [spec_mvPeg_eq bA bB bC bD (by omega) (by omega) (by omega) (by omega)]
    simp only [Option.bind_some, iadd_eq, ilen_eq, List.length_cons, List.length_nil, fits_s (n := (w.length : Int) + ((0 + 1 : Nat) : Int)) (b := 16) (by omega), cond_true, lcat_eq, wr_id (n := v + 1) (by omega)]
    simp [brg]) L 0 (by omega) (by omega) (by omega)
  simpa using this

theorem impl_frame_l3_eq {L : Nat} {a : List Pt} {o : Pt} {r : Int × Int} {r1 : Int × Int × Int} {r9 : Int × Int} {A B C D K : Int} (h0 : lget a 0 = some o) (hin : ∀ i, Nr (pt a i)) (ho : Nr o) (hs : (a.length : Int) ≤ 1000)
    (hC : wr IntKind.i64 (iquo (wr IntKind.i64 (isub 0 (Prod.snd r))) (Prod.fst r1)) = C) (hD : wr IntKind.i64 (iquo (Prod.fst r) (Prod.fst r1)) = D)
    (hK : wr IntKind.i64 (iquo (wr IntKind.i64 (isub (irem (wr IntKind.i64 (iadd (irem (Prod.fst r9) (Prod.snd r9)) (Prod.snd r9))) (Prod.snd r9)) (Prod.fst r9))) (Prod.snd r9)) = K)
    (hA : wr IntKind.i64 (iadd (Prod.fst (Prod.snd r1)) (wr IntKind.i64 (imul K C))) = A) (hB : wr IntKind.i64 (iadd (Prod.snd (Prod.snd r1)) (wr IntKind.i64 (imul K D))) = B)
    (bA : -60000000000 ≤ A ∧ A ≤ 60000000000) (bB : -60000000000 ≤ B ∧ B ≤ 60000000000) (bC : -60000000000 ≤ C ∧ C ≤ 60000000000) (bD : -60000000000 ≤ D ∧ D ≤ 60000000000) (hL : (a.length : Int) < L) :
    impl_frame_l3 L a r r1 r9 L 0 [] = some (a.map (brg A B C D o)) := by
  have := mapLoop (f := impl_frame_l3 L a r r1 r9) (h := brg A B C D o) (a := a) (fun m w => by
    simp only [impl_frame_l3, ilt_eq, ilen_mapep, Int.lt_irrefl, decide_false, cond_false]) (fun m v w hv0 h1 hw => by
    have hb := sub_bd (hin v) ho
    simp only [impl_frame_l3, ilt_eq, ilen_mapep, h1, decide_true, cond_true, gbind_eq, lget_pt hv0 h1, Option.bind_some, hC, hD, hK, hA, hB, h0]
    rw [less_eq (hin v) ho]
    simp only [Option.bind_some, impl_bring_eq]
    rw [spec_mvPeg_eq bA bB bC bD (by omega) (by omega) (by omega) (by omega)]
    simp only [Option.bind_some, iadd_eq, ilen_eq, List.length_cons, List.length_nil, fits_s (n := (w.length : Int) + ((0 + 1 : Nat) : Int)) (b := 16) (by omega), cond_true, lcat_eq, wr_id (n := v + 1) (by omega)]
    simp [brg]) L 0 (by omega) (by omega) (by omega)
  simpa using this

end Go.AM

namespace Go.AM
set_option linter.unusedVariables false

structure Fr (a : List Pt) (A B C D g b d : Int) : Prop where
  e1 : brg A B C D (pt a 0) (pt a 1) = ⟨g, 0⟩
  e2 : brg A B C D (pt a 0) (pt a 2) = ⟨b, d⟩
  g0 : 0 < g
  b0 : 0 ≤ b
  bd : b < d
  gg : g = step (pt a 0) (pt a 1)
  det : A * D - B * C = 1 ∨ A * D - B * C = -1
  bA : -60000000000 ≤ A ∧ A ≤ 60000000000
  bB : -60000000000 ≤ B ∧ B ≤ 60000000000
  bC : -2000 ≤ C ∧ C ≤ 2000
  bD : -2000 ≤ D ∧ D ≤ 2000

/-- the shear -/
theorem shear_eq {tx ty : Int} (hty : 0 < ty) (bx : -17000000 ≤ tx ∧ tx ≤ 17000000) (by_ : ty ≤ 9000000) :
    ∃ b K : Int, wr .i64 (iquo (wr .i64 (isub (irem (wr .i64 (iadd (irem tx ty) ty)) ty) tx)) ty) = K ∧ 0 ≤ b ∧ b < ty ∧ tx + K * ty = b ∧ (-27000000 ≤ K ∧ K ≤ 27000000) := by
  have h1 : -ty < tx.tmod ty ∧ tx.tmod ty < ty := by
    have := Int.tmod_lt_of_pos tx hty
    have h2 := Int.natAbs_tmod tx ty
    have h3 := Nat.mod_lt tx.natAbs (show 0 < ty.natAbs by omega)
    omega
  have h2 : (tx.tmod ty + ty).tmod ty = tx % ty := by
    rw [Int.tmod_eq_emod_of_nonneg (by omega), Int.add_emod_right]
    conv => rhs; rw [← Int.tmod_add_mul_tdiv tx ty, Int.add_mul_emod_self_left]
  have h3 := Int.emod_nonneg tx (show ty ≠ 0 by omega)
  have h4 := Int.emod_lt_of_pos tx hty
  have h5 := Int.mul_ediv_add_emod tx ty
  have h6 : (tx % ty - tx).tdiv ty = -(tx / ty) := by
    have : tx % ty - tx = -(tx / ty) * ty := by rw [Int.neg_mul, Int.mul_comm]; omega
    rw [this, Int.mul_tdiv_cancel _ (by omega)]
  have h7 : -17000000 ≤ tx / ty ∧ tx / ty ≤ 17000000 := by
    constructor
    · have := Int.ediv_le_ediv hty bx.1
      have h8 : -17000000 ≤ (-17000000 : Int) / ty := by
        rw [Int.le_ediv_iff_mul_le hty]; omega
      omega
    · have := Int.ediv_le_ediv hty bx.2
      have h8 : (17000000 : Int) / ty ≤ 17000000 := Int.ediv_le_self _ (by omega)
      omega
  refine ⟨tx % ty, -(tx / ty), ?_, h3, h4, ?_, by omega⟩
  · simp only [irem_eq, iadd_eq, isub_eq, iquo_eq]
    rw [wr_id (n := tx.tmod ty + ty) (by omega), h2, wr_id (n := tx % ty - tx) (by omega), h6, wr_id (by omega)]
  · rw [Int.neg_mul, Int.mul_comm]; omega

theorem exact_div {G z : Int} (hG : 0 < G) (h : G ∣ z) : z.tdiv G * G = z := Int.tdiv_mul_cancel h

theorem frame_eq {L : Nat} {a : List Pt} (hn : 3 ≤ (a.length : Int)) (hs : (a.length : Int) ≤ 1000) (hin : ∀ i, Nr (pt a i)) (ht : turn (pt a 0) (pt a 1) (pt a 2) ≠ 0) (hL : 5000 < L) :
    ∃ A B C D g b d, spec_mvFrame L a = some (a.map (brg A B C D (pt a 0))) ∧ impl_frame L a = some (a.map (brg A B C D (pt a 0))) ∧ Fr a A B C D g b d := by
  have l0 := lget_pt (a := a) (i := 0) (by omega) (by omega)
  have l1 := lget_pt (a := a) (i := 1) (by omega) (by omega)
  have l2 := lget_pt (a := a) (i := 2) (by omega) (by omega)
  have n0 := hin 0; have n1 := hin 1; have n2 := hin 2
  have s1 := sub_bd n1 n0
  have s2 := sub_bd n2 n0
  have hst : pt a 0 ≠ pt a 1 := fun e => ht (by rw [e]; unfold turn; grind)
  have hG := step_pos hst
  have hstd := step_dvd (pt a 0) (pt a 1)
  have hsb := step_bd n0 n1
  obtain ⟨gz, p, q, hb1, hb2, hb3, hb4, hb5, hb6⟩ := bezout_eq (L := L) (a := (pt a 1).x - (pt a 0).x) (b := (pt a 1).y - (pt a 0).y) (by omega) (by omega) (by omega)
  have hGz : (gz.natAbs : Int) = step (pt a 0) (pt a 1) := by
    rw [hb4]; unfold step
    rw [show ((pt a 1).x - (pt a 0).x).natAbs = ((pt a 0).x - (pt a 1).x).natAbs by omega, show ((pt a 1).y - (pt a 0).y).natAbs = ((pt a 0).y - (pt a 1).y).natAbs by omega]
  generalize hGd : step (pt a 0) (pt a 1) = G at *
  generalize hX : (pt a 1).x - (pt a 0).x = X at *
  generalize hY : (pt a 1).y - (pt a 0).y = Y at *
  generalize hWx : (pt a 2).x - (pt a 0).x = wx at *
  generalize hWy : (pt a 2).y - (pt a 0).y = wy at *
  have hturn : turn (pt a 0) (pt a 1) (pt a 2) = X * wy - Y * wx := by unfold turn; rw [hX, hY, hWx, hWy]
  have dX : X.tdiv G * G = X := exact_div hG hstd.1
  have dY : (-Y).tdiv G * G = -Y := exact_div hG (Int.dvd_neg.2 hstd.2)
  have bX : -2000 ≤ X.tdiv G ∧ X.tdiv G ≤ 2000 := tdiv_bd (A := 2000) (by omega)
  have bY : -2000 ≤ (-Y).tdiv G ∧ (-Y).tdiv G ≤ 2000 := tdiv_bd (A := 2000) (by omega)
  generalize hd0 : X.tdiv G = d0 at *
  generalize hc0 : (-Y).tdiv G = c0 at *
  -- u, v with u X + v Y = G
  obtain ⟨u, v, huv, hspec, hu, hv⟩ : ∃ u v : Int, u * X + v * Y = G ∧ (if gz < 0 then (-p, -q) else (p, q)) = (u, v) ∧ (-4000 ≤ u ∧ u ≤ 4000) ∧ (-4000 ≤ v ∧ v ≤ 4000) := by
    by_cases hneg : gz < 0
    · refine ⟨-p, -q, ?_, by simp [hneg], by omega, by omega⟩
      have : -p * X + -q * Y = -gz := by rw [← hb3]; grind
      omega
    · exact ⟨p, q, by omega, by simp [hneg], hb5, hb6⟩
  rw [hspec] at hb2
  have m1 := mul_bd hu s2.1; have m2 := mul_bd hv s2.2; have m3 := mul_bd bY s2.1; have m4 := mul_bd bX s2.2
  have hT3 : G * (c0 * wx + d0 * wy) = X * wy - Y * wx := by grind
  have hty0 : c0 * wx + d0 * wy ≠ 0 := fun e => ht (by rw [hturn, ← hT3, e]; simp)
  have hdet : u * d0 - v * c0 = 1 := by
    have : G * (u * d0 - v * c0) = G * 1 := by grind
    exact Int.eq_of_mul_eq_mul_left (by omega) this
  generalize htx : u * wx + v * wy = tx at *
  generalize htyd : c0 * wx + d0 * wy = ty at *
  -- the rows' common end
  have fin : ∀ (C D t K b : Int), ((C = c0 ∧ D = d0 ∧ t = ty) ∨ (C = -c0 ∧ D = -d0 ∧ t = -ty)) → 0 < t → 0 ≤ b → b < t → tx + K * t = b → (-27000000 ≤ K ∧ K ≤ 27000000) →
      Fr a (u + K * C) (v + K * D) C D G b t ∧ (-54000000000 ≤ K * C ∧ K * C ≤ 54000000000) ∧ (-54000000000 ≤ K * D ∧ K * D ≤ 54000000000) := by
    intro C D t K b hCD ht0 hb0 hbt hK bK
    have bC : -2000 ≤ C ∧ C ≤ 2000 := by omega
    have bD : -2000 ≤ D ∧ D ≤ 2000 := by omega
    have k1 := mul_bd bK bC; have k2 := mul_bd bK bD
    have q1 : C * X + D * Y = 0 := by
      have z : c0 * X + d0 * Y = 0 := by
        have : G * (c0 * X + d0 * Y) = 0 := by grind
        rcases Int.mul_eq_zero.1 this with h | h
        · omega
        · exact h
      rcases hCD with ⟨rfl, rfl, _⟩ | ⟨rfl, rfl, _⟩
      · exact z
      · rw [Int.neg_mul, Int.neg_mul]; omega
    have q2 : C * wx + D * wy = t := by
      rcases hCD with ⟨rfl, rfl, rfl⟩ | ⟨rfl, rfl, rfl⟩
      · exact htyd
      · rw [Int.neg_mul, Int.neg_mul]; omega
    refine ⟨⟨?_, ?_, hG, hb0, hbt, hGd.symm, ?_, by omega, by omega, bC, bD⟩, by omega, by omega⟩
    · unfold brg; rw [hX, hY]
      congr 1
      have : (u + K * C) * X + (v + K * D) * Y = u * X + v * Y + K * (C * X + D * Y) := by grind
      rw [this, q1, huv]; omega
    · unfold brg; rw [hWx, hWy]
      congr 1
      have : (u + K * C) * wx + (v + K * D) * wy = u * wx + v * wy + K * (C * wx + D * wy) := by grind
      rw [this, q2, htx, hK]
    · have : (u + K * C) * D - (v + K * D) * C = u * D - v * C := by grind
      rw [this]
      rcases hCD with ⟨rfl, rfl, _⟩ | ⟨rfl, rfl, _⟩
      · exact .inl hdet
      · right; rw [Int.mul_neg, Int.mul_neg]; omega
  have wY : wr IntKind.i64 (isub 0 (wr IntKind.i64 (isub (pt a 1).y (pt a 0).y))) = -Y := by
    simp only [isub_eq]; rw [hY, wr_id (n := Y) (by omega), wr_id (n := 0 - Y) (by omega)]; omega
  have wX : wr IntKind.i64 (isub (pt a 1).x (pt a 0).x) = X := by simp only [isub_eq]; rw [hX, wr_id (by omega)]
  have wY1 : wr IntKind.i64 (isub (pt a 1).y (pt a 0).y) = Y := by simp only [isub_eq]; rw [hY, wr_id (by omega)]
  have wWx : wr IntKind.i64 (isub (pt a 2).x (pt a 0).x) = wx := by simp only [isub_eq]; rw [hWx, wr_id (by omega)]
  have wWy : wr IntKind.i64 (isub (pt a 2).y (pt a 0).y) = wy := by simp only [isub_eq]; rw [hWy, wr_id (by omega)]
  have wc : wr IntKind.i64 (iquo (-Y) G) = c0 := by simp only [iquo_eq]; rw [hc0, wr_id (by omega)]
  have wd : wr IntKind.i64 (iquo X G) = d0 := by simp only [iquo_eq]; rw [hd0, wr_id (by omega)]
  have wneg : ∀ z : Int, -100000000 ≤ z ∧ z ≤ 100000000 → wr IntKind.i64 (isub 0 z) = -z := fun z hz => by simp only [isub_eq]; rw [wr_id (by omega)]; omega
  have hpeg : spec_mvPeg L u v c0 d0 0 0 wx wy = some (tx, ty) := by
    rw [spec_mvPeg_eq (by omega) (by omega) (by omega) (by omega) (by omega) (by omega) (by omega) (by omega), Int.add_zero, Int.add_zero, htx, htyd]
  have hcom : spec_pgCommon L X Y = some G := by
    have := spec_pgStep_eq (L := L) (p := pt a 1) (q := pt a 0) n1 n0 (by omega)
    unfold spec_pgStep at this
    simp only [isub_eq, gbind_eq] at this
    rw [hX, hY, wr_id (n := X) (by omega), wr_id (n := Y) (by omega)] at this
    cases hc : spec_pgCommon L X Y with
    | none => rw [hc] at this; cases this
    | some z =>
      rw [hc] at this
      simp only [Option.bind_some, Option.some.injEq] at this
      rw [this, ← hGd]
      unfold step
      congr 1
      rw [show ((pt a 1).x - (pt a 0).x).natAbs = ((pt a 0).x - (pt a 1).x).natAbs by omega, show ((pt a 1).y - (pt a 0).y).natAbs = ((pt a 0).y - (pt a 1).y).natAbs by omega]
  have w40 : wr IntKind.i64 (isub 0 Y) = -Y := wneg Y (by omega)
  have hG0 : decide (G = 0) = false := by simp; omega
  have hfit : fits (a.length : Int) 16 = true := fits_s (by omega)
  have hz0 : lrep 0 (⟨0, 0⟩ : Pt) = [] := by simp [lrep_eq]
  have hle0 : (a.length : Int) < L := by omega
  have wu : ∀ z : Int, -4000 ≤ z ∧ z ≤ 4000 → wr IntKind.i64 (isub 0 z) = -z := fun z hz => wneg z (by omega)
  rcases Int.lt_or_gt_of_ne hty0 with hneg | hpos
  · obtain ⟨b, K, hKe, hb0, hbt, hK, bK⟩ := shear_eq (tx := tx) (ty := -ty) (by omega) (by omega) (by omega)
    obtain ⟨fr, k1, k2⟩ := fin (-c0) (-d0) (-ty) K b (.inr ⟨rfl, rfl, rfl⟩) (by omega) hb0 hbt hK bK
    have wty := wneg ty (by omega)
    have wA : wr IntKind.i64 (iadd u (wr IntKind.i64 (imul K (-c0)))) = u + K * -c0 := by
      simp only [iadd_eq, imul_eq]; rw [wr_id (n := K * -c0) (by omega), wr_id (by omega)]
    have wB : wr IntKind.i64 (iadd v (wr IntKind.i64 (imul K (-d0)))) = v + K * -d0 := by
      simp only [iadd_eq, imul_eq]; rw [wr_id (n := K * -d0) (by omega), wr_id (by omega)]
    have hlt : decide (ty < 0) = true := by simp [hneg]
    have hny : decide (-ty = 0) = false := by simp; omega
    refine ⟨_, _, _, _, _, _, _, ?_, ?_, fr⟩
    · unfold spec_mvFrame
      simp only [l0, l1, l2, gbind_eq, Option.bind_some, wX, wY1, w40, hcom, hb2, wc, wd, wWx, wWy, hpeg, ieq_eq, ilt_eq, hG0, cond_false, hlt, cond_true, wty, hny]
      exact spec_mvFrame_l0_eq (r := G) (r1 := (u, v)) (r2 := (tx, ty)) (A := u + K * -c0) (B := v + K * -d0) (C := -c0) (D := -d0) (K := K) hin n0 hs (by rw [wY, wc]; exact wneg c0 (by omega)) (by rw [wX, wd]; exact wneg d0 (by omega)) (by simp only [wty]; exact hKe) wA wB (by omega) (by omega) (by omega) (by omega) hle0
    · unfold impl_frame
      simp only [l0, l1, l2, gbind_eq, Option.bind_some, less_eq n1 n0, less_eq n2 n0, hX, hY, hWx, hWy, hb1]
      by_cases hgn : gz < 0
      · simp only [hgn, if_true, Prod.mk.injEq] at hspec
        have hgz : -gz = G := by omega
        have w1 : wr IntKind.i64 (isub 0 gz) = G := by rw [wneg gz (by omega), hgz]
        have w2 : wr IntKind.i64 (isub 0 p) = u := by rw [wu p hb5]; exact hspec.1
        have w3 : wr IntKind.i64 (isub 0 q) = v := by rw [wu q hb6]; exact hspec.2
        have w4 : wr IntKind.i64 (isub 0 Y) = -Y := wneg Y (by omega)
        simp only [ilt_eq, hgn, decide_true, cond_true, w1, w2, w3, w4, wc, wd, ieq_eq, hG0, cond_false, impl_bring_eq, hpeg, Option.bind_some, hlt, wty, hny, ilen_mapep, ile_eq, Int.le_refl, show (0 : Int) ≤ a.length by omega, Bool.and_self, hfit, hz0]
        exact impl_frame_l0_eq (A := u + K * -c0) (B := v + K * -d0) (C := -c0) (D := -d0) (K := K) l0 hin n0 hs (by simp only [w1, w4, wc]; exact wneg c0 (by omega)) (by simp only [w1, wd]; exact wneg d0 (by omega)) (by simp only [wty]; exact hKe) (by simp only [w2]; exact wA) (by simp only [w3]; exact wB) (by omega) (by omega) (by omega) (by omega) hle0
      · simp only [hgn, if_false, Prod.mk.injEq] at hspec
        have hgz : gz = G := by omega
        have w4 : wr IntKind.i64 (isub 0 Y) = -Y := wneg Y (by omega)
        obtain ⟨rfl, rfl⟩ := hspec
        subst hgz
        simp only [ilt_eq, hgn, decide_false, w4, wc, wd, ieq_eq, hG0, cond_false, impl_bring_eq, hpeg, Option.bind_some, hlt, cond_true, wty, hny, ilen_mapep, ile_eq, Int.le_refl, show (0 : Int) ≤ a.length by omega, decide_true, Bool.and_self, hfit, hz0]
        exact impl_frame_l2_eq (A := p + K * -c0) (B := q + K * -d0) (C := -c0) (D := -d0) (K := K) l0 hin n0 hs (by simp only [w4, wc]; exact wneg c0 (by omega)) (by simp only [wd]; exact wneg d0 (by omega)) (by simp only [wty]; exact hKe) wA wB (by omega) (by omega) (by omega) (by omega) hle0
  · obtain ⟨b, K, hKe, hb0, hbt, hK, bK⟩ := shear_eq (tx := tx) (ty := ty) (by omega) (by omega) (by omega)
    obtain ⟨fr, k1, k2⟩ := fin c0 d0 ty K b (.inl ⟨rfl, rfl, rfl⟩) (by omega) hb0 hbt hK bK
    have wA : wr IntKind.i64 (iadd u (wr IntKind.i64 (imul K c0))) = u + K * c0 := by
      simp only [iadd_eq, imul_eq]; rw [wr_id (n := K * c0) (by omega), wr_id (by omega)]
    have wB : wr IntKind.i64 (iadd v (wr IntKind.i64 (imul K d0))) = v + K * d0 := by
      simp only [iadd_eq, imul_eq]; rw [wr_id (n := K * d0) (by omega), wr_id (by omega)]
    have hlt : decide (ty < 0) = false := by simp; omega
    have hny : decide (ty = 0) = false := by simp; omega
    refine ⟨_, _, _, _, _, _, _, ?_, ?_, fr⟩
    · unfold spec_mvFrame
      simp only [l0, l1, l2, gbind_eq, Option.bind_some, wX, wY1, w40, hcom, hb2, wc, wd, wWx, wWy, hpeg, ieq_eq, ilt_eq, hG0, cond_false, hlt, hny]
      exact spec_mvFrame_l1_eq (r := G) (r1 := (u, v)) (r2 := (tx, ty)) (A := u + K * c0) (B := v + K * d0) (C := c0) (D := d0) (K := K) hin n0 hs (by rw [wY, wc]) (by rw [wX, wd]) hKe wA wB (by omega) (by omega) (by omega) (by omega) hle0
    · unfold impl_frame
      simp only [l0, l1, l2, gbind_eq, Option.bind_some, less_eq n1 n0, less_eq n2 n0, hX, hY, hWx, hWy, hb1]
      by_cases hgn : gz < 0
      · simp only [hgn, if_true, Prod.mk.injEq] at hspec
        have hgz : -gz = G := by omega
        have w1 : wr IntKind.i64 (isub 0 gz) = G := by rw [wneg gz (by omega), hgz]
        have w2 : wr IntKind.i64 (isub 0 p) = u := by rw [wu p hb5]; exact hspec.1
        have w3 : wr IntKind.i64 (isub 0 q) = v := by rw [wu q hb6]; exact hspec.2
        have w4 : wr IntKind.i64 (isub 0 Y) = -Y := wneg Y (by omega)
        simp only [ilt_eq, hgn, decide_true, cond_true, w1, w2, w3, w4, wc, wd, ieq_eq, hG0, cond_false, impl_bring_eq, hpeg, Option.bind_some, hlt, hny, ilen_mapep, ile_eq, Int.le_refl, show (0 : Int) ≤ a.length by omega, Bool.and_self, hfit, hz0]
        exact impl_frame_l1_eq (A := u + K * c0) (B := v + K * d0) (C := c0) (D := d0) (K := K) l0 hin n0 hs (by simp only [w1, w4, wc]) (by simp only [w1, wd]) hKe (by simp only [w2]; exact wA) (by simp only [w3]; exact wB) (by omega) (by omega) (by omega) (by omega) hle0
      · simp only [hgn, if_false, Prod.mk.injEq] at hspec
        have hgz : gz = G := by omega
        have w4 : wr IntKind.i64 (isub 0 Y) = -Y := wneg Y (by omega)
        obtain ⟨rfl, rfl⟩ := hspec
        subst hgz
        simp only [ilt_eq, hgn, decide_false, w4, wc, wd, ieq_eq, hG0, cond_false, impl_bring_eq, hpeg, Option.bind_some, hlt, cond_true, hny, ilen_mapep, ile_eq, Int.le_refl, show (0 : Int) ≤ a.length by omega, decide_true, Bool.and_self, hfit, hz0]
        exact impl_frame_l3_eq (A := p + K * c0) (B := q + K * d0) (C := c0) (D := d0) (K := K) l0 hin n0 hs (by simp only [w4, wc]) (by simp only [wd]) hKe wA wB (by omega) (by omega) (by omega) (by omega) hle0
end Go.AM

namespace Go.AM
set_option linter.unusedVariables false

/-- one list of n points comes before another one -/
def Lx (n : Int) (a b : List Pt) : Prop := ∃ i, 0 ≤ i ∧ i < n ∧ (∀ j, 0 ≤ j → j < i → pt a j = pt b j) ∧ Less (pt a i) (pt b i)

theorem Lx.trans {n : Int} {a b c : List Pt} (h : Lx n a b) (k : Lx n b c) : Lx n a c := by
  obtain ⟨i, i0, i1, i2, i3⟩ := h
  obtain ⟨j, j0, j1, j2, j3⟩ := k
  rcases Int.lt_trichotomy i j with h | rfl | h
  · exact ⟨i, i0, i1, fun q q0 q1 => (i2 q q0 q1).trans (j2 q q0 (by omega)), by rw [← j2 i i0 h]; exact i3⟩
  · exact ⟨i, i0, i1, fun q q0 q1 => (i2 q q0 q1).trans (j2 q q0 q1), i3.trans j3⟩
  · exact ⟨j, j0, j1, fun q q0 q1 => (i2 q q0 (by omega)).trans (j2 q q0 q1), by rw [i2 j j0 h]; exact j3⟩

theorem Lx.irrefl {n : Int} {a : List Pt} : ¬ Lx n a a := fun ⟨i, _, _, _, h⟩ => Less.irrefl _ h

/-- what a polygon's frames ask for -/
structure Fa (a : List Pt) : Prop where
  lo : 3 ≤ (a.length : Int)
  hi : (a.length : Int) ≤ 1000
  nr : ∀ i, Nr (pt a i)
  turn : ∀ i, turn (pt a i) (pt a (i + 1)) (pt a (i + 2)) ≠ 0

theorem turn_rev (a b c : Pt) : turn c b a = - turn a b c := by unfold turn; grind

theorem Fa.ne {a : List Pt} (h : Fa a) : a ≠ [] := by intro e; subst e; have := h.lo; simp at this

theorem Fa.tour {a : List Pt} (h : Fa a) {k s : Int} (hs : s = 1 ∨ s = -1) : Fa (tour a k s a.length) := by
  have hl := h.lo
  have hpt : ∀ i, pt (AM.tour a k s a.length) i = pt a (k + (i % (a.length : Int)) * s) := fun i => pt_tour h.ne
  refine ⟨by rw [tour_len]; exact h.lo, by rw [tour_len]; exact h.hi, fun i => by rw [hpt]; exact h.nr _, fun i => ?_⟩
  have hm : ∀ i j : Int, pt (AM.tour a k s a.length) (i + j) = pt a (k + (i % (a.length : Int) + j) * s) := fun i j => by
    rw [hpt]
    apply pt_congr
    have e : (i + j) % (a.length : Int) = (i % a.length + j) % a.length := by rw [Int.emod_add_emod]
    rw [e]
    rw [Int.add_emod, Int.mul_emod, Int.emod_emod_of_dvd _ (Int.dvd_refl _), ← Int.mul_emod, ← Int.add_emod]
  have h0 := hm i 0
  rw [Int.add_zero, Int.add_zero] at h0
  rw [h0, hm i 1, hm i 2]
  rcases hs with rfl | rfl
  · have := h.turn (k + (i % (a.length : Int)) * 1)
    rwa [show k + (i % (a.length : Int)) * 1 + 1 = k + (i % (a.length : Int) + 1) * 1 by omega, show k + (i % (a.length : Int)) * 1 + 2 = k + (i % (a.length : Int) + 2) * 1 by omega] at this
  · have := h.turn (k + (i % (a.length : Int) + 2) * -1)
    rw [show k + (i % (a.length : Int) + 2) * -1 + 1 = k + (i % (a.length : Int) + 1) * -1 by omega, show k + (i % (a.length : Int) + 2) * -1 + 2 = k + (i % (a.length : Int)) * -1 by omega, turn_rev] at this
    omega

/-- the frame of a told polygon -/
noncomputable def FR (L : Nat) (a : List Pt) (k s : Int) : List Pt := (spec_mvFrame L (tour a k s a.length)).getD []

theorem FR_eq {L : Nat} {a : List Pt} (h : Fa a) {k s : Int} (hs : s = 1 ∨ s = -1) (hL : 5000 < L) :
    spec_mvFrame L (tour a k s a.length) = some (FR L a k s) ∧ impl_frame L (tour a k s a.length) = some (FR L a k s) ∧ ((FR L a k s).length = a.length) ∧
    ∃ A B C D g b d, FR L a k s = (tour a k s a.length).map (brg A B C D (pt (tour a k s a.length) 0)) ∧ Fr (tour a k s a.length) A B C D g b d := by
  have ht := h.tour (k := k) hs
  obtain ⟨A, B, C, D, g, b, d, h1, h2, h3⟩ := frame_eq (L := L) ht.lo ht.hi ht.nr (by have := ht.turn 0; simpa using this) hL
  have e : FR L a k s = (tour a k s a.length).map (brg A B C D (pt (tour a k s a.length) 0)) := by unfold FR; rw [h1]; rfl
  exact ⟨by rw [h1, e], by rw [h2, e], by rw [e, List.length_map, tour_len], A, B, C, D, g, b, d, e, h3⟩

end Go.AM

namespace Go.AM
set_option linter.unusedVariables false

/-- the least one of all frames -/
def IsKind (L : Nat) (a f : List Pt) : Prop := (∃ k s, (s = 1 ∨ s = -1) ∧ f = FR L a k s) ∧ ∀ k s, (s = 1 ∨ s = -1) → ¬ Lx a.length (FR L a k s) f

theorem IsKind.len {L : Nat} {a f : List Pt} (ha : Fa a) (hL : 5000 < L) (h : IsKind L a f) : f.length = a.length := by
  obtain ⟨⟨k, s, hs, rfl⟩, _⟩ := h
  exact (FR_eq ha hs hL).2.2.1

end Go.AM

namespace Go.AM
open Classical
set_option linter.unusedVariables false

def it (a : List Int) (i : Int) : Int := a.getD i.toNat 0
end Go.AM

namespace Go.AM
set_option linter.unusedVariables false

end Go.AM

namespace Go.AM
set_option linter.unusedVariables false

end Go.AM

namespace Go.AM
set_option linter.unusedVariables false

end Go.AM

namespace Go.AM
set_option linter.unusedVariables false

end Go.AM

namespace Go.AM
set_option linter.unusedVariables false

end Go.AM

namespace Go.AM
set_option linter.unusedVariables false

end Go.AM

namespace Go.AM
set_option linter.unusedVariables false

end Go.AM

namespace Go.AM
set_option linter.unusedVariables false

end Go.AM

namespace Go.AM
set_option linter.unusedVariables false

end Go.AM

namespace Go.AM
set_option linter.unusedVariables false

/-- bytes -/
def By (a : List Int) : Prop := ∀ x ∈ a, 0 ≤ x ∧ x ≤ 255

theorem ilen_eU (a : List Int) : ilen (List.map eU a) = (a.length : Int) := by rw [ilen_eq]; simp

theorem iand_bd {x : Int} : 0 ≤ iand IntKind.u64 x 255 ∧ iand IntKind.u64 x 255 ≤ 255 := by
  rw [iand_eq]
  have h : (BitVec.ofInt (IntKind.bits .u64) x &&& BitVec.ofInt (IntKind.bits .u64) 255).toNat ≤ 255 := by
    rw [BitVec.toNat_and]
    refine Nat.le_trans Nat.and_le_right ?_
    decide
  generalize (BitVec.ofInt (IntKind.bits .u64) x &&& BitVec.ofInt (IntKind.bits .u64) 255).toNat = n at *
  have e : IntKind.wrap .u64 (n : Int) = n := by
    simp only [IntKind.wrap, IntKind.signed, IntKind.bits]
    simp
    omega
  rw [e]; omega

theorem next_dr {L : Nat} {a : List Int} {t s : Int} (hb : By a) (ht : 0 ≤ t ∧ t ≤ 1000000) : ∃ r s', spec_l1Cur_next L a t s = some (r, t + 1, s') ∧ 0 ≤ r ∧ r ≤ 255 := by
  unfold spec_l1Cur_next
  have wt : wr IntKind.i64 (iadd t 1) = t + 1 := by rw [iadd_eq, wr_id (by omega)]
  have low : ∀ X : Int, 0 ≤ wr IntKind.i64 (iand IntKind.u64 X 255) ∧ wr IntKind.i64 (iand IntKind.u64 X 255) ≤ 255 := fun X => by
    have := iand_bd (x := X)
    rw [wr_id (by omega)]; exact this
  simp only [wt, ilen_eU, ilt_eq, ile_eq, gbind_eq, show ¬ (40 : Int) < 0 by omega, decide_false, cond_false]
  by_cases h : t < (a.length : Int)
  · have hlt : t.toNat < a.length := by omega
    have hg : lget a t = some a[t.toNat] := by rw [lget_eq, if_pos ht.1, List.getElem?_eq_getElem hlt]
    have hp := hb a[t.toNat] (List.getElem_mem hlt)
    simp only [h, decide_true, cond_true, hg, Option.bind_some]
    by_cases h2 : t + 1 ≤ (a.length : Int)
    · simp only [h2, decide_true, cond_true]
      exact ⟨_, _, rfl, by rw [wr_id (by omega)]; exact hp⟩
    · simp only [h2, decide_false, cond_false]
      exact ⟨_, _, rfl, low _⟩
  · simp only [h, decide_false, cond_false]
    by_cases h2 : t + 1 ≤ (a.length : Int)
    · simp only [h2, decide_true, cond_true]
      exact ⟨_, _, rfl, by omega, by omega⟩
    · simp only [h2, decide_false, cond_false]
      exact ⟨_, _, rfl, low _⟩

theorem pick_dr {L : Nat} {a : List Int} {t s n : Int} (hb : By a) (ht : 0 ≤ t ∧ t ≤ 900000) (hn : 1 ≤ n ∧ n ≤ 1000000) : ∃ r t' s', spec_l1Cur_pick L a t s n = some (r, t', s') ∧ (0 ≤ r ∧ r < n) ∧ t ≤ t' ∧ t' ≤ t + 2 := by
  unfold spec_l1Cur_pick
  simp only [ile_eq, ilt_eq, ieq_eq, gbind_eq]
  by_cases h1 : n ≤ 1
  · simp only [h1, decide_true, cond_true]
    exact ⟨0, t, s, rfl, by omega, by omega, by omega⟩
  · simp only [h1, decide_false, cond_false]
    obtain ⟨r, s1, e1, r0, r1⟩ := next_dr (L := L) (s := s) hb (t := t) (by omega)
    simp only [e1, Option.bind_some, show ¬ n = 0 by omega, decide_false, cond_false]
    have key : ∀ x : Int, 0 ≤ x → 0 ≤ irem x n ∧ irem x n < n := fun x hx => by
      rw [irem_eq, Int.tmod_eq_emod_of_nonneg hx]
      exact ⟨Int.emod_nonneg _ (by omega), Int.emod_lt_of_pos _ (by omega)⟩
    by_cases h2 : 200 < n
    · simp only [h2, decide_true, cond_true]
      obtain ⟨q, s2, e2, q0, q1⟩ := next_dr (L := L) (s := s1) hb (t := t + 1) (by omega)
      simp only [e2, Option.bind_some]
      refine ⟨_, _, _, rfl, key _ ?_, by omega, by omega⟩
      rw [imul_eq, iadd_eq, wr_id (n := r * 256) (by omega), wr_id (by omega)]; omega
    · simp only [h2, decide_false, cond_false]
      exact ⟨_, _, _, rfl, key r r0, by omega, by omega⟩

theorem one_dr {L : Nat} {a : List Int} {t s n : Int} (hb : By a) (ht : 0 ≤ t ∧ t ≤ 900000) (hn : 1 ≤ n ∧ n ≤ 1000000) : ∃ r t' s', spec_l1Cur_one L a t s n = some (r, t', s') ∧ t ≤ t' ∧ t' ≤ t + 2 := by
  obtain ⟨r, t', s', e, _, h1, h2⟩ := pick_dr (L := L) (s := s) hb ht hn
  unfold spec_l1Cur_one
  simp only [e, gbind_eq, Option.bind_some]
  exact ⟨_, _, _, rfl, h1, h2⟩

theorem among_dr {L : Nat} {a w : List Int} {t s : Int} (hb : By a) (ht : 0 ≤ t ∧ t ≤ 900000) (hw : 1 ≤ (w.length : Int) ∧ (w.length : Int) ≤ 1000) : ∃ r t' s', spec_l1Cur_among_v2 L a t s w = some (r, t', s', w) ∧ r ∈ w ∧ t ≤ t' ∧ t' ≤ t + 2 := by
  have hl : ilen (List.map eI w) = (w.length : Int) := by rw [ilen_eq]; simp
  obtain ⟨r, t', s', e, ⟨r0, r1⟩, h1, h2⟩ := pick_dr (L := L) (s := s) (n := (w.length : Int)) hb ht (by omega)
  unfold spec_l1Cur_among_v2
  have hlt : r.toNat < w.length := by omega
  have hg : lget w r = some w[r.toNat] := by rw [lget_eq, if_pos r0, List.getElem?_eq_getElem hlt]
  simp only [hl, e, gbind_eq, Option.bind_some, ile_eq, ilt_eq, r0, r1, decide_true, Bool.and_self, cond_true, hg]
  exact ⟨_, _, _, rfl, List.getElem_mem hlt, h1, h2⟩

theorem surePeg_dr {L : Nat} {a : List Int} {t s n : Int} (hb : By a) (ht : 0 ≤ t ∧ t ≤ 800000) (hn : 1 ≤ n ∧ n ≤ 20) : ∃ x y t' s', spec_l1Cur_surePeg L a t s n = some (x, y, t', s') ∧ In ⟨x, y⟩ ∧ t ≤ t' ∧ t' ≤ t + 4 := by
  have wn : wr IntKind.i64 (iadd (wr IntKind.i64 (imul 2 n)) 1) = 2 * n + 1 := by
    rw [imul_eq, iadd_eq, wr_id (n := 2 * n) (by omega), wr_id (by omega)]
  obtain ⟨r, t1, s1, e1, ⟨r0, r1⟩, h1, h2⟩ := pick_dr (L := L) (s := s) (n := 2 * n + 1) hb (t := t) (by omega) (by omega)
  obtain ⟨q, t2, s2, e2, ⟨q0, q1⟩, h3, h4⟩ := pick_dr (L := L) (s := s1) (n := 2 * n + 1) hb (t := t1) (by omega) (by omega)
  unfold spec_l1Cur_surePeg
  simp only [wn, e1, e2, gbind_eq, Option.bind_some, isub_eq]
  rw [wr_id (n := r - n) (by omega), wr_id (n := q - n) (by omega)]
  exact ⟨_, _, _, _, rfl, by unfold In; simp only; omega, by omega, by omega⟩

theorem peg_dr {L : Nat} {a : List Int} {t s : Int} (hb : By a) (ht : 0 ≤ t ∧ t ≤ 700000) : ∃ x y t' s', spec_l1Cur_peg L a t s = some (x, y, t', s') ∧ Wd ⟨x, y⟩ ∧ t ≤ t' ∧ t' ≤ t + 8 := by
  obtain ⟨b, t1, s1, e1, h1, h2⟩ := one_dr (L := L) (s := s) (n := 12) hb (t := t) (by omega) (by omega)
  unfold spec_l1Cur_peg
  simp only [e1, gbind_eq, Option.bind_some]
  cases b with
  | true =>
    obtain ⟨x, t2, s2, e2, m2, h3, h4⟩ := among_dr (L := L) (s := s1) (w := [0, 40, -40, 41, 4611686018427387904]) hb (t := t1) (by omega) (by simp)
    obtain ⟨y, t3, s3, e3, m3, h5, h6⟩ := among_dr (L := L) (s := s2) (w := [0, 1, 40, -41, -9223372036854775808]) hb (t := t2) (by omega) (by simp)
    simp only [cond_true, e2, e3, Option.bind_some]
    refine ⟨_, _, _, _, rfl, ?_, by omega, by omega⟩
    simp only [List.mem_cons, List.not_mem_nil, or_false] at m2 m3
    unfold Wd; simp only; omega
  | false =>
    obtain ⟨x, y, t2, s2, e2, m2, h3, h4⟩ := surePeg_dr (L := L) (s := s1) (n := 6) hb (t := t1) (by omega) (by omega)
    simp only [cond_false, e2, Option.bind_some]
    refine ⟨_, _, _, _, rfl, ?_, by omega, by omega⟩
    unfold In at m2; unfold Wd; simp only at *; omega

theorem pt_mem2 {a : List Pt} (hn : a ≠ []) (i : Int) : pt a i ∈ a := by
  have hl : 0 < (a.length : Int) := by have := List.length_pos_iff.2 hn; omega
  have := pt_get (a := a) (i := i % a.length) (Int.emod_nonneg _ (by omega)) (Int.emod_lt_of_pos _ hl)
  rw [pt_congr (Int.emod_emod_of_dvd _ (Int.dvd_refl _))] at this
  exact List.mem_of_getElem? this

/-- a list of pegs, not too long -/
structure Pl (w : List Pt) (n : Int) : Prop where
  len : (w.length : Int) ≤ n
  lo : 3 ≤ (w.length : Int)
  ins : ∀ p ∈ w, In p

theorem surePoly_l0 {L : Nat} {a : List Int} {n : Int} (hb : By a) (hn : 1 ≤ n ∧ n ≤ 20) (hL : 1000 < L) : ∀ (k m : Nat) (t s : Int) (w : List Pt), k < m → k ≤ 10 → (0 ≤ t ∧ t ≤ 500000 - 10 * k) → Pl w (30 - k) → w ≠ [] →
    ∃ r t' s', spec_l1Cur_surePolygon_l0 L a n m k t s w = some (r, t', s') ∧ Pl r 30 ∧ r ≠ [] ∧ t ≤ t' ∧ t' ≤ t + 10 * k + 2 := by
  intro k
  induction k with
  | zero =>
    intro m t s w hm _ ht hw hne
    obtain ⟨m, rfl⟩ : ∃ q, m = q + 1 := ⟨m - 1, by omega⟩
    obtain ⟨b, t1, s1, e1, h1, h2⟩ := one_dr (L := L) (s := s) (n := 3) hb (t := t) (by omega) (by omega)
    have hl := hw.len
    rw [spec_l1Cur_surePolygon_l0]
    simp only [ilt_eq, show ¬ (0 : Int) < ((0 : Nat) : Int) by omega, decide_false, cond_false, e1, gbind_eq, Option.bind_some]
    cases b with
    | true =>
      simp only [cond_true, spec_pgBack_eq (L := L) hne (show (w.length : Int) ≤ 900000 by omega) (by omega), Option.bind_some]
      refine ⟨_, _, _, rfl, ⟨by rw [tour_len]; omega, by rw [tour_len]; exact hw.lo, fun p hp => ?_⟩, fun e => hne (by have := congrArg List.length e; rw [tour_len] at this; exact List.eq_nil_of_length_eq_zero (by simpa using this)), by omega, by omega⟩
      unfold tour at hp
      obtain ⟨j, _, rfl⟩ := List.mem_map.1 hp
      exact hw.ins _ (pt_mem2 hne _)
    | false =>
      simp only [cond_false]
      exact ⟨_, _, _, rfl, ⟨by omega, hw.lo, hw.ins⟩, hne, by omega, by omega⟩
  | succ k ih =>
    intro m t s w hm hk ht hw hne
    obtain ⟨m, rfl⟩ : ∃ q, m = q + 1 := ⟨m - 1, by omega⟩
    have hl := hw.len
    have hpos : 0 < (w.length : Int) := by have := List.length_pos_iff.2 hne; omega
    obtain ⟨r, t1, s1, e1, ⟨r0, r1⟩, h1, h2⟩ := pick_dr (L := L) (s := s) (n := (w.length : Int)) hb (t := t) (by omega) (by omega)
    obtain ⟨x, y, t2, s2, e2, m2, h3, h4⟩ := surePeg_dr (L := L) (s := s1) (n := n) hb (t := t1) (by omega) hn
    have w1 : wr IntKind.i64 (iadd 1 r) = 1 + r := by rw [iadd_eq, wr_id (by omega)]
    have wk : wr IntKind.i64 (isub ((k + 1 : Nat) : Int) 1) = (k : Int) := by rw [isub_eq, wr_id (by omega)]; omega
    have hall : ∀ (u v : List AV), (u.length : Int) ≤ 100 → (v.length : Int) ≤ 100 → fits (iadd (ilen u) (ilen v)) 16 = true := fun u v hu hv => by
      rw [ilen_eq, ilen_eq, iadd_eq]; exact fits_s (by omega)
    rw [spec_l1Cur_surePolygon_l0]
    simp only [ilt_eq, show (0 : Int) < ((k + 1 : Nat) : Int) by omega, decide_true, cond_true, ilen_mapep, e1, e2, gbind_eq, Option.bind_some, w1, wk, ile_eq, show (0 : Int) ≤ 1 + r by omega, show 1 + r ≤ (w.length : Int) by omega, Bool.and_self]
    rw [hall _ _ (by simp) (by rw [lsub_eq]; simp; omega), cond_true, hall _ _ (by rw [lcat_eq, lsub_eq]; simp; omega) (by simp), cond_true, hall _ _ (by rw [lcat_eq, lcat_eq, lsub_eq]; simp; omega) (by rw [lsub_eq]; simp; omega), cond_true]
    simp only [spec_pgGood_eq (show 20 < L by omega), Option.bind_some]
    have hw' : Pl (lcat (lcat (lcat [] (lsub w 0 (iadd 0 (1 + r)))) [(⟨x, y⟩ : Pt)]) (lsub w (1 + r) (iadd (1 + r) (isub (w.length : Int) (1 + r))))) (30 - k) := by
      simp only [lcat_eq, lsub_eq, iadd_eq, isub_eq]
      have hlo := hw.lo
      refine ⟨by simp; omega, by simp; omega, fun p hp => ?_⟩
      simp only [List.nil_append, List.mem_append, List.mem_singleton] at hp
      rcases hp with (hp | hp) | hp
      · exact hw.ins p (List.mem_of_mem_drop (List.mem_of_mem_take hp))
      · rw [hp]; exact m2
      · exact hw.ins p (List.mem_of_mem_drop (List.mem_of_mem_take hp))
    have hne' : lcat (lcat (lcat [] (lsub w 0 (iadd 0 (1 + r)))) [(⟨x, y⟩ : Pt)]) (lsub w (1 + r) (iadd (1 + r) (isub (w.length : Int) (1 + r)))) ≠ [] := by
      simp [lcat_eq]
    generalize lcat (lcat (lcat [] (lsub w 0 (iadd 0 (1 + r)))) [(⟨x, y⟩ : Pt)]) (lsub w (1 + r) (iadd (1 + r) (isub (w.length : Int) (1 + r)))) = w' at *
    by_cases g : Good_ w'
    · simp only [g, decide_true, cond_true]
      obtain ⟨q, t3, s3, e3, g1, g2, g3, g4⟩ := ih m t2 s2 w' (by omega) (by omega) (by omega) hw' hne'
      exact ⟨q, t3, s3, e3, g1, g2, by omega, by omega⟩
    · simp only [g, decide_false, cond_false]
      obtain ⟨q, t3, s3, e3, g1, g2, g3, g4⟩ := ih m t2 s2 w (by omega) (by omega) (by omega) ⟨by omega, hw.lo, hw.ins⟩ hne
      exact ⟨q, t3, s3, e3, g1, g2, by omega, by omega⟩

theorem surePoly_dr {L : Nat} {a : List Int} {t s n c : Int} (hb : By a) (ht : 0 ≤ t ∧ t ≤ 400000) (hn : 1 ≤ n ∧ n ≤ 20) (hc : 2 ≤ c ∧ c ≤ 10) (hL : 1000 < L) : ∃ r t' s', spec_l1Cur_surePolygon L a t s n c = some (r, t', s') ∧ Pl r 30 ∧ r ≠ [] ∧ t ≤ t' ∧ t' ≤ t + 200 := by
  obtain ⟨x, t1, s1, e1, x0, h1, h2⟩ := pick_dr (L := L) (s := s) (n := n) hb (t := t) (by omega) (by omega)
  obtain ⟨y, t2, s2, e2, y0, h3, h4⟩ := pick_dr (L := L) (s := s1) (n := n + 1) hb (t := t1) (by omega) (by omega)
  obtain ⟨z, t3, s3, e3, z0, h5, h6⟩ := pick_dr (L := L) (s := s2) (n := n) hb (t := t2) (by omega) (by omega)
  obtain ⟨k, t4, s4, e4, k0, h7, h8⟩ := pick_dr (L := L) (s := s3) (n := c - 1) hb (t := t3) (by omega) (by omega)
  unfold spec_l1Cur_surePolygon
  have wn : wr IntKind.i64 (iadd n 1) = n + 1 := by rw [iadd_eq, wr_id (by omega)]
  have wc : wr IntKind.i64 (isub c 1) = c - 1 := by rw [isub_eq, wr_id (by omega)]
  have wx : wr IntKind.i64 (iadd 1 x) = 1 + x := by rw [iadd_eq, wr_id (by omega)]
  have wz : wr IntKind.i64 (iadd 1 z) = 1 + z := by rw [iadd_eq, wr_id (by omega)]
  simp only [e1, wn, e2, e3, wc, e4, gbind_eq, Option.bind_some, wx, wz]
  obtain ⟨q, t5, s5, e5, g1, g2, g3, g4⟩ := surePoly_l0 (L := L) hb hn hL k.toNat L t4 s4 [⟨0, 0⟩, ⟨1 + x, 0⟩, ⟨y, 1 + z⟩] (by omega) (by omega) (by omega)
    ⟨by simp; omega, by simp, fun p hp => by
      simp only [List.mem_cons, List.not_mem_nil, or_false] at hp
      rcases hp with rfl | rfl | rfl <;> unfold In <;> simp only <;> omega⟩ (by simp)
  rw [Int.toNat_of_nonneg k0.1] at e5
  exact ⟨q, t5, s5, e5, g1, g2, by omega, by omega⟩

theorem polygon_dr {L : Nat} {a : List Int} {t s n : Int} (hb : By a) (ht : 0 ≤ t ∧ t ≤ 300000) (hn : 1 ≤ n ∧ n ≤ 20) (hL : 1000 < L) : ∃ r t' s', spec_l1Cur_polygon L a t s n = some (r, t', s') ∧ (r.length : Int) ≤ 30 ∧ (∀ p ∈ r, Wd p) ∧ t ≤ t' ∧ t' ≤ t + 300 := by
  have inwd : ∀ p, In p → Wd p := fun p h => by unfold In at h; unfold Wd; omega
  obtain ⟨w, t1, s1, e1, hw, hne, h1, h2⟩ := surePoly_dr (L := L) (s := s) (n := n) (c := 8) hb (t := t) (by omega) hn (by omega) hL
  obtain ⟨k, t2, s2, e2, k0, h3, h4⟩ := pick_dr (L := L) (s := s1) (n := 16) hb (t := t1) (by omega) (by omega)
  have hpos : 0 < (w.length : Int) := by have := List.length_pos_iff.2 hne; omega
  have hl := hw.len
  unfold spec_l1Cur_polygon
  simp only [e1, e2, gbind_eq, Option.bind_some, ilen_mapep, ieq_eq]
  by_cases c0 : k = 0
  · obtain ⟨i, t3, s3, e3, i0, h5, h6⟩ := pick_dr (L := L) (s := s2) (n := (w.length : Int)) hb (t := t2) (by omega) (by omega)
    obtain ⟨x, y, t4, s4, e4, hp, h7, h8⟩ := peg_dr (L := L) (s := s3) hb (t := t3) (by omega)
    simp only [c0, decide_true, cond_true, e3, e4, Option.bind_some, ile_eq, ilt_eq, i0.1, i0.2, Bool.and_self, lget_pt i0.1 i0.2]
    refine ⟨_, _, _, rfl, by rw [lset_eq]; simp; omega, fun p hp' => ?_, by omega, by omega⟩
    rw [lset_eq] at hp'
    rcases List.mem_or_eq_of_mem_set hp' with h | h
    · exact inwd p (hw.ins p h)
    · rw [h]; exact hp
  · by_cases c1 : k = 1
    · obtain ⟨i, t3, s3, e3, i0, h5, h6⟩ := pick_dr (L := L) (s := s2) (n := 3) hb (t := t2) (by omega) (by omega)
      simp only [c0, c1, decide_true, decide_false, cond_true, cond_false, e3, Option.bind_some, ile_eq, i0.1, Bool.true_and]
      have hlo := hw.lo
      by_cases hi : i ≤ (w.length : Int)
      · simp only [hi, decide_true, cond_true]
        refine ⟨_, _, _, rfl, by rw [lsub_eq]; simp; omega, fun p hp' => ?_, by omega, by omega⟩
        rw [lsub_eq] at hp'
        exact inwd p (hw.ins p (List.mem_of_mem_drop (List.mem_of_mem_take hp')))
      · omega
    · by_cases c2 : k = 2
      · simp only [c0, c1, c2, decide_true, decide_false, cond_true, cond_false]
        refine ⟨_, _, _, rfl, by simp, fun p hp' => ?_, by omega, by omega⟩
        simp only [List.mem_cons, List.not_mem_nil, or_false] at hp'
        rcases hp' with rfl | rfl | rfl | rfl <;> unfold Wd <;> simp only <;> omega
      · simp only [c0, c1, c2, decide_false, cond_false]
        exact ⟨_, _, _, rfl, by omega, fun p hp => inwd p (hw.ins p hp), by omega, by omega⟩
end Go.AM

namespace Go.AM
set_option linter.unusedVariables false

theorem less_pos {a b : Pt} : Less a b ↔ Pos (df a b) := by unfold Less Pos df; simp only; omega
theorem turn_df (a b c : Pt) : turn a b c = cross (df a b) (df a c) := by unfold turn cross df; rfl

theorem tp0 {u v w : Pt} (hu : Pos u) (hv : Pos v) (hw : Pos w) (h1 : 0 ≤ cross u v) (h2 : 0 ≤ cross v w) : 0 ≤ cross u w := by
  obtain ⟨e1, _⟩ := three_way u v w
  rw [cross_anti u w] at e1
  rcases Int.lt_or_le (cross u w) 0 with h | h
  · exfalso
    have ux : 0 ≤ u.x := by unfold Pos at hu; omega
    have vx : 0 ≤ v.x := by unfold Pos at hv; omega
    have wx : 0 ≤ w.x := by unfold Pos at hw; omega
    have m1 := Int.mul_nonneg h2 ux
    have m2 := Int.mul_nonneg h1 wx
    by_cases hvx : v.x = 0
    · have hvy : 0 < v.y := by unfold Pos at hv; omega
      have c2 : cross v w = -(v.y * w.x) := by unfold cross; rw [hvx]; grind
      have hwx : w.x = 0 := by
        rcases Int.lt_or_le 0 w.x with h3 | h3
        · have := Int.mul_pos hvy h3; omega
        · omega
      have hwy : 0 < w.y := by unfold Pos at hw; omega
      have c3 : cross u w = u.x * w.y := by unfold cross; rw [hwx]; grind
      have := Int.mul_nonneg ux (Int.le_of_lt hwy)
      omega
    · have := Int.mul_neg_of_neg_of_pos h (show 0 < v.x by omega)
      have e : -cross u w * v.x = -(cross u w * v.x) := by grind
      omega
  · exact h

theorem tp1 {u v w : Pt} (hu : Pos u) (hv : Pos v) (hw : Pos w) (h1 : 0 < cross u v) (h2 : 0 ≤ cross v w) : 0 < cross u w := by
  have h0 := tp0 hu hv hw (by omega) h2
  rcases Int.lt_or_le 0 (cross u w) with h | h
  · exact h
  · exfalso
    have hz : cross u w = 0 := by omega
    obtain ⟨e1, e2⟩ := three_way u v w
    rw [cross_anti u w, hz] at e1 e2
    have ux : 0 ≤ u.x := by unfold Pos at hu; omega
    have wx : 0 ≤ w.x := by unfold Pos at hw; omega
    have m1 := Int.mul_nonneg h2 ux
    have m2 := Int.mul_nonneg (Int.le_of_lt h1) wx
    have z1 : cross u v * w.x = 0 := by simp at e1; omega
    have z2 : cross v w * u.x = 0 := by simp at e1; omega
    have hwx : w.x = 0 := by
      rcases Int.mul_eq_zero.1 z1 with h | h <;> omega
    have hwy : 0 < w.y := by unfold Pos at hw; omega
    have c3 : cross u w = u.x * w.y := by unfold cross; rw [hwx]; grind
    have hux : u.x = 0 := by
      rcases Int.lt_or_le 0 u.x with h3 | h3
      · have := Int.mul_pos h3 hwy; omega
      · omega
    have huy : 0 < u.y := by unfold Pos at hu; omega
    have c4 : cross u v = -(u.y * v.x) := by unfold cross; rw [hux]; grind
    have vx : 0 ≤ v.x := by unfold Pos at hv; omega
    have := Int.mul_nonneg (Int.le_of_lt huy) vx
    omega

theorem tp2 {u v w : Pt} (hu : Pos u) (hv : Pos v) (hw : Pos w) (h1 : 0 ≤ cross u v) (h2 : 0 < cross v w) : 0 < cross u w := by
  have h0 := tp0 hu hv hw h1 (by omega)
  rcases Int.lt_or_le 0 (cross u w) with h | h
  · exact h
  · exfalso
    have hz : cross u w = 0 := by omega
    have := tp1 hw hu hv (by
      rcases Int.lt_or_le 0 (cross w u) with h | h
      · exact h
      · exfalso
        -- w is along u: then v lies along it too
        obtain ⟨e1, e2⟩ := three_way u v w
        rw [cross_anti u w, hz] at e1 e2
        have ux : 0 ≤ u.x := by unfold Pos at hu; omega
        have wx : 0 ≤ w.x := by unfold Pos at hw; omega
        have m1 := Int.mul_nonneg (Int.le_of_lt h2) ux
        have m2 := Int.mul_nonneg h1 wx
        have z2 : cross v w * u.x = 0 := by simp at e1; omega
        have hux : u.x = 0 := by rcases Int.mul_eq_zero.1 z2 with h | h <;> omega
        have huy : 0 < u.y := by unfold Pos at hu; omega
        have c3 : cross u w = -(u.y * w.x) := by unfold cross; rw [hux]; grind
        have hwx : w.x = 0 := by
          rcases Int.lt_or_le 0 w.x with h3 | h3
          · have := Int.mul_pos huy h3; omega
          · omega
        have vx : 0 ≤ v.x := by unfold Pos at hv; omega
        have hwy : 0 < w.y := by unfold Pos at hw; omega
        have c4 : cross u v = -(u.y * v.x) := by unfold cross; rw [hux]; grind
        have hvx : v.x = 0 := by
          rcases Int.lt_or_le 0 v.x with h3 | h3
          · have := Int.mul_pos huy h3; omega
          · omega
        have c5 : cross v w = 0 := by unfold cross; rw [hvx, hwx]; grind
        omega) h1
    rw [cross_anti] at this
    omega

/-- consecutive ones of a stack; the later one is told last -/
def Edges (f : Pt → Pt → Prop) : List Pt → Prop
  | b :: a :: r => f a b ∧ Edges f (a :: r)
  | _ => True
def Trips : List Pt → Prop
  | c :: b :: a :: r => 0 < turn a b c ∧ Trips (b :: a :: r)
  | _ => True

/-- a peg is laid on a stack -/
def stk : List Pt → Pt → List Pt
  | b :: a :: r, p => if turn a b p ≤ 0 then stk (a :: r) p else p :: b :: a :: r
  | s, p => p :: s

/-- what a stack says of the pegs gone along -/
structure CI (Q s : List Pt) : Prop where
  ord : Edges Less s
  cvx : Trips s
  cov : ∀ q ∈ Q, Edges (fun a b => 0 ≤ turn a b q) s
  low : ∀ q ∈ Q, ∀ x, s.getLast? = some x → q = x ∨ Less x q
  sub : ∀ x ∈ s, x ∈ Q

theorem Edges.tail {f : Pt → Pt → Prop} {b : Pt} {s : List Pt} (h : Edges f (b :: s)) : Edges f s := by
  cases s with
  | nil => trivial
  | cons a r => exact h.2
theorem Trips.tail {b : Pt} {s : List Pt} (h : Trips (b :: s)) : Trips s := by
  match s, h with
  | [], _ => trivial
  | [_], _ => trivial
  | _ :: _ :: _, h => exact h.2

theorem turn_self1 (a b : Pt) : turn a b a = 0 := by unfold turn; grind
theorem turn_self2 (a b : Pt) : turn a b b = 0 := by unfold turn; grind

/-- what is to the left of the last line is to the left of all -/
theorem ahead {p : Pt} : ∀ {r : List Pt} {a b : Pt}, Edges Less (b :: a :: r) → Trips (b :: a :: r) → Less b p → 0 < turn a b p → Edges (fun a b => 0 ≤ turn a b p) (b :: a :: r)
  | [], a, b, _, _, _, h => ⟨by omega, trivial⟩
  | z :: r, a, b, ho, ht, hl, h => by
    refine ⟨by omega, ahead ho.tail ht.tail (ho.1.trans hl) ?_⟩
    have h1 : 0 < turn z a b := ht.1
    have hza : Less z a := ho.2.1
    have hab : Less a b := ho.1
    -- u = a - z, v = b - a, w = p - a
    have e1 : turn z a b = cross (df z a) (df a b) := by unfold turn cross df; grind
    have e2 : turn z a p = cross (df z a) (df a p) := by unfold turn cross df; grind
    rw [turn_df] at h
    rw [e1] at h1
    rw [e2]
    exact tp1 (less_pos.1 hza) (less_pos.1 hab) (less_pos.1 (hab.trans hl)) h1 (by omega)

theorem stk_step {Q : List Pt} {p : Pt} (hp : ∀ q ∈ Q, Less q p) : ∀ {s : List Pt} {t : Pt}, CI Q (t :: s) → (∀ q ∈ Q, Less t q → 0 ≤ turn t p q) → CI (p :: Q) (stk (t :: s) p)
  | [], t, h, hk => by
    have ht : t ∈ Q := h.sub t (by simp)
    refine ⟨⟨hp t ht, trivial⟩, trivial, fun q hq => ?_, fun q hq x hx => ?_, fun x hx => ?_⟩
    · rcases List.mem_cons.1 hq with rfl | hq
      · exact ⟨by show 0 ≤ turn _ _ _; rw [turn_self2]; omega, trivial⟩
      · refine ⟨?_, trivial⟩
        rcases h.low q hq t rfl with rfl | h1
        · show 0 ≤ turn _ _ _; rw [turn_self1]; omega
        · exact hk q hq h1
    · simp [stk] at hx; subst hx
      rcases List.mem_cons.1 hq with rfl | hq
      · exact .inr (hp t ht)
      · exact h.low q hq t rfl
    · simp [stk] at hx; rcases hx with rfl | rfl
      · exact List.mem_cons_self
      · exact List.mem_cons_of_mem _ ht
  | a :: r, b, h, hk => by
    have hb : b ∈ Q := h.sub b (by simp)
    have ha : a ∈ Q := h.sub a (by simp)
    have hab : Less a b := h.ord.1
    by_cases hc : turn a b p ≤ 0
    · have e : stk (b :: a :: r) p = stk (a :: r) p := by rw [stk]; simp [hc]
      rw [e]
      refine stk_step hp ⟨h.ord.tail, h.cvx.tail, fun q hq => (h.cov q hq).tail, fun q hq x hx => h.low q hq x (by rw [List.getLast?_cons_cons]; exact hx), fun x hx => h.sub x (List.mem_cons_of_mem _ hx)⟩ fun q hq hl => ?_
      have h1 : 0 ≤ turn a b q := (h.cov q hq).1
      rw [turn_df] at hc h1 ⊢
      have c1 : 0 ≤ cross (df a p) (df a b) := by rw [cross_anti]; omega
      exact tp0 (less_pos.1 (hp a ha)) (less_pos.1 hab) (less_pos.1 hl) c1 h1
    · have e : stk (b :: a :: r) p = p :: b :: a :: r := by rw [stk]; simp [hc]
      rw [e]
      have hbp := hp b hb
      refine ⟨⟨hbp, h.ord⟩, ⟨by omega, h.cvx⟩, fun q hq => ?_, fun q hq x hx => ?_, fun x hx => ?_⟩
      · rcases List.mem_cons.1 hq with rfl | hq
        · exact ⟨by show 0 ≤ turn _ _ _; rw [turn_self2]; omega, ahead h.ord h.cvx hbp (by omega)⟩
        · refine ⟨?_, h.cov q hq⟩
          by_cases e1 : Less b q
          · exact hk q hq e1
          · by_cases e2 : Less q b
            · have h1 : 0 ≤ turn a b q := (h.cov q hq).1
              -- d1 = b - a, e = b - q, d2 = p - b
              have f1 : turn a b q = cross (df q b) (df a b) := by unfold turn cross df; grind
              have f2 : turn a b p = cross (df a b) (df b p) := by unfold turn cross df; grind
              have f3 : turn b p q = cross (df q b) (df b p) := by unfold turn cross df; grind
              have := tp2 (less_pos.1 e2) (less_pos.1 hab) (less_pos.1 hbp) (by omega) (show 0 < cross (df a b) (df b p) by omega)
              omega
            · have := not_less_eq e1 e2
              subst this
              show 0 ≤ turn _ _ _; rw [turn_self1]; omega
      · rcases List.mem_cons.1 hq with rfl | hq
        · have hx' : x ∈ b :: a :: r := List.mem_of_getLast? (by rw [List.getLast?_cons_cons] at hx; exact hx)
          exact .inr (hp x (h.sub x hx'))
        · exact h.low q hq x (by rw [List.getLast?_cons_cons] at hx; exact hx)
      · rcases List.mem_cons.1 hx with rfl | hx
        · exact List.mem_cons_self
        · exact List.mem_cons_of_mem _ (h.sub x hx)

/-- the stack of a list in order -/
def stack (l : List Pt) : List Pt := l.foldl stk []

def Rise : List Pt → Prop
  | a :: b :: r => Less a b ∧ Rise (b :: r)
  | _ => True

theorem stk_head (s : List Pt) (p : Pt) : ∃ r, stk s p = p :: r := by
  match s with
  | [] => exact ⟨[], rfl⟩
  | [a] => exact ⟨[a], rfl⟩
  | b :: a :: r =>
    by_cases hc : turn a b p ≤ 0
    · have e : stk (b :: a :: r) p = stk (a :: r) p := by rw [stk]; simp [hc]
      rw [e]; exact stk_head (a :: r) p
    · have e : stk (b :: a :: r) p = p :: b :: a :: r := by rw [stk]; simp [hc]
      exact ⟨_, e⟩
termination_by s.length

theorem fold_ci : ∀ {l Q : List Pt} {t : Pt} {s : List Pt}, CI Q (t :: s) → (∀ q ∈ Q, q = t ∨ Less q t) → Rise (t :: l) → CI (l.reverse ++ Q) (l.foldl stk (t :: s))
  | [], Q, t, s, h, _, _ => by simpa using h
  | p :: l, Q, t, s, h, ht, hr => by
    have hp : ∀ q ∈ Q, Less q p := fun q hq => by
      rcases ht q hq with rfl | h1
      · exact hr.1
      · exact h1.trans hr.1
    have h1 := stk_step hp h fun q hq hl => by
      rcases ht q hq with rfl | h2
      · exact absurd hl (Less.irrefl _)
      · exact absurd (h2.trans hl) (Less.irrefl _)
    obtain ⟨r, hr1⟩ := stk_head (t :: s) p
    rw [List.foldl_cons, hr1]
    rw [hr1] at h1
    have := fold_ci h1 (fun q hq => by
      rcases List.mem_cons.1 hq with rfl | hq
      · exact .inl rfl
      · exact .inr (hp q hq)) hr.2
    simpa using this

theorem stack_ci {l : List Pt} (hl : l ≠ []) (hr : Rise l) : CI l.reverse (stack l) := by
  match l, hl with
  | a :: l, _ =>
    have h0 : CI [a] [a] := ⟨trivial, trivial, fun _ _ => trivial, fun q hq x hx => by simp at hx hq; subst hx; subst hq; exact .inl rfl, fun x hx => hx⟩
    have := fold_ci (l := l) h0 (fun q hq => by simp at hq; exact .inl hq) hr
    simpa [stack, stk] using this

theorem fold_head : ∀ (l : List Pt) (t : Pt) (s : List Pt), ∃ r, l.foldl stk (t :: s) = ((t :: l).getLast (by simp)) :: r
  | [], t, s => ⟨s, rfl⟩
  | p :: l, t, s => by
    obtain ⟨r, hr⟩ := stk_head (t :: s) p
    rw [List.foldl_cons, hr]
    obtain ⟨r', h'⟩ := fold_head l p r
    exact ⟨r', by rw [h']; simp⟩

theorem stk_last (p : Pt) : ∀ (s : List Pt) (t : Pt), (stk (t :: s) p).getLast? = (t :: s).getLast?
  | [], t => rfl
  | a :: r, b => by
    by_cases hc : turn a b p ≤ 0
    · have e : stk (b :: a :: r) p = stk (a :: r) p := by rw [stk]; simp [hc]
      rw [e, stk_last p r a, List.getLast?_cons_cons]
    · have e : stk (b :: a :: r) p = p :: b :: a :: r := by rw [stk]; simp [hc]
      rw [e, List.getLast?_cons_cons]

theorem fold_last : ∀ (l : List Pt) (t : Pt) (s : List Pt), (l.foldl stk (t :: s)).getLast? = (t :: s).getLast?
  | [], t, s => rfl
  | p :: l, t, s => by
    obtain ⟨r, hr⟩ := stk_head (t :: s) p
    have h1 := stk_last p s t
    rw [List.foldl_cons, hr, fold_last l p r, ← hr, h1]

theorem stk_two {p : Pt} : ∀ (s : List Pt) (t : Pt), 2 ≤ (stk (t :: s) p).length
  | [], t => by simp [stk]
  | a :: r, b => by
    by_cases hc : turn a b p ≤ 0
    · have e : stk (b :: a :: r) p = stk (a :: r) p := by rw [stk]; simp [hc]
      rw [e]; exact stk_two r a
    · have e : stk (b :: a :: r) p = p :: b :: a :: r := by rw [stk]; simp [hc]
      rw [e]; simp

theorem fold_two : ∀ (l : List Pt) (t : Pt) (s : List Pt), l ≠ [] → 2 ≤ (l.foldl stk (t :: s)).length
  | [p], t, s, _ => stk_two s t
  | p :: q :: l, t, s, _ => by
    obtain ⟨r, hr⟩ := stk_head (t :: s) p
    rw [List.foldl_cons, hr]
    exact fold_two (q :: l) p r (by simp)
end Go.AM

namespace Go.AM
set_option linter.unusedVariables false

/-- in order: no later one comes before an earlier one -/
def Ord (l : List Pt) : Prop := l.Pairwise fun a b => ¬ Less b a

def insP (p : Pt) : List Pt → List Pt
  | [] => [p]
  | a :: l => if Less a p then a :: insP p l else p :: a :: l

/-- in order, by insertion -/
def isort (l : List Pt) : List Pt := l.foldl (fun out p => insP p out) []

theorem insP_perm (p : Pt) : ∀ l : List Pt, (insP p l).Perm (p :: l)
  | [] => .refl _
  | a :: l => by
    unfold insP
    split
    · exact ((insP_perm p l).cons a).trans (List.Perm.swap p a l)
    · exact .refl _

theorem insP_ord {p : Pt} : ∀ {l : List Pt}, Ord l → Ord (insP p l)
  | [], _ => by simp [Ord, insP]
  | a :: l, h => by
    unfold Ord at h ⊢
    rw [List.pairwise_cons] at h
    unfold insP
    split
    · rename_i hl
      rw [List.pairwise_cons]
      refine ⟨fun x hx => ?_, insP_ord h.2⟩
      rcases List.mem_cons.1 ((insP_perm p l).mem_iff.1 hx) with rfl | hx
      · unfold Less at *; omega
      · exact h.1 x hx
    · rename_i hl
      rw [List.pairwise_cons, List.pairwise_cons]
      refine ⟨fun x hx => ?_, h⟩
      rcases List.mem_cons.1 hx with rfl | hx
      · exact hl
      · have := h.1 x hx
        unfold Less at *; omega

theorem isort_go : ∀ (l out : List Pt), Ord out → Ord (l.foldl (fun out p => insP p out) out) ∧ (l.foldl (fun out p => insP p out) out).Perm (l ++ out)
  | [], out, h => ⟨h, .refl _⟩
  | p :: l, out, h => by
    obtain ⟨h1, h2⟩ := isort_go l (insP p out) (insP_ord h)
    refine ⟨h1, h2.trans ?_⟩
    exact ((insP_perm p out).append_left l).trans List.perm_middle

theorem isort_ord (l : List Pt) : Ord (isort l) := (isort_go l [] .nil).1
theorem isort_perm (l : List Pt) : (isort l).Perm l := by have := (isort_go l [] .nil).2; rw [List.append_nil] at this; exact this
theorem isort_len (l : List Pt) : (isort l).length = l.length := (isort_perm l).length_eq
theorem isort_mem {l : List Pt} {p : Pt} : p ∈ isort l ↔ p ∈ l := (isort_perm l).mem_iff

theorem isort_nodup {l : List Pt} (h : l.Nodup) : (isort l).Nodup := (isort_perm l).nodup_iff.2 h

/-- different ones in order rise -/
theorem rise_of : ∀ {l : List Pt}, Ord l → l.Nodup → Rise l
  | [], _, _ => trivial
  | [a], _, _ => trivial
  | a :: b :: l, h, hn => by
    unfold Ord at h
    rw [List.pairwise_cons] at h
    rw [List.nodup_cons] at hn
    refine ⟨?_, rise_of (l := b :: l) h.2 hn.2⟩
    by_cases hl : Less a b
    · exact hl
    · have := not_less_eq hl (h.1 b List.mem_cons_self)
      exact absurd (this ▸ List.mem_cons_self) hn.1

theorem rise_ord : ∀ {l : List Pt}, Rise l → l.Pairwise Less
  | [], _ => .nil
  | [a], _ => by simp
  | a :: b :: l, h => by
    have ih := rise_ord (l := b :: l) h.2
    rw [List.pairwise_cons]
    refine ⟨fun x hx => ?_, ih⟩
    rcases List.mem_cons.1 hx with rfl | hx
    · exact h.1
    · rw [List.pairwise_cons] at ih
      exact h.1.trans (ih.1 x hx)

end Go.AM

namespace Go.AM
set_option linter.unusedVariables false

def sideL (l : List Pt) : List Pt := (stack l).reverse
def bandL (l : List Pt) : List Pt := if l.length = 1 then l else (sideL l).dropLast ++ (sideL l.reverse).dropLast

theorem edges_get {f : Pt → Pt → Prop} : ∀ {s : List Pt}, Edges f s → ∀ (i : Nat) (a b : Pt), s[i]? = some b → s[i + 1]? = some a → f a b
  | [], _, i, a, b, h, _ => by simp at h
  | [x], _, i, a, b, _, h => by simp at h
  | x :: y :: s, h, 0, a, b, h1, h2 => by simp at h1 h2; subst h1; subst h2; exact h.1
  | x :: y :: s, h, i + 1, a, b, h1, h2 => by
    simp only [List.getElem?_cons_succ] at h1 h2
    exact edges_get (s := y :: s) h.2 i a b h1 h2

theorem trips_get : ∀ {s : List Pt}, Trips s → ∀ (i : Nat) (a b c : Pt), s[i]? = some c → s[i + 1]? = some b → s[i + 2]? = some a → 0 < turn a b c
  | [], _, i, a, b, c, h, _, _ => by simp at h
  | [x], _, i, a, b, c, _, h, _ => by simp at h
  | [x, y], _, i, a, b, c, _, _, h => by simp at h
  | x :: y :: z :: s, h, 0, a, b, c, h1, h2, h3 => by simp at h1 h2 h3; subst h1; subst h2; subst h3; exact h.1
  | x :: y :: z :: s, h, i + 1, a, b, c, h1, h2, h3 => by
    simp only [List.getElem?_cons_succ] at h1 h2 h3
    exact trips_get (s := y :: z :: s) h.2 i a b c h1 h2 h3

theorem edges_rev {f : Pt → Pt → Prop} {s : List Pt} (h : Edges f s) {i : Nat} {a b : Pt} (ha : s.reverse[i]? = some a) (hb : s.reverse[i + 1]? = some b) : f a b := by
  have hl : i + 1 < s.length := by
    have := (List.getElem?_eq_some_iff.1 hb).1
    simpa using this
  rw [List.getElem?_reverse (by omega)] at ha hb
  exact edges_get h (s.length - 1 - (i + 1)) a b hb (by rw [show s.length - 1 - (i + 1) + 1 = s.length - 1 - i by omega]; exact ha)

theorem trips_rev {s : List Pt} (h : Trips s) {i : Nat} {a b c : Pt} (ha : s.reverse[i]? = some a) (hb : s.reverse[i + 1]? = some b) (hc : s.reverse[i + 2]? = some c) : 0 < turn a b c := by
  have hl : i + 2 < s.length := by
    have := (List.getElem?_eq_some_iff.1 hc).1
    simpa using this
  rw [List.getElem?_reverse (by omega)] at ha hb hc
  exact trips_get h (s.length - 1 - (i + 2)) a b c hc (by rw [show s.length - 1 - (i + 2) + 1 = s.length - 1 - (i + 1) by omega]; exact hb) (by rw [show s.length - 1 - (i + 2) + 2 = s.length - 1 - i by omega]; exact ha)

theorem stk_ngt (p : Pt) : ∀ s : List Pt, stk (s.map ngt) (ngt p) = (stk s p).map ngt
  | [] => rfl
  | [a] => rfl
  | b :: a :: r => by
    have ih := stk_ngt p (a :: r)
    simp only [List.map_cons] at ih ⊢
    rw [stk, stk, turn_ngt]
    split
    · exact ih
    · simp
theorem fold_ngt : ∀ (l s : List Pt), (l.map ngt).foldl stk (s.map ngt) = (l.foldl stk s).map ngt
  | [], s => rfl
  | p :: l, s => by simp only [List.map_cons, List.foldl_cons]; rw [stk_ngt, fold_ngt]
theorem stack_ngt (l : List Pt) : stack (l.map ngt) = (stack l).map ngt := fold_ngt l []

theorem ngt_ngt (p : Pt) : ngt (ngt p) = p := by unfold ngt; simp
theorem less_ngt {a b : Pt} : Less (ngt a) (ngt b) ↔ Less b a := by unfold Less ngt; simp only; omega

theorem rise_rev : ∀ {l : List Pt}, Rise l → Rise (l.reverse.map ngt) := by
  intro l h
  have h1 := rise_ord h
  have h2 : (l.reverse.map ngt).Pairwise Less := by
    rw [List.pairwise_map, List.pairwise_reverse]
    exact h1.imp fun h => less_ngt.2 h
  have : ∀ {m : List Pt}, m.Pairwise Less → Rise m := by
    intro m
    induction m with
    | nil => intro _; trivial
    | cons a m ih =>
      intro hp
      rw [List.pairwise_cons] at hp
      cases m with
      | nil => trivial
      | cons b m => exact ⟨hp.1 b List.mem_cons_self, ih hp.2⟩
  exact this h2

/-- one side of a band, told from its first corner -/
structure Side (o : Pt → Pt → Prop) (Q A : List Pt) : Prop where
  ord : ∀ (i : Nat) a b, A[i]? = some a → A[i + 1]? = some b → o a b
  cov : ∀ (i : Nat) a b, A[i]? = some a → A[i + 1]? = some b → ∀ q ∈ Q, 0 ≤ turn a b q
  cvx : ∀ (i : Nat) a b c, A[i]? = some a → A[i + 1]? = some b → A[i + 2]? = some c → 0 < turn a b c
  sub : ∀ x ∈ A, x ∈ Q

theorem side_up {l : List Pt} (hl : l ≠ []) (hr : Rise l) : Side Less l (sideL l) := by
  have h := stack_ci hl hr
  refine ⟨fun i a b ha hb => edges_rev h.ord ha hb, fun i a b ha hb q hq => ?_, fun i a b c ha hb hc => trips_rev h.cvx ha hb hc, fun x hx => ?_⟩
  · exact edges_rev (f := fun a b => 0 ≤ turn a b q) (h.cov q (by simpa using hq)) ha hb
  · have := h.sub x (by simpa [sideL] using hx)
    simpa using this

theorem side_down {l : List Pt} (hl : l ≠ []) (hr : Rise l) : Side (fun a b => Less b a) l (sideL l.reverse) := by
  have h := side_up (l := l.reverse.map ngt) (by simpa using hl) (rise_rev hr)
  have e : sideL (l.reverse.map ngt) = (sideL l.reverse).map ngt := by unfold sideL; rw [stack_ngt, List.map_reverse]
  rw [e] at h
  have g : ∀ {i : Nat} {a : Pt}, (sideL l.reverse)[i]? = some a → ((sideL l.reverse).map ngt)[i]? = some (ngt a) := fun h => by rw [List.getElem?_map, h]; rfl
  refine ⟨fun i a b ha hb => less_ngt.1 (h.ord i _ _ (g ha) (g hb)), fun i a b ha hb q hq => ?_, fun i a b c ha hb hc => ?_, fun x hx => ?_⟩
  · have := h.cov i _ _ (g ha) (g hb) (ngt q) (List.mem_map.2 ⟨q, by simpa using hq, rfl⟩)
    rwa [turn_ngt] at this
  · have := h.cvx i _ _ _ (g ha) (g hb) (g hc)
    rwa [turn_ngt] at this
  · obtain ⟨y, hy, e⟩ := List.mem_map.1 (h.sub (ngt x) (List.mem_map.2 ⟨x, hx, rfl⟩))
    have : y = x := by rw [← ngt_ngt y, e, ngt_ngt]
    subst this
    simpa using hy

theorem side_ends {l : List Pt} (hl : 2 ≤ l.length) : 2 ≤ (sideL l).length ∧ (sideL l)[0]? = l[0]? ∧ (sideL l).getLast? = l.getLast? := by
  match l, hl with
  | a :: b :: l, _ =>
    have e : stack (a :: b :: l) = (b :: l).foldl stk [a] := rfl
    refine ⟨?_, ?_, ?_⟩
    · unfold sideL; rw [List.length_reverse, e]; exact fold_two (b :: l) a [] (by simp)
    · have h1 := fold_last (b :: l) a []
      unfold sideL
      rw [← List.head?_eq_getElem?, List.head?_reverse, e, h1]
      rfl
    · obtain ⟨r, h1⟩ := fold_head (b :: l) a []
      unfold sideL
      rw [List.getLast?_reverse, e, h1]
      simp [List.getLast?_eq_getLast]
end Go.AM

namespace Go.AM
set_option linter.unusedVariables false

/-- two ways ahead along one line see the same side -/
theorem par0 {d1 d2 e : Pt} (h1 : Pos d1) (h2 : Pos d2) (hz : cross d1 d2 = 0) (h : 0 ≤ cross d1 e) : 0 ≤ cross d2 e := by
  obtain ⟨e1, e2⟩ := three_way d1 d2 e
  rw [hz, cross_anti d1 e] at e1 e2
  have x1 : cross d2 e * d1.x = cross d1 e * d2.x := by grind
  have x2 : cross d2 e * d1.y = cross d1 e * d2.y := by grind
  rcases Int.lt_or_le (cross d2 e) 0 with hc | hc
  · exfalso
    have a1 : 0 ≤ d1.x := by unfold Pos at h1; omega
    have a2 : 0 ≤ d2.x := by unfold Pos at h2; omega
    have m2 := Int.mul_nonneg h a2
    have hx1 : d1.x = 0 := by
      rcases Int.lt_or_le 0 d1.x with h3 | h3
      · have := Int.mul_neg_of_neg_of_pos hc h3; omega
      · omega
    have y1 : 0 < d1.y := by unfold Pos at h1; omega
    have c : cross d1 d2 = -(d1.y * d2.x) := by unfold cross; rw [hx1]; grind
    have hx2 : d2.x = 0 := by
      rcases Int.lt_or_le 0 d2.x with h3 | h3
      · have := Int.mul_pos y1 h3; omega
      · omega
    have y2 : 0 < d2.y := by unfold Pos at h2; omega
    have m3 := Int.mul_neg_of_neg_of_pos hc y1
    have m4 := Int.mul_nonneg h (Int.le_of_lt y2)
    omega
  · exact hc

theorem col0 {d x z : Pt} (h : Pos d) (h1 : cross d x = 0) (h2 : cross d z = 0) : cross x z = 0 := by
  obtain ⟨e1, e2⟩ := three_way d x z
  rw [h1, cross_anti d z, h2] at e1 e2
  have e1' : cross x z * d.x = 0 := by omega
  have e2' : cross x z * d.y = 0 := by omega
  unfold Pos at h
  rcases Int.mul_eq_zero.1 e1' with e1 | e1
  · exact e1
  · rcases Int.mul_eq_zero.1 e2' with e2 | e2
    · exact e2
    · omega

theorem cross_neg2 (u v : Pt) : cross u (ngt v) = - cross u v := by unfold cross ngt; grind

/-- a corner that turns to the left lies between no two of the pegs to the left of both its lines -/
theorem mid_corner {X M Z U V : Pt} (hU : Less U M) (hV : Less M V) (hz : turn U M V = 0) (hc : 0 < turn X M Z) (u1 : 0 ≤ turn X M U) (v1 : 0 ≤ turn X M V) (u2 : 0 ≤ turn M Z U) (v2 : 0 ≤ turn M Z V) : False := by
  have p1 := less_pos.1 hU
  have p2 := less_pos.1 hV
  have e0 : cross (df U M) (df M V) = 0 := by rw [← hz]; unfold turn cross df; grind
  have e0' : cross (df M V) (df U M) = 0 := by rw [cross_anti, e0]; rfl
  have f1 : turn X M U = - cross (df X M) (df U M) := by unfold turn cross df; grind
  have f2 : turn X M V = cross (df X M) (df M V) := by unfold turn cross df; grind
  have f3 : turn M Z U = - cross (df M Z) (df U M) := by unfold turn cross df; grind
  have f4 : turn M Z V = cross (df M Z) (df M V) := by unfold turn cross df; grind
  have f5 : turn X M Z = cross (df X M) (df M Z) := by unfold turn cross df; grind
  -- both zero
  have g : ∀ x : Pt, 0 ≤ cross x (df M V) → cross x (df U M) ≤ 0 → cross (df M V) x = 0 := fun x h1 h2 => by
    have a : 0 ≤ cross (df U M) x := by rw [cross_anti]; omega
    have b := par0 p1 p2 e0 a
    rw [cross_anti] at h1
    omega
  have z1 := g (df X M) (by omega) (by omega)
  have z2 := g (df M Z) (by omega) (by omega)
  have := col0 p2 z1 z2
  omega

structure Hull (n : Int) (P : Int → Pt) (Q : List Pt) : Prop where
  n3 : 3 ≤ n
  per : ∀ i, P (i + n) = P i
  left : ∀ i, 0 < turn (P i) (P (i + 1)) (P (i + 2))
  cov : ∀ i, ∀ q ∈ Q, 0 ≤ turn (P i) (P (i + 1)) q
  sub : ∀ i, P i ∈ Q
  inj : ∀ i j, 0 ≤ i → i < j → j < n → P i ≠ P j

section
variable {n : Int} {P : Int → Pt} {Q : List Pt}

theorem Hull.between (h : Hull n P Q) {t : Int} {U V : Pt} (hU : U ∈ Q) (hV : V ∈ Q) (h1 : Less U (P t)) (h2 : Less (P t) V) (hz : turn U (P t) V = 0) : False := by
  have l := h.left (t - 1)
  have c1 := h.cov (t - 1)
  have c2 := h.cov t
  rw [show t - 1 + 1 = t by omega, show t - 1 + 2 = t + 1 by omega] at l
  rw [show t - 1 + 1 = t by omega] at c1
  exact mid_corner h1 h2 hz l (c1 U hU) (c1 V hV) (c2 U hU) (c2 V hV)

theorem turn_p1 (a b c : Pt) : turn b c a = turn a b c := by unfold turn; grind
theorem turn_p2 (a b c : Pt) : turn b a c = - turn a b c := by unfold turn; grind
theorem turn_p3 (a b c : Pt) : turn a c b = - turn a b c := by unfold turn; grind

/-- of three different ones on a line one is between the others -/
theorem Hull.strict (h : Hull n P Q) {i j : Int} (h1 : P j ≠ P i) (h2 : P j ≠ P (i + 1)) : 0 < turn (P i) (P (i + 1)) (P j) := by
  have h0 := h.cov i (P j) (h.sub j)
  rcases Int.lt_or_le 0 (turn (P i) (P (i + 1)) (P j)) with hp | hp
  · exact hp
  · exfalso
    have hz : turn (P i) (P (i + 1)) (P j) = 0 := by omega
    have hne : P i ≠ P (i + 1) := fun e => by
      have := h.left i
      rw [← e] at this
      unfold turn at this
      simp at this
    have tri : ∀ {a b : Pt}, a ≠ b → Less a b ∨ Less b a := fun {a b} hab => by
      by_cases l1 : Less a b
      · exact .inl l1
      · by_cases l2 : Less b a
        · exact .inr l2
        · exact absurd (not_less_eq l1 l2) hab
    have A := h.sub i
    have B := h.sub (i + 1)
    have C := h.sub j
    have z2 := turn_p1 (P i) (P (i + 1)) (P j)
    have z3 := turn_p2 (P i) (P (i + 1)) (P j)
    have z4 := turn_p3 (P i) (P (i + 1)) (P j)
    have z5 := turn_p1 (P (i + 1)) (P j) (P i)
    have z6 := turn_p2 (P j) (P (i + 1)) (P i)
    have z7 := turn_p1 (P i) (P j) (P (i + 1))
    have z8 := turn_p2 (P j) (P i) (P (i + 1))
    have z9 := turn_p2 (P (i + 1)) (P j) (P i)
    rcases tri hne with ab | ba <;> rcases tri h1 with ca | ac <;> rcases tri h2 with cb | bc
    · exact h.between C B ca ab (by omega)
    · exact absurd ((bc.trans ca).trans ab) (Less.irrefl _)
    · exact h.between A B ac cb (by omega)
    · exact h.between A C ab bc (by omega)
    · exact h.between C A cb ba (by omega)
    · exact h.between B A bc ca (by omega)
    · exact absurd ((ac.trans cb).trans ba) (Less.irrefl _)
    · exact h.between B C ba ac (by omega)

theorem Hull.mod (h : Hull n P Q) (i : Int) : P (i % n) = P i := by
  have up : ∀ (k : Nat) (x : Int), P (x + k * n) = P x := by
    intro k
    induction k with
    | zero => intro x; simp
    | succ k ih => intro x; rw [show x + ((k + 1 : Nat) : Int) * n = (x + k * n) + n by rw [Int.natCast_add, Int.add_mul]; simp; omega, h.per, ih]
  have n3 := h.n3
  rcases Int.le_total 0 (i / n) with hq | hq
  · have := up (i / n).toNat (i % n)
    rw [Int.toNat_of_nonneg hq, Int.mul_comm, Int.emod_add_mul_ediv] at this
    exact this.symm
  · have := up (-(i / n)).toNat i
    rw [Int.toNat_of_nonneg (by omega), Int.neg_mul, Int.mul_comm] at this
    rw [← this]; congr 1
    have := Int.emod_add_mul_ediv i n
    omega

theorem Hull.ne (h : Hull n P Q) {i j : Int} (h1 : i < j) (h2 : j < i + n) : P i ≠ P j := fun e => by
  have n3 := h.n3
  have a := Int.emod_nonneg i (b := n) (by omega)
  have b := Int.emod_lt_of_pos i (b := n) (by omega)
  have c := Int.emod_nonneg j (b := n) (by omega)
  have d := Int.emod_lt_of_pos j (b := n) (by omega)
  have ne : i % n ≠ j % n := fun e1 => by
    have := Int.emod_emod_of_dvd (j - i) (Int.dvd_refl n)
    have h3 : (j - i) % n = 0 := by rw [Int.sub_emod, e1]; simp
    have h4 : (j - i) % n = j - i := Int.emod_eq_of_lt (by omega) (by omega)
    omega
  rw [← h.mod i, ← h.mod j] at e
  rcases Int.lt_or_le (i % n) (j % n) with h3 | h3
  · exact h.inj _ _ a h3 d e
  · exact h.inj _ _ c (by omega) b e.symm

theorem Hull.conv (h : Hull n P Q) {i j : Int} (h1 : i + 2 ≤ j) (h2 : j ≤ i + n - 1) : 0 < turn (P i) (P (i + 1)) (P j) :=
  h.strict (fun e => h.ne (i := i) (j := j) (by omega) (by omega) e.symm) (fun e => h.ne (i := i + 1) (j := j) (by omega) (by omega) e.symm)
end
end Go.AM

namespace Go.AM
set_option linter.unusedVariables false

section
variable {l A B : List Pt} {k m : Nat}

/-- the two sides told as one -/
theorem band_get (hA : A.length = k + 1) (hB : B.length = m + 1) (hm : 0 < m) (hk : 0 < k) (e1 : A.getLast? = B[0]?) (e2 : B.getLast? = A[0]?) :
    (A.dropLast ++ B.dropLast).length = k + m ∧ (∀ i : Nat, i ≤ k → A[i]? = some (pt (A.dropLast ++ B.dropLast) i)) ∧ (∀ j : Nat, j ≤ m → B[j]? = some (pt (A.dropLast ++ B.dropLast) ((k + j : Nat) : Int))) := by
  have hl : (A.dropLast ++ B.dropLast).length = k + m := by simp; omega
  have g : ∀ i : Nat, i < k + m → (A.dropLast ++ B.dropLast)[i]? = some (pt (A.dropLast ++ B.dropLast) i) := fun i hi => by
    unfold pt
    rw [hl, Int.emod_eq_of_lt (by omega) (by omega), Int.toNat_natCast, List.getD_eq_getElem?_getD, List.getElem?_eq_getElem (by omega)]
    simp
  have gA : ∀ i : Nat, i < k → A[i]? = some (pt (A.dropLast ++ B.dropLast) i) := fun i hi => by
    rw [← g i (by omega), List.getElem?_append_left (by simp; omega), List.getElem?_dropLast, if_pos (by omega)]
  have gB : ∀ j : Nat, j < m → B[j]? = some (pt (A.dropLast ++ B.dropLast) ((k + j : Nat) : Int)) := fun j hj => by
    rw [← g (k + j) (by omega), List.getElem?_append_right (by simp; omega), List.getElem?_dropLast, List.length_dropLast, hA, show k + j - (k + 1 - 1) = j by omega, if_pos (by omega)]
  refine ⟨hl, fun i hi => ?_, fun j hj => ?_⟩
  · rcases Nat.lt_or_ge i k with h | h
    · exact gA i h
    · obtain rfl : i = k := by omega
      rw [List.getLast?_eq_getElem?, hA, show i + 1 - 1 = i by omega] at e1
      rw [e1, gB 0 hm, Nat.add_zero]
  · rcases Nat.lt_or_ge j m with h | h
    · exact gB j h
    · obtain rfl : j = m := by omega
      rw [List.getLast?_eq_getElem?, hB, show j + 1 - 1 = j by omega] at e2
      rw [e2, gA 0 hk]
      congr 1
      unfold pt
      rw [hl]
      congr 2
      simp

theorem turn_three (Z a b c : Pt) : turn a b c = cross (df Z b) (df Z c) - cross (df Z b) (df Z a) - cross (df Z a) (df Z c) := by unfold turn cross df; grind
/-- all on one line through Z -/
theorem all_col {Q : List Pt} {Z d : Pt} (hd : Pos d) (h : ∀ q ∈ Q, cross d (df Z q) = 0) {a b c : Pt} (ha : a ∈ Q) (hb : b ∈ Q) (hc : c ∈ Q) : turn a b c = 0 := by
  rw [turn_three Z, col0 hd (h b hb) (h c hc), col0 hd (h b hb) (h a ha), col0 hd (h a ha) (h c hc)]
  rfl

structure Sides (l A B : List Pt) (k m : Nat) : Prop where
  up : Side Less l A
  dn : Side (fun a b => Less b a) l B
  lA : A.length = k + 1
  lB : B.length = m + 1
  k0 : 0 < k
  m0 : 0 < m
  e1 : A.getLast? = B[0]?
  e2 : B.getLast? = A[0]?

theorem sides_of_rise {l : List Pt} (hl : 2 ≤ l.length) (hr : Rise l) : ∃ k m, Sides l (sideL l) (sideL l.reverse) k m := by
  have hn : l ≠ [] := by intro h; subst h; simp at hl
  obtain ⟨a1, a2, a3⟩ := side_ends hl
  obtain ⟨b1, b2, b3⟩ := side_ends (l := l.reverse) (by simpa using hl)
  refine ⟨(sideL l).length - 1, (sideL l.reverse).length - 1, side_up hn hr, side_down hn hr, by omega, by omega, by omega, by omega, ?_, ?_⟩
  · rw [a3, b2, ← List.head?_eq_getElem?, List.head?_reverse]
  · rw [b3, a2, ← List.head?_eq_getElem?, List.getLast?_reverse]

namespace Sides
variable (h : Sides l A B k m)
include h

def bd (_ : Sides l A B k m) : List Pt := A.dropLast ++ B.dropLast
omit h in
theorem len (h : Sides l A B k m) : (A.dropLast ++ B.dropLast).length = k + m := (band_get h.lA h.lB h.m0 h.k0 h.e1 h.e2).1
theorem gA (i : Nat) (hi : i ≤ k) : A[i]? = some (pt (A.dropLast ++ B.dropLast) i) := (band_get h.lA h.lB h.m0 h.k0 h.e1 h.e2).2.1 i hi
theorem gB (j : Nat) (hj : j ≤ m) : B[j]? = some (pt (A.dropLast ++ B.dropLast) ((k + j : Nat) : Int)) := (band_get h.lA h.lB h.m0 h.k0 h.e1 h.e2).2.2 j hj

theorem ptmod (i : Int) : pt (A.dropLast ++ B.dropLast) (i % ((k + m : Nat) : Int)) = pt (A.dropLast ++ B.dropLast) i := by
  unfold pt; rw [h.len, Int.emod_emod_of_dvd _ (Int.dvd_refl _)]

/-- each line is one of a side's -/
theorem edge (i : Nat) (hi : i < k + m) : (i < k ∧ A[i]? = some (pt (A.dropLast ++ B.dropLast) i) ∧ A[i + 1]? = some (pt (A.dropLast ++ B.dropLast) ((i + 1 : Nat) : Int))) ∨
    (k ≤ i ∧ B[i - k]? = some (pt (A.dropLast ++ B.dropLast) i) ∧ B[i - k + 1]? = some (pt (A.dropLast ++ B.dropLast) ((i + 1 : Nat) : Int))) := by
  rcases Nat.lt_or_ge i k with h1 | h1
  · exact .inl ⟨h1, h.gA i (by omega), h.gA (i + 1) (by omega)⟩
  · refine .inr ⟨h1, ?_, ?_⟩
    · have := h.gB (i - k) (by omega); rwa [show k + (i - k) = i by omega] at this
    · have := h.gB (i - k + 1) (by omega); rwa [show k + (i - k + 1) = i + 1 by omega] at this

theorem nat_of (f : Int → Prop) (hf : ∀ i : Nat, i < k + m → f i) (hp : ∀ i : Int, f (i % ((k + m : Nat) : Int)) → f i) (i : Int) : f i := by
  have hk := h.k0
  have a := Int.emod_nonneg i (b := ((k + m : Nat) : Int)) (by omega)
  have b := Int.emod_lt_of_pos i (b := ((k + m : Nat) : Int)) (by omega)
  have := hf (i % ((k + m : Nat) : Int)).toNat (by omega)
  rw [Int.toNat_of_nonneg a] at this
  exact hp i this

theorem ptmod1 (i c : Int) : pt (A.dropLast ++ B.dropLast) (i % ((k + m : Nat) : Int) + c) = pt (A.dropLast ++ B.dropLast) (i + c) := by
  rw [← h.ptmod, ← h.ptmod (i + c), Int.add_emod (i % _) c, Int.emod_emod_of_dvd _ (Int.dvd_refl _), ← Int.add_emod]

theorem cov (i : Int) : ∀ q ∈ l, 0 ≤ turn (pt (A.dropLast ++ B.dropLast) i) (pt (A.dropLast ++ B.dropLast) (i + 1)) q := by
  refine h.nat_of (fun i => ∀ q ∈ l, 0 ≤ turn (pt (A.dropLast ++ B.dropLast) i) (pt (A.dropLast ++ B.dropLast) (i + 1)) q) (fun i hi q hq => ?_) (fun i hi => ?_) i
  · rcases h.edge i hi with ⟨_, h2, h3⟩ | ⟨_, h2, h3⟩
    · exact h.up.cov _ _ _ h2 h3 q hq
    · exact h.dn.cov _ _ _ h2 h3 q hq
  · rw [h.ptmod1 i 1, h.ptmod] at hi; exact hi

theorem sub (i : Int) : pt (A.dropLast ++ B.dropLast) i ∈ l := by
  refine h.nat_of (fun i => pt (A.dropLast ++ B.dropLast) i ∈ l) (fun i hi => ?_) (fun i hi => by rwa [h.ptmod] at hi) i
  rcases h.edge i hi with ⟨_, h2, _⟩ | ⟨_, h2, _⟩
  · exact h.up.sub _ (List.mem_of_getElem? h2)
  · exact h.dn.sub _ (List.mem_of_getElem? h2)

/-- the pegs do not all lie on one line if there are three corners -/
theorem not_col (h3 : 3 ≤ k + m) {Z d : Pt} (hd : Pos d) (hc : ∀ q ∈ l, cross d (df Z q) = 0) : False := by
  rcases Nat.lt_or_ge k 2 with hk | hk
  · have hm : 2 ≤ m := by omega
    have c := h.dn.cvx 0 _ _ _ (h.gB 0 (by omega)) (h.gB 1 (by omega)) (h.gB 2 (by omega))
    rw [all_col hd hc (h.sub _) (h.sub _) (h.sub _)] at c
    omega
  · have c := h.up.cvx 0 _ _ _ (h.gA 0 (by omega)) (h.gA 1 (by omega)) (h.gA 2 (by omega))
    rw [all_col hd hc (h.sub _) (h.sub _) (h.sub _)] at c
    omega

theorem joint {U Z V : Pt} (h3 : 3 ≤ k + m) (c1 : ∀ q ∈ l, 0 ≤ turn U Z q) (c2 : ∀ q ∈ l, 0 ≤ turn Z V q) (hV : V ∈ l) (o : (Less U Z ∧ Less V Z) ∨ (Less Z U ∧ Less Z V)) : 0 < turn U Z V := by
  have h0 := c1 V hV
  rcases Int.lt_or_le 0 (turn U Z V) with hp | hp
  · exact hp
  · exfalso
    have hz : turn U Z V = 0 := by omega
    rcases o with ⟨o1, o2⟩ | ⟨o1, o2⟩
    · -- ways from both to Z
      have p1 := less_pos.1 o1
      have p2 := less_pos.1 o2
      have e0 : cross (df U Z) (df V Z) = 0 := by have : turn U Z V = - cross (df U Z) (df V Z) := by unfold turn cross df; grind
                                                  omega
      have e0' : cross (df V Z) (df U Z) = 0 := by rw [cross_anti, e0]; rfl
      refine h.not_col h3 (Z := Z) p1 fun q hq => ?_
      have f1 : turn U Z q = cross (df U Z) (df Z q) := by unfold turn cross df; grind
      have f2 : turn Z V q = - cross (df V Z) (df Z q) := by unfold turn cross df; grind
      have a1 := c1 q hq
      have a2 := c2 q hq
      have b1 := par0 p1 p2 e0 (show 0 ≤ cross (df U Z) (df Z q) by omega)
      have b2 : 0 ≤ cross (df V Z) (ngt (df Z q)) := by rw [cross_neg2]; omega
      have b3 := par0 p2 p1 e0' b2
      rw [cross_neg2] at b3
      omega
    · have p1 := less_pos.1 o1
      have p2 := less_pos.1 o2
      have e0 : cross (df Z U) (df Z V) = 0 := by have : turn U Z V = - cross (df Z U) (df Z V) := by unfold turn cross df; grind
                                                  omega
      have e0' : cross (df Z V) (df Z U) = 0 := by rw [cross_anti, e0]; rfl
      refine h.not_col h3 (Z := Z) p1 fun q hq => ?_
      have f1 : turn U Z q = - cross (df Z U) (df Z q) := by unfold turn cross df; grind
      have f2 : turn Z V q = cross (df Z V) (df Z q) := by unfold turn cross df; grind
      have a1 := c1 q hq
      have a2 := c2 q hq
      have b2 : 0 ≤ cross (df Z U) (ngt (df Z q)) := by rw [cross_neg2]; omega
      have b3 := par0 p2 p1 e0' (show 0 ≤ cross (df Z V) (df Z q) by omega)
      omega

theorem left (h3 : 3 ≤ k + m) (i : Int) : 0 < turn (pt (A.dropLast ++ B.dropLast) i) (pt (A.dropLast ++ B.dropLast) (i + 1)) (pt (A.dropLast ++ B.dropLast) (i + 2)) := by
  refine h.nat_of (fun i => 0 < turn (pt (A.dropLast ++ B.dropLast) i) (pt (A.dropLast ++ B.dropLast) (i + 1)) (pt (A.dropLast ++ B.dropLast) (i + 2))) (fun i hi => ?_) (fun i hi => ?_) i
  · have k0 := h.k0
    have m0 := h.m0
    have cv := h.cov
    rcases Nat.lt_or_ge (i + 1) k with h1 | h1
    · exact h.up.cvx i _ _ _ (h.gA i (by omega)) (h.gA (i + 1) (by omega)) (h.gA (i + 2) (by omega))
    · rcases Nat.lt_or_ge i k with h2 | h2
      · -- the last line up, the first one down
        have c1 := cv i
        have c2 := cv (i + 1)
        rw [show (i : Int) + 1 + 1 = i + 2 by omega] at c2
        refine h.joint h3 c1 c2 (h.sub _) (.inl ⟨?_, ?_⟩)
        · exact h.up.ord i _ _ (h.gA i (by omega)) (h.gA (i + 1) (by omega))
        · have q1 := h.gB 0 (by omega)
          have q2 := h.gB 1 (by omega)
          have := h.dn.ord 0 _ _ q1 q2
          rw [show ((k + 0 : Nat) : Int) = i + 1 by omega, show ((k + 1 : Nat) : Int) = i + 2 by omega] at this
          exact this
      · rcases Nat.lt_or_ge (i + 1) (k + m) with h4 | h4
        · have q0 := h.gB (i - k) (by omega)
          have q1 := h.gB (i - k + 1) (by omega)
          have q2 := h.gB (i - k + 2) (by omega)
          have := h.dn.cvx (i - k) _ _ _ q0 q1 q2
          rw [show ((k + (i - k) : Nat) : Int) = i by omega, show ((k + (i - k + 1) : Nat) : Int) = i + 1 by omega, show ((k + (i - k + 2) : Nat) : Int) = i + 2 by omega] at this
          exact this
        · have c1 := cv i
          have c2 := cv (i + 1)
          rw [show (i : Int) + 1 + 1 = i + 2 by omega] at c2
          have e1 : pt (A.dropLast ++ B.dropLast) ((i : Int) + 1) = pt (A.dropLast ++ B.dropLast) 0 := by
            rw [← h.ptmod, show (i : Int) + 1 = ((k + m : Nat) : Int) by omega]; simp
          have e2 : pt (A.dropLast ++ B.dropLast) ((i : Int) + 2) = pt (A.dropLast ++ B.dropLast) 1 := by
            rw [← h.ptmod, show (i : Int) + 2 = 1 + ((k + m : Nat) : Int) by omega, Int.add_emod_right, h.ptmod]
          refine h.joint h3 c1 c2 (h.sub _) (.inr ⟨?_, ?_⟩)
          · have := h.dn.ord (m - 1) _ _ (h.gB (m - 1) (by omega)) (h.gB (m - 1 + 1) (by omega))
            rw [show ((k + (m - 1) : Nat) : Int) = i by omega, show ((k + (m - 1 + 1) : Nat) : Int) = i + 1 by omega] at this
            exact this
          · rw [e1, e2]
            exact h.up.ord 0 _ _ (h.gA 0 (by omega)) (h.gA 1 (by omega))
  · rw [h.ptmod1 i 1, h.ptmod1 i 2, h.ptmod] at hi; exact hi
end Sides
end
end Go.AM

namespace Go.AM
set_option linter.unusedVariables false

namespace Sides
section
variable {l A B : List Pt} {k m : Nat} (h : Sides l A B k m)
include h

end
end Sides

theorem band_mem {l : List Pt} (hr : Rise l) (hn : l ≠ []) : bandL l ≠ [] ∧ ∀ x ∈ bandL l, x ∈ l := by
  have hpos := List.length_pos_iff.2 hn
  rcases Nat.lt_or_ge l.length 2 with h1 | h1
  · have e : bandL l = l := by unfold bandL; rw [if_pos (by omega)]
    rw [e]; exact ⟨hn, fun x h => h⟩
  · obtain ⟨k, m, h⟩ := sides_of_rise h1 hr
    have e : bandL l = (sideL l).dropLast ++ (sideL l.reverse).dropLast := by unfold bandL; rw [if_neg (by omega)]
    rw [e]
    refine ⟨fun e => ?_, fun x hx => ?_⟩
    · have := h.len; rw [e] at this; have := h.k0; simp at *; omega
    · rcases List.mem_append.1 hx with hx | hx
      · exact h.up.sub x ((List.dropLast_sublist _).subset hx)
      · exact h.dn.sub x ((List.dropLast_sublist _).subset hx)
end Go.AM

namespace Go.AM
set_option linter.unusedVariables false

section
variable {n : Int} {P : Int → Pt}

end

end Go.AM

namespace Go.AM

end Go.AM

namespace Go.AM


end Go.AM

namespace Go.AM
set_option linter.unusedVariables false

structure Diff (a : List Pt) : Prop where
  lo : 1 ≤ (a.length : Int)
  hi : (a.length : Int) ≤ 30
  isIn : ∀ i, 0 ≤ i → i < (a.length : Int) → In (pt a i)
  ne : ∀ i k, 0 ≤ k → k < i → i < (a.length : Int) → pt a k ≠ pt a i

theorem Diff.nn {a : List Pt} (h : Diff a) : a ≠ [] := fun e => by have := h.lo; subst e; simp at this
theorem Diff.all {a : List Pt} (h : Diff a) (i : Int) : In (pt a i) := in_all h.isIn h.nn i
theorem Diff.nodup {a : List Pt} (h : Diff a) : a.Nodup := by
  rw [List.nodup_iff_pairwise_ne, List.pairwise_iff_getElem]
  intro i j hi hj hij e
  have := h.ne j i (by omega) (by omega) (by omega)
  refine this ?_
  have p1 := pt_get (a := a) (i := (i : Int)) (by omega) (by omega)
  have p2 := pt_get (a := a) (i := (j : Int)) (by omega) (by omega)
  rw [Int.toNat_natCast, List.getElem?_eq_getElem hi] at p1
  rw [Int.toNat_natCast, List.getElem?_eq_getElem hj] at p2
  rw [← Option.some.inj p1, ← Option.some.inj p2, e]

theorem mem_pt {a : List Pt} {p : Pt} (h : p ∈ a) : ∃ i : Int, 0 ≤ i ∧ i < a.length ∧ pt a i = p := by
  obtain ⟨n, hn, e⟩ := List.mem_iff_getElem.1 h
  have p1 := pt_get (a := a) (i := (n : Int)) (by omega) (by omega)
  rw [Int.toNat_natCast, List.getElem?_eq_getElem hn] at p1
  exact ⟨n, by omega, by omega, by rw [← Option.some.inj p1, e]⟩
theorem pt_mem {a : List Pt} (hn : a ≠ []) (i : Int) : pt a i ∈ a := by
  have hl : 0 < (a.length : Int) := by have := List.length_pos_iff.2 hn; omega
  have := pt_get (a := a) (i := i % a.length) (Int.emod_nonneg _ (by omega)) (Int.emod_lt_of_pos _ hl)
  rw [pt_mod] at this
  exact List.mem_of_getElem? this

theorem Diff.mem {a : List Pt} (h : Diff a) {p : Pt} (hp : p ∈ a) : In p := by
  obtain ⟨i, h0, h1, e⟩ := mem_pt hp
  rw [← e]; exact h.isIn i h0 h1

end Go.AM

namespace Go.AM
set_option linter.unusedVariables false

end Go.AM

namespace Go.AM
set_option linter.unusedVariables false

end Go.AM

namespace Go.AM
set_option linter.unusedVariables false

def Bd20 (n : Int) : Prop := -20 ≤ n ∧ n ≤ 20
def Bd80 (n : Int) : Prop := -80 ≤ n ∧ n ≤ 80
instance (n : Int) : Decidable (Bd20 n) := by unfold Bd20; infer_instance
instance (n : Int) : Decidable (Bd80 n) := by unfold Bd80; infer_instance
/-- a move -/
def MvG (A B C D X Y : Int) : Prop := (Bd20 A ∧ Bd20 B ∧ Bd20 C ∧ Bd20 D) ∧ (Bd80 X ∧ Bd80 Y) ∧ (A * D - B * C).natAbs = 1
instance (A B C D X Y : Int) : Decidable (MvG A B C D X Y) := by unfold MvG; infer_instance

end Go.AM

namespace Go.AM
set_option linter.unusedVariables false

theorem vwl {a : List Pt} (g : Good_ a) : (∀ i, In (pt a i)) ∧ a ≠ [] ∧ (a.length : Int) ≤ 10 ∧ 3 ≤ (a.length : Int) := by
  have lo := g.lo
  have hn : a ≠ [] := by intro e; subst e; simp at lo
  exact ⟨in_all g.isIn hn, hn, g.hi, lo⟩

theorem take_pt {S : List Pt} {i : Nat} (h : i < S.length) : S.take (i + 1) = S.take i ++ [pt S i] := by
  have hg := pt_get (a := S) (i := (i : Int)) (by omega) (by omega)
  rw [Int.toNat_natCast] at hg
  rw [List.take_add_one, hg]; rfl

theorem map_pt {a : List Pt} (H : Pt → Pt) : ((List.range a.length).map fun (j : Nat) => H (pt a j)) = a.map H := by
  refine List.ext_getElem (by simp) fun i h1 h2 => ?_
  simp only [List.getElem_map, List.getElem_range]
  have hi : i < a.length := by simpa using h1
  have e := pt_get (a := a) (i := (i : Int)) (by omega) (by omega)
  rw [Int.toNat_natCast, List.getElem?_eq_getElem hi] at e
  rw [Option.some.inj e]

end Go.AM

namespace Go.AM
set_option linter.unusedVariables false

end Go.AM

namespace Go.AM
set_option linter.unusedVariables false

theorem zPegs_l0 {L : Nat} {a : List Pt} (hs : (a.length : Int) ≤ 100000) : ∀ (m i : Nat), i ≤ a.length → a.length - i < m → laws_zPegs_l0 L a a m i = some true := by
  intro m
  induction m with
  | zero => intro i _ h; omega
  | succ m ih =>
    intro i hi hm
    rw [laws_zPegs_l0]
    by_cases h : (i : Int) < (a.length : Int)
    · have wi : wr IntKind.i64 (iadd (i : Int) 1) = ((i + 1 : Nat) : Int) := by rw [iadd_eq, wr_s (by omega)]; omega
      simp only [ilen_mapep, ilt_eq, h, decide_true, cond_true, lget_pt (show (0 : Int) ≤ i by omega) h, gbind_eq, Option.bind_some, ieq_eq, Bool.and_self, Bool.not_true, cond_false, wi]
      exact ih (i + 1) (by omega) (by omega)
    · simp only [ilen_mapep, ilt_eq, h, decide_false, cond_false]

theorem zPegs_eq {L : Nat} {a : List Pt} (hs : (a.length : Int) ≤ 100000) (hL : (a.length : Int) < L) : laws_zPegs L a a = some true := by
  unfold laws_zPegs
  simp only [ieq_eq, decide_true, Bool.not_true, cond_false]
  exact zPegs_l0 hs L 0 (by omega) (by omega)

end Go.AM

namespace Go.AM
set_option linter.unusedVariables false

theorem big_eq {L : Nat} {a b : List Int} : ∃ r, laws_big L a b = some r := by
  unfold laws_big
  by_cases h : ilt 1048576 (ilen (List.map eU a)) = true
  · rw [h]; exact ⟨_, rfl⟩
  · simp only [Bool.not_eq_true] at h
    rw [h]; exact ⟨_, rfl⟩

end Go.AM

namespace Go.AM
set_option linter.unusedVariables false

/-- a triangle -/
structure Tri (t : List Pt) : Prop where
  len : t.length = 3
  good : Good_ t

theorem tri_area {t : List Pt} (h : t.length = 3) : area t = turn (pt t 0) (pt t 1) (pt t 2) := by
  unfold area
  rw [h]
  have e : pt t 3 = pt t 0 := by rw [show (3 : Int) = 0 + (t.length : Int) by omega, pt_per]
  simp only [sm]
  have e2 : pt t ((2 : Nat) + 1) = pt t 0 := e
  rw [e2]
  show 0 + cross (pt t 0) (pt t (0 + 1)) + cross (pt t 1) (pt t (1 + 1)) + cross (pt t 2) (pt t 0) = _
  rw [show (0 : Int) + 1 = 1 by omega, show (1 : Int) + 1 = 2 by omega]
  unfold cross turn; grind

theorem tri_ne {t : List Pt} (h : Tri t) : area t ≠ 0 := by
  rw [tri_area h.len]
  have := h.good.turn 0 (by omega) (by have := h.good.lo; omega)
  simpa using this

theorem tri_turns {t : List Pt} (h : t.length = 3) (i : Int) : turn (pt t i) (pt t (i + 1)) (pt t (i + 2)) = area t := by
  rw [tri_area h]
  have h3 : i % 3 = 0 ∨ i % 3 = 1 ∨ i % 3 = 2 := by omega
  have hm : ∀ k : Int, pt t k = pt t (k % 3) := fun k => by
    have := pt_mod t k
    rw [h] at this
    exact this.symm
  rw [hm i, hm (i + 1), hm (i + 2)]
  rcases h3 with e | e | e
  · rw [e, show (i + 1) % 3 = 1 by omega, show (i + 2) % 3 = 2 by omega]
  · rw [e, show (i + 1) % 3 = 2 by omega, show (i + 2) % 3 = 0 by omega]; unfold turn; grind
  · rw [e, show (i + 1) % 3 = 0 by omega, show (i + 2) % 3 = 1 by omega]; unfold turn; grind

theorem pt3 (a b c : Pt) : pt [a, b, c] 0 = a ∧ pt [a, b, c] 1 = b ∧ pt [a, b, c] 2 = c := ⟨rfl, rfl, rfl⟩

theorem tri_good {a b c : Pt} (ha : In a) (hb : In b) (hc : In c) (ht : turn a b c ≠ 0) : Tri [a, b, c] := by
  obtain ⟨e0, e1, e2⟩ := pt3 a b c
  have hA : area [a, b, c] = turn a b c := by rw [tri_area rfl, e0, e1, e2]
  have c3 : ∀ i : Int, 0 ≤ i → i < (([a, b, c] : List Pt).length : Int) → i = 0 ∨ i = 1 ∨ i = 2 := fun i h0 h1 => by simp at h1; omega
  refine ⟨rfl, by simp, by simp, fun i h0 h1 => ?_, fun i k h0 h1 h2 => ?_, fun i h0 h1 => by rw [tri_turns rfl, hA]; exact ht, fun i k h0 h1 h2 h3 => by simp at h2 h3; omega⟩
  · rcases c3 i h0 h1 with e | e | e <;> subst e
    · rw [e0]; exact ha
    · rw [e1]; exact hb
    · rw [e2]; exact hc
  · intro he
    apply ht
    rcases c3 i (by omega) h2 with e | e | e <;> subst e
    · omega
    · obtain rfl : k = 0 := by omega
      rw [e0, e1] at he; subst he; unfold turn; grind
    · rcases (show k = 0 ∨ k = 1 by omega) with e | e <;> subst e
      · rw [e0, e2] at he; subst he; unfold turn; grind
      · rw [e1, e2] at he; subst he; unfold turn; grind

end Go.AM

namespace Go.AM
set_option linter.unusedVariables false

open Classical in
theorem threes_eq {L : Nat} {t : List Pt} (hL : 20 < L) : spec_trThree L t = some (decide (Tri t)) ∧ impl_isThree L t = some (decide (Tri t)) := by
  unfold spec_trThree impl_isThree
  simp only [ilen_mapep, ieq_eq, spec_pgGood_eq hL, impl_IsPolygon_eq hL, gbind_eq, Option.bind_some]
  by_cases h : (t.length : Int) = 3
  · have hl : t.length = 3 := by omega
    simp only [h, decide_true, cond_true]
    have : decide (Good_ t) = decide (Tri t) := by
      rw [decide_eq_decide]
      exact ⟨fun g => ⟨hl, g⟩, fun g => g.good⟩
    rw [this]; exact ⟨rfl, rfl⟩
  · have hn : ¬ Tri t := fun g => h (by have := g.len; omega)
    simp only [h, hn, decide_false, cond_false, and_self]

structure TB (t : List Pt) : Prop where
  l0 : lget t 0 = some (pt t 0)
  l1 : lget t 1 = some (pt t 1)
  l2 : lget t 2 = some (pt t 2)
  i0 : In (pt t 0)
  i1 : In (pt t 1)
  i2 : In (pt t 2)
  nn : t ≠ []
  nr : ∀ i, Nr (pt t i)
  ln : (t.length : Int) = 3

theorem Tri.tb {t : List Pt} (h : Tri t) : TB t := by
  have hl := h.len
  obtain ⟨h1, h2, _, _⟩ := vwl h.good
  exact ⟨lget_pt (by omega) (by omega), lget_pt (by omega) (by omega), lget_pt (by omega) (by omega), h1 0, h1 1, h1 2, h2, fun i => (h1 i).nr, by omega⟩

def Ml (n : Int) : Prop := -1000000 ≤ n ∧ n ≤ 1000000

end Go.AM

namespace Go.AM
set_option linter.unusedVariables false

end Go.AM

namespace Go.AM
set_option linter.unusedVariables false

theorem turn_ml {a b c : Pt} (ha : In a) (hb : In b) (hc : In c) : Ml (turn a b c) := by
  unfold In at ha hb hc
  have m1 := mul_bd (x := b.x - a.x) (y := c.y - a.y) (A := 80) (B := 80) (by omega) (by omega)
  have m2 := mul_bd (x := b.y - a.y) (y := c.x - a.x) (A := 80) (B := 80) (by omega) (by omega)
  unfold Ml turn; omega

end Go.AM

namespace Go.AM
set_option linter.unusedVariables false

theorem three_l0 {L : Nat} {r3 r4 r5 : Int × Int × Int × Int} {r6 : Bool × Int × Int} : ∀ (k m : Nat) (M : Int) (w : List Pt), w.length = 3 → k ≤ 3 → k < m → 2 ^ k * M ≤ 1000000 → 0 ≤ M → (∀ p ∈ w, (-M ≤ p.x ∧ p.x ≤ M) ∧ (-M ≤ p.y ∧ p.y ≤ M)) →
    ∃ w', spec_l1Cur_three_l0 L r3 r4 r5 r6 m (3 - k) w = some (w', r6.2.1, r6.2.2) ∧ w'.length = 3 ∧ ∀ p ∈ w', Wd p := by
  intro k
  induction k with
  | zero =>
    intro m M w hw _ hm hM h0 hp
    obtain ⟨m, rfl⟩ : ∃ q, m = q + 1 := ⟨m - 1, by omega⟩
    have hlen : ilen [AV.agg [AV.int IntKind.i64 r3.1, AV.int IntKind.i64 r3.2.1], AV.agg [AV.int IntKind.i64 r4.1, AV.int IntKind.i64 r4.2.1], AV.agg [AV.int IntKind.i64 r5.1, AV.int IntKind.i64 r5.2.1]] = 3 := by rw [ilen_eq]; rfl
    rw [spec_l1Cur_three_l0]
    simp only [hlen, ilt_eq, show ¬ (3 : Int) - ((0 : Nat) : Int) < 3 by omega, decide_false, cond_false]
    refine ⟨w, rfl, hw, fun p h => ?_⟩
    have := hp p h
    simp at hM
    unfold Wd; omega
  | succ k ih =>
    intro m M w hw hk hm hM h0 hp
    obtain ⟨m, rfl⟩ : ∃ q, m = q + 1 := ⟨m - 1, by omega⟩
    have hlen : ilen [AV.agg [AV.int IntKind.i64 r3.1, AV.int IntKind.i64 r3.2.1], AV.agg [AV.int IntKind.i64 r4.1, AV.int IntKind.i64 r4.2.1], AV.agg [AV.int IntKind.i64 r5.1, AV.int IntKind.i64 r5.2.1]] = 3 := by rw [ilen_eq]; rfl
    have hM' : 2 ^ k * (2 * M) ≤ 1000000 := by
      have : (2 : Int) ^ (k + 1) * M = 2 ^ k * (2 * M) := by rw [Int.pow_succ]; grind
      rwa [this] at hM
    have hMs : M ≤ 1000000 := by
      have hp' : (1 : Int) ≤ 2 ^ (k + 1) := by
        have : (0 : Int) < 2 ^ (k + 1) := Int.pow_pos (by omega)
        omega
      have := Int.mul_le_mul_of_nonneg_right hp' h0
      omega
    have i0 : (0 : Int) ≤ 3 - ((k + 1 : Nat) : Int) := by omega
    have i1 : (3 : Int) - ((k + 1 : Nat) : Int) < (w.length : Int) := by omega
    have hne : w ≠ [] := by intro e; subst e; simp at hw
    have hq := hp _ (pt_mem2 hne (3 - ((k + 1 : Nat) : Int)))
    have w1 : wr IntKind.i64 (iadd (3 - ((k + 1 : Nat) : Int)) 1) = 3 - (k : Int) := by rw [iadd_eq, wr_id (by omega)]; omega
    rw [spec_l1Cur_three_l0]
    simp only [hlen, ilt_eq, ile_eq, ilen_mapep, show (3 : Int) - ((k + 1 : Nat) : Int) < 3 by omega, i0, i1, decide_true, Bool.and_self, cond_true, lget_pt i0 i1, gbind_eq, Option.bind_some, w1, imul_eq]
    rw [wr_id (n := 2 * (pt w (3 - ((k + 1 : Nat) : Int))).x) (by omega), wr_id (n := 2 * (pt w (3 - ((k + 1 : Nat) : Int))).y) (by omega)]
    refine ih m (2 * M) _ (by rw [lset_eq]; simpa using hw) (by omega) (by omega) hM' (by omega) fun p hp' => ?_
    rw [lset_eq] at hp'
    rcases List.mem_or_eq_of_mem_set hp' with h | h
    · have := hp p h; omega
    · rw [h]; simp only; omega

theorem three_dr {L : Nat} {a : List Int} {t s n : Int} (hb : By a) (ht : 0 ≤ t ∧ t ≤ 200000) (hn : 1 ≤ n ∧ n ≤ 20) (hL : 1000 < L) : ∃ r t' s', spec_l1Cur_three L a t s n = some (r, t', s') ∧ (r.length : Int) ≤ 30 ∧ (∀ p ∈ r, Wd p) ∧ t ≤ t' ∧ t' ≤ t + 400 := by
  have inwd : ∀ p, In p → Wd p := fun p h => by unfold In at h; unfold Wd; omega
  obtain ⟨k, t1, s1, e1, k0, h1, h2⟩ := pick_dr (L := L) (s := s) (n := 12) hb (t := t) (by omega) (by omega)
  unfold spec_l1Cur_three
  simp only [e1, gbind_eq, Option.bind_some, ieq_eq]
  by_cases c0 : k = 0
  · obtain ⟨r, t2, s2, e2, q1, q2, q3, q4⟩ := polygon_dr (L := L) (s := s1) (n := 4) hb (t := t1) (by omega) (by omega) hL
    simp only [c0, decide_true, cond_true, e2, Option.bind_some]
    exact ⟨_, _, _, rfl, q1, q2, by omega, by omega⟩
  · by_cases c1 : k = 1
    · obtain ⟨x, t2, s2, e2, x0, h3, h4⟩ := pick_dr (L := L) (s := s1) (n := 3) hb (t := t1) (by omega) (by omega)
      simp only [c0, c1, decide_true, decide_false, cond_true, cond_false, e2, Option.bind_some]
      refine ⟨_, _, _, rfl, by simp, fun p hp => ?_, by omega, by omega⟩
      simp only [List.mem_cons, List.not_mem_nil, or_false] at hp
      have wx : wr IntKind.i64 (isub x 1) = x - 1 := by rw [isub_eq, wr_id (by omega)]
      rcases hp with rfl | rfl | rfl <;> unfold Wd <;> simp only [wx] <;> omega
    · obtain ⟨x1, y1, t2, s2, e2, m2, h3, h4⟩ := surePeg_dr (L := L) (s := s1) (n := n) hb (t := t1) (by omega) hn
      obtain ⟨x2, y2, t3, s3, e3, m3, h5, h6⟩ := surePeg_dr (L := L) (s := s2) (n := n) hb (t := t2) (by omega) hn
      obtain ⟨x3, y3, t4, s4, e4, m4, h7, h8⟩ := surePeg_dr (L := L) (s := s3) (n := n) hb (t := t3) (by omega) hn
      obtain ⟨b, t5, s5, e5, h9, h10⟩ := one_dr (L := L) (s := s4) (n := 3) hb (t := t4) (by omega) (by omega)
      simp only [c0, c1, decide_false, cond_false, e2, e3, e4, e5, Option.bind_some]
      cases b with
      | true =>
        obtain ⟨w', e6, l6, p6⟩ := three_l0 (L := L) (r3 := (x1, y1, t2, s2)) (r4 := (x2, y2, t3, s3)) (r5 := (x3, y3, t4, s4)) (r6 := (true, t5, s5)) 3 L 40 [⟨x1, y1⟩, ⟨x2, y2⟩, ⟨x3, y3⟩] rfl (by omega) (by omega) (by decide) (by omega) (fun p hp => by
          simp only [List.mem_cons, List.not_mem_nil, or_false] at hp
          unfold In at m2 m3 m4
          rcases hp with rfl | rfl | rfl <;> simp only at * <;> omega)
        rw [show (3 : Int) - ((3 : Nat) : Int) = 0 by omega] at e6
        simp only [cond_true, e6]
        exact ⟨_, _, _, rfl, by omega, p6, by omega, by omega⟩
      | false =>
        simp only [cond_false]
        refine ⟨_, _, _, rfl, by simp, fun p hp => ?_, by omega, by omega⟩
        simp only [List.mem_cons, List.not_mem_nil, or_false] at hp
        rcases hp with rfl | rfl | rfl
        · exact inwd _ m2
        · exact inwd _ m3
        · exact inwd _ m4

theorem partsOf_dr {L : Nat} {a : List Int} (hb : By a) (hL : 1000 < L) : ∃ r x y, spec_DrawPartsOfPeg L a = some (r, x, y) ∧ (r.length : Int) ≤ 30 := by
  obtain ⟨r, t1, s1, e1, l1, _, h1, h2⟩ := three_dr (L := L) (a := a) (t := 0) (s := 0) (n := 3) hb (by omega) (by omega) hL
  unfold spec_DrawPartsOfPeg spec_DrawInCircle
  simp only [e1, gbind_eq, Option.bind_some, ilen_mapep, ieq_eq]
  by_cases c : (r.length : Int) = 3
  · obtain ⟨b, t2, s2, e2, h3, h4⟩ := one_dr (L := L) (s := s1) (n := 4) hb (t := t1) (by omega) (by omega)
    simp only [c, decide_true, cond_true, e2, Option.bind_some]
    cases b with
    | true =>
      obtain ⟨x, t3, s3, e3, x0, _, _⟩ := pick_dr (L := L) (s := s2) (n := 3) hb (t := t2) (by omega) (by omega)
      simp only [cond_true, e3, Option.bind_some, ile_eq, ilt_eq, x0.1, x0.2, decide_true, Bool.and_self, lget_pt x0.1 (show x < (r.length : Int) by omega)]
      exact ⟨_, _, _, rfl, l1⟩
    | false =>
      obtain ⟨x, y, t3, s3, e3, _, _, _⟩ := peg_dr (L := L) (s := s2) hb (t := t2) (by omega)
      simp only [cond_false, e3, Option.bind_some]
      exact ⟨_, _, _, rfl, l1⟩
  · obtain ⟨x, y, t3, s3, e3, _, _, _⟩ := peg_dr (L := L) (s := s1) hb (t := t1) (by omega)
    simp only [c, decide_false, cond_false, e3, Option.bind_some]
    exact ⟨_, _, _, rfl, l1⟩

end Go.AM

namespace Go.AM
set_option linter.unusedVariables false

/-- the number of points inside a triangle, in plain numbers; sides -/
theorem tri_pick {t : List Pt} (h : Tri t) : inside t = (((area t).natAbs : Int) + 2 - round t).tdiv 2 ∧ 3 ≤ round t ∧ (area t + round t) % 2 = 0 ∧ ((area t).natAbs = 1 → round t = 3) := by
  have tb := h.tb
  have hln := tb.ln
  have hA := turn_ml tb.i0 tb.i1 tb.i2
  rw [← tri_area h.len] at hA
  unfold Ml at hA
  have hz := tri_ne h
  have e3 : pt t ((2 : Nat) + 1) = pt t 0 := by rw [show (((2 : Nat) : Int) + 1) = 0 + (t.length : Int) by omega, pt_per]
  have hr : round t = step (pt t 0) (pt t 1) + step (pt t 1) (pt t 2) + step (pt t 2) (pt t 0) := by
    unfold round
    rw [h.len]
    simp only [sm]
    rw [e3]
    show 0 + step (pt t 0) (pt t (0 + 1)) + step (pt t 1) (pt t (1 + 1)) + step (pt t 2) (pt t 0) = _
    rw [show (0 : Int) + 1 = 1 by omega, show (1 : Int) + 1 = 2 by omega]; omega
  have dv : ∀ p q r : Pt, step p q ∣ turn p q r := fun p q r => by
    obtain ⟨d1, d2⟩ := step_dvd p q
    unfold turn
    exact Int.dvd_sub (Int.dvd_trans d1 ⟨_, rfl⟩) (Int.dvd_trans d2 ⟨_, rfl⟩)
  have a0 := tri_turns h.len 0
  have a1 := tri_turns h.len 1
  have a2 := tri_turns h.len 2
  have m3 : pt t (2 + 1) = pt t 0 := e3
  have m4 : pt t (2 + 2) = pt t 1 := by rw [show (2 : Int) + 2 = 1 + (t.length : Int) by omega, pt_per]
  have m5 : pt t (1 + 2) = pt t 0 := e3
  rw [m3, m4] at a2
  rw [m5, show (1 : Int) + 1 = 2 by omega] at a1
  rw [show (0 : Int) + 1 = 1 by omega, show (0 : Int) + 2 = 2 by omega] at a0
  have d0 := dv (pt t 0) (pt t 1) (pt t 2)
  have d1 := dv (pt t 1) (pt t 2) (pt t 0)
  have d2 := dv (pt t 2) (pt t 0) (pt t 1)
  rw [a0] at d0; rw [a1] at d1; rw [a2] at d2
  have nn : ∀ p q : Pt, 0 ≤ step p q := fun p q => by unfold step; omega
  have pos : ∀ {s : Int}, 0 ≤ s → s ∣ area t → 1 ≤ s := fun {s} h0 hd => by
    rcases Int.lt_or_le s 1 with h | h
    · obtain rfl : s = 0 := by omega
      exact absurd (Int.zero_dvd.1 hd) hz
    · exact h
  have p0 := pos (nn _ _) d0
  have p1 := pos (nn _ _) d1
  have p2 := pos (nn _ _) d2
  have sb : ∀ {p q : Pt}, In p → In q → step p q ≤ 4000 := fun hp hq => (step_bd hp.nr hq.nr).2
  have b0 := sb tb.i0 tb.i1
  have b1 := sb tb.i1 tb.i2
  have b2 := sb tb.i2 tb.i0
  refine ⟨?_, by omega, area_round t, fun h1 => ?_⟩
  · unfold inside
    have q1 : wr IntKind.i64 (((area t).natAbs : Int) + 2) = ((area t).natAbs : Int) + 2 := wr_id (by omega)
    have q2 : wr IntKind.i64 (((area t).natAbs : Int) + 2 - round t) = ((area t).natAbs : Int) + 2 - round t := wr_id (by omega)
    rw [q1, q2]
    have := tdiv_bd (a := ((area t).natAbs : Int) + 2 - round t) (b := 2) (A := 10000000) (by omega)
    rw [wr_id (by omega)]
  · have one : ∀ {s : Int}, 1 ≤ s → s ∣ area t → s = 1 := fun {s} h0 hd => by
      have h2 : s.natAbs ∣ (area t).natAbs := Int.natAbs_dvd_natAbs.2 hd
      rw [h1] at h2
      have := Nat.dvd_one.1 h2
      omega
    rw [hr, one p0 d0, one p1 d1, one p2 d2]
    rfl
end Go.AM

namespace Go.AM
set_option linter.unusedVariables false

theorem zSame_l0 {L : Nat} {a : List Int} (hs : (a.length : Int) ≤ 100000) : ∀ (m i : Nat), i ≤ a.length → a.length - i < m → laws_zSame_l0 L a a m i = some true := by
  have hlen : ilen (List.map eI a) = (a.length : Int) := by rw [ilen_eq]; simp
  intro m
  induction m with
  | zero => intro i _ h; omega
  | succ m ih =>
    intro i hi hm
    rw [laws_zSame_l0]
    by_cases h : (i : Int) < (a.length : Int)
    · have hlt : i < a.length := by omega
      have wi : wr IntKind.i64 (iadd (i : Int) 1) = ((i + 1 : Nat) : Int) := by rw [iadd_eq, wr_s (by omega)]; omega
      have hg : lget a (i : Int) = some a[i] := by rw [lget_eq, if_pos (by omega), Int.toNat_natCast, List.getElem?_eq_getElem hlt]
      simp only [hlen, ilt_eq, h, decide_true, cond_true, hg, gbind_eq, Option.bind_some, ieq_eq, Bool.not_true, cond_false, wi]
      exact ih (i + 1) (by omega) (by omega)
    · simp only [hlen, ilt_eq, h, decide_false, cond_false]
theorem zSame_eq {L : Nat} {a : List Int} (hs : (a.length : Int) ≤ 100000) (hL : (a.length : Int) < L) : laws_zSame L a a = some true := by
  unfold laws_zSame
  simp only [ieq_eq, decide_true, Bool.not_true, cond_false]
  exact zSame_l0 hs L 0 (by omega) (by omega)

theorem twice_tri {L : Nat} {a b c : Pt} (ha : In a) (hb : In b) (hc : In c) (ht : turn a b c ≠ 0) (hL : 20 < L) : impl_TwiceArea L [a, b, c] = some (turn a b c, true) := by
  have h := tri_good ha hb hc ht
  have tb := h.tb
  have hA : area [a, b, c] = turn a b c := tri_area rfl
  unfold impl_TwiceArea
  rw [impl_IsPolygon_eq (by omega)]
  simp only [h.good, decide_true, Bool.not_true, cond_false, gbind_eq, Option.bind_some, impl_twice_eq (L := L) tb.nn (by simp) (by simp; omega) tb.nr, hA]

end Go.AM

namespace Go.AM
set_option linter.unusedVariables false

end Go.AM

namespace Go.AM
set_option linter.unusedVariables false

theorem stk_len (p : Pt) : ∀ s : List Pt, (stk s p).length ≤ s.length + 1
  | [] => by simp [stk]
  | [a] => by simp [stk]
  | b :: a :: r => by
    rw [stk]
    split
    · have := stk_len p (a :: r); simp at this ⊢; omega
    · simp

end Go.AM

namespace Go.AM
set_option linter.unusedVariables false

end Go.AM

namespace Go.AM
set_option linter.unusedVariables false

end Go.AM

namespace Go.AM
set_option linter.unusedVariables false

theorem fold_len : ∀ (l s : List Pt), (l.foldl stk s).length ≤ s.length + l.length
  | [], s => by simp
  | p :: l, s => by
    have h1 := fold_len l (stk s p)
    have h2 := stk_len p s
    simp only [List.foldl_cons, List.length_cons]
    omega

theorem band_len (l : List Pt) : (bandL l).length ≤ 2 * l.length + 1 := by
  unfold bandL
  split
  · omega
  · have h1 := fold_len l []
    have h2 := fold_len l.reverse []
    simp only [List.length_append, List.length_dropLast, sideL, List.length_reverse, List.length_nil] at *
    unfold stack
    omega

structure BandOf (a B : List Pt) : Prop where
  nn : B ≠ []
  len : (B.length : Int) ≤ 61
  isIn : ∀ i, In (pt B i)
  mem : ∀ x ∈ B, x ∈ a

theorem Diff.rise {a : List Pt} (h : Diff a) : Rise (isort a) := rise_of (isort_ord a) (isort_nodup h.nodup)
theorem Diff.band {a : List Pt} (h : Diff a) : BandOf a (bandL (isort a)) := by
  have hne : isort a ≠ [] := fun e => h.nn (List.eq_nil_of_length_eq_zero (by rw [← isort_len, e]; rfl))
  obtain ⟨h1, h2⟩ := band_mem h.rise hne
  have hm : ∀ x ∈ bandL (isort a), x ∈ a := fun x hx => isort_mem.1 (h2 x hx)
  refine ⟨h1, ?_, fun i => h.mem (hm _ (pt_mem h1 i)), hm⟩
  have := band_len (isort a)
  rw [isort_len] at this
  have := h.hi
  omega

theorem Diff.nr {a : List Pt} (h : Diff a) : ∀ x ∈ a, Nr x := fun x hx => (h.mem hx).nr

end Go.AM

namespace Go.AM
open Classical
set_option linter.unusedVariables false

noncomputable def bw (B : List Pt) (q : Pt) : Int := if B.length = 1 then (if q = pt B 0 then 0 else -1) else wh B q

end Go.AM

namespace Go.AM
open Classical
set_option linter.unusedVariables false

def dd (p q : Pt) : Int := (p.x - q.x) * (p.x - q.x) + (p.y - q.y) * (p.y - q.y)
def Bf (p q a b : Pt) : Prop := Less p a ∨ (p = a ∧ Less q b)

theorem dd_bd {p q : Pt} (hp : Nr p) (hq : Nr q) : 0 ≤ dd p q ∧ dd p q ≤ 8000000 := by
  have ⟨hx, hy⟩ := sub_bd hp hq
  have h1 := mul_bd hx hx
  have h2 := mul_bd hy hy
  have n1 := mul_self_nn (p.x - q.x)
  have n2 := mul_self_nn (p.y - q.y)
  unfold dd; omega
theorem wr_m {n : Int} (h : -1000000000 ≤ n ∧ n ≤ 1000000000) : wr .i64 n = n := wr_id (by omega)

theorem spec_trSquare_eq {L : Nat} {p q : Pt} (hp : Nr p) (hq : Nr q) : spec_trSquare L p.x p.y q.x q.y = some (dd p q) := by
  have ⟨hx, hy⟩ := sub_bd hp hq
  have h1 := mul_bd hx hx
  have h2 := mul_bd hy hy
  have h3 := dd_bd hp hq
  unfold dd at h3
  unfold spec_trSquare dd
  simp only [isub_eq, imul_eq, iadd_eq]
  rw [wr_m (show -1000000000 ≤ p.x - q.x ∧ p.x - q.x ≤ 1000000000 by omega), wr_m (show -1000000000 ≤ p.y - q.y ∧ p.y - q.y ≤ 1000000000 by omega), wr_m (n := (p.x - q.x) * (p.x - q.x)) (by omega), wr_m (n := (p.y - q.y) * (p.y - q.y)) (by omega), wr_m (by omega)]

theorem impl_square_eq {L : Nat} {p q : Pt} (hp : Nr p) (hq : Nr q) : (gbind (impl_Peg_less L p.x p.y q.x q.y) fun r => impl_Peg_square L (Prod.fst r) (Prod.snd r)) = some (dd p q) := by
  have ⟨hx, hy⟩ := sub_bd hp hq
  have h1 := mul_bd hx hx
  have h2 := mul_bd hy hy
  have h3 := dd_bd hp hq
  unfold dd at h3
  unfold impl_Peg_less impl_Peg_square dd
  simp only [isub_eq, imul_eq, iadd_eq, gbind_eq, Option.bind_some]
  rw [wr_m (show -1000000000 ≤ p.x - q.x ∧ p.x - q.x ≤ 1000000000 by omega), wr_m (show -1000000000 ≤ p.y - q.y ∧ p.y - q.y ≤ 1000000000 by omega), wr_m (n := (p.x - q.x) * (p.x - q.x)) (by omega), wr_m (n := (p.y - q.y) * (p.y - q.y)) (by omega), wr_m (by omega)]

/-- the first two of those that are farthest apart -/
def Far (Pr : Pt → Pt → Prop) (A B : Pt) (m : Int) : Prop :=
  (m = 0 ∧ A = ⟨0, 0⟩ ∧ B = ⟨0, 0⟩ ∧ ∀ p q, ¬ Pr p q) ∨ (Pr A B ∧ m = dd A B ∧ ∀ p q, Pr p q → dd p q ≤ m ∧ (dd p q = m → ¬ Bf p q A B))

theorem bf_tot {p q a b : Pt} (h1 : ¬ Bf p q a b) (h2 : ¬ Bf a b p q) : p = a ∧ q = b := by
  unfold Bf at *
  have e : p = a := not_less_eq (fun h => h1 (.inl h)) (fun h => h2 (.inl h))
  subst e
  exact ⟨rfl, not_less_eq (fun h => h1 (.inr ⟨rfl, h⟩)) (fun h => h2 (.inr ⟨rfl, h⟩))⟩

theorem Far.one {Pr Pr' : Pt → Pt → Prop} {A B A' B' : Pt} {m m' : Int} (he : ∀ p q, Pr p q ↔ Pr' p q) (h : Far Pr A B m) (h' : Far Pr' A' B' m') : A = A' ∧ B = B' ∧ m = m' := by
  rcases h with ⟨h1, h2, h3, h4⟩ | ⟨h1, h2, h3⟩ <;> rcases h' with ⟨k1, k2, k3, k4⟩ | ⟨k1, k2, k3⟩
  · exact ⟨by rw [h2, k2], by rw [h3, k3], by rw [h1, k1]⟩
  · exact absurd ((he _ _).2 k1) (h4 _ _)
  · exact absurd ((he _ _).1 h1) (k4 _ _)
  · have a1 := h3 A' B' ((he _ _).2 k1)
    have a2 := k3 A B ((he _ _).1 h1)
    have em : m = m' := by omega
    have := bf_tot (a2.2 (by omega)) (a1.2 (by omega))
    exact ⟨this.1, this.2, em⟩

theorem Far.same {Pr Pr' : Pt → Pt → Prop} {A B : Pt} {m : Int} (he : ∀ p q, Pr p q ↔ Pr' p q) (h : Far Pr A B m) : Far Pr' A B m := by
  rcases h with ⟨h1, h2, h3, h4⟩ | ⟨h1, h2, h3⟩
  · exact .inl ⟨h1, h2, h3, fun p q h => h4 p q ((he p q).2 h)⟩
  · exact .inr ⟨(he _ _).1 h1, h2, fun p q h => h3 p q ((he p q).2 h)⟩

end Go.AM

namespace Go.AM
set_option linter.unusedVariables false

theorem gcd_both {L : Nat} {b c : Int} (hb : -1000000000 ≤ b ∧ b ≤ 1000000000) (hc : -1000000000 ≤ c ∧ c ≤ 1000000000) (hL : c.natAbs < L) : spec_pgCommon L b c = some (Nat.gcd b.natAbs c.natAbs : Int) ∧ impl_divisor L b c = some (Nat.gcd b.natAbs c.natAbs : Int) := by
  unfold spec_pgCommon impl_divisor
  rw [spec_l1Abs_eq hb, spec_l1Abs_eq hc]
  simp only [gbind_eq, Option.bind_some]
  exact ⟨common_l0 L _ _ hL, divisor_l0 L _ _ hb hc hL⟩

def sds (t : List Pt) : List Int := [dd (pt t 1) (pt t 2), dd (pt t 2) (pt t 0), dd (pt t 0) (pt t 1)]

theorem dd_in {p q : Pt} (hp : In p) (hq : In q) : 0 ≤ dd p q ∧ dd p q ≤ 12800 := by
  unfold In at hp hq
  have m1 := mul_bd (x := p.x - q.x) (y := p.x - q.x) (A := 80) (B := 80) (by omega) (by omega)
  have m2 := mul_bd (x := p.y - q.y) (y := p.y - q.y) (A := 80) (B := 80) (by omega) (by omega)
  have n1 := mul_self_nn (p.x - q.x)
  have n2 := mul_self_nn (p.y - q.y)
  unfold dd; omega

theorem dd_posn {p q : Pt} (h : p ≠ q) : 0 < dd p q := by
  have n1 := mul_self_nn (p.x - q.x)
  have n2 := mul_self_nn (p.y - q.y)
  have key : ∀ z : Int, z ≠ 0 → 0 < z * z := fun z hz => by
    have := mul_self_nn z
    rcases Int.lt_or_eq_of_le this with h | h
    · exact h
    · rcases Int.mul_eq_zero.1 h.symm with e | e <;> exact absurd e hz
  unfold dd
  by_cases hx : p.x = q.x
  · have hy : p.y ≠ q.y := fun hy => h (by cases p; cases q; simp_all)
    have := key (p.y - q.y) (by omega)
    omega
  · have := key (p.x - q.x) (by omega)
    omega

theorem sides_eq {L : Nat} {t : List Pt} (h : Tri t) : spec_trSides L t = some (sds t) ∧ impl_sides L t = some (sds t) := by
  have b := h.tb
  have n0 := b.i0.nr; have n1 := b.i1.nr; have n2 := b.i2.nr
  have s1 := impl_square_eq (L := L) n1 n2
  have s2 := impl_square_eq (L := L) n2 n0
  have s3 := impl_square_eq (L := L) n0 n1
  rw [less_eq n1 n2] at s1
  rw [less_eq n2 n0] at s2
  rw [less_eq n0 n1] at s3
  simp only [gbind_eq, Option.bind_some] at s1 s2 s3
  unfold spec_trSides impl_sides
  simp only [b.l0, b.l1, b.l2, gbind_eq, Option.bind_some, spec_trSquare_eq n1 n2, spec_trSquare_eq n2 n0, spec_trSquare_eq n0 n1, less_eq n1 n2, less_eq n2 n0, less_eq n0 n1, s1, s2, s3]
  exact ⟨rfl, rfl⟩

theorem sidesOf_eq {L : Nat} {t : List Pt} (hL : 20 < L) : ∃ r, spec_SidesOfThree L t = some r ∧ impl_SidesOfThree L t = some r ∧ (r.1.length : Int) ≤ 3 ∧ (Tri t → r = (sds t, true)) ∧ (¬ Tri t → r = ([], false)) := by
  obtain ⟨e1, e2⟩ := threes_eq (L := L) (t := t) hL
  unfold spec_SidesOfThree impl_SidesOfThree
  simp only [e1, e2, gbind_eq, Option.bind_some]
  by_cases h : Tri t
  · obtain ⟨s1, s2⟩ := sides_eq (L := L) h
    simp only [h, decide_true, Bool.not_true, cond_false, s1, s2, Option.bind_some]
    exact ⟨_, rfl, rfl, by simp [sds], fun _ => rfl, fun q => absurd trivial q⟩
  · simp only [h, decide_false, Bool.not_false, cond_true]
    exact ⟨_, rfl, rfl, by simp, fun q => q.elim, fun _ => rfl⟩

/-- a height's square, as a fraction -/
def hgt (A s : Int) : List Int := [(A * A).tdiv (Nat.gcd (A * A).natAbs s.natAbs : Int), s.tdiv (Nat.gcd (A * A).natAbs s.natAbs : Int)]
def hgts (t : List Pt) : List (List Int) := (sds t).map (hgt (area t))

theorem heights_l0 {L : Nat} {A : Int} {sd : List Int} (hA : -13000 ≤ A ∧ A ≤ 13000) (hs : ∀ s ∈ sd, 1 ≤ s ∧ s ≤ 12800) (hl : (sd.length : Int) ≤ 10) (hL : 200000 < L) : ∀ (m i : Nat), i ≤ sd.length → sd.length - i < m →
    spec_HeightsOfThree_l0 L A sd m i ((sd.take i).map (hgt A)) = some (sd.map (hgt A), true) ∧ impl_HeightsOfThree_l0 L A sd m i ((sd.take i).map (hgt A)) = some (sd.map (hgt A), true) := by
  have hlen : ilen (List.map eI sd) = (sd.length : Int) := by rw [ilen_eq]; simp
  have m1 := mul_bd (x := A) (y := A) (A := 13000) (B := 13000) hA hA
  have n1 := mul_self_nn A
  have wA : wr IntKind.i64 (imul A A) = A * A := by rw [imul_eq, wr_id (by omega)]
  intro m
  induction m with
  | zero => intro i _ h; omega
  | succ m ih =>
    intro i hi hm
    rw [spec_HeightsOfThree_l0, impl_HeightsOfThree_l0]
    by_cases h : (i : Int) < (sd.length : Int)
    · have hlt : i < sd.length := by omega
      have wi : wr IntKind.i64 (iadd (i : Int) 1) = ((i + 1 : Nat) : Int) := by rw [iadd_eq, wr_s (by omega)]; omega
      have hg : lget sd (i : Int) = some sd[i] := by rw [lget_eq, if_pos (by omega), Int.toNat_natCast, List.getElem?_eq_getElem hlt]
      have hsi := hs sd[i] (List.getElem_mem hlt)
      obtain ⟨g1, g2⟩ := gcd_both (L := L) (b := A * A) (c := sd[i]) (by omega) (by omega) (by omega)
      have hgp : 0 < Nat.gcd (A * A).natAbs sd[i].natAbs := Nat.gcd_pos_of_pos_right _ (by omega)
      have q1 := tdiv_bd (a := A * A) (b := (Nat.gcd (A * A).natAbs sd[i].natAbs : Int)) (A := 1000000000) (by omega)
      have q2 := tdiv_bd (a := sd[i]) (b := (Nat.gcd (A * A).natAbs sd[i].natAbs : Int)) (A := 1000000000) (by omega)
      have e1 : wr IntKind.i64 (iquo (A * A) (Nat.gcd (A * A).natAbs sd[i].natAbs : Int)) = (A * A).tdiv (Nat.gcd (A * A).natAbs sd[i].natAbs : Int) := by rw [iquo_eq, wr_id (by omega)]
      have e2 : wr IntKind.i64 (iquo sd[i] (Nat.gcd (A * A).natAbs sd[i].natAbs : Int)) = sd[i].tdiv (Nat.gcd (A * A).natAbs sd[i].natAbs : Int) := by rw [iquo_eq, wr_id (by omega)]
      have hll : ((List.take i sd).length : Int) ≤ 10 := by simp; omega
      have hf : ∀ x : AV, fits (iadd (ilen (List.map eLI (List.map (hgt A) (List.take i sd)))) (ilen [x])) 24 = true := fun x => by
        rw [ilen_eq, ilen_eq, iadd_eq]; exact fits_s (by simp; omega)
      have htk : List.map (hgt A) (List.take (i + 1) sd) = List.map (hgt A) (List.take i sd) ++ [hgt A sd[i]] := by
        rw [List.take_succ_eq_append_getElem hlt, List.map_append]; rfl
      obtain ⟨k1, k2⟩ := ih (i + 1) (by omega) (by omega)
      rw [htk] at k1 k2
      simp only [hlen, ilt_eq, ile_eq, h, show (0 : Int) ≤ (i : Int) by omega, decide_true, Bool.and_self, cond_true, hg, gbind_eq, Option.bind_some, wA, g1, g2, ieq_eq, show ¬ ((Nat.gcd (A * A).natAbs sd[i].natAbs : Int) = 0) by omega, decide_false, cond_false, e1, e2, hf, wi, lcat_eq]
      exact ⟨k1, k2⟩
    · simp only [hlen, ilt_eq, h, decide_false, cond_false]
      rw [List.take_of_length_le (by omega)]
      exact ⟨rfl, rfl⟩

theorem tri_apart {t : List Pt} (h : Tri t) : pt t 0 ≠ pt t 1 ∧ pt t 1 ≠ pt t 2 ∧ pt t 2 ≠ pt t 0 := by
  have hz := tri_ne h
  rw [tri_area h.len] at hz
  refine ⟨fun e => hz ?_, fun e => hz ?_, fun e => hz ?_⟩
  · rw [e]; unfold turn; grind
  · rw [e]; unfold turn; grind
  · rw [e]; unfold turn; grind

theorem sds_bd {t : List Pt} (h : Tri t) : ∀ s ∈ sds t, 1 ≤ s ∧ s ≤ 12800 := fun s hs => by
  have b := h.tb
  obtain ⟨a0, a1, a2⟩ := tri_apart h
  simp only [sds, List.mem_cons, List.not_mem_nil, or_false] at hs
  rcases hs with e | e | e
  · have := dd_in b.i1 b.i2; have := dd_posn a1; omega
  · have := dd_in b.i2 b.i0; have := dd_posn a2; omega
  · have := dd_in b.i0 b.i1; have := dd_posn a0; omega

theorem area_in {t : List Pt} (h : Tri t) : -13000 ≤ area t ∧ area t ≤ 13000 := by
  have b := h.tb
  rw [tri_area h.len]
  have h0 := b.i0; have h1 := b.i1; have h2 := b.i2
  unfold In at h0 h1 h2
  have m1 := mul_bd (x := (pt t 1).x - (pt t 0).x) (y := (pt t 2).y - (pt t 0).y) (A := 80) (B := 80) (by omega) (by omega)
  have m2 := mul_bd (x := (pt t 1).y - (pt t 0).y) (y := (pt t 2).x - (pt t 0).x) (A := 80) (B := 80) (by omega) (by omega)
  unfold turn; omega

theorem heightsOf_eq {L : Nat} {t : List Pt} (hL : 200000 < L) : ∃ r, spec_HeightsOfThree L t = some r ∧ impl_HeightsOfThree L t = some r ∧ (r.1.length : Int) ≤ 3 ∧ (∀ l ∈ r.1, (l.length : Int) ≤ 2) ∧ (Tri t → r = (hgts t, true)) ∧ (¬ Tri t → r = ([], false)) := by
  obtain ⟨e1, e2⟩ := threes_eq (L := L) (t := t) (by omega)
  unfold spec_HeightsOfThree impl_HeightsOfThree
  simp only [e1, e2, gbind_eq, Option.bind_some]
  by_cases h : Tri t
  · have b := h.tb
    have hln := b.ln
    obtain ⟨s1, s2⟩ := sides_eq (L := L) h
    obtain ⟨k1, k2⟩ := heights_l0 (L := L) (A := area t) (sd := sds t) (area_in h) (sds_bd h) (by simp [sds]) hL L 0 (by omega) (by show 3 - 0 < L; omega)
    have k1' : spec_HeightsOfThree_l0 L (area t) (sds t) L 0 [] = some (hgts t, true) := k1
    have k2' : impl_HeightsOfThree_l0 L (area t) (sds t) L 0 [] = some (hgts t, true) := k2
    simp only [h, decide_true, Bool.not_true, cond_false, s1, s2, Option.bind_some, spec_pgArea_eq (L := L) (show 2 ≤ (t.length : Int) by omega) (show (t.length : Int) ≤ 1000 by omega) (show (t.length : Int) < L by omega) b.nr, impl_twice_eq (L := L) b.nn (show (t.length : Int) ≤ 1000 by omega) (show (t.length : Int) < L by omega) b.nr, k1', k2']
    refine ⟨_, rfl, rfl, by simp [hgts, sds], fun l hl => ?_, fun _ => rfl, fun q => absurd trivial q⟩
    simp only [hgts, List.mem_map] at hl
    obtain ⟨s, _, rfl⟩ := hl
    simp [hgt]
  · simp only [h, decide_false, Bool.not_false, cond_true]
    exact ⟨_, rfl, rfl, by simp, (fun l hl => by cases hl), fun q => q.elim, fun _ => rfl⟩
end Go.AM

namespace Go.AM
set_option linter.unusedVariables false

theorem most_eq {L : Nat} {a b : Int} : spec_l1Most L a b = some (max a b) := by
  unfold spec_l1Most
  simp only [ilt_eq]
  by_cases h : b < a
  · simp only [h, decide_true, cond_true]; congr 1; omega
  · simp only [h, decide_false, cond_false]; congr 1; omega
theorem imax_max (a b : Int) : imax a b = max a b := by rw [imax_eq]; split <;> omega
theorem leastm_eq {L : Nat} {a b : Int} : spec_l1Least L a b = some (min a b) := by
  unfold spec_l1Least
  simp only [ilt_eq]
  by_cases h : a < b
  · simp only [h, decide_true, cond_true]; congr 1; omega
  · simp only [h, decide_false, cond_false]; congr 1; omega
theorem imin_min (a b : Int) : imin a b = min a b := by rw [imin_eq]; split <;> omega

/-- what the angles tell -/
def rst (t : List Pt) : Int := dd (pt t 1) (pt t 2) + dd (pt t 2) (pt t 0) + dd (pt t 0) (pt t 1) - 2 * max (max (dd (pt t 1) (pt t 2)) (dd (pt t 2) (pt t 0))) (dd (pt t 0) (pt t 1))

theorem ang_wr {x y z : Int} (b0 : 0 ≤ x ∧ x ≤ 12800) (b1 : 0 ≤ y ∧ y ≤ 12800) (b2 : 0 ≤ z ∧ z ≤ 12800) :
    wr IntKind.i64 (isub (wr IntKind.i64 (iadd (wr IntKind.i64 (iadd x y)) z)) (wr IntKind.i64 (imul 2 (max x (max y z))))) = x + y + z - 2 * max (max x y) z ∧
    wr IntKind.i64 (isub (wr IntKind.i64 (iadd (wr IntKind.i64 (iadd x y)) z)) (wr IntKind.i64 (imul 2 (max (max x y) z)))) = x + y + z - 2 * max (max x y) z := by
  constructor
  · rw [iadd_eq, iadd_eq, imul_eq, isub_eq, wr_s (i := x + y) (by omega), wr_s (i := x + y + z) (by omega), wr_s (i := 2 * max x (max y z)) (by omega), wr_s (by omega)]; omega
  · rw [iadd_eq, iadd_eq, imul_eq, isub_eq, wr_s (i := x + y) (by omega), wr_s (i := x + y + z) (by omega), wr_s (i := 2 * max (max x y) z) (by omega), wr_s (by omega)]

theorem angle_eq {L : Nat} {t : List Pt} (hL : 20 < L) : ∃ r, spec_AngleKind L t = some r ∧ impl_AngleKind L t = some r ∧ (Tri t → r = (sg (rst t), true)) ∧ (¬ Tri t → r = (0, false)) := by
  obtain ⟨e1, e2⟩ := threes_eq (L := L) (t := t) hL
  unfold spec_AngleKind impl_AngleKind
  simp only [e1, e2, gbind_eq, Option.bind_some]
  by_cases h : Tri t
  · have b := h.tb
    obtain ⟨s1, s2⟩ := sides_eq (L := L) h
    have hl : ilen (List.map eI (sds t)) = 3 := by rw [ilen_eq]; rfl
    have g0 : lget (sds t) 0 = some (dd (pt t 1) (pt t 2)) := by rw [lget_eq]; rfl
    have g1 : lget (sds t) 1 = some (dd (pt t 2) (pt t 0)) := by rw [lget_eq]; rfl
    have g2 : lget (sds t) 2 = some (dd (pt t 0) (pt t 1)) := by rw [lget_eq]; rfl
    have b0 := dd_in b.i1 b.i2
    have b1 := dd_in b.i2 b.i0
    have b2 := dd_in b.i0 b.i1
    simp only [h, decide_true, Bool.not_true, cond_false, s1, s2, Option.bind_some, hl, ile_eq, ilt_eq, Int.le_refl, show (0 : Int) < 3 by omega, show (0 : Int) ≤ 1 by omega, show (1 : Int) < 3 by omega, show (0 : Int) ≤ 2 by omega, show (2 : Int) < 3 by omega, Bool.and_self, cond_true, g0, g1, g2, most_eq, imax_max, spec_l1Sign_eq, impl_sign_eq]
    rw [(ang_wr b0 b1 b2).1, (ang_wr b0 b1 b2).2]
    exact ⟨_, rfl, rfl, fun _ => rfl, fun q => absurd trivial q⟩
  · simp only [h, decide_false, Bool.not_false, cond_true]
    exact ⟨_, rfl, rfl, fun q => q.elim, fun _ => rfl⟩

def cen (t : List Pt) : Pt := ⟨(pt t 0).x + (pt t 1).x + (pt t 2).x, (pt t 0).y + (pt t 1).y + (pt t 2).y⟩

theorem thrice_eq {L : Nat} {t : List Pt} (hL : 20 < L) : ∃ r, spec_ThriceCentre L t = some r ∧ impl_ThriceCentre L t = some r ∧ (Tri t → r = ((cen t).x, (cen t).y, true)) ∧ (¬ Tri t → r = (0, 0, false)) := by
  obtain ⟨e1, e2⟩ := threes_eq (L := L) (t := t) hL
  unfold spec_ThriceCentre impl_ThriceCentre impl_Peg_plus
  simp only [e1, e2, gbind_eq, Option.bind_some]
  by_cases h : Tri t
  · have b := h.tb
    have h0 := b.i0; have h1 := b.i1; have h2 := b.i2
    unfold In at h0 h1 h2
    have w : ∀ x y z : Int, (-40 ≤ x ∧ x ≤ 40) → (-40 ≤ y ∧ y ≤ 40) → (-40 ≤ z ∧ z ≤ 40) → wr IntKind.i64 (iadd (wr IntKind.i64 (iadd x y)) z) = x + y + z := fun x y z hx hy hz => by
      rw [iadd_eq, iadd_eq, wr_s (i := x + y) (by omega), wr_s (by omega)]
    simp only [h, decide_true, Bool.not_true, cond_false, b.l0, b.l1, b.l2, Option.bind_some, w _ _ _ h0.1 h1.1 h2.1, w _ _ _ h0.2 h1.2 h2.2]
    exact ⟨_, rfl, rfl, fun _ => rfl, fun q => absurd trivial q⟩
  · simp only [h, decide_false, Bool.not_false, cond_true]
    exact ⟨_, rfl, rfl, fun q => q.elim, fun _ => rfl⟩

theorem hasCentre_eq {L : Nat} {t : List Pt} (hL : 20 < L) : ∃ r, spec_HasCentrePeg L t = some r ∧ impl_HasCentrePeg L t = some r ∧ (Tri t → r = (decide ((cen t).x.tmod 3 = 0) && decide ((cen t).y.tmod 3 = 0), true)) ∧ (¬ Tri t → r = (false, false)) := by
  obtain ⟨q, q1, q2, q3, q4⟩ := thrice_eq (L := L) (t := t) hL
  unfold spec_HasCentrePeg impl_HasCentrePeg
  simp only [q1, q2, gbind_eq, Option.bind_some, ieq_eq, irem_eq, show ¬ (3 : Int) = 0 by omega, decide_false, cond_false]
  by_cases h : Tri t
  · rw [q3 h]
    simp only [cond_true]
    by_cases c : (cen t).x.tmod 3 = 0
    · simp only [c, decide_true, cond_true, Bool.true_and]
      exact ⟨_, rfl, rfl, fun _ => rfl, fun q => absurd h q⟩
    · simp only [c, decide_false, cond_false, Bool.false_and]
      exact ⟨_, rfl, rfl, fun _ => rfl, fun q => absurd h q⟩
  · rw [q4 h]
    simp only [cond_false]
    exact ⟨_, rfl, rfl, fun q => absurd q h, fun _ => rfl⟩
end Go.AM

namespace Go.AM
set_option linter.unusedVariables false

def bx (t : List Pt) : Int × Int × Int × Int := (min (min (pt t 0).x (pt t 1).x) (pt t 2).x, min (min (pt t 0).y (pt t 1).y) (pt t 2).y, max (max (pt t 0).x (pt t 1).x) (pt t 2).x, max (max (pt t 0).y (pt t 1).y) (pt t 2).y)

theorem boxOf_eq {L : Nat} {t : List Pt} (hL : 20 < L) : ∃ r, spec_BoxOfThree L t = some r ∧ impl_BoxOfThree L t = some r ∧ (Tri t → r = ((bx t).1, (bx t).2.1, (bx t).2.2.1, (bx t).2.2.2, true)) ∧ (¬ Tri t → r = (0, 0, 0, 0, false)) := by
  obtain ⟨e1, e2⟩ := threes_eq (L := L) (t := t) hL
  unfold spec_BoxOfThree impl_BoxOfThree
  simp only [e1, e2, gbind_eq, Option.bind_some]
  by_cases h : Tri t
  · have b := h.tb
    have hln := b.ln
    have w : ∀ i : Int, 0 ≤ i → i ≤ 10 → wr IntKind.i64 (iadd i 1) = i + 1 := fun i h0 h1 => by rw [iadd_eq, wr_s (by omega)]
    have k1 : ∀ m, spec_BoxOfThree_l0 L t (m + 4) 0 (pt t 0).x (pt t 0).y (pt t 0).x (pt t 0).y = some ((bx t).1, (bx t).2.1, (bx t).2.2.1, (bx t).2.2.2, true) := by
      intro m
      rw [spec_BoxOfThree_l0]
      simp only [ilen_mapep, hln, ilt_eq, show (0 : Int) < 3 by omega, decide_true, cond_true, b.l0, gbind_eq, Option.bind_some, leastm_eq, most_eq, w 0 (by omega) (by omega)]
      rw [spec_BoxOfThree_l0]
      simp only [ilen_mapep, hln, ilt_eq, show (0 : Int) + 1 = 1 by omega, show (1 : Int) < 3 by omega, decide_true, cond_true, b.l1, gbind_eq, Option.bind_some, leastm_eq, most_eq, w 1 (by omega) (by omega)]
      rw [spec_BoxOfThree_l0]
      simp only [ilen_mapep, hln, ilt_eq, show (1 : Int) + 1 = 2 by omega, show (2 : Int) < 3 by omega, decide_true, cond_true, b.l2, gbind_eq, Option.bind_some, leastm_eq, most_eq, w 2 (by omega) (by omega)]
      rw [spec_BoxOfThree_l0]
      simp only [ilen_mapep, hln, ilt_eq, show (2 : Int) + 1 = 3 by omega, Int.lt_irrefl, decide_false, cond_false]
      unfold bx
      simp only [Int.min_self, Int.max_self]
    have k2 : ∀ m, impl_box_l0 L t (m + 4) 0 (pt t 0).x (pt t 0).y (pt t 0).x (pt t 0).y = some (bx t) := by
      intro m
      rw [impl_box_l0]
      simp only [ilen_mapep, hln, ilt_eq, show (0 : Int) < 3 by omega, decide_true, cond_true, b.l0, gbind_eq, Option.bind_some, imin_min, imax_max, w 0 (by omega) (by omega)]
      rw [impl_box_l0]
      simp only [ilen_mapep, hln, ilt_eq, show (0 : Int) + 1 = 1 by omega, show (1 : Int) < 3 by omega, decide_true, cond_true, b.l1, gbind_eq, Option.bind_some, imin_min, imax_max, w 1 (by omega) (by omega)]
      rw [impl_box_l0]
      simp only [ilen_mapep, hln, ilt_eq, show (1 : Int) + 1 = 2 by omega, show (2 : Int) < 3 by omega, decide_true, cond_true, b.l2, gbind_eq, Option.bind_some, imin_min, imax_max, w 2 (by omega) (by omega)]
      rw [impl_box_l0]
      simp only [ilen_mapep, hln, ilt_eq, show (2 : Int) + 1 = 3 by omega, Int.lt_irrefl, decide_false, cond_false]
      unfold bx
      simp only [Int.min_self, Int.max_self]
    obtain ⟨m, hm⟩ : ∃ m, L = m + 4 := ⟨L - 4, by omega⟩
    have q1 := k1 m
    have q2 := k2 m
    rw [← hm] at q1 q2
    have q3 : impl_box L t = some (bx t) := by
      unfold impl_box
      simp only [b.l0, gbind_eq, Option.bind_some, q2]
    simp only [h, decide_true, Bool.not_true, cond_false, b.l0, Option.bind_some, q1, q3]
    exact ⟨_, rfl, rfl, fun _ => rfl, fun q => absurd trivial q⟩
  · simp only [h, decide_false, Bool.not_false, cond_true]
    exact ⟨_, rfl, rfl, fun q => q.elim, fun _ => rfl⟩
end Go.AM

