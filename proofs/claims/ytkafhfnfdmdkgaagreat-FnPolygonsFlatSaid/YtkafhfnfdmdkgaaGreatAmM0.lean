import Derived.Test.YtkafhfnfdmdkgaaGreatAmP1
set_option linter.unusedVariables false
set_option linter.unusedSimpArgs false
set_option linter.unnecessarySimpa false
set_option linter.deprecated false
set_option linter.unusedSectionVars false
open Go Go.AM Go.Proofs
namespace Go.AM
noncomputable def spec_mvPeg (L : Nat) (a_0 : Int) (a_1 : Int) (a_2 : Int) (a_3 : Int) (a_4 : Int) (a_5 : Int) (b_0 : Int) (b_1 : Int) : Option (Int × Int) := some ((wr IntKind.i64 (iadd (wr IntKind.i64 (iadd (wr IntKind.i64 (imul a_0 b_0)) (wr IntKind.i64 (imul a_1 b_1)))) a_4), wr IntKind.i64 (iadd (wr IntKind.i64 (iadd (wr IntKind.i64 (imul a_2 b_0)) (wr IntKind.i64 (imul a_3 b_1)))) a_5)))
noncomputable def spec_mvFrame_l0 (L : Nat) (a : List Pt) (p : Pt) (p1 : Pt) (p2 : Pt) (r : Int) (r1 : Int × Int) (r2 : Int × Int) : Nat → Int → (List Pt) → Option ((List Pt))
  | 0, _, _ => none
  | m + 1, v119, w2 => bif ilt v119 (ilen (List.map ep a)) then (gbind (lget a v119) fun p5 => gbind (spec_mvPeg L (wr IntKind.i64 (iadd (Prod.fst r1) (wr IntKind.i64 (imul (wr IntKind.i64 (iquo (wr IntKind.i64 (isub (irem (wr IntKind.i64 (iadd (irem (Prod.fst r2) (wr IntKind.i64 (isub 0 (Prod.snd r2)))) (wr IntKind.i64 (isub 0 (Prod.snd r2))))) (wr IntKind.i64 (isub 0 (Prod.snd r2)))) (Prod.fst r2))) (wr IntKind.i64 (isub 0 (Prod.snd r2))))) (wr IntKind.i64 (isub 0 (wr IntKind.i64 (iquo (wr IntKind.i64 (isub 0 (wr IntKind.i64 (isub (Pt.y p2) (Pt.y p))))) r)))))))) (wr IntKind.i64 (iadd (Prod.snd r1) (wr IntKind.i64 (imul (wr IntKind.i64 (iquo (wr IntKind.i64 (isub (irem (wr IntKind.i64 (iadd (irem (Prod.fst r2) (wr IntKind.i64 (isub 0 (Prod.snd r2)))) (wr IntKind.i64 (isub 0 (Prod.snd r2))))) (wr IntKind.i64 (isub 0 (Prod.snd r2)))) (Prod.fst r2))) (wr IntKind.i64 (isub 0 (Prod.snd r2))))) (wr IntKind.i64 (isub 0 (wr IntKind.i64 (iquo (wr IntKind.i64 (isub (Pt.x p1) (Pt.x p))) r)))))))) (wr IntKind.i64 (isub 0 (wr IntKind.i64 (iquo (wr IntKind.i64 (isub 0 (wr IntKind.i64 (isub (Pt.y p2) (Pt.y p))))) r)))) (wr IntKind.i64 (isub 0 (wr IntKind.i64 (iquo (wr IntKind.i64 (isub (Pt.x p1) (Pt.x p))) r)))) 0 0 (wr IntKind.i64 (isub (Pt.x p5) (Pt.x p))) (wr IntKind.i64 (isub (Pt.y p5) (Pt.y p)))) fun r3 => bif fits (iadd (ilen (List.map ep w2)) (ilen [AV.agg [AV.int IntKind.i64 (Prod.fst r3), AV.int IntKind.i64 (Prod.snd r3)]])) 16 then (spec_mvFrame_l0 L a p p1 p2 r r1 r2 m (wr IntKind.i64 (iadd v119 1)) (lcat w2 ({ x := Prod.fst r3, y := Prod.snd r3 } :: []))) else (none)) else (some w2)
noncomputable def spec_mvFrame_l1 (L : Nat) (a : List Pt) (p : Pt) (p1 : Pt) (p2 : Pt) (r : Int) (r1 : Int × Int) (r2 : Int × Int) : Nat → Int → (List Pt) → Option ((List Pt))
  | 0, _, _ => none
  | m1 + 1, v1191, w21 => bif ilt v1191 (ilen (List.map ep a)) then (gbind (lget a v1191) fun p6 => gbind (spec_mvPeg L (wr IntKind.i64 (iadd (Prod.fst r1) (wr IntKind.i64 (imul (wr IntKind.i64 (iquo (wr IntKind.i64 (isub (irem (wr IntKind.i64 (iadd (irem (Prod.fst r2) (Prod.snd r2)) (Prod.snd r2))) (Prod.snd r2)) (Prod.fst r2))) (Prod.snd r2))) (wr IntKind.i64 (iquo (wr IntKind.i64 (isub 0 (wr IntKind.i64 (isub (Pt.y p2) (Pt.y p))))) r)))))) (wr IntKind.i64 (iadd (Prod.snd r1) (wr IntKind.i64 (imul (wr IntKind.i64 (iquo (wr IntKind.i64 (isub (irem (wr IntKind.i64 (iadd (irem (Prod.fst r2) (Prod.snd r2)) (Prod.snd r2))) (Prod.snd r2)) (Prod.fst r2))) (Prod.snd r2))) (wr IntKind.i64 (iquo (wr IntKind.i64 (isub (Pt.x p1) (Pt.x p))) r)))))) (wr IntKind.i64 (iquo (wr IntKind.i64 (isub 0 (wr IntKind.i64 (isub (Pt.y p2) (Pt.y p))))) r)) (wr IntKind.i64 (iquo (wr IntKind.i64 (isub (Pt.x p1) (Pt.x p))) r)) 0 0 (wr IntKind.i64 (isub (Pt.x p6) (Pt.x p))) (wr IntKind.i64 (isub (Pt.y p6) (Pt.y p)))) fun r4 => bif fits (iadd (ilen (List.map ep w21)) (ilen [AV.agg [AV.int IntKind.i64 (Prod.fst r4), AV.int IntKind.i64 (Prod.snd r4)]])) 16 then (spec_mvFrame_l1 L a p p1 p2 r r1 r2 m1 (wr IntKind.i64 (iadd v1191 1)) (lcat w21 ({ x := Prod.fst r4, y := Prod.snd r4 } :: []))) else (none)) else (some w21)
noncomputable def spec_mvFrame (L : Nat) (a : List Pt) : Option ((List Pt)) := gbind (lget a 0) fun p => gbind (lget a 1) fun p1 => gbind (lget a 1) fun p2 => gbind (spec_pgCommon L (wr IntKind.i64 (isub (Pt.x p1) (Pt.x p))) (wr IntKind.i64 (isub (Pt.y p2) (Pt.y p)))) fun r => gbind (spec_mvFull L (wr IntKind.i64 (isub (Pt.x p1) (Pt.x p))) (wr IntKind.i64 (isub (Pt.y p2) (Pt.y p)))) fun r1 => bif ieq r 0 then (none) else (bif ieq r 0 then (none) else (gbind (lget a 2) fun p3 => gbind (lget a 2) fun p4 => gbind (spec_mvPeg L (Prod.fst r1) (Prod.snd r1) (wr IntKind.i64 (iquo (wr IntKind.i64 (isub 0 (wr IntKind.i64 (isub (Pt.y p2) (Pt.y p))))) r)) (wr IntKind.i64 (iquo (wr IntKind.i64 (isub (Pt.x p1) (Pt.x p))) r)) 0 0 (wr IntKind.i64 (isub (Pt.x p3) (Pt.x p))) (wr IntKind.i64 (isub (Pt.y p4) (Pt.y p)))) fun r2 => bif ilt (Prod.snd r2) 0 then (bif ieq (wr IntKind.i64 (isub 0 (Prod.snd r2))) 0 then (none) else (bif ieq (wr IntKind.i64 (isub 0 (Prod.snd r2))) 0 then (none) else (bif ieq (wr IntKind.i64 (isub 0 (Prod.snd r2))) 0 then (none) else (spec_mvFrame_l0 L a p p1 p2 r r1 r2 L 0 [])))) else (bif ieq (Prod.snd r2) 0 then (none) else (bif ieq (Prod.snd r2) 0 then (none) else (bif ieq (Prod.snd r2) 0 then (none) else (spec_mvFrame_l1 L a p p1 p2 r r1 r2 L 0 []))))))
noncomputable def spec_mvFrames_l1 (L : Nat) (κ0 : Int → Int → (List (List Pt)) → (List (List Pt)) → Option ((List (List Pt)))) (v11 : Int) (v12 : Int) (w1 : List (List Pt)) (p : List Pt) : Nat → Int → (List (List Pt)) → Option ((List (List Pt)))
  | 0, _, _ => none
  | m1 + 1, v18, w01 => bif ilt v18 (ilen (List.map ep p)) then (bif ile 0 v18 && ile v18 (ilen (List.map ep p)) then (bif ile 0 v18 && ile v18 (ilen (List.map ep p)) then (bif fits (iadd (ilen ([] : List AV)) (ilen (lsub (List.map ep p) v18 (ilen (List.map ep p))))) 16 then (bif fits (iadd (ilen (lcat [] (lsub (List.map ep p) v18 (ilen (List.map ep p))))) (ilen (lsub (List.map ep p) 0 v18))) 16 then (gbind (spec_mvFrame L (lcat (lcat [] (lsub p v18 (ilen (List.map ep p)))) (lsub p 0 v18))) fun r1 => bif fits (iadd (ilen (List.map eLP w01)) (ilen [AV.lst false false 2 (List.map ep r1)])) 24 then (spec_mvFrames_l1 L κ0 v11 v12 w1 p m1 (wr IntKind.i64 (iadd v18 1)) (lcat w01 (r1 :: []))) else (none)) else (none)) else (none)) else (none)) else (none)) else (κ0 v11 (wr IntKind.i64 (iadd v12 1)) w01 w1)
noncomputable def spec_mvFrames_l0 (L : Nat) : Nat → Int → Int → (List (List Pt)) → (List (List Pt)) → Option ((List (List Pt)))
  | 0, _, _, _, _ => none
  | m + 1, v11, v12, w0, w1 => bif ilt v12 v11 then (bif ile 0 v12 && ilt v12 (ilen (List.map eLP w1)) then (gbind (lget w1 v12) fun p => spec_mvFrames_l1 L (spec_mvFrames_l0 L m) v11 v12 w1 p L 0 w0) else (none)) else (some w0)
noncomputable def spec_mvFrames (L : Nat) (a : List Pt) : Option ((List (List Pt))) := gbind (spec_pgBack L a) fun r => spec_mvFrames_l0 L L (ilen [AV.lst false false 2 (List.map ep a), AV.lst false false 2 (List.map ep r)]) 0 [] (a :: (r :: []))
noncomputable def spec_mvKind_l0 (L : Nat) (r : List (List Pt)) : Nat → (List Pt) → Int → Option ((List Pt))
  | 0, _, _ => none
  | m + 1, v3, v9 => bif ilt v9 (ilen (List.map eLP r)) then (bif ile 0 v9 && ilt v9 (ilen (List.map eLP r)) then (gbind (lget r v9) fun p => bif ieq (ilen (List.map ep v3)) 0 then (spec_mvKind_l0 L r m p (wr IntKind.i64 (iadd v9 1))) else (gbind (spec_mvBefore L p v3) fun r1 => bif r1 then (spec_mvKind_l0 L r m p (wr IntKind.i64 (iadd v9 1))) else (spec_mvKind_l0 L r m v3 (wr IntKind.i64 (iadd v9 1))))) else (none)) else (some v3)
noncomputable def spec_mvKind (L : Nat) (a : List Pt) : Option ((List Pt)) := gbind (spec_mvFrames L a) fun r => spec_mvKind_l0 L r L [] 0
end Go.AM
namespace Go.AM
theorem wr_id {n : Int} (h : -9223372036854775808 ≤ n ∧ n ≤ 9223372036854775807) : wr .i64 n = n := by
  rw [wr_eq]
  simp only [IntKind.wrap, IntKind.signed, IntKind.bits]
  simp
  omega
theorem mul_bd {x y A B : Int} (hx : -A ≤ x ∧ x ≤ A) (hy : -B ≤ y ∧ y ≤ B) : -(A * B) ≤ x * y ∧ x * y ≤ A * B := by
  have h : (x * y).natAbs ≤ (A * B).natAbs := by
    rw [Int.natAbs_mul, Int.natAbs_mul]
    exact Nat.mul_le_mul (by omega) (by omega)
  have hp : 0 ≤ A * B := Int.mul_nonneg (by omega) (by omega)
  omega
theorem mul_le0 {x y : Int} : x * y ≤ 0 ↔ (x ≤ 0 ∧ 0 ≤ y) ∨ (0 ≤ x ∧ y ≤ 0) := by
  constructor
  · intro h
    rcases Int.lt_trichotomy x 0 with hx | hx | hx
    · rcases Int.lt_trichotomy y 0 with hy | hy | hy
      · have := Int.mul_pos_of_neg_of_neg hx hy; omega
      · omega
      · omega
    · omega
    · rcases Int.lt_trichotomy y 0 with hy | hy | hy
      · omega
      · omega
      · have := Int.mul_pos hx hy; omega
  · rintro (⟨h1, h2⟩ | ⟨h1, h2⟩)
    · exact Int.mul_nonpos_of_nonpos_of_nonneg h1 h2
    · exact Int.mul_nonpos_of_nonneg_of_nonpos h1 h2
def turn (a b c : Pt) : Int := (b.x - a.x) * (c.y - a.y) - (b.y - a.y) * (c.x - a.x)
def Nr (p : Pt) : Prop := (-1000 ≤ p.x ∧ p.x ≤ 1000) ∧ (-1000 ≤ p.y ∧ p.y ≤ 1000)
def In (p : Pt) : Prop := (-40 ≤ p.x ∧ p.x ≤ 40) ∧ (-40 ≤ p.y ∧ p.y ≤ 40)
theorem In.nr {p : Pt} (h : In p) : Nr p := by unfold In at h; unfold Nr; omega
theorem sub_bd {p q : Pt} (hp : Nr p) (hq : Nr q) : (-2000 ≤ p.x - q.x ∧ p.x - q.x ≤ 2000) ∧ (-2000 ≤ p.y - q.y ∧ p.y - q.y ≤ 2000) := by
  unfold Nr at hp hq; omega
theorem spec_pgTurn_eq {L : Nat} {a b c : Pt} (ha : Nr a) (hb : Nr b) (hc : Nr c) : spec_pgTurn L a.x a.y b.x b.y c.x c.y = some (turn a b c) := by
  have h1 := sub_bd hb ha
  have h2 := sub_bd hc ha
  have h3 := mul_bd h1.1 h2.2
  have h4 := mul_bd h1.2 h2.1
  unfold spec_pgTurn turn
  simp only [isub_eq, imul_eq]
  rw [wr_id (n := b.x - a.x) (by omega), wr_id (n := c.y - a.y) (by omega), wr_id (n := b.y - a.y) (by omega), wr_id (n := c.x - a.x) (by omega), wr_id (n := (b.x - a.x) * (c.y - a.y)) (by omega), wr_id (n := (b.y - a.y) * (c.x - a.x)) (by omega), wr_id (by omega)]
theorem impl_turn_eq {L : Nat} {a b c : Pt} (ha : Nr a) (hb : Nr b) (hc : Nr c) : impl_turn L a.x a.y b.x b.y c.x c.y = some (turn a b c) := by
  have h1 := sub_bd hb ha
  have h2 := sub_bd hc ha
  have h3 := mul_bd h1.1 h2.2
  have h4 := mul_bd h1.2 h2.1
  unfold impl_turn impl_Peg_less impl_cross turn
  simp only [gbind_eq, Option.bind_some, isub_eq, imul_eq]
  rw [wr_id (n := b.x - a.x) (by omega), wr_id (n := c.y - a.y) (by omega), wr_id (n := b.y - a.y) (by omega), wr_id (n := c.x - a.x) (by omega), wr_id (n := (b.x - a.x) * (c.y - a.y)) (by omega), wr_id (n := (b.y - a.y) * (c.x - a.x)) (by omega), wr_id (by omega)]
def OnL (a b p : Pt) : Prop := turn a b p = 0 ∧ (a.x - p.x) * (b.x - p.x) ≤ 0 ∧ (a.y - p.y) * (b.y - p.y) ≤ 0
instance (a b p : Pt) : Decidable (OnL a b p) := by unfold OnL; infer_instance
theorem spec_pgOn_eq {L : Nat} {a b p : Pt} (ha : Nr a) (hb : Nr b) (hp : Nr p) : spec_pgOn L a.x a.y b.x b.y p.x p.y = some (decide (OnL a b p)) := by
  have h1 := sub_bd ha hp
  have h2 := sub_bd hb hp
  have h3 := mul_bd h1.1 h2.1
  have h4 := mul_bd h1.2 h2.2
  unfold spec_pgOn
  rw [spec_pgTurn_eq ha hb hp]
  simp only [gbind_eq, Option.bind_some, isub_eq, imul_eq, ieq_eq, ile_eq]
  rw [wr_id (n := a.x - p.x) (by omega), wr_id (n := b.x - p.x) (by omega), wr_id (n := a.y - p.y) (by omega), wr_id (n := b.y - p.y) (by omega), wr_id (n := (a.x - p.x) * (b.x - p.x)) (by omega), wr_id (n := (a.y - p.y) * (b.y - p.y)) (by omega)]
  unfold OnL
  by_cases k1 : turn a b p = 0 <;> by_cases k2 : (a.x - p.x) * (b.x - p.x) ≤ 0 <;> simp [k1, k2]
theorem mid_iff {a b p : Int} : (a - p) * (b - p) ≤ 0 ↔ (if b < a then b else a) ≤ p ∧ p ≤ (if b > a then b else a) := by
  rw [mul_le0]
  split <;> split <;> omega
theorem impl_isOn_eq {L : Nat} {a b p : Pt} (ha : Nr a) (hb : Nr b) (hp : Nr p) : impl_isOn L a.x a.y b.x b.y p.x p.y = some (decide (OnL a b p)) := by
  unfold impl_isOn impl_within OnL
  rw [impl_turn_eq ha hb hp]
  simp only [gbind_eq, Option.bind_some, ieq_eq, ile_eq, imin_eq, imax_eq, mid_iff]
  by_cases k1 : turn a b p = 0
  · simp only [k1, decide_true, cond_true]
    by_cases k2 : (if b.x < a.x then b.x else a.x) ≤ p.x <;> by_cases k3 : p.x ≤ (if b.x > a.x then b.x else a.x) <;>
      by_cases k4 : (if b.y < a.y then b.y else a.y) ≤ p.y <;> by_cases k5 : p.y ≤ (if b.y > a.y then b.y else a.y) <;> simp [k2, k3, k4, k5]
  · simp [k1]
def sg (n : Int) : Int := if 0 < n then 1 else if n < 0 then -1 else 0
theorem spec_l1Sign_eq {L : Nat} {n : Int} : spec_l1Sign L n = some (sg n) := by
  unfold spec_l1Sign sg
  simp only [ilt_eq]
  by_cases h1 : 0 < n <;> by_cases h2 : n < 0 <;> simp [h1, h2]
theorem impl_sign_eq {L : Nat} {n : Int} : impl_sign L n = some (sg n) := by
  unfold impl_sign sg
  simp only [imin_eq, imax_eq]
  congr 1
  split <;> split <;> split <;> (try split) <;> omega
theorem sg_bd (n : Int) : -1 ≤ sg n ∧ sg n ≤ 1 := by unfold sg; split; omega; split <;> omega
def Meet (a b c d : Pt) : Prop := OnL a b c ∨ OnL a b d ∨ OnL c d a ∨ OnL c d b ∨ (sg (turn a b c) * sg (turn a b d) < 0 ∧ sg (turn c d a) * sg (turn c d b) < 0)
instance (a b c d : Pt) : Decidable (Meet a b c d) := by unfold Meet; infer_instance
theorem sgm {m n : Int} : wr .i64 (sg m * sg n) = sg m * sg n := by
  have := mul_bd (sg_bd m) (sg_bd n)
  exact wr_id (by omega)
theorem spec_pgMeet_eq {L : Nat} {a b c d : Pt} (ha : Nr a) (hb : Nr b) (hc : Nr c) (hd : Nr d) : spec_pgMeet L a.x a.y b.x b.y c.x c.y d.x d.y = some (decide (Meet a b c d)) := by
  unfold spec_pgMeet Meet
  rw [spec_pgOn_eq ha hb hc, spec_pgOn_eq ha hb hd, spec_pgOn_eq hc hd ha, spec_pgOn_eq hc hd hb, spec_pgTurn_eq ha hb hc, spec_pgTurn_eq ha hb hd, spec_pgTurn_eq hc hd ha, spec_pgTurn_eq hc hd hb]
  simp only [gbind_eq, Option.bind_some, spec_l1Sign_eq, imul_eq, ilt_eq, sgm]
  by_cases k1 : OnL a b c <;> by_cases k2 : OnL a b d <;> by_cases k3 : OnL c d a <;> by_cases k4 : OnL c d b <;> by_cases k5 : sg (turn a b c) * sg (turn a b d) < 0 <;>
    by_cases k6 : sg (turn c d a) * sg (turn c d b) < 0 <;> simp [k1, k2, k3, k4, k5, k6]
theorem impl_meet_eq {L : Nat} {a b c d : Pt} (ha : Nr a) (hb : Nr b) (hc : Nr c) (hd : Nr d) : impl_meet L a.x a.y b.x b.y c.x c.y d.x d.y = some (decide (Meet a b c d)) := by
  unfold impl_meet Meet
  rw [impl_isOn_eq ha hb hc, impl_isOn_eq ha hb hd, impl_isOn_eq hc hd ha, impl_isOn_eq hc hd hb, impl_turn_eq ha hb hc, impl_turn_eq ha hb hd, impl_turn_eq hc hd ha, impl_turn_eq hc hd hb]
  simp only [gbind_eq, Option.bind_some, impl_sign_eq, imul_eq, ilt_eq, sgm]
  by_cases k1 : OnL a b c <;> by_cases k2 : OnL a b d <;> by_cases k3 : OnL c d a <;> by_cases k4 : OnL c d b <;> by_cases k5 : sg (turn a b c) * sg (turn a b d) < 0 <;>
    by_cases k6 : sg (turn c d a) * sg (turn c d b) < 0 <;> simp [k1, k2, k3, k4, k5, k6]
end Go.AM
namespace Go.AM
def pt (a : List Pt) (i : Int) : Pt := a.getD (i % (a.length : Int)).toNat ⟨0, 0⟩
theorem pt_congr {a : List Pt} {i j : Int} (h : i % (a.length : Int) = j % (a.length : Int)) : pt a i = pt a j := by unfold pt; rw [h]
theorem pt_get {a : List Pt} {i : Int} (h0 : 0 ≤ i) (h1 : i < a.length) : a[i.toNat]? = some (pt a i) := by
  unfold pt
  rw [Int.emod_eq_of_lt h0 h1]
  have : i.toNat < a.length := by omega
  simp [this]
theorem lget_pt {a : List Pt} {i : Int} (h0 : 0 ≤ i) (h1 : i < a.length) : lget a i = some (pt a i) := by
  rw [lget_eq, if_pos h0, pt_get h0 h1]
theorem irem_nn {i n : Int} (h : 0 ≤ i) : irem i n = i % n := by rw [irem_eq]; exact Int.tmod_eq_emod_of_nonneg h
theorem lget_rem {a : List Pt} {i : Int} (h0 : 0 ≤ i) (hn : a ≠ []) : lget a (irem i (a.length : Int)) = some (pt a i) := by
  have hl : 0 < (a.length : Int) := by have := List.length_pos_iff.2 hn; omega
  rw [irem_nn h0, lget_pt (Int.emod_nonneg _ (by omega)) (Int.emod_lt_of_pos _ hl)]
  congr 1
  exact pt_congr (Int.emod_emod_of_dvd _ (Int.dvd_refl _))
theorem ilen_mapep (a : List Pt) : ilen (List.map ep a) = (a.length : Int) := by rw [ilen_map, ilen_eq]
theorem impl_at_eq {L : Nat} {a : List Pt} {i : Int} (hn : a ≠ []) (hs : (a.length : Int) ≤ 1000000000) : impl_at L a i = some ((pt a i).x, (pt a i).y) := by
  have hl : 0 < (a.length : Int) := by have := List.length_pos_iff.2 hn; omega
  unfold impl_at
  simp only [ilen_mapep, ieq_eq, gbind_eq, iadd_eq]
  have h0 : ¬ ((a.length : Int) = 0) := by omega
  simp only [h0, decide_false, cond_false]
  have h1 : -(a.length : Int) < irem i (a.length : Int) ∧ irem i (a.length : Int) < a.length := by
    rw [irem_eq]
    have := Int.tmod_lt_of_pos i hl
    have h2 := Int.natAbs_tmod i (a.length : Int)
    have h3 := Nat.mod_lt i.natAbs (show 0 < (a.length : Int).natAbs by omega)
    omega
  rw [wr_id (by omega), lget_rem (by omega) hn]
  simp only [Option.bind_some]
  have : pt a (irem i (a.length : Int) + a.length) = pt a i := by
    apply pt_congr
    rw [Int.add_emod_right, irem_eq]
    conv => rhs; rw [← Int.tmod_add_mul_tdiv i (a.length : Int), Int.add_mul_emod_self_left]
  rw [this]
theorem search {β : Type} {f : Nat → Int → Option β} {bad : Int → Prop} {r k : Option β} {lo n hi : Int} (hn : n ≤ hi) (hstop : ∀ m v, lo ≤ v → v ≤ hi → ¬ v < n → f (m + 1) v = k) (hbad : ∀ m v, lo ≤ v → v < n → bad v → f (m + 1) v = r)
    (hgo : ∀ m v, lo ≤ v → v < n → ¬ bad v → f (m + 1) v = f m (v + 1)) : ∀ (m : Nat) (v : Int), lo ≤ v → v ≤ hi → n - v < m → 0 < m → ((∃ j, v ≤ j ∧ j < n ∧ bad j) → f m v = r) ∧ ((∀ j, v ≤ j → j < n → ¬ bad j) → f m v = k) := by
  intro m
  induction m with
  | zero => intro v _ _ _ h; omega
  | succ m ih =>
    intro v hv hvh hm _
    by_cases hvn : v < n
    · by_cases hb : bad v
      · refine ⟨fun _ => hbad m v hv hvn hb, fun h => absurd hb (h v (Int.le_refl _) hvn)⟩
      · rw [hgo m v hv hvn hb]
        obtain ⟨h1, h2⟩ := ih (v + 1) (by omega) (by omega) (by omega) (by omega)
        refine ⟨fun ⟨j, q1, q2, q3⟩ => h1 ⟨j, ?_, q2, q3⟩, fun h => h2 fun j q1 q2 => h j (by omega) q2⟩
        by_cases hj : j = v
        · subst hj; exact absurd q3 hb
        · omega
    · rw [hstop m v hv hvh hvn]
      exact ⟨fun ⟨j, q1, q2, _⟩ => by omega, fun _ => rfl⟩
structure Good_ (a : List Pt) : Prop where
  lo : 3 ≤ (a.length : Int)
  hi : (a.length : Int) ≤ 10
  isIn : ∀ i, 0 ≤ i → i < (a.length : Int) → In (pt a i)
  ne : ∀ i k, 0 ≤ k → k < i → i < (a.length : Int) → pt a k ≠ pt a i
  turn : ∀ i, 0 ≤ i → i < (a.length : Int) → turn (pt a i) (pt a (i + 1)) (pt a (i + 2)) ≠ 0
  apart : ∀ i k, 0 ≤ i → i + 2 ≤ k → k < (a.length : Int) → k - i < (a.length : Int) - 1 → ¬ Meet (pt a i) (pt a (i + 1)) (pt a k) (pt a (k + 1))
theorem in_all {a : List Pt} (h : ∀ i, 0 ≤ i → i < (a.length : Int) → In (pt a i)) (hn : a ≠ []) (i : Int) : In (pt a i) := by
  have hl : 0 < (a.length : Int) := by have := List.length_pos_iff.2 hn; omega
  have := h (i % a.length) (Int.emod_nonneg _ (by omega)) (Int.emod_lt_of_pos _ hl)
  rwa [pt_congr (Int.emod_emod_of_dvd _ (Int.dvd_refl _))] at this
theorem spec_pgIs_eq {L : Nat} {p : Pt} : (In p → spec_pgIs L p.x p.y = some true) ∧ (¬ In p → spec_pgIs L p.x p.y = some false) := by
  unfold spec_pgIs spec_l1In In
  simp only [gbind_eq, ile_eq]
  by_cases h1 : -40 ≤ p.x <;> by_cases h2 : p.x ≤ 40 <;> by_cases h3 : -40 ≤ p.y <;> by_cases h4 : p.y ≤ 40 <;> simp [h1, h2, h3, h4]
theorem impl_IsPeg_eq {L : Nat} {p : Pt} : (In p → impl_IsPeg L p.x p.y = some true) ∧ (¬ In p → impl_IsPeg L p.x p.y = some false) := by
  unfold impl_IsPeg impl_within In
  simp only [gbind_eq, ile_eq]
  by_cases h1 : -40 ≤ p.x <;> by_cases h2 : p.x ≤ 40 <;> by_cases h3 : -40 ≤ p.y <;> by_cases h4 : p.y ≤ 40 <;> simp [h1, h2, h3, h4]
theorem pt_eq_iff {p q : Pt} : (decide (p.x = q.x) && decide (p.y = q.y)) = true ↔ p = q := by
  cases p; cases q; simp
theorem lsub0 {a : List Pt} {i : Int} (h0 : 0 ≤ i) (h1 : i ≤ a.length) : lsub a 0 i = a.take i.toNat := by
  rw [lsub_eq]; simp
theorem lsub0_len {a : List Pt} {i : Int} (h0 : 0 ≤ i) (h1 : i ≤ a.length) : ilen (lsub (List.map ep a) 0 i) = i := by
  rw [lsub_eq, ilen_eq]; simp; omega
theorem lsub0_get {a : List Pt} {i j : Int} (h0 : 0 ≤ j) (hj : j < i) (h1 : i ≤ a.length) : lget (lsub a 0 i) j = some (pt a j) := by
  rw [lsub0 (by omega) h1, lget_eq, if_pos h0, List.getElem?_take, if_pos (by omega), pt_get h0 (by omega)]
theorem good_l1 {L : Nat} {κ0 : (List Pt) → Int → (List Pt) → Int → Int → Option Bool} {a v17 : List Pt} {v3 v18 i : Int} {p : Pt} (hi : 0 ≤ i) (hl : i ≤ a.length) (hs : (a.length : Int) ≤ 10) {m : Nat} (hm : i < m) :
    ((∃ j, 0 ≤ j ∧ j < i ∧ pt a j = p) → spec_pgGood_l1 L κ0 a v3 v17 v18 i p m 0 = some false) ∧ ((∀ j, 0 ≤ j → j < i → ¬ pt a j = p) → spec_pgGood_l1 L κ0 a v3 v17 v18 i p m 0 = κ0 a v3 v17 v18 (i + 1)) := by
  refine search (lo := 0) (n := i) (hi := i) (bad := fun j => pt a j = p) (Int.le_refl _) ?_ ?_ ?_ m 0 (Int.le_refl _) (by omega) (by omega) (by omega)
  · intro m v h0 _ h
    rw [spec_pgGood_l1]
    simp only [lsub0_len hi hl, ilt_eq, h, decide_false, cond_false, iadd_eq]
    rw [wr_id (by omega)]
  · intro m v h0 h hb
    rw [spec_pgGood_l1]
    simp only [lsub0_len hi hl, ilt_eq, h, decide_true, cond_true, lsub0_get h0 h hl, gbind_eq, Option.bind_some, ieq_eq, hb, Bool.and_self]
  · intro m v h0 h hb
    rw [spec_pgGood_l1]
    simp only [lsub0_len hi hl, ilt_eq, h, decide_true, cond_true, lsub0_get h0 h hl, gbind_eq, Option.bind_some, ieq_eq, iadd_eq]
    have : (decide (p.x = (pt a v).x) && decide (p.y = (pt a v).y)) = false := by
      rw [← Bool.not_eq_true, pt_eq_iff]; exact fun e => hb e.symm
    rw [this, cond_false, wr_id (by omega)]
theorem wr_s {i : Int} (h : -1000000 ≤ i ∧ i ≤ 1000000) : wr .i64 i = i := wr_id (by omega)
theorem good_l3 {L : Nat} {κ1 : (List Pt) → Int → (List Pt) → Int → Int → Option Bool} {a v40 : List Pt} {v41 i : Int} (hi : 0 ≤ i) (hil : i < a.length) (hs : (a.length : Int) ≤ 10) (hin : ∀ i, In (pt a i)) {m : Nat} (hm : (a.length : Int) - (i + 2) < m) (hm0 : 0 < m) :
    ((∃ k, i + 2 ≤ k ∧ k < (if i = 0 then (a.length : Int) - 1 else a.length) ∧ Meet (pt a i) (pt a (i + 1)) (pt a k) (pt a (k + 1))) → spec_pgGood_l3 L κ1 a a.length v40 v41 i (pt a i) (pt a (i + 1)) m (i + 2) = some false) ∧
    ((∀ k, i + 2 ≤ k → k < (if i = 0 then (a.length : Int) - 1 else a.length) → ¬ Meet (pt a i) (pt a (i + 1)) (pt a k) (pt a (k + 1))) → spec_pgGood_l3 L κ1 a a.length v40 v41 i (pt a i) (pt a (i + 1)) m (i + 2) = κ1 a a.length v40 v41 (i + 1)) := by
  have hne : a ≠ [] := by intro e; subst e; simp at hil; omega
  refine search (lo := i + 2) (n := if i = 0 then (a.length : Int) - 1 else a.length) (hi := 12) (bad := fun k => Meet (pt a i) (pt a (i + 1)) (pt a k) (pt a (k + 1))) (by split <;> omega) ?_ ?_ ?_ m (i + 2) (Int.le_refl _) (by omega) (by split <;> omega) hm0
  · intro m v h0 _ h
    rw [spec_pgGood_l3]
    simp only [ilt_eq, isub_eq, iadd_eq]
    rw [wr_s (i := v - i) (by omega), wr_s (i := (a.length : Int) - 1) (by omega), wr_s (i := i + 1) (by omega)]
    by_cases h1 : v < (a.length : Int)
    · have h2 : ¬ (v - i < (a.length : Int) - 1) := by split at h <;> omega
      simp only [h1, h2, decide_true, decide_false, cond_true, cond_false]
    · simp only [h1, decide_false, cond_false]
  · intro m v h0 h hb
    rw [spec_pgGood_l3]
    have h1 : v < (a.length : Int) := by split at h <;> omega
    have h2 : v - i < (a.length : Int) - 1 := by split at h <;> omega
    have h3 : ¬ ((a.length : Int) = 0) := by omega
    simp only [ilt_eq, isub_eq, iadd_eq, ieq_eq]
    rw [wr_s (i := v - i) (by omega), wr_s (i := (a.length : Int) - 1) (by omega), wr_s (i := v + 1) (by omega)]
    simp only [h1, h2, h3, decide_true, decide_false, cond_true, cond_false, gbind_eq, lget_pt (show 0 ≤ v by omega) h1, lget_rem (show 0 ≤ v + 1 by omega) hne, Option.bind_some]
    rw [spec_pgMeet_eq (hin _).nr (hin _).nr (hin _).nr (hin _).nr]
    simp [hb]
  · intro m v h0 h hb
    rw [spec_pgGood_l3]
    have h1 : v < (a.length : Int) := by split at h <;> omega
    have h2 : v - i < (a.length : Int) - 1 := by split at h <;> omega
    have h3 : ¬ ((a.length : Int) = 0) := by omega
    simp only [ilt_eq, isub_eq, iadd_eq, ieq_eq]
    rw [wr_s (i := v - i) (by omega), wr_s (i := (a.length : Int) - 1) (by omega), wr_s (i := v + 1) (by omega)]
    simp only [h1, h2, h3, decide_true, decide_false, cond_true, cond_false, gbind_eq, lget_pt (show 0 ≤ v by omega) h1, lget_rem (show 0 ≤ v + 1 by omega) hne, Option.bind_some]
    rw [spec_pgMeet_eq (hin _).nr (hin _).nr (hin _).nr (hin _).nr]
    simp [hb]
theorem good_l2 {L : Nat} {a : List Pt} (hn : 3 ≤ (a.length : Int)) (hs : (a.length : Int) ≤ 10) (hL : 20 < L) (hin : ∀ i, In (pt a i)) {m : Nat} (hm : (a.length : Int) < m) :
    ((∃ i, 0 ≤ i ∧ i < (a.length : Int) ∧ (turn (pt a i) (pt a (i + 1)) (pt a (i + 2)) = 0 ∨ ∃ k, i + 2 ≤ k ∧ k < (if i = 0 then (a.length : Int) - 1 else a.length) ∧ Meet (pt a i) (pt a (i + 1)) (pt a k) (pt a (k + 1)))) → spec_pgGood_l2 L m a a.length a a.length 0 = some false) ∧
    ((∀ i, 0 ≤ i → i < (a.length : Int) → ¬ (turn (pt a i) (pt a (i + 1)) (pt a (i + 2)) = 0 ∨ ∃ k, i + 2 ≤ k ∧ k < (if i = 0 then (a.length : Int) - 1 else a.length) ∧ Meet (pt a i) (pt a (i + 1)) (pt a k) (pt a (k + 1)))) → spec_pgGood_l2 L m a a.length a a.length 0 = some true) := by
  have hne : a ≠ [] := by intro e; subst e; simp at hn
  have h3 : ¬ ((a.length : Int) = 0) := by omega
  refine search (f := fun m v => spec_pgGood_l2 L m a a.length a a.length v) (lo := 0) (n := (a.length : Int)) (hi := 10)
    (bad := fun i => turn (pt a i) (pt a (i + 1)) (pt a (i + 2)) = 0 ∨ ∃ k, i + 2 ≤ k ∧ k < (if i = 0 then (a.length : Int) - 1 else a.length) ∧ Meet (pt a i) (pt a (i + 1)) (pt a k) (pt a (k + 1))) hs ?_ ?_ ?_ m 0 (Int.le_refl _) (by omega) (by omega) (by omega)
  · intro m v h0 _ h
    simp only [spec_pgGood_l2, ilt_eq, h, decide_false, cond_false]
  · intro m v h0 h hb
    simp only [spec_pgGood_l2, ilt_eq, ieq_eq, iadd_eq, h3, h, decide_true, decide_false, cond_true, cond_false, gbind_eq, wr_s (i := v + 1) (by omega), wr_s (i := v + 2) (by omega), lget_pt h0 h, lget_rem (show 0 ≤ v + 1 by omega) hne, lget_rem (show 0 ≤ v + 2 by omega) hne, Option.bind_some]
    rw [spec_pgTurn_eq (hin _).nr (hin _).nr (hin _).nr]
    simp only [Option.bind_some]
    by_cases ht : turn (pt a v) (pt a (v + 1)) (pt a (v + 2)) = 0
    · simp only [ht, decide_true, cond_true]
    · simp only [ht, decide_false, cond_false]
      exact (good_l3 h0 h hs hin (by omega) (by omega)).1 (hb.resolve_left ht)
  · intro m v h0 h hb
    simp only [spec_pgGood_l2, ilt_eq, ieq_eq, iadd_eq, h3, h, decide_true, decide_false, cond_true, cond_false, gbind_eq, wr_s (i := v + 1) (by omega), wr_s (i := v + 2) (by omega), lget_pt h0 h, lget_rem (show 0 ≤ v + 1 by omega) hne, lget_rem (show 0 ≤ v + 2 by omega) hne, Option.bind_some]
    rw [spec_pgTurn_eq (hin _).nr (hin _).nr (hin _).nr]
    simp only [Option.bind_some]
    have ht : ¬ turn (pt a v) (pt a (v + 1)) (pt a (v + 2)) = 0 := fun e => hb (.inl e)
    simp only [ht, decide_false, cond_false]
    exact (good_l3 h0 h hs hin (by omega) (by omega)).2 fun k h1 h2 h3 => hb (.inr ⟨k, h1, h2, h3⟩)
end Go.AM
namespace Go.AM
theorem good_l0 {L : Nat} {a : List Pt} (hn : 3 ≤ (a.length : Int)) (hs : (a.length : Int) ≤ 10) (hL : 20 < L) {m : Nat} (hm : (a.length : Int) < m) :
    ((∃ i, 0 ≤ i ∧ i < (a.length : Int) ∧ (¬ In (pt a i) ∨ ∃ k, 0 ≤ k ∧ k < i ∧ pt a k = pt a i)) → spec_pgGood_l0 L m a a.length a a.length 0 = some false) ∧
    ((∀ i, 0 ≤ i → i < (a.length : Int) → ¬ (¬ In (pt a i) ∨ ∃ k, 0 ≤ k ∧ k < i ∧ pt a k = pt a i)) → spec_pgGood_l0 L m a a.length a a.length 0 = spec_pgGood_l2 L L a a.length a a.length 0) := by
  refine search (f := fun m v => spec_pgGood_l0 L m a a.length a a.length v) (lo := 0) (n := (a.length : Int)) (hi := 10)
    (bad := fun i => ¬ In (pt a i) ∨ ∃ k, 0 ≤ k ∧ k < i ∧ pt a k = pt a i) hs ?_ ?_ ?_ m 0 (Int.le_refl _) (by omega) (by omega) (by omega)
  · intro m v h0 _ h
    simp only [spec_pgGood_l0, ilt_eq, h, decide_false, cond_false, ilen_mapep]
  · intro m v h0 h hb
    simp only [spec_pgGood_l0, ilt_eq, ile_eq, h, h0, ilen_mapep, show v ≤ (a.length : Int) by omega, decide_true, Bool.and_self, cond_true, gbind_eq, lget_pt h0 h, Option.bind_some]
    by_cases hi : In (pt a v)
    · rw [spec_pgIs_eq.1 hi]
      simp only [Option.bind_some, Bool.not_true, cond_false]
      obtain ⟨k, q1, q2, q3⟩ := hb.resolve_left fun h => h hi
      exact (good_l1 h0 (by omega) hs (by omega)).1 ⟨k, q1, q2, q3⟩
    · rw [spec_pgIs_eq.2 hi]
      simp only [Option.bind_some, Bool.not_false, cond_true]
  · intro m v h0 h hb
    simp only [spec_pgGood_l0, ilt_eq, ile_eq, h, h0, ilen_mapep, show v ≤ (a.length : Int) by omega, decide_true, Bool.and_self, cond_true, gbind_eq, lget_pt h0 h, Option.bind_some]
    have hi : In (pt a v) := Classical.byContradiction fun e => hb (.inl e)
    rw [spec_pgIs_eq.1 hi]
    simp only [Option.bind_some, Bool.not_true, cond_false]
    exact (good_l1 h0 (by omega) hs (by omega)).2 fun k q1 q2 q3 => hb (.inr ⟨k, q1, q2, q3⟩)
theorem spec_l1In_eq {L : Nat} {n lo hi : Int} : spec_l1In L n lo hi = some (decide (lo ≤ n ∧ n ≤ hi)) := by
  unfold spec_l1In
  simp only [ile_eq]
  by_cases h1 : lo ≤ n <;> by_cases h2 : n ≤ hi <;> simp [h1, h2]
theorem impl_within_eq {L : Nat} {n lo hi : Int} : impl_within L n lo hi = some (decide (lo ≤ n ∧ n ≤ hi)) := by
  unfold impl_within
  simp only [ile_eq]
  by_cases h1 : lo ≤ n <;> by_cases h2 : n ≤ hi <;> simp [h1, h2]
open Classical in
theorem spec_pgGood_eq {L : Nat} {a : List Pt} (hL : 20 < L) : spec_pgGood L a = some (decide (Good_ a)) := by
  unfold spec_pgGood
  simp only [ilen_mapep, spec_l1In_eq, gbind_eq, Option.bind_some]
  by_cases hn : 3 ≤ (a.length : Int) ∧ (a.length : Int) ≤ 10
  · simp only [hn, and_self, decide_true, Bool.not_true, cond_false]
    have hne : a ≠ [] := by intro e; subst e; simp at hn
    by_cases h0 : ∃ i, 0 ≤ i ∧ i < (a.length : Int) ∧ (¬ In (pt a i) ∨ ∃ k, 0 ≤ k ∧ k < i ∧ pt a k = pt a i)
    · rw [(good_l0 hn.1 hn.2 hL (by omega)).1 h0]
      have : ¬ Good_ a := fun g => by
        obtain ⟨i, q1, q2, q3⟩ := h0
        rcases q3 with q3 | ⟨k, q4, q5, q6⟩
        · exact q3 (g.isIn i q1 q2)
        · exact g.ne i k q4 q5 q2 q6
      simp [this]
    · have h0' : ∀ i, 0 ≤ i → i < (a.length : Int) → ¬ (¬ In (pt a i) ∨ ∃ k, 0 ≤ k ∧ k < i ∧ pt a k = pt a i) := fun i q1 q2 q3 => h0 ⟨i, q1, q2, q3⟩
      rw [(good_l0 hn.1 hn.2 hL (by omega)).2 h0']
      have hIn : ∀ i, 0 ≤ i → i < (a.length : Int) → In (pt a i) := fun i q1 q2 => Classical.byContradiction fun e => h0' i q1 q2 (.inl e)
      have hin := in_all hIn hne
      by_cases h1 : ∃ i, 0 ≤ i ∧ i < (a.length : Int) ∧ (turn (pt a i) (pt a (i + 1)) (pt a (i + 2)) = 0 ∨ ∃ k, i + 2 ≤ k ∧ k < (if i = 0 then (a.length : Int) - 1 else a.length) ∧ Meet (pt a i) (pt a (i + 1)) (pt a k) (pt a (k + 1)))
      · rw [(good_l2 hn.1 hn.2 hL hin (by omega)).1 h1]
        have : ¬ Good_ a := fun g => by
          obtain ⟨i, q1, q2, q3⟩ := h1
          rcases q3 with q3 | ⟨k, q4, q5, q6⟩
          · exact g.turn i q1 q2 q3
          · exact g.apart i k q1 q4 (by split at q5 <;> omega) (by split at q5 <;> omega) q6
        simp [this]
      · have h1' : ∀ i, 0 ≤ i → i < (a.length : Int) → ¬ (turn (pt a i) (pt a (i + 1)) (pt a (i + 2)) = 0 ∨ ∃ k, i + 2 ≤ k ∧ k < (if i = 0 then (a.length : Int) - 1 else a.length) ∧ Meet (pt a i) (pt a (i + 1)) (pt a k) (pt a (k + 1))) := fun i q1 q2 q3 => h1 ⟨i, q1, q2, q3⟩
        rw [(good_l2 hn.1 hn.2 hL hin (by omega)).2 h1']
        have : Good_ a := ⟨hn.1, hn.2, hIn, fun i k q1 q2 q3 q4 => h0' i (by omega) q3 (.inr ⟨k, q1, q2, q4⟩), fun i q1 q2 q3 => h1' i q1 q2 (.inl q3), fun i k q1 q2 q3 q4 q5 => h1' i q1 (by omega) (.inr ⟨k, q2, by split <;> omega, q5⟩)⟩
        simp [this]
  · have : ¬ Good_ a := fun g => hn ⟨g.lo, g.hi⟩
    simp only [hn, this, decide_false, Bool.not_false, cond_true]
theorem arePegs_eq {L : Nat} {a : List Pt} (hs : (a.length : Int) ≤ 1000000) (hL : (a.length : Int) < L) :
    ((∃ i, 0 ≤ i ∧ i < (a.length : Int) ∧ ¬ In (pt a i)) → impl_arePegs L a = some false) ∧ ((∀ i, 0 ≤ i → i < (a.length : Int) → In (pt a i)) → impl_arePegs L a = some true) := by
  have key : (∃ i, 0 ≤ i ∧ i < (a.length : Int) ∧ ¬ In (pt a i)) → ∃ i, 0 ≤ i ∧ slices_IndexFunc_impl_Peg_impl_Peg_arePegs_l0 L a L 0 = some i := by
    have : ∀ (m : Nat) (v : Int), 0 ≤ v → (a.length : Int) - v < m → (∃ i, v ≤ i ∧ i < (a.length : Int) ∧ ¬ In (pt a i)) → ∃ i, 0 ≤ i ∧ slices_IndexFunc_impl_Peg_impl_Peg_arePegs_l0 L a m v = some i := by
      intro m
      induction m with
      | zero => rintro v h0 h ⟨i, q1, q2, _⟩; omega
      | succ m ih =>
        rintro v h0 h ⟨i, q1, q2, q3⟩
        have hv : v < (a.length : Int) := by omega
        simp only [slices_IndexFunc_impl_Peg_impl_Peg_arePegs_l0, ilt_eq, ilen_mapep, hv, decide_true, cond_true, gbind_eq, lget_pt h0 hv, Option.bind_some, impl_arePegs_1]
        by_cases hi : In (pt a v)
        · rw [impl_IsPeg_eq.1 hi]
          simp only [Option.bind_some, Bool.not_true, cond_false, iadd_eq]
          rw [wr_s (by omega)]
          refine ih (v + 1) (by omega) (by omega) ⟨i, ?_, q2, q3⟩
          by_cases e : i = v
          · subst e; exact absurd hi q3
          · omega
        · rw [impl_IsPeg_eq.2 hi]
          exact ⟨v, h0, by simp⟩
    exact this L 0 (Int.le_refl _) (by omega)
  constructor
  · intro h
    obtain ⟨i, q1, q2⟩ := key h
    simp only [impl_arePegs, slices_ContainsFunc_impl_Peg_impl_Peg_arePegs, slices_IndexFunc_impl_Peg_impl_Peg_arePegs, gbind_eq, q2, Option.bind_some, ile_eq, q1, decide_true, Bool.not_true]
  · intro h
    have := (search (f := fun m v => slices_IndexFunc_impl_Peg_impl_Peg_arePegs_l0 L a m v) (r := none) (k := some (-1)) (lo := 0) (n := (a.length : Int)) (hi := (a.length : Int)) (bad := fun i => False) (Int.le_refl _) (fun m v h0 _ h => by
        simp only [slices_IndexFunc_impl_Peg_impl_Peg_arePegs_l0, ilt_eq, ilen_mapep, h, decide_false, cond_false]) (fun m v h0 h hb => hb.elim) (fun m v h0 hv _ => by
        simp only [slices_IndexFunc_impl_Peg_impl_Peg_arePegs_l0, ilt_eq, ilen_mapep, hv, decide_true, cond_true, gbind_eq, lget_pt h0 hv, Option.bind_some, impl_arePegs_1]
        rw [impl_IsPeg_eq.1 (h v h0 hv)]
        simp only [Option.bind_some, Bool.not_true, cond_false, iadd_eq]
        rw [wr_s (by omega)]) L 0 (Int.le_refl _) (by omega) (by omega) (by omega)).2 fun _ _ _ h => h
    simp only [impl_arePegs, slices_ContainsFunc_impl_Peg_impl_Peg_arePegs, slices_IndexFunc_impl_Peg_impl_Peg_arePegs, gbind_eq, this, Option.bind_some, ile_eq]
    rfl
theorem contains_eq {L : Nat} {b : List Pt} {p : Pt} (hs : (b.length : Int) ≤ 1000000) (hL : (b.length : Int) < L) :
    ((∃ j, 0 ≤ j ∧ j < (b.length : Int) ∧ pt b j = p) → slices_Contains_impl_Peg_impl_Peg L b p.x p.y = some true) ∧ ((∀ j, 0 ≤ j → j < (b.length : Int) → ¬ pt b j = p) → slices_Contains_impl_Peg_impl_Peg L b p.x p.y = some false) := by
  have heq : ∀ v, (decide (p.x = (pt b v).x) && decide (p.y = (pt b v).y)) = decide (pt b v = p) := fun v => by
    rw [Bool.eq_iff_iff, pt_eq_iff]
    simp [eq_comm]
  have key : (∃ j, 0 ≤ j ∧ j < (b.length : Int) ∧ pt b j = p) → ∃ i, 0 ≤ i ∧ slices_Index_impl_Peg_impl_Peg_l0 L b p.x p.y L 0 = some i := by
    have : ∀ (m : Nat) (v : Int), 0 ≤ v → (b.length : Int) - v < m → (∃ i, v ≤ i ∧ i < (b.length : Int) ∧ pt b i = p) → ∃ i, 0 ≤ i ∧ slices_Index_impl_Peg_impl_Peg_l0 L b p.x p.y m v = some i := by
      intro m
      induction m with
      | zero => rintro v h0 h ⟨i, q1, q2, _⟩; omega
      | succ m ih =>
        rintro v h0 h ⟨i, q1, q2, q3⟩
        have hv : v < (b.length : Int) := by omega
        simp only [slices_Index_impl_Peg_impl_Peg_l0, ilt_eq, ilen_mapep, hv, decide_true, cond_true, gbind_eq, lget_pt h0 hv, Option.bind_some, ieq_eq, heq]
        by_cases hi : pt b v = p
        · exact ⟨v, h0, by simp [hi]⟩
        · simp only [hi, decide_false, cond_false, iadd_eq]
          rw [wr_s (by omega)]
          refine ih (v + 1) (by omega) (by omega) ⟨i, ?_, q2, q3⟩
          by_cases e : i = v
          · subst e; exact absurd q3 hi
          · omega
    exact this L 0 (Int.le_refl _) (by omega)
  constructor
  · intro h
    obtain ⟨i, q1, q2⟩ := key h
    simp only [slices_Contains_impl_Peg_impl_Peg, slices_Index_impl_Peg_impl_Peg, gbind_eq, q2, Option.bind_some, ile_eq, q1, decide_true]
  · intro h
    have := (search (f := fun m v => slices_Index_impl_Peg_impl_Peg_l0 L b p.x p.y m v) (r := none) (k := some (-1)) (lo := 0) (n := (b.length : Int)) (hi := (b.length : Int)) (bad := fun i => False) (Int.le_refl _) (fun m v h0 _ h => by
        simp only [slices_Index_impl_Peg_impl_Peg_l0, ilt_eq, ilen_mapep, h, decide_false, cond_false]) (fun m v h0 h hb => hb.elim) (fun m v h0 hv _ => by
        simp only [slices_Index_impl_Peg_impl_Peg_l0, ilt_eq, ilen_mapep, hv, decide_true, cond_true, gbind_eq, lget_pt h0 hv, Option.bind_some, ieq_eq, heq, h v h0 hv, decide_false, cond_false, iadd_eq]
        rw [wr_s (by omega)]) L 0 (Int.le_refl _) (by omega) (by omega) (by omega)).2 fun _ _ _ h => h
    simp only [slices_Contains_impl_Peg_impl_Peg, slices_Index_impl_Peg_impl_Peg, gbind_eq, this, Option.bind_some, ile_eq]
    rfl
theorem pt_take {a : List Pt} {i j : Int} (h0 : 0 ≤ j) (hj : j < i) (h1 : i ≤ a.length) : pt (lsub a 0 i) j = pt a j := by
  have h2 := lsub0_get h0 hj h1
  have h3 : ((lsub a 0 i).length : Int) = i := by rw [lsub0 (by omega) h1]; simp; omega
  rw [lget_pt h0 (by omega)] at h2
  exact Option.some.inj h2
def BadM (a : List Pt) (i k : Int) : Prop := k + 1 ≠ i ∧ ¬ (i + 1 = (a.length : Int) ∧ k = 0) ∧ Meet (pt a k) (pt a (k + 1)) (pt a i) (pt a (i + 1))
theorem poly_l1 {L : Nat} {κ0 : (List Pt) → Int → (List Pt) → Int → Int → Option Bool} {a v17 : List Pt} {v18 i : Int} (hi : 0 ≤ i) (hil : i < a.length) (hs : (a.length : Int) ≤ 10) (hin : ∀ i, In (pt a i)) {m : Nat} (hm : i < m) :
    ((∃ k, 0 ≤ k ∧ k < i ∧ BadM a i k) → impl_IsPolygon_l1 L κ0 a a.length v17 v18 i (pt a i) m 0 = some false) ∧
    ((∀ k, 0 ≤ k → k < i → ¬ BadM a i k) → impl_IsPolygon_l1 L κ0 a a.length v17 v18 i (pt a i) m 0 = κ0 a a.length v17 v18 (i + 1)) := by
  have hne : a ≠ [] := by intro e; subst e; simp at hil; omega
  refine search (lo := 0) (n := i) (hi := i) (bad := BadM a i) (Int.le_refl _) ?_ ?_ ?_ m 0 (Int.le_refl _) (by omega) (by omega) (by omega)
  · intro m v h0 _ h
    simp only [impl_IsPolygon_l1, ilt_eq, h, decide_false, cond_false, iadd_eq]
    rw [wr_s (by omega)]
  · intro m v h0 h hb
    obtain ⟨b1, b2, b3⟩ := hb
    simp only [impl_IsPolygon_l1, ilt_eq, ieq_eq, iadd_eq, wr_s (i := v + 1) (by omega), wr_s (i := i + 1) (by omega), h, b1, decide_true, decide_false, cond_true, cond_false, gbind_eq,
      lget_pt h0 (show v < (a.length : Int) by omega), lget_pt (show 0 ≤ v + 1 by omega) (show v + 1 < (a.length : Int) by omega), impl_at_eq hne (show (a.length : Int) ≤ 1000000000 by omega), Option.bind_some]
    rw [impl_meet_eq (hin _).nr (hin _).nr (hin _).nr (hin _).nr]
    rw [decide_eq_true b3]
    by_cases c1 : i + 1 = (a.length : Int)
    · have c2 : ¬ v = 0 := fun e => b2 ⟨c1, e⟩
      simp [c1, c2]
    · simp [c1]
  · intro m v h0 h hb
    simp only [impl_IsPolygon_l1, ilt_eq, ieq_eq, iadd_eq, wr_s (i := v + 1) (by omega), wr_s (i := i + 1) (by omega), h, decide_true, decide_false, cond_true, cond_false, gbind_eq,
      lget_pt h0 (show v < (a.length : Int) by omega), lget_pt (show 0 ≤ v + 1 by omega) (show v + 1 < (a.length : Int) by omega), impl_at_eq hne (show (a.length : Int) ≤ 1000000000 by omega), Option.bind_some]
    rw [impl_meet_eq (hin _).nr (hin _).nr (hin _).nr (hin _).nr]
    by_cases c0 : v + 1 = i
    · simp only [c0, decide_true, cond_true]
    · simp only [c0, decide_false, cond_false]
      by_cases c1 : i + 1 = (a.length : Int)
      · by_cases c2 : v = 0
        · simp [c1, c2]
        · have b3 : ¬ Meet (pt a v) (pt a (v + 1)) (pt a i) (pt a (i + 1)) := fun e => hb ⟨c0, fun q => c2 q.2, e⟩
          simp [c1, c2]
          rw [← c1]
          simp [b3]
      · have b3 : ¬ Meet (pt a v) (pt a (v + 1)) (pt a i) (pt a (i + 1)) := fun e => hb ⟨c0, fun q => c1 q.1, e⟩
        simp [c1, b3]
theorem poly_l0 {L : Nat} {a : List Pt} (hn : 3 ≤ (a.length : Int)) (hs : (a.length : Int) ≤ 10) (hL : 20 < L) (hin : ∀ i, In (pt a i)) {m : Nat} (hm : (a.length : Int) < m) :
    ((∃ i, 0 ≤ i ∧ i < (a.length : Int) ∧ ((∃ k, 0 ≤ k ∧ k < i ∧ pt a k = pt a i) ∨ turn (pt a (i - 1)) (pt a i) (pt a (i + 1)) = 0 ∨ ∃ k, 0 ≤ k ∧ k < i ∧ BadM a i k)) → impl_IsPolygon_l0 L m a a.length a a.length 0 = some false) ∧
    ((∀ i, 0 ≤ i → i < (a.length : Int) → ¬ ((∃ k, 0 ≤ k ∧ k < i ∧ pt a k = pt a i) ∨ turn (pt a (i - 1)) (pt a i) (pt a (i + 1)) = 0 ∨ ∃ k, 0 ≤ k ∧ k < i ∧ BadM a i k)) → impl_IsPolygon_l0 L m a a.length a a.length 0 = some true) := by
  have hne : a ≠ [] := by intro e; subst e; simp at hn
  have hc : ∀ v, 0 ≤ v → v < (a.length : Int) → ((∃ k, 0 ≤ k ∧ k < v ∧ pt a k = pt a v) → slices_Contains_impl_Peg_impl_Peg L (lsub a 0 v) (pt a v).x (pt a v).y = some true) ∧ ((¬ ∃ k, 0 ≤ k ∧ k < v ∧ pt a k = pt a v) → slices_Contains_impl_Peg_impl_Peg L (lsub a 0 v) (pt a v).x (pt a v).y = some false) := by
    intro v h0 h
    have hl : ((lsub a 0 v).length : Int) = v := by rw [lsub0 (by omega) (by omega)]; simp; omega
    obtain ⟨h1, h2⟩ := contains_eq (L := L) (b := lsub a 0 v) (p := pt a v) (by omega) (by omega)
    rw [hl] at h1 h2
    refine ⟨fun ⟨k, q1, q2, q3⟩ => h1 ⟨k, q1, q2, by rw [pt_take q1 q2 (by omega)]; exact q3⟩, fun hno => h2 fun j q1 q2 q3 => hno ⟨j, q1, q2, ?_⟩⟩
    rwa [pt_take q1 q2 (by omega)] at q3
  refine search (f := fun m v => impl_IsPolygon_l0 L m a a.length a a.length v) (lo := 0) (n := (a.length : Int)) (hi := 10)
    (bad := fun i => (∃ k, 0 ≤ k ∧ k < i ∧ pt a k = pt a i) ∨ turn (pt a (i - 1)) (pt a i) (pt a (i + 1)) = 0 ∨ ∃ k, 0 ≤ k ∧ k < i ∧ BadM a i k) hs ?_ ?_ ?_ m 0 (Int.le_refl _) (by omega) (by omega) (by omega)
  · intro m v h0 _ h
    simp only [impl_IsPolygon_l0, ilt_eq, h, decide_false, cond_false]
  · intro m v h0 h hb
    simp only [impl_IsPolygon_l0, ilt_eq, ile_eq, isub_eq, iadd_eq, h, h0, ilen_mapep, show v ≤ (a.length : Int) by omega, decide_true, Bool.and_self, cond_true, gbind_eq, lget_pt h0 h, Option.bind_some, wr_s (i := v + 1) (by omega), wr_s (i := v - 1) (by omega),
      impl_at_eq hne (show (a.length : Int) ≤ 1000000000 by omega)]
    rw [impl_turn_eq (hin _).nr (hin _).nr (hin _).nr]
    by_cases c : ∃ k, 0 ≤ k ∧ k < v ∧ pt a k = pt a v
    · rw [(hc v h0 h).1 c]; rfl
    · rw [(hc v h0 h).2 c]
      simp only [Option.bind_some, cond_false, ieq_eq]
      by_cases t : turn (pt a (v - 1)) (pt a v) (pt a (v + 1)) = 0
      · simp only [t, decide_true, cond_true]
      · simp only [t, decide_false, cond_false]
        exact (poly_l1 h0 h hs hin (by omega)).1 ((hb.resolve_left c).resolve_left t)
  · intro m v h0 h hb
    simp only [impl_IsPolygon_l0, ilt_eq, ile_eq, isub_eq, iadd_eq, h, h0, ilen_mapep, show v ≤ (a.length : Int) by omega, decide_true, Bool.and_self, cond_true, gbind_eq, lget_pt h0 h, Option.bind_some, wr_s (i := v + 1) (by omega), wr_s (i := v - 1) (by omega),
      impl_at_eq hne (show (a.length : Int) ≤ 1000000000 by omega)]
    rw [impl_turn_eq (hin _).nr (hin _).nr (hin _).nr, (hc v h0 h).2 fun c => hb (.inl c)]
    have t : ¬ turn (pt a (v - 1)) (pt a v) (pt a (v + 1)) = 0 := fun e => hb (.inr (.inl e))
    simp only [Option.bind_some, cond_false, ieq_eq, t, decide_false]
    exact (poly_l1 h0 h hs hin (by omega)).2 fun k q1 q2 q3 => hb (.inr (.inr ⟨k, q1, q2, q3⟩))
open Classical in
theorem impl_IsPolygon_eq {L : Nat} {a : List Pt} (hL : 20 < L) : impl_IsPolygon L a = some (decide (Good_ a)) := by
  unfold impl_IsPolygon
  simp only [ilen_mapep, impl_within_eq, gbind_eq, Option.bind_some]
  by_cases hn : 3 ≤ (a.length : Int) ∧ (a.length : Int) ≤ 10
  · simp only [hn, and_self, decide_true, Bool.not_true, cond_false]
    have hne : a ≠ [] := by intro e; subst e; simp at hn
    have hl : 0 < (a.length : Int) := by omega
    by_cases hI : ∀ i, 0 ≤ i → i < (a.length : Int) → In (pt a i)
    · rw [(arePegs_eq (by omega) (by omega)).2 hI]
      simp only [Option.bind_some, Bool.not_true, cond_false]
      have hin := in_all hI hne
      by_cases h0 : ∃ i, 0 ≤ i ∧ i < (a.length : Int) ∧ ((∃ k, 0 ≤ k ∧ k < i ∧ pt a k = pt a i) ∨ turn (pt a (i - 1)) (pt a i) (pt a (i + 1)) = 0 ∨ ∃ k, 0 ≤ k ∧ k < i ∧ BadM a i k)
      · rw [(poly_l0 hn.1 hn.2 hL hin (by omega)).1 h0]
        have : ¬ Good_ a := fun g => by
          obtain ⟨i, q1, q2, q3⟩ := h0
          rcases q3 with ⟨k, q4, q5, q6⟩ | q3 | ⟨k, q4, q5, q6, q7, q8⟩
          · exact g.ne i k q4 q5 q2 q6
          · refine g.turn ((i - 1) % a.length) (Int.emod_nonneg _ (by omega)) (Int.emod_lt_of_pos _ hl) ?_
            rw [pt_congr (a := a) (i := (i - 1) % a.length) (j := i - 1) (Int.emod_emod_of_dvd _ (Int.dvd_refl _)), pt_congr (a := a) (i := (i - 1) % a.length + 1) (j := i) (by rw [Int.emod_add_emod]; congr 1; omega),
              pt_congr (a := a) (i := (i - 1) % a.length + 2) (j := i + 1) (by rw [Int.emod_add_emod]; congr 1; omega)]
            exact q3
          · exact g.apart k i q4 (by omega) q2 (by
              rcases Int.lt_or_le (i - k) ((a.length : Int) - 1) with h | h
              · exact h
              · exact absurd ⟨by omega, by omega⟩ q7) q8
        simp [this]
      · have h0' : ∀ i, 0 ≤ i → i < (a.length : Int) → ¬ ((∃ k, 0 ≤ k ∧ k < i ∧ pt a k = pt a i) ∨ turn (pt a (i - 1)) (pt a i) (pt a (i + 1)) = 0 ∨ ∃ k, 0 ≤ k ∧ k < i ∧ BadM a i k) := fun i q1 q2 q3 => h0 ⟨i, q1, q2, q3⟩
        rw [(poly_l0 hn.1 hn.2 hL hin (by omega)).2 h0']
        have : Good_ a := ⟨hn.1, hn.2, hI, fun i k q1 q2 q3 q4 => h0' i (by omega) q3 (.inl ⟨k, q1, q2, q4⟩), fun i q1 q2 q3 => by
            refine h0' ((i + 1) % a.length) (Int.emod_nonneg _ (by omega)) (Int.emod_lt_of_pos _ hl) (.inr (.inl ?_))
            rw [pt_congr (a := a) (i := (i + 1) % a.length - 1) (j := i) (by rw [Int.emod_sub_emod]; congr 1; omega), pt_congr (a := a) (i := (i + 1) % a.length) (j := i + 1) (Int.emod_emod_of_dvd _ (Int.dvd_refl _)),
              pt_congr (a := a) (i := (i + 1) % a.length + 1) (j := i + 2) (by rw [Int.emod_add_emod]; congr 1; omega)]
            exact q3, fun i k q1 q2 q3 q4 q5 => h0' k (by omega) q3 (.inr (.inr ⟨i, q1, by omega, by omega, fun q => by omega, q5⟩))⟩
        simp [this]
    · have : ¬ Good_ a := fun g => hI g.isIn
      rw [(arePegs_eq (by omega) (by omega)).1 (by
        refine Classical.byContradiction fun h => hI fun i q1 q2 => Classical.byContradiction fun e => h ⟨i, q1, q2, e⟩)]
      simp [this]
  · have : ¬ Good_ a := fun g => hn ⟨g.lo, g.hi⟩
    simp only [hn, this, decide_false, Bool.not_false, cond_true]
end Go.AM
namespace Go.AM
def sm (g : Int → Int) : Nat → Int
  | 0 => 0
  | k + 1 => sm g k + g k
theorem sm_bd {g : Int → Int} {B : Int} (h : ∀ i, -B ≤ g i ∧ g i ≤ B) : ∀ k : Nat, -(k * B) ≤ sm g k ∧ sm g k ≤ k * B
  | 0 => by simp [sm]
  | k + 1 => by
    have h1 := sm_bd h k
    have h2 := h k
    simp only [sm]
    have : ((k + 1 : Nat) : Int) * B = k * B + B := by rw [Int.natCast_add, Int.add_mul]; simp
    omega
theorem accum {β : Type} {f : Nat → Int → Int → Option β} {S : Int → Int} {r : Option β} {lo n : Int} (hstop : ∀ m, f (m + 1) (S n) n = r) (hgo : ∀ m v, lo ≤ v → v < n → f (m + 1) (S v) v = f m (S (v + 1)) (v + 1)) :
    ∀ (m : Nat) (v : Int), lo ≤ v → v ≤ n → n - v < m → f m (S v) v = r := by
  intro m
  induction m with
  | zero => intro v _ _ h; omega
  | succ m ih =>
    intro v hv hvn hm
    by_cases h : v < n
    · rw [hgo m v hv h]; exact ih (v + 1) (by omega) (by omega) (by omega)
    · have : v = n := by omega
      subst this
      exact hstop m
def cross (p q : Pt) : Int := p.x * q.y - p.y * q.x
theorem cross_bd {p q : Pt} (hp : Nr p) (hq : Nr q) : -2000000 ≤ cross p q ∧ cross p q ≤ 2000000 := by
  have h1 := mul_bd hp.1 hq.2
  have h2 := mul_bd hp.2 hq.1
  unfold cross
  omega
theorem impl_cross_eq {L : Nat} {p q : Pt} (hp : Nr p) (hq : Nr q) : impl_cross L p.x p.y q.x q.y = some (cross p q) := by
  have h1 := mul_bd hp.1 hq.2
  have h2 := mul_bd hp.2 hq.1
  unfold impl_cross cross
  simp only [isub_eq, imul_eq]
  rw [wr_id (n := p.x * q.y) (by omega), wr_id (n := p.y * q.x) (by omega), wr_id (by omega)]
def area (a : List Pt) : Int := sm (fun i => cross (pt a i) (pt a (i + 1))) a.length
theorem impl_twice_eq {L : Nat} {a : List Pt} (hn : a ≠ []) (hs : (a.length : Int) ≤ 1000) (hL : (a.length : Int) < L) (hin : ∀ i, Nr (pt a i)) : impl_twice L a = some (area a) := by
  unfold impl_twice
  have := accum (f := fun m s v => impl_twice_l0 L a m s v) (S := fun v => sm (fun i => cross (pt a i) (pt a (i + 1))) v.toNat) (r := some (area a)) (lo := 0) (n := a.length) (fun m => by
    simp only [impl_twice_l0, ilt_eq, ilen_mapep, Int.lt_irrefl, decide_false, cond_false]; rfl) (fun m v h0 h => by
    simp only [impl_twice_l0, ilt_eq, ilen_mapep, h, decide_true, cond_true, gbind_eq, lget_pt h0 h, Option.bind_some, iadd_eq, wr_s (i := v + 1) (by omega), impl_at_eq hn (show (a.length : Int) ≤ 1000000000 by omega)]
    rw [impl_cross_eq (hin _) (hin _)]
    simp only [Option.bind_some]
    have h1 := sm_bd (fun i => cross_bd (hin i) (hin (i + 1))) v.toNat
    have h2 := cross_bd (hin v) (hin (v + 1))
    have h3 : (v.toNat : Int) * 2000000 ≤ 1000 * 2000000 := by omega
    rw [wr_id (by omega)]
    congr 1
    rw [show (v + 1).toNat = v.toNat + 1 by omega]
    simp only [sm]
    rw [Int.toNat_of_nonneg h0]) L 0 (Int.le_refl _) (by omega) (by omega)
  exact this
end Go.AM
namespace Go.AM
noncomputable def spec_pgStep (L : Nat) (a_0 : Int) (a_1 : Int) (b_0 : Int) (b_1 : Int) : Option (Int) := gbind (spec_pgCommon L (wr IntKind.i64 (isub a_0 b_0)) (wr IntKind.i64 (isub a_1 b_1))) fun r => some r
theorem impl_size_eq {L : Nat} {n : Int} (h : -1000000000 ≤ n ∧ n ≤ 1000000000) : impl_size L n = some (n.natAbs : Int) := by
  unfold impl_size
  simp only [imax_eq, isub_eq]
  rw [wr_id (by omega)]
  congr 1
  split <;> omega
theorem spec_l1Abs_eq {L : Nat} {n : Int} (h : -1000000000 ≤ n ∧ n ≤ 1000000000) : spec_l1Abs L n = some (n.natAbs : Int) := by
  unfold spec_l1Abs spec_l1Most
  simp only [ilt_eq, isub_eq, gbind_eq]
  rw [wr_id (by omega)]
  by_cases h1 : 0 - n < n
  · simp only [h1, decide_true, cond_true, Option.bind_some]; congr 1; omega
  · simp only [h1, decide_false, cond_false, Option.bind_some]; congr 1; omega
theorem divisor_l0 {L : Nat} : ∀ (m : Nat) (u v : Int), (-1000000000 ≤ u ∧ u ≤ 1000000000) → (-1000000000 ≤ v ∧ v ≤ 1000000000) → v.natAbs < m → impl_divisor_l0 L m u v = some (Nat.gcd u.natAbs v.natAbs : Int)
  | 0, _, _, _, _, h => by omega
  | m + 1, u, v, hu, hv, hm => by
    simp only [impl_divisor_l0, ieq_eq]
    by_cases h0 : v = 0
    · subst h0
      simp only [decide_true, Bool.not_true, cond_false, impl_size_eq hu, gbind_eq, Option.bind_some]
      simp
    · simp only [h0, decide_false, Bool.not_false, cond_true, cond_false]
      have h1 : (irem u v).natAbs = u.natAbs % v.natAbs := by rw [irem_eq, Int.natAbs_tmod]
      have h2 := Nat.mod_lt u.natAbs (show 0 < v.natAbs by omega)
      rw [divisor_l0 m v (irem u v) hv (by omega) (by omega), h1]
      congr 2
      rw [Nat.gcd_comm u.natAbs, Nat.gcd_rec v.natAbs u.natAbs, Nat.gcd_comm]
theorem common_l0 {L : Nat} : ∀ (m : Nat) (u v : Nat), v < m → spec_pgCommon_l0 L m u v = some (Nat.gcd u v : Int)
  | 0, _, _, h => by omega
  | m + 1, u, v, hm => by
    simp only [spec_pgCommon_l0, ilt_eq, ieq_eq]
    by_cases h0 : v = 0
    · subst h0
      simp
    · have h1 : (0 : Int) < (v : Int) := by omega
      have h2 : ¬ ((v : Int) = 0) := by omega
      simp only [h1, h2, decide_true, decide_false, cond_true, cond_false]
      have h3 : irem (u : Int) (v : Int) = ((u % v : Nat) : Int) := by rw [irem_nn (by omega)]; simp
      have h4 := Nat.mod_lt u (show 0 < v by omega)
      rw [h3, common_l0 m v (u % v) (by omega)]
      congr 2
      rw [Nat.gcd_comm u v, Nat.gcd_rec v u, Nat.gcd_comm]
def step (p q : Pt) : Int := (Nat.gcd (p.x - q.x).natAbs (p.y - q.y).natAbs : Int)
theorem step_bd {p q : Pt} (hp : Nr p) (hq : Nr q) : -4000 ≤ step p q ∧ step p q ≤ 4000 := by
  have h := sub_bd hp hq
  unfold step
  have : Nat.gcd (p.x - q.x).natAbs (p.y - q.y).natAbs ≤ (p.x - q.x).natAbs + (p.y - q.y).natAbs := by
    by_cases h0 : (p.x - q.x).natAbs = 0
    · rw [h0]; simp
    · have := Nat.gcd_le_left (p.y - q.y).natAbs (show 0 < (p.x - q.x).natAbs by omega); omega
  omega
theorem impl_steps_eq {L : Nat} {p q : Pt} (hp : Nr p) (hq : Nr q) (hL : 3000 < L) : impl_steps L p.x p.y q.x q.y = some (step p q) := by
  have h := sub_bd hp hq
  unfold impl_steps impl_divisor
  simp only [isub_eq, gbind_eq]
  rw [wr_id (n := p.x - q.x) (by omega), wr_id (n := p.y - q.y) (by omega), divisor_l0 L _ _ (by omega) (by omega) (by omega)]
  rfl
theorem spec_pgStep_eq {L : Nat} {p q : Pt} (hp : Nr p) (hq : Nr q) (hL : 3000 < L) : spec_pgStep L p.x p.y q.x q.y = some (step p q) := by
  have h := sub_bd hp hq
  unfold spec_pgStep spec_pgCommon
  simp only [isub_eq, gbind_eq]
  rw [wr_id (n := p.x - q.x) (by omega), wr_id (n := p.y - q.y) (by omega), spec_l1Abs_eq (by omega), spec_l1Abs_eq (by omega)]
  simp only [Option.bind_some]
  rw [common_l0 L _ _ (by omega)]
  rfl
def round (a : List Pt) : Int := sm (fun i => step (pt a i) (pt a (i + 1))) a.length
theorem impl_around_eq {L : Nat} {a : List Pt} (hn : a ≠ []) (hs : (a.length : Int) ≤ 1000) (hL : 3000 < L) (hin : ∀ i, Nr (pt a i)) : impl_around L a = some (round a) := by
  unfold impl_around
  have := accum (f := fun m s v => impl_around_l0 L a m s v) (S := fun v => sm (fun i => step (pt a i) (pt a (i + 1))) v.toNat) (r := some (round a)) (lo := 0) (n := a.length) (fun m => by
    simp only [impl_around_l0, ilt_eq, ilen_mapep, Int.lt_irrefl, decide_false, cond_false]; rfl) (fun m v h0 h => by
    simp only [impl_around_l0, ilt_eq, ilen_mapep, h, decide_true, cond_true, gbind_eq, lget_pt h0 h, Option.bind_some, iadd_eq, wr_s (i := v + 1) (by omega), impl_at_eq hn (show (a.length : Int) ≤ 1000000000 by omega)]
    rw [impl_steps_eq (hin _) (hin _) hL]
    simp only [Option.bind_some]
    have h1 := sm_bd (fun i => step_bd (hin i) (hin (i + 1))) v.toNat
    have h2 := step_bd (hin v) (hin (v + 1))
    have h3 : (v.toNat : Int) * 4000 ≤ 1000 * 4000 := by omega
    rw [wr_id (by omega)]
    congr 1
    rw [show (v + 1).toNat = v.toNat + 1 by omega]
    simp only [sm]
    rw [Int.toNat_of_nonneg h0]) L 0 (Int.le_refl _) (by omega) (by omega)
  exact this
theorem area_bd {a : List Pt} (hs : (a.length : Int) ≤ 100) (hin : ∀ i, Nr (pt a i)) : -200000000 ≤ area a ∧ area a ≤ 200000000 := by
  have h1 := sm_bd (fun i => cross_bd (hin i) (hin (i + 1))) a.length
  unfold area
  omega
noncomputable def inside (a : List Pt) : Int := wr .i64 (((wr .i64 (wr .i64 ((area a).natAbs + 2) - round a))).tdiv 2)
end Go.AM
namespace Go.AM
theorem mul_self_nn (x : Int) : 0 ≤ x * x := by
  rcases Int.le_total 0 x with h | h
  · exact Int.mul_nonneg h h
  · have := Int.mul_nonneg (show 0 ≤ -x by omega) (show 0 ≤ -x by omega); rw [Int.neg_mul_neg] at this; exact this
end Go.AM
namespace Go.AM
def Less (p q : Pt) : Prop := p.x < q.x ∨ (p.x = q.x ∧ p.y < q.y)
instance (p q : Pt) : Decidable (Less p q) := by unfold Less; infer_instance
theorem Less.trans {p q r : Pt} (h : Less p q) (k : Less q r) : Less p r := by unfold Less at *; omega
theorem Less.irrefl (p : Pt) : ¬ Less p p := by unfold Less; omega
theorem not_less_eq {p q : Pt} (h : ¬ Less p q) (k : ¬ Less q p) : p = q := by
  unfold Less at *
  cases p; cases q
  simp only [Pt.mk.injEq] at *
  omega
theorem spec_pgLess_eq {L : Nat} {p q : Pt} : spec_pgLess L p.x p.y q.x q.y = some (decide (Less p q)) := by
  unfold spec_pgLess Less
  simp only [ilt_eq, ieq_eq]
  by_cases h1 : p.x < q.x <;> by_cases h2 : p.x = q.x <;> by_cases h3 : p.y < q.y <;> simp [h1, h2, h3]
def cmpI (a b : Int) : Int := if a < b then -1 else if b < a then 1 else 0
theorem cmp_eq {L : Nat} {a b : Int} : cmp_Compare_int L a b = some (cmpI a b) := by
  unfold cmp_Compare_int cmp_isNaN_int cmpI
  simp only [gbind_eq, ieq_eq, decide_true, Bool.not_true, Option.bind_some, cond_false, ilt_eq]
  by_cases h1 : a < b <;> by_cases h2 : b < a <;> simp [h1, h2]
def tour (a : List Pt) (k s : Int) (n : Nat) : List Pt := (List.range n).map fun (j : Nat) => pt a (k + (j : Int) * s)
theorem fits_s {n : Int} {b : Nat} (h : n * b ≤ 140737488355328) : fits n b = true := by rw [fits_eq]; exact decide_eq_true h
theorem impl_told_l0_eq {L : Nat} {a : List Pt} {k s : Int} (hn : a ≠ []) (hs : (a.length : Int) ≤ 900000) (hk : 0 ≤ k ∧ k ≤ 900000) (hst : -1 ≤ s ∧ s ≤ 1) : ∀ (m : Nat) (v : Nat), v ≤ a.length → (a.length : Int) - v < m →
    impl_told_l0 L a k s m v (tour a k s v) = some (tour a k s a.length)
  | 0, _, _, h => by omega
  | m + 1, v, hv, hm => by
    by_cases h : (v : Int) < (a.length : Int)
    · have hb := mul_bd (x := v) (y := s) (A := 900000) (B := 1) (by omega) (by omega)
      have hlen : ((tour a k s v).length : Int) = v := by simp [tour]
      simp only [impl_told_l0, ilt_eq, ilen_mapep, h, decide_true, cond_true, gbind_eq, iadd_eq, imul_eq, wr_s (i := (v : Int) * s) (by omega), wr_id (n := k + (v : Int) * s) (by omega), impl_at_eq hn (show (a.length : Int) ≤ 1000000000 by omega), Option.bind_some, hlen, wr_s (i := (v : Int) + 1) (by omega)]
      rw [fits_s (by rw [ilen_eq]; simp; omega)]
      simp only [cond_true]
      have e : lcat (tour a k s v) [{ x := (pt a (k + v * s)).x, y := (pt a (k + v * s)).y }] = tour a k s (v + 1) := by
        rw [lcat_eq]; simp [tour, List.range_succ]
      rw [e]
      exact impl_told_l0_eq hn hs hk hst m (v + 1) (by omega) (by omega)
    · have e : v = a.length := by omega
      subst e
      simp only [impl_told_l0, ilt_eq, ilen_mapep, h, decide_false, cond_false]
theorem impl_told_eq {L : Nat} {a : List Pt} {k s : Int} (hn : a ≠ []) (hs : (a.length : Int) ≤ 900000) (hk : 0 ≤ k ∧ k ≤ 900000) (hst : -1 ≤ s ∧ s ≤ 1) (hL : (a.length : Int) < L) : impl_told L a k s = some (tour a k s a.length) := by
  unfold impl_told
  simp only [ile_eq, ilen_mapep, Int.le_refl, show 0 ≤ (a.length : Int) by omega, decide_true, Bool.and_self, fits_s (n := (a.length : Int)) (b := 16) (by omega), cond_true]
  have := impl_told_l0_eq (L := L) hn hs hk hst L 0 (by omega) (by omega)
  have e : tour a k s 0 = [] := rfl
  rw [e] at this
  rw [lrep_eq]
  exact this
end Go.AM
namespace Go.AM
theorem tour_len (a : List Pt) (k s : Int) (n : Nat) : (tour a k s n).length = n := by simp [tour]
theorem tour_get {a : List Pt} {k s : Int} {n j : Nat} (h : j < n) : (tour a k s n)[j]? = some (pt a (k + (j : Int) * s)) := by simp [tour, h]
theorem pt_tour {a : List Pt} {k s i : Int} (hn : a ≠ []) : pt (tour a k s a.length) i = pt a (k + (i % (a.length : Int)) * s) := by
  have hl : 0 < (a.length : Int) := by have := List.length_pos_iff.2 hn; omega
  have h1 := Int.emod_nonneg i (show (a.length : Int) ≠ 0 by omega)
  have h2 := Int.emod_lt_of_pos i hl
  conv => lhs; unfold pt
  rw [tour_len, List.getD_eq_getElem?_getD, tour_get (by omega), Int.toNat_of_nonneg h1]
  rfl
theorem tour_ext {a b : List Pt} {k s k' s' : Int} {n : Nat} (h : ∀ j : Nat, j < n → pt a (k + (j : Int) * s) = pt b (k' + (j : Int) * s')) : tour a k s n = tour b k' s' n := by
  unfold tour
  refine List.map_congr_left fun j hj => h j (by simpa using hj)
theorem rot_eq {c : List Pt} {k : Int} (h0 : 0 ≤ k) (h1 : k < c.length) : c.drop k.toNat ++ c.take k.toNat = tour c k 1 c.length := by
  apply List.ext_getElem?
  intro j
  by_cases hj : j < c.length
  · rw [tour_get hj, List.getElem?_append]
    simp only [List.length_drop, List.getElem?_drop, List.getElem?_take]
    split
    · have := pt_get (a := c) (i := k + j) (by omega) (by omega)
      rw [show k + (j : Int) * 1 = k + j by omega, ← this]
      congr 1; omega
    · rw [if_pos (by omega)]
      have := pt_get (a := c) (i := k + j - c.length) (by omega) (by omega)
      rw [show k + (j : Int) * 1 = k + j by omega]
      have e : pt c (k + j) = pt c (k + j - c.length) := pt_congr (by simp)
      rw [e, ← this]
      congr 1; omega
  · rw [List.getElem?_eq_none (by simp; omega), List.getElem?_eq_none (by rw [tour_len]; omega)]
theorem back_l0 {L : Nat} {a : List Pt} (hn : a ≠ []) (hs : (a.length : Int) ≤ 900000) : ∀ (m : Nat) (v : Int), 0 ≤ v → v < a.length → v < m → spec_pgBack_l0 L a m v (tour a 0 (-1) (a.length - v.toNat)) = some (tour a 0 (-1) a.length)
  | 0, _, _, _, h => by omega
  | m + 1, v, h0, hv, hm => by
    by_cases h : 0 < v
    · simp only [spec_pgBack_l0, ilt_eq, ilen_mapep, h, decide_true, cond_true, gbind_eq, iadd_eq, isub_eq, lget_pt h0 hv, Option.bind_some, tour_len, wr_s (i := v - 1) (by omega)]
      rw [fits_s (by rw [ilen_eq]; simp; omega)]
      simp only [cond_true]
      have e : lcat (tour a 0 (-1) (a.length - v.toNat)) [pt a v] = tour a 0 (-1) (a.length - (v - 1).toNat) := by
        rw [lcat_eq, show a.length - (v - 1).toNat = (a.length - v.toNat) + 1 by omega]
        have : pt a v = pt a (0 + ((a.length - v.toNat : Nat) : Int) * (-1)) := by
          rw [show 0 + ((a.length - v.toNat : Nat) : Int) * (-1) = v - a.length by omega]
          exact pt_congr (by simp)
        rw [this]
        simp [tour, List.range_succ]
      rw [e]
      exact back_l0 hn hs m (v - 1) (by omega) (by omega) (by omega)
    · have e : v = 0 := by omega
      subst e
      simp only [spec_pgBack_l0, ilt_eq, h, decide_false, cond_false]
      rfl
theorem spec_pgBack_eq {L : Nat} {a : List Pt} (hn : a ≠ []) (hs : (a.length : Int) ≤ 900000) (hL : (a.length : Int) < L) : spec_pgBack L a = some (tour a 0 (-1) a.length) := by
  have hl : 0 < (a.length : Int) := by have := List.length_pos_iff.2 hn; omega
  unfold spec_pgBack
  simp only [gbind_eq, lget_pt (Int.le_refl 0) hl, Option.bind_some, ilen_mapep, isub_eq, wr_s (i := (a.length : Int) - 1) (by omega)]
  have := back_l0 (L := L) hn hs L ((a.length : Int) - 1) (by omega) (by omega) (by omega)
  have e : tour a 0 (-1) (a.length - ((a.length : Int) - 1).toNat) = [pt a 0] := by
    rw [show a.length - ((a.length : Int) - 1).toNat = 1 by omega]
    rfl
  rw [e] at this
  exact this
end Go.AM
namespace Go.AM
theorem pt_mod (a : List Pt) (i : Int) : pt a (i % (a.length : Int)) = pt a i := pt_congr (Int.emod_emod_of_dvd _ (Int.dvd_refl _))
end Go.AM
namespace Go.AM
theorem step_dvd (p q : Pt) : step p q ∣ (q.x - p.x) ∧ step p q ∣ (q.y - p.y) := by
  unfold step
  constructor
  · rw [Int.ofNat_dvd_left, show (q.x - p.x).natAbs = (p.x - q.x).natAbs by omega]; exact Nat.gcd_dvd_left _ _
  · rw [Int.ofNat_dvd_left, show (q.y - p.y).natAbs = (p.y - q.y).natAbs by omega]; exact Nat.gcd_dvd_right _ _
theorem tdiv_bd {a b A : Int} (h : -A ≤ a ∧ a ≤ A) : -A ≤ a.tdiv b ∧ a.tdiv b ≤ A := by
  have h1 : (a.tdiv b).natAbs ≤ a.natAbs := by rw [Int.natAbs_tdiv]; exact Nat.div_le_self _ _
  omega
end Go.AM
namespace Go.AM
theorem step_pos {p q : Pt} (h : p ≠ q) : 0 < step p q := by
  unfold step
  have : 0 < Nat.gcd (p.x - q.x).natAbs (p.y - q.y).natAbs := by
    rw [Nat.gcd_pos_iff]
    by_cases hx : p.x = q.x
    · right
      have : p.y ≠ q.y := fun e => h (by cases p; cases q; simp_all)
      omega
    · left; omega
  omega
end Go.AM
namespace Go.AM
end Go.AM
namespace Go.AM
end Go.AM
namespace Go.AM
def Pos (v : Pt) : Prop := 0 < v.x ∨ (v.x = 0 ∧ 0 < v.y)
def Neg (v : Pt) : Prop := v.x < 0 ∨ (v.x = 0 ∧ v.y < 0)
instance (v : Pt) : Decidable (Pos v) := by unfold Pos; infer_instance
instance (v : Pt) : Decidable (Neg v) := by unfold Neg; infer_instance
end Go.AM
namespace Go.AM
end Go.AM
namespace Go.AM
section
variable {n : Int} {P : Int → Pt}
end
end Go.AM
namespace Go.AM
section
variable {n : Int} {P : Int → Pt}
end
end Go.AM
namespace Go.AM
def Up (A B : Pt) (y : Int) : Prop := A.y ≤ y ∧ y < B.y
def Dn (A B : Pt) (y : Int) : Prop := B.y ≤ y ∧ y < A.y
instance (A B : Pt) (y : Int) : Decidable (Up A B y) := by unfold Up; infer_instance
instance (A B : Pt) (y : Int) : Decidable (Dn A B y) := by unfold Dn; infer_instance
section
variable {n : Int} {P : Int → Pt}
end
end Go.AM
namespace Go.AM
theorem sg_neg (n : Int) : sg (-n) = - sg n := by
  unfold sg
  rcases Int.lt_trichotomy n 0 with h | h | h
  · rw [if_pos (by omega), if_neg (by omega), if_pos h]; rfl
  · subst h; simp
  · rw [if_neg (by omega), if_pos (by omega), if_pos h]
theorem pt_per (a : List Pt) (i : Int) : pt a (i + a.length) = pt a i := pt_congr (by rw [Int.add_emod_right])
theorem sm_plus (f g : Int → Int) : ∀ k : Nat, sm (fun i => f i + g i) k = sm f k + sm g k
  | 0 => rfl
  | k + 1 => by simp only [sm]; rw [sm_plus f g k]; omega
end Go.AM
namespace Go.AM
def Edges (f : Pt → Pt → Prop) : List Pt → Prop
  | b :: a :: r => f a b ∧ Edges f (a :: r)
  | _ => True
def Rise : List Pt → Prop
  | a :: b :: r => Less a b ∧ Rise (b :: r)
  | _ => True
end Go.AM
namespace Go.AM
def Ord (l : List Pt) : Prop := l.Pairwise fun a b => ¬ Less b a
theorem ord_one {l l' : List Pt} (h : Ord l) (h' : Ord l') (hp : l.Perm l') : l = l' :=
  hp.eq_of_pairwise (fun _ _ _ _ h1 h2 => not_less_eq h2 h1) h h'
def insP (p : Pt) : List Pt → List Pt
  | [] => [p]
  | a :: l => if Less a p then a :: insP p l else p :: a :: l
def isort (l : List Pt) : List Pt := l.foldl (fun out p => insP p out) []
theorem insP_perm (p : Pt) : ∀ l : List Pt, (insP p l).Perm (p :: l)
  | [] => .refl _
  | a :: l => by
    unfold insP
    split
    · exact ((insP_perm p l).cons a).trans (List.Perm.swap p a l)
    · exact .refl _
theorem insP_ord {p : Pt} : ∀ {l : List Pt}, Ord l → Ord (insP p l)
  | [], _ => by simp [Ord, insP]
  | a :: l, h => by
    unfold Ord at h ⊢
    rw [List.pairwise_cons] at h
    unfold insP
    split
    · rename_i hl
      rw [List.pairwise_cons]
      refine ⟨fun x hx => ?_, insP_ord h.2⟩
      rcases List.mem_cons.1 ((insP_perm p l).mem_iff.1 hx) with rfl | hx
      · unfold Less at *; omega
      · exact h.1 x hx
    · rename_i hl
      rw [List.pairwise_cons, List.pairwise_cons]
      refine ⟨fun x hx => ?_, h⟩
      rcases List.mem_cons.1 hx with rfl | hx
      · exact hl
      · have := h.1 x hx
        unfold Less at *; omega
theorem isort_go : ∀ (l out : List Pt), Ord out → Ord (l.foldl (fun out p => insP p out) out) ∧ (l.foldl (fun out p => insP p out) out).Perm (l ++ out)
  | [], out, h => ⟨h, .refl _⟩
  | p :: l, out, h => by
    obtain ⟨h1, h2⟩ := isort_go l (insP p out) (insP_ord h)
    refine ⟨h1, h2.trans ?_⟩
    exact ((insP_perm p out).append_left l).trans List.perm_middle
theorem isort_ord (l : List Pt) : Ord (isort l) := (isort_go l [] .nil).1
theorem isort_perm (l : List Pt) : (isort l).Perm l := by have := (isort_go l [] .nil).2; rw [List.append_nil] at this; exact this
theorem isort_len (l : List Pt) : (isort l).length = l.length := (isort_perm l).length_eq
theorem isort_mem {l : List Pt} {p : Pt} : p ∈ isort l ↔ p ∈ l := (isort_perm l).mem_iff
theorem isort_nodup {l : List Pt} (h : l.Nodup) : (isort l).Nodup := (isort_perm l).nodup_iff.2 h
theorem rise_of : ∀ {l : List Pt}, Ord l → l.Nodup → Rise l
  | [], _, _ => trivial
  | [a], _, _ => trivial
  | a :: b :: l, h, hn => by
    unfold Ord at h
    rw [List.pairwise_cons] at h
    rw [List.nodup_cons] at hn
    refine ⟨?_, rise_of (l := b :: l) h.2 hn.2⟩
    by_cases hl : Less a b
    · exact hl
    · have := not_less_eq hl (h.1 b List.mem_cons_self)
      exact absurd (this ▸ List.mem_cons_self) hn.1
theorem rise_ord : ∀ {l : List Pt}, Rise l → l.Pairwise Less
  | [], _ => .nil
  | [a], _ => by simp
  | a :: b :: l, h => by
    have ih := rise_ord (l := b :: l) h.2
    rw [List.pairwise_cons]
    refine ⟨fun x hx => ?_, ih⟩
    rcases List.mem_cons.1 hx with rfl | hx
    · exact h.1
    · rw [List.pairwise_cons] at ih
      exact h.1.trans (ih.1 x hx)
theorem ord_filter {l : List Pt} (f : Pt → Bool) (h : Ord l) : Ord (l.filter f) := List.Pairwise.filter f h
theorem isort_filter (l : List Pt) (f : Pt → Bool) : (isort l).filter f = isort (l.filter f) :=
  ord_one (ord_filter f (isort_ord l)) (isort_ord _) (((isort_perm l).filter f).trans (isort_perm _).symm)
end Go.AM
namespace Go.AM
structure Side (o : Pt → Pt → Prop) (Q A : List Pt) : Prop where
  ord : ∀ (i : Nat) a b, A[i]? = some a → A[i + 1]? = some b → o a b
  cov : ∀ (i : Nat) a b, A[i]? = some a → A[i + 1]? = some b → ∀ q ∈ Q, 0 ≤ turn a b q
  cvx : ∀ (i : Nat) a b c, A[i]? = some a → A[i + 1]? = some b → A[i + 2]? = some c → 0 < turn a b c
  sub : ∀ x ∈ A, x ∈ Q
end Go.AM
namespace Go.AM
section
variable {n : Int} {P : Int → Pt} {Q : List Pt}
end
end Go.AM
namespace Go.AM
section
variable {l A B : List Pt} {k m : Nat}
structure Sides (l A B : List Pt) (k m : Nat) : Prop where
  up : Side Less l A
  dn : Side (fun a b => Less b a) l B
  lA : A.length = k + 1
  lB : B.length = m + 1
  k0 : 0 < k
  m0 : 0 < m
  e1 : A.getLast? = B[0]?
  e2 : B.getLast? = A[0]?
namespace Sides
variable (h : Sides l A B k m)
include h
end Sides
end
end Go.AM
namespace Go.AM
namespace Sides
section
variable {l A B : List Pt} {k m : Nat} (h : Sides l A B k m)
include h
end
end Sides
end Go.AM
namespace Go.AM
section
variable {n : Int} {P : Int → Pt}
end
end Go.AM
namespace Go.AM
theorem cmp_valL {L : Nat} {p q : Pt} (hL : 5 < L) : impl_comparePegs L p.x p.y q.x q.y = some (ordP p q) := by
  unfold impl_comparePegs cmp_Or_int
  simp only [gbind_eq, cmp_eq, Option.bind_some]
  obtain ⟨m, rfl⟩ : ∃ m, L = m + 3 := ⟨L - 3, by omega⟩
  have hl : ilen (List.map eI [cmpI p.x q.x, cmpI p.y q.y]) = 2 := by rw [ilen_eq]; rfl
  have g0 : lget [cmpI p.x q.x, cmpI p.y q.y] 0 = some (cmpI p.x q.x) := by rw [lget_eq]; rfl
  have g1 : lget [cmpI p.x q.x, cmpI p.y q.y] 1 = some (cmpI p.y q.y) := by rw [lget_eq]; rfl
  have w1 : wr .i64 (0 + 1) = 1 := wr_id (by decide)
  have w2 : wr .i64 (1 + 1) = 2 := wr_id (by decide)
  simp only [cmp_Or_int_l0, hl, ilt_eq, gbind_eq, g0, g1, iadd_eq, w1, w2, ieq_eq, Option.bind_some, show ((0 : Int) < 2) = True by simp, show ((1 : Int) < 2) = True by simp, show ((2 : Int) < 2) = False by simp, decide_true, decide_false, cond_true, cond_false]
  unfold cmpI ordP
  by_cases h1 : p.x < q.x
  · simp [h1]
  · by_cases h2 : q.x < p.x
    · simp [h1, h2]
    · have e : p.x = q.x := by omega
      by_cases h3 : p.y < q.y
      · simp [h1, h2, h3]
      · by_cases h4 : q.y < p.y
        · simp [h1, h2, h3, h4]
        · simp [h1, h2, h3, h4]
theorem cmp_val (p q : Pt) : impl_comparePegs 10 p.x p.y q.x q.y = some (ordP p q) := cmp_valL (by omega)
end Go.AM
namespace Go.AM
open Go.Proofs Go.Sort
theorem srt_isort (l : List Pt) : srt ordP l = isort l := by
  have hp : (srt ordP l).Perm l := List.mergeSort_perm _ _
  refine ord_one ?_ (isort_ord l) (hp.trans (isort_perm l).symm)
  have h := List.pairwise_mergeSort (le := fun x y => !(ltOf ordP y x)) (fun a b c h1 h2 => by
    simp only [ltOf_ordP, Bool.not_eq_true', decide_eq_false_iff_not] at *; omega) (fun a b => by
    simp only [ltOf_ordP, Bool.or_eq_true, Bool.not_eq_true', decide_eq_false_iff_not]; omega) l
  exact h.imp fun {a b} h => by
    simp only [ltOf_ordP, Bool.not_eq_true', decide_eq_false_iff_not] at h
    unfold Less
    omega
theorem sortP_eq {a : List Pt} (h : (a.length : Int) ≤ 1000000000) : sortP a = some (isort a) := by
  unfold sortP
  rw [if_pos (by omega), srt_isort]
end Go.AM
namespace Go.AM
structure Diff (a : List Pt) : Prop where
  lo : 1 ≤ (a.length : Int)
  hi : (a.length : Int) ≤ 30
  isIn : ∀ i, 0 ≤ i → i < (a.length : Int) → In (pt a i)
  ne : ∀ i k, 0 ≤ k → k < i → i < (a.length : Int) → pt a k ≠ pt a i
theorem Diff.nn {a : List Pt} (h : Diff a) : a ≠ [] := fun e => by have := h.lo; subst e; simp at this
theorem Diff.all {a : List Pt} (h : Diff a) (i : Int) : In (pt a i) := in_all h.isIn h.nn i
theorem Diff.nodup {a : List Pt} (h : Diff a) : a.Nodup := by
  rw [List.nodup_iff_pairwise_ne, List.pairwise_iff_getElem]
  intro i j hi hj hij e
  have := h.ne j i (by omega) (by omega) (by omega)
  refine this ?_
  have p1 := pt_get (a := a) (i := (i : Int)) (by omega) (by omega)
  have p2 := pt_get (a := a) (i := (j : Int)) (by omega) (by omega)
  rw [Int.toNat_natCast, List.getElem?_eq_getElem hi] at p1
  rw [Int.toNat_natCast, List.getElem?_eq_getElem hj] at p2
  rw [← Option.some.inj p1, ← Option.some.inj p2, e]
theorem mem_pt {a : List Pt} {p : Pt} (h : p ∈ a) : ∃ i : Int, 0 ≤ i ∧ i < a.length ∧ pt a i = p := by
  obtain ⟨n, hn, e⟩ := List.mem_iff_getElem.1 h
  have p1 := pt_get (a := a) (i := (n : Int)) (by omega) (by omega)
  rw [Int.toNat_natCast, List.getElem?_eq_getElem hn] at p1
  exact ⟨n, by omega, by omega, by rw [← Option.some.inj p1, e]⟩
theorem pt_mem {a : List Pt} (hn : a ≠ []) (i : Int) : pt a i ∈ a := by
  have hl : 0 < (a.length : Int) := by have := List.length_pos_iff.2 hn; omega
  have := pt_get (a := a) (i := i % a.length) (Int.emod_nonneg _ (by omega)) (Int.emod_lt_of_pos _ hl)
  rw [pt_mod] at this
  exact List.mem_of_getElem? this
theorem Diff.mem {a : List Pt} (h : Diff a) {p : Pt} (hp : p ∈ a) : In p := by
  obtain ⟨i, h0, h1, e⟩ := mem_pt hp
  rw [← e]; exact h.isIn i h0 h1
theorem areDiff_l0 {L : Nat} {a : List Pt} (hs : (a.length : Int) ≤ 30) (hL : 100 < L) {m : Nat} (hm : (a.length : Int) < m) :
    ((∃ i, 0 ≤ i ∧ i < (a.length : Int) ∧ ∃ k, 0 ≤ k ∧ k < i ∧ pt a k = pt a i) → impl_AreDifferent_l0 L a m 0 = some false) ∧
    ((∀ i, 0 ≤ i → i < (a.length : Int) → ¬ ∃ k, 0 ≤ k ∧ k < i ∧ pt a k = pt a i) → impl_AreDifferent_l0 L a m 0 = some true) := by
  have hc : ∀ v, 0 ≤ v → v < (a.length : Int) → ((∃ k, 0 ≤ k ∧ k < v ∧ pt a k = pt a v) → slices_Contains_impl_Peg_impl_Peg L (lsub a 0 v) (pt a v).x (pt a v).y = some true) ∧ ((¬ ∃ k, 0 ≤ k ∧ k < v ∧ pt a k = pt a v) → slices_Contains_impl_Peg_impl_Peg L (lsub a 0 v) (pt a v).x (pt a v).y = some false) := by
    intro v h0 h
    have hl : ((lsub a 0 v).length : Int) = v := by rw [lsub0 (by omega) (by omega)]; simp; omega
    obtain ⟨h1, h2⟩ := contains_eq (L := L) (b := lsub a 0 v) (p := pt a v) (by omega) (by omega)
    rw [hl] at h1 h2
    refine ⟨fun ⟨k, q1, q2, q3⟩ => h1 ⟨k, q1, q2, by rw [pt_take q1 q2 (by omega)]; exact q3⟩, fun hno => h2 fun j q1 q2 q3 => hno ⟨j, q1, q2, ?_⟩⟩
    rwa [pt_take q1 q2 (by omega)] at q3
  refine search (f := fun m v => impl_AreDifferent_l0 L a m v) (lo := 0) (n := (a.length : Int)) (hi := 30)
    (bad := fun i => ∃ k, 0 ≤ k ∧ k < i ∧ pt a k = pt a i) hs ?_ ?_ ?_ m 0 (Int.le_refl _) (by omega) (by omega) (by omega)
  · intro m v h0 _ h
    simp only [impl_AreDifferent_l0, ilt_eq, h, decide_false, cond_false, ilen_mapep]
  · intro m v h0 h hb
    simp only [impl_AreDifferent_l0, ilt_eq, ile_eq, h, h0, ilen_mapep, show v ≤ (a.length : Int) by omega, decide_true, Bool.and_self, cond_true, gbind_eq, lget_pt h0 h, Option.bind_some]
    rw [(hc v h0 h).1 hb]; rfl
  · intro m v h0 h hb
    simp only [impl_AreDifferent_l0, ilt_eq, ile_eq, iadd_eq, h, h0, ilen_mapep, show v ≤ (a.length : Int) by omega, decide_true, Bool.and_self, cond_true, gbind_eq, lget_pt h0 h, Option.bind_some]
    rw [(hc v h0 h).2 hb, wr_s (by omega)]; rfl
open Classical in
theorem impl_AreDifferent_eq {L : Nat} {a : List Pt} (hL : 100 < L) : impl_AreDifferent L a = some (decide (Diff a)) := by
  unfold impl_AreDifferent
  simp only [ilen_mapep, impl_within_eq, gbind_eq, Option.bind_some]
  by_cases hn : 1 ≤ (a.length : Int) ∧ (a.length : Int) ≤ 30
  · simp only [hn, and_self, decide_true, Bool.not_true, cond_false]
    by_cases hI : ∀ i, 0 ≤ i → i < (a.length : Int) → In (pt a i)
    · rw [(arePegs_eq (by omega) (by omega)).2 hI]
      simp only [Option.bind_some, Bool.not_true, cond_false]
      by_cases h0 : ∃ i, 0 ≤ i ∧ i < (a.length : Int) ∧ ∃ k, 0 ≤ k ∧ k < i ∧ pt a k = pt a i
      · rw [(areDiff_l0 hn.2 hL (by omega)).1 h0]
        have : ¬ Diff a := fun g => by
          obtain ⟨i, q1, q2, k, q4, q5, q6⟩ := h0
          exact g.ne i k q4 q5 q2 q6
        simp [this]
      · have h0' : ∀ i, 0 ≤ i → i < (a.length : Int) → ¬ ∃ k, 0 ≤ k ∧ k < i ∧ pt a k = pt a i := fun i q1 q2 q3 => h0 ⟨i, q1, q2, q3⟩
        rw [(areDiff_l0 hn.2 hL (by omega)).2 h0']
        have : Diff a := ⟨hn.1, hn.2, hI, fun i k q1 q2 q3 q4 => h0' i (by omega) q3 ⟨k, q1, q2, q4⟩⟩
        simp [this]
    · have hI' : ∃ i, 0 ≤ i ∧ i < (a.length : Int) ∧ ¬ In (pt a i) := Classical.byContradiction fun e => hI fun i q1 q2 => Classical.byContradiction fun h => e ⟨i, q1, q2, h⟩
      rw [(arePegs_eq (by omega) (by omega)).1 hI']
      have : ¬ Diff a := fun g => hI g.isIn
      simp [this]
  · have : ¬ Diff a := fun g => hn ⟨g.lo, g.hi⟩
    simp only [hn, this, decide_false, Bool.not_false, cond_true]
end Go.AM
namespace Go.AM
theorem fits_l {n : Int} {b : Nat} (h : n * b ≤ 140737488355328) : fits n b = true := by rw [fits_eq]; exact decide_eq_true h
theorem impl_sorted_eq {L : Nat} {a : List Pt} (hn : a ≠ []) (hs : (a.length : Int) ≤ 1000000) : impl_sorted L a = some (isort a) := by
  have hpos : 0 < (a.length : Int) := by have := List.length_pos_iff.2 hn; omega
  unfold impl_sorted slices_Clone_impl_Peg_impl_Peg slices_SortFunc_impl_Peg_impl_Peg
  simp only [ilen_mapep, ieq_eq, show ¬ (a.length : Int) = 0 by omega, decide_false, cond_false, ilen_eq, List.length_nil, iadd_eq, lcat_eq, List.nil_append, List.length_map]
  rw [fits_l (by omega)]
  simp only [cond_true, gbind_eq, Option.bind_some, sortP_eq (show (a.length : Int) ≤ 1000000000 by omega)]
theorem insP_len (p : Pt) (l : List Pt) : (insP p l).length = l.length + 1 := (insP_perm p l).length_eq
end Go.AM
namespace Go.AM
theorem wr_v {n : Int} (h : -1000000000 ≤ n ∧ n ≤ 1000000000) : wr .i64 n = n := wr_id (by omega)
def Dir (b c : Int) : Prop := (-200 ≤ b ∧ b ≤ 200) ∧ (-200 ≤ c ∧ c ≤ 200) ∧ Nat.gcd b.natAbs c.natAbs = 1
theorem common_eq {L : Nat} {b c : Int} (hb : -1000000 ≤ b ∧ b ≤ 1000000) (hc : -1000000 ≤ c ∧ c ≤ 1000000) (hL : c.natAbs < L) : spec_pgCommon L b c = some (Nat.gcd b.natAbs c.natAbs : Int) := by
  unfold spec_pgCommon
  rw [spec_l1Abs_eq (by omega), spec_l1Abs_eq (by omega)]
  simp only [gbind_eq, Option.bind_some]
  exact common_l0 L _ _ hL
theorem divisor_eq {L : Nat} {b c : Int} (hb : -1000000 ≤ b ∧ b ≤ 1000000) (hc : -1000000 ≤ c ∧ c ≤ 1000000) (hL : c.natAbs < L) : impl_divisor L b c = some (Nat.gcd b.natAbs c.natAbs : Int) := by
  unfold impl_divisor
  exact divisor_l0 L _ _ (by omega) (by omega) hL
open Classical in
theorem impl_isDirection_eq {L : Nat} {b c : Int} (hL : 1000 < L) : impl_isDirection L b c = some (decide (Dir b c)) := by
  unfold impl_isDirection
  simp only [impl_within_eq, gbind_eq, Option.bind_some]
  by_cases hb : -200 ≤ b ∧ b ≤ 200
  · by_cases hc : -200 ≤ c ∧ c ≤ 200
    · simp only [hb, hc, and_self, decide_true, cond_true, divisor_eq (L := L) (b := b) (c := c) (by omega) (by omega) (by omega), Option.bind_some, ieq_eq, Dir, true_and]
      congr 1; simp only [decide_eq_decide]; omega
    · simp only [hb, hc, and_self, decide_true, decide_false, cond_true, cond_false, Dir, false_and, and_false]
  · simp only [hb, decide_false, cond_false, Dir, false_and]
def val (b c : Int) (p : Pt) : Int := b * p.x + c * p.y
theorem val_bd {b c : Int} {p : Pt} (hb : -100000 ≤ b ∧ b ≤ 100000) (hc : -100000 ≤ c ∧ c ≤ 100000) (hp : In p) : -8000000 ≤ val b c p ∧ val b c p ≤ 8000000 := by
  have h1 := mul_bd (A := 100000) (B := 40) hb hp.1
  have h2 := mul_bd (A := 100000) (B := 40) hc hp.2
  unfold val; omega
theorem val_wr {b c : Int} {p : Pt} (hb : -100000 ≤ b ∧ b ≤ 100000) (hc : -100000 ≤ c ∧ c ≤ 100000) (hp : In p) : wr IntKind.i64 (iadd (wr IntKind.i64 (imul b p.x)) (wr IntKind.i64 (imul c p.y))) = val b c p := by
  have h1 := mul_bd (A := 100000) (B := 40) hb hp.1
  have h2 := mul_bd (A := 100000) (B := 40) hc hp.2
  simp only [imul_eq, iadd_eq]
  rw [wr_v (n := b * p.x) (by omega), wr_v (n := c * p.y) (by omega), wr_v (by omega)]
  rfl
noncomputable def rng (f : Pt → Int) : List Pt → Int → Int → Int × Int
  | [], u, v => (u, v)
  | p :: l, u, v => rng f l (if u < f p then u else f p) (if f p < v then v else f p)
theorem range_l0 {L : Nat} {a : List Pt} {b c : Int} (hb : -100000 ≤ b ∧ b ≤ 100000) (hc : -100000 ≤ c ∧ c ≤ 100000) (hs : (a.length : Int) ≤ 1000) (hin : ∀ i, In (pt a i)) :
    ∀ (m i : Nat) (u v : Int), i ≤ a.length → a.length - i < m →
      spec_wiRange_l0 L a b c m u v i = some (rng (val b c) (a.drop i) u v) ∧ impl_extent_l0 L a b c m u v i = some (rng (val b c) (a.drop i) u v) := by
  intro m
  induction m with
  | zero => intro i u v _ h; omega
  | succ m ih =>
    intro i u v hi hm
    by_cases h : (i : Int) < (a.length : Int)
    · have hlt : i < a.length := by omega
      have hg : a[i]? = some (pt a i) := by have := pt_get (a := a) (i := (i : Int)) (by omega) h; rwa [Int.toNat_natCast] at this
      rw [List.getElem?_eq_getElem hlt] at hg
      have e := Option.some.inj hg
      rw [List.drop_eq_getElem_cons hlt, e, rng]
      have w := val_wr (p := pt a i) hb hc (hin i)
      have wi : wr IntKind.i64 (iadd (i : Int) 1) = ((i + 1 : Nat) : Int) := by rw [iadd_eq, wr_s (by omega)]; omega
      constructor
      · rw [spec_wiRange_l0]
        simp only [ilen_mapep, ilt_eq, h, decide_true, cond_true, lget_pt (show (0 : Int) ≤ i by omega) h, gbind_eq, Option.bind_some, w, wi]
        unfold spec_l1Least spec_l1Most
        simp only [ilt_eq]
        rw [← (ih (i + 1) (if u < val b c (pt a i) then u else val b c (pt a i)) (if val b c (pt a i) < v then v else val b c (pt a i)) (by omega) (by omega)).1]
        by_cases h1 : u < val b c (pt a i) <;> by_cases h2 : val b c (pt a i) < v <;> simp only [h1, h2, decide_true, decide_false, cond_true, cond_false, Option.bind_some, if_true, if_false]
      · rw [impl_extent_l0]
        unfold impl_value
        simp only [ilen_mapep, ilt_eq, h, decide_true, cond_true, lget_pt (show (0 : Int) ≤ i by omega) h, gbind_eq, Option.bind_some, w, wi]
        rw [← (ih (i + 1) (if u < val b c (pt a i) then u else val b c (pt a i)) (if val b c (pt a i) < v then v else val b c (pt a i)) (by omega) (by omega)).2]
        have e1 : imin u (val b c (pt a i)) = if u < val b c (pt a i) then u else val b c (pt a i) := by rw [imin_eq]; split <;> split <;> omega
        have e2 : imax v (val b c (pt a i)) = if val b c (pt a i) < v then v else val b c (pt a i) := by rw [imax_eq]; split <;> split <;> omega
        rw [e1, e2]
    · have hd : a.drop i = [] := List.drop_of_length_le (by omega)
      rw [hd, rng, spec_wiRange_l0, impl_extent_l0]
      simp only [ilen_mapep, ilt_eq, h, decide_false, cond_false, and_self]
noncomputable def rngOf (b c : Int) (a : List Pt) : Int × Int := rng (val b c) a (val b c (pt a 0)) (val b c (pt a 0))
theorem range_eq {L : Nat} {a : List Pt} {b c : Int} (hb : -100000 ≤ b ∧ b ≤ 100000) (hc : -100000 ≤ c ∧ c ≤ 100000) (hn : a ≠ []) (hs : (a.length : Int) ≤ 1000) (hin : ∀ i, In (pt a i)) (hL : (a.length : Int) < L) :
    spec_wiRange L a b c = some (rngOf b c a) ∧ impl_extent L a b c = some (rngOf b c a) := by
  have hpos : 0 < (a.length : Int) := by have := List.length_pos_iff.2 hn; omega
  have w := val_wr (p := pt a 0) hb hc (hin 0)
  have r := range_l0 (L := L) hb hc hs hin L 0 (val b c (pt a 0)) (val b c (pt a 0)) (by omega) (by omega)
  rw [List.drop_zero] at r
  constructor
  · unfold spec_wiRange
    simp only [lget_pt (Int.le_refl 0) hpos, gbind_eq, Option.bind_some, w]
    exact r.1
  · unfold impl_extent impl_value
    simp only [lget_pt (Int.le_refl 0) hpos, gbind_eq, Option.bind_some, w]
    exact r.2
theorem rng_bd {f : Pt → Int} {A B : Int} : ∀ (l : List Pt) (u v : Int), (A ≤ u ∧ u ≤ B) → (A ≤ v ∧ v ≤ B) → (∀ p ∈ l, A ≤ f p ∧ f p ≤ B) → (A ≤ (rng f l u v).1 ∧ (rng f l u v).1 ≤ B) ∧ (A ≤ (rng f l u v).2 ∧ (rng f l u v).2 ≤ B)
  | [], u, v, hu, hv, _ => ⟨hu, hv⟩
  | p :: l, u, v, hu, hv, hl => by
    unfold rng
    have h := hl p (by simp)
    refine rng_bd l _ _ ?_ ?_ fun q hq => hl q (by simp [hq]) <;> split <;> assumption
theorem insP_take {p : Pt} {out : List Pt} {k : Nat} (hO : Ord out) (hk : k ≤ out.length) (h1 : ∀ j, k ≤ j → ∀ x, out[j]? = some x → Less p x) (h2 : ∀ j, j + 1 = k → ∀ x, out[j]? = some x → ¬ Less p x) :
    out.take k ++ p :: out.drop k = insP p out := by
  refine ord_one ?_ (insP_ord hO) ?_
  · have hs : Ord (out.take k ++ out.drop k) := by rw [List.take_append_drop]; exact hO
    obtain ⟨t1, t2, t3⟩ := List.pairwise_append.1 hs
    have hd : ∀ x ∈ out.drop k, Less p x := fun x hx => by
      obtain ⟨n, hn, e⟩ := List.mem_iff_getElem.1 hx
      refine h1 (k + n) (by omega) x ?_
      rw [← List.getElem?_drop, List.getElem?_eq_getElem hn, e]
    refine List.pairwise_append.2 ⟨t1, List.pairwise_cons.2 ⟨fun x hx => ?_, t2⟩, fun x hx y hy => ?_⟩
    · have := hd x hx; unfold Less at *; omega
    · rcases List.mem_cons.1 hy with e | hy
      · subst e
        obtain ⟨n, hn, e⟩ := List.mem_iff_getElem.1 hx
        have hnk : n < k := by rw [List.length_take] at hn; omega
        have en : out[n]? = some x := by rw [← e, List.getElem_take]; exact List.getElem?_eq_getElem (by omega)
        have hk1 : k - 1 < out.length := by omega
        have hl := h2 (k - 1) (by omega) _ (List.getElem?_eq_getElem hk1)
        by_cases h : n = k - 1
        · subst h
          rw [List.getElem?_eq_getElem hk1] at en
          rw [← Option.some.inj en]; exact hl
        · have := List.pairwise_iff_getElem.1 hO n (k - 1) (by omega) hk1 (by omega)
          rw [List.getElem?_eq_getElem (show n < out.length by omega)] at en
          rw [Option.some.inj en] at this
          unfold Less at *; omega
      · exact t3 x hx y hy
  · refine List.perm_middle.trans (List.Perm.trans (List.Perm.cons p ?_) (insP_perm p out).symm)
    rw [List.take_append_drop]
end Go.AM
namespace Go.AM
def row (p : Pt) : List Int := [p.x, p.y]
theorem row_get0 (p : Pt) : lget (row p) 0 = some p.x := by rw [lget_eq]; rfl
theorem row_get1 (p : Pt) : lget (row p) 1 = some p.y := by rw [lget_eq]; rfl
theorem lsubk' {α : Type} {a : List α} {i n : Nat} (h : i ≤ n) (hn : a.length = n) : lsub a 0 (i : Int) = a.take i ∧ lsub a (i : Int) (n : Int) = a.drop i := by
  subst hn
  rw [lsub_eq, lsub_eq]
  refine ⟨by simp, ?_⟩
  rw [Int.toNat_natCast, show ((a.length : Int) - i).toNat = a.length - i by omega]
  rw [List.take_of_length_le (by simp)]
theorem lget_row {out : List Pt} {i : Int} (h0 : 0 ≤ i) (h1 : i < out.length) : lget (out.map row) i = some (row (pt out i)) := by
  rw [lget_eq, if_pos h0, List.getElem?_map, pt_get h0 h1]; rfl
theorem ilen_li (out : List (List Int)) : ilen (List.map eLI out) = (out.length : Int) := by rw [ilen_eq]; simp
theorem wiAll_l2 {L : Nat} {κ1 : (List Pt) → Int → Int → (List (List Int)) → Int → Int → Int → Int → Int → Int → Option ((List (List Int)))} {v01 : List Pt} {v11 v71 v91 v10 b0 b1 c0 c1 : Int} {out : List Pt} {p : Pt}
    (hx : wr IntKind.i64 (iquo (wr IntKind.i64 (isub (wr IntKind.i64 (imul v91 c1)) (wr IntKind.i64 (imul v10 b1)))) v71) = p.x)
    (hy : wr IntKind.i64 (iquo (wr IntKind.i64 (isub (wr IntKind.i64 (imul v10 b0)) (wr IntKind.i64 (imul v91 c0)))) v71) = p.y)
    (hO : Ord out) (hs : (out.length : Int) ≤ 100000) (hv : -100000 ≤ v10 ∧ v10 ≤ 100000) :
    ∀ (m k : Nat), k ≤ out.length → (∀ j, k ≤ j → ∀ x, out[j]? = some x → Less p x) → k < m →
      spec_wiAll_l2 L κ1 v01 v11 v71 (out.map row) v91 v10 b0 b1 c0 c1 m k = κ1 v01 v11 v71 ((insP p out).map row) v91 (v10 + 1) b0 b1 c0 c1 := by
  intro m
  induction m with
  | zero => intro k _ _ h; omega
  | succ m ih =>
    intro k hk h1 hm
    have l1 : ilen (lsub (List.map eLI (out.map row)) 0 (k : Int)) = k := by rw [← map_lsub, ilen_li, (lsubk' hk (by simp)).1]; simp; omega
    have l2 : ilen (lsub (List.map eLI (out.map row)) (k : Int) (out.length : Int)) = ((out.length - k : Nat) : Int) := by rw [← map_lsub, ilen_li, (lsubk' hk (by simp)).2]; simp
    have l3 : ilen (lcat ([] : List AV) (lsub (List.map eLI (out.map row)) 0 (k : Int))) = k := by rw [lcat_eq, List.nil_append]; exact l1
    have l4 : ilen (lcat (lcat ([] : List AV) (lsub (List.map eLI (out.map row)) 0 (k : Int))) [AV.lst false false 1 [AV.int IntKind.i64 p.x, AV.int IntKind.i64 p.y]]) = k + 1 := by
      rw [lcat_eq, lcat_eq, List.nil_append, ilen_eq, List.length_append]; have := l1; rw [ilen_eq] at this; simp; simpa using this
    have fin : out.take k ++ p :: out.drop k = insP p out → κ1 v01 v11 v71 (lcat (lcat (lcat [] (lsub (out.map row) 0 (k : Int))) ((p.x :: p.y :: []) :: [])) (lsub (out.map row) (k : Int) (out.length : Int))) v91 (wr IntKind.i64 (v10 + 1)) b0 b1 c0 c1 = κ1 v01 v11 v71 ((insP p out).map row) v91 (v10 + 1) b0 b1 c0 c1 := fun e => by
      rw [wr_s (by omega), ← e, (lsubk' hk (by simp)).1, (lsubk' hk (by simp)).2]
      simp only [lcat_eq, List.nil_append, List.append_assoc, List.singleton_append, List.map_append, List.map_take, List.map_drop, List.map_cons, row]
    rw [spec_wiAll_l2]
    simp only [hx, hy]
    simp only [ieq_eq, ilen_li, List.length_map, ilt_eq, iadd_eq, isub_eq, ile_eq, l1, l2, l3, l4, show ilen ([] : List AV) = 0 by rw [ilen_eq]; rfl, show ilen [AV.lst false false 1 [AV.int IntKind.i64 p.x, AV.int IntKind.i64 p.y]] = 1 by rw [ilen_eq]; rfl]
    rw [fits_l (show ((0 : Int) + k) * (24 : Nat) ≤ 140737488355328 by omega), fits_l (show ((k : Int) + 1) * (24 : Nat) ≤ 140737488355328 by omega), fits_l (show ((k : Int) + 1 + ((out.length - k : Nat) : Int)) * (24 : Nat) ≤ 140737488355328 by omega)]
    simp only [show (0 : Int) ≤ k by omega, show (k : Int) ≤ (out.length : Int) by omega, decide_true, Bool.and_self, cond_true]
    by_cases hkl : (0 : Int) < (k : Int)
    · have hk1 : (k : Int) - 1 < (out.length : Int) := by omega
      have hg : out[k - 1]? = some (pt out ((k : Int) - 1)) := by
        have := pt_get (a := out) (i := (k : Int) - 1) (by omega) hk1
        rwa [show ((k : Int) - 1).toNat = k - 1 by omega] at this
      simp only [hkl, decide_true, cond_true]
      rw [wr_s (i := (k : Int) - 1) (by omega)]
      simp only [lget_row (show (0 : Int) ≤ (k : Int) - 1 by omega) hk1, gbind_eq, Option.bind_some, row_get0, row_get1]
      have go : Less p (pt out ((k : Int) - 1)) → spec_wiAll_l2 L κ1 v01 v11 v71 (out.map row) v91 v10 b0 b1 c0 c1 m ((k : Int) - 1) = κ1 v01 v11 v71 ((insP p out).map row) v91 (v10 + 1) b0 b1 c0 c1 := fun hl => by
        have := ih (k - 1) (by omega) (fun j hj x hx => by
          by_cases e : j = k - 1
          · subst e; rw [hg] at hx; rw [← Option.some.inj hx]; exact hl
          · exact h1 j (by omega) x hx) (by omega)
        rw [show ((k - 1 : Nat) : Int) = (k : Int) - 1 by omega] at this
        exact this
      have stop : ¬ Less p (pt out ((k : Int) - 1)) → out.take k ++ p :: out.drop k = insP p out := fun hl => insP_take hO hk h1 fun j hj x hx => by
        rw [show j = k - 1 by omega, hg] at hx
        rw [← Option.some.inj hx]; exact hl
      by_cases d1 : p.x < (pt out ((k : Int) - 1)).x
      · simp only [d1, decide_true, cond_true]; exact go (.inl d1)
      · simp only [d1, decide_false, cond_false]
        by_cases d2 : p.x = (pt out ((k : Int) - 1)).x
        · simp only [decide_eq_true d2, cond_true]
          by_cases d3 : p.y < (pt out ((k : Int) - 1)).y
          · simp only [d3, decide_true, cond_true]; exact go (.inr ⟨d2, d3⟩)
          · simp only [d3, decide_false, cond_false]; exact fin (stop fun h => by unfold Less at h; omega)
        · simp only [decide_eq_false d2, cond_false]; exact fin (stop fun h => by unfold Less at h; omega)
    · simp only [hkl, decide_false, cond_false]
      exact fin (insP_take hO hk h1 fun j hj => by omega)
theorem wiAll_l3 {L : Nat} {κ1 : (List Pt) → Int → Int → (List (List Int)) → Int → Int → Int → Int → Int → Int → Option ((List (List Int)))} {v01 : List Pt} {v11 v71 v91 v10 b0 b1 c0 c1 : Int} {out : List Pt} {p : Pt}
    (hx : wr IntKind.i64 (iquo (wr IntKind.i64 (isub (wr IntKind.i64 (imul v91 c1)) (wr IntKind.i64 (imul v10 b1)))) v71) = p.x)
    (hy : wr IntKind.i64 (iquo (wr IntKind.i64 (isub (wr IntKind.i64 (imul v10 b0)) (wr IntKind.i64 (imul v91 c0)))) v71) = p.y)
    (hO : Ord out) (hs : (out.length : Int) ≤ 100000) (hv : -100000 ≤ v10 ∧ v10 ≤ 100000) :
    ∀ (m k : Nat), k ≤ out.length → (∀ j, k ≤ j → ∀ x, out[j]? = some x → Less p x) → k < m →
      spec_wiAll_l3 L κ1 v01 v11 v71 (out.map row) v91 v10 b0 b1 c0 c1 m k = κ1 v01 v11 v71 ((insP p out).map row) v91 (v10 + 1) b0 b1 c0 c1 := by
  intro m
  induction m with
  | zero => intro k _ _ h; omega
  | succ m ih =>
    intro k hk h1 hm
    have l1 : ilen (lsub (List.map eLI (out.map row)) 0 (k : Int)) = k := by rw [← map_lsub, ilen_li, (lsubk' hk (by simp)).1]; simp; omega
    have l2 : ilen (lsub (List.map eLI (out.map row)) (k : Int) (out.length : Int)) = ((out.length - k : Nat) : Int) := by rw [← map_lsub, ilen_li, (lsubk' hk (by simp)).2]; simp
    have l3 : ilen (lcat ([] : List AV) (lsub (List.map eLI (out.map row)) 0 (k : Int))) = k := by rw [lcat_eq, List.nil_append]; exact l1
    have l4 : ilen (lcat (lcat ([] : List AV) (lsub (List.map eLI (out.map row)) 0 (k : Int))) [AV.lst false false 1 [AV.int IntKind.i64 p.x, AV.int IntKind.i64 p.y]]) = k + 1 := by
      rw [lcat_eq, lcat_eq, List.nil_append, ilen_eq, List.length_append]; have := l1; rw [ilen_eq] at this; simp; simpa using this
    have fin : out.take k ++ p :: out.drop k = insP p out → κ1 v01 v11 v71 (lcat (lcat (lcat [] (lsub (out.map row) 0 (k : Int))) ((p.x :: p.y :: []) :: [])) (lsub (out.map row) (k : Int) (out.length : Int))) v91 (wr IntKind.i64 (v10 + 1)) b0 b1 c0 c1 = κ1 v01 v11 v71 ((insP p out).map row) v91 (v10 + 1) b0 b1 c0 c1 := fun e => by
      rw [wr_s (by omega), ← e, (lsubk' hk (by simp)).1, (lsubk' hk (by simp)).2]
      simp only [lcat_eq, List.nil_append, List.append_assoc, List.singleton_append, List.map_append, List.map_take, List.map_drop, List.map_cons, row]
    rw [spec_wiAll_l3]
    simp only [hx, hy]
    simp only [ieq_eq, ilen_li, List.length_map, ilt_eq, iadd_eq, isub_eq, ile_eq, l1, l2, l3, l4, show ilen ([] : List AV) = 0 by rw [ilen_eq]; rfl, show ilen [AV.lst false false 1 [AV.int IntKind.i64 p.x, AV.int IntKind.i64 p.y]] = 1 by rw [ilen_eq]; rfl]
    rw [fits_l (show ((0 : Int) + k) * (24 : Nat) ≤ 140737488355328 by omega), fits_l (show ((k : Int) + 1) * (24 : Nat) ≤ 140737488355328 by omega), fits_l (show ((k : Int) + 1 + ((out.length - k : Nat) : Int)) * (24 : Nat) ≤ 140737488355328 by omega)]
    simp only [show (0 : Int) ≤ k by omega, show (k : Int) ≤ (out.length : Int) by omega, decide_true, Bool.and_self, cond_true]
    by_cases hkl : (0 : Int) < (k : Int)
    · have hk1 : (k : Int) - 1 < (out.length : Int) := by omega
      have hg : out[k - 1]? = some (pt out ((k : Int) - 1)) := by
        have := pt_get (a := out) (i := (k : Int) - 1) (by omega) hk1
        rwa [show ((k : Int) - 1).toNat = k - 1 by omega] at this
      simp only [hkl, decide_true, cond_true]
      rw [wr_s (i := (k : Int) - 1) (by omega)]
      simp only [lget_row (show (0 : Int) ≤ (k : Int) - 1 by omega) hk1, gbind_eq, Option.bind_some, row_get0, row_get1]
      have go : Less p (pt out ((k : Int) - 1)) → spec_wiAll_l3 L κ1 v01 v11 v71 (out.map row) v91 v10 b0 b1 c0 c1 m ((k : Int) - 1) = κ1 v01 v11 v71 ((insP p out).map row) v91 (v10 + 1) b0 b1 c0 c1 := fun hl => by
        have := ih (k - 1) (by omega) (fun j hj x hx => by
          by_cases e : j = k - 1
          · subst e; rw [hg] at hx; rw [← Option.some.inj hx]; exact hl
          · exact h1 j (by omega) x hx) (by omega)
        rw [show ((k - 1 : Nat) : Int) = (k : Int) - 1 by omega] at this
        exact this
      have stop : ¬ Less p (pt out ((k : Int) - 1)) → out.take k ++ p :: out.drop k = insP p out := fun hl => insP_take hO hk h1 fun j hj x hx => by
        rw [show j = k - 1 by omega, hg] at hx
        rw [← Option.some.inj hx]; exact hl
      by_cases d1 : p.x < (pt out ((k : Int) - 1)).x
      · simp only [d1, decide_true, cond_true]; exact go (.inl d1)
      · simp only [d1, decide_false, cond_false]
        by_cases d2 : p.x = (pt out ((k : Int) - 1)).x
        · simp only [decide_eq_true d2, cond_true]
          by_cases d3 : p.y < (pt out ((k : Int) - 1)).y
          · simp only [d3, decide_true, cond_true]; exact go (.inr ⟨d2, d3⟩)
          · simp only [d3, decide_false, cond_false]; exact fin (stop fun h => by unfold Less at h; omega)
        · simp only [decide_eq_false d2, cond_false]; exact fin (stop fun h => by unfold Less at h; omega)
    · simp only [hkl, decide_false, cond_false]
      exact fin (insP_take hO hk h1 fun j hj => by omega)
noncomputable def wdth (a : List Pt) (x y : Int) : Int := (rngOf x y a).2 - (rngOf x y a).1
theorem width_eq {L : Nat} {a : List Pt} {b c : Int} (hb : -100000 ≤ b ∧ b ≤ 100000) (hc : -100000 ≤ c ∧ c ≤ 100000) (hn : a ≠ []) (hs : (a.length : Int) ≤ 1000) (hin : ∀ i, In (pt a i)) (hL : (a.length : Int) < L) :
    spec_wiWidth L a b c = some (wdth a b c) ∧ impl_width L a b c = some (wdth a b c) := by
  obtain ⟨r1, r2⟩ := range_eq (L := L) hb hc hn hs hin hL
  have v0 := val_bd hb hc (hin 0)
  have bd := rng_bd (f := val b c) (A := -8000000) (B := 8000000) a (val b c (pt a 0)) (val b c (pt a 0)) v0 v0 fun p hp => by
    obtain ⟨i, _, _, e⟩ := mem_pt hp
    rw [← e]; exact val_bd hb hc (hin i)
  have e : wr IntKind.i64 (isub (rngOf b c a).2 (rngOf b c a).1) = wdth a b c := by
    rw [isub_eq, wr_v (by unfold rngOf; omega)]; rfl
  unfold spec_wiWidth impl_width
  simp only [r1, r2, gbind_eq, Option.bind_some, e, and_self]
open Classical in
noncomputable def dirOf (a : List Pt) (vx vy wx wy D t s u : Int) : Option Pt :=
  if (s * wy - u * vy).tmod D = 0 ∧ (u * vx - s * wx).tmod D = 0 ∧ (0 < (s * wy - u * vy).tdiv D ∨ ((s * wy - u * vy).tdiv D = 0 ∧ 1 ≤ (u * vx - s * wx).tdiv D)) ∧
    Nat.gcd ((s * wy - u * vy).tdiv D).natAbs ((u * vx - s * wx).tdiv D).natAbs = 1 ∧ wdth a ((s * wy - u * vy).tdiv D) ((u * vx - s * wx).tdiv D) ≤ t then some ⟨(s * wy - u * vy).tdiv D, (u * vx - s * wx).tdiv D⟩ else none
def col (f : Int → Option Pt) : Nat → Int → List Pt
  | 0, _ => []
  | n + 1, u => (f u).toList ++ col f n (u + 1)
theorem col_len (f : Int → Option Pt) : ∀ (n : Nat) (u : Int), (col f n u).length ≤ n
  | 0, _ => Nat.le_refl _
  | n + 1, u => by
    have := col_len f n (u + 1)
    unfold col
    rw [List.length_append]
    have : (f u).toList.length ≤ 1 := by cases f u <;> simp
    omega
theorem tdvd_bd {x d B : Int} (h : -B ≤ x ∧ x ≤ B) : -B ≤ x.tdiv d ∧ x.tdiv d ≤ B := by
  have h3 : (x.tdiv d).natAbs ≤ x.natAbs := by rw [Int.natAbs_tdiv]; exact Nat.div_le_self _ _
  omega
structure Vw (a : List Pt) (vx vy wx wy D t : Int) : Prop where
  nn : a ≠ []
  len : (a.length : Int) ≤ 1000
  isIn : ∀ i, In (pt a i)
  v : (-80 ≤ vx ∧ vx ≤ 80) ∧ (-80 ≤ vy ∧ vy ≤ 80)
  w : (-80 ≤ wx ∧ wx ≤ 80) ∧ (-80 ≤ wy ∧ wy ≤ 80)
  d : D ≠ 0
  t : 0 ≤ t ∧ t ≤ 100
theorem Vw.X {a : List Pt} {vx vy wx wy D t s u : Int} (h : Vw a vx vy wx wy D t) (hs : -t ≤ s ∧ s ≤ t) (hu : -t ≤ u ∧ u ≤ t) :
    (wr IntKind.i64 (isub (wr IntKind.i64 (imul s wy)) (wr IntKind.i64 (imul u vy))) = s * wy - u * vy ∧ wr IntKind.i64 (isub (wr IntKind.i64 (imul u vx)) (wr IntKind.i64 (imul s wx))) = u * vx - s * wx) ∧
    (-16000 ≤ s * wy - u * vy ∧ s * wy - u * vy ≤ 16000) ∧ (-16000 ≤ u * vx - s * wx ∧ u * vx - s * wx ≤ 16000) := by
  have ht := h.t
  have h1 := mul_bd (A := 100) (B := 80) (show -100 ≤ s ∧ s ≤ 100 by omega) h.w.2
  have h2 := mul_bd (A := 100) (B := 80) (show -100 ≤ u ∧ u ≤ 100 by omega) h.v.2
  have h3 := mul_bd (A := 100) (B := 80) (show -100 ≤ u ∧ u ≤ 100 by omega) h.v.1
  have h4 := mul_bd (A := 100) (B := 80) (show -100 ≤ s ∧ s ≤ 100 by omega) h.w.1
  simp only [imul_eq, isub_eq]
  rw [wr_v (n := s * wy) (by omega), wr_v (n := u * vy) (by omega), wr_v (n := u * vx) (by omega), wr_v (n := s * wx) (by omega), wr_v (n := s * wy - u * vy) (by omega), wr_v (n := u * vx - s * wx) (by omega)]
  exact ⟨⟨rfl, rfl⟩, by omega, by omega⟩
theorem wiAll_l1 {L : Nat} {κ0 : (List Pt) → Int → Int → (List (List Int)) → Int → Int → Int → Int → Int → Option ((List (List Int)))} {a : List Pt} {vx vy wx wy D t s : Int} (h : Vw a vx vy wx wy D t) (hs : -t ≤ s ∧ s ≤ t) (hL : 200000 < L) :
    ∀ (n m : Nat) (u : Int) (out : List Pt), u + n = t + 1 → n < m → -t ≤ u → Ord out → (out.length : Int) + n ≤ 100000 →
      spec_wiAll_l1 L κ0 m a t D (out.map row) s u vx vy wx wy = κ0 a t D (((col (dirOf a vx vy wx wy D t s) n u).foldl (fun o p => insP p o) out).map row) (s + 1) vx vy wx wy := by
  intro n
  induction n with
  | zero =>
    intro m u out hu hm h0 hO hl
    obtain ⟨m, rfl⟩ : ∃ k, m = k + 1 := ⟨m - 1, by omega⟩
    have ht := h.t
    rw [spec_wiAll_l1]
    simp only [ile_eq, show ¬ u ≤ t by omega, decide_false, cond_false, iadd_eq, col, List.foldl_nil]
    rw [wr_s (by omega)]
  | succ n ih =>
    intro m u out hu hm h0 hO hl
    obtain ⟨m, rfl⟩ : ∃ k, m = k + 1 := ⟨m - 1, by omega⟩
    have ht := h.t
    obtain ⟨⟨hX, hY⟩, bX, bY⟩ := h.X hs (show -t ≤ u ∧ u ≤ t by omega)
    have wu : wr IntKind.i64 (iadd u 1) = u + 1 := by rw [iadd_eq, wr_s (by omega)]
    have skip : dirOf a vx vy wx wy D t s u = none → spec_wiAll_l1 L κ0 m a t D (out.map row) s (u + 1) vx vy wx wy = κ0 a t D (((col (dirOf a vx vy wx wy D t s) (n + 1) u).foldl (fun o p => insP p o) out).map row) (s + 1) vx vy wx wy := fun e => by
      rw [ih m (u + 1) out (by omega) (by omega) (by omega) hO (by omega), col, e]; rfl
    have take : ∀ p, dirOf a vx vy wx wy D t s u = some p → spec_wiAll_l1 L κ0 m a t D ((insP p out).map row) s (u + 1) vx vy wx wy = κ0 a t D (((col (dirOf a vx vy wx wy D t s) (n + 1) u).foldl (fun o p => insP p o) out).map row) (s + 1) vx vy wx wy := fun p e => by
      rw [ih m (u + 1) (insP p out) (by omega) (by omega) (by omega) (insP_ord hO) (by rw [insP_len]; omega), col, e]; rfl
    have tX := tdvd_bd (d := D) bX
    have tY := tdvd_bd (d := D) bY
    have qX : wr IntKind.i64 (iquo (wr IntKind.i64 (isub (wr IntKind.i64 (imul s wy)) (wr IntKind.i64 (imul u vy)))) D) = (s * wy - u * vy).tdiv D := by rw [hX, iquo_eq, wr_v (by omega)]
    have qY : wr IntKind.i64 (iquo (wr IntKind.i64 (isub (wr IntKind.i64 (imul u vx)) (wr IntKind.i64 (imul s wx)))) D) = (u * vx - s * wx).tdiv D := by rw [hY, iquo_eq, wr_v (by omega)]
    have i2 := fun p (hx : _ = p.x) (hy : _ = p.y) => wiAll_l2 (L := L) (κ1 := spec_wiAll_l1 L κ0 m) (v01 := a) (v11 := t) (v71 := D) (v91 := s) (v10 := u) (b0 := vx) (b1 := vy) (c0 := wx) (c1 := wy) (out := out) (p := p) hx hy hO (by omega) (by omega) L out.length (Nat.le_refl _) (fun j hj x hx => by rw [List.getElem?_eq_none (by omega)] at hx; cases hx) (by omega)
    have i3 := fun p (hx : _ = p.x) (hy : _ = p.y) => wiAll_l3 (L := L) (κ1 := spec_wiAll_l1 L κ0 m) (v01 := a) (v11 := t) (v71 := D) (v91 := s) (v10 := u) (b0 := vx) (b1 := vy) (c0 := wx) (c1 := wy) (out := out) (p := p) hx hy hO (by omega) (by omega) L out.length (Nat.le_refl _) (fun j hj x hx => by rw [List.getElem?_eq_none (by omega)] at hx; cases hx) (by omega)
    have j2 := i2 ⟨(s * wy - u * vy).tdiv D, (u * vx - s * wx).tdiv D⟩ qX qY
    have j3 := i3 ⟨(s * wy - u * vy).tdiv D, (u * vx - s * wx).tdiv D⟩ qX qY
    obtain ⟨w1, _⟩ := width_eq (L := L) (a := a) (b := (s * wy - u * vy).tdiv D) (c := (u * vx - s * wx).tdiv D) (by omega) (by omega) h.nn h.len h.isIn (by have := h.len; omega)
    have g1 := common_eq (L := L) (b := (s * wy - u * vy).tdiv D) (c := (u * vx - s * wx).tdiv D) (by omega) (by omega) (by omega)
    have rX : wr IntKind.i64 (iquo (s * wy - u * vy) D) = (s * wy - u * vy).tdiv D := by rw [iquo_eq, wr_v (by omega)]
    have rY : wr IntKind.i64 (iquo (u * vx - s * wx) D) = (u * vx - s * wx).tdiv D := by rw [iquo_eq, wr_v (by omega)]
    rw [spec_wiAll_l1]
    have ll : ilen (List.map eLI (out.map row)) = (out.length : Int) := by rw [ilen_li, List.length_map]
    simp only [ile_eq, show u ≤ t by omega, decide_true, cond_true, ieq_eq, h.d, decide_false, cond_false, wu, rX, rY, w1, g1, gbind_eq, Option.bind_some, ll, j2, j3, hX, hY, irem_eq, ilt_eq]
    generalize hx : (s * wy - u * vy).tdiv D = x at *
    generalize hy : (u * vx - s * wx).tdiv D = y at *
    by_cases k1 : (s * wy - u * vy).tmod D = 0
    · simp only [k1, decide_true, Bool.not_true, cond_false]
      by_cases k2 : (u * vx - s * wx).tmod D = 0
      · simp only [k2, decide_true, Bool.not_true, cond_false]
        by_cases k3 : x < 0
        · simp only [k3, decide_true, cond_true]
          exact skip (if_neg fun e => by rw [hx] at e; have := e.2.2.1; omega)
        · simp only [k3, decide_false, cond_false]
          by_cases k4 : x = 0
          · simp only [decide_eq_true k4, cond_true]
            by_cases k5 : y < 1
            · simp only [k5, decide_true, cond_true]
              exact skip (if_neg fun e => by rw [hx, hy] at e; have := e.2.2.1; omega)
            · simp only [k5, decide_false, cond_false]
              by_cases k6 : ((Nat.gcd x.natAbs y.natAbs : Nat) : Int) = 1
              · simp only [k6, decide_true, Bool.not_true, cond_false]
                by_cases k7 : t < wdth a x y
                · simp only [k7, decide_true, cond_true]
                  exact skip (if_neg fun e => by rw [hx, hy] at e; have := e.2.2.2.2; omega)
                · simp only [k7, decide_false, cond_false]
                  exact take ⟨x, y⟩ (by unfold dirOf; rw [hx, hy]; exact if_pos ⟨k1, k2, by omega, by omega, by omega⟩)
              · simp only [k6, decide_false, Bool.not_false, cond_true]
                exact skip (if_neg fun e => by rw [hx, hy] at e; have := e.2.2.2.1; omega)
          · simp only [decide_eq_false k4, cond_false]
            by_cases k6 : ((Nat.gcd x.natAbs y.natAbs : Nat) : Int) = 1
            · simp only [k6, decide_true, Bool.not_true, cond_false]
              by_cases k7 : t < wdth a x y
              · simp only [k7, decide_true, cond_true]
                exact skip (if_neg fun e => by rw [hx, hy] at e; have := e.2.2.2.2; omega)
              · simp only [k7, decide_false, cond_false]
                exact take ⟨x, y⟩ (by unfold dirOf; rw [hx, hy]; exact if_pos ⟨k1, k2, by omega, by omega, by omega⟩)
            · simp only [k6, decide_false, Bool.not_false, cond_true]
              exact skip (if_neg fun e => by rw [hx, hy] at e; have := e.2.2.2.1; omega)
      · simp only [k2, decide_false, Bool.not_false, cond_true]
        exact skip (if_neg fun e => k2 e.2.1)
    · simp only [k1, decide_false, Bool.not_false, cond_true]
      exact skip (if_neg fun e => k1 e.1)
end Go.AM
namespace Go.AM
def allD (f : Int → Int → Option Pt) (N : Nat) (u0 : Int) : Nat → Int → List Pt
  | 0, _ => []
  | n + 1, s => col (f s) N u0 ++ allD f N u0 n (s + 1)
theorem ins_len {l out : List Pt} (hO : Ord out) : (l.foldl (fun o p => insP p o) out).length = l.length + out.length := by
  have := (isort_go l out hO).2.length_eq
  rwa [List.length_append] at this
theorem wiAll_l0 {L : Nat} {a : List Pt} {vx vy wx wy D t : Int} (h : Vw a vx vy wx wy D t) (hL : 200000 < L) {N : Nat} (hN : (N : Int) = 2 * t + 1) :
    ∀ (n m : Nat) (s : Int) (out : List Pt), s + n = t + 1 → n < m → -t ≤ s → Ord out → (out.length : Int) + n * 201 ≤ 100000 - 201 →
      spec_wiAll_l0 L m a t D (out.map row) s vx vy wx wy = some (((allD (dirOf a vx vy wx wy D t) N (-t) n s).foldl (fun o p => insP p o) out).map row) := by
  intro n
  induction n with
  | zero =>
    intro m s out hs hm h0 hO hl
    obtain ⟨m, rfl⟩ : ∃ k, m = k + 1 := ⟨m - 1, by omega⟩
    rw [spec_wiAll_l0]
    simp only [ile_eq, show ¬ s ≤ t by omega, decide_false, cond_false, allD, List.foldl_nil]
  | succ n ih =>
    intro m s out hs hm h0 hO hl
    obtain ⟨m, rfl⟩ : ∃ k, m = k + 1 := ⟨m - 1, by omega⟩
    have ht := h.t
    have e0 : wr IntKind.i64 (isub 0 t) = -t := by rw [isub_eq, wr_v (by omega)]; omega
    have cl := col_len (dirOf a vx vy wx wy D t s) N (-t)
    rw [spec_wiAll_l0]
    simp only [ile_eq, show s ≤ t by omega, decide_true, cond_true, e0]
    rw [wiAll_l1 h (by omega) hL N L (-t) out (by omega) (by omega) (by omega) hO (by omega)]
    rw [ih m (s + 1) _ (by omega) (by omega) (by omega) (isort_go _ _ hO).1 (by rw [ins_len hO]; omega), allD, List.foldl_append]
theorem dirs_l1 {L : Nat} {κ0 : (List Pt) → Int → Int → Int → (List Pt) → Int → Int → Int → Int → Option ((List Pt))} {a : List Pt} {vx vy wx wy D t s : Int} (h : Vw a vx vy wx wy D t) (hs : -t ≤ s ∧ s ≤ t) (hL : 200000 < L) :
    ∀ (n m : Nat) (u : Int) (w : List Pt), u + n = t + 1 → n < m → -t ≤ u → (w.length : Int) + n ≤ 100000 →
      impl_directions_l1 L κ0 a t D s vx vy wx wy m u w = κ0 a t D (s + 1) (w ++ col (dirOf a vx vy wx wy D t s) n u) vx vy wx wy := by
  intro n
  induction n with
  | zero =>
    intro m u w hu hm h0 hl
    obtain ⟨m, rfl⟩ : ∃ k, m = k + 1 := ⟨m - 1, by omega⟩
    have ht := h.t
    rw [impl_directions_l1]
    simp only [ile_eq, show ¬ u ≤ t by omega, decide_false, cond_false, iadd_eq, col, List.append_nil]
    rw [wr_s (by omega)]
  | succ n ih =>
    intro m u w hu hm h0 hl
    obtain ⟨m, rfl⟩ : ∃ k, m = k + 1 := ⟨m - 1, by omega⟩
    have ht := h.t
    obtain ⟨⟨hX, hY⟩, bX, bY⟩ := h.X hs (show -t ≤ u ∧ u ≤ t by omega)
    have wu : wr IntKind.i64 (iadd u 1) = u + 1 := by rw [iadd_eq, wr_s (by omega)]
    have skip : dirOf a vx vy wx wy D t s u = none → impl_directions_l1 L κ0 a t D s vx vy wx wy m (u + 1) w = κ0 a t D (s + 1) (w ++ col (dirOf a vx vy wx wy D t s) (n + 1) u) vx vy wx wy := fun e => by
      rw [ih m (u + 1) w (by omega) (by omega) (by omega) (by omega), col, e]; rfl
    have take : ∀ p, dirOf a vx vy wx wy D t s u = some p → impl_directions_l1 L κ0 a t D s vx vy wx wy m (u + 1) (lcat w [p]) = κ0 a t D (s + 1) (w ++ col (dirOf a vx vy wx wy D t s) (n + 1) u) vx vy wx wy := fun p e => by
      rw [ih m (u + 1) (lcat w [p]) (by omega) (by omega) (by omega) (by rw [lcat_eq]; simp; omega), col, e, lcat_eq, List.append_assoc]; rfl
    have tX := tdvd_bd (d := D) bX
    have tY := tdvd_bd (d := D) bY
    have rX : wr IntKind.i64 (iquo (s * wy - u * vy) D) = (s * wy - u * vy).tdiv D := by rw [iquo_eq, wr_v (by omega)]
    have rY : wr IntKind.i64 (iquo (u * vx - s * wx) D) = (u * vx - s * wx).tdiv D := by rw [iquo_eq, wr_v (by omega)]
    obtain ⟨_, w1⟩ := width_eq (L := L) (a := a) (b := (s * wy - u * vy).tdiv D) (c := (u * vx - s * wx).tdiv D) (by omega) (by omega) h.nn h.len h.isIn (by have := h.len; omega)
    have g1 := divisor_eq (L := L) (b := (s * wy - u * vy).tdiv D) (c := (u * vx - s * wx).tdiv D) (by omega) (by omega) (by omega)
    have f1 : fits (iadd (w.length : Int) 1) 16 = true := by rw [iadd_eq]; exact fits_l (by omega)
    have k1' : ∀ x y : Int, ilen [AV.agg [AV.int IntKind.i64 x, AV.int IntKind.i64 y]] = 1 := fun x y => by rw [ilen_eq]; rfl
    rw [impl_directions_l1]
    simp only [ile_eq, show u ≤ t by omega, decide_true, cond_true, ieq_eq, h.d, decide_false, cond_false, wu, rX, rY, w1, g1, gbind_eq, Option.bind_some, ilen_mapep, hX, hY, irem_eq, ilt_eq, k1', f1]
    generalize hx : (s * wy - u * vy).tdiv D = x at *
    generalize hy : (u * vx - s * wx).tdiv D = y at *
    by_cases k1 : (s * wy - u * vy).tmod D = 0
    · simp only [k1, decide_true, Bool.not_true, cond_false]
      by_cases k2 : (u * vx - s * wx).tmod D = 0
      · simp only [k2, decide_true, Bool.not_true, cond_false]
        by_cases k6 : ((Nat.gcd x.natAbs y.natAbs : Nat) : Int) = 1
        · simp only [k6, decide_true, cond_true]
          by_cases k3 : 0 < x
          · simp only [k3, decide_true, cond_true]
            by_cases k7 : wdth a x y ≤ t
            · simp only [k7, decide_true, cond_true]
              exact take ⟨x, y⟩ (by unfold dirOf; rw [hx, hy]; exact if_pos ⟨k1, k2, by omega, by omega, by omega⟩)
            · simp only [k7, decide_false, cond_false]
              exact skip (if_neg fun e => by rw [hx, hy] at e; have := e.2.2.2.2; omega)
          · simp only [k3, decide_false, cond_false]
            by_cases k4 : x = 0
            · have hg : y.natAbs = 1 := by
                have : Nat.gcd x.natAbs y.natAbs = 1 := by omega
                rw [k4] at this
                simpa using this
              simp only [decide_eq_true k4, cond_true]
              by_cases k5 : y = 1
              · simp only [decide_eq_true k5, cond_true]
                by_cases k7 : wdth a x y ≤ t
                · simp only [k7, decide_true, cond_true]
                  exact take ⟨x, y⟩ (by unfold dirOf; rw [hx, hy]; exact if_pos ⟨k1, k2, by omega, by omega, by omega⟩)
                · simp only [k7, decide_false, cond_false]
                  exact skip (if_neg fun e => by rw [hx, hy] at e; have := e.2.2.2.2; omega)
              · simp only [decide_eq_false k5, cond_false]
                exact skip (if_neg fun e => by rw [hx, hy] at e; have := e.2.2.1; omega)
            · simp only [decide_eq_false k4, cond_false]
              exact skip (if_neg fun e => by rw [hx, hy] at e; have := e.2.2.1; omega)
        · simp only [k6, decide_false, cond_false]
          exact skip (if_neg fun e => by rw [hx, hy] at e; have := e.2.2.2.1; omega)
      · simp only [k2, decide_false, Bool.not_false, cond_true]
        exact skip (if_neg fun e => k2 e.2.1)
    · simp only [k1, decide_false, Bool.not_false, cond_true]
      exact skip (if_neg fun e => k1 e.1)
theorem dirs_l0 {L : Nat} {a : List Pt} {vx vy wx wy D t : Int} (h : Vw a vx vy wx wy D t) (hL : 200000 < L) {N : Nat} (hN : (N : Int) = 2 * t + 1) :
    ∀ (n m : Nat) (s : Int) (w : List Pt), s + n = t + 1 → n < m → -t ≤ s → (w.length : Int) + n * 201 ≤ 100000 - 201 →
      impl_directions_l0 L m a t D s w vx vy wx wy = impl_sorted L (w ++ allD (dirOf a vx vy wx wy D t) N (-t) n s) := by
  intro n
  induction n with
  | zero =>
    intro m s w hs hm h0 hl
    obtain ⟨m, rfl⟩ : ∃ k, m = k + 1 := ⟨m - 1, by omega⟩
    rw [impl_directions_l0]
    simp only [ile_eq, show ¬ s ≤ t by omega, decide_false, cond_false, allD, List.append_nil, gbind_eq, Option.bind_some]
    cases impl_sorted L w <;> rfl
  | succ n ih =>
    intro m s w hs hm h0 hl
    obtain ⟨m, rfl⟩ : ∃ k, m = k + 1 := ⟨m - 1, by omega⟩
    have ht := h.t
    have e0 : wr IntKind.i64 (isub 0 t) = -t := by rw [isub_eq, wr_v (by omega)]; omega
    have cl := col_len (dirOf a vx vy wx wy D t s) N (-t)
    rw [impl_directions_l0]
    simp only [ile_eq, show s ≤ t by omega, decide_true, cond_true, e0]
    rw [dirs_l1 h (by omega) hL N L (-t) w (by omega) (by omega) (by omega) (by omega)]
    rw [ih m (s + 1) _ (by omega) (by omega) (by omega) (by rw [List.length_append]; omega), allD, List.append_assoc]
noncomputable def dirL (a : List Pt) (t : Int) : List Pt :=
  allD (dirOf a ((pt a 1).x - (pt a 0).x) ((pt a 1).y - (pt a 0).y) ((pt a 2).x - (pt a 0).x) ((pt a 2).y - (pt a 0).y) (turn (pt a 0) (pt a 1) (pt a 2)) t) (2 * t + 1).toNat (-t) (2 * t + 1).toNat (-t)
theorem vw_of {a : List Pt} {t : Int} (g : Good_ a) (ht : 0 ≤ t ∧ t ≤ 100) : Vw a ((pt a 1).x - (pt a 0).x) ((pt a 1).y - (pt a 0).y) ((pt a 2).x - (pt a 0).x) ((pt a 2).y - (pt a 0).y) (turn (pt a 0) (pt a 1) (pt a 2)) t := by
  have hn : a ≠ [] := by intro e; have := g.lo; subst e; simp at this
  have hin := in_all g.isIn hn
  have i0 := hin 0
  have i1 := hin 1
  have i2 := hin 2
  have hl := g.lo
  have hh := g.hi
  unfold In at i0 i1 i2
  exact ⟨hn, by omega, hin, ⟨by omega, by omega⟩, ⟨by omega, by omega⟩, g.turn 0 (Int.le_refl 0) (by omega), ht⟩
theorem all_eq {L : Nat} {a : List Pt} {t : Int} (g : Good_ a) (ht : 0 ≤ t ∧ t ≤ 100) (hL : 200000 < L) : spec_wiAll L a t = some ((isort (dirL a t)).map row) ∧ impl_directions L a t = impl_sorted L (dirL a t) := by
  have h := vw_of g ht
  have hl := g.lo
  have l0 : lget a 0 = some (pt a 0) := lget_pt (Int.le_refl 0) (by omega)
  have l1 : lget a 1 = some (pt a 1) := lget_pt (by omega) (by omega)
  have l2 : lget a 2 = some (pt a 2) := lget_pt (by omega) (by omega)
  have i0 := h.isIn 0
  have i1 := h.isIn 1
  have i2 := h.isIn 2
  have e0 : wr IntKind.i64 (isub 0 t) = -t := by rw [isub_eq, wr_v (by omega)]; omega
  have e1 : wr IntKind.i64 (isub (pt a 1).x (pt a 0).x) = (pt a 1).x - (pt a 0).x := by rw [isub_eq, wr_v (by unfold In at *; omega)]
  have e2 : wr IntKind.i64 (isub (pt a 1).y (pt a 0).y) = (pt a 1).y - (pt a 0).y := by rw [isub_eq, wr_v (by unfold In at *; omega)]
  have e3 : wr IntKind.i64 (isub (pt a 2).x (pt a 0).x) = (pt a 2).x - (pt a 0).x := by rw [isub_eq, wr_v (by unfold In at *; omega)]
  have e4 : wr IntKind.i64 (isub (pt a 2).y (pt a 0).y) = (pt a 2).y - (pt a 0).y := by rw [isub_eq, wr_v (by unfold In at *; omega)]
  have m1 := mul_bd h.v.1 h.w.2
  have m2 := mul_bd h.v.2 h.w.1
  have e5 : wr IntKind.i64 (isub (wr IntKind.i64 (imul ((pt a 1).x - (pt a 0).x) ((pt a 2).y - (pt a 0).y))) (wr IntKind.i64 (imul ((pt a 1).y - (pt a 0).y) ((pt a 2).x - (pt a 0).x)))) = turn (pt a 0) (pt a 1) (pt a 2) := by
    simp only [imul_eq, isub_eq]
    rw [wr_v (n := ((pt a 1).x - (pt a 0).x) * ((pt a 2).y - (pt a 0).y)) (by omega), wr_v (n := ((pt a 1).y - (pt a 0).y) * ((pt a 2).x - (pt a 0).x)) (by omega), wr_v (by omega)]
    rfl
  constructor
  · unfold spec_wiAll
    simp only [l0, l1, l2, gbind_eq, Option.bind_some, e0, e1, e2, e3, e4, e5]
    have := wiAll_l0 h hL (N := (2 * t + 1).toNat) (by omega) (2 * t + 1).toNat L (-t) [] (by omega) (by omega) (by omega) .nil (by simp; omega)
    rw [List.map_nil] at this
    exact this
  · unfold impl_directions impl_Peg_less impl_cross
    simp only [l0, l1, l2, gbind_eq, Option.bind_some, e0, e1, e2, e3, e4, e5]
    exact dirs_l0 h hL (N := (2 * t + 1).toNat) (by omega) (2 * t + 1).toNat L (-t) [] (by omega) (by omega) (by omega) (by simp; omega)
theorem dirL_len {a : List Pt} {t : Int} (ht : 0 ≤ t ∧ t ≤ 100) : ((dirL a t).length : Int) ≤ 100000 := by
  have key : ∀ (f : Int → Int → Option Pt) (N : Nat) (u0 : Int) (n : Nat) (s : Int), (allD f N u0 n s).length ≤ n * N := by
    intro f N u0 n
    induction n with
    | zero => intro s; simp [allD]
    | succ n ih =>
      intro s
      have h1 := ih (s + 1)
      have h2 := col_len (f s) N u0
      rw [allD, List.length_append, Nat.succ_mul]
      omega
  have := key (dirOf a ((pt a 1).x - (pt a 0).x) ((pt a 1).y - (pt a 0).y) ((pt a 2).x - (pt a 0).x) ((pt a 2).y - (pt a 0).y) (turn (pt a 0) (pt a 1) (pt a 2)) t) (2 * t + 1).toNat (-t) (2 * t + 1).toNat (-t)
  have h1 : (2 * t + 1).toNat ≤ 201 := by omega
  have h2 := Nat.mul_le_mul h1 h1
  unfold dirL
  omega
end Go.AM
namespace Go.AM
theorem impl_sorted_any {L : Nat} {a : List Pt} (hs : (a.length : Int) ≤ 1000000) : impl_sorted L a = some (isort a) := by
  by_cases hn : a = []
  · subst hn
    have h0 : ilen ([] : List AV) = 0 := by rw [ilen_eq]; rfl
    have f0 : fits (iadd (0 : Int) 0) 16 = true := by rw [iadd_eq]; exact fits_l (by omega)
    have hc : slices_Clone_impl_Peg_impl_Peg L [] = some [] := by
      unfold slices_Clone_impl_Peg_impl_Peg
      simp only [List.map_nil, h0, ieq_eq, decide_true, cond_true, f0, lcat_eq, List.append_nil]
      exact osame_same rfl
    unfold impl_sorted slices_SortFunc_impl_Peg_impl_Peg
    simp only [hc, gbind_eq, Option.bind_some, sortP_eq (a := []) (by simp)]
  · exact impl_sorted_eq hn hs
end Go.AM
namespace Go.AM
theorem col_mem {f : Int → Option Pt} {p : Pt} : ∀ {n : Nat} {u : Int}, p ∈ col f n u ↔ ∃ v, u ≤ v ∧ v < u + n ∧ f v = some p
  | 0, u => by
    simp only [col, List.not_mem_nil, false_iff]
    rintro ⟨v, h1, h2, _⟩; omega
  | n + 1, u => by
    rw [col, List.mem_append, col_mem (n := n) (u := u + 1)]
    constructor
    · rintro (h | ⟨v, h1, h2, h3⟩)
      · refine ⟨u, by omega, by omega, ?_⟩
        simpa [Option.mem_toList] using h
      · exact ⟨v, by omega, by omega, h3⟩
    · rintro ⟨v, h1, h2, h3⟩
      by_cases e : v = u
      · left; rw [← e, h3]; simp
      · right; exact ⟨v, by omega, by omega, h3⟩
theorem allD_mem {f : Int → Int → Option Pt} {N : Nat} {u0 : Int} {p : Pt} : ∀ {n : Nat} {s : Int}, p ∈ allD f N u0 n s ↔ ∃ v, s ≤ v ∧ v < s + n ∧ ∃ u, u0 ≤ u ∧ u < u0 + N ∧ f v u = some p
  | 0, s => by
    simp only [allD, List.not_mem_nil, false_iff]
    rintro ⟨v, h1, h2, _⟩; omega
  | n + 1, s => by
    rw [allD, List.mem_append, allD_mem (n := n) (s := s + 1), col_mem]
    constructor
    · rintro (h | ⟨v, h1, h2, h3⟩)
      · exact ⟨s, by omega, by omega, h⟩
      · exact ⟨v, by omega, by omega, h3⟩
    · rintro ⟨v, h1, h2, h3⟩
      by_cases e : v = s
      · left; rw [← e]; exact h3
      · right; exact ⟨v, by omega, by omega, h3⟩
def ToldD (p : Pt) : Prop := Nat.gcd p.x.natAbs p.y.natAbs = 1 ∧ (0 < p.x ∨ (p.x = 0 ∧ 1 ≤ p.y))
theorem rng_le {f : Pt → Int} : ∀ (l : List Pt) (u v : Int), (rng f l u v).1 ≤ u ∧ v ≤ (rng f l u v).2 ∧ ∀ p ∈ l, (rng f l u v).1 ≤ f p ∧ f p ≤ (rng f l u v).2
  | [], u, v => ⟨Int.le_refl _, Int.le_refl _, fun p hp => by cases hp⟩
  | q :: l, u, v => by
    have i1 : (if u < f q then u else f q) ≤ u ∧ (if u < f q then u else f q) ≤ f q := by split <;> omega
    have i2 : v ≤ (if f q < v then v else f q) ∧ f q ≤ (if f q < v then v else f q) := by split <;> omega
    rw [rng]
    generalize (if u < f q then u else f q) = u' at *
    generalize (if f q < v then v else f q) = v' at *
    obtain ⟨h1, h2, h3⟩ := rng_le (f := f) l u' v'
    refine ⟨by omega, by omega, fun p hp => ?_⟩
    rcases List.mem_cons.1 hp with e | hp
    · subst e; omega
    · exact h3 p hp
theorem wdth_ge {a : List Pt} {x y : Int} (i j : Int) (hn : a ≠ []) : val x y (pt a i) - val x y (pt a j) ≤ wdth a x y := by
  obtain ⟨_, _, h⟩ := rng_le (f := val x y) a (val x y (pt a 0)) (val x y (pt a 0))
  have h1 := h _ (pt_mem hn i)
  have h2 := h _ (pt_mem hn j)
  unfold wdth rngOf
  omega
theorem dirL_mem {a : List Pt} {t : Int} {p : Pt} (g : Good_ a) (ht : 0 ≤ t ∧ t ≤ 100) : p ∈ dirL a t ↔ ToldD p ∧ wdth a p.x p.y ≤ t := by
  have h := vw_of g ht
  unfold dirL
  rw [allD_mem]
  constructor
  · rintro ⟨s, _, _, u, _, _, e⟩
    unfold dirOf at e
    split at e
    · rename_i c
      cases e
      exact ⟨⟨c.2.2.2.1, c.2.2.1⟩, c.2.2.2.2⟩
    · cases e
  · rintro ⟨⟨h1, h2⟩, h3⟩
    have w1 := wdth_ge (x := p.x) (y := p.y) 1 0 h.nn
    have w2 := wdth_ge (x := p.x) (y := p.y) 0 1 h.nn
    have w3 := wdth_ge (x := p.x) (y := p.y) 2 0 h.nn
    have w4 := wdth_ge (x := p.x) (y := p.y) 0 2 h.nn
    have e1 : val p.x p.y (pt a 1) - val p.x p.y (pt a 0) = p.x * ((pt a 1).x - (pt a 0).x) + p.y * ((pt a 1).y - (pt a 0).y) := by unfold val; grind
    have e2 : val p.x p.y (pt a 2) - val p.x p.y (pt a 0) = p.x * ((pt a 2).x - (pt a 0).x) + p.y * ((pt a 2).y - (pt a 0).y) := by unfold val; grind
    refine ⟨p.x * ((pt a 1).x - (pt a 0).x) + p.y * ((pt a 1).y - (pt a 0).y), by omega, by omega, p.x * ((pt a 2).x - (pt a 0).x) + p.y * ((pt a 2).y - (pt a 0).y), by omega, by omega, ?_⟩
    have hd := h.d
    have eX : (p.x * ((pt a 1).x - (pt a 0).x) + p.y * ((pt a 1).y - (pt a 0).y)) * ((pt a 2).y - (pt a 0).y) - (p.x * ((pt a 2).x - (pt a 0).x) + p.y * ((pt a 2).y - (pt a 0).y)) * ((pt a 1).y - (pt a 0).y) = p.x * turn (pt a 0) (pt a 1) (pt a 2) := by unfold turn; grind
    have eY : (p.x * ((pt a 2).x - (pt a 0).x) + p.y * ((pt a 2).y - (pt a 0).y)) * ((pt a 1).x - (pt a 0).x) - (p.x * ((pt a 1).x - (pt a 0).x) + p.y * ((pt a 1).y - (pt a 0).y)) * ((pt a 2).x - (pt a 0).x) = p.y * turn (pt a 0) (pt a 1) (pt a 2) := by unfold turn; grind
    unfold dirOf
    rw [eX, eY, Int.mul_tdiv_cancel _ hd, Int.mul_tdiv_cancel _ hd]
    rw [if_pos ⟨Int.mul_tmod_left _ _, Int.mul_tmod_left _ _, h2, h1, h3⟩]
theorem wdth_pos {a : List Pt} {p : Pt} (g : Good_ a) (hp : ToldD p) : 1 ≤ wdth a p.x p.y := by
  have h := vw_of g (t := 0) (by omega)
  have w1 := wdth_ge (x := p.x) (y := p.y) 1 0 h.nn
  have w2 := wdth_ge (x := p.x) (y := p.y) 0 1 h.nn
  have w3 := wdth_ge (x := p.x) (y := p.y) 2 0 h.nn
  have w4 := wdth_ge (x := p.x) (y := p.y) 0 2 h.nn
  rcases Int.lt_or_le 0 (wdth a p.x p.y) with h1 | h1
  · omega
  · exfalso
    have hm : p ∈ dirL a 0 := (dirL_mem g (by omega)).2 ⟨hp, h1⟩
    have e1 : val p.x p.y (pt a 1) - val p.x p.y (pt a 0) = p.x * ((pt a 1).x - (pt a 0).x) + p.y * ((pt a 1).y - (pt a 0).y) := by unfold val; grind
    have e2 : val p.x p.y (pt a 2) - val p.x p.y (pt a 0) = p.x * ((pt a 2).x - (pt a 0).x) + p.y * ((pt a 2).y - (pt a 0).y) := by unfold val; grind
    have z1 : p.x * ((pt a 1).x - (pt a 0).x) + p.y * ((pt a 1).y - (pt a 0).y) = 0 := by omega
    have z2 : p.x * ((pt a 2).x - (pt a 0).x) + p.y * ((pt a 2).y - (pt a 0).y) = 0 := by omega
    have eX : p.x * turn (pt a 0) (pt a 1) (pt a 2) = 0 := by
      have : p.x * turn (pt a 0) (pt a 1) (pt a 2) = (p.x * ((pt a 1).x - (pt a 0).x) + p.y * ((pt a 1).y - (pt a 0).y)) * ((pt a 2).y - (pt a 0).y) - (p.x * ((pt a 2).x - (pt a 0).x) + p.y * ((pt a 2).y - (pt a 0).y)) * ((pt a 1).y - (pt a 0).y) := by unfold turn; grind
      rw [this, z1, z2]; omega
    have eY : p.y * turn (pt a 0) (pt a 1) (pt a 2) = 0 := by
      have : p.y * turn (pt a 0) (pt a 1) (pt a 2) = (p.x * ((pt a 2).x - (pt a 0).x) + p.y * ((pt a 2).y - (pt a 0).y)) * ((pt a 1).x - (pt a 0).x) - (p.x * ((pt a 1).x - (pt a 0).x) + p.y * ((pt a 1).y - (pt a 0).y)) * ((pt a 2).x - (pt a 0).x) := by unfold turn; grind
      rw [this, z1, z2]; omega
    have hx := (Int.mul_eq_zero.1 eX).resolve_right h.d
    have hy := (Int.mul_eq_zero.1 eY).resolve_right h.d
    have := hp.2
    omega
end Go.AM
namespace Go.AM
theorem wiLeast_l0 {L : Nat} {a : List Pt} {W : Int} (g : Good_ a) (hL : 200000 < L) (h1 : 1 ≤ W ∧ W ≤ 100) (hn : dirL a W ≠ []) (hno : ∀ t, 1 ≤ t → t < W → dirL a t = []) :
    ∀ (n m : Nat) (v : Int), v + n = W → n < m → 1 ≤ v → spec_wiLeast_l0 L a m v = some (W, (isort (dirL a W)).map row) := by
  intro n
  induction n with
  | zero =>
    intro m v hv hm h0
    obtain ⟨m, rfl⟩ : ∃ k, m = k + 1 := ⟨m - 1, by omega⟩
    obtain rfl : v = W := by omega
    have hp := List.length_pos_iff.2 hn
    rw [spec_wiLeast_l0, (all_eq g (by omega) hL).1]
    simp only [gbind_eq, Option.bind_some, ilen_li, List.length_map, isort_len, ilt_eq, show (0 : Int) < ((dirL a v).length : Int) by omega, decide_true, cond_true]
  | succ n ih =>
    intro m v hv hm h0
    obtain ⟨m, rfl⟩ : ∃ k, m = k + 1 := ⟨m - 1, by omega⟩
    have e := hno v h0 (by omega)
    rw [spec_wiLeast_l0, (all_eq g (by omega) hL).1, e]
    have e0 : isort ([] : List Pt) = [] := rfl
    simp only [gbind_eq, Option.bind_some, e0, List.map_nil, show ilen ([] : List AV) = 0 by rw [ilen_eq]; rfl, ilt_eq, Int.lt_irrefl, decide_false, cond_false, iadd_eq]
    rw [wr_s (by omega)]
    exact ih m (v + 1) (by omega) (by omega) (by omega)
def minF (f : Pt → Int) : List Pt → Int → Int
  | [], b => b
  | p :: l, b => minF f l (if f p < b then f p else b)
theorem minF_spec {f : Pt → Int} : ∀ (l : List Pt) (b : Int), minF f l b ≤ b ∧ (∀ p ∈ l, minF f l b ≤ f p) ∧ (minF f l b = b ∨ ∃ p ∈ l, f p = minF f l b)
  | [], b => ⟨Int.le_refl _, fun p hp => (by cases hp), .inl rfl⟩
  | q :: l, b => by
    have i1 : (if f q < b then f q else b) ≤ b ∧ (if f q < b then f q else b) ≤ f q ∧ ((if f q < b then f q else b) = b ∨ (if f q < b then f q else b) = f q) := by split <;> omega
    rw [minF]
    generalize (if f q < b then f q else b) = b' at *
    obtain ⟨h1, h2, h3⟩ := minF_spec (f := f) l b'
    refine ⟨by omega, fun p hp => ?_, ?_⟩
    · rcases List.mem_cons.1 hp with e | hp
      · subst e; omega
      · exact h2 p hp
    · rcases h3 with h3 | ⟨p, hp, e⟩
      · rcases i1.2.2 with e | e
        · left; omega
        · right; exact ⟨q, by simp, by omega⟩
      · right; exact ⟨p, by simp [hp], e⟩
theorem wd_eq {L : Nat} {a : List Pt} {x y : Int} (g : Good_ a) (hx : -100000 ≤ x ∧ x ≤ 100000) (hy : -100000 ≤ y ∧ y ≤ 100000) (hL : 200000 < L) : impl_width L a x y = some (wdth a x y) := by
  have h := vw_of g (t := 0) (by omega)
  exact (width_eq hx hy h.nn h.len h.isIn (by have := h.len; omega)).2
theorem axis_le {a : List Pt} (g : Good_ a) : wdth a 1 0 ≤ 80 ∧ wdth a 0 1 ≤ 80 := by
  have h := vw_of g (t := 0) (by omega)
  have key : ∀ x y : Int, (∀ p, val x y p = p.x) ∨ (∀ p, val x y p = p.y) → wdth a x y ≤ 80 := by
    intro x y hv
    have vb : ∀ p, In p → -40 ≤ val x y p ∧ val x y p ≤ 40 := fun p hp => by
      unfold In at hp
      rcases hv with hv | hv <;> rw [hv] <;> omega
    have bd := rng_bd (f := val x y) (A := -40) (B := 40) a (val x y (pt a 0)) (val x y (pt a 0)) (vb _ (h.isIn 0)) (vb _ (h.isIn 0)) fun p hp => by
      obtain ⟨i, _, _, e⟩ := mem_pt hp
      rw [← e]; exact vb _ (h.isIn i)
    unfold wdth rngOf
    omega
  exact ⟨key 1 0 (.inl fun p => by unfold val; omega), key 0 1 (.inr fun p => by unfold val; omega)⟩
end Go.AM
namespace Go.AM
theorem pred_eq {L : Nat} {a : List Pt} {p : Pt} {n : Int} (g : Good_ a) (hx : -100000 ≤ p.x ∧ p.x ≤ 100000) (hy : -100000 ≤ p.y ∧ p.y ≤ 100000) (hL : 200000 < L) : impl_least_1_v2 L p.x p.y a n = some (decide (n < wdth a p.x p.y)) := by
  unfold impl_least_1_v2
  simp only [wd_eq g hx hy hL, gbind_eq, Option.bind_some, ilt_eq]
end Go.AM
namespace Go.AM
end Go.AM
namespace Go.AM
end Go.AM
namespace Go.AM
theorem told10 : ToldD ⟨1, 0⟩ := ⟨by decide, .inl (by decide)⟩
theorem told01 : ToldD ⟨0, 1⟩ := ⟨by decide, .inr ⟨rfl, by decide⟩⟩
theorem ToldD.le {a : List Pt} {p : Pt} {t : Int} (g : Good_ a) (ht : 0 ≤ t ∧ t ≤ 100) (h : ToldD p) (hw : wdth a p.x p.y ≤ t) : p ∈ dirL a t := (dirL_mem g ht).2 ⟨h, hw⟩
noncomputable def axW (a : List Pt) : Int := imin (wdth a 1 0) (wdth a 0 1)
theorem axW_bd {a : List Pt} (g : Good_ a) : 1 ≤ axW a ∧ axW a ≤ 80 := by
  have h1 := wdth_pos g told10
  have h2 := wdth_pos g told01
  have h3 := axis_le g
  unfold axW
  rw [imin_eq]
  simp only at h1 h2
  split <;> omega
theorem axW_ne {a : List Pt} (g : Good_ a) : dirL a (axW a) ≠ [] := by
  have hb := axW_bd g
  have : (wdth a 1 0 ≤ axW a) ∨ (wdth a 0 1 ≤ axW a) := by
    unfold axW; rw [imin_eq]; split <;> omega
  rcases this with h | h
  · exact List.ne_nil_of_mem (ToldD.le g (by omega) told10 h)
  · exact List.ne_nil_of_mem (ToldD.le g (by omega) told01 h)
noncomputable def leastW (a : List Pt) : Int := minF (fun p => wdth a p.x p.y) (isort (dirL a (axW a))) (wdth a (pt (isort (dirL a (axW a))) 0).x (pt (isort (dirL a (axW a))) 0).y)
theorem leastW_spec {a : List Pt} (g : Good_ a) : (1 ≤ leastW a ∧ leastW a ≤ 80) ∧ dirL a (leastW a) ≠ [] ∧ ∀ t, 1 ≤ t → t < leastW a → dirL a t = [] := by
  have hb := axW_bd g
  have hn : isort (dirL a (axW a)) ≠ [] := fun e => axW_ne g (by have := isort_len (dirL a (axW a)); rw [e] at this; exact List.eq_nil_of_length_eq_zero this.symm)
  have hm : ∀ p, p ∈ isort (dirL a (axW a)) ↔ ToldD p ∧ wdth a p.x p.y ≤ axW a := fun p => by rw [isort_mem, dirL_mem g (by omega)]
  obtain ⟨h1, h2, h3⟩ := minF_spec (f := fun p => wdth a p.x p.y) (isort (dirL a (axW a))) (wdth a (pt (isort (dirL a (axW a))) 0).x (pt (isort (dirL a (axW a))) 0).y)
  have h3' : ∃ p ∈ isort (dirL a (axW a)), wdth a p.x p.y = leastW a := by
    rcases h3 with h3 | ⟨p, hp, e⟩
    · exact ⟨_, pt_mem hn 0, h3.symm⟩
    · exact ⟨p, hp, e⟩
  obtain ⟨p, hp, e⟩ := h3'
  obtain ⟨hp1, hp2⟩ := (hm p).1 hp
  have hpos := wdth_pos g hp1
  refine ⟨by omega, List.ne_nil_of_mem (ToldD.le g (by omega) hp1 (by omega)), fun t ht1 ht2 => ?_⟩
  cases hd : dirL a t with
  | nil => rfl
  | cons q l =>
    exfalso
    have hq : q ∈ dirL a t := by rw [hd]; simp
    obtain ⟨hq1, hq2⟩ := (dirL_mem g (by omega)).1 hq
    have := h2 q ((hm q).2 ⟨hq1, by omega⟩)
    have h5 : leastW a ≤ wdth a q.x q.y := this
    omega
end Go.AM
namespace Go.AM
theorem dir_S {a : List Pt} (g : Good_ a) : isort (dirL a (axW a)) ≠ [] := fun e => axW_ne g (by have := isort_len (dirL a (axW a)); rw [e] at this; exact List.eq_nil_of_length_eq_zero this.symm)
theorem told_bd {a : List Pt} {p : Pt} {t : Int} (g : Good_ a) (ht : 0 ≤ t ∧ t ≤ 100) (hp : p ∈ dirL a t) : (-100000 ≤ p.x ∧ p.x ≤ 100000) ∧ (-100000 ≤ p.y ∧ p.y ≤ 100000) := by
  have h := vw_of g ht
  unfold dirL at hp
  rw [allD_mem] at hp
  obtain ⟨s, s0, s1, u, u0, u1, e⟩ := hp
  have i0 := h.isIn 0
  have i1 := h.isIn 1
  have i2 := h.isIn 2
  unfold In at i0 i1 i2
  unfold dirOf at e
  split at e
  · cases e
    have m1 := mul_bd (x := s) (y := (pt a 2).y - (pt a 0).y) (A := 100) (B := 80) (by omega) (by omega)
    have m2 := mul_bd (x := u) (y := (pt a 1).y - (pt a 0).y) (A := 100) (B := 80) (by omega) (by omega)
    have m3 := mul_bd (x := u) (y := (pt a 1).x - (pt a 0).x) (A := 100) (B := 80) (by omega) (by omega)
    have m4 := mul_bd (x := s) (y := (pt a 2).x - (pt a 0).x) (A := 100) (B := 80) (by omega) (by omega)
    have b1 := tdiv_bd (a := s * ((pt a 2).y - (pt a 0).y) - u * ((pt a 1).y - (pt a 0).y)) (b := turn (pt a 0) (pt a 1) (pt a 2)) (A := 100000) (by omega)
    have b2 := tdiv_bd (a := u * ((pt a 1).x - (pt a 0).x) - s * ((pt a 2).x - (pt a 0).x)) (b := turn (pt a 0) (pt a 1) (pt a 2)) (A := 100000) (by omega)
    exact ⟨b1, b2⟩
  · cases e
theorem wiLeast_eq {L : Nat} {a : List Pt} (g : Good_ a) (hL : 200000 < L) : spec_wiLeast L a = some (leastW a, (isort (dirL a (leastW a))).map row) := by
  obtain ⟨h1, h2, h3⟩ := leastW_spec g
  unfold spec_wiLeast
  exact wiLeast_l0 g hL (by omega) h2 h3 ((leastW a).toNat - 1) L 1 (by omega) (by omega) (by omega)
end Go.AM
namespace Go.AM
noncomputable def okW (a : List Pt) (n : Int) (p : Pt) : Bool := decide (wdth a p.x p.y ≤ n)
theorem drop_pt {S : List Pt} {i : Nat} (h : i < S.length) : S.drop i = pt S i :: S.drop (i + 1) := by
  have hg := pt_get (a := S) (i := (i : Int)) (by omega) (by omega)
  rw [Int.toNat_natCast, List.getElem?_eq_getElem h] at hg
  rw [List.drop_eq_getElem_cons h, Option.some.inj hg]
theorem take_pt {S : List Pt} {i : Nat} (h : i < S.length) : S.take (i + 1) = S.take i ++ [pt S i] := by
  have hg := pt_get (a := S) (i := (i : Int)) (by omega) (by omega)
  rw [Int.toNat_natCast] at hg
  rw [List.take_add_one, hg]; rfl
theorem idx_val {L : Nat} {a S : List Pt} {n : Int} (g : Good_ a) (hS : ∀ p ∈ S, (-100000 ≤ p.x ∧ p.x ≤ 100000) ∧ (-100000 ≤ p.y ∧ p.y ≤ 100000)) (hl : (S.length : Int) ≤ 100000) (hL : 200000 < L) :
    ∀ (m i : Nat), i ≤ S.length → S.length - i < m → (∀ p ∈ S.take i, okW a n p = true) → ∃ r : Int, slices_IndexFunc_impl_Peg_impl_Peg_impl_least_1_l0 L S a n m i = some r ∧
      ((r = -1 ∧ ∀ p ∈ S, okW a n p = true) ∨ (0 ≤ r ∧ r < S.length ∧ (∀ p ∈ S.take r.toNat, okW a n p = true) ∧ okW a n (pt S r) = false)) := by
  intro m
  induction m with
  | zero => intro i _ h; omega
  | succ m ih =>
    intro i hi hm hp0
    rw [slices_IndexFunc_impl_Peg_impl_Peg_impl_least_1_l0]
    by_cases h : (i : Int) < (S.length : Int)
    · have hlt : i < S.length := by omega
      have wi : wr IntKind.i64 (iadd (i : Int) 1) = ((i + 1 : Nat) : Int) := by rw [iadd_eq, wr_s (by omega)]; omega
      have hp := hS (pt S i) (pt_mem (by intro e; subst e; simp at hlt) i)
      simp only [ilen_mapep, ilt_eq, h, decide_true, cond_true, lget_pt (show (0 : Int) ≤ i by omega) h, gbind_eq, Option.bind_some, pred_eq g hp.1 hp.2 hL, wi]
      by_cases hq : n < wdth a (pt S i).x (pt S i).y
      · simp only [hq, decide_true, cond_true]
        exact ⟨_, rfl, .inr ⟨by omega, by omega, by rw [Int.toNat_natCast]; exact hp0, by unfold okW; exact decide_eq_false (by omega)⟩⟩
      · simp only [hq, decide_false, cond_false]
        refine ih (i + 1) (by omega) (by omega) fun p hp => ?_
        rw [take_pt hlt] at hp
        rcases List.mem_append.1 hp with hp | hp
        · exact hp0 p hp
        · rw [List.mem_singleton.1 hp]; unfold okW; exact decide_eq_true (by omega)
    · simp only [ilen_mapep, ilt_eq, h, decide_false, cond_false]
      exact ⟨_, rfl, .inl ⟨rfl, by rwa [List.take_of_length_le (by omega)] at hp0⟩⟩
theorem del_val {L : Nat} {a : List Pt} {n : Int} {F : List Pt} (g : Good_ a) (hL : 200000 < L) :
    ∀ (m : Nat) (u v : Nat) (w : List Pt), u ≤ v → v ≤ w.length → (w.length : Int) ≤ 100000 → (∀ p ∈ w, (-100000 ≤ p.x ∧ p.x ≤ 100000) ∧ (-100000 ≤ p.y ∧ p.y ≤ 100000)) → w.length - v < m →
      w.take u ++ (w.drop v).filter (okW a n) = F →
      ∃ r, slices_DeleteFunc_impl_Peg_impl_Peg_least_l0 L a n m u v w = some r ∧ lsub r.2 0 (iadd 0 r.1) = F := by
  intro m
  induction m with
  | zero => intro u v w h1 h2 _ _ h; omega
  | succ m ih =>
    intro u v w h1 h2 hl hS hm hF
    rw [slices_DeleteFunc_impl_Peg_impl_Peg_least_l0]
    by_cases h : (v : Int) < (w.length : Int)
    · have wv : wr IntKind.i64 (iadd (v : Int) 1) = ((v + 1 : Nat) : Int) := by rw [iadd_eq, wr_s (by omega)]; omega
      have wu : wr IntKind.i64 (iadd (u : Int) 1) = ((u + 1 : Nat) : Int) := by rw [iadd_eq, wr_s (by omega)]; omega
      have hne : w ≠ [] := by intro e; subst e; simp at h; omega
      have hp := hS (pt w v) (pt_mem hne v)
      rw [drop_pt (by omega)] at hF
      simp only [ilen_mapep, ilt_eq, ile_eq, h, show (0 : Int) ≤ (v : Int) by omega, show (0 : Int) ≤ (u : Int) by omega, show (u : Int) < (w.length : Int) by omega, decide_true, Bool.and_self, cond_true, lget_pt (show (0 : Int) ≤ (v : Int) by omega) h, lget_pt (show (0 : Int) ≤ (u : Int) by omega) (show (u : Int) < (w.length : Int) by omega), gbind_eq, Option.bind_some, pred_eq g hp.1 hp.2 hL, wv, wu]
      by_cases hq : n < wdth a (pt w v).x (pt w v).y
      · simp only [hq, decide_true, Bool.not_true, cond_false]
        refine ih u (v + 1) w (by omega) (by omega) hl hS (by omega) ?_
        have hk : okW a n (pt w v) = false := by unfold okW; exact decide_eq_false (by omega)
        rwa [List.filter_cons_of_neg (by rw [hk]; simp)] at hF
      · simp only [hq, decide_false, Bool.not_false, cond_true, lset_eq, Int.toNat_natCast]
        refine ih (u + 1) (v + 1) _ (by omega) (by simp; omega) (by simpa using hl) (fun p hp' => ?_) (by simp; omega) ?_
        · rcases List.mem_or_eq_of_mem_set hp' with h | h
          · exact hS p h
          · rw [h]; exact hp
        · have hk : okW a n (pt w v) = true := by unfold okW; exact decide_eq_true (by omega)
          rw [List.filter_cons_of_pos hk] at hF
          rw [← hF, List.drop_set_of_lt (by omega), List.take_add_one, List.take_set_of_le (Nat.le_refl _), List.getElem?_set_self (by omega)]
          simp
    · have lu : (lsub (List.map ep w) 0 (u : Int)).length = u := by rw [lsub_eq]; simp; omega
      have hb : (u : Int) ≤ ilen (lcat (lcat (lsub (List.map ep w) 0 (u : Int)) (lrep (isub (w.length : Int) u) (AV.agg [AV.int IntKind.i64 0, AV.int IntKind.i64 0]))) (lsub (List.map ep w) (iadd u (isub (w.length : Int) u)) (w.length : Int))) := by
        rw [ilen_eq, lcat_eq, lcat_eq, List.length_append, List.length_append, lu]; omega
      simp only [ilen_mapep, ilt_eq, ile_eq, h, show (0 : Int) ≤ (u : Int) by omega, show (u : Int) ≤ (w.length : Int) by omega, hb, decide_true, decide_false, Bool.and_self, cond_true, cond_false]
      refine ⟨_, rfl, ?_⟩
      rw [List.drop_of_length_le (by omega)] at hF
      simp only [List.filter_nil, List.append_nil] at hF
      rw [← hF]
      simp only [lcat_eq, lsub_eq, iadd_eq, isub_eq]
      rw [show (0 : Int).toNat = 0 from rfl, List.drop_zero, List.drop_zero, List.append_assoc, show (0 + (u : Int) - 0).toNat = u by omega, show ((u : Int) - 0).toNat = u by omega, List.take_append_of_le_length (by simp; omega), List.take_take, Nat.min_self]
theorem del_full {L : Nat} {a S : List Pt} {n : Int} (g : Good_ a) (hS : ∀ p ∈ S, (-100000 ≤ p.x ∧ p.x ≤ 100000) ∧ (-100000 ≤ p.y ∧ p.y ≤ 100000)) (hl : (S.length : Int) ≤ 100000) (hL : 200000 < L) :
    ∃ r, slices_DeleteFunc_impl_Peg_impl_Peg_least L a n S = some r ∧ lsub r.2 0 (iadd 0 r.1) = S.filter (okW a n) := by
  obtain ⟨i, e, hi⟩ := idx_val (n := n) g hS hl hL L 0 (by omega) (by omega) (by simp)
  unfold slices_DeleteFunc_impl_Peg_impl_Peg_least slices_IndexFunc_impl_Peg_impl_Peg_impl_least_1
  rw [show ((0 : Nat) : Int) = 0 by rfl] at e
  simp only [e, gbind_eq, Option.bind_some, ieq_eq]
  rcases hi with ⟨h, hall⟩ | ⟨i0, i1, hpre, hno⟩
  · simp only [h, decide_true, cond_true]
    refine ⟨_, rfl, ?_⟩
    rw [List.filter_eq_self.2 hall, lsub_eq, iadd_eq, ilen_mapep]
    simp
  · simp only [show ¬ i = -1 by omega, decide_false, cond_false, iadd_eq]
    rw [wr_s (by omega)]
    have hlt : i.toNat < S.length := by omega
    have hv : S.take i.toNat ++ (S.drop (i.toNat + 1)).filter (okW a n) = S.filter (okW a n) := by
      have h1 : S.filter (okW a n) = (S.take i.toNat).filter (okW a n) ++ (S.drop i.toNat).filter (okW a n) := by rw [← List.filter_append, List.take_append_drop]
      rw [h1, List.filter_eq_self.2 hpre, drop_pt hlt]
      have e2 : pt S (i.toNat : Int) = pt S i := by rw [Int.toNat_of_nonneg i0]
      rw [e2, List.filter_cons_of_neg (by rw [hno]; simp)]
    obtain ⟨r, r1, r2⟩ := del_val (L := L) (n := n) g hL L i.toNat (i.toNat + 1) S (by omega) (by omega) hl hS (by omega) hv
    rw [Int.toNat_of_nonneg i0, show ((i.toNat + 1 : Nat) : Int) = i + 1 by omega] at r1
    exact ⟨r, r1, by rw [← r2, iadd_eq]⟩
theorem col_nodup {f : Int → Option Pt} (hi : ∀ u v p, f u = some p → f v = some p → u = v) : ∀ (n : Nat) (u : Int), (col f n u).Nodup
  | 0, _ => by simp [col]
  | n + 1, u => by
    rw [col, List.nodup_append]
    refine ⟨?_, col_nodup hi n _, fun p hp q hq => ?_⟩
    · cases f u <;> simp
    · intro e; subst e
      obtain ⟨v, v0, _, hv⟩ := col_mem.1 hq
      have hu : f u = some p := by simpa [Option.mem_toList] using hp
      have := hi u v p hu hv
      omega
theorem allD_nodup {f : Int → Int → Option Pt} {N : Nat} {u0 : Int} (hi : ∀ s u s' u' p, f s u = some p → f s' u' = some p → s = s' ∧ u = u') : ∀ (n : Nat) (s : Int), (allD f N u0 n s).Nodup
  | 0, _ => by simp [allD]
  | n + 1, s => by
    rw [allD, List.nodup_append]
    refine ⟨col_nodup (fun u v p h1 h2 => (hi s u s v p h1 h2).2) _ _, allD_nodup hi n _, fun p hp q hq => ?_⟩
    intro e; subst e
    obtain ⟨u, _, _, hu⟩ := col_mem.1 hp
    obtain ⟨s', s0, _, u', _, _, hu'⟩ := allD_mem.1 hq
    have := (hi s u s' u' p hu hu').1
    omega
theorem dirL_nodup {a : List Pt} {t : Int} (g : Good_ a) (ht : 0 ≤ t ∧ t ≤ 100) : (dirL a t).Nodup := by
  have h := vw_of g ht
  unfold dirL
  refine allD_nodup (fun s u s' u' p h1 h2 => ?_) _ _
  have hd := h.d
  have key : ∀ s u : Int, dirOf a ((pt a 1).x - (pt a 0).x) ((pt a 1).y - (pt a 0).y) ((pt a 2).x - (pt a 0).x) ((pt a 2).y - (pt a 0).y) (turn (pt a 0) (pt a 1) (pt a 2)) t s u = some p →
      p.x * ((pt a 1).x - (pt a 0).x) + p.y * ((pt a 1).y - (pt a 0).y) = s ∧ p.x * ((pt a 2).x - (pt a 0).x) + p.y * ((pt a 2).y - (pt a 0).y) = u := by
    intro s u e
    unfold dirOf at e
    split at e
    · rename_i c
      obtain ⟨c1, c2, _⟩ := c
      cases e
      have m1 := Int.tdiv_mul_cancel (Int.dvd_of_tmod_eq_zero c1)
      have m2 := Int.tdiv_mul_cancel (Int.dvd_of_tmod_eq_zero c2)
      have hD : turn (pt a 0) (pt a 1) (pt a 2) = ((pt a 1).x - (pt a 0).x) * ((pt a 2).y - (pt a 0).y) - ((pt a 1).y - (pt a 0).y) * ((pt a 2).x - (pt a 0).x) := rfl
      generalize (s * ((pt a 2).y - (pt a 0).y) - u * ((pt a 1).y - (pt a 0).y)).tdiv (turn (pt a 0) (pt a 1) (pt a 2)) = X at *
      generalize (u * ((pt a 1).x - (pt a 0).x) - s * ((pt a 2).x - (pt a 0).x)).tdiv (turn (pt a 0) (pt a 1) (pt a 2)) = Y at *
      generalize turn (pt a 0) (pt a 1) (pt a 2) = D at *
      generalize (pt a 1).x - (pt a 0).x = vx at *
      generalize (pt a 1).y - (pt a 0).y = vy at *
      generalize (pt a 2).x - (pt a 0).x = wx at *
      generalize (pt a 2).y - (pt a 0).y = wy at *
      simp only
      constructor
      · refine Int.eq_of_mul_eq_mul_right hd ?_
        have : (X * vx + Y * vy) * D = (X * D) * vx + (Y * D) * vy := by grind
        rw [this, m1, m2, hD]; grind
      · refine Int.eq_of_mul_eq_mul_right hd ?_
        have : (X * wx + Y * wy) * D = (X * D) * wx + (Y * D) * wy := by grind
        rw [this, m1, m2, hD]; grind
    · cases e
  obtain ⟨k1, k2⟩ := key s u h1
  obtain ⟨k3, k4⟩ := key s' u' h2
  exact ⟨by omega, by omega⟩
theorem filter_dir {a : List Pt} (g : Good_ a) : (isort (dirL a (axW a))).filter (okW a (leastW a)) = isort (dirL a (leastW a)) := by
  have hb := axW_bd g
  obtain ⟨h1, h2, h3⟩ := leastW_spec g
  have hle : leastW a ≤ axW a := by
    rcases Int.lt_or_le (axW a) (leastW a) with h | h
    · exact absurd (h3 (axW a) (by omega) h) (axW_ne g)
    · exact h
  rw [isort_filter]
  refine ord_one (isort_ord _) (isort_ord _) ((isort_perm _).trans (List.Perm.trans ?_ (isort_perm _).symm))
  refine (List.perm_ext_iff_of_nodup ((dirL_nodup g (by omega)).filter _) (dirL_nodup g (by omega))).2 fun p => ?_
  rw [List.mem_filter, dirL_mem g (by omega), dirL_mem g (by omega)]
  unfold okW
  simp only [decide_eq_true_eq]
  constructor
  · rintro ⟨⟨q1, q2⟩, q3⟩; exact ⟨q1, q3⟩
  · rintro ⟨q1, q3⟩; exact ⟨⟨q1, by omega⟩, q3⟩
theorem least_l0' {L : Nat} {a S : List Pt} (g : Good_ a) (hS : ∀ p ∈ S, (-100000 ≤ p.x ∧ p.x ≤ 100000) ∧ (-100000 ≤ p.y ∧ p.y ≤ 100000)) (hl : (S.length : Int) ≤ 100000) (hL : 200000 < L) :
    ∀ (m i : Nat) (b : Int), i ≤ S.length → S.length - i < m → impl_least_l0 L a S m i b = some (S.filter (okW a (minF (fun p => wdth a p.x p.y) (S.drop i) b)), minF (fun p => wdth a p.x p.y) (S.drop i) b) := by
  intro m
  induction m with
  | zero => intro i b _ h; omega
  | succ m ih =>
    intro i b hi hm
    rw [impl_least_l0]
    by_cases h : (i : Int) < (S.length : Int)
    · have hlt : i < S.length := by omega
      have wi : wr IntKind.i64 (iadd (i : Int) 1) = ((i + 1 : Nat) : Int) := by rw [iadd_eq, wr_s (by omega)]; omega
      have hp := hS (pt S i) (pt_mem (by intro e; subst e; simp at hlt) i)
      have hg := lget_pt (show (0 : Int) ≤ i by omega) h
      simp only [ilen_mapep, ilt_eq, ile_eq, h, show (0 : Int) ≤ i by omega, decide_true, Bool.and_self, cond_true, hg, gbind_eq, Option.bind_some, wd_eq g hp.1 hp.2 hL, wi]
      have e1 : imin b (wdth a (pt S i).x (pt S i).y) = if wdth a (pt S i).x (pt S i).y < b then wdth a (pt S i).x (pt S i).y else b := by rw [imin_eq]
      rw [ih (i + 1) (imin b (wdth a (pt S i).x (pt S i).y)) (by omega) (by omega), e1, drop_pt hlt, minF]
    · obtain ⟨r, hr, hf⟩ := del_full (n := b) g hS hl hL
      simp only [ilen_mapep, ilt_eq, h, decide_false, cond_false, hr, gbind_eq, Option.bind_some, osame_same rfl, hf]
      rw [List.drop_of_length_le (by omega), minF]
theorem impl_least_val {L : Nat} {a : List Pt} (g : Good_ a) (hL : 200000 < L) : impl_least L a = some (isort (dirL a (leastW a)), leastW a) := by
  have hb := axW_bd g
  have hS := dir_S g
  have hSb : ∀ p ∈ isort (dirL a (axW a)), (-100000 ≤ p.x ∧ p.x ≤ 100000) ∧ (-100000 ≤ p.y ∧ p.y ≤ 100000) := fun p hp => told_bd g (by omega) (isort_mem.1 hp)
  have hl := dirL_len (a := a) (t := axW a) (by omega)
  have hll : ((isort (dirL a (axW a))).length : Int) ≤ 100000 := by rw [isort_len]; exact hl
  have hlp := List.length_pos_iff.2 hS
  have p0 := hSb _ (pt_mem hS 0)
  have hR := least_l0' (L := L) g hSb hll hL L 0 (wdth a (pt (isort (dirL a (axW a))) 0).x (pt (isort (dirL a (axW a))) 0).y) (by omega) (by omega)
  unfold impl_least
  simp only [wd_eq (x := 1) (y := 0) g (by omega) (by omega) hL, wd_eq (x := 0) (y := 1) g (by omega) (by omega) hL, gbind_eq, Option.bind_some]
  rw [show imin (wdth a 1 0) (wdth a 0 1) = axW a from rfl, (all_eq g (by omega) hL).2, impl_sorted_any (by omega)]
  simp only [gbind_eq, Option.bind_some, ilen_mapep, ile_eq, ilt_eq, Int.le_refl, show (0 : Int) < ((isort (dirL a (axW a))).length : Int) by omega, decide_true, Bool.and_self, cond_true, lget_pt (Int.le_refl 0) (show (0 : Int) < ((isort (dirL a (axW a))).length : Int) by omega), wd_eq g p0.1 p0.2 hL]
  have e : minF (fun p => wdth a p.x p.y) (isort (dirL a (axW a))) (wdth a (pt (isort (dirL a (axW a))) 0).x (pt (isort (dirL a (axW a))) 0).y) = leastW a := rfl
  rw [show ((0 : Nat) : Int) = 0 by rfl, List.drop_zero, e, filter_dir g] at hR
  exact hR
end Go.AM
namespace Go.AM
theorem tmod_abs (a b : Int) : (a.tmod b).natAbs = a.natAbs % b.natAbs := Int.natAbs_tmod a b
theorem rem_abs {a b : Int} (hb : b ≠ 0) : ((a - a.tdiv b * b).natAbs : Int) = a.natAbs - (a.tdiv b).natAbs * b.natAbs ∧ (a - a.tdiv b * b) = a.tmod b := by
  have h1 : a - a.tdiv b * b = a.tmod b := by
    have := Int.tmod_add_mul_tdiv a b
    rw [Int.mul_comm b] at this
    omega
  refine ⟨?_, h1⟩
  rw [h1, tmod_abs, Int.natAbs_tdiv]
  have := Nat.div_add_mod a.natAbs b.natAbs
  have h2 : ((a.natAbs.div b.natAbs : Nat) : Int) * (b.natAbs : Int) = ((b.natAbs * (a.natAbs / b.natAbs) : Nat) : Int) := by rw [Nat.mul_comm b.natAbs]; simp; rfl
  rw [h2]
  omega
structure Bz (a0 b0 a b u x v y : Int) : Prop where
  e1 : u * a0 + v * b0 = a
  e2 : x * a0 + y * b0 = b
  k1 : (u.natAbs : Int) * b.natAbs + x.natAbs * a.natAbs ≤ b0.natAbs
  k2 : (v.natAbs : Int) * b.natAbs + y.natAbs * a.natAbs ≤ a0.natAbs
  hu : u.natAbs ≤ 1 ∨ (u.natAbs : Int) ≤ b0.natAbs
  hv : v.natAbs ≤ 1 ∨ (v.natAbs : Int) ≤ a0.natAbs
  hx : x.natAbs ≤ 1 ∨ (x.natAbs : Int) ≤ b0.natAbs
  hy : y.natAbs ≤ 1 ∨ (y.natAbs : Int) ≤ a0.natAbs
  gcd : Nat.gcd a.natAbs b.natAbs = Nat.gcd a0.natAbs b0.natAbs
  ha : a.natAbs ≤ 4000
  hb : b.natAbs ≤ 4000
theorem bz0 {a0 b0 : Int} (ha : a0.natAbs ≤ 4000) (hb : b0.natAbs ≤ 4000) : Bz a0 b0 a0 b0 1 0 0 1 := by
  refine ⟨by omega, by omega, by simp, by simp, .inl (by simp), .inl (by simp), .inl (by simp), .inl (by simp), rfl, ha, hb⟩
theorem mul_le_of {a b c : Nat} (h : (a : Int) * b ≤ c) (hb : 0 < b) : a ≤ c := by
  have h1 : a * b ≤ c := by exact_mod_cast h
  exact Nat.le_trans (Nat.le_mul_of_pos_right a hb) h1
theorem bz_step {a0 b0 a b u x v y : Int} (h : Bz a0 b0 a b u x v y) (hb : b ≠ 0) : Bz a0 b0 b (a - a.tdiv b * b) x (u - a.tdiv b * x) y (v - a.tdiv b * y) := by
  obtain ⟨r1, r2⟩ := rem_abs (a := a) hb
  have tri : ∀ p q z : Int, ((p - q * z).natAbs : Int) ≤ p.natAbs + q.natAbs * z.natAbs := fun p q z => by
    have := Int.natAbs_sub_le p (q * z)
    rw [Int.natAbs_mul] at this
    have e : ((q.natAbs * z.natAbs : Nat) : Int) = (q.natAbs : Int) * z.natAbs := by simp
    omega
  have key : ∀ p z : Int, ∀ c : Nat, (p.natAbs : Int) * b.natAbs + z.natAbs * a.natAbs ≤ c → (z.natAbs : Int) * (a - a.tdiv b * b).natAbs + ((p - a.tdiv b * z).natAbs : Int) * b.natAbs ≤ c := fun p z c hc => by
    have t := tri p (a.tdiv b) z
    have hbn : (0 : Int) ≤ b.natAbs := by omega
    have m := Int.mul_le_mul_of_nonneg_right t hbn
    rw [r1]
    have e1 : (z.natAbs : Int) * (a.natAbs - (a.tdiv b).natAbs * b.natAbs) = z.natAbs * a.natAbs - (a.tdiv b).natAbs * z.natAbs * b.natAbs := by grind
    have e2 : ((p.natAbs : Int) + (a.tdiv b).natAbs * z.natAbs) * b.natAbs = p.natAbs * b.natAbs + (a.tdiv b).natAbs * z.natAbs * b.natAbs := by grind
    rw [e1]
    rw [e2] at m
    omega
  have hbp : 0 < b.natAbs := by omega
  have n1 := key u x _ h.k1
  have n2 := key v y _ h.k2
  have bd : ∀ p q : Int, ∀ c : Nat, (q.natAbs : Int) * (a - a.tdiv b * b).natAbs + (p.natAbs : Int) * b.natAbs ≤ c → p.natAbs ≤ 1 ∨ (p.natAbs : Int) ≤ c := fun p q c hc => by
    right
    have : (p.natAbs : Int) * b.natAbs ≤ c := by
      have : (0 : Int) ≤ q.natAbs * (a - a.tdiv b * b).natAbs := by exact_mod_cast Nat.zero_le _
      omega
    exact_mod_cast mul_le_of this hbp
  refine ⟨h.e2, ?_, n1, n2, h.hx, h.hy, bd _ _ _ n1, bd _ _ _ n2, ?_, h.hb, ?_⟩
  · have := h.e1; have := h.e2; subst_vars; grind
  · rw [r2, tmod_abs, ← h.gcd, Nat.gcd_comm, ← Nat.gcd_rec, Nat.gcd_comm]
  · rw [r2, tmod_abs]
    have := Nat.mod_le a.natAbs b.natAbs
    have := h.ha
    omega
theorem bz_q {a0 b0 a b u x v y : Int} (h : Bz a0 b0 a b u x v y) (hb : b ≠ 0) (hA : a0.natAbs ≤ 4000) (hB : b0.natAbs ≤ 4000) :
    (-4000 ≤ a.tdiv b ∧ a.tdiv b ≤ 4000) ∧ (-4000 ≤ a.tdiv b * x ∧ a.tdiv b * x ≤ 4000) ∧ (-4000 ≤ a.tdiv b * y ∧ a.tdiv b * y ≤ 4000) ∧ (-4000 ≤ a.tdiv b * b ∧ a.tdiv b * b ≤ 4000) := by
  have hq : (a.tdiv b).natAbs * b.natAbs ≤ a.natAbs := by
    rw [Int.natAbs_tdiv]
    exact Nat.div_mul_le_self _ _
  have hbp : 0 < b.natAbs := by omega
  have hq1 : (a.tdiv b).natAbs ≤ a.natAbs := Nat.le_trans (Nat.le_mul_of_pos_right _ hbp) hq
  have one : ∀ z : Int, ∀ c : Nat, (z.natAbs : Int) * a.natAbs ≤ c → c ≤ 4000 → (a.tdiv b * z).natAbs ≤ 4000 := fun z c hz hc => by
    have h1 : z.natAbs * a.natAbs ≤ c := by exact_mod_cast hz
    rw [Int.natAbs_mul, Nat.mul_comm]
    exact Nat.le_trans (Nat.mul_le_mul_left _ hq1) (Nat.le_trans h1 hc)
  have p1 : (x.natAbs : Int) * a.natAbs ≤ b0.natAbs := by
    have := h.k1
    have : (0 : Int) ≤ u.natAbs * b.natAbs := by exact_mod_cast Nat.zero_le _
    omega
  have p2 : (y.natAbs : Int) * a.natAbs ≤ a0.natAbs := by
    have := h.k2
    have : (0 : Int) ≤ v.natAbs * b.natAbs := by exact_mod_cast Nat.zero_le _
    omega
  have q1 := one x _ p1 hB
  have q2 := one y _ p2 hA
  have q3 : (a.tdiv b * b).natAbs ≤ 4000 := by rw [Int.natAbs_mul]; exact Nat.le_trans hq h.ha
  have := h.ha
  omega
theorem bezout_l0 {L : Nat} {a0 b0 : Int} (hA : a0.natAbs ≤ 4000) (hB : b0.natAbs ≤ 4000) : ∀ (m : Nat) (a b u x v y : Int), Bz a0 b0 a b u x v y → b.natAbs < m →
    ∃ g p q, impl_bezout_l0 L m a b u v x y = some (g, p, q) ∧ spec_mvFull_l0 L m a b u v x y = some (if g < 0 then (-p, -q) else (p, q)) ∧
      p * a0 + q * b0 = g ∧ g.natAbs = Nat.gcd a0.natAbs b0.natAbs ∧ (-4000 ≤ p ∧ p ≤ 4000) ∧ (-4000 ≤ q ∧ q ≤ 4000)
  | 0, _, _, _, _, _, _, _, h => by omega
  | m + 1, a, b, u, x, v, y, h, hm => by
    by_cases hb : b = 0
    · subst hb
      have bu : -4000 ≤ u ∧ u ≤ 4000 := by have := h.hu; omega
      have bv : -4000 ≤ v ∧ v ≤ 4000 := by have := h.hv; omega
      refine ⟨a, u, v, ?_, ?_, h.e1, ?_, bu, bv⟩
      · simp only [impl_bezout_l0, ieq_eq, decide_true, Bool.not_true, cond_false]
      · simp only [spec_mvFull_l0, ieq_eq, ilt_eq, isub_eq, decide_true, Bool.not_true, cond_false]
        rw [wr_id (n := 0 - u) (by omega), wr_id (n := 0 - v) (by omega)]
        by_cases ha : a < 0
        · simp only [ha, decide_true, cond_true, if_true]; congr 2 <;> omega
        · simp only [ha, decide_false, cond_false, if_false]
      · have := h.gcd; simpa using this
    · obtain ⟨b1, b2, b3, b4⟩ := bz_q h hb hA hB
      have k1 := h.hu; have k2 := h.hv; have k3 := h.ha
      have s := bz_step h hb
      obtain ⟨r1, r2⟩ := rem_abs (a := a) hb
      have hlt : (a - a.tdiv b * b).natAbs < m := by
        rw [r2, tmod_abs]
        have := Nat.mod_lt a.natAbs (show 0 < b.natAbs by omega)
        omega
      obtain ⟨g, p, q, e1, e2, e3⟩ := bezout_l0 (L := L) hA hB m _ _ _ _ _ _ s hlt
      refine ⟨g, p, q, ?_, ?_, e3⟩
      · simp only [impl_bezout_l0, ieq_eq, hb, decide_false, Bool.not_false, cond_true, cond_false, iquo_eq, imul_eq, isub_eq]
        rw [wr_id (n := a.tdiv b) (by omega), wr_id (n := a.tdiv b * b) (by omega), wr_id (n := a.tdiv b * x) (by omega), wr_id (n := a.tdiv b * y) (by omega), wr_id (n := a - a.tdiv b * b) (by omega), wr_id (n := u - a.tdiv b * x) (by omega), wr_id (n := v - a.tdiv b * y) (by omega)]
        exact e1
      · simp only [spec_mvFull_l0, ieq_eq, hb, decide_false, Bool.not_false, cond_true, cond_false, iquo_eq, imul_eq, isub_eq]
        rw [wr_id (n := a.tdiv b) (by omega), wr_id (n := a.tdiv b * b) (by omega), wr_id (n := a.tdiv b * x) (by omega), wr_id (n := a.tdiv b * y) (by omega), wr_id (n := a - a.tdiv b * b) (by omega), wr_id (n := u - a.tdiv b * x) (by omega), wr_id (n := v - a.tdiv b * y) (by omega)]
        exact e2
theorem bezout_eq {L : Nat} {a b : Int} (hA : a.natAbs ≤ 4000) (hB : b.natAbs ≤ 4000) (hL : 4000 < L) :
    ∃ g p q, impl_bezout L a b = some (g, p, q) ∧ spec_mvFull L a b = some (if g < 0 then (-p, -q) else (p, q)) ∧
      p * a + q * b = g ∧ g.natAbs = Nat.gcd a.natAbs b.natAbs ∧ (-4000 ≤ p ∧ p ≤ 4000) ∧ (-4000 ≤ q ∧ q ≤ 4000) := by
  unfold impl_bezout spec_mvFull
  exact bezout_l0 hA hB L a b 1 0 0 1 (bz0 hA hB) (by omega)
end Go.AM
namespace Go.AM
structure Bw (a0 b0 a b u x v y : Int) : Prop where
  e1 : u * a0 + v * b0 = a
  e2 : x * a0 + y * b0 = b
  k1 : (u.natAbs : Int) * b.natAbs + x.natAbs * a.natAbs ≤ b0.natAbs
  k2 : (v.natAbs : Int) * b.natAbs + y.natAbs * a.natAbs ≤ a0.natAbs
  hu : u.natAbs ≤ 1 ∨ (u.natAbs : Int) ≤ b0.natAbs
  hv : v.natAbs ≤ 1 ∨ (v.natAbs : Int) ≤ a0.natAbs
  hx : x.natAbs ≤ 1 ∨ (x.natAbs : Int) ≤ b0.natAbs
  hy : y.natAbs ≤ 1 ∨ (y.natAbs : Int) ≤ a0.natAbs
  gcd : Nat.gcd a.natAbs b.natAbs = Nat.gcd a0.natAbs b0.natAbs
  ha : a.natAbs ≤ 40000
  hb : b.natAbs ≤ 40000
theorem bw0 {a0 b0 : Int} (ha : a0.natAbs ≤ 40000) (hb : b0.natAbs ≤ 40000) : Bw a0 b0 a0 b0 1 0 0 1 := by
  refine ⟨by omega, by omega, by simp, by simp, .inl (by simp), .inl (by simp), .inl (by simp), .inl (by simp), rfl, ha, hb⟩
theorem bw_step {a0 b0 a b u x v y : Int} (h : Bw a0 b0 a b u x v y) (hb : b ≠ 0) : Bw a0 b0 b (a - a.tdiv b * b) x (u - a.tdiv b * x) y (v - a.tdiv b * y) := by
  obtain ⟨r1, r2⟩ := rem_abs (a := a) hb
  have tri : ∀ p q z : Int, ((p - q * z).natAbs : Int) ≤ p.natAbs + q.natAbs * z.natAbs := fun p q z => by
    have := Int.natAbs_sub_le p (q * z)
    rw [Int.natAbs_mul] at this
    have e : ((q.natAbs * z.natAbs : Nat) : Int) = (q.natAbs : Int) * z.natAbs := by simp
    omega
  have key : ∀ p z : Int, ∀ c : Nat, (p.natAbs : Int) * b.natAbs + z.natAbs * a.natAbs ≤ c → (z.natAbs : Int) * (a - a.tdiv b * b).natAbs + ((p - a.tdiv b * z).natAbs : Int) * b.natAbs ≤ c := fun p z c hc => by
    have t := tri p (a.tdiv b) z
    have hbn : (0 : Int) ≤ b.natAbs := by omega
    have m := Int.mul_le_mul_of_nonneg_right t hbn
    rw [r1]
    have e1 : (z.natAbs : Int) * (a.natAbs - (a.tdiv b).natAbs * b.natAbs) = z.natAbs * a.natAbs - (a.tdiv b).natAbs * z.natAbs * b.natAbs := by grind
    have e2 : ((p.natAbs : Int) + (a.tdiv b).natAbs * z.natAbs) * b.natAbs = p.natAbs * b.natAbs + (a.tdiv b).natAbs * z.natAbs * b.natAbs := by grind
    rw [e1]
    rw [e2] at m
    omega
  have hbp : 0 < b.natAbs := by omega
  have n1 := key u x _ h.k1
  have n2 := key v y _ h.k2
  have bd : ∀ p q : Int, ∀ c : Nat, (q.natAbs : Int) * (a - a.tdiv b * b).natAbs + (p.natAbs : Int) * b.natAbs ≤ c → p.natAbs ≤ 1 ∨ (p.natAbs : Int) ≤ c := fun p q c hc => by
    right
    have : (p.natAbs : Int) * b.natAbs ≤ c := by
      have : (0 : Int) ≤ q.natAbs * (a - a.tdiv b * b).natAbs := by exact_mod_cast Nat.zero_le _
      omega
    exact_mod_cast mul_le_of this hbp
  refine ⟨h.e2, ?_, n1, n2, h.hx, h.hy, bd _ _ _ n1, bd _ _ _ n2, ?_, h.hb, ?_⟩
  · have := h.e1; have := h.e2; subst_vars; grind
  · rw [r2, tmod_abs, ← h.gcd, Nat.gcd_comm, ← Nat.gcd_rec, Nat.gcd_comm]
  · rw [r2, tmod_abs]
    have := Nat.mod_le a.natAbs b.natAbs
    have := h.ha
    omega
theorem bw_q {a0 b0 a b u x v y : Int} (h : Bw a0 b0 a b u x v y) (hb : b ≠ 0) (hA : a0.natAbs ≤ 40000) (hB : b0.natAbs ≤ 40000) :
    (-40000 ≤ a.tdiv b ∧ a.tdiv b ≤ 40000) ∧ (-40000 ≤ a.tdiv b * x ∧ a.tdiv b * x ≤ 40000) ∧ (-40000 ≤ a.tdiv b * y ∧ a.tdiv b * y ≤ 40000) ∧ (-40000 ≤ a.tdiv b * b ∧ a.tdiv b * b ≤ 40000) := by
  have hq : (a.tdiv b).natAbs * b.natAbs ≤ a.natAbs := by
    rw [Int.natAbs_tdiv]
    exact Nat.div_mul_le_self _ _
  have hbp : 0 < b.natAbs := by omega
  have hq1 : (a.tdiv b).natAbs ≤ a.natAbs := Nat.le_trans (Nat.le_mul_of_pos_right _ hbp) hq
  have one : ∀ z : Int, ∀ c : Nat, (z.natAbs : Int) * a.natAbs ≤ c → c ≤ 40000 → (a.tdiv b * z).natAbs ≤ 40000 := fun z c hz hc => by
    have h1 : z.natAbs * a.natAbs ≤ c := by exact_mod_cast hz
    rw [Int.natAbs_mul, Nat.mul_comm]
    exact Nat.le_trans (Nat.mul_le_mul_left _ hq1) (Nat.le_trans h1 hc)
  have p1 : (x.natAbs : Int) * a.natAbs ≤ b0.natAbs := by
    have := h.k1
    have : (0 : Int) ≤ u.natAbs * b.natAbs := by exact_mod_cast Nat.zero_le _
    omega
  have p2 : (y.natAbs : Int) * a.natAbs ≤ a0.natAbs := by
    have := h.k2
    have : (0 : Int) ≤ v.natAbs * b.natAbs := by exact_mod_cast Nat.zero_le _
    omega
  have q1 := one x _ p1 hB
  have q2 := one y _ p2 hA
  have q3 : (a.tdiv b * b).natAbs ≤ 40000 := by rw [Int.natAbs_mul]; exact Nat.le_trans hq h.ha
  have := h.ha
  omega
set_option maxHeartbeats 2000000 in
theorem bezoutw_l0 {L : Nat} {a0 b0 : Int} (hA : a0.natAbs ≤ 40000) (hB : b0.natAbs ≤ 40000) : ∀ (m : Nat) (a b u x v y : Int), Bw a0 b0 a b u x v y → b.natAbs < m →
    ∃ g p q, impl_bezout_l0 L m a b u v x y = some (g, p, q) ∧ spec_mvFull_l0 L m a b u v x y = some (if g < 0 then (-p, -q) else (p, q)) ∧
      p * a0 + q * b0 = g ∧ g.natAbs = Nat.gcd a0.natAbs b0.natAbs ∧ (p.natAbs ≤ 1 ∨ (p.natAbs : Int) ≤ b0.natAbs) ∧ (q.natAbs ≤ 1 ∨ (q.natAbs : Int) ≤ a0.natAbs) ∧ (-40000 ≤ p ∧ p ≤ 40000) ∧ (-40000 ≤ q ∧ q ≤ 40000)
  | 0, _, _, _, _, _, _, _, h => by omega
  | m + 1, a, b, u, x, v, y, h, hm => by
    by_cases hb : b = 0
    · subst hb
      have bu : -40000 ≤ u ∧ u ≤ 40000 := by have := h.hu; omega
      have bv : -40000 ≤ v ∧ v ≤ 40000 := by have := h.hv; omega
      refine ⟨a, u, v, ?_, ?_, h.e1, ?_, h.hu, h.hv, bu, bv⟩
      · simp only [impl_bezout_l0, ieq_eq, decide_true, Bool.not_true, cond_false]
      · simp only [spec_mvFull_l0, ieq_eq, ilt_eq, isub_eq, decide_true, Bool.not_true, cond_false]
        rw [wr_id (n := 0 - u) (by omega), wr_id (n := 0 - v) (by omega)]
        by_cases ha : a < 0
        · simp only [ha, decide_true, cond_true, if_true]; congr 2 <;> omega
        · simp only [ha, decide_false, cond_false, if_false]
      · have := h.gcd; simpa using this
    · obtain ⟨b1, b2, b3, b4⟩ := bw_q h hb hA hB
      have k1 := h.hu; have k2 := h.hv; have k3 := h.ha
      have s := bw_step h hb
      obtain ⟨r1, r2⟩ := rem_abs (a := a) hb
      have hlt : (a - a.tdiv b * b).natAbs < m := by
        rw [r2, tmod_abs]
        have := Nat.mod_lt a.natAbs (show 0 < b.natAbs by omega)
        omega
      obtain ⟨g, p, q, e1, e2, e3⟩ := bezoutw_l0 (L := L) hA hB m _ _ _ _ _ _ s hlt
      refine ⟨g, p, q, ?_, ?_, e3⟩
      · simp only [impl_bezout_l0, ieq_eq, hb, decide_false, Bool.not_false, cond_true, cond_false, iquo_eq, imul_eq, isub_eq]
        rw [wr_id (n := a.tdiv b) (by omega), wr_id (n := a.tdiv b * b) (by omega), wr_id (n := a.tdiv b * x) (by omega), wr_id (n := a.tdiv b * y) (by omega), wr_id (n := a - a.tdiv b * b) (by omega), wr_id (n := u - a.tdiv b * x) (by omega), wr_id (n := v - a.tdiv b * y) (by omega)]
        exact e1
      · simp only [spec_mvFull_l0, ieq_eq, hb, decide_false, Bool.not_false, cond_true, cond_false, iquo_eq, imul_eq, isub_eq]
        rw [wr_id (n := a.tdiv b) (by omega), wr_id (n := a.tdiv b * b) (by omega), wr_id (n := a.tdiv b * x) (by omega), wr_id (n := a.tdiv b * y) (by omega), wr_id (n := a - a.tdiv b * b) (by omega), wr_id (n := u - a.tdiv b * x) (by omega), wr_id (n := v - a.tdiv b * y) (by omega)]
        exact e2
theorem bezoutw_eq {L : Nat} {a b : Int} (hA : a.natAbs ≤ 40000) (hB : b.natAbs ≤ 40000) (hL : 40000 < L) :
    ∃ g p q, impl_bezout L a b = some (g, p, q) ∧ spec_mvFull L a b = some (if g < 0 then (-p, -q) else (p, q)) ∧
      p * a + q * b = g ∧ g.natAbs = Nat.gcd a.natAbs b.natAbs ∧ (p.natAbs ≤ 1 ∨ (p.natAbs : Int) ≤ b.natAbs) ∧ (q.natAbs ≤ 1 ∨ (q.natAbs : Int) ≤ a.natAbs) ∧ (-40000 ≤ p ∧ p ≤ 40000) ∧ (-40000 ≤ q ∧ q ≤ 40000) := by
  unfold impl_bezout spec_mvFull
  exact bezoutw_l0 hA hB L a b 1 0 0 1 (bw0 hA hB) (by omega)
end Go.AM
namespace Go.AM
def nr (a b : Int) : Prop := a.natAbs < b.natAbs ∨ (a.natAbs = b.natAbs ∧ b < a)
instance (a b : Int) : Decidable (nr a b) := by unfold nr; infer_instance
def bet (p q : Int × Int) : Prop := nr p.1 q.1 ∨ (p.1 = q.1 ∧ nr p.2 q.2)
instance (p q : Int × Int) : Decidable (bet p q) := by unfold bet; infer_instance
def Sol (u v : Int) (z : Int × Int) : Prop := z.1 * v - z.2 * u = 1
def Bst (u v : Int) (z : Int × Int) : Prop := Sol u v z ∧ (2 * (z.1.natAbs : Int) ≤ u ∨ (u = 0 ∧ z = (1, 0))) ∧ ∀ c, Sol u v c → c ≠ z → bet z c
theorem sol_shift {u v : Int} {z c : Int × Int} (hz : Sol u v z) (hc : Sol u v c) : ∃ k, c.1 = z.1 + k * u ∧ c.2 = z.2 + k * v := by
  unfold Sol at hz hc
  refine ⟨z.1 * c.2 - c.1 * z.2, ?_, ?_⟩ <;> grind
theorem nr_of_mod {u r k : Int} (hu : 0 < u) (h1 : -u < 2 * r) (h2 : 2 * r ≤ u) (hk : k ≠ 0) : nr r (r + k * u) := by
  unfold nr
  rcases Int.lt_or_lt_of_ne hk with h | h
  · have : k * u ≤ -u := by
      have := Int.mul_le_mul_of_nonneg_right (show k ≤ -1 by omega) (Int.le_of_lt hu)
      omega
    omega
  · have : u ≤ k * u := by
      have := Int.mul_le_mul_of_nonneg_right (show (1 : Int) ≤ k by omega) (Int.le_of_lt hu)
      omega
    omega
theorem bst_ex {u v : Int} {c : Int × Int} (h : Sol u v c) (hu : 0 < u ∨ (u = 0 ∧ v = 1)) : ∃ z, Bst u v z := by
  rcases hu with hu | ⟨rfl, rfl⟩
  · -- the balanced rest
    have e := Int.emod_add_mul_ediv c.1 u
    have p0 := Int.emod_nonneg c.1 (show u ≠ 0 by omega)
    have p1 := Int.emod_lt_of_pos c.1 hu
    generalize c.1 % u = r at *
    generalize c.1 / u = d at *
    have key : ∀ k : Int, -u < 2 * (c.1 + k * u) → 2 * (c.1 + k * u) ≤ u → ∃ z, Bst u v z := by
      intro k k1 k2
      have hz : Sol u v (c.1 + k * u, c.2 + k * v) := by unfold Sol at *; simp only; grind
      refine ⟨(c.1 + k * u, c.2 + k * v), hz, .inl (by simp only; omega), fun x hx hne => ?_⟩
      obtain ⟨m, e1, e2⟩ := sol_shift hz hx
      have hm : m ≠ 0 := fun e0 => hne (Prod.ext (by rw [e1, e0]; simp) (by rw [e2, e0]; simp))
      have := nr_of_mod hu k1 k2 hm
      left
      rw [e1]
      exact this
    by_cases h2 : 2 * r ≤ u
    · have e3 : c.1 + (-d) * u = r := by grind
      exact key (-d) (by rw [e3]; omega) (by rw [e3]; omega)
    · have e3 : c.1 + (-d - 1) * u = r - u := by grind
      exact key (-d - 1) (by rw [e3]; omega) (by rw [e3]; omega)
  · have hz : Sol 0 1 (1, 0) := by unfold Sol; decide
    refine ⟨(1, 0), hz, .inr ⟨rfl, rfl⟩, fun x hx hne => ?_⟩
    unfold Sol at hx
    have h1 : x.1 = 1 := by omega
    have h2 : x.2 ≠ 0 := fun e => hne (Prod.ext h1 e)
    right
    refine ⟨h1.symm, ?_⟩
    unfold nr
    simp only
    omega
theorem bet_irrefl {z : Int × Int} : ¬ bet z z := by unfold bet nr; omega
theorem bet_asymm {z c : Int × Int} (h : bet z c) : ¬ bet c z := by unfold bet nr at *; omega
theorem bst_at {u v : Int} {z c : Int × Int} (hz : Bst u v z) (hc : Sol u v c) (hu : 0 < u ∨ (u = 0 ∧ v = 1)) : ∃ k, z = (c.1 + k * u, c.2 + k * v) ∧ -((c.1.natAbs : Int) + c.2.natAbs) - 1 ≤ k ∧ k ≤ (c.1.natAbs : Int) + c.2.natAbs + 1 ∧ (((c.1.natAbs : Int) ≤ 1 ∨ (c.1.natAbs : Int) ≤ u) → ((c.2.natAbs : Int) ≤ 1 ∨ 0 < u) → -2 ≤ k ∧ k ≤ 2) := by
  obtain ⟨k, e1, e2⟩ := sol_shift hc hz.1
  refine ⟨k, Prod.ext e1 e2, ?_⟩
  rcases hu with hu | ⟨rfl, rfl⟩
  · have hb : 2 * (z.1.natAbs : Int) ≤ u := by
      rcases hz.2.1 with h | h
      · exact h
      · omega
    have hk : (k.natAbs : Int) * u = ((k * u).natAbs : Int) := by rw [Int.natAbs_mul, show u.natAbs = u.toNat by omega]; push_cast; rw [Int.toNat_of_nonneg (by omega)]
    have h3 : ((k * u).natAbs : Int) ≤ z.1.natAbs + c.1.natAbs := by omega
    have h4 : (k.natAbs : Int) * u ≤ z.1.natAbs + c.1.natAbs := by omega
    have g1 : (k.natAbs : Int) ≤ c.1.natAbs + 1 := by
      rcases Int.lt_or_le ((c.1.natAbs : Int) + 1) k.natAbs with h | h
      · exfalso
        have := Int.mul_le_mul_of_nonneg_right (show (c.1.natAbs : Int) + 2 ≤ k.natAbs by omega) (Int.le_of_lt hu)
        have h5 : ((c.1.natAbs : Int) + 2) * u = c.1.natAbs * u + 2 * u := by grind
        have h6 := Int.mul_le_mul_of_nonneg_left (show (1 : Int) ≤ u by omega) (show (0 : Int) ≤ c.1.natAbs by omega)
        omega
      · exact h
    refine ⟨by omega, by omega, fun hs _ => ?_⟩
    have hs' : (c.1.natAbs : Int) ≤ u := by omega
    rcases Int.lt_or_le 2 (k.natAbs : Int) with h | h
    · exfalso
      have := Int.mul_le_mul_of_nonneg_right (show (3 : Int) ≤ k.natAbs by omega) (Int.le_of_lt hu)
      omega
    · omega
  · have hb : z = (1, 0) := by
      rcases hz.2.1 with h | h
      · have h1 := hz.1
        unfold Sol at h1
        omega
      · exact h.2
    rw [hb] at e2
    simp only at e2
    omega
def bestF (a b u v : Int) : Nat → Int → Int × Int → Int × Int
  | 0, _, w => w
  | n + 1, k, w => bestF a b u v n (k + 1) (if bet (a + k * u, b + k * v) w then (a + k * u, b + k * v) else w)
theorem bestF_done {a b u v : Int} {z : Int × Int} (hz : Bst u v z) (hs : Sol u v (a, b)) : ∀ (n : Nat) (k : Int), bestF a b u v n k z = z
  | 0, _ => rfl
  | n + 1, k => by
    rw [bestF]
    have hk : Sol u v (a + k * u, b + k * v) := by unfold Sol at *; simp only at *; grind
    have : ¬ bet (a + k * u, b + k * v) z := by
      by_cases e : (a + k * u, b + k * v) = z
      · rw [e]; exact bet_irrefl
      · exact bet_asymm (hz.2.2 _ hk e)
    rw [if_neg this]
    exact bestF_done hz hs n (k + 1)
theorem bestF_eq {a b u v : Int} {z : Int × Int} (hz : Bst u v z) (hs : Sol u v (a, b)) {k0 : Int} (hk : z = (a + k0 * u, b + k0 * v)) : ∀ (n : Nat) (k : Int) (w : Int × Int), Sol u v w → k ≤ k0 → k0 < k + n → bestF a b u v n k w = z
  | 0, _, _, _, _, _ => by omega
  | n + 1, k, w, hw, h1, h2 => by
    rw [bestF]
    by_cases e : k = k0
    · subst e
      rw [← hk]
      by_cases ew : w = z
      · rw [ew, ite_self]; exact bestF_done hz hs n _
      · rw [if_pos (hz.2.2 _ hw ew)]; exact bestF_done hz hs n _
    · refine bestF_eq hz hs hk n (k + 1) _ ?_ (by omega) (by omega)
      split
      · unfold Sol at *; simp only at *; grind
      · exact hw
end Go.AM
namespace Go.AM
def Bd20 (n : Int) : Prop := -20 ≤ n ∧ n ≤ 20
def Bd80 (n : Int) : Prop := -80 ≤ n ∧ n ≤ 80
instance (n : Int) : Decidable (Bd20 n) := by unfold Bd20; infer_instance
instance (n : Int) : Decidable (Bd80 n) := by unfold Bd80; infer_instance
def Wi (n : Int) : Prop := -9223372036854775808 ≤ n ∧ n ≤ 9223372036854775807
def MvG (A B C D X Y : Int) : Prop := (Bd20 A ∧ Bd20 B ∧ Bd20 C ∧ Bd20 D) ∧ (Bd80 X ∧ Bd80 Y) ∧ (A * D - B * C).natAbs = 1
instance (A B C D X Y : Int) : Decidable (MvG A B C D X Y) := by unfold MvG; infer_instance
theorem l1All_l0 {L : Nat} {a : List Int} {lo hi : Int} (hs : (a.length : Int) ≤ 100000) : ∀ (m i : Nat), i ≤ a.length → a.length - i < m → spec_l1All_l0 L a lo hi m i = some (decide (∀ x ∈ a.drop i, lo ≤ x ∧ x ≤ hi)) := by
  intro m
  induction m with
  | zero => intro i _ h; omega
  | succ m ih =>
    intro i hi' hm
    rw [spec_l1All_l0]
    by_cases h : (i : Int) < (a.length : Int)
    · have hlt : i < a.length := by omega
      have wi : wr IntKind.i64 (iadd (i : Int) 1) = ((i + 1 : Nat) : Int) := by rw [iadd_eq, wr_s (by omega)]; omega
      have hg : lget a (i : Int) = some a[i] := by rw [lget_eq, if_pos (by omega), Int.toNat_natCast, List.getElem?_eq_getElem hlt]
      have hlen : ilen (List.map eI a) = (a.length : Int) := by rw [ilen_eq]; simp
      simp only [hlen, ilt_eq, h, decide_true, cond_true, hg, gbind_eq, Option.bind_some, spec_l1In_eq, wi, ih (i + 1) (by omega) (by omega)]
      have e : (∀ x ∈ a.drop i, lo ≤ x ∧ x ≤ hi) ↔ ((lo ≤ a[i] ∧ a[i] ≤ hi) ∧ ∀ x ∈ a.drop (i + 1), lo ≤ x ∧ x ≤ hi) := by rw [List.drop_eq_getElem_cons hlt]; exact List.forall_mem_cons
      by_cases hb : lo ≤ a[i] ∧ a[i] ≤ hi
      · simp only [hb, and_self, decide_true, Bool.not_true, cond_false]
        congr 1; rw [decide_eq_decide, e]; exact ⟨fun h => ⟨hb, h⟩, fun h => h.2⟩
      · simp only [hb, decide_false, Bool.not_false, cond_true]
        congr 1; symm; rw [decide_eq_false_iff_not, e]; exact fun h => hb h.1
    · have hlen : ilen (List.map eI a) = (a.length : Int) := by rw [ilen_eq]; simp
      simp only [hlen, ilt_eq, h, decide_false, cond_false]
      rw [List.drop_of_length_le (by omega)]
      simp
theorem l1All_eq {L : Nat} {a : List Int} {lo hi : Int} (hs : (a.length : Int) ≤ 100000) (hL : a.length < L) : spec_l1All L a lo hi = some (decide (∀ x ∈ a, lo ≤ x ∧ x ≤ hi)) := by
  unfold spec_l1All
  exact l1All_l0 hs L 0 (by omega) (by omega)
theorem l1All4 {L : Nat} {A B C D : Int} (hL : 10 < L) : spec_l1All L [A, B, C, D] (-20) 20 = some (decide (Bd20 A ∧ Bd20 B ∧ Bd20 C ∧ Bd20 D)) := by
  rw [l1All_eq (by simp) (by simp; omega)]
  congr 1
  rw [decide_eq_decide]
  simp [Bd20]
theorem l1All2 {L : Nat} {X Y : Int} (hL : 10 < L) : spec_l1All L [X, Y] (-80) 80 = some (decide (Bd80 X ∧ Bd80 Y)) := by
  rw [l1All_eq (by simp) (by simp; omega)]
  congr 1
  rw [decide_eq_decide]
  simp [Bd80]
theorem det_wr {A B C D : Int} (h : Bd20 A ∧ Bd20 B ∧ Bd20 C ∧ Bd20 D) : wr IntKind.i64 (isub (wr IntKind.i64 (imul A D)) (wr IntKind.i64 (imul B C))) = A * D - B * C ∧ (-1000 ≤ A * D - B * C ∧ A * D - B * C ≤ 1000) := by
  unfold Bd20 at h
  have m1 := mul_bd (x := A) (y := D) (A := 20) (B := 20) (by omega) (by omega)
  have m2 := mul_bd (x := B) (y := C) (A := 20) (B := 20) (by omega) (by omega)
  rw [imul_eq, imul_eq, isub_eq, wr_s (i := A * D) (by omega), wr_s (i := B * C) (by omega), wr_s (by omega)]
  exact ⟨rfl, by omega⟩
theorem spec_mvGood_eq {L : Nat} {A B C D X Y : Int} (hL : 10 < L) : spec_mvGood L A B C D X Y = some (decide (MvG A B C D X Y)) := by
  unfold spec_mvGood
  simp only [l1All4 hL, l1All2 hL, gbind_eq, Option.bind_some]
  by_cases h : Bd20 A ∧ Bd20 B ∧ Bd20 C ∧ Bd20 D
  · by_cases h2 : Bd80 X ∧ Bd80 Y
    · obtain ⟨d1, d2⟩ := det_wr h
      simp only [h, h2, and_self, decide_true, cond_true, d1, spec_l1Abs_eq (L := L) (n := A * D - B * C) (by omega), Option.bind_some, ieq_eq, MvG, true_and]
      congr 1; rw [decide_eq_decide]; omega
    · simp only [h, h2, and_self, decide_true, decide_false, cond_true, cond_false, MvG, false_and, and_false]
  · simp only [h, decide_false, cond_false, MvG, false_and]
theorem isWay_eq {L : Nat} {x y : Int} (hx : Wi x) (hy : Wi y) : impl_isWay L x y = some (decide (Bd80 x ∧ Bd80 y)) := by
  have key : ∀ x : Int, Wi x → ∃ s, impl_size L x = some s ∧ (s ≤ 80 ↔ (Bd80 x ∨ x = -9223372036854775808)) := by
    intro x hx
    unfold Wi at hx
    unfold impl_size Bd80
    simp only [imax_eq, isub_eq]
    refine ⟨_, rfl, ?_⟩
    by_cases e : x = -9223372036854775808
    · subst e
      have : wr IntKind.i64 (0 - -9223372036854775808) = -9223372036854775808 := by rw [wr_eq]; decide
      rw [this]; simp
    · rw [wr_id (by omega)]
      split <;> omega
  obtain ⟨s, s1, s2⟩ := key x hx
  obtain ⟨t, t1, t2⟩ := key y hy
  unfold impl_isWay
  simp only [s1, t1, gbind_eq, Option.bind_some, ile_eq, ilt_eq]
  unfold Wi at hx hy
  by_cases h1 : s ≤ 80
  · by_cases h2 : t ≤ 80
    · have a1 := s2.1 h1
      have a2 := t2.1 h2
      unfold Bd80 at *
      by_cases h3 : -1000 < x
      · simp only [h1, h2, h3, decide_true, cond_true]
        congr 1; rw [decide_eq_decide]; omega
      · simp only [h1, h2, h3, decide_true, decide_false, cond_true, cond_false]
        congr 1; symm; rw [decide_eq_false_iff_not]; omega
    · have : ¬ Bd80 y := fun h => h2 (t2.2 (.inl h))
      simp only [h1, h2, decide_true, decide_false, cond_true, cond_false, this, and_false]
  · have : ¬ Bd80 x := fun h => h1 (s2.2 (.inl h))
    simp only [h1, decide_false, cond_false, this, false_and]
theorem impl_IsMove_eq {L : Nat} {A B C D X Y : Int} (hX : Wi X) (hY : Wi Y) (hL : 10 < L) : impl_IsMove L A B C D X Y = some (decide (MvG A B C D X Y)) := by
  unfold impl_IsMove
  have key : ∀ m, impl_IsMove_l0 L A B C D X Y (m + 5) 0 = some (decide (MvG A B C D X Y)) := by
    intro m
    have w : ∀ i : Int, 0 ≤ i → i ≤ 10 → wr IntKind.i64 (iadd i 1) = i + 1 := fun i h0 h1 => by rw [iadd_eq, wr_s (by omega)]
    have hlen : ilen [AV.int IntKind.i64 A, AV.int IntKind.i64 B, AV.int IntKind.i64 C, AV.int IntKind.i64 D] = 4 := by rw [ilen_eq]; rfl
    have g0 : lget [A, B, C, D] 0 = some A := by rw [lget_eq]; rfl
    have g1 : lget [A, B, C, D] 1 = some B := by rw [lget_eq]; rfl
    have g2 : lget [A, B, C, D] 2 = some C := by rw [lget_eq]; rfl
    have g3 : lget [A, B, C, D] 3 = some D := by rw [lget_eq]; rfl
    have bA : (-20 ≤ A ∧ A ≤ 20) ↔ Bd20 A := Iff.rfl
    have bB : (-20 ≤ B ∧ B ≤ 20) ↔ Bd20 B := Iff.rfl
    have bC : (-20 ≤ C ∧ C ≤ 20) ↔ Bd20 C := Iff.rfl
    have bD : (-20 ≤ D ∧ D ≤ 20) ↔ Bd20 D := Iff.rfl
    rw [impl_IsMove_l0]
    simp only [hlen, ilt_eq, ile_eq, show (0 : Int) < 4 by omega, Int.le_refl, decide_true, Bool.and_self, cond_true, g0, gbind_eq, Option.bind_some, impl_within_eq, w 0 (by omega) (by omega), bA]
    by_cases hA : Bd20 A
    · simp only [hA, decide_true, Bool.not_true, cond_false]
      rw [impl_IsMove_l0]
      simp only [hlen, ilt_eq, ile_eq, show (0 + 1 : Int) < 4 by omega, show (0 : Int) ≤ 0 + 1 by omega, decide_true, Bool.and_self, cond_true, show (0 + 1 : Int) = 1 by omega, show (1 : Int) < 4 by omega, show (0 : Int) ≤ 1 by omega, g1, gbind_eq, Option.bind_some, impl_within_eq, w 1 (by omega) (by omega), bB]
      by_cases hB : Bd20 B
      · simp only [hB, decide_true, Bool.not_true, cond_false]
        rw [impl_IsMove_l0]
        simp only [hlen, ilt_eq, ile_eq, show (1 + 1 : Int) = 2 by omega, show (2 : Int) < 4 by omega, show (0 : Int) ≤ 2 by omega, decide_true, Bool.and_self, cond_true, g2, gbind_eq, Option.bind_some, impl_within_eq, w 2 (by omega) (by omega), bC]
        by_cases hC : Bd20 C
        · simp only [hC, decide_true, Bool.not_true, cond_false]
          rw [impl_IsMove_l0]
          simp only [hlen, ilt_eq, ile_eq, show (2 + 1 : Int) = 3 by omega, show (3 : Int) < 4 by omega, show (0 : Int) ≤ 3 by omega, decide_true, Bool.and_self, cond_true, g3, gbind_eq, Option.bind_some, impl_within_eq, w 3 (by omega) (by omega), bD]
          by_cases hD : Bd20 D
          · simp only [hD, decide_true, Bool.not_true, cond_false]
            rw [impl_IsMove_l0]
            simp only [hlen, ilt_eq, show (3 + 1 : Int) = 4 by omega, Int.lt_irrefl, decide_false, cond_false, isWay_eq hX hY, gbind_eq, Option.bind_some]
            by_cases hw : Bd80 X ∧ Bd80 Y
            · obtain ⟨d1, d2⟩ := det_wr (A := A) (B := B) (C := C) (D := D) ⟨hA, hB, hC, hD⟩
              unfold impl_Move_side
              simp only [hw, and_self, decide_true, cond_true, d1, Option.bind_some, impl_size_eq (L := L) (n := A * D - B * C) (by omega), ieq_eq, MvG, hA, hB, hC, hD, true_and]
              congr 1; rw [decide_eq_decide]; omega
            · simp only [hw, decide_false, cond_false, MvG, false_and, and_false]
          · simp only [hD, decide_false, Bool.not_false, cond_true, MvG, false_and, and_false]
        · simp only [hC, decide_false, Bool.not_false, cond_true, MvG, false_and, and_false]
      · simp only [hB, decide_false, Bool.not_false, cond_true, MvG, false_and, and_false]
    · simp only [hA, decide_false, Bool.not_false, cond_true, MvG, false_and]
  obtain ⟨m, hm⟩ : ∃ m, L = m + 5 := ⟨L - 5, by omega⟩
  have := key m
  rw [← hm] at this
  exact this
end Go.AM
namespace Go.AM
theorem nearer_eq {L : Nat} {x y : Int} (hx : -1000000000 ≤ x ∧ x ≤ 1000000000) (hy : -1000000000 ≤ y ∧ y ≤ 1000000000) : spec_wiNearer L x y = some (decide (nr x y)) ∧ impl_isLess L x y = some (decide (nr x y)) := by
  unfold spec_wiNearer impl_isLess
  simp only [spec_l1Abs_eq hx, spec_l1Abs_eq hy, impl_size_eq hx, impl_size_eq hy, gbind_eq, Option.bind_some, ilt_eq, ieq_eq]
  have : (bif decide ((x.natAbs : Int) < (y.natAbs : Int)) then some true else bif decide ((x.natAbs : Int) = (y.natAbs : Int)) then some (decide (y < x)) else some false) = some (decide (nr x y)) := by
    by_cases h1 : (x.natAbs : Int) < (y.natAbs : Int)
    · rw [decide_eq_true (show nr x y from .inl (by omega)), decide_eq_true h1]; rfl
    · rw [decide_eq_false h1]
      by_cases h2 : (x.natAbs : Int) = (y.natAbs : Int)
      · rw [decide_eq_true h2]
        simp only [cond_false, cond_true]
        congr 1; rw [decide_eq_decide]
        exact ⟨fun h => .inr ⟨by omega, h⟩, fun h => h.elim (fun h => by omega) fun h => h.2⟩
      · rw [decide_eq_false h2, decide_eq_false (show ¬ nr x y from fun h => h.elim (fun h => h1 (by omega)) fun h => h2 (by have := h.1; omega))]; rfl
  exact ⟨this, this⟩
theorem sol_snd {u v : Int} {z : Int × Int} (hz : Bst u v z) (hu : 0 < u ∨ (u = 0 ∧ v = 1)) (hv : -20000 ≤ v ∧ v ≤ 20000) (hub : u ≤ 20000) : (-10000 ≤ z.1 ∧ z.1 ≤ 10000) ∧ (-20001 ≤ z.2 ∧ z.2 ≤ 20001) := by
  rcases hu with hu | ⟨rfl, rfl⟩
  · have hb : 2 * (z.1.natAbs : Int) ≤ u := by
      rcases hz.2.1 with h | h
      · exact h
      · omega
    refine ⟨by omega, ?_⟩
    have hs : z.1 * v - z.2 * u = 1 := hz.1
    have e1 : (z.2 * u).natAbs ≤ (z.1 * v).natAbs + 1 := by omega
    rw [Int.natAbs_mul, Int.natAbs_mul] at e1
    have e2 : 2 * (z.1.natAbs * v.natAbs) ≤ u.natAbs * 20000 := by
      have h1 : 2 * z.1.natAbs ≤ u.natAbs := by omega
      have h2 := Nat.mul_le_mul h1 (show v.natAbs ≤ 20000 by omega)
      rwa [Nat.mul_assoc] at h2
    rcases Nat.lt_or_ge 20001 z.2.natAbs with h | h
    · exfalso
      have h3 := Nat.mul_le_mul_right u.natAbs (show 20002 ≤ z.2.natAbs by omega)
      have hu1 : 1 ≤ u.natAbs := by omega
      omega
    · omega
  · have hb : z = (1, 0) := by
      rcases hz.2.1 with h | h
      · have h1 := hz.1
        unfold Sol at h1
        omega
      · exact h.2
    rw [hb]; simp only; omega
theorem flat_l0 {L : Nat} {a : List Pt} {u v A B : Int} {z : Int × Int} (hu : -20000 ≤ u ∧ u ≤ 20000) (hv : -20000 ≤ v ∧ v ≤ 20000) (hA : -20000 ≤ A ∧ A ≤ 20000) (hB : -20000 ≤ B ∧ B ≤ 20000) (hz : (-10000 ≤ z.1 ∧ z.1 ≤ 10000) ∧ (-20001 ≤ z.2 ∧ z.2 ≤ 20001)) (g : Good_ a) (hL : 200000 < L) :
    ∀ (n m : Nat) (k : Int) (w : Int × Int) (c2 c3 c4 c5 : Int), -40002 ≤ k → k ≤ 40002 → k + n = (A.natAbs : Int) + B.natAbs + 2 → n < m → (-900000000 ≤ w.1 ∧ w.1 ≤ 900000000) → (-900000000 ≤ w.2 ∧ w.2 ≤ 900000000) →
      (∀ j : Int, -40002 ≤ j → j ≤ 40002 → (-900000000 ≤ A + j * u ∧ A + j * u ≤ 900000000) ∧ (-900000000 ≤ B + j * v ∧ B + j * v ≤ 900000000)) →
      bestF A B u v n k w = z → spec_wiFlat_l0 L a u v (A, B) m k w.1 w.2 c2 c3 c4 c5 = some (z.1, z.2, u, v, -(rngOf z.1 z.2 a).1, -(rngOf u v a).1) := by
  intro n
  induction n with
  | zero =>
    intro m k w c2 c3 c4 c5 k0 k1 hk hm hw1 hw2 hc hb
    obtain ⟨m, rfl⟩ : ∃ q, m = q + 1 := ⟨m - 1, by omega⟩
    simp only [bestF] at hb
    subst hb
    have h := vw_of g (t := 0) (by omega)
    rw [spec_wiFlat_l0]
    have e1 : wr IntKind.i64 (iadd (wr IntKind.i64 (iadd (A.natAbs : Int) (B.natAbs : Int))) 1) = (A.natAbs : Int) + B.natAbs + 1 := by
      rw [iadd_eq, iadd_eq, wr_s (i := (A.natAbs : Int) + B.natAbs) (by omega), wr_s (by omega)]
    have hr := (range_eq (L := L) (a := a) (b := w.1) (c := w.2) (by omega) (by omega) h.nn (by have := h.len; omega) h.isIn (by have := h.len; omega)).1
    have hr2 := (range_eq (L := L) (a := a) (b := u) (c := v) (by omega) (by omega) h.nn (by have := h.len; omega) h.isIn (by have := h.len; omega)).1
    simp only [spec_l1Abs_eq (L := L) (n := A) (by omega), spec_l1Abs_eq (L := L) (n := B) (by omega), gbind_eq, Option.bind_some, e1, ile_eq, show ¬ k ≤ (A.natAbs : Int) + B.natAbs + 1 by omega, decide_false, cond_false, hr, hr2]
    have vb : ∀ b c : Int, (-100000 ≤ b ∧ b ≤ 100000) → (-100000 ≤ c ∧ c ≤ 100000) → wr IntKind.i64 (isub 0 (rngOf b c a).1) = -(rngOf b c a).1 := fun b c hb hc => by
      have v0 := val_bd hb hc (h.isIn 0)
      have bd := rng_bd (f := val b c) (A := -8000000) (B := 8000000) a (val b c (pt a 0)) (val b c (pt a 0)) v0 v0 fun p hp => by
        obtain ⟨i, _, _, e⟩ := mem_pt hp
        rw [← e]; exact val_bd hb hc (h.isIn i)
      rw [isub_eq, wr_v (by unfold rngOf; omega)]; omega
    rw [vb w.1 w.2 (by omega) (by omega), vb u v (by omega) (by omega)]
  | succ n ih =>
    intro m k w c2 c3 c4 c5 k0 k1 hk hm hw1 hw2 hc hb
    obtain ⟨m, rfl⟩ : ∃ q, m = q + 1 := ⟨m - 1, by omega⟩
    have e1 : wr IntKind.i64 (iadd (wr IntKind.i64 (iadd (A.natAbs : Int) (B.natAbs : Int))) 1) = (A.natAbs : Int) + B.natAbs + 1 := by
      rw [iadd_eq, iadd_eq, wr_s (i := (A.natAbs : Int) + B.natAbs) (by omega), wr_s (by omega)]
    have m1 := mul_bd (x := k) (y := u) (A := 90000) (B := 20000) (by omega) (by omega)
    have m2 := mul_bd (x := k) (y := v) (A := 90000) (B := 20000) (by omega) (by omega)
    obtain ⟨q1, q2⟩ := hc k k0 k1
    have eA : wr IntKind.i64 (iadd A (wr IntKind.i64 (imul k u))) = A + k * u := by
      rw [imul_eq, iadd_eq, wr_id (n := k * u) (by omega), wr_id (by omega)]
    have eB : wr IntKind.i64 (iadd B (wr IntKind.i64 (imul k v))) = B + k * v := by
      rw [imul_eq, iadd_eq, wr_id (n := k * v) (by omega), wr_id (by omega)]
    have wk : wr IntKind.i64 (iadd k 1) = k + 1 := by rw [iadd_eq, wr_s (by omega)]
    rw [spec_wiFlat_l0]
    simp only [spec_l1Abs_eq (L := L) (n := A) (by omega), spec_l1Abs_eq (L := L) (n := B) (by omega), gbind_eq, Option.bind_some, e1, ile_eq, show k ≤ (A.natAbs : Int) + B.natAbs + 1 by omega, decide_true, cond_true, eA, eB, wk, (nearer_eq (L := L) (x := A + k * u) (y := w.1) (by omega) (by omega)).1, ieq_eq]
    rw [bestF] at hb
    by_cases h1 : nr (A + k * u) w.1
    · rw [if_pos (show bet (A + k * u, B + k * v) w from .inl h1)] at hb
      simp only [h1, decide_true, cond_true]
      exact ih m (k + 1) (A + k * u, B + k * v) 0 0 0 0 (by omega) (by omega) (by omega) (by omega) q1 q2 hc hb
    · by_cases h2 : A + k * u = w.1
      · simp only [h1, decide_false, cond_false, decide_eq_true h2, cond_true, (nearer_eq (L := L) (x := B + k * v) (y := w.2) (by omega) (by omega)).1, Option.bind_some]
        by_cases h3 : nr (B + k * v) w.2
        · rw [if_pos (show bet (A + k * u, B + k * v) w from .inr ⟨h2, h3⟩)] at hb
          simp only [h3, decide_true, cond_true]
          exact ih m (k + 1) (A + k * u, B + k * v) 0 0 0 0 (by omega) (by omega) (by omega) (by omega) q1 q2 hc hb
        · rw [if_neg (show ¬ bet (A + k * u, B + k * v) w from fun h => h.elim h1 fun h => h3 h.2)] at hb
          simp only [h3, decide_false, cond_false]
          exact ih m (k + 1) w c2 c3 c4 c5 (by omega) (by omega) (by omega) (by omega) hw1 hw2 hc hb
      · rw [if_neg (show ¬ bet (A + k * u, B + k * v) w from fun h => h.elim h1 fun h => h2 h.1)] at hb
        simp only [h1, decide_false, cond_false, decide_eq_false h2]
        exact ih m (k + 1) w c2 c3 c4 c5 (by omega) (by omega) (by omega) (by omega) hw1 hw2 hc hb
theorem cand_bd {A B u v : Int} (hu : -20000 ≤ u ∧ u ≤ 20000) (hv : -20000 ≤ v ∧ v ≤ 20000) (hA : -20000 ≤ A ∧ A ≤ 20000) (hB : -20000 ≤ B ∧ B ≤ 20000) (j : Int) (h0 : -40002 ≤ j) (h1 : j ≤ 40002) : (-900000000 ≤ A + j * u ∧ A + j * u ≤ 900000000) ∧ (-900000000 ≤ B + j * v ∧ B + j * v ≤ 900000000) := by
  have m1 := mul_bd (x := j) (y := u) (A := 40002) (B := 20000) (by omega) (by omega)
  have m2 := mul_bd (x := j) (y := v) (A := 40002) (B := 20000) (by omega) (by omega)
  omega
end Go.AM
namespace Go.AM
theorem take_map_succ {β : Type} {a : List Pt} {h : Pt → β} {v : Int} (h0 : 0 ≤ v) (h1 : v < a.length) : (a.take (v + 1).toNat).map h = (a.take v.toNat).map h ++ [h (pt a v)] := by
  have e : (v + 1).toNat = v.toNat + 1 := by omega
  rw [e, List.take_add_one, pt_get h0 h1]
  simp
theorem mapLoop {β : Type} {f : Nat → Int → List β → Option (List β)} {h : Pt → β} {a : List Pt} (hstop : ∀ m w, f (m + 1) a.length w = some w)
    (hgo : ∀ m v w, 0 ≤ v → v < (a.length : Int) → w.length ≤ a.length → f (m + 1) v w = f m (v + 1) (w ++ [h (pt a v)])) : ∀ (m : Nat) (v : Int), 0 ≤ v → v ≤ a.length → (a.length : Int) - v < m → f m v ((a.take v.toNat).map h) = some (a.map h)
  | 0, v, _, _, hm => by omega
  | m + 1, v, h0, hv, hm => by
    by_cases hvn : v < (a.length : Int)
    · rw [hgo m v _ h0 hvn (by simp; omega), ← take_map_succ h0 hvn]
      exact mapLoop hstop hgo m (v + 1) (by omega) (by omega) (by omega)
    · have e : v = (a.length : Int) := by omega
      subst e
      rw [hstop]
      simp
def brg (A B C D : Int) (o p : Pt) : Pt := ⟨A * (p.x - o.x) + B * (p.y - o.y), C * (p.x - o.x) + D * (p.y - o.y)⟩
theorem spec_mvPeg_eq {L : Nat} {A B C D X Y x y : Int} (hA : -60000000000 ≤ A ∧ A ≤ 60000000000) (hB : -60000000000 ≤ B ∧ B ≤ 60000000000) (hC : -60000000000 ≤ C ∧ C ≤ 60000000000) (hD : -60000000000 ≤ D ∧ D ≤ 60000000000)
    (hX : -1000000000 ≤ X ∧ X ≤ 1000000000) (hY : -1000000000 ≤ Y ∧ Y ≤ 1000000000) (hx : -4000 ≤ x ∧ x ≤ 4000) (hy : -4000 ≤ y ∧ y ≤ 4000) :
    spec_mvPeg L A B C D X Y x y = some (A * x + B * y + X, C * x + D * y + Y) := by
  have h1 := mul_bd hA hx; have h2 := mul_bd hB hy; have h3 := mul_bd hC hx; have h4 := mul_bd hD hy
  unfold spec_mvPeg
  simp only [iadd_eq, imul_eq]
  rw [wr_id (n := A * x) (by omega), wr_id (n := B * y) (by omega), wr_id (n := C * x) (by omega), wr_id (n := D * y) (by omega), wr_id (n := A * x + B * y) (by omega), wr_id (n := C * x + D * y) (by omega), wr_id (n := A * x + B * y + X) (by omega), wr_id (n := C * x + D * y + Y) (by omega)]
theorem impl_bring_eq {L : Nat} {A B C D X Y x y : Int} : impl_Move_bring L A B C D X Y x y = spec_mvPeg L A B C D X Y x y := rfl
theorem less_eq {L : Nat} {p q : Pt} (hp : Nr p) (hq : Nr q) : impl_Peg_less L p.x p.y q.x q.y = some (p.x - q.x, p.y - q.y) := by
  have := sub_bd hp hq
  unfold impl_Peg_less
  simp only [isub_eq]
  rw [wr_id (by omega), wr_id (by omega)]
theorem spec_mvFrame_l0_eq {L : Nat} {a : List Pt} {o p1 p2 : Pt} {r : Int} {r1 r2 : Int × Int} {A B C D K : Int} (hin : ∀ i, Nr (pt a i)) (ho : Nr o) (hs : (a.length : Int) ≤ 1000)
    (hC : wr IntKind.i64 (isub 0 (wr IntKind.i64 (iquo (wr IntKind.i64 (isub 0 (wr IntKind.i64 (isub (Pt.y p2) (Pt.y o))))) r))) = C) (hD : wr IntKind.i64 (isub 0 (wr IntKind.i64 (iquo (wr IntKind.i64 (isub (Pt.x p1) (Pt.x o))) r))) = D)
    (hK : wr IntKind.i64 (iquo (wr IntKind.i64 (isub (irem (wr IntKind.i64 (iadd (irem (Prod.fst r2) (wr IntKind.i64 (isub 0 (Prod.snd r2)))) (wr IntKind.i64 (isub 0 (Prod.snd r2))))) (wr IntKind.i64 (isub 0 (Prod.snd r2)))) (Prod.fst r2))) (wr IntKind.i64 (isub 0 (Prod.snd r2)))) = K)
    (hA : wr IntKind.i64 (iadd (Prod.fst r1) (wr IntKind.i64 (imul K C))) = A) (hB : wr IntKind.i64 (iadd (Prod.snd r1) (wr IntKind.i64 (imul K D))) = B)
    (bA : -60000000000 ≤ A ∧ A ≤ 60000000000) (bB : -60000000000 ≤ B ∧ B ≤ 60000000000) (bC : -60000000000 ≤ C ∧ C ≤ 60000000000) (bD : -60000000000 ≤ D ∧ D ≤ 60000000000) (hL : (a.length : Int) < L) :
    spec_mvFrame_l0 L a o p1 p2 r r1 r2 L 0 [] = some (a.map (brg A B C D o)) := by
  have := mapLoop (f := spec_mvFrame_l0 L a o p1 p2 r r1 r2) (h := brg A B C D o) (a := a) (fun m w => by
    simp only [spec_mvFrame_l0, ilt_eq, ilen_mapep, Int.lt_irrefl, decide_false, cond_false]) (fun m v w hv0 h1 hw => by
    have hb := sub_bd (hin v) ho
    simp only [spec_mvFrame_l0, ilt_eq, ilen_mapep, h1, decide_true, cond_true, gbind_eq, lget_pt hv0 h1, Option.bind_some, hC, hD, hK, hA, hB]
    simp only [isub_eq]
    rw [wr_id (n := (pt a v).x - o.x) (by omega), wr_id (n := (pt a v).y - o.y) (by omega), spec_mvPeg_eq bA bB bC bD (by omega) (by omega) (by omega) (by omega)]
    simp only [Option.bind_some, iadd_eq, ilen_eq, List.length_cons, List.length_nil, fits_s (n := (w.length : Int) + ((0 + 1 : Nat) : Int)) (b := 16) (by omega), cond_true, lcat_eq, wr_id (n := v + 1) (by omega)]
    simp [brg]) L 0 (by omega) (by omega) (by omega)
  simpa using this
theorem spec_mvFrame_l1_eq {L : Nat} {a : List Pt} {o p1 p2 : Pt} {r : Int} {r1 r2 : Int × Int} {A B C D K : Int} (hin : ∀ i, Nr (pt a i)) (ho : Nr o) (hs : (a.length : Int) ≤ 1000)
    (hC : wr IntKind.i64 (iquo (wr IntKind.i64 (isub 0 (wr IntKind.i64 (isub (Pt.y p2) (Pt.y o))))) r) = C) (hD : wr IntKind.i64 (iquo (wr IntKind.i64 (isub (Pt.x p1) (Pt.x o))) r) = D)
    (hK : wr IntKind.i64 (iquo (wr IntKind.i64 (isub (irem (wr IntKind.i64 (iadd (irem (Prod.fst r2) (Prod.snd r2)) (Prod.snd r2))) (Prod.snd r2)) (Prod.fst r2))) (Prod.snd r2)) = K)
    (hA : wr IntKind.i64 (iadd (Prod.fst r1) (wr IntKind.i64 (imul K C))) = A) (hB : wr IntKind.i64 (iadd (Prod.snd r1) (wr IntKind.i64 (imul K D))) = B)
    (bA : -60000000000 ≤ A ∧ A ≤ 60000000000) (bB : -60000000000 ≤ B ∧ B ≤ 60000000000) (bC : -60000000000 ≤ C ∧ C ≤ 60000000000) (bD : -60000000000 ≤ D ∧ D ≤ 60000000000) (hL : (a.length : Int) < L) :
    spec_mvFrame_l1 L a o p1 p2 r r1 r2 L 0 [] = some (a.map (brg A B C D o)) := by
  have := mapLoop (f := spec_mvFrame_l1 L a o p1 p2 r r1 r2) (h := brg A B C D o) (a := a) (fun m w => by
    simp only [spec_mvFrame_l1, ilt_eq, ilen_mapep, Int.lt_irrefl, decide_false, cond_false]) (fun m v w hv0 h1 hw => by
    have hb := sub_bd (hin v) ho
    simp only [spec_mvFrame_l1, ilt_eq, ilen_mapep, h1, decide_true, cond_true, gbind_eq, lget_pt hv0 h1, Option.bind_some, hC, hD, hK, hA, hB]
    simp only [isub_eq]
    rw [wr_id (n := (pt a v).x - o.x) (by omega), wr_id (n := (pt a v).y - o.y) (by omega), spec_mvPeg_eq bA bB bC bD (by omega) (by omega) (by omega) (by omega)]
    simp only [Option.bind_some, iadd_eq, ilen_eq, List.length_cons, List.length_nil, fits_s (n := (w.length : Int) + ((0 + 1 : Nat) : Int)) (b := 16) (by omega), cond_true, lcat_eq, wr_id (n := v + 1) (by omega)]
    simp [brg]) L 0 (by omega) (by omega) (by omega)
  simpa using this
theorem impl_frame_l0_eq {L : Nat} {a : List Pt} {o : Pt} {r : Int × Int} {r1 : Int × Int × Int} {r3 : Int × Int} {A B C D K : Int} (h0 : lget a 0 = some o) (hin : ∀ i, Nr (pt a i)) (ho : Nr o) (hs : (a.length : Int) ≤ 1000)
    (hC : wr IntKind.i64 (isub 0 (wr IntKind.i64 (iquo (wr IntKind.i64 (isub 0 (Prod.snd r))) (wr IntKind.i64 (isub 0 (Prod.fst r1)))))) = C) (hD : wr IntKind.i64 (isub 0 (wr IntKind.i64 (iquo (Prod.fst r) (wr IntKind.i64 (isub 0 (Prod.fst r1)))))) = D)
    (hK : wr IntKind.i64 (iquo (wr IntKind.i64 (isub (irem (wr IntKind.i64 (iadd (irem (Prod.fst r3) (wr IntKind.i64 (isub 0 (Prod.snd r3)))) (wr IntKind.i64 (isub 0 (Prod.snd r3))))) (wr IntKind.i64 (isub 0 (Prod.snd r3)))) (Prod.fst r3))) (wr IntKind.i64 (isub 0 (Prod.snd r3)))) = K)
    (hA : wr IntKind.i64 (iadd (wr IntKind.i64 (isub 0 (Prod.fst (Prod.snd r1)))) (wr IntKind.i64 (imul K C))) = A) (hB : wr IntKind.i64 (iadd (wr IntKind.i64 (isub 0 (Prod.snd (Prod.snd r1)))) (wr IntKind.i64 (imul K D))) = B)
    (bA : -60000000000 ≤ A ∧ A ≤ 60000000000) (bB : -60000000000 ≤ B ∧ B ≤ 60000000000) (bC : -60000000000 ≤ C ∧ C ≤ 60000000000) (bD : -60000000000 ≤ D ∧ D ≤ 60000000000) (hL : (a.length : Int) < L) :
    impl_frame_l0 L a r r1 r3 L 0 [] = some (a.map (brg A B C D o)) := by
  have := mapLoop (f := impl_frame_l0 L a r r1 r3) (h := brg A B C D o) (a := a) (fun m w => by
    simp only [impl_frame_l0, ilt_eq, ilen_mapep, Int.lt_irrefl, decide_false, cond_false]) (fun m v w hv0 h1 hw => by
    have hb := sub_bd (hin v) ho
    simp only [impl_frame_l0, ilt_eq, ilen_mapep, h1, decide_true, cond_true, gbind_eq, lget_pt hv0 h1, Option.bind_some, hC, hD, hK, hA, hB, h0]
    rw [less_eq (hin v) ho]
    simp only [Option.bind_some, impl_bring_eq]
    rw [spec_mvPeg_eq bA bB bC bD (by omega) (by omega) (by omega) (by omega)]
    simp only [Option.bind_some, iadd_eq, ilen_eq, List.length_cons, List.length_nil, fits_s (n := (w.length : Int) + ((0 + 1 : Nat) : Int)) (b := 16) (by omega), cond_true, lcat_eq, wr_id (n := v + 1) (by omega)]
    simp [brg]) L 0 (by omega) (by omega) (by omega)
  simpa using this
theorem impl_frame_l1_eq {L : Nat} {a : List Pt} {o : Pt} {r : Int × Int} {r1 : Int × Int × Int} {r3 : Int × Int} {A B C D K : Int} (h0 : lget a 0 = some o) (hin : ∀ i, Nr (pt a i)) (ho : Nr o) (hs : (a.length : Int) ≤ 1000)
    (hC : wr IntKind.i64 (iquo (wr IntKind.i64 (isub 0 (Prod.snd r))) (wr IntKind.i64 (isub 0 (Prod.fst r1)))) = C) (hD : wr IntKind.i64 (iquo (Prod.fst r) (wr IntKind.i64 (isub 0 (Prod.fst r1)))) = D)
    (hK : wr IntKind.i64 (iquo (wr IntKind.i64 (isub (irem (wr IntKind.i64 (iadd (irem (Prod.fst r3) (Prod.snd r3)) (Prod.snd r3))) (Prod.snd r3)) (Prod.fst r3))) (Prod.snd r3)) = K)
    (hA : wr IntKind.i64 (iadd (wr IntKind.i64 (isub 0 (Prod.fst (Prod.snd r1)))) (wr IntKind.i64 (imul K C))) = A) (hB : wr IntKind.i64 (iadd (wr IntKind.i64 (isub 0 (Prod.snd (Prod.snd r1)))) (wr IntKind.i64 (imul K D))) = B)
    (bA : -60000000000 ≤ A ∧ A ≤ 60000000000) (bB : -60000000000 ≤ B ∧ B ≤ 60000000000) (bC : -60000000000 ≤ C ∧ C ≤ 60000000000) (bD : -60000000000 ≤ D ∧ D ≤ 60000000000) (hL : (a.length : Int) < L) :
    impl_frame_l1 L a r r1 r3 L 0 [] = some (a.map (brg A B C D o)) := by
  have := mapLoop (f := impl_frame_l1 L a r r1 r3) (h := brg A B C D o) (a := a) (fun m w => by
    simp only [impl_frame_l1, ilt_eq, ilen_mapep, Int.lt_irrefl, decide_false, cond_false]) (fun m v w hv0 h1 hw => by
    have hb := sub_bd (hin v) ho
    simp only [impl_frame_l1, ilt_eq, ilen_mapep, h1, decide_true, cond_true, gbind_eq, lget_pt hv0 h1, Option.bind_some, hC, hD, hK, hA, hB, h0]
    rw [less_eq (hin v) ho]
    simp only [Option.bind_some, impl_bring_eq]
    rw [spec_mvPeg_eq bA bB bC bD (by omega) (by omega) (by omega) (by omega)]
    simp only [Option.bind_some, iadd_eq, ilen_eq, List.length_cons, List.length_nil, fits_s (n := (w.length : Int) + ((0 + 1 : Nat) : Int)) (b := 16) (by omega), cond_true, lcat_eq, wr_id (n := v + 1) (by omega)]
    simp [brg]) L 0 (by omega) (by omega) (by omega)
  simpa using this
theorem impl_frame_l2_eq {L : Nat} {a : List Pt} {o : Pt} {r : Int × Int} {r1 : Int × Int × Int} {r9 : Int × Int} {A B C D K : Int} (h0 : lget a 0 = some o) (hin : ∀ i, Nr (pt a i)) (ho : Nr o) (hs : (a.length : Int) ≤ 1000)
    (hC : wr IntKind.i64 (isub 0 (wr IntKind.i64 (iquo (wr IntKind.i64 (isub 0 (Prod.snd r))) (Prod.fst r1)))) = C) (hD : wr IntKind.i64 (isub 0 (wr IntKind.i64 (iquo (Prod.fst r) (Prod.fst r1)))) = D)
    (hK : wr IntKind.i64 (iquo (wr IntKind.i64 (isub (irem (wr IntKind.i64 (iadd (irem (Prod.fst r9) (wr IntKind.i64 (isub 0 (Prod.snd r9)))) (wr IntKind.i64 (isub 0 (Prod.snd r9))))) (wr IntKind.i64 (isub 0 (Prod.snd r9)))) (Prod.fst r9))) (wr IntKind.i64 (isub 0 (Prod.snd r9)))) = K)
    (hA : wr IntKind.i64 (iadd (Prod.fst (Prod.snd r1)) (wr IntKind.i64 (imul K C))) = A) (hB : wr IntKind.i64 (iadd (Prod.snd (Prod.snd r1)) (wr IntKind.i64 (imul K D))) = B)
    (bA : -60000000000 ≤ A ∧ A ≤ 60000000000) (bB : -60000000000 ≤ B ∧ B ≤ 60000000000) (bC : -60000000000 ≤ C ∧ C ≤ 60000000000) (bD : -60000000000 ≤ D ∧ D ≤ 60000000000) (hL : (a.length : Int) < L) :
    impl_frame_l2 L a r r1 r9 L 0 [] = some (a.map (brg A B C D o)) := by
  have := mapLoop (f := impl_frame_l2 L a r r1 r9) (h := brg A B C D o) (a := a) (fun m w => by
    simp only [impl_frame_l2, ilt_eq, ilen_mapep, Int.lt_irrefl, decide_false, cond_false]) (fun m v w hv0 h1 hw => by
    have hb := sub_bd (hin v) ho
    simp only [impl_frame_l2, ilt_eq, ilen_mapep, h1, decide_true, cond_true, gbind_eq, lget_pt hv0 h1, Option.bind_some, hC, hD, hK, hA, hB, h0]
    rw [less_eq (hin v) ho]
    simp only [Option.bind_some, impl_bring_eq]
    rw [spec_mvPeg_eq bA bB bC bD (by omega) (by omega) (by omega) (by omega)]
    simp only [Option.bind_some, iadd_eq, ilen_eq, List.length_cons, List.length_nil, fits_s (n := (w.length : Int) + ((0 + 1 : Nat) : Int)) (b := 16) (by omega), cond_true, lcat_eq, wr_id (n := v + 1) (by omega)]
    simp [brg]) L 0 (by omega) (by omega) (by omega)
  simpa using this
theorem impl_frame_l3_eq {L : Nat} {a : List Pt} {o : Pt} {r : Int × Int} {r1 : Int × Int × Int} {r9 : Int × Int} {A B C D K : Int} (h0 : lget a 0 = some o) (hin : ∀ i, Nr (pt a i)) (ho : Nr o) (hs : (a.length : Int) ≤ 1000)
    (hC : wr IntKind.i64 (iquo (wr IntKind.i64 (isub 0 (Prod.snd r))) (Prod.fst r1)) = C) (hD : wr IntKind.i64 (iquo (Prod.fst r) (Prod.fst r1)) = D)
    (hK : wr IntKind.i64 (iquo (wr IntKind.i64 (isub (irem (wr IntKind.i64 (iadd (irem (Prod.fst r9) (Prod.snd r9)) (Prod.snd r9))) (Prod.snd r9)) (Prod.fst r9))) (Prod.snd r9)) = K)
    (hA : wr IntKind.i64 (iadd (Prod.fst (Prod.snd r1)) (wr IntKind.i64 (imul K C))) = A) (hB : wr IntKind.i64 (iadd (Prod.snd (Prod.snd r1)) (wr IntKind.i64 (imul K D))) = B)
    (bA : -60000000000 ≤ A ∧ A ≤ 60000000000) (bB : -60000000000 ≤ B ∧ B ≤ 60000000000) (bC : -60000000000 ≤ C ∧ C ≤ 60000000000) (bD : -60000000000 ≤ D ∧ D ≤ 60000000000) (hL : (a.length : Int) < L) :
    impl_frame_l3 L a r r1 r9 L 0 [] = some (a.map (brg A B C D o)) := by
  have := mapLoop (f := impl_frame_l3 L a r r1 r9) (h := brg A B C D o) (a := a) (fun m w => by
    simp only [impl_frame_l3, ilt_eq, ilen_mapep, Int.lt_irrefl, decide_false, cond_false]) (fun m v w hv0 h1 hw => by
    have hb := sub_bd (hin v) ho
    simp only [impl_frame_l3, ilt_eq, ilen_mapep, h1, decide_true, cond_true, gbind_eq, lget_pt hv0 h1, Option.bind_some, hC, hD, hK, hA, hB, h0]
    rw [less_eq (hin v) ho]
    simp only [Option.bind_some, impl_bring_eq]
    rw [spec_mvPeg_eq bA bB bC bD (by omega) (by omega) (by omega) (by omega)]
    simp only [Option.bind_some, iadd_eq, ilen_eq, List.length_cons, List.length_nil, fits_s (n := (w.length : Int) + ((0 + 1 : Nat) : Int)) (b := 16) (by omega), cond_true, lcat_eq, wr_id (n := v + 1) (by omega)]
    simp [brg]) L 0 (by omega) (by omega) (by omega)
  simpa using this
end Go.AM
namespace Go.AM
theorem idxLoop {β γ : Type} {f : Nat → Int → List β → Option γ} {H : Int → β} {n : Nat} {K : List β → Option γ} (hstop : ∀ m w, f (m + 1) n w = K w)
    (hgo : ∀ m v w, 0 ≤ v → v < (n : Int) → w.length ≤ n → f (m + 1) v w = f m (v + 1) (w ++ [H v])) : ∀ (m i : Nat), i ≤ n → n - i < m → f m i ((List.range i).map fun (j : Nat) => H j) = K ((List.range n).map fun (j : Nat) => H j)
  | 0, i, _, hm => by omega
  | m + 1, i, hi, hm => by
    by_cases h : i < n
    · rw [hgo m i _ (by omega) (by omega) (by simp; omega)]
      have e : (List.range i).map (fun (j : Nat) => H j) ++ [H i] = (List.range (i + 1)).map fun (j : Nat) => H j := by simp [List.range_succ]
      rw [e]
      exact idxLoop hstop hgo m (i + 1) (by omega) (by omega)
    · have e : i = n := by omega
      subst e
      exact hstop m _
end Go.AM
namespace Go.AM
theorem rng_min {f : Pt → Int} : ∀ (l : List Pt) (u v : Int), (rng f l u v).1 = minF f l u
  | [], u, v => rfl
  | p :: l, u, v => by
    rw [rng, rng_min l, minF]
    congr 1
    split <;> split <;> omega
theorem minF_map {f : Pt → Int} {h : Pt → Pt} : ∀ (l : List Pt) (b : Int), minF f (l.map h) b = minF (fun p => f (h p)) l b
  | [], b => rfl
  | p :: l, b => by rw [List.map_cons, minF, minF, minF_map l]
theorem box_l0 {L : Nat} {a : List Pt} (hs : (a.length : Int) ≤ 1000) : ∀ (m i : Nat) (b0 b1 c0 c1 : Int), i ≤ a.length → a.length - i < m → ∃ h1 h2, impl_box_l0 L a m i b0 b1 c0 c1 = some (minF Pt.x (a.drop i) b0, minF Pt.y (a.drop i) b1, h1, h2) := by
  intro m
  induction m with
  | zero => intro i _ _ _ _ _ h; omega
  | succ m ih =>
    intro i b0 b1 c0 c1 hi hm
    rw [impl_box_l0]
    by_cases h : (i : Int) < (a.length : Int)
    · have hlt : i < a.length := by omega
      have wi : wr IntKind.i64 (iadd (i : Int) 1) = ((i + 1 : Nat) : Int) := by rw [iadd_eq, wr_s (by omega)]; omega
      simp only [ilen_mapep, ilt_eq, h, decide_true, cond_true, lget_pt (show (0 : Int) ≤ i by omega) h, gbind_eq, Option.bind_some, wi]
      obtain ⟨h1, h2, e⟩ := ih (i + 1) (imin b0 (pt a i).x) (imin b1 (pt a i).y) (imax c0 (pt a i).x) (imax c1 (pt a i).y) (by omega) (by omega)
      refine ⟨h1, h2, ?_⟩
      rw [e, drop_pt hlt, minF, minF, imin_eq, imin_eq]
    · simp only [ilen_mapep, ilt_eq, h, decide_false, cond_false]
      rw [List.drop_of_length_le (by omega)]
      exact ⟨_, _, rfl⟩
theorem box_eq {L : Nat} {a : List Pt} (hn : a ≠ []) (hs : (a.length : Int) ≤ 1000) (hL : a.length < L) : ∃ h1 h2, impl_box L a = some (minF Pt.x a (pt a 0).x, minF Pt.y a (pt a 0).y, h1, h2) := by
  have hl : 0 < (a.length : Int) := by have := List.length_pos_iff.2 hn; omega
  obtain ⟨h1, h2, e⟩ := box_l0 (L := L) hs L 0 (pt a 0).x (pt a 0).y (pt a 0).x (pt a 0).y (by omega) (by omega)
  refine ⟨h1, h2, ?_⟩
  unfold impl_box
  rw [show ((0 : Nat) : Int) = 0 by rfl, List.drop_zero] at e
  simp only [lget_pt (Int.le_refl 0) hl, gbind_eq, Option.bind_some, e]
theorem bring_val {L : Nat} {a : List Pt} {A B C D X Y : Int} {p : Pt} (hp : In p) (hA : -100000 ≤ A ∧ A ≤ 100000) (hB : -100000 ≤ B ∧ B ≤ 100000) (hC : -100000 ≤ C ∧ C ≤ 100000) (hD : -100000 ≤ D ∧ D ≤ 100000) (hX : -1000 ≤ X ∧ X ≤ 1000) (hY : -1000 ≤ Y ∧ Y ≤ 1000) :
    impl_Move_bring L A B C D X Y p.x p.y = some (val A B p + X, val C D p + Y) := by
  rw [impl_bring_eq, spec_mvPeg_eq (by omega) (by omega) (by omega) (by omega) (by omega) (by omega) (by unfold In at hp; omega) (by unfold In at hp; omega)]
  rfl
theorem moved_l1 {L : Nat} {a : List Pt} {A B C D : Int} (g : Good_ a) (hA : -100000 ≤ A ∧ A ≤ 100000) (hB : -100000 ≤ B ∧ B ≤ 100000) (hC : -100000 ≤ C ∧ C ≤ 100000) (hD : -100000 ≤ D ∧ D ≤ 100000) (hL : 200000 < L) :
    impl_flatMove_l1 L a A B C D 0 0 L 0 [] = some (A, B, C, D, -(rngOf A B a).1, -(rngOf C D a).1) := by
  have h := vw_of g (t := 0) (by omega)
  have hlen := h.len
  have := idxLoop (f := impl_flatMove_l1 L a A B C D 0 0) (H := fun i => (⟨val A B (pt a i), val C D (pt a i)⟩ : Pt)) (n := a.length) (K := fun w => (impl_box L w).bind fun r5 => some (A, B, C, D, wr IntKind.i64 (isub 0 r5.1), wr IntKind.i64 (isub 0 r5.2.1))) (fun m w => by
    simp only [impl_flatMove_l1, ilt_eq, ilen_mapep, Int.lt_irrefl, decide_false, cond_false, gbind_eq]) (fun m v w h0 h1 hw => by
    have hb := bring_val (L := L) (a := a) (X := 0) (Y := 0) (h.isIn v) hA hB hC hD (by omega) (by omega)
    simp only [impl_flatMove_l1, ilt_eq, ilen_mapep, h1, decide_true, cond_true, gbind_eq, lget_pt h0 h1, Option.bind_some, hb, Int.add_zero, iadd_eq, wr_s (i := v + 1) (by omega), lcat_eq]
    simp only [ilen_eq, List.length_cons, List.length_nil, fits_s (n := (w.length : Int) + ((0 + 1 : Nat) : Int)) (b := 16) (by omega), cond_true]) L 0 (by omega) (by omega)
  have hmap : ((List.range a.length).map fun (j : Nat) => (⟨val A B (pt a j), val C D (pt a j)⟩ : Pt)) = a.map fun p => (⟨val A B p, val C D p⟩ : Pt) := by
    refine List.ext_getElem (by simp) fun i h1 h2 => ?_
    simp only [List.getElem_map, List.getElem_range]
    have hi : i < a.length := by simpa using h1
    have e := pt_get (a := a) (i := (i : Int)) (by omega) (by omega)
    rw [Int.toNat_natCast, List.getElem?_eq_getElem hi] at e
    rw [Option.some.inj e]
  have this' : impl_flatMove_l1 L a A B C D 0 0 L 0 [] = (impl_box L ((List.range a.length).map fun (j : Nat) => (⟨val A B (pt a j), val C D (pt a j)⟩ : Pt))).bind fun r5 => some (A, B, C, D, wr IntKind.i64 (isub 0 r5.1), wr IntKind.i64 (isub 0 r5.2.1)) := this
  rw [this', hmap]
  have hne : (a.map fun p => (⟨val A B p, val C D p⟩ : Pt)) ≠ [] := by simp [h.nn]
  obtain ⟨b1, b2, e⟩ := box_eq (L := L) hne (by simp; omega) (by simp; omega)
  rw [e]
  have hp0 : pt (a.map fun p => (⟨val A B p, val C D p⟩ : Pt)) 0 = ⟨val A B (pt a 0), val C D (pt a 0)⟩ := by
    have hl0 : 0 < a.length := List.length_pos_iff.2 h.nn
    have e1 := pt_get (a := a.map fun p => (⟨val A B p, val C D p⟩ : Pt)) (i := 0) (by omega) (by simp; omega)
    have e2 := pt_get (a := a) (i := 0) (by omega) (by omega)
    rw [List.getElem?_map, e2] at e1
    exact (Option.some.inj e1).symm
  have vb : ∀ b c : Int, (-100000 ≤ b ∧ b ≤ 100000) → (-100000 ≤ c ∧ c ≤ 100000) → wr IntKind.i64 (isub 0 (minF (val b c) a (val b c (pt a 0)))) = -(rngOf b c a).1 := fun b c hb hc => by
    have v0 := val_bd hb hc (h.isIn 0)
    have bd := rng_bd (f := val b c) (A := -8000000) (B := 8000000) a (val b c (pt a 0)) (val b c (pt a 0)) v0 v0 fun p hp => by
      obtain ⟨i, _, _, e⟩ := mem_pt hp
      rw [← e]; exact val_bd hb hc (h.isIn i)
    rw [← rng_min a _ (val b c (pt a 0)), isub_eq, wr_v (by omega)]; unfold rngOf; omega
  simp only [Option.bind_some, hp0, minF_map]
  rw [← vb A B hA hB, ← vb C D hC hD]
theorem iflat_l0 {L : Nat} {a : List Pt} {P : Pt} {gg x y A B : Int} {z : Int × Int} (hu : -20000 ≤ P.x ∧ P.x ≤ 20000) (hv : -20000 ≤ P.y ∧ P.y ≤ 20000) (hA : -20000 ≤ A ∧ A ≤ 20000) (hB : -20000 ≤ B ∧ B ≤ 20000) (hz : (-10000 ≤ z.1 ∧ z.1 ≤ 10000) ∧ (-20001 ≤ z.2 ∧ z.2 ≤ 20001)) (g : Good_ a) (hL : 200000 < L)
    (eA : wr IntKind.i64 (imul gg x) = A) (eB : wr IntKind.i64 (imul (wr IntKind.i64 (isub 0 gg)) y) = B) :
    ∀ (n m : Nat) (k : Int) (w : Int × Int), -2 ≤ k → k ≤ 3 → k + n = 3 → n < m → (-900000000 ≤ w.1 ∧ w.1 ≤ 900000000) → (-900000000 ≤ w.2 ∧ w.2 ≤ 900000000) →
      bestF A B P.x P.y n k w = z → impl_flatMove_l0 L a P P (gg, x, y) m k w.1 w.2 P.x P.y 0 0 = some (z.1, z.2, P.x, P.y, -(rngOf z.1 z.2 a).1, -(rngOf P.x P.y a).1) := by
  intro n
  induction n with
  | zero =>
    intro m k w k0 k1 hk hm hw1 hw2 hb
    obtain ⟨m, rfl⟩ : ∃ q, m = q + 1 := ⟨m - 1, by omega⟩
    simp only [bestF] at hb
    subst hb
    rw [impl_flatMove_l0]
    simp only [ile_eq, show ¬ k ≤ 2 by omega, decide_false, cond_false]
    exact moved_l1 g (by omega) (by omega) (by omega) (by omega) hL
  | succ n ih =>
    intro m k w k0 k1 hk hm hw1 hw2 hb
    obtain ⟨m, rfl⟩ : ∃ q, m = q + 1 := ⟨m - 1, by omega⟩
    obtain ⟨q1, q2⟩ := cand_bd hu hv hA hB k (by omega) (by omega)
    have m1 := mul_bd (x := k) (y := P.x) (A := 3) (B := 20000) (by omega) (by omega)
    have m2 := mul_bd (x := k) (y := P.y) (A := 3) (B := 20000) (by omega) (by omega)
    have fA : wr IntKind.i64 (iadd A (wr IntKind.i64 (imul k P.x))) = A + k * P.x := by
      rw [imul_eq, iadd_eq, wr_id (n := k * P.x) (by omega), wr_id (by omega)]
    have fB : wr IntKind.i64 (iadd B (wr IntKind.i64 (imul k P.y))) = B + k * P.y := by
      rw [imul_eq, iadd_eq, wr_id (n := k * P.y) (by omega), wr_id (by omega)]
    have wk : wr IntKind.i64 (iadd k 1) = k + 1 := by rw [iadd_eq, wr_s (by omega)]
    rw [impl_flatMove_l0]
    simp only [eA, eB, gbind_eq, Option.bind_some, ile_eq, show k ≤ 2 by omega, decide_true, cond_true, fA, fB, wk, (nearer_eq (L := L) (x := A + k * P.x) (y := w.1) (by omega) (by omega)).2, ieq_eq]
    rw [bestF] at hb
    by_cases h1 : nr (A + k * P.x) w.1
    · rw [if_pos (show bet (A + k * P.x, B + k * P.y) w from .inl h1)] at hb
      simp only [h1, decide_true, cond_true]
      exact ih m (k + 1) (A + k * P.x, B + k * P.y) (by omega) (by omega) (by omega) (by omega) q1 q2 hb
    · by_cases h2 : A + k * P.x = w.1
      · simp only [h1, decide_false, cond_false, decide_eq_true h2, cond_true, (nearer_eq (L := L) (x := B + k * P.y) (y := w.2) (by omega) (by omega)).2, Option.bind_some]
        by_cases h3 : nr (B + k * P.y) w.2
        · rw [if_pos (show bet (A + k * P.x, B + k * P.y) w from .inr ⟨h2, h3⟩)] at hb
          simp only [h3, decide_true, cond_true]
          exact ih m (k + 1) (A + k * P.x, B + k * P.y) (by omega) (by omega) (by omega) (by omega) q1 q2 hb
        · rw [if_neg (show ¬ bet (A + k * P.x, B + k * P.y) w from fun h => h.elim h1 fun h => h3 h.2)] at hb
          simp only [h3, decide_false, cond_false]
          exact ih m (k + 1) w (by omega) (by omega) (by omega) (by omega) hw1 hw2 hb
      · rw [if_neg (show ¬ bet (A + k * P.x, B + k * P.y) w from fun h => h.elim h1 fun h => h2 h.1)] at hb
        simp only [h1, decide_false, cond_false, decide_eq_false h2]
        exact ih m (k + 1) w (by omega) (by omega) (by omega) (by omega) hw1 hw2 hb
end Go.AM
namespace Go.AM
theorem told_bd2 {a : List Pt} {p : Pt} {t : Int} (g : Good_ a) (ht : 0 ≤ t ∧ t ≤ 100) (hp : p ∈ dirL a t) : (-20000 ≤ p.x ∧ p.x ≤ 20000) ∧ (-20000 ≤ p.y ∧ p.y ≤ 20000) := by
  have h := vw_of g ht
  unfold dirL at hp
  rw [allD_mem] at hp
  obtain ⟨s, s0, s1, u, u0, u1, e⟩ := hp
  have i0 := h.isIn 0
  have i1 := h.isIn 1
  have i2 := h.isIn 2
  unfold In at i0 i1 i2
  unfold dirOf at e
  split at e
  · cases e
    have m1 := mul_bd (x := s) (y := (pt a 2).y - (pt a 0).y) (A := 100) (B := 80) (by omega) (by omega)
    have m2 := mul_bd (x := u) (y := (pt a 1).y - (pt a 0).y) (A := 100) (B := 80) (by omega) (by omega)
    have m3 := mul_bd (x := u) (y := (pt a 1).x - (pt a 0).x) (A := 100) (B := 80) (by omega) (by omega)
    have m4 := mul_bd (x := s) (y := (pt a 2).x - (pt a 0).x) (A := 100) (B := 80) (by omega) (by omega)
    have b1 := tdiv_bd (a := s * ((pt a 2).y - (pt a 0).y) - u * ((pt a 1).y - (pt a 0).y)) (b := turn (pt a 0) (pt a 1) (pt a 2)) (A := 20000) (by omega)
    have b2 := tdiv_bd (a := u * ((pt a 1).x - (pt a 0).x) - s * ((pt a 2).x - (pt a 0).x)) (b := turn (pt a 0) (pt a 1) (pt a 2)) (A := 20000) (by omega)
    exact ⟨b1, b2⟩
  · cases e
theorem bez_sol1 {L : Nat} {u v : Int} (hx : -20000 ≤ u ∧ u ≤ 20000) (hy : -20000 ≤ v ∧ v ≤ 20000) (hg : Nat.gcd u.natAbs v.natAbs = 1) (hL : 40000 < L) :
    ∃ A B : Int, spec_mvFull L v (-u) = some (A, B) ∧ Sol u v (A, B) ∧ (-20000 ≤ A ∧ A ≤ 20000) ∧ (-20000 ≤ B ∧ B ≤ 20000) := by
  obtain ⟨g1, p1, q1, _, s1, e1, n1, bp, bq, _, _⟩ := bezoutw_eq (L := L) (a := v) (b := -u) (by omega) (by omega) hL
  rw [Int.natAbs_neg, Nat.gcd_comm, hg] at n1
  have bp' : -20000 ≤ p1 ∧ p1 ≤ 20000 := by clear bq e1 hg n1; omega
  have bq' : -20000 ≤ q1 ∧ q1 ≤ 20000 := by clear bp e1 hg n1; omega
  clear bp bq
  unfold Sol
  by_cases hg1 : g1 < 0
  · rw [if_pos hg1] at s1
    refine ⟨-p1, -q1, s1, ?_, by omega, by omega⟩
    simp only
    have : -p1 * v - -q1 * u = -(p1 * v + q1 * -u) := by grind
    rw [this, e1]; omega
  · rw [if_neg hg1] at s1
    refine ⟨p1, q1, s1, ?_, by omega, by omega⟩
    simp only
    have : p1 * v - q1 * u = p1 * v + q1 * -u := by grind
    rw [this, e1]; omega
theorem bez_sol2 {L : Nat} {u v : Int} (hx : -20000 ≤ u ∧ u ≤ 20000) (hy : -20000 ≤ v ∧ v ≤ 20000) (hg : Nat.gcd u.natAbs v.natAbs = 1) (hL : 40000 < L) :
    ∃ g p q A B : Int, impl_bezout L v u = some (g, p, q) ∧ wr IntKind.i64 (imul g p) = A ∧ wr IntKind.i64 (imul (wr IntKind.i64 (isub 0 g)) q) = B ∧ Sol u v (A, B) ∧ (-20000 ≤ A ∧ A ≤ 20000) ∧ (-20000 ≤ B ∧ B ≤ 20000) ∧
      ((A.natAbs : Int) ≤ 1 ∨ (A.natAbs : Int) ≤ u.natAbs) ∧ ((B.natAbs : Int) ≤ 1 ∨ (B.natAbs : Int) ≤ v.natAbs) := by
  obtain ⟨g, p, q, s2, _, e2, n2, bp, bq, _, _⟩ := bezoutw_eq (L := L) (a := v) (b := u) (by omega) (by omega) hL
  rw [Nat.gcd_comm, hg] at n2
  have bp' : -20000 ≤ p ∧ p ≤ 20000 := by clear bq e2 hg n2; omega
  have bq' : -20000 ≤ q ∧ q ≤ 20000 := by clear bp e2 hg n2; omega
  have hg2 : g = 1 ∨ g = -1 := by clear bp bq e2 hg; omega
  rcases hg2 with h | h
  · subst h
    refine ⟨1, p, q, p, -q, s2, ?_, ?_, ?_, bp', by clear bp bq e2 hg; omega, bp.imp (fun h => by exact_mod_cast h) id, by rw [Int.natAbs_neg]; exact bq.imp (fun h => by exact_mod_cast h) id⟩
    · rw [imul_eq, wr_v (by clear bp bq e2 hg; omega)]; omega
    · rw [isub_eq, wr_v (n := 0 - 1) (by omega), imul_eq, wr_v (by clear bp bq e2 hg; omega)]; omega
    · unfold Sol; simp only
      have : p * v - -q * u = p * v + q * u := by grind
      rw [this, e2]
  · subst h
    refine ⟨-1, p, q, -p, q, s2, ?_, ?_, ?_, by clear bp bq e2 hg; omega, bq', by rw [Int.natAbs_neg]; exact bp.imp (fun h => by exact_mod_cast h) id, bq.imp (fun h => by exact_mod_cast h) id⟩
    · rw [imul_eq, wr_v (by clear bp bq e2 hg; omega)]; omega
    · rw [isub_eq, wr_v (n := 0 - -1) (by omega), imul_eq, wr_v (by clear bp bq e2 hg; omega)]; omega
    · unfold Sol; simp only
      have : -p * v - q * u = -(p * v + q * u) := by grind
      rw [this, e2]; rfl
theorem flatMoves0 {L : Nat} {a : List Pt} {P : Pt} (g : Good_ a) (hL : 300000 < L) (hx : -20000 ≤ P.x ∧ P.x ≤ 20000) (hy : -20000 ≤ P.y ∧ P.y ≤ 20000) (hg : Nat.gcd P.x.natAbs P.y.natAbs = 1) (hu : 0 < P.x ∨ (P.x = 0 ∧ P.y = 1)) :
    ∃ (A B gg p q A2 B2 : Int) (z : Int × Int), spec_mvFull L P.y (-P.x) = some (A, B) ∧ (-20000 ≤ A ∧ A ≤ 20000) ∧ (-20000 ≤ B ∧ B ≤ 20000) ∧ ((-10000 ≤ z.1 ∧ z.1 ≤ 10000) ∧ (-20001 ≤ z.2 ∧ z.2 ≤ 20001)) ∧
      spec_wiFlat_l0 L a P.x P.y (A, B) L (-((A.natAbs : Int) + B.natAbs) - 1) A B 0 0 0 0 = some (z.1, z.2, P.x, P.y, -(rngOf z.1 z.2 a).1, -(rngOf P.x P.y a).1) ∧
      impl_bezout L P.y P.x = some (gg, p, q) ∧ wr IntKind.i64 (imul gg p) = A2 ∧ wr IntKind.i64 (imul (wr IntKind.i64 (isub 0 gg)) q) = B2 ∧
      impl_flatMove_l0 L a P P (gg, p, q) L (-2) A2 B2 P.x P.y 0 0 = some (z.1, z.2, P.x, P.y, -(rngOf z.1 z.2 a).1, -(rngOf P.x P.y a).1) ∧ Sol P.x P.y z := by
  obtain ⟨A, B, s1, o1, bA, bB⟩ := bez_sol1 (L := L) hx hy hg (by omega)
  obtain ⟨gg, p, q, A2, B2, s2, wA, wB, o2, bA2, bB2, cA, cB⟩ := bez_sol2 (L := L) hx hy hg (by omega)
  obtain ⟨z, hz⟩ := bst_ex o1 hu
  have hzb := sol_snd hz hu hy hx.2
  obtain ⟨k1, z1, ka, kb, _⟩ := bst_at hz o1 hu
  obtain ⟨k2, z2, _, _, kc⟩ := bst_at hz o2 hu
  have kc1 : -2 ≤ k2 ∧ k2 ≤ 2 := kc (by
    clear kc ka kb hg cB bA bB z1 z2
    rcases hu with h | ⟨h, _⟩
    · rcases cA with c | c
      · exact .inl c
      · right; simp only; omega
    · rcases cA with c | c
      · exact .inl c
      · left; simp only; omega) (by
    clear kc ka kb hg cA bA bB z1 z2
    rcases hu with h | ⟨_, h⟩
    · exact .inr h
    · left; simp only; rw [h] at cB; omega)
  clear kc cA cB hg
  refine ⟨A, B, gg, p, q, A2, B2, z, s1, bA, bB, hzb, ?_, s2, wA, wB, ?_, hz.1⟩
  · have b1 := bestF_eq hz o1 z1 (2 * (A.natAbs + B.natAbs) + 3) (-((A.natAbs : Int) + B.natAbs) - 1) (A, B) o1 (by simp only at ka; omega) (by simp only at kb; omega)
    clear hz z1 z2 ka kb o1 o2 hu wA wB s1 s2 kc1
    exact flat_l0 (L := L) hx hy bA bB hzb g (by omega) (2 * (A.natAbs + B.natAbs) + 3) L (-((A.natAbs : Int) + B.natAbs) - 1) (A, B) 0 0 0 0 (by omega) (by omega) (by omega) (by omega) (by simp only; omega) (by simp only; omega) (fun j h0 h1 => cand_bd hx hy bA bB j h0 h1) b1
  · have b2 := bestF_eq hz o2 z2 5 (-2) (A2, B2) o2 (by omega) (by omega)
    clear hz z1 z2 ka kb o1 o2 hu s1 s2 kc1
    exact iflat_l0 (L := L) hx hy bA2 bB2 hzb g (by omega) wA wB 5 L (-2) (A2, B2) (by omega) (by omega) (by omega) (by omega) (by simp only; omega) (by simp only; omega) b2
theorem flatMoves {L : Nat} {a : List Pt} (g : Good_ a) (hL : 300000 < L) : ∃ A B C D X Y : Int, spec_wiFlat L a = some (A, B, C, D, X, Y) ∧ impl_flatMove L a = some (A, B, C, D, X, Y) ∧ Wi X ∧ Wi Y ∧ ((⟨C, D⟩ : Pt) = pt (isort (dirL a (leastW a))) 0 ∧ A * D - B * C = 1 ∧ X = -(rngOf A B a).1 ∧ Y = -(rngOf C D a).1) := by
  obtain ⟨h1, h2, h3⟩ := leastW_spec g
  have hne : isort (dirL a (leastW a)) ≠ [] := fun e => h2 (by have := isort_len (dirL a (leastW a)); rw [e] at this; exact List.eq_nil_of_length_eq_zero this.symm)
  have hpos : 0 < ((isort (dirL a (leastW a))).length : Int) := by have := List.length_pos_iff.2 hne; omega
  have hm : pt (isort (dirL a (leastW a))) 0 ∈ dirL a (leastW a) := isort_mem.1 (pt_mem hne 0)
  have hl0 : lget (isort (dirL a (leastW a))) 0 = some (pt (isort (dirL a (leastW a))) 0) := lget_pt (Int.le_refl 0) hpos
  have hr0 : lget ((isort (dirL a (leastW a))).map row) 0 = some (row (pt (isort (dirL a (leastW a))) 0)) := lget_row (Int.le_refl 0) hpos
  obtain ⟨hx, hy⟩ := told_bd2 g (by omega) hm
  obtain ⟨⟨hg, hd⟩, _⟩ := (dirL_mem g (by omega)).1 hm
  generalize pt (isort (dirL a (leastW a))) 0 = P at *
  have hu : 0 < P.x ∨ (P.x = 0 ∧ P.y = 1) := by
    rcases hd with h | ⟨h, h'⟩
    · exact .inl h
    · right
      refine ⟨h, ?_⟩
      rw [h] at hg
      simp at hg
      omega
  obtain ⟨A, B, gg, p, q, A2, B2, z, s1, bA, bB, hzb, r1, s2, wA, wB, r2, hsol⟩ := flatMoves0 (L := L) (P := P) g hL hx hy hg hu
  clear hg hu hd
  have hV := vw_of g (t := 0) (by omega)
  have vb : ∀ b c : Int, (-100000 ≤ b ∧ b ≤ 100000) → (-100000 ≤ c ∧ c ≤ 100000) → Wi (-(rngOf b c a).1) := fun b c hb hc => by
    have v0 := val_bd hb hc (hV.isIn 0)
    have bd := rng_bd (f := val b c) (A := -8000000) (B := 8000000) a (val b c (pt a 0)) (val b c (pt a 0)) v0 v0 fun p hp => by
      obtain ⟨i, _, _, e⟩ := mem_pt hp
      rw [← e]; exact val_bd hb hc (hV.isIn i)
    unfold Wi rngOf; clear v0 hzb bA bB hx hy hV; omega
  refine ⟨z.1, z.2, P.x, P.y, _, _, ?_, ?_, vb z.1 z.2 (by clear hsol; omega) (by clear hsol; omega), vb P.x P.y (by clear hsol; omega) (by clear hsol; omega), rfl, hsol, rfl, rfl⟩
  · unfold spec_wiFlat
    have w0 : wr IntKind.i64 (isub 0 P.x) = -P.x := by rw [isub_eq, wr_s (by omega)]; omega
    have wk : wr IntKind.i64 (isub (wr IntKind.i64 (isub (wr IntKind.i64 (isub 0 (A.natAbs : Int))) (B.natAbs : Int))) 1) = -((A.natAbs : Int) + B.natAbs) - 1 := by
      rw [isub_eq, isub_eq, isub_eq, wr_s (i := 0 - (A.natAbs : Int)) (by omega), wr_s (i := 0 - (A.natAbs : Int) - B.natAbs) (by omega), wr_s (by omega)]; omega
    simp only [wiLeast_eq g (show 200000 < L by omega), gbind_eq, Option.bind_some, hr0, row_get0, row_get1, w0, s1, spec_l1Abs_eq (L := L) (n := A) (by omega), spec_l1Abs_eq (L := L) (n := B) (by omega), wk]
    exact r1
  · unfold impl_flatMove
    simp only [impl_least_val g (show 200000 < L by omega), gbind_eq, Option.bind_some, ilen_mapep, ile_eq, ilt_eq, Int.le_refl, hpos, decide_true, Bool.and_self, cond_true, hl0, s2, wA, wB]
    exact r2
theorem flatMove_eq {L : Nat} {a : List Pt} (hL : 300000 < L) : ∃ r, spec_FlatMove L a = some r ∧ impl_FlatMove L a = some r ∧ (r.2.2.2.2.2.2 = true → Good_ a ∧ MvG r.1 r.2.1 r.2.2.1 r.2.2.2.1 r.2.2.2.2.1 r.2.2.2.2.2.1) := by
  unfold spec_FlatMove impl_FlatMove
  rw [spec_pgGood_eq (by omega), impl_IsPolygon_eq (by omega)]
  simp only [gbind_eq, Option.bind_some]
  by_cases g : Good_ a
  · obtain ⟨A, B, C, D, X, Y, e1, e2, hX, hY, _⟩ := flatMoves g hL
    simp only [g, decide_true, Bool.not_true, cond_false, e1, e2, Option.bind_some]
    unfold spec_mvIf impl_checkedMove
    simp only [spec_mvGood_eq (L := L) (show 10 < L by omega), impl_IsMove_eq (L := L) hX hY (show 10 < L by omega), gbind_eq, Option.bind_some]
    by_cases hm : MvG A B C D X Y
    · simp only [hm, decide_true, Bool.not_true, cond_false, Option.bind_some]
      exact ⟨_, rfl, rfl, fun _ => ⟨trivial, hm⟩⟩
    · simp only [hm, decide_false, Bool.not_false, cond_true, Option.bind_some]
      exact ⟨_, rfl, rfl, fun h => by cases h⟩
  · simp only [g, decide_false, Bool.not_false, cond_true]
    exact ⟨_, rfl, rfl, fun h => by cases h⟩
end Go.AM
namespace Go.AM
def mvP (A B C D X Y : Int) (p : Pt) : Pt := ⟨val A B p + X, val C D p + Y⟩
theorem mvP_bd {A B C D X Y : Int} {p : Pt} (hm : MvG A B C D X Y) (hp : In p) : (-1600 ≤ val A B p ∧ val A B p ≤ 1600) ∧ (-1600 ≤ val C D p ∧ val C D p ≤ 1600) ∧ (-2000 ≤ val A B p + X ∧ val A B p + X ≤ 2000) ∧ (-2000 ≤ val C D p + Y ∧ val C D p + Y ≤ 2000) := by
  obtain ⟨⟨a, b, c, d⟩, ⟨x, y⟩, _⟩ := hm
  unfold Bd20 at a b c d
  unfold Bd80 at x y
  have m1 := mul_bd (x := A) (y := p.x) (A := 20) (B := 40) a hp.1
  have m2 := mul_bd (x := B) (y := p.y) (A := 20) (B := 40) b hp.2
  have m3 := mul_bd (x := C) (y := p.x) (A := 20) (B := 40) c hp.1
  have m4 := mul_bd (x := D) (y := p.y) (A := 20) (B := 40) d hp.2
  unfold val; omega
theorem map_pt {a : List Pt} (H : Pt → Pt) : ((List.range a.length).map fun (j : Nat) => H (pt a j)) = a.map H := by
  refine List.ext_getElem (by simp) fun i h1 h2 => ?_
  simp only [List.getElem_map, List.getElem_range]
  have hi : i < a.length := by simpa using h1
  have e := pt_get (a := a) (i := (i : Int)) (by omega) (by omega)
  rw [Int.toNat_natCast, List.getElem?_eq_getElem hi] at e
  rw [Option.some.inj e]
theorem mv_wr {A B C D X Y : Int} {p : Pt} (hm : MvG A B C D X Y) (hp : In p) : wr IntKind.i64 (iadd (wr IntKind.i64 (iadd (wr IntKind.i64 (imul A p.x)) (wr IntKind.i64 (imul B p.y)))) X) = (mvP A B C D X Y p).x ∧ wr IntKind.i64 (iadd (wr IntKind.i64 (iadd (wr IntKind.i64 (imul C p.x)) (wr IntKind.i64 (imul D p.y)))) Y) = (mvP A B C D X Y p).y := by
  obtain ⟨b1, b2, b3, b4⟩ := mvP_bd hm hp
  obtain ⟨⟨a, b, c, d⟩, ⟨x, y⟩, _⟩ := hm
  unfold Bd20 at a b c d
  have e1 := val_wr (p := p) (b := A) (c := B) (by omega) (by omega) hp
  have e2 := val_wr (p := p) (b := C) (c := D) (by omega) (by omega) hp
  rw [e1, e2, iadd_eq, iadd_eq, wr_s (by omega), wr_s (by omega)]
  exact ⟨rfl, rfl⟩
theorem pgMap_l0 {L : Nat} {a : List Pt} {A B C D X Y : Int} (hm : MvG A B C D X Y) (hin : ∀ i, In (pt a i)) (hs : (a.length : Int) ≤ 1000) : ∀ (m i : Nat), i ≤ a.length → a.length - i < m →
    ((∃ j : Int, (i : Int) ≤ j ∧ j < a.length ∧ ¬ In (mvP A B C D X Y (pt a j))) → spec_pgMap_l0 L a A B C D X Y m i ((a.take i).map (mvP A B C D X Y)) = some ([], false)) ∧
    ((∀ j : Int, (i : Int) ≤ j → j < a.length → In (mvP A B C D X Y (pt a j))) → spec_pgMap_l0 L a A B C D X Y m i ((a.take i).map (mvP A B C D X Y)) = some (a.map (mvP A B C D X Y), true)) := by
  intro m
  induction m with
  | zero => intro i _ h; omega
  | succ m ih =>
    intro i hi hm'
    rw [spec_pgMap_l0]
    by_cases h : (i : Int) < (a.length : Int)
    · have hlt : i < a.length := by omega
      have wi : wr IntKind.i64 (iadd (i : Int) 1) = ((i + 1 : Nat) : Int) := by rw [iadd_eq, wr_s (by omega)]; omega
      obtain ⟨e1, e2⟩ := mv_wr hm (hin i)
      obtain ⟨k1, k2⟩ := ih (i + 1) (by omega) (by omega)
      rw [take_pt hlt, List.map_append] at k1 k2
      simp only [ilen_mapep, ilt_eq, h, decide_true, cond_true, lget_pt (show (0 : Int) ≤ i by omega) h, gbind_eq, Option.bind_some, e1, e2]
      by_cases hI : In (mvP A B C D X Y (pt a i))
      · rw [spec_pgIs_eq.1 hI]
        have hf : fits (iadd ((List.map (mvP A B C D X Y) (List.take i a)).length : Int) (ilen [AV.agg [AV.int IntKind.i64 (mvP A B C D X Y (pt a i)).x, AV.int IntKind.i64 (mvP A B C D X Y (pt a i)).y]])) 16 = true := by
          rw [ilen_eq, iadd_eq]; exact fits_s (by simp; omega)
        simp only [Option.bind_some, Bool.not_true, cond_false, hf, cond_true, wi, lcat_eq]
        refine ⟨fun ⟨j, j0, j1, j2⟩ => k1 ⟨j, ?_, j1, j2⟩, fun hh => k2 fun j j0 j1 => hh j (by omega) j1⟩
        by_cases e : j = i
        · subst e; exact absurd hI j2
        · omega
      · rw [spec_pgIs_eq.2 hI]
        simp only [Option.bind_some, Bool.not_false, cond_true]
        exact ⟨fun _ => trivial, fun hh => absurd (hh i (Int.le_refl _) h) hI⟩
    · simp only [ilen_mapep, ilt_eq, h, decide_false, cond_false]
      refine ⟨fun ⟨j, j0, j1, _⟩ => by omega, fun _ => ?_⟩
      rw [List.take_of_length_le (by omega)]
theorem map_both {L : Nat} {a : List Pt} {A B C D X Y : Int} (hm : MvG A B C D X Y) (g : Good_ a) (hL : 300000 < L) :
    ∃ r, spec_pgMap L a A B C D X Y = some r ∧ impl_changed_impl_Move_bring L a A B C D X Y = some r ∧ (r.1.length : Int) ≤ 10 ∧ (r.2 = true → r.1 = a.map (mvP A B C D X Y) ∧ ∀ i, In (mvP A B C D X Y (pt a i))) := by
  have h := vw_of g (t := 0) (by omega)
  have hlen := h.len
  have hi := g.hi
  have hlo := g.lo
  obtain ⟨k1, k2⟩ := pgMap_l0 (L := L) hm h.isIn (by omega) L 0 (by omega) (by omega)
  unfold spec_pgMap impl_changed_impl_Move_bring
  rw [impl_IsPolygon_eq (by omega)]
  obtain ⟨⟨bA, bB, bC, bD⟩, ⟨bX, bY⟩, _⟩ := id hm
  unfold Bd20 at bA bB bC bD
  unfold Bd80 at bX bY
  have := idxLoop (f := impl_changed_impl_Move_bring_l0 L a A B C D X Y) (H := fun i => mvP A B C D X Y (pt a i)) (n := a.length) (K := fun w => (impl_arePegs L w).bind fun r2 => bif !r2 then some ([], false) else some (w, true)) (fun m w => by
    simp only [impl_changed_impl_Move_bring_l0, ilt_eq, ilen_mapep, Int.lt_irrefl, decide_false, cond_false, gbind_eq]) (fun m v w h0 h1 hw => by
    have hb := bring_val (L := L) (a := a) (A := A) (B := B) (C := C) (D := D) (X := X) (Y := Y) (h.isIn v) (by omega) (by omega) (by omega) (by omega) (by omega) (by omega)
    simp only [impl_changed_impl_Move_bring_l0, ilt_eq, ilen_mapep, h1, decide_true, cond_true, gbind_eq, lget_pt h0 h1, Option.bind_some, hb, iadd_eq, wr_s (i := v + 1) (by omega), lcat_eq]
    simp only [ilen_eq, List.length_cons, List.length_nil, fits_s (n := (w.length : Int) + ((0 + 1 : Nat) : Int)) (b := 16) (by omega), cond_true]
    rfl) L 0 (by omega) (by omega)
  have this' : impl_changed_impl_Move_bring_l0 L a A B C D X Y L 0 [] = (impl_arePegs L ((List.range a.length).map fun (j : Nat) => mvP A B C D X Y (pt a j))).bind fun r2 => bif !r2 then some ([], false) else some (((List.range a.length).map fun (j : Nat) => mvP A B C D X Y (pt a j)), true) := this
  rw [map_pt (mvP A B C D X Y)] at this'
  simp only [g, decide_true, gbind_eq, Option.bind_some, Bool.not_true, cond_false, this']
  have hpm : ∀ i, pt (a.map (mvP A B C D X Y)) i = mvP A B C D X Y (pt a i) := fun i => by
    have hl0 : 0 < (a.length : Int) := by omega
    have h0 := Int.emod_nonneg i (show (a.length : Int) ≠ 0 by omega)
    have h1 := Int.emod_lt_of_pos i hl0
    have h2 : (i % (a.length : Int)).toNat < a.length := by omega
    unfold pt
    simp [h2]
  obtain ⟨p1, p2⟩ := arePegs_eq (L := L) (a := a.map (mvP A B C D X Y)) (by simp; omega) (by simp; omega)
  by_cases hI : ∃ i : Int, 0 ≤ i ∧ i < (a.length : Int) ∧ ¬ In (mvP A B C D X Y (pt a i))
  · rw [p1 (by obtain ⟨i, i0, i1, i2⟩ := hI; exact ⟨i, i0, by simpa using i1, by rw [hpm]; exact i2⟩)]
    simp only [Option.bind_some, Bool.not_false, cond_true]
    obtain ⟨i, i0, i1, i2⟩ := hI
    exact ⟨_, k1 ⟨i, by omega, i1, i2⟩, rfl, by simp, fun h => by cases h⟩
  · have hI' : ∀ i : Int, 0 ≤ i → i < (a.length : Int) → In (mvP A B C D X Y (pt a i)) := fun i i0 i1 => Classical.byContradiction fun e => hI ⟨i, i0, i1, e⟩
    rw [p2 (fun i i0 i1 => by rw [hpm]; exact hI' i i0 (by simpa using i1))]
    simp only [Option.bind_some, Bool.not_true, cond_false]
    refine ⟨_, k2 fun j j0 j1 => hI' j (by omega) j1, rfl, by simp; omega, fun _ => ⟨rfl, fun i => ?_⟩⟩
    have := hI' (i % a.length) (Int.emod_nonneg _ (by omega)) (Int.emod_lt_of_pos _ (by omega))
    rwa [pt_mod] at this
end Go.AM
namespace Go.AM
structure Fr (a : List Pt) (A B C D g b d : Int) : Prop where
  e1 : brg A B C D (pt a 0) (pt a 1) = ⟨g, 0⟩
  e2 : brg A B C D (pt a 0) (pt a 2) = ⟨b, d⟩
  g0 : 0 < g
  b0 : 0 ≤ b
  bd : b < d
  gg : g = step (pt a 0) (pt a 1)
  det : A * D - B * C = 1 ∨ A * D - B * C = -1
  bA : -60000000000 ≤ A ∧ A ≤ 60000000000
  bB : -60000000000 ≤ B ∧ B ≤ 60000000000
  bC : -2000 ≤ C ∧ C ≤ 2000
  bD : -2000 ≤ D ∧ D ≤ 2000
theorem shear_eq {tx ty : Int} (hty : 0 < ty) (bx : -17000000 ≤ tx ∧ tx ≤ 17000000) (by_ : ty ≤ 9000000) :
    ∃ b K : Int, wr .i64 (iquo (wr .i64 (isub (irem (wr .i64 (iadd (irem tx ty) ty)) ty) tx)) ty) = K ∧ 0 ≤ b ∧ b < ty ∧ tx + K * ty = b ∧ (-27000000 ≤ K ∧ K ≤ 27000000) := by
  have h1 : -ty < tx.tmod ty ∧ tx.tmod ty < ty := by
    have := Int.tmod_lt_of_pos tx hty
    have h2 := Int.natAbs_tmod tx ty
    have h3 := Nat.mod_lt tx.natAbs (show 0 < ty.natAbs by omega)
    omega
  have h2 : (tx.tmod ty + ty).tmod ty = tx % ty := by
    rw [Int.tmod_eq_emod_of_nonneg (by omega), Int.add_emod_right]
    conv => rhs; rw [← Int.tmod_add_mul_tdiv tx ty, Int.add_mul_emod_self_left]
  have h3 := Int.emod_nonneg tx (show ty ≠ 0 by omega)
  have h4 := Int.emod_lt_of_pos tx hty
  have h5 := Int.mul_ediv_add_emod tx ty
  have h6 : (tx % ty - tx).tdiv ty = -(tx / ty) := by
    have : tx % ty - tx = -(tx / ty) * ty := by rw [Int.neg_mul, Int.mul_comm]; omega
    rw [this, Int.mul_tdiv_cancel _ (by omega)]
  have h7 : -17000000 ≤ tx / ty ∧ tx / ty ≤ 17000000 := by
    constructor
    · have := Int.ediv_le_ediv hty bx.1
      have h8 : -17000000 ≤ (-17000000 : Int) / ty := by
        rw [Int.le_ediv_iff_mul_le hty]; omega
      omega
    · have := Int.ediv_le_ediv hty bx.2
      have h8 : (17000000 : Int) / ty ≤ 17000000 := Int.ediv_le_self _ (by omega)
      omega
  refine ⟨tx % ty, -(tx / ty), ?_, h3, h4, ?_, by omega⟩
  · simp only [irem_eq, iadd_eq, isub_eq, iquo_eq]
    rw [wr_id (n := tx.tmod ty + ty) (by omega), h2, wr_id (n := tx % ty - tx) (by omega), h6, wr_id (by omega)]
  · rw [Int.neg_mul, Int.mul_comm]; omega
theorem exact_div {G z : Int} (hG : 0 < G) (h : G ∣ z) : z.tdiv G * G = z := Int.tdiv_mul_cancel h
theorem frame_eq {L : Nat} {a : List Pt} (hn : 3 ≤ (a.length : Int)) (hs : (a.length : Int) ≤ 1000) (hin : ∀ i, Nr (pt a i)) (ht : turn (pt a 0) (pt a 1) (pt a 2) ≠ 0) (hL : 5000 < L) :
    ∃ A B C D g b d, spec_mvFrame L a = some (a.map (brg A B C D (pt a 0))) ∧ impl_frame L a = some (a.map (brg A B C D (pt a 0))) ∧ Fr a A B C D g b d := by
  have l0 := lget_pt (a := a) (i := 0) (by omega) (by omega)
  have l1 := lget_pt (a := a) (i := 1) (by omega) (by omega)
  have l2 := lget_pt (a := a) (i := 2) (by omega) (by omega)
  have n0 := hin 0; have n1 := hin 1; have n2 := hin 2
  have s1 := sub_bd n1 n0
  have s2 := sub_bd n2 n0
  have hst : pt a 0 ≠ pt a 1 := fun e => ht (by rw [e]; unfold turn; grind)
  have hG := step_pos hst
  have hstd := step_dvd (pt a 0) (pt a 1)
  have hsb := step_bd n0 n1
  obtain ⟨gz, p, q, hb1, hb2, hb3, hb4, hb5, hb6⟩ := bezout_eq (L := L) (a := (pt a 1).x - (pt a 0).x) (b := (pt a 1).y - (pt a 0).y) (by omega) (by omega) (by omega)
  have hGz : (gz.natAbs : Int) = step (pt a 0) (pt a 1) := by
    rw [hb4]; unfold step
    rw [show ((pt a 1).x - (pt a 0).x).natAbs = ((pt a 0).x - (pt a 1).x).natAbs by omega, show ((pt a 1).y - (pt a 0).y).natAbs = ((pt a 0).y - (pt a 1).y).natAbs by omega]
  generalize hGd : step (pt a 0) (pt a 1) = G at *
  generalize hX : (pt a 1).x - (pt a 0).x = X at *
  generalize hY : (pt a 1).y - (pt a 0).y = Y at *
  generalize hWx : (pt a 2).x - (pt a 0).x = wx at *
  generalize hWy : (pt a 2).y - (pt a 0).y = wy at *
  have hturn : turn (pt a 0) (pt a 1) (pt a 2) = X * wy - Y * wx := by unfold turn; rw [hX, hY, hWx, hWy]
  have dX : X.tdiv G * G = X := exact_div hG hstd.1
  have dY : (-Y).tdiv G * G = -Y := exact_div hG (Int.dvd_neg.2 hstd.2)
  have bX : -2000 ≤ X.tdiv G ∧ X.tdiv G ≤ 2000 := tdiv_bd (A := 2000) (by omega)
  have bY : -2000 ≤ (-Y).tdiv G ∧ (-Y).tdiv G ≤ 2000 := tdiv_bd (A := 2000) (by omega)
  generalize hd0 : X.tdiv G = d0 at *
  generalize hc0 : (-Y).tdiv G = c0 at *
  obtain ⟨u, v, huv, hspec, hu, hv⟩ : ∃ u v : Int, u * X + v * Y = G ∧ (if gz < 0 then (-p, -q) else (p, q)) = (u, v) ∧ (-4000 ≤ u ∧ u ≤ 4000) ∧ (-4000 ≤ v ∧ v ≤ 4000) := by
    by_cases hneg : gz < 0
    · refine ⟨-p, -q, ?_, by simp [hneg], by omega, by omega⟩
      have : -p * X + -q * Y = -gz := by rw [← hb3]; grind
      omega
    · exact ⟨p, q, by omega, by simp [hneg], hb5, hb6⟩
  rw [hspec] at hb2
  have m1 := mul_bd hu s2.1; have m2 := mul_bd hv s2.2; have m3 := mul_bd bY s2.1; have m4 := mul_bd bX s2.2
  have hT3 : G * (c0 * wx + d0 * wy) = X * wy - Y * wx := by grind
  have hty0 : c0 * wx + d0 * wy ≠ 0 := fun e => ht (by rw [hturn, ← hT3, e]; simp)
  have hdet : u * d0 - v * c0 = 1 := by
    have : G * (u * d0 - v * c0) = G * 1 := by grind
    exact Int.eq_of_mul_eq_mul_left (by omega) this
  generalize htx : u * wx + v * wy = tx at *
  generalize htyd : c0 * wx + d0 * wy = ty at *
  have fin : ∀ (C D t K b : Int), ((C = c0 ∧ D = d0 ∧ t = ty) ∨ (C = -c0 ∧ D = -d0 ∧ t = -ty)) → 0 < t → 0 ≤ b → b < t → tx + K * t = b → (-27000000 ≤ K ∧ K ≤ 27000000) →
      Fr a (u + K * C) (v + K * D) C D G b t ∧ (-54000000000 ≤ K * C ∧ K * C ≤ 54000000000) ∧ (-54000000000 ≤ K * D ∧ K * D ≤ 54000000000) := by
    intro C D t K b hCD ht0 hb0 hbt hK bK
    have bC : -2000 ≤ C ∧ C ≤ 2000 := by omega
    have bD : -2000 ≤ D ∧ D ≤ 2000 := by omega
    have k1 := mul_bd bK bC; have k2 := mul_bd bK bD
    have q1 : C * X + D * Y = 0 := by
      have z : c0 * X + d0 * Y = 0 := by
        have : G * (c0 * X + d0 * Y) = 0 := by grind
        rcases Int.mul_eq_zero.1 this with h | h
        · omega
        · exact h
      rcases hCD with ⟨rfl, rfl, _⟩ | ⟨rfl, rfl, _⟩
      · exact z
      · rw [Int.neg_mul, Int.neg_mul]; omega
    have q2 : C * wx + D * wy = t := by
      rcases hCD with ⟨rfl, rfl, rfl⟩ | ⟨rfl, rfl, rfl⟩
      · exact htyd
      · rw [Int.neg_mul, Int.neg_mul]; omega
    refine ⟨⟨?_, ?_, hG, hb0, hbt, hGd.symm, ?_, by omega, by omega, bC, bD⟩, by omega, by omega⟩
    · unfold brg; rw [hX, hY]
      congr 1
      have : (u + K * C) * X + (v + K * D) * Y = u * X + v * Y + K * (C * X + D * Y) := by grind
      rw [this, q1, huv]; omega
    · unfold brg; rw [hWx, hWy]
      congr 1
      have : (u + K * C) * wx + (v + K * D) * wy = u * wx + v * wy + K * (C * wx + D * wy) := by grind
      rw [this, q2, htx, hK]
    · have : (u + K * C) * D - (v + K * D) * C = u * D - v * C := by grind
      rw [this]
      rcases hCD with ⟨rfl, rfl, _⟩ | ⟨rfl, rfl, _⟩
      · exact .inl hdet
      · right; rw [Int.mul_neg, Int.mul_neg]; omega
  have wY : wr IntKind.i64 (isub 0 (wr IntKind.i64 (isub (pt a 1).y (pt a 0).y))) = -Y := by
    simp only [isub_eq]; rw [hY, wr_id (n := Y) (by omega), wr_id (n := 0 - Y) (by omega)]; omega
  have wX : wr IntKind.i64 (isub (pt a 1).x (pt a 0).x) = X := by simp only [isub_eq]; rw [hX, wr_id (by omega)]
  have wY1 : wr IntKind.i64 (isub (pt a 1).y (pt a 0).y) = Y := by simp only [isub_eq]; rw [hY, wr_id (by omega)]
  have wWx : wr IntKind.i64 (isub (pt a 2).x (pt a 0).x) = wx := by simp only [isub_eq]; rw [hWx, wr_id (by omega)]
  have wWy : wr IntKind.i64 (isub (pt a 2).y (pt a 0).y) = wy := by simp only [isub_eq]; rw [hWy, wr_id (by omega)]
  have wc : wr IntKind.i64 (iquo (-Y) G) = c0 := by simp only [iquo_eq]; rw [hc0, wr_id (by omega)]
  have wd : wr IntKind.i64 (iquo X G) = d0 := by simp only [iquo_eq]; rw [hd0, wr_id (by omega)]
  have wneg : ∀ z : Int, -100000000 ≤ z ∧ z ≤ 100000000 → wr IntKind.i64 (isub 0 z) = -z := fun z hz => by simp only [isub_eq]; rw [wr_id (by omega)]; omega
  have hpeg : spec_mvPeg L u v c0 d0 0 0 wx wy = some (tx, ty) := by
    rw [spec_mvPeg_eq (by omega) (by omega) (by omega) (by omega) (by omega) (by omega) (by omega) (by omega), Int.add_zero, Int.add_zero, htx, htyd]
  have hcom : spec_pgCommon L X Y = some G := by
    have := spec_pgStep_eq (L := L) (p := pt a 1) (q := pt a 0) n1 n0 (by omega)
    unfold spec_pgStep at this
    simp only [isub_eq, gbind_eq] at this
    rw [hX, hY, wr_id (n := X) (by omega), wr_id (n := Y) (by omega)] at this
    cases hc : spec_pgCommon L X Y with
    | none => rw [hc] at this; cases this
    | some z =>
      rw [hc] at this
      simp only [Option.bind_some, Option.some.injEq] at this
      rw [this, ← hGd]
      unfold step
      congr 1
      rw [show ((pt a 1).x - (pt a 0).x).natAbs = ((pt a 0).x - (pt a 1).x).natAbs by omega, show ((pt a 1).y - (pt a 0).y).natAbs = ((pt a 0).y - (pt a 1).y).natAbs by omega]
  have w40 : wr IntKind.i64 (isub 0 Y) = -Y := wneg Y (by omega)
  have hG0 : decide (G = 0) = false := by simp; omega
  have hfit : fits (a.length : Int) 16 = true := fits_s (by omega)
  have hz0 : lrep 0 (⟨0, 0⟩ : Pt) = [] := by simp [lrep_eq]
  have hle0 : (a.length : Int) < L := by omega
  have wu : ∀ z : Int, -4000 ≤ z ∧ z ≤ 4000 → wr IntKind.i64 (isub 0 z) = -z := fun z hz => wneg z (by omega)
  rcases Int.lt_or_gt_of_ne hty0 with hneg | hpos
  · obtain ⟨b, K, hKe, hb0, hbt, hK, bK⟩ := shear_eq (tx := tx) (ty := -ty) (by omega) (by omega) (by omega)
    obtain ⟨fr, k1, k2⟩ := fin (-c0) (-d0) (-ty) K b (.inr ⟨rfl, rfl, rfl⟩) (by omega) hb0 hbt hK bK
    have wty := wneg ty (by omega)
    have wA : wr IntKind.i64 (iadd u (wr IntKind.i64 (imul K (-c0)))) = u + K * -c0 := by
      simp only [iadd_eq, imul_eq]; rw [wr_id (n := K * -c0) (by omega), wr_id (by omega)]
    have wB : wr IntKind.i64 (iadd v (wr IntKind.i64 (imul K (-d0)))) = v + K * -d0 := by
      simp only [iadd_eq, imul_eq]; rw [wr_id (n := K * -d0) (by omega), wr_id (by omega)]
    have hlt : decide (ty < 0) = true := by simp [hneg]
    have hny : decide (-ty = 0) = false := by simp; omega
    refine ⟨_, _, _, _, _, _, _, ?_, ?_, fr⟩
    · unfold spec_mvFrame
      simp only [l0, l1, l2, gbind_eq, Option.bind_some, wX, wY1, w40, hcom, hb2, wc, wd, wWx, wWy, hpeg, ieq_eq, ilt_eq, hG0, cond_false, hlt, cond_true, wty, hny]
      exact spec_mvFrame_l0_eq (r := G) (r1 := (u, v)) (r2 := (tx, ty)) (A := u + K * -c0) (B := v + K * -d0) (C := -c0) (D := -d0) (K := K) hin n0 hs (by rw [wY, wc]; exact wneg c0 (by omega)) (by rw [wX, wd]; exact wneg d0 (by omega)) (by simp only [wty]; exact hKe) wA wB (by omega) (by omega) (by omega) (by omega) hle0
    · unfold impl_frame
      simp only [l0, l1, l2, gbind_eq, Option.bind_some, less_eq n1 n0, less_eq n2 n0, hX, hY, hWx, hWy, hb1]
      by_cases hgn : gz < 0
      · simp only [hgn, if_true, Prod.mk.injEq] at hspec
        have hgz : -gz = G := by omega
        have w1 : wr IntKind.i64 (isub 0 gz) = G := by rw [wneg gz (by omega), hgz]
        have w2 : wr IntKind.i64 (isub 0 p) = u := by rw [wu p hb5]; exact hspec.1
        have w3 : wr IntKind.i64 (isub 0 q) = v := by rw [wu q hb6]; exact hspec.2
        have w4 : wr IntKind.i64 (isub 0 Y) = -Y := wneg Y (by omega)
        simp only [ilt_eq, hgn, decide_true, cond_true, w1, w2, w3, w4, wc, wd, ieq_eq, hG0, cond_false, impl_bring_eq, hpeg, Option.bind_some, hlt, wty, hny, ilen_mapep, ile_eq, Int.le_refl, show (0 : Int) ≤ a.length by omega, Bool.and_self, hfit, hz0]
        exact impl_frame_l0_eq (A := u + K * -c0) (B := v + K * -d0) (C := -c0) (D := -d0) (K := K) l0 hin n0 hs (by simp only [w1, w4, wc]; exact wneg c0 (by omega)) (by simp only [w1, wd]; exact wneg d0 (by omega)) (by simp only [wty]; exact hKe) (by simp only [w2]; exact wA) (by simp only [w3]; exact wB) (by omega) (by omega) (by omega) (by omega) hle0
      · simp only [hgn, if_false, Prod.mk.injEq] at hspec
        have hgz : gz = G := by omega
        have w4 : wr IntKind.i64 (isub 0 Y) = -Y := wneg Y (by omega)
        obtain ⟨rfl, rfl⟩ := hspec
        subst hgz
        simp only [ilt_eq, hgn, decide_false, w4, wc, wd, ieq_eq, hG0, cond_false, impl_bring_eq, hpeg, Option.bind_some, hlt, cond_true, wty, hny, ilen_mapep, ile_eq, Int.le_refl, show (0 : Int) ≤ a.length by omega, decide_true, Bool.and_self, hfit, hz0]
        exact impl_frame_l2_eq (A := p + K * -c0) (B := q + K * -d0) (C := -c0) (D := -d0) (K := K) l0 hin n0 hs (by simp only [w4, wc]; exact wneg c0 (by omega)) (by simp only [wd]; exact wneg d0 (by omega)) (by simp only [wty]; exact hKe) wA wB (by omega) (by omega) (by omega) (by omega) hle0
  · obtain ⟨b, K, hKe, hb0, hbt, hK, bK⟩ := shear_eq (tx := tx) (ty := ty) (by omega) (by omega) (by omega)
    obtain ⟨fr, k1, k2⟩ := fin c0 d0 ty K b (.inl ⟨rfl, rfl, rfl⟩) (by omega) hb0 hbt hK bK
    have wA : wr IntKind.i64 (iadd u (wr IntKind.i64 (imul K c0))) = u + K * c0 := by
      simp only [iadd_eq, imul_eq]; rw [wr_id (n := K * c0) (by omega), wr_id (by omega)]
    have wB : wr IntKind.i64 (iadd v (wr IntKind.i64 (imul K d0))) = v + K * d0 := by
      simp only [iadd_eq, imul_eq]; rw [wr_id (n := K * d0) (by omega), wr_id (by omega)]
    have hlt : decide (ty < 0) = false := by simp; omega
    have hny : decide (ty = 0) = false := by simp; omega
    refine ⟨_, _, _, _, _, _, _, ?_, ?_, fr⟩
    · unfold spec_mvFrame
      simp only [l0, l1, l2, gbind_eq, Option.bind_some, wX, wY1, w40, hcom, hb2, wc, wd, wWx, wWy, hpeg, ieq_eq, ilt_eq, hG0, cond_false, hlt, hny]
      exact spec_mvFrame_l1_eq (r := G) (r1 := (u, v)) (r2 := (tx, ty)) (A := u + K * c0) (B := v + K * d0) (C := c0) (D := d0) (K := K) hin n0 hs (by rw [wY, wc]) (by rw [wX, wd]) hKe wA wB (by omega) (by omega) (by omega) (by omega) hle0
    · unfold impl_frame
      simp only [l0, l1, l2, gbind_eq, Option.bind_some, less_eq n1 n0, less_eq n2 n0, hX, hY, hWx, hWy, hb1]
      by_cases hgn : gz < 0
      · simp only [hgn, if_true, Prod.mk.injEq] at hspec
        have hgz : -gz = G := by omega
        have w1 : wr IntKind.i64 (isub 0 gz) = G := by rw [wneg gz (by omega), hgz]
        have w2 : wr IntKind.i64 (isub 0 p) = u := by rw [wu p hb5]; exact hspec.1
        have w3 : wr IntKind.i64 (isub 0 q) = v := by rw [wu q hb6]; exact hspec.2
        have w4 : wr IntKind.i64 (isub 0 Y) = -Y := wneg Y (by omega)
        simp only [ilt_eq, hgn, decide_true, cond_true, w1, w2, w3, w4, wc, wd, ieq_eq, hG0, cond_false, impl_bring_eq, hpeg, Option.bind_some, hlt, hny, ilen_mapep, ile_eq, Int.le_refl, show (0 : Int) ≤ a.length by omega, Bool.and_self, hfit, hz0]
        exact impl_frame_l1_eq (A := u + K * c0) (B := v + K * d0) (C := c0) (D := d0) (K := K) l0 hin n0 hs (by simp only [w1, w4, wc]) (by simp only [w1, wd]) hKe (by simp only [w2]; exact wA) (by simp only [w3]; exact wB) (by omega) (by omega) (by omega) (by omega) hle0
      · simp only [hgn, if_false, Prod.mk.injEq] at hspec
        have hgz : gz = G := by omega
        have w4 : wr IntKind.i64 (isub 0 Y) = -Y := wneg Y (by omega)
        obtain ⟨rfl, rfl⟩ := hspec
        subst hgz
        simp only [ilt_eq, hgn, decide_false, w4, wc, wd, ieq_eq, hG0, cond_false, impl_bring_eq, hpeg, Option.bind_some, hlt, cond_true, hny, ilen_mapep, ile_eq, Int.le_refl, show (0 : Int) ≤ a.length by omega, decide_true, Bool.and_self, hfit, hz0]
        exact impl_frame_l3_eq (A := p + K * c0) (B := q + K * d0) (C := c0) (D := d0) (K := K) l0 hin n0 hs (by simp only [w4, wc]) (by simp only [wd]) hKe wA wB (by omega) (by omega) (by omega) (by omega) hle0
end Go.AM
namespace Go.AM
def Lx (n : Int) (a b : List Pt) : Prop := ∃ i, 0 ≤ i ∧ i < n ∧ (∀ j, 0 ≤ j → j < i → pt a j = pt b j) ∧ Less (pt a i) (pt b i)
theorem Lx.trans {n : Int} {a b c : List Pt} (h : Lx n a b) (k : Lx n b c) : Lx n a c := by
  obtain ⟨i, i0, i1, i2, i3⟩ := h
  obtain ⟨j, j0, j1, j2, j3⟩ := k
  rcases Int.lt_trichotomy i j with h | rfl | h
  · exact ⟨i, i0, i1, fun q q0 q1 => (i2 q q0 q1).trans (j2 q q0 (by omega)), by rw [← j2 i i0 h]; exact i3⟩
  · exact ⟨i, i0, i1, fun q q0 q1 => (i2 q q0 q1).trans (j2 q q0 q1), i3.trans j3⟩
  · exact ⟨j, j0, j1, fun q q0 q1 => (i2 q q0 (by omega)).trans (j2 q q0 q1), by rw [i2 j j0 h]; exact j3⟩
theorem Lx.irrefl {n : Int} {a : List Pt} : ¬ Lx n a a := fun ⟨i, _, _, _, h⟩ => Less.irrefl _ h
theorem list_ext_pt {a b : List Pt} (hl : a.length = b.length) (h : ∀ i, 0 ≤ i → i < (a.length : Int) → pt a i = pt b i) : a = b := by
  apply List.ext_getElem hl
  intro i h1 h2
  have k := h i (by omega) (by omega)
  have e1 := pt_get (a := a) (i := i) (by omega) (by omega)
  have e2 := pt_get (a := b) (i := i) (by omega) (by omega)
  rw [Int.toNat_natCast] at e1 e2
  have f1 := List.getElem?_eq_getElem h1
  have f2 := List.getElem?_eq_getElem h2
  rw [f1] at e1; rw [f2] at e2
  simp only [Option.some.injEq] at e1 e2
  rw [e1, e2, k]
theorem Lx.eq {n : Int} {a b : List Pt} (ha : (a.length : Int) = n) (hb : (b.length : Int) = n) (h : ¬ Lx n a b) (k : ¬ Lx n b a) : a = b := by
  refine list_ext_pt (by omega) ?_
  have key : ∀ m : Nat, ∀ i : Int, 0 ≤ i → i < m → i < n → pt a i = pt b i := by
    intro m
    induction m with
    | zero => intro i _ h; omega
    | succ m ih =>
      intro i i0 i1 i2
      have hj : ∀ j, 0 ≤ j → j < i → pt a j = pt b j := fun j j0 j1 => ih j j0 (by omega) (by omega)
      exact not_less_eq (fun q => h ⟨i, i0, i2, hj, q⟩) (fun q => k ⟨i, i0, i2, fun j j0 j1 => (hj j j0 j1).symm, q⟩)
  intro i i0 i1
  exact key (i.toNat + 1) i i0 (by omega) (by omega)
theorem spec_mvBefore_l0_eq {L : Nat} {n : Int} {a b : List Pt} (ha : (a.length : Int) = n) (hb : (b.length : Int) = n) (hs : n ≤ 1000000) : ∀ (m : Nat) (v : Int), 0 ≤ v → v ≤ n → n - v < m → (∀ j, 0 ≤ j → j < v → pt a j = pt b j) →
    ∃ t, spec_mvBefore_l0 L a b m v = some t ∧ (t = true ↔ Lx n a b)
  | 0, _, _, _, h, _ => by omega
  | m + 1, v, h0, hv, hm, he => by
    by_cases hvn : v < n
    · have g1 := lget_pt (a := a) h0 (by omega)
      have g2 := lget_pt (a := b) h0 (by omega)
      simp only [spec_mvBefore_l0, ilt_eq, ilen_mapep, ha, hvn, decide_true, cond_true, gbind_eq, g1, g2, Option.bind_some, ieq_eq]
      by_cases hp : pt a v = pt b v
      · rw [pt_eq_iff.2 hp]
        simp only [Bool.not_true, cond_false, iadd_eq]
        rw [wr_id (n := v + 1) (by omega)]
        exact spec_mvBefore_l0_eq ha hb hs m (v + 1) (by omega) (by omega) (by omega) fun j j0 j1 => by
          by_cases hj : j = v
          · subst hj; exact hp
          · exact he j j0 (by omega)
      · have : (decide ((pt a v).x = (pt b v).x) && decide ((pt a v).y = (pt b v).y)) = false := by
          cases hc : (decide ((pt a v).x = (pt b v).x) && decide ((pt a v).y = (pt b v).y)) with
          | false => rfl
          | true => exact absurd (pt_eq_iff.1 hc) hp
        rw [this]
        simp only [Bool.not_false, cond_true, spec_pgLess_eq, Option.bind_some]
        refine ⟨_, rfl, ?_⟩
        rw [decide_eq_true_iff]
        constructor
        · intro h; exact ⟨v, h0, hvn, he, h⟩
        · rintro ⟨i, i0, i1, i2, i3⟩
          rcases Int.lt_trichotomy i v with h | rfl | h
          · rw [he i i0 h] at i3; exact absurd i3 (Less.irrefl _)
          · exact i3
          · exact absurd (i2 v h0 h) hp
    · simp only [spec_mvBefore_l0, ilt_eq, ilen_mapep, ha, hvn, decide_false, cond_false]
      refine ⟨false, rfl, by simp; rintro ⟨i, i0, i1, i2, i3⟩; rw [he i i0 (by omega)] at i3; exact Less.irrefl _ i3⟩
theorem spec_mvBefore_eq {L : Nat} {n : Int} {a b : List Pt} (ha : (a.length : Int) = n) (hb : (b.length : Int) = n) (hs : n ≤ 1000000) (hL : n < L) : ∃ t, spec_mvBefore L a b = some t ∧ (t = true ↔ Lx n a b) := by
  unfold spec_mvBefore
  exact spec_mvBefore_l0_eq ha hb hs L 0 (by omega) (by omega) (by omega) fun j _ _ => by omega
def cmpP (p q : Pt) : Int := if p.x < q.x then -1 else if q.x < p.x then 1 else cmpI p.y q.y
theorem cmpP_lt {p q : Pt} : cmpP p q < 0 ↔ Less p q := by
  unfold cmpP cmpI Less
  split
  · simp; omega
  · split
    · simp; omega
    · split
      · simp; omega
      · split <;> simp <;> omega
theorem cmpP_zero {p q : Pt} : cmpP p q = 0 ↔ p = q := by
  obtain ⟨a, b⟩ := p; obtain ⟨c, d⟩ := q
  unfold cmpP cmpI
  simp only [Pt.mk.injEq]
  split
  · simp; omega
  · split
    · simp; omega
    · split
      · simp; omega
      · split <;> simp <;> omega
theorem impl_comparePegs_eq {L : Nat} {p q : Pt} (hL : 5 < L) : impl_comparePegs L p.x p.y q.x q.y = some (cmpP p q) := by
  unfold impl_comparePegs cmp_Or_int
  simp only [gbind_eq, cmp_eq, Option.bind_some]
  obtain ⟨m, rfl⟩ : ∃ m, L = m + 3 := ⟨L - 3, by omega⟩
  have hl : ilen (List.map eI [cmpI p.x q.x, cmpI p.y q.y]) = 2 := by rw [ilen_eq]; rfl
  have g0 : lget [cmpI p.x q.x, cmpI p.y q.y] 0 = some (cmpI p.x q.x) := by rw [lget_eq]; rfl
  have g1 : lget [cmpI p.x q.x, cmpI p.y q.y] 1 = some (cmpI p.y q.y) := by rw [lget_eq]; rfl
  have w1 : wr .i64 (0 + 1) = 1 := wr_id (by decide)
  have w2 : wr .i64 (1 + 1) = 2 := wr_id (by decide)
  simp only [cmp_Or_int_l0, hl, ilt_eq, gbind_eq, g0, g1, iadd_eq, w1, w2, ieq_eq, Option.bind_some, show ((0 : Int) < 2) = True by simp, show ((1 : Int) < 2) = True by simp, show ((2 : Int) < 2) = False by simp, decide_true, decide_false, cond_true, cond_false]
  unfold cmpP cmpI
  by_cases h1 : p.x < q.x
  · simp [h1]
  · by_cases h2 : q.x < p.x
    · simp [h1, h2]
    · by_cases h3 : p.y < q.y
      · simp [h1, h2, h3]
      · by_cases h4 : q.y < p.y <;> simp [h1, h2, h3, h4]
theorem impl_compareL_l0_eq {L : Nat} {n : Int} {a b : List Pt} (ha : (a.length : Int) = n) (hb : (b.length : Int) = n) (hs : n ≤ 1000000) (hL : 5 < L) : ∀ (m : Nat) (v : Int), 0 ≤ v → v ≤ n → n - v < m → (∀ j, 0 ≤ j → j < v → pt a j = pt b j) →
    ∃ t, slices_CompareFunc_impl_Peg_impl_Peg_impl_Peg_impl_Peg_l0 L a b m v = some t ∧ (t < 0 ↔ Lx n a b)
  | 0, _, _, _, h, _ => by omega
  | m + 1, v, h0, hv, hm, he => by
    by_cases hvn : v < n
    · have g1 := lget_pt (a := a) h0 (by omega)
      have g2 := lget_pt (a := b) h0 (by omega)
      simp only [slices_CompareFunc_impl_Peg_impl_Peg_impl_Peg_impl_Peg_l0, ilt_eq, ile_eq, ilen_mapep, ha, hb, hvn, show ¬ n ≤ v by omega, decide_true, decide_false, cond_true, cond_false, gbind_eq, g1, g2, Option.bind_some, ieq_eq, impl_comparePegs_eq hL]
      by_cases hp : pt a v = pt b v
      · simp only [cmpP_zero.2 hp, decide_true, Bool.not_true, cond_false, iadd_eq]
        rw [wr_id (n := v + 1) (by omega)]
        exact impl_compareL_l0_eq ha hb hs hL m (v + 1) (by omega) (by omega) (by omega) fun j j0 j1 => by
          by_cases hj : j = v
          · subst hj; exact hp
          · exact he j j0 (by omega)
      · have hz : ¬ cmpP (pt a v) (pt b v) = 0 := fun e => hp (cmpP_zero.1 e)
        simp only [hz, decide_false, Bool.not_false, cond_true]
        refine ⟨_, rfl, cmpP_lt.trans ?_⟩
        constructor
        · intro h; exact ⟨v, h0, hvn, he, h⟩
        · rintro ⟨i, i0, i1, i2, i3⟩
          rcases Int.lt_trichotomy i v with h | rfl | h
          · rw [he i i0 h] at i3; exact absurd i3 (Less.irrefl _)
          · exact i3
          · exact absurd (i2 v h0 h) hp
    · simp only [slices_CompareFunc_impl_Peg_impl_Peg_impl_Peg_impl_Peg_l0, ilt_eq, ilen_mapep, ha, hb, hvn, Int.lt_irrefl, decide_false, cond_false]
      refine ⟨0, rfl, by simp; rintro ⟨i, i0, i1, i2, i3⟩; rw [he i i0 (by omega)] at i3; exact Less.irrefl _ i3⟩
theorem impl_comparePolygons_eq {L : Nat} {n : Int} {a b : List Pt} (ha : (a.length : Int) = n) (hb : (b.length : Int) = n) (hs : n ≤ 1000000) (hL : n + 5 < L) : ∃ t, impl_comparePolygons L a b = some t ∧ (t < 0 ↔ Lx n a b) := by
  obtain ⟨t, h1, h2⟩ := impl_compareL_l0_eq ha hb hs (show 5 < L by omega) L 0 (by omega) (by omega) (by omega) fun j _ _ => by omega
  refine ⟨t, ?_, h2⟩
  unfold impl_comparePolygons slices_CompareFunc_impl_Peg_impl_Peg_impl_Peg_impl_Peg
  rw [h1]; simp only [gbind_eq, Option.bind_some]
structure Fa (a : List Pt) : Prop where
  lo : 3 ≤ (a.length : Int)
  hi : (a.length : Int) ≤ 1000
  nr : ∀ i, Nr (pt a i)
  turn : ∀ i, turn (pt a i) (pt a (i + 1)) (pt a (i + 2)) ≠ 0
theorem turn_rev (a b c : Pt) : turn c b a = - turn a b c := by unfold turn; grind
theorem Fa.ne {a : List Pt} (h : Fa a) : a ≠ [] := by intro e; subst e; have := h.lo; simp at this
theorem Fa.tour {a : List Pt} (h : Fa a) {k s : Int} (hs : s = 1 ∨ s = -1) : Fa (tour a k s a.length) := by
  have hl := h.lo
  have hpt : ∀ i, pt (AM.tour a k s a.length) i = pt a (k + (i % (a.length : Int)) * s) := fun i => pt_tour h.ne
  refine ⟨by rw [tour_len]; exact h.lo, by rw [tour_len]; exact h.hi, fun i => by rw [hpt]; exact h.nr _, fun i => ?_⟩
  have hm : ∀ i j : Int, pt (AM.tour a k s a.length) (i + j) = pt a (k + (i % (a.length : Int) + j) * s) := fun i j => by
    rw [hpt]
    apply pt_congr
    have e : (i + j) % (a.length : Int) = (i % a.length + j) % a.length := by rw [Int.emod_add_emod]
    rw [e]
    rw [Int.add_emod, Int.mul_emod, Int.emod_emod_of_dvd _ (Int.dvd_refl _), ← Int.mul_emod, ← Int.add_emod]
  have h0 := hm i 0
  rw [Int.add_zero, Int.add_zero] at h0
  rw [h0, hm i 1, hm i 2]
  rcases hs with rfl | rfl
  · have := h.turn (k + (i % (a.length : Int)) * 1)
    rwa [show k + (i % (a.length : Int)) * 1 + 1 = k + (i % (a.length : Int) + 1) * 1 by omega, show k + (i % (a.length : Int)) * 1 + 2 = k + (i % (a.length : Int) + 2) * 1 by omega] at this
  · have := h.turn (k + (i % (a.length : Int) + 2) * -1)
    rw [show k + (i % (a.length : Int) + 2) * -1 + 1 = k + (i % (a.length : Int) + 1) * -1 by omega, show k + (i % (a.length : Int) + 2) * -1 + 2 = k + (i % (a.length : Int)) * -1 by omega, turn_rev] at this
    omega
noncomputable def FR (L : Nat) (a : List Pt) (k s : Int) : List Pt := (spec_mvFrame L (tour a k s a.length)).getD []
theorem FR_eq {L : Nat} {a : List Pt} (h : Fa a) {k s : Int} (hs : s = 1 ∨ s = -1) (hL : 5000 < L) :
    spec_mvFrame L (tour a k s a.length) = some (FR L a k s) ∧ impl_frame L (tour a k s a.length) = some (FR L a k s) ∧ ((FR L a k s).length = a.length) ∧
    ∃ A B C D g b d, FR L a k s = (tour a k s a.length).map (brg A B C D (pt (tour a k s a.length) 0)) ∧ Fr (tour a k s a.length) A B C D g b d := by
  have ht := h.tour (k := k) hs
  obtain ⟨A, B, C, D, g, b, d, h1, h2, h3⟩ := frame_eq (L := L) ht.lo ht.hi ht.nr (by have := ht.turn 0; simpa using this) hL
  have e : FR L a k s = (tour a k s a.length).map (brg A B C D (pt (tour a k s a.length) 0)) := by unfold FR; rw [h1]; rfl
  exact ⟨by rw [h1, e], by rw [h2, e], by rw [e, List.length_map, tour_len], A, B, C, D, g, b, d, e, h3⟩
theorem tour_mod {a : List Pt} {k k' s : Int} (h : k % (a.length : Int) = k' % (a.length : Int)) (n : Nat) : tour a k s n = tour a k' s n :=
  tour_ext fun j _ => pt_congr (by rw [Int.add_emod, h, ← Int.add_emod])
theorem FR_mod {L : Nat} {a : List Pt} {k k' s : Int} (h : k % (a.length : Int) = k' % (a.length : Int)) : FR L a k s = FR L a k' s := by unfold FR; rw [tour_mod h]
theorem tour_id {a : List Pt} (hn : a ≠ []) : tour a 0 1 a.length = a := by
  refine list_ext_pt (tour_len _ _ _ _) fun i h0 h1 => ?_
  rw [pt_tour hn]
  rw [tour_len] at h1
  rw [Int.emod_eq_of_lt h0 h1]
  congr 1; omega
theorem tour_back {a : List Pt} (hn : a ≠ []) (k : Int) : tour (tour a 0 (-1) a.length) k 1 a.length = tour a (-k) (-1) a.length := by
  have hl : 0 < (a.length : Int) := by have := List.length_pos_iff.2 hn; omega
  refine tour_ext fun j hj => ?_
  rw [pt_tour hn]
  apply pt_congr
  rw [Int.zero_add, Int.mul_neg, Int.mul_one, Int.mul_one]
  have h1 := Int.emod_emod_of_dvd (k + (j : Int)) (Int.dvd_refl (a.length : Int))
  have h2 : (-((k + (j : Int)) % a.length)) % (a.length : Int) = (-(k + (j : Int))) % (a.length : Int) := by
    have := Int.mul_ediv_add_emod (k + (j : Int)) a.length
    conv => rhs; rw [← this]
    rw [Int.neg_add, ← Int.mul_neg, Int.mul_add_emod_self_left]
  rw [h2]
  congr 1; omega
end Go.AM
