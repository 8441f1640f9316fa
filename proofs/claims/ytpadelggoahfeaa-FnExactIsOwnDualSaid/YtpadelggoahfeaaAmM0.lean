import Derived.Test.YtpadelggoahfeaaAmP0
set_option linter.unusedVariables false
set_option linter.unusedSimpArgs false
set_option linter.unnecessarySimpa false
set_option linter.deprecated false
set_option linter.unusedSectionVars false
open Go Go.AM Go.Proofs
namespace Go.AM
noncomputable def impl_Peg_plus (L : Nat) (a_0 : Int) (a_1 : Int) (b_0 : Int) (b_1 : Int) : Option (Int × Int) := some ((wr IntKind.i64 (iadd a_0 b_0), wr IntKind.i64 (iadd a_1 b_1)))
noncomputable def spec_mvFull_l0 (L : Nat) : Nat → Int → Int → Int → Int → Int → Int → Option (Int × Int)
  | 0, _, _, _, _, _, _ => none
  | m + 1, v0, v1, v6, v7, v8, v9 => bif !ieq v1 0 then (bif ieq v1 0 then (none) else (spec_mvFull_l0 L m v1 (wr IntKind.i64 (isub v0 (wr IntKind.i64 (imul (wr IntKind.i64 (iquo v0 v1)) v1)))) v8 v9 (wr IntKind.i64 (isub v6 (wr IntKind.i64 (imul (wr IntKind.i64 (iquo v0 v1)) v8)))) (wr IntKind.i64 (isub v7 (wr IntKind.i64 (imul (wr IntKind.i64 (iquo v0 v1)) v9)))))) else (bif ilt v0 0 then (some ((wr IntKind.i64 (isub 0 v6), wr IntKind.i64 (isub 0 v7)))) else (some ((v6, v7))))
noncomputable def spec_mvFull (L : Nat) (a : Int) (b : Int) : Option (Int × Int) := spec_mvFull_l0 L L a b 1 0 0 1
noncomputable def spec_mvPeg (L : Nat) (a_0 : Int) (a_1 : Int) (a_2 : Int) (a_3 : Int) (a_4 : Int) (a_5 : Int) (b_0 : Int) (b_1 : Int) : Option (Int × Int) := some ((wr IntKind.i64 (iadd (wr IntKind.i64 (iadd (wr IntKind.i64 (imul a_0 b_0)) (wr IntKind.i64 (imul a_1 b_1)))) a_4), wr IntKind.i64 (iadd (wr IntKind.i64 (iadd (wr IntKind.i64 (imul a_2 b_0)) (wr IntKind.i64 (imul a_3 b_1)))) a_5)))
noncomputable def spec_mvFrame_l0 (L : Nat) (a : List Pt) (p : Pt) (p1 : Pt) (p2 : Pt) (r : Int) (r1 : Int × Int) (r2 : Int × Int) : Nat → Int → (List Pt) → Option ((List Pt))
  | 0, _, _ => none
  | m + 1, v119, w2 => bif ilt v119 (ilen (List.map ep a)) then (gbind (lget a v119) fun p5 => gbind (spec_mvPeg L (wr IntKind.i64 (iadd (Prod.fst r1) (wr IntKind.i64 (imul (wr IntKind.i64 (iquo (wr IntKind.i64 (isub (irem (wr IntKind.i64 (iadd (irem (Prod.fst r2) (wr IntKind.i64 (isub 0 (Prod.snd r2)))) (wr IntKind.i64 (isub 0 (Prod.snd r2))))) (wr IntKind.i64 (isub 0 (Prod.snd r2)))) (Prod.fst r2))) (wr IntKind.i64 (isub 0 (Prod.snd r2))))) (wr IntKind.i64 (isub 0 (wr IntKind.i64 (iquo (wr IntKind.i64 (isub 0 (wr IntKind.i64 (isub (Pt.y p2) (Pt.y p))))) r)))))))) (wr IntKind.i64 (iadd (Prod.snd r1) (wr IntKind.i64 (imul (wr IntKind.i64 (iquo (wr IntKind.i64 (isub (irem (wr IntKind.i64 (iadd (irem (Prod.fst r2) (wr IntKind.i64 (isub 0 (Prod.snd r2)))) (wr IntKind.i64 (isub 0 (Prod.snd r2))))) (wr IntKind.i64 (isub 0 (Prod.snd r2)))) (Prod.fst r2))) (wr IntKind.i64 (isub 0 (Prod.snd r2))))) (wr IntKind.i64 (isub 0 (wr IntKind.i64 (iquo (wr IntKind.i64 (isub (Pt.x p1) (Pt.x p))) r)))))))) (wr IntKind.i64 (isub 0 (wr IntKind.i64 (iquo (wr IntKind.i64 (isub 0 (wr IntKind.i64 (isub (Pt.y p2) (Pt.y p))))) r)))) (wr IntKind.i64 (isub 0 (wr IntKind.i64 (iquo (wr IntKind.i64 (isub (Pt.x p1) (Pt.x p))) r)))) 0 0 (wr IntKind.i64 (isub (Pt.x p5) (Pt.x p))) (wr IntKind.i64 (isub (Pt.y p5) (Pt.y p)))) fun r3 => bif fits (iadd (ilen (List.map ep w2)) (ilen [AV.agg [AV.int IntKind.i64 (Prod.fst r3), AV.int IntKind.i64 (Prod.snd r3)]])) 16 then (spec_mvFrame_l0 L a p p1 p2 r r1 r2 m (wr IntKind.i64 (iadd v119 1)) (lcat w2 ({ x := Prod.fst r3, y := Prod.snd r3 } :: []))) else (none)) else (some w2)
noncomputable def spec_mvFrame_l1 (L : Nat) (a : List Pt) (p : Pt) (p1 : Pt) (p2 : Pt) (r : Int) (r1 : Int × Int) (r2 : Int × Int) : Nat → Int → (List Pt) → Option ((List Pt))
  | 0, _, _ => none
  | m1 + 1, v1191, w21 => bif ilt v1191 (ilen (List.map ep a)) then (gbind (lget a v1191) fun p6 => gbind (spec_mvPeg L (wr IntKind.i64 (iadd (Prod.fst r1) (wr IntKind.i64 (imul (wr IntKind.i64 (iquo (wr IntKind.i64 (isub (irem (wr IntKind.i64 (iadd (irem (Prod.fst r2) (Prod.snd r2)) (Prod.snd r2))) (Prod.snd r2)) (Prod.fst r2))) (Prod.snd r2))) (wr IntKind.i64 (iquo (wr IntKind.i64 (isub 0 (wr IntKind.i64 (isub (Pt.y p2) (Pt.y p))))) r)))))) (wr IntKind.i64 (iadd (Prod.snd r1) (wr IntKind.i64 (imul (wr IntKind.i64 (iquo (wr IntKind.i64 (isub (irem (wr IntKind.i64 (iadd (irem (Prod.fst r2) (Prod.snd r2)) (Prod.snd r2))) (Prod.snd r2)) (Prod.fst r2))) (Prod.snd r2))) (wr IntKind.i64 (iquo (wr IntKind.i64 (isub (Pt.x p1) (Pt.x p))) r)))))) (wr IntKind.i64 (iquo (wr IntKind.i64 (isub 0 (wr IntKind.i64 (isub (Pt.y p2) (Pt.y p))))) r)) (wr IntKind.i64 (iquo (wr IntKind.i64 (isub (Pt.x p1) (Pt.x p))) r)) 0 0 (wr IntKind.i64 (isub (Pt.x p6) (Pt.x p))) (wr IntKind.i64 (isub (Pt.y p6) (Pt.y p)))) fun r4 => bif fits (iadd (ilen (List.map ep w21)) (ilen [AV.agg [AV.int IntKind.i64 (Prod.fst r4), AV.int IntKind.i64 (Prod.snd r4)]])) 16 then (spec_mvFrame_l1 L a p p1 p2 r r1 r2 m1 (wr IntKind.i64 (iadd v1191 1)) (lcat w21 ({ x := Prod.fst r4, y := Prod.snd r4 } :: []))) else (none)) else (some w21)
noncomputable def spec_mvFrame (L : Nat) (a : List Pt) : Option ((List Pt)) := gbind (lget a 0) fun p => gbind (lget a 1) fun p1 => gbind (lget a 1) fun p2 => gbind (spec_pgCommon L (wr IntKind.i64 (isub (Pt.x p1) (Pt.x p))) (wr IntKind.i64 (isub (Pt.y p2) (Pt.y p)))) fun r => gbind (spec_mvFull L (wr IntKind.i64 (isub (Pt.x p1) (Pt.x p))) (wr IntKind.i64 (isub (Pt.y p2) (Pt.y p)))) fun r1 => bif ieq r 0 then (none) else (bif ieq r 0 then (none) else (gbind (lget a 2) fun p3 => gbind (lget a 2) fun p4 => gbind (spec_mvPeg L (Prod.fst r1) (Prod.snd r1) (wr IntKind.i64 (iquo (wr IntKind.i64 (isub 0 (wr IntKind.i64 (isub (Pt.y p2) (Pt.y p))))) r)) (wr IntKind.i64 (iquo (wr IntKind.i64 (isub (Pt.x p1) (Pt.x p))) r)) 0 0 (wr IntKind.i64 (isub (Pt.x p3) (Pt.x p))) (wr IntKind.i64 (isub (Pt.y p4) (Pt.y p)))) fun r2 => bif ilt (Prod.snd r2) 0 then (bif ieq (wr IntKind.i64 (isub 0 (Prod.snd r2))) 0 then (none) else (bif ieq (wr IntKind.i64 (isub 0 (Prod.snd r2))) 0 then (none) else (bif ieq (wr IntKind.i64 (isub 0 (Prod.snd r2))) 0 then (none) else (spec_mvFrame_l0 L a p p1 p2 r r1 r2 L 0 [])))) else (bif ieq (Prod.snd r2) 0 then (none) else (bif ieq (Prod.snd r2) 0 then (none) else (bif ieq (Prod.snd r2) 0 then (none) else (spec_mvFrame_l1 L a p p1 p2 r r1 r2 L 0 []))))))
noncomputable def spec_mvBefore_l0 (L : Nat) (a : List Pt) (b : List Pt) : Nat → Int → Option Bool
  | 0, _ => none
  | m + 1, v8 => bif ilt v8 (ilen (List.map ep a)) then (gbind (lget a v8) fun p => gbind (lget b v8) fun p1 => bif !(ieq (Pt.x p) (Pt.x p1) && ieq (Pt.y p) (Pt.y p1)) then (gbind (lget a v8) fun p2 => gbind (lget b v8) fun p3 => gbind (spec_pgLess L (Pt.x p2) (Pt.y p2) (Pt.x p3) (Pt.y p3)) fun r => some r) else (spec_mvBefore_l0 L a b m (wr IntKind.i64 (iadd v8 1)))) else (some false)
noncomputable def spec_mvBefore (L : Nat) (a : List Pt) (b : List Pt) : Option (Bool) := spec_mvBefore_l0 L a b L 0
noncomputable def spec_mvFrames_l1 (L : Nat) (κ0 : Int → Int → (List (List Pt)) → (List (List Pt)) → Option ((List (List Pt)))) (v11 : Int) (v12 : Int) (w1 : List (List Pt)) (p : List Pt) : Nat → Int → (List (List Pt)) → Option ((List (List Pt)))
  | 0, _, _ => none
  | m1 + 1, v18, w01 => bif ilt v18 (ilen (List.map ep p)) then (bif ile 0 v18 && ile v18 (ilen (List.map ep p)) then (bif ile 0 v18 && ile v18 (ilen (List.map ep p)) then (bif fits (iadd (ilen ([] : List AV)) (ilen (lsub (List.map ep p) v18 (ilen (List.map ep p))))) 16 then (bif fits (iadd (ilen (lcat [] (lsub (List.map ep p) v18 (ilen (List.map ep p))))) (ilen (lsub (List.map ep p) 0 v18))) 16 then (gbind (spec_mvFrame L (lcat (lcat [] (lsub p v18 (ilen (List.map ep p)))) (lsub p 0 v18))) fun r1 => bif fits (iadd (ilen (List.map eLP w01)) (ilen [AV.lst false false 2 (List.map ep r1)])) 24 then (spec_mvFrames_l1 L κ0 v11 v12 w1 p m1 (wr IntKind.i64 (iadd v18 1)) (lcat w01 (r1 :: []))) else (none)) else (none)) else (none)) else (none)) else (none)) else (κ0 v11 (wr IntKind.i64 (iadd v12 1)) w01 w1)
noncomputable def spec_mvFrames_l0 (L : Nat) : Nat → Int → Int → (List (List Pt)) → (List (List Pt)) → Option ((List (List Pt)))
  | 0, _, _, _, _ => none
  | m + 1, v11, v12, w0, w1 => bif ilt v12 v11 then (bif ile 0 v12 && ilt v12 (ilen (List.map eLP w1)) then (gbind (lget w1 v12) fun p => spec_mvFrames_l1 L (spec_mvFrames_l0 L m) v11 v12 w1 p L 0 w0) else (none)) else (some w0)
noncomputable def spec_mvFrames (L : Nat) (a : List Pt) : Option ((List (List Pt))) := gbind (spec_pgBack L a) fun r => spec_mvFrames_l0 L L (ilen [AV.lst false false 2 (List.map ep a), AV.lst false false 2 (List.map ep r)]) 0 [] (a :: (r :: []))
noncomputable def spec_mvKind_l0 (L : Nat) (r : List (List Pt)) : Nat → (List Pt) → Int → Option ((List Pt))
  | 0, _, _ => none
  | m + 1, v3, v9 => bif ilt v9 (ilen (List.map eLP r)) then (bif ile 0 v9 && ilt v9 (ilen (List.map eLP r)) then (gbind (lget r v9) fun p => bif ieq (ilen (List.map ep v3)) 0 then (spec_mvKind_l0 L r m p (wr IntKind.i64 (iadd v9 1))) else (gbind (spec_mvBefore L p v3) fun r1 => bif r1 then (spec_mvKind_l0 L r m p (wr IntKind.i64 (iadd v9 1))) else (spec_mvKind_l0 L r m v3 (wr IntKind.i64 (iadd v9 1))))) else (none)) else (some v3)
noncomputable def spec_mvKind (L : Nat) (a : List Pt) : Option ((List Pt)) := gbind (spec_mvFrames L a) fun r => spec_mvKind_l0 L r L [] 0
noncomputable def impl_ratios_l0 (L : Nat) (a : List Pt) : Nat → Int → (List Int) → Option ((List Int))
  | 0, _, _ => none
  | m + 1, v10, w0 => bif ilt v10 (ilen (List.map ep a)) then (gbind (lget a v10) fun p => gbind (impl_at L a (wr IntKind.i64 (isub v10 1))) fun r => gbind (impl_at L a (wr IntKind.i64 (iadd v10 1))) fun r1 => gbind (impl_Peg_plus L (Prod.fst r) (Prod.snd r) (Prod.fst r1) (Prod.snd r1)) fun r2 => bif !ieq (Pt.x p) 0 then (bif ieq (Pt.x p) 0 then (none) else (bif fits (iadd (ilen (List.map eI w0)) (ilen [AV.int IntKind.i64 (wr IntKind.i64 (iquo (Prod.fst r2) (Pt.x p)))])) 8 then (impl_ratios_l0 L a m (wr IntKind.i64 (iadd v10 1)) (lcat w0 (wr IntKind.i64 (iquo (Prod.fst r2) (Pt.x p)) :: []))) else (none))) else (bif ieq (Pt.y p) 0 then (none) else (bif fits (iadd (ilen (List.map eI w0)) (ilen [AV.int IntKind.i64 (wr IntKind.i64 (iquo (Prod.snd r2) (Pt.y p)))])) 8 then (impl_ratios_l0 L a m (wr IntKind.i64 (iadd v10 1)) (lcat w0 (wr IntKind.i64 (iquo (Prod.snd r2) (Pt.y p)) :: []))) else (none)))) else (some w0)
noncomputable def impl_ratios (L : Nat) (a : List Pt) : Option ((List Int)) := impl_ratios_l0 L a L 0 []
end Go.AM
namespace Go.AM
theorem wr_id {n : Int} (h : -9223372036854775808 ≤ n ∧ n ≤ 9223372036854775807) : wr .i64 n = n := by
  rw [wr_eq]
  simp only [IntKind.wrap, IntKind.signed, IntKind.bits]
  simp
  omega
theorem mul_bd {x y A B : Int} (hx : -A ≤ x ∧ x ≤ A) (hy : -B ≤ y ∧ y ≤ B) : -(A * B) ≤ x * y ∧ x * y ≤ A * B := by
  have h : (x * y).natAbs ≤ (A * B).natAbs := by
    rw [Int.natAbs_mul, Int.natAbs_mul]
    exact Nat.mul_le_mul (by omega) (by omega)
  have hp : 0 ≤ A * B := Int.mul_nonneg (by omega) (by omega)
  omega
theorem mul_le0 {x y : Int} : x * y ≤ 0 ↔ (x ≤ 0 ∧ 0 ≤ y) ∨ (0 ≤ x ∧ y ≤ 0) := by
  constructor
  · intro h
    rcases Int.lt_trichotomy x 0 with hx | hx | hx
    · rcases Int.lt_trichotomy y 0 with hy | hy | hy
      · have := Int.mul_pos_of_neg_of_neg hx hy; omega
      · omega
      · omega
    · omega
    · rcases Int.lt_trichotomy y 0 with hy | hy | hy
      · omega
      · omega
      · have := Int.mul_pos hx hy; omega
  · rintro (⟨h1, h2⟩ | ⟨h1, h2⟩)
    · exact Int.mul_nonpos_of_nonpos_of_nonneg h1 h2
    · exact Int.mul_nonpos_of_nonneg_of_nonpos h1 h2
def turn (a b c : Pt) : Int := (b.x - a.x) * (c.y - a.y) - (b.y - a.y) * (c.x - a.x)
def Nr (p : Pt) : Prop := (-1000 ≤ p.x ∧ p.x ≤ 1000) ∧ (-1000 ≤ p.y ∧ p.y ≤ 1000)
def In (p : Pt) : Prop := (-40 ≤ p.x ∧ p.x ≤ 40) ∧ (-40 ≤ p.y ∧ p.y ≤ 40)
theorem In.nr {p : Pt} (h : In p) : Nr p := by unfold In at h; unfold Nr; omega
theorem sub_bd {p q : Pt} (hp : Nr p) (hq : Nr q) : (-2000 ≤ p.x - q.x ∧ p.x - q.x ≤ 2000) ∧ (-2000 ≤ p.y - q.y ∧ p.y - q.y ≤ 2000) := by
  unfold Nr at hp hq; omega
theorem turn_bd {a b c : Pt} (ha : Nr a) (hb : Nr b) (hc : Nr c) : -8000000 ≤ turn a b c ∧ turn a b c ≤ 8000000 := by
  have h1 := sub_bd hb ha
  have h2 := sub_bd hc ha
  have h3 := mul_bd h1.1 h2.2
  have h4 := mul_bd h1.2 h2.1
  unfold turn
  omega
theorem spec_pgTurn_eq {L : Nat} {a b c : Pt} (ha : Nr a) (hb : Nr b) (hc : Nr c) : spec_pgTurn L a.x a.y b.x b.y c.x c.y = some (turn a b c) := by
  have h1 := sub_bd hb ha
  have h2 := sub_bd hc ha
  have h3 := mul_bd h1.1 h2.2
  have h4 := mul_bd h1.2 h2.1
  unfold spec_pgTurn turn
  simp only [isub_eq, imul_eq]
  rw [wr_id (n := b.x - a.x) (by omega), wr_id (n := c.y - a.y) (by omega), wr_id (n := b.y - a.y) (by omega), wr_id (n := c.x - a.x) (by omega), wr_id (n := (b.x - a.x) * (c.y - a.y)) (by omega), wr_id (n := (b.y - a.y) * (c.x - a.x)) (by omega), wr_id (by omega)]
theorem impl_turn_eq {L : Nat} {a b c : Pt} (ha : Nr a) (hb : Nr b) (hc : Nr c) : impl_turn L a.x a.y b.x b.y c.x c.y = some (turn a b c) := by
  have h1 := sub_bd hb ha
  have h2 := sub_bd hc ha
  have h3 := mul_bd h1.1 h2.2
  have h4 := mul_bd h1.2 h2.1
  unfold impl_turn impl_Peg_less impl_cross turn
  simp only [gbind_eq, Option.bind_some, isub_eq, imul_eq]
  rw [wr_id (n := b.x - a.x) (by omega), wr_id (n := c.y - a.y) (by omega), wr_id (n := b.y - a.y) (by omega), wr_id (n := c.x - a.x) (by omega), wr_id (n := (b.x - a.x) * (c.y - a.y)) (by omega), wr_id (n := (b.y - a.y) * (c.x - a.x)) (by omega), wr_id (by omega)]
def OnL (a b p : Pt) : Prop := turn a b p = 0 ∧ (a.x - p.x) * (b.x - p.x) ≤ 0 ∧ (a.y - p.y) * (b.y - p.y) ≤ 0
instance (a b p : Pt) : Decidable (OnL a b p) := by unfold OnL; infer_instance
theorem spec_pgOn_eq {L : Nat} {a b p : Pt} (ha : Nr a) (hb : Nr b) (hp : Nr p) : spec_pgOn L a.x a.y b.x b.y p.x p.y = some (decide (OnL a b p)) := by
  have h1 := sub_bd ha hp
  have h2 := sub_bd hb hp
  have h3 := mul_bd h1.1 h2.1
  have h4 := mul_bd h1.2 h2.2
  unfold spec_pgOn
  rw [spec_pgTurn_eq ha hb hp]
  simp only [gbind_eq, Option.bind_some, isub_eq, imul_eq, ieq_eq, ile_eq]
  rw [wr_id (n := a.x - p.x) (by omega), wr_id (n := b.x - p.x) (by omega), wr_id (n := a.y - p.y) (by omega), wr_id (n := b.y - p.y) (by omega), wr_id (n := (a.x - p.x) * (b.x - p.x)) (by omega), wr_id (n := (a.y - p.y) * (b.y - p.y)) (by omega)]
  unfold OnL
  by_cases k1 : turn a b p = 0 <;> by_cases k2 : (a.x - p.x) * (b.x - p.x) ≤ 0 <;> simp [k1, k2]
theorem mid_iff {a b p : Int} : (a - p) * (b - p) ≤ 0 ↔ (if b < a then b else a) ≤ p ∧ p ≤ (if b > a then b else a) := by
  rw [mul_le0]
  split <;> split <;> omega
theorem impl_isOn_eq {L : Nat} {a b p : Pt} (ha : Nr a) (hb : Nr b) (hp : Nr p) : impl_isOn L a.x a.y b.x b.y p.x p.y = some (decide (OnL a b p)) := by
  unfold impl_isOn impl_within OnL
  rw [impl_turn_eq ha hb hp]
  simp only [gbind_eq, Option.bind_some, ieq_eq, ile_eq, imin_eq, imax_eq, mid_iff]
  by_cases k1 : turn a b p = 0
  · simp only [k1, decide_true, cond_true]
    by_cases k2 : (if b.x < a.x then b.x else a.x) ≤ p.x <;> by_cases k3 : p.x ≤ (if b.x > a.x then b.x else a.x) <;>
      by_cases k4 : (if b.y < a.y then b.y else a.y) ≤ p.y <;> by_cases k5 : p.y ≤ (if b.y > a.y then b.y else a.y) <;> simp [k2, k3, k4, k5]
  · simp [k1]
def sg (n : Int) : Int := if 0 < n then 1 else if n < 0 then -1 else 0
theorem spec_l1Sign_eq {L : Nat} {n : Int} : spec_l1Sign L n = some (sg n) := by
  unfold spec_l1Sign sg
  simp only [ilt_eq]
  by_cases h1 : 0 < n <;> by_cases h2 : n < 0 <;> simp [h1, h2]
theorem impl_sign_eq {L : Nat} {n : Int} : impl_sign L n = some (sg n) := by
  unfold impl_sign sg
  simp only [imin_eq, imax_eq]
  congr 1
  split <;> split <;> split <;> (try split) <;> omega
theorem sg_bd (n : Int) : -1 ≤ sg n ∧ sg n ≤ 1 := by unfold sg; split; omega; split <;> omega
def Meet (a b c d : Pt) : Prop := OnL a b c ∨ OnL a b d ∨ OnL c d a ∨ OnL c d b ∨ (sg (turn a b c) * sg (turn a b d) < 0 ∧ sg (turn c d a) * sg (turn c d b) < 0)
instance (a b c d : Pt) : Decidable (Meet a b c d) := by unfold Meet; infer_instance
theorem sgm {m n : Int} : wr .i64 (sg m * sg n) = sg m * sg n := by
  have := mul_bd (sg_bd m) (sg_bd n)
  exact wr_id (by omega)
theorem spec_pgMeet_eq {L : Nat} {a b c d : Pt} (ha : Nr a) (hb : Nr b) (hc : Nr c) (hd : Nr d) : spec_pgMeet L a.x a.y b.x b.y c.x c.y d.x d.y = some (decide (Meet a b c d)) := by
  unfold spec_pgMeet Meet
  rw [spec_pgOn_eq ha hb hc, spec_pgOn_eq ha hb hd, spec_pgOn_eq hc hd ha, spec_pgOn_eq hc hd hb, spec_pgTurn_eq ha hb hc, spec_pgTurn_eq ha hb hd, spec_pgTurn_eq hc hd ha, spec_pgTurn_eq hc hd hb]
  simp only [gbind_eq, Option.bind_some, spec_l1Sign_eq, imul_eq, ilt_eq, sgm]
  by_cases k1 : OnL a b c <;> by_cases k2 : OnL a b d <;> by_cases k3 : OnL c d a <;> by_cases k4 : OnL c d b <;> by_cases k5 : sg (turn a b c) * sg (turn a b d) < 0 <;>
    by_cases k6 : sg (turn c d a) * sg (turn c d b) < 0 <;> simp [k1, k2, k3, k4, k5, k6]
theorem impl_meet_eq {L : Nat} {a b c d : Pt} (ha : Nr a) (hb : Nr b) (hc : Nr c) (hd : Nr d) : impl_meet L a.x a.y b.x b.y c.x c.y d.x d.y = some (decide (Meet a b c d)) := by
  unfold impl_meet Meet
  rw [impl_isOn_eq ha hb hc, impl_isOn_eq ha hb hd, impl_isOn_eq hc hd ha, impl_isOn_eq hc hd hb, impl_turn_eq ha hb hc, impl_turn_eq ha hb hd, impl_turn_eq hc hd ha, impl_turn_eq hc hd hb]
  simp only [gbind_eq, Option.bind_some, impl_sign_eq, imul_eq, ilt_eq, sgm]
  by_cases k1 : OnL a b c <;> by_cases k2 : OnL a b d <;> by_cases k3 : OnL c d a <;> by_cases k4 : OnL c d b <;> by_cases k5 : sg (turn a b c) * sg (turn a b d) < 0 <;>
    by_cases k6 : sg (turn c d a) * sg (turn c d b) < 0 <;> simp [k1, k2, k3, k4, k5, k6]
end Go.AM
namespace Go.AM
def pt (a : List Pt) (i : Int) : Pt := a.getD (i % (a.length : Int)).toNat ⟨0, 0⟩
theorem pt_congr {a : List Pt} {i j : Int} (h : i % (a.length : Int) = j % (a.length : Int)) : pt a i = pt a j := by unfold pt; rw [h]
theorem pt_get {a : List Pt} {i : Int} (h0 : 0 ≤ i) (h1 : i < a.length) : a[i.toNat]? = some (pt a i) := by
  unfold pt
  rw [Int.emod_eq_of_lt h0 h1]
  have : i.toNat < a.length := by omega
  simp [this]
theorem lget_pt {a : List Pt} {i : Int} (h0 : 0 ≤ i) (h1 : i < a.length) : lget a i = some (pt a i) := by
  rw [lget_eq, if_pos h0, pt_get h0 h1]
theorem irem_nn {i n : Int} (h : 0 ≤ i) : irem i n = i % n := by rw [irem_eq]; exact Int.tmod_eq_emod_of_nonneg h
theorem lget_rem {a : List Pt} {i : Int} (h0 : 0 ≤ i) (hn : a ≠ []) : lget a (irem i (a.length : Int)) = some (pt a i) := by
  have hl : 0 < (a.length : Int) := by have := List.length_pos_iff.2 hn; omega
  rw [irem_nn h0, lget_pt (Int.emod_nonneg _ (by omega)) (Int.emod_lt_of_pos _ hl)]
  congr 1
  exact pt_congr (Int.emod_emod_of_dvd _ (Int.dvd_refl _))
theorem ilen_mapep (a : List Pt) : ilen (List.map ep a) = (a.length : Int) := by rw [ilen_map, ilen_eq]
theorem impl_at_eq {L : Nat} {a : List Pt} {i : Int} (hn : a ≠ []) (hs : (a.length : Int) ≤ 1000000000) : impl_at L a i = some ((pt a i).x, (pt a i).y) := by
  have hl : 0 < (a.length : Int) := by have := List.length_pos_iff.2 hn; omega
  unfold impl_at
  simp only [ilen_mapep, ieq_eq, gbind_eq, iadd_eq]
  have h0 : ¬ ((a.length : Int) = 0) := by omega
  simp only [h0, decide_false, cond_false]
  have h1 : -(a.length : Int) < irem i (a.length : Int) ∧ irem i (a.length : Int) < a.length := by
    rw [irem_eq]
    have := Int.tmod_lt_of_pos i hl
    have h2 := Int.natAbs_tmod i (a.length : Int)
    have h3 := Nat.mod_lt i.natAbs (show 0 < (a.length : Int).natAbs by omega)
    omega
  rw [wr_id (by omega), lget_rem (by omega) hn]
  simp only [Option.bind_some]
  have : pt a (irem i (a.length : Int) + a.length) = pt a i := by
    apply pt_congr
    rw [Int.add_emod_right, irem_eq]
    conv => rhs; rw [← Int.tmod_add_mul_tdiv i (a.length : Int), Int.add_mul_emod_self_left]
  rw [this]
theorem search {β : Type} {f : Nat → Int → Option β} {bad : Int → Prop} {r k : Option β} {lo n hi : Int} (hn : n ≤ hi) (hstop : ∀ m v, lo ≤ v → v ≤ hi → ¬ v < n → f (m + 1) v = k) (hbad : ∀ m v, lo ≤ v → v < n → bad v → f (m + 1) v = r)
    (hgo : ∀ m v, lo ≤ v → v < n → ¬ bad v → f (m + 1) v = f m (v + 1)) : ∀ (m : Nat) (v : Int), lo ≤ v → v ≤ hi → n - v < m → 0 < m → ((∃ j, v ≤ j ∧ j < n ∧ bad j) → f m v = r) ∧ ((∀ j, v ≤ j → j < n → ¬ bad j) → f m v = k) := by
  intro m
  induction m with
  | zero => intro v _ _ _ h; omega
  | succ m ih =>
    intro v hv hvh hm _
    by_cases hvn : v < n
    · by_cases hb : bad v
      · refine ⟨fun _ => hbad m v hv hvn hb, fun h => absurd hb (h v (Int.le_refl _) hvn)⟩
      · rw [hgo m v hv hvn hb]
        obtain ⟨h1, h2⟩ := ih (v + 1) (by omega) (by omega) (by omega) (by omega)
        refine ⟨fun ⟨j, q1, q2, q3⟩ => h1 ⟨j, ?_, q2, q3⟩, fun h => h2 fun j q1 q2 => h j (by omega) q2⟩
        by_cases hj : j = v
        · subst hj; exact absurd q3 hb
        · omega
    · rw [hstop m v hv hvh hvn]
      exact ⟨fun ⟨j, q1, q2, _⟩ => by omega, fun _ => rfl⟩
structure Good_ (a : List Pt) : Prop where
  lo : 3 ≤ (a.length : Int)
  hi : (a.length : Int) ≤ 10
  isIn : ∀ i, 0 ≤ i → i < (a.length : Int) → In (pt a i)
  ne : ∀ i k, 0 ≤ k → k < i → i < (a.length : Int) → pt a k ≠ pt a i
  turn : ∀ i, 0 ≤ i → i < (a.length : Int) → turn (pt a i) (pt a (i + 1)) (pt a (i + 2)) ≠ 0
  apart : ∀ i k, 0 ≤ i → i + 2 ≤ k → k < (a.length : Int) → k - i < (a.length : Int) - 1 → ¬ Meet (pt a i) (pt a (i + 1)) (pt a k) (pt a (k + 1))
theorem in_all {a : List Pt} (h : ∀ i, 0 ≤ i → i < (a.length : Int) → In (pt a i)) (hn : a ≠ []) (i : Int) : In (pt a i) := by
  have hl : 0 < (a.length : Int) := by have := List.length_pos_iff.2 hn; omega
  have := h (i % a.length) (Int.emod_nonneg _ (by omega)) (Int.emod_lt_of_pos _ hl)
  rwa [pt_congr (Int.emod_emod_of_dvd _ (Int.dvd_refl _))] at this
theorem spec_pgIs_eq {L : Nat} {p : Pt} : (In p → spec_pgIs L p.x p.y = some true) ∧ (¬ In p → spec_pgIs L p.x p.y = some false) := by
  unfold spec_pgIs spec_l1In In
  simp only [gbind_eq, ile_eq]
  by_cases h1 : -40 ≤ p.x <;> by_cases h2 : p.x ≤ 40 <;> by_cases h3 : -40 ≤ p.y <;> by_cases h4 : p.y ≤ 40 <;> simp [h1, h2, h3, h4]
theorem impl_IsPeg_eq {L : Nat} {p : Pt} : (In p → impl_IsPeg L p.x p.y = some true) ∧ (¬ In p → impl_IsPeg L p.x p.y = some false) := by
  unfold impl_IsPeg impl_within In
  simp only [gbind_eq, ile_eq]
  by_cases h1 : -40 ≤ p.x <;> by_cases h2 : p.x ≤ 40 <;> by_cases h3 : -40 ≤ p.y <;> by_cases h4 : p.y ≤ 40 <;> simp [h1, h2, h3, h4]
theorem pt_eq_iff {p q : Pt} : (decide (p.x = q.x) && decide (p.y = q.y)) = true ↔ p = q := by
  cases p; cases q; simp
theorem lsub0 {a : List Pt} {i : Int} (h0 : 0 ≤ i) (h1 : i ≤ a.length) : lsub a 0 i = a.take i.toNat := by
  rw [lsub_eq]; simp
theorem lsub0_len {a : List Pt} {i : Int} (h0 : 0 ≤ i) (h1 : i ≤ a.length) : ilen (lsub (List.map ep a) 0 i) = i := by
  rw [lsub_eq, ilen_eq]; simp; omega
theorem lsub0_get {a : List Pt} {i j : Int} (h0 : 0 ≤ j) (hj : j < i) (h1 : i ≤ a.length) : lget (lsub a 0 i) j = some (pt a j) := by
  rw [lsub0 (by omega) h1, lget_eq, if_pos h0, List.getElem?_take, if_pos (by omega), pt_get h0 (by omega)]
theorem good_l1 {L : Nat} {κ0 : (List Pt) → Int → (List Pt) → Int → Int → Option Bool} {a v17 : List Pt} {v3 v18 i : Int} {p : Pt} (hi : 0 ≤ i) (hl : i ≤ a.length) (hs : (a.length : Int) ≤ 10) {m : Nat} (hm : i < m) :
    ((∃ j, 0 ≤ j ∧ j < i ∧ pt a j = p) → spec_pgGood_l1 L κ0 a v3 v17 v18 i p m 0 = some false) ∧ ((∀ j, 0 ≤ j → j < i → ¬ pt a j = p) → spec_pgGood_l1 L κ0 a v3 v17 v18 i p m 0 = κ0 a v3 v17 v18 (i + 1)) := by
  refine search (lo := 0) (n := i) (hi := i) (bad := fun j => pt a j = p) (Int.le_refl _) ?_ ?_ ?_ m 0 (Int.le_refl _) (by omega) (by omega) (by omega)
  · intro m v h0 _ h
    rw [spec_pgGood_l1]
    simp only [lsub0_len hi hl, ilt_eq, h, decide_false, cond_false, iadd_eq]
    rw [wr_id (by omega)]
  · intro m v h0 h hb
    rw [spec_pgGood_l1]
    simp only [lsub0_len hi hl, ilt_eq, h, decide_true, cond_true, lsub0_get h0 h hl, gbind_eq, Option.bind_some, ieq_eq, hb, Bool.and_self]
  · intro m v h0 h hb
    rw [spec_pgGood_l1]
    simp only [lsub0_len hi hl, ilt_eq, h, decide_true, cond_true, lsub0_get h0 h hl, gbind_eq, Option.bind_some, ieq_eq, iadd_eq]
    have : (decide (p.x = (pt a v).x) && decide (p.y = (pt a v).y)) = false := by
      rw [← Bool.not_eq_true, pt_eq_iff]; exact fun e => hb e.symm
    rw [this, cond_false, wr_id (by omega)]
theorem wr_s {i : Int} (h : -1000000 ≤ i ∧ i ≤ 1000000) : wr .i64 i = i := wr_id (by omega)
theorem good_l3 {L : Nat} {κ1 : (List Pt) → Int → (List Pt) → Int → Int → Option Bool} {a v40 : List Pt} {v41 i : Int} (hi : 0 ≤ i) (hil : i < a.length) (hs : (a.length : Int) ≤ 10) (hin : ∀ i, In (pt a i)) {m : Nat} (hm : (a.length : Int) - (i + 2) < m) (hm0 : 0 < m) :
    ((∃ k, i + 2 ≤ k ∧ k < (if i = 0 then (a.length : Int) - 1 else a.length) ∧ Meet (pt a i) (pt a (i + 1)) (pt a k) (pt a (k + 1))) → spec_pgGood_l3 L κ1 a a.length v40 v41 i (pt a i) (pt a (i + 1)) m (i + 2) = some false) ∧
    ((∀ k, i + 2 ≤ k → k < (if i = 0 then (a.length : Int) - 1 else a.length) → ¬ Meet (pt a i) (pt a (i + 1)) (pt a k) (pt a (k + 1))) → spec_pgGood_l3 L κ1 a a.length v40 v41 i (pt a i) (pt a (i + 1)) m (i + 2) = κ1 a a.length v40 v41 (i + 1)) := by
  have hne : a ≠ [] := by intro e; subst e; simp at hil; omega
  refine search (lo := i + 2) (n := if i = 0 then (a.length : Int) - 1 else a.length) (hi := 12) (bad := fun k => Meet (pt a i) (pt a (i + 1)) (pt a k) (pt a (k + 1))) (by split <;> omega) ?_ ?_ ?_ m (i + 2) (Int.le_refl _) (by omega) (by split <;> omega) hm0
  · intro m v h0 _ h
    rw [spec_pgGood_l3]
    simp only [ilt_eq, isub_eq, iadd_eq]
    rw [wr_s (i := v - i) (by omega), wr_s (i := (a.length : Int) - 1) (by omega), wr_s (i := i + 1) (by omega)]
    by_cases h1 : v < (a.length : Int)
    · have h2 : ¬ (v - i < (a.length : Int) - 1) := by split at h <;> omega
      simp only [h1, h2, decide_true, decide_false, cond_true, cond_false]
    · simp only [h1, decide_false, cond_false]
  · intro m v h0 h hb
    rw [spec_pgGood_l3]
    have h1 : v < (a.length : Int) := by split at h <;> omega
    have h2 : v - i < (a.length : Int) - 1 := by split at h <;> omega
    have h3 : ¬ ((a.length : Int) = 0) := by omega
    simp only [ilt_eq, isub_eq, iadd_eq, ieq_eq]
    rw [wr_s (i := v - i) (by omega), wr_s (i := (a.length : Int) - 1) (by omega), wr_s (i := v + 1) (by omega)]
    simp only [h1, h2, h3, decide_true, decide_false, cond_true, cond_false, gbind_eq, lget_pt (show 0 ≤ v by omega) h1, lget_rem (show 0 ≤ v + 1 by omega) hne, Option.bind_some]
    rw [spec_pgMeet_eq (hin _).nr (hin _).nr (hin _).nr (hin _).nr]
    simp [hb]
  · intro m v h0 h hb
    rw [spec_pgGood_l3]
    have h1 : v < (a.length : Int) := by split at h <;> omega
    have h2 : v - i < (a.length : Int) - 1 := by split at h <;> omega
    have h3 : ¬ ((a.length : Int) = 0) := by omega
    simp only [ilt_eq, isub_eq, iadd_eq, ieq_eq]
    rw [wr_s (i := v - i) (by omega), wr_s (i := (a.length : Int) - 1) (by omega), wr_s (i := v + 1) (by omega)]
    simp only [h1, h2, h3, decide_true, decide_false, cond_true, cond_false, gbind_eq, lget_pt (show 0 ≤ v by omega) h1, lget_rem (show 0 ≤ v + 1 by omega) hne, Option.bind_some]
    rw [spec_pgMeet_eq (hin _).nr (hin _).nr (hin _).nr (hin _).nr]
    simp [hb]
theorem good_l2 {L : Nat} {a : List Pt} (hn : 3 ≤ (a.length : Int)) (hs : (a.length : Int) ≤ 10) (hL : 20 < L) (hin : ∀ i, In (pt a i)) {m : Nat} (hm : (a.length : Int) < m) :
    ((∃ i, 0 ≤ i ∧ i < (a.length : Int) ∧ (turn (pt a i) (pt a (i + 1)) (pt a (i + 2)) = 0 ∨ ∃ k, i + 2 ≤ k ∧ k < (if i = 0 then (a.length : Int) - 1 else a.length) ∧ Meet (pt a i) (pt a (i + 1)) (pt a k) (pt a (k + 1)))) → spec_pgGood_l2 L m a a.length a a.length 0 = some false) ∧
    ((∀ i, 0 ≤ i → i < (a.length : Int) → ¬ (turn (pt a i) (pt a (i + 1)) (pt a (i + 2)) = 0 ∨ ∃ k, i + 2 ≤ k ∧ k < (if i = 0 then (a.length : Int) - 1 else a.length) ∧ Meet (pt a i) (pt a (i + 1)) (pt a k) (pt a (k + 1)))) → spec_pgGood_l2 L m a a.length a a.length 0 = some true) := by
  have hne : a ≠ [] := by intro e; subst e; simp at hn
  have h3 : ¬ ((a.length : Int) = 0) := by omega
  refine search (f := fun m v => spec_pgGood_l2 L m a a.length a a.length v) (lo := 0) (n := (a.length : Int)) (hi := 10)
    (bad := fun i => turn (pt a i) (pt a (i + 1)) (pt a (i + 2)) = 0 ∨ ∃ k, i + 2 ≤ k ∧ k < (if i = 0 then (a.length : Int) - 1 else a.length) ∧ Meet (pt a i) (pt a (i + 1)) (pt a k) (pt a (k + 1))) hs ?_ ?_ ?_ m 0 (Int.le_refl _) (by omega) (by omega) (by omega)
  · intro m v h0 _ h
    simp only [spec_pgGood_l2, ilt_eq, h, decide_false, cond_false]
  · intro m v h0 h hb
    simp only [spec_pgGood_l2, ilt_eq, ieq_eq, iadd_eq, h3, h, decide_true, decide_false, cond_true, cond_false, gbind_eq, wr_s (i := v + 1) (by omega), wr_s (i := v + 2) (by omega), lget_pt h0 h, lget_rem (show 0 ≤ v + 1 by omega) hne, lget_rem (show 0 ≤ v + 2 by omega) hne, Option.bind_some]
    rw [spec_pgTurn_eq (hin _).nr (hin _).nr (hin _).nr]
    simp only [Option.bind_some]
    by_cases ht : turn (pt a v) (pt a (v + 1)) (pt a (v + 2)) = 0
    · simp only [ht, decide_true, cond_true]
    · simp only [ht, decide_false, cond_false]
      exact (good_l3 h0 h hs hin (by omega) (by omega)).1 (hb.resolve_left ht)
  · intro m v h0 h hb
    simp only [spec_pgGood_l2, ilt_eq, ieq_eq, iadd_eq, h3, h, decide_true, decide_false, cond_true, cond_false, gbind_eq, wr_s (i := v + 1) (by omega), wr_s (i := v + 2) (by omega), lget_pt h0 h, lget_rem (show 0 ≤ v + 1 by omega) hne, lget_rem (show 0 ≤ v + 2 by omega) hne, Option.bind_some]
    rw [spec_pgTurn_eq (hin _).nr (hin _).nr (hin _).nr]
    simp only [Option.bind_some]
    have ht : ¬ turn (pt a v) (pt a (v + 1)) (pt a (v + 2)) = 0 := fun e => hb (.inl e)
    simp only [ht, decide_false, cond_false]
    exact (good_l3 h0 h hs hin (by omega) (by omega)).2 fun k h1 h2 h3 => hb (.inr ⟨k, h1, h2, h3⟩)
end Go.AM
namespace Go.AM
theorem good_l0 {L : Nat} {a : List Pt} (hn : 3 ≤ (a.length : Int)) (hs : (a.length : Int) ≤ 10) (hL : 20 < L) {m : Nat} (hm : (a.length : Int) < m) :
    ((∃ i, 0 ≤ i ∧ i < (a.length : Int) ∧ (¬ In (pt a i) ∨ ∃ k, 0 ≤ k ∧ k < i ∧ pt a k = pt a i)) → spec_pgGood_l0 L m a a.length a a.length 0 = some false) ∧
    ((∀ i, 0 ≤ i → i < (a.length : Int) → ¬ (¬ In (pt a i) ∨ ∃ k, 0 ≤ k ∧ k < i ∧ pt a k = pt a i)) → spec_pgGood_l0 L m a a.length a a.length 0 = spec_pgGood_l2 L L a a.length a a.length 0) := by
  refine search (f := fun m v => spec_pgGood_l0 L m a a.length a a.length v) (lo := 0) (n := (a.length : Int)) (hi := 10)
    (bad := fun i => ¬ In (pt a i) ∨ ∃ k, 0 ≤ k ∧ k < i ∧ pt a k = pt a i) hs ?_ ?_ ?_ m 0 (Int.le_refl _) (by omega) (by omega) (by omega)
  · intro m v h0 _ h
    simp only [spec_pgGood_l0, ilt_eq, h, decide_false, cond_false, ilen_mapep]
  · intro m v h0 h hb
    simp only [spec_pgGood_l0, ilt_eq, ile_eq, h, h0, ilen_mapep, show v ≤ (a.length : Int) by omega, decide_true, Bool.and_self, cond_true, gbind_eq, lget_pt h0 h, Option.bind_some]
    by_cases hi : In (pt a v)
    · rw [spec_pgIs_eq.1 hi]
      simp only [Option.bind_some, Bool.not_true, cond_false]
      obtain ⟨k, q1, q2, q3⟩ := hb.resolve_left fun h => h hi
      exact (good_l1 h0 (by omega) hs (by omega)).1 ⟨k, q1, q2, q3⟩
    · rw [spec_pgIs_eq.2 hi]
      simp only [Option.bind_some, Bool.not_false, cond_true]
  · intro m v h0 h hb
    simp only [spec_pgGood_l0, ilt_eq, ile_eq, h, h0, ilen_mapep, show v ≤ (a.length : Int) by omega, decide_true, Bool.and_self, cond_true, gbind_eq, lget_pt h0 h, Option.bind_some]
    have hi : In (pt a v) := Classical.byContradiction fun e => hb (.inl e)
    rw [spec_pgIs_eq.1 hi]
    simp only [Option.bind_some, Bool.not_true, cond_false]
    exact (good_l1 h0 (by omega) hs (by omega)).2 fun k q1 q2 q3 => hb (.inr ⟨k, q1, q2, q3⟩)
theorem spec_l1In_eq {L : Nat} {n lo hi : Int} : spec_l1In L n lo hi = some (decide (lo ≤ n ∧ n ≤ hi)) := by
  unfold spec_l1In
  simp only [ile_eq]
  by_cases h1 : lo ≤ n <;> by_cases h2 : n ≤ hi <;> simp [h1, h2]
theorem impl_within_eq {L : Nat} {n lo hi : Int} : impl_within L n lo hi = some (decide (lo ≤ n ∧ n ≤ hi)) := by
  unfold impl_within
  simp only [ile_eq]
  by_cases h1 : lo ≤ n <;> by_cases h2 : n ≤ hi <;> simp [h1, h2]
open Classical in
theorem spec_pgGood_eq {L : Nat} {a : List Pt} (hL : 20 < L) : spec_pgGood L a = some (decide (Good_ a)) := by
  unfold spec_pgGood
  simp only [ilen_mapep, spec_l1In_eq, gbind_eq, Option.bind_some]
  by_cases hn : 3 ≤ (a.length : Int) ∧ (a.length : Int) ≤ 10
  · simp only [hn, and_self, decide_true, Bool.not_true, cond_false]
    have hne : a ≠ [] := by intro e; subst e; simp at hn
    by_cases h0 : ∃ i, 0 ≤ i ∧ i < (a.length : Int) ∧ (¬ In (pt a i) ∨ ∃ k, 0 ≤ k ∧ k < i ∧ pt a k = pt a i)
    · rw [(good_l0 hn.1 hn.2 hL (by omega)).1 h0]
      have : ¬ Good_ a := fun g => by
        obtain ⟨i, q1, q2, q3⟩ := h0
        rcases q3 with q3 | ⟨k, q4, q5, q6⟩
        · exact q3 (g.isIn i q1 q2)
        · exact g.ne i k q4 q5 q2 q6
      simp [this]
    · have h0' : ∀ i, 0 ≤ i → i < (a.length : Int) → ¬ (¬ In (pt a i) ∨ ∃ k, 0 ≤ k ∧ k < i ∧ pt a k = pt a i) := fun i q1 q2 q3 => h0 ⟨i, q1, q2, q3⟩
      rw [(good_l0 hn.1 hn.2 hL (by omega)).2 h0']
      have hIn : ∀ i, 0 ≤ i → i < (a.length : Int) → In (pt a i) := fun i q1 q2 => Classical.byContradiction fun e => h0' i q1 q2 (.inl e)
      have hin := in_all hIn hne
      by_cases h1 : ∃ i, 0 ≤ i ∧ i < (a.length : Int) ∧ (turn (pt a i) (pt a (i + 1)) (pt a (i + 2)) = 0 ∨ ∃ k, i + 2 ≤ k ∧ k < (if i = 0 then (a.length : Int) - 1 else a.length) ∧ Meet (pt a i) (pt a (i + 1)) (pt a k) (pt a (k + 1)))
      · rw [(good_l2 hn.1 hn.2 hL hin (by omega)).1 h1]
        have : ¬ Good_ a := fun g => by
          obtain ⟨i, q1, q2, q3⟩ := h1
          rcases q3 with q3 | ⟨k, q4, q5, q6⟩
          · exact g.turn i q1 q2 q3
          · exact g.apart i k q1 q4 (by split at q5 <;> omega) (by split at q5 <;> omega) q6
        simp [this]
      · have h1' : ∀ i, 0 ≤ i → i < (a.length : Int) → ¬ (turn (pt a i) (pt a (i + 1)) (pt a (i + 2)) = 0 ∨ ∃ k, i + 2 ≤ k ∧ k < (if i = 0 then (a.length : Int) - 1 else a.length) ∧ Meet (pt a i) (pt a (i + 1)) (pt a k) (pt a (k + 1))) := fun i q1 q2 q3 => h1 ⟨i, q1, q2, q3⟩
        rw [(good_l2 hn.1 hn.2 hL hin (by omega)).2 h1']
        have : Good_ a := ⟨hn.1, hn.2, hIn, fun i k q1 q2 q3 q4 => h0' i (by omega) q3 (.inr ⟨k, q1, q2, q4⟩), fun i q1 q2 q3 => h1' i q1 q2 (.inl q3), fun i k q1 q2 q3 q4 q5 => h1' i q1 (by omega) (.inr ⟨k, q2, by split <;> omega, q5⟩)⟩
        simp [this]
  · have : ¬ Good_ a := fun g => hn ⟨g.lo, g.hi⟩
    simp only [hn, this, decide_false, Bool.not_false, cond_true]
theorem arePegs_eq {L : Nat} {a : List Pt} (hs : (a.length : Int) ≤ 1000000) (hL : (a.length : Int) < L) :
    ((∃ i, 0 ≤ i ∧ i < (a.length : Int) ∧ ¬ In (pt a i)) → impl_arePegs L a = some false) ∧ ((∀ i, 0 ≤ i → i < (a.length : Int) → In (pt a i)) → impl_arePegs L a = some true) := by
  have key : (∃ i, 0 ≤ i ∧ i < (a.length : Int) ∧ ¬ In (pt a i)) → ∃ i, 0 ≤ i ∧ slices_IndexFunc_impl_Peg_impl_Peg_arePegs_l0 L a L 0 = some i := by
    have : ∀ (m : Nat) (v : Int), 0 ≤ v → (a.length : Int) - v < m → (∃ i, v ≤ i ∧ i < (a.length : Int) ∧ ¬ In (pt a i)) → ∃ i, 0 ≤ i ∧ slices_IndexFunc_impl_Peg_impl_Peg_arePegs_l0 L a m v = some i := by
      intro m
      induction m with
      | zero => rintro v h0 h ⟨i, q1, q2, _⟩; omega
      | succ m ih =>
        rintro v h0 h ⟨i, q1, q2, q3⟩
        have hv : v < (a.length : Int) := by omega
        simp only [slices_IndexFunc_impl_Peg_impl_Peg_arePegs_l0, ilt_eq, ilen_mapep, hv, decide_true, cond_true, gbind_eq, lget_pt h0 hv, Option.bind_some, impl_arePegs_1]
        by_cases hi : In (pt a v)
        · rw [impl_IsPeg_eq.1 hi]
          simp only [Option.bind_some, Bool.not_true, cond_false, iadd_eq]
          rw [wr_s (by omega)]
          refine ih (v + 1) (by omega) (by omega) ⟨i, ?_, q2, q3⟩
          by_cases e : i = v
          · subst e; exact absurd hi q3
          · omega
        · rw [impl_IsPeg_eq.2 hi]
          exact ⟨v, h0, by simp⟩
    exact this L 0 (Int.le_refl _) (by omega)
  constructor
  · intro h
    obtain ⟨i, q1, q2⟩ := key h
    simp only [impl_arePegs, slices_ContainsFunc_impl_Peg_impl_Peg_arePegs, slices_IndexFunc_impl_Peg_impl_Peg_arePegs, gbind_eq, q2, Option.bind_some, ile_eq, q1, decide_true, Bool.not_true]
  · intro h
    have := (search (f := fun m v => slices_IndexFunc_impl_Peg_impl_Peg_arePegs_l0 L a m v) (r := none) (k := some (-1)) (lo := 0) (n := (a.length : Int)) (hi := (a.length : Int)) (bad := fun i => False) (Int.le_refl _) (fun m v h0 _ h => by
        simp only [slices_IndexFunc_impl_Peg_impl_Peg_arePegs_l0, ilt_eq, ilen_mapep, h, decide_false, cond_false]) (fun m v h0 h hb => hb.elim) (fun m v h0 hv _ => by
        simp only [slices_IndexFunc_impl_Peg_impl_Peg_arePegs_l0, ilt_eq, ilen_mapep, hv, decide_true, cond_true, gbind_eq, lget_pt h0 hv, Option.bind_some, impl_arePegs_1]
        rw [impl_IsPeg_eq.1 (h v h0 hv)]
        simp only [Option.bind_some, Bool.not_true, cond_false, iadd_eq]
        rw [wr_s (by omega)]) L 0 (Int.le_refl _) (by omega) (by omega) (by omega)).2 fun _ _ _ h => h
    simp only [impl_arePegs, slices_ContainsFunc_impl_Peg_impl_Peg_arePegs, slices_IndexFunc_impl_Peg_impl_Peg_arePegs, gbind_eq, this, Option.bind_some, ile_eq]
    rfl
theorem contains_eq {L : Nat} {b : List Pt} {p : Pt} (hs : (b.length : Int) ≤ 1000000) (hL : (b.length : Int) < L) :
    ((∃ j, 0 ≤ j ∧ j < (b.length : Int) ∧ pt b j = p) → slices_Contains_impl_Peg_impl_Peg L b p.x p.y = some true) ∧ ((∀ j, 0 ≤ j → j < (b.length : Int) → ¬ pt b j = p) → slices_Contains_impl_Peg_impl_Peg L b p.x p.y = some false) := by
  have heq : ∀ v, (decide (p.x = (pt b v).x) && decide (p.y = (pt b v).y)) = decide (pt b v = p) := fun v => by
    rw [Bool.eq_iff_iff, pt_eq_iff]
    simp [eq_comm]
  have key : (∃ j, 0 ≤ j ∧ j < (b.length : Int) ∧ pt b j = p) → ∃ i, 0 ≤ i ∧ slices_Index_impl_Peg_impl_Peg_l0 L b p.x p.y L 0 = some i := by
    have : ∀ (m : Nat) (v : Int), 0 ≤ v → (b.length : Int) - v < m → (∃ i, v ≤ i ∧ i < (b.length : Int) ∧ pt b i = p) → ∃ i, 0 ≤ i ∧ slices_Index_impl_Peg_impl_Peg_l0 L b p.x p.y m v = some i := by
      intro m
      induction m with
      | zero => rintro v h0 h ⟨i, q1, q2, _⟩; omega
      | succ m ih =>
        rintro v h0 h ⟨i, q1, q2, q3⟩
        have hv : v < (b.length : Int) := by omega
        simp only [slices_Index_impl_Peg_impl_Peg_l0, ilt_eq, ilen_mapep, hv, decide_true, cond_true, gbind_eq, lget_pt h0 hv, Option.bind_some, ieq_eq, heq]
        by_cases hi : pt b v = p
        · exact ⟨v, h0, by simp [hi]⟩
        · simp only [hi, decide_false, cond_false, iadd_eq]
          rw [wr_s (by omega)]
          refine ih (v + 1) (by omega) (by omega) ⟨i, ?_, q2, q3⟩
          by_cases e : i = v
          · subst e; exact absurd q3 hi
          · omega
    exact this L 0 (Int.le_refl _) (by omega)
  constructor
  · intro h
    obtain ⟨i, q1, q2⟩ := key h
    simp only [slices_Contains_impl_Peg_impl_Peg, slices_Index_impl_Peg_impl_Peg, gbind_eq, q2, Option.bind_some, ile_eq, q1, decide_true]
  · intro h
    have := (search (f := fun m v => slices_Index_impl_Peg_impl_Peg_l0 L b p.x p.y m v) (r := none) (k := some (-1)) (lo := 0) (n := (b.length : Int)) (hi := (b.length : Int)) (bad := fun i => False) (Int.le_refl _) (fun m v h0 _ h => by
        simp only [slices_Index_impl_Peg_impl_Peg_l0, ilt_eq, ilen_mapep, h, decide_false, cond_false]) (fun m v h0 h hb => hb.elim) (fun m v h0 hv _ => by
        simp only [slices_Index_impl_Peg_impl_Peg_l0, ilt_eq, ilen_mapep, hv, decide_true, cond_true, gbind_eq, lget_pt h0 hv, Option.bind_some, ieq_eq, heq, h v h0 hv, decide_false, cond_false, iadd_eq]
        rw [wr_s (by omega)]) L 0 (Int.le_refl _) (by omega) (by omega) (by omega)).2 fun _ _ _ h => h
    simp only [slices_Contains_impl_Peg_impl_Peg, slices_Index_impl_Peg_impl_Peg, gbind_eq, this, Option.bind_some, ile_eq]
    rfl
theorem pt_take {a : List Pt} {i j : Int} (h0 : 0 ≤ j) (hj : j < i) (h1 : i ≤ a.length) : pt (lsub a 0 i) j = pt a j := by
  have h2 := lsub0_get h0 hj h1
  have h3 : ((lsub a 0 i).length : Int) = i := by rw [lsub0 (by omega) h1]; simp; omega
  rw [lget_pt h0 (by omega)] at h2
  exact Option.some.inj h2
def BadM (a : List Pt) (i k : Int) : Prop := k + 1 ≠ i ∧ ¬ (i + 1 = (a.length : Int) ∧ k = 0) ∧ Meet (pt a k) (pt a (k + 1)) (pt a i) (pt a (i + 1))
theorem poly_l1 {L : Nat} {κ0 : (List Pt) → Int → (List Pt) → Int → Int → Option Bool} {a v17 : List Pt} {v18 i : Int} (hi : 0 ≤ i) (hil : i < a.length) (hs : (a.length : Int) ≤ 10) (hin : ∀ i, In (pt a i)) {m : Nat} (hm : i < m) :
    ((∃ k, 0 ≤ k ∧ k < i ∧ BadM a i k) → impl_IsPolygon_l1 L κ0 a a.length v17 v18 i (pt a i) m 0 = some false) ∧
    ((∀ k, 0 ≤ k → k < i → ¬ BadM a i k) → impl_IsPolygon_l1 L κ0 a a.length v17 v18 i (pt a i) m 0 = κ0 a a.length v17 v18 (i + 1)) := by
  have hne : a ≠ [] := by intro e; subst e; simp at hil; omega
  refine search (lo := 0) (n := i) (hi := i) (bad := BadM a i) (Int.le_refl _) ?_ ?_ ?_ m 0 (Int.le_refl _) (by omega) (by omega) (by omega)
  · intro m v h0 _ h
    simp only [impl_IsPolygon_l1, ilt_eq, h, decide_false, cond_false, iadd_eq]
    rw [wr_s (by omega)]
  · intro m v h0 h hb
    obtain ⟨b1, b2, b3⟩ := hb
    simp only [impl_IsPolygon_l1, ilt_eq, ieq_eq, iadd_eq, wr_s (i := v + 1) (by omega), wr_s (i := i + 1) (by omega), h, b1, decide_true, decide_false, cond_true, cond_false, gbind_eq,
      lget_pt h0 (show v < (a.length : Int) by omega), lget_pt (show 0 ≤ v + 1 by omega) (show v + 1 < (a.length : Int) by omega), impl_at_eq hne (show (a.length : Int) ≤ 1000000000 by omega), Option.bind_some]
    rw [impl_meet_eq (hin _).nr (hin _).nr (hin _).nr (hin _).nr]
    rw [decide_eq_true b3]
    by_cases c1 : i + 1 = (a.length : Int)
    · have c2 : ¬ v = 0 := fun e => b2 ⟨c1, e⟩
      simp [c1, c2]
    · simp [c1]
  · intro m v h0 h hb
    simp only [impl_IsPolygon_l1, ilt_eq, ieq_eq, iadd_eq, wr_s (i := v + 1) (by omega), wr_s (i := i + 1) (by omega), h, decide_true, decide_false, cond_true, cond_false, gbind_eq,
      lget_pt h0 (show v < (a.length : Int) by omega), lget_pt (show 0 ≤ v + 1 by omega) (show v + 1 < (a.length : Int) by omega), impl_at_eq hne (show (a.length : Int) ≤ 1000000000 by omega), Option.bind_some]
    rw [impl_meet_eq (hin _).nr (hin _).nr (hin _).nr (hin _).nr]
    by_cases c0 : v + 1 = i
    · simp only [c0, decide_true, cond_true]
    · simp only [c0, decide_false, cond_false]
      by_cases c1 : i + 1 = (a.length : Int)
      · by_cases c2 : v = 0
        · simp [c1, c2]
        · have b3 : ¬ Meet (pt a v) (pt a (v + 1)) (pt a i) (pt a (i + 1)) := fun e => hb ⟨c0, fun q => c2 q.2, e⟩
          simp [c1, c2]
          rw [← c1]
          simp [b3]
      · have b3 : ¬ Meet (pt a v) (pt a (v + 1)) (pt a i) (pt a (i + 1)) := fun e => hb ⟨c0, fun q => c1 q.1, e⟩
        simp [c1, b3]
theorem poly_l0 {L : Nat} {a : List Pt} (hn : 3 ≤ (a.length : Int)) (hs : (a.length : Int) ≤ 10) (hL : 20 < L) (hin : ∀ i, In (pt a i)) {m : Nat} (hm : (a.length : Int) < m) :
    ((∃ i, 0 ≤ i ∧ i < (a.length : Int) ∧ ((∃ k, 0 ≤ k ∧ k < i ∧ pt a k = pt a i) ∨ turn (pt a (i - 1)) (pt a i) (pt a (i + 1)) = 0 ∨ ∃ k, 0 ≤ k ∧ k < i ∧ BadM a i k)) → impl_IsPolygon_l0 L m a a.length a a.length 0 = some false) ∧
    ((∀ i, 0 ≤ i → i < (a.length : Int) → ¬ ((∃ k, 0 ≤ k ∧ k < i ∧ pt a k = pt a i) ∨ turn (pt a (i - 1)) (pt a i) (pt a (i + 1)) = 0 ∨ ∃ k, 0 ≤ k ∧ k < i ∧ BadM a i k)) → impl_IsPolygon_l0 L m a a.length a a.length 0 = some true) := by
  have hne : a ≠ [] := by intro e; subst e; simp at hn
  have hc : ∀ v, 0 ≤ v → v < (a.length : Int) → ((∃ k, 0 ≤ k ∧ k < v ∧ pt a k = pt a v) → slices_Contains_impl_Peg_impl_Peg L (lsub a 0 v) (pt a v).x (pt a v).y = some true) ∧ ((¬ ∃ k, 0 ≤ k ∧ k < v ∧ pt a k = pt a v) → slices_Contains_impl_Peg_impl_Peg L (lsub a 0 v) (pt a v).x (pt a v).y = some false) := by
    intro v h0 h
    have hl : ((lsub a 0 v).length : Int) = v := by rw [lsub0 (by omega) (by omega)]; simp; omega
    obtain ⟨h1, h2⟩ := contains_eq (L := L) (b := lsub a 0 v) (p := pt a v) (by omega) (by omega)
    rw [hl] at h1 h2
    refine ⟨fun ⟨k, q1, q2, q3⟩ => h1 ⟨k, q1, q2, by rw [pt_take q1 q2 (by omega)]; exact q3⟩, fun hno => h2 fun j q1 q2 q3 => hno ⟨j, q1, q2, ?_⟩⟩
    rwa [pt_take q1 q2 (by omega)] at q3
  refine search (f := fun m v => impl_IsPolygon_l0 L m a a.length a a.length v) (lo := 0) (n := (a.length : Int)) (hi := 10)
    (bad := fun i => (∃ k, 0 ≤ k ∧ k < i ∧ pt a k = pt a i) ∨ turn (pt a (i - 1)) (pt a i) (pt a (i + 1)) = 0 ∨ ∃ k, 0 ≤ k ∧ k < i ∧ BadM a i k) hs ?_ ?_ ?_ m 0 (Int.le_refl _) (by omega) (by omega) (by omega)
  · intro m v h0 _ h
    simp only [impl_IsPolygon_l0, ilt_eq, h, decide_false, cond_false]
  · intro m v h0 h hb
    simp only [impl_IsPolygon_l0, ilt_eq, ile_eq, isub_eq, iadd_eq, h, h0, ilen_mapep, show v ≤ (a.length : Int) by omega, decide_true, Bool.and_self, cond_true, gbind_eq, lget_pt h0 h, Option.bind_some, wr_s (i := v + 1) (by omega), wr_s (i := v - 1) (by omega),
      impl_at_eq hne (show (a.length : Int) ≤ 1000000000 by omega)]
    rw [impl_turn_eq (hin _).nr (hin _).nr (hin _).nr]
    by_cases c : ∃ k, 0 ≤ k ∧ k < v ∧ pt a k = pt a v
    · rw [(hc v h0 h).1 c]; rfl
    · rw [(hc v h0 h).2 c]
      simp only [Option.bind_some, cond_false, ieq_eq]
      by_cases t : turn (pt a (v - 1)) (pt a v) (pt a (v + 1)) = 0
      · simp only [t, decide_true, cond_true]
      · simp only [t, decide_false, cond_false]
        exact (poly_l1 h0 h hs hin (by omega)).1 ((hb.resolve_left c).resolve_left t)
  · intro m v h0 h hb
    simp only [impl_IsPolygon_l0, ilt_eq, ile_eq, isub_eq, iadd_eq, h, h0, ilen_mapep, show v ≤ (a.length : Int) by omega, decide_true, Bool.and_self, cond_true, gbind_eq, lget_pt h0 h, Option.bind_some, wr_s (i := v + 1) (by omega), wr_s (i := v - 1) (by omega),
      impl_at_eq hne (show (a.length : Int) ≤ 1000000000 by omega)]
    rw [impl_turn_eq (hin _).nr (hin _).nr (hin _).nr, (hc v h0 h).2 fun c => hb (.inl c)]
    have t : ¬ turn (pt a (v - 1)) (pt a v) (pt a (v + 1)) = 0 := fun e => hb (.inr (.inl e))
    simp only [Option.bind_some, cond_false, ieq_eq, t, decide_false]
    exact (poly_l1 h0 h hs hin (by omega)).2 fun k q1 q2 q3 => hb (.inr (.inr ⟨k, q1, q2, q3⟩))
open Classical in
theorem impl_IsPolygon_eq {L : Nat} {a : List Pt} (hL : 20 < L) : impl_IsPolygon L a = some (decide (Good_ a)) := by
  unfold impl_IsPolygon
  simp only [ilen_mapep, impl_within_eq, gbind_eq, Option.bind_some]
  by_cases hn : 3 ≤ (a.length : Int) ∧ (a.length : Int) ≤ 10
  · simp only [hn, and_self, decide_true, Bool.not_true, cond_false]
    have hne : a ≠ [] := by intro e; subst e; simp at hn
    have hl : 0 < (a.length : Int) := by omega
    by_cases hI : ∀ i, 0 ≤ i → i < (a.length : Int) → In (pt a i)
    · rw [(arePegs_eq (by omega) (by omega)).2 hI]
      simp only [Option.bind_some, Bool.not_true, cond_false]
      have hin := in_all hI hne
      by_cases h0 : ∃ i, 0 ≤ i ∧ i < (a.length : Int) ∧ ((∃ k, 0 ≤ k ∧ k < i ∧ pt a k = pt a i) ∨ turn (pt a (i - 1)) (pt a i) (pt a (i + 1)) = 0 ∨ ∃ k, 0 ≤ k ∧ k < i ∧ BadM a i k)
      · rw [(poly_l0 hn.1 hn.2 hL hin (by omega)).1 h0]
        have : ¬ Good_ a := fun g => by
          obtain ⟨i, q1, q2, q3⟩ := h0
          rcases q3 with ⟨k, q4, q5, q6⟩ | q3 | ⟨k, q4, q5, q6, q7, q8⟩
          · exact g.ne i k q4 q5 q2 q6
          · refine g.turn ((i - 1) % a.length) (Int.emod_nonneg _ (by omega)) (Int.emod_lt_of_pos _ hl) ?_
            rw [pt_congr (a := a) (i := (i - 1) % a.length) (j := i - 1) (Int.emod_emod_of_dvd _ (Int.dvd_refl _)), pt_congr (a := a) (i := (i - 1) % a.length + 1) (j := i) (by rw [Int.emod_add_emod]; congr 1; omega),
              pt_congr (a := a) (i := (i - 1) % a.length + 2) (j := i + 1) (by rw [Int.emod_add_emod]; congr 1; omega)]
            exact q3
          · exact g.apart k i q4 (by omega) q2 (by
              rcases Int.lt_or_le (i - k) ((a.length : Int) - 1) with h | h
              · exact h
              · exact absurd ⟨by omega, by omega⟩ q7) q8
        simp [this]
      · have h0' : ∀ i, 0 ≤ i → i < (a.length : Int) → ¬ ((∃ k, 0 ≤ k ∧ k < i ∧ pt a k = pt a i) ∨ turn (pt a (i - 1)) (pt a i) (pt a (i + 1)) = 0 ∨ ∃ k, 0 ≤ k ∧ k < i ∧ BadM a i k) := fun i q1 q2 q3 => h0 ⟨i, q1, q2, q3⟩
        rw [(poly_l0 hn.1 hn.2 hL hin (by omega)).2 h0']
        have : Good_ a := ⟨hn.1, hn.2, hI, fun i k q1 q2 q3 q4 => h0' i (by omega) q3 (.inl ⟨k, q1, q2, q4⟩), fun i q1 q2 q3 => by
            refine h0' ((i + 1) % a.length) (Int.emod_nonneg _ (by omega)) (Int.emod_lt_of_pos _ hl) (.inr (.inl ?_))
            rw [pt_congr (a := a) (i := (i + 1) % a.length - 1) (j := i) (by rw [Int.emod_sub_emod]; congr 1; omega), pt_congr (a := a) (i := (i + 1) % a.length) (j := i + 1) (Int.emod_emod_of_dvd _ (Int.dvd_refl _)),
              pt_congr (a := a) (i := (i + 1) % a.length + 1) (j := i + 2) (by rw [Int.emod_add_emod]; congr 1; omega)]
            exact q3, fun i k q1 q2 q3 q4 q5 => h0' k (by omega) q3 (.inr (.inr ⟨i, q1, by omega, by omega, fun q => by omega, q5⟩))⟩
        simp [this]
    · have : ¬ Good_ a := fun g => hI g.isIn
      rw [(arePegs_eq (by omega) (by omega)).1 (by
        refine Classical.byContradiction fun h => hI fun i q1 q2 => Classical.byContradiction fun e => h ⟨i, q1, q2, e⟩)]
      simp [this]
  · have : ¬ Good_ a := fun g => hn ⟨g.lo, g.hi⟩
    simp only [hn, this, decide_false, Bool.not_false, cond_true]
end Go.AM
namespace Go.AM
def sm (g : Int → Int) : Nat → Int
  | 0 => 0
  | k + 1 => sm g k + g k
theorem sm_bd {g : Int → Int} {B : Int} (h : ∀ i, -B ≤ g i ∧ g i ≤ B) : ∀ k : Nat, -(k * B) ≤ sm g k ∧ sm g k ≤ k * B
  | 0 => by simp [sm]
  | k + 1 => by
    have h1 := sm_bd h k
    have h2 := h k
    simp only [sm]
    have : ((k + 1 : Nat) : Int) * B = k * B + B := by rw [Int.natCast_add, Int.add_mul]; simp
    omega
theorem sm_congr {g h : Int → Int} : ∀ {k : Nat}, (∀ i : Int, 0 ≤ i → i < k → g i = h i) → sm g k = sm h k
  | 0, _ => rfl
  | k + 1, hh => by simp only [sm]; rw [sm_congr fun i h1 h2 => hh i h1 (by omega), hh k (by omega) (by omega)]
theorem accum {β : Type} {f : Nat → Int → Int → Option β} {S : Int → Int} {r : Option β} {lo n : Int} (hstop : ∀ m, f (m + 1) (S n) n = r) (hgo : ∀ m v, lo ≤ v → v < n → f (m + 1) (S v) v = f m (S (v + 1)) (v + 1)) :
    ∀ (m : Nat) (v : Int), lo ≤ v → v ≤ n → n - v < m → f m (S v) v = r := by
  intro m
  induction m with
  | zero => intro v _ _ h; omega
  | succ m ih =>
    intro v hv hvn hm
    by_cases h : v < n
    · rw [hgo m v hv h]; exact ih (v + 1) (by omega) (by omega) (by omega)
    · have : v = n := by omega
      subst this
      exact hstop m
def cross (p q : Pt) : Int := p.x * q.y - p.y * q.x
theorem cross_bd {p q : Pt} (hp : Nr p) (hq : Nr q) : -2000000 ≤ cross p q ∧ cross p q ≤ 2000000 := by
  have h1 := mul_bd hp.1 hq.2
  have h2 := mul_bd hp.2 hq.1
  unfold cross
  omega
theorem impl_cross_eq {L : Nat} {p q : Pt} (hp : Nr p) (hq : Nr q) : impl_cross L p.x p.y q.x q.y = some (cross p q) := by
  have h1 := mul_bd hp.1 hq.2
  have h2 := mul_bd hp.2 hq.1
  unfold impl_cross cross
  simp only [isub_eq, imul_eq]
  rw [wr_id (n := p.x * q.y) (by omega), wr_id (n := p.y * q.x) (by omega), wr_id (by omega)]
theorem turn_cross (a b c : Pt) : turn a b c = cross a b + cross b c - cross a c := by unfold turn cross; grind
def area (a : List Pt) : Int := sm (fun i => cross (pt a i) (pt a (i + 1))) a.length
theorem impl_twice_eq {L : Nat} {a : List Pt} (hn : a ≠ []) (hs : (a.length : Int) ≤ 1000) (hL : (a.length : Int) < L) (hin : ∀ i, Nr (pt a i)) : impl_twice L a = some (area a) := by
  unfold impl_twice
  have := accum (f := fun m s v => impl_twice_l0 L a m s v) (S := fun v => sm (fun i => cross (pt a i) (pt a (i + 1))) v.toNat) (r := some (area a)) (lo := 0) (n := a.length) (fun m => by
    simp only [impl_twice_l0, ilt_eq, ilen_mapep, Int.lt_irrefl, decide_false, cond_false]; rfl) (fun m v h0 h => by
    simp only [impl_twice_l0, ilt_eq, ilen_mapep, h, decide_true, cond_true, gbind_eq, lget_pt h0 h, Option.bind_some, iadd_eq, wr_s (i := v + 1) (by omega), impl_at_eq hn (show (a.length : Int) ≤ 1000000000 by omega)]
    rw [impl_cross_eq (hin _) (hin _)]
    simp only [Option.bind_some]
    have h1 := sm_bd (fun i => cross_bd (hin i) (hin (i + 1))) v.toNat
    have h2 := cross_bd (hin v) (hin (v + 1))
    have h3 : (v.toNat : Int) * 2000000 ≤ 1000 * 2000000 := by omega
    rw [wr_id (by omega)]
    congr 1
    rw [show (v + 1).toNat = v.toNat + 1 by omega]
    simp only [sm]
    rw [Int.toNat_of_nonneg h0]) L 0 (Int.le_refl _) (by omega) (by omega)
  exact this
theorem fan_area (a : List Pt) (hn : 2 ≤ (a.length : Int)) : sm (fun i => turn (pt a 0) (pt a (i + 1)) (pt a (i + 2))) (a.length - 2) = area a := by
  have key : ∀ k : Nat, sm (fun i => turn (pt a 0) (pt a (i + 1)) (pt a (i + 2))) k + cross (pt a 0) (pt a (k + 1)) = sm (fun i => cross (pt a i) (pt a (i + 1))) (k + 1) := by
    intro k
    induction k with
    | zero => simp [sm]
    | succ k ih =>
      simp only [sm] at ih ⊢
      rw [turn_cross]
      have e1 : ((k + 1 : Nat) : Int) = (k : Int) + 1 := by omega
      have e2 : (k : Int) + 1 + 1 = (k : Int) + 2 := by omega
      rw [e1, e2]
      omega
  have h := key (a.length - 2)
  unfold area
  have e : a.length = (a.length - 2) + 1 + 1 := by omega
  conv => rhs; rw [e]
  simp only [sm] at h ⊢
  have e1 : (((a.length - 2 + 1 : Nat) : Int) + 1) = (a.length : Int) := by omega
  have e2 : (((a.length - 2 : Nat) : Int) + 1) = ((a.length - 2 + 1 : Nat) : Int) := by omega
  rw [e1]
  rw [e2] at h
  have e3 : pt a (a.length : Int) = pt a 0 := pt_congr (by simp)
  rw [e3]
  have e4 : cross (pt a ((a.length - 2 + 1 : Nat) : Int)) (pt a 0) = - cross (pt a 0) (pt a ((a.length - 2 + 1 : Nat) : Int)) := by unfold cross; grind
  rw [e4]
  rw [← e2] at h ⊢
  omega
theorem spec_pgArea_eq {L : Nat} {a : List Pt} (hn : 2 ≤ (a.length : Int)) (hs : (a.length : Int) ≤ 1000) (hL : (a.length : Int) < L) (hin : ∀ i, Nr (pt a i)) : spec_pgArea L a = some (area a) := by
  unfold spec_pgArea
  have := accum (f := fun m s v => spec_pgArea_l0 L a m s v) (S := fun v => sm (fun i => turn (pt a 0) (pt a (i + 1)) (pt a (i + 2))) (v - 2).toNat) (r := some (area a)) (lo := 2) (n := a.length) (fun m => by
    simp only [spec_pgArea_l0, ilt_eq, ilen_mapep, Int.lt_irrefl, decide_false, cond_false]
    rw [← fan_area a hn, show ((a.length : Int) - 2).toNat = a.length - 2 by omega]) (fun m v h0 h => by
    simp only [spec_pgArea_l0, ilt_eq, ilen_mapep, h, decide_true, cond_true, gbind_eq, lget_pt (show 0 ≤ v by omega) h, lget_pt (Int.le_refl 0) (show 0 < (a.length : Int) by omega), Option.bind_some, iadd_eq, isub_eq, wr_s (i := v + 1) (by omega), wr_s (i := v - 1) (by omega),
      lget_pt (show 0 ≤ v - 1 by omega) (show v - 1 < (a.length : Int) by omega)]
    rw [spec_pgTurn_eq (hin _) (hin _) (hin _)]
    simp only [Option.bind_some]
    have h1 := sm_bd (fun i => turn_bd (hin 0) (hin (i + 1)) (hin (i + 2))) (v - 2).toNat
    have h2 := turn_bd (hin 0) (hin (v - 1)) (hin v)
    have h3 : ((v - 2).toNat : Int) * 8000000 ≤ 1000 * 8000000 := by omega
    rw [wr_id (by omega)]
    congr 1
    rw [show (v + 1 - 2).toNat = (v - 2).toNat + 1 by omega]
    simp only [sm]
    rw [show (((v - 2).toNat : Nat) : Int) + 1 = v - 1 by omega, show (((v - 2).toNat : Nat) : Int) + 2 = v by omega]) L 2 (Int.le_refl _) (by omega) (by omega)
  exact this
end Go.AM
namespace Go.AM
def Cvx (a : List Pt) : Prop := ∀ i, 0 ≤ i → i < (a.length : Int) → sg (turn (pt a i) (pt a (i + 1)) (pt a (i + 2))) = sg (area a)
open Classical in
theorem spec_pgConvex_eq {L : Nat} {a : List Pt} (hn : 2 ≤ (a.length : Int)) (hs : (a.length : Int) ≤ 1000) (hL : (a.length : Int) < L) (hin : ∀ i, Nr (pt a i)) : spec_pgConvex L a = some (decide (Cvx a)) := by
  have hne : a ≠ [] := by intro e; subst e; simp at hn
  have h3 : ¬ ((a.length : Int) = 0) := by omega
  unfold spec_pgConvex
  rw [spec_pgArea_eq hn hs hL hin]
  simp only [gbind_eq, Option.bind_some, spec_l1Sign_eq]
  have := search (f := fun m v => spec_pgConvex_l0 L a (sg (area a)) m v) (r := some false) (k := some true) (lo := 0) (n := a.length) (hi := a.length) (bad := fun i => sg (turn (pt a i) (pt a (i + 1)) (pt a (i + 2))) ≠ sg (area a)) (Int.le_refl _) (fun m v h0 _ h => by
      simp only [spec_pgConvex_l0, ilt_eq, ilen_mapep, h, decide_false, cond_false]) (fun m v h0 h hb => by
      simp only [spec_pgConvex_l0, ilt_eq, ieq_eq, iadd_eq, ilen_mapep, h3, h, decide_true, decide_false, cond_true, cond_false, gbind_eq, wr_s (i := v + 1) (by omega), wr_s (i := v + 2) (by omega), lget_pt h0 h, lget_rem (show 0 ≤ v + 1 by omega) hne, lget_rem (show 0 ≤ v + 2 by omega) hne, Option.bind_some]
      rw [spec_pgTurn_eq (hin _) (hin _) (hin _)]
      simp only [Option.bind_some, spec_l1Sign_eq, hb, decide_false, Bool.not_false, cond_true]) (fun m v h0 h hb => by
      simp only [spec_pgConvex_l0, ilt_eq, ieq_eq, iadd_eq, ilen_mapep, h3, h, decide_true, decide_false, cond_true, cond_false, gbind_eq, wr_s (i := v + 1) (by omega), wr_s (i := v + 2) (by omega), lget_pt h0 h, lget_rem (show 0 ≤ v + 1 by omega) hne, lget_rem (show 0 ≤ v + 2 by omega) hne, Option.bind_some]
      rw [spec_pgTurn_eq (hin _) (hin _) (hin _)]
      simp only [Option.bind_some, spec_l1Sign_eq, Classical.not_not.1 hb, decide_true, Bool.not_true, cond_false]) L 0 (Int.le_refl _) (by omega) (by omega) (by omega)
  by_cases h : ∃ j, 0 ≤ j ∧ j < (a.length : Int) ∧ sg (turn (pt a j) (pt a (j + 1)) (pt a (j + 2))) ≠ sg (area a)
  · have e := this.1 h
    have : ¬ Cvx a := fun c => by obtain ⟨j, q1, q2, q3⟩ := h; exact q3 (c j q1 q2)
    simp only [this, decide_false]; exact e
  · have c : Cvx a := fun j q1 q2 => Classical.byContradiction fun q3 => h ⟨j, q1, q2, q3⟩
    have e := this.2 fun j q1 q2 q3 => h ⟨j, q1, q2, q3⟩
    simp only [c, decide_true]; exact e
open Classical in
theorem impl_isConvex_eq {L : Nat} {a : List Pt} (hn : 2 ≤ (a.length : Int)) (hs : (a.length : Int) ≤ 1000) (hL : (a.length : Int) < L) (hin : ∀ i, Nr (pt a i)) : impl_isConvex L a = some (decide (Cvx a)) := by
  have hne : a ≠ [] := by intro e; subst e; simp at hn
  have hl : 0 < (a.length : Int) := by omega
  unfold impl_isConvex
  rw [impl_twice_eq hne hs hL hin]
  simp only [gbind_eq, Option.bind_some, impl_sign_eq]
  have := search (f := fun m v => impl_isConvex_l0 L a (sg (area a)) m v) (r := some false) (k := some true) (lo := 0) (n := a.length) (hi := a.length) (bad := fun i => sg (turn (pt a (i - 1)) (pt a i) (pt a (i + 1))) ≠ sg (area a)) (Int.le_refl _) (fun m v h0 _ h => by
      simp only [impl_isConvex_l0, ilt_eq, ilen_mapep, h, decide_false, cond_false]) (fun m v h0 h hb => by
      simp only [impl_isConvex_l0, ilt_eq, ieq_eq, iadd_eq, isub_eq, ilen_mapep, h, decide_true, decide_false, cond_true, cond_false, gbind_eq, wr_s (i := v + 1) (by omega), wr_s (i := v - 1) (by omega), lget_pt h0 h, impl_at_eq hne (show (a.length : Int) ≤ 1000000000 by omega), Option.bind_some]
      rw [impl_turn_eq (hin _) (hin _) (hin _)]
      simp only [Option.bind_some, impl_sign_eq, hb, decide_false, Bool.not_false, cond_true]) (fun m v h0 h hb => by
      simp only [impl_isConvex_l0, ilt_eq, ieq_eq, iadd_eq, isub_eq, ilen_mapep, h, decide_true, decide_false, cond_true, cond_false, gbind_eq, wr_s (i := v + 1) (by omega), wr_s (i := v - 1) (by omega), lget_pt h0 h, impl_at_eq hne (show (a.length : Int) ≤ 1000000000 by omega), Option.bind_some]
      rw [impl_turn_eq (hin _) (hin _) (hin _)]
      simp only [Option.bind_some, impl_sign_eq, Classical.not_not.1 hb, decide_true, Bool.not_true, cond_false]) L 0 (Int.le_refl _) (by omega) (by omega) (by omega)
  by_cases h : ∃ j, 0 ≤ j ∧ j < (a.length : Int) ∧ sg (turn (pt a (j - 1)) (pt a j) (pt a (j + 1))) ≠ sg (area a)
  · have e := this.1 h
    have : ¬ Cvx a := fun c => by
      obtain ⟨j, q1, q2, q3⟩ := h
      have q := c ((j - 1) % a.length) (Int.emod_nonneg _ (by omega)) (Int.emod_lt_of_pos _ hl)
      rw [pt_congr (a := a) (i := (j - 1) % a.length) (j := j - 1) (Int.emod_emod_of_dvd _ (Int.dvd_refl _)), pt_congr (a := a) (i := (j - 1) % a.length + 1) (j := j) (by rw [Int.emod_add_emod]; congr 1; omega),
        pt_congr (a := a) (i := (j - 1) % a.length + 2) (j := j + 1) (by rw [Int.emod_add_emod]; congr 1; omega)] at q
      exact q3 q
    simp only [this, decide_false]; exact e
  · have c : Cvx a := fun j q1 q2 => Classical.byContradiction fun q3 => h ⟨(j + 1) % a.length, Int.emod_nonneg _ (by omega), Int.emod_lt_of_pos _ hl, by
      rw [pt_congr (a := a) (i := (j + 1) % a.length - 1) (j := j) (by rw [Int.emod_sub_emod]; congr 1; omega), pt_congr (a := a) (i := (j + 1) % a.length) (j := j + 1) (Int.emod_emod_of_dvd _ (Int.dvd_refl _)),
        pt_congr (a := a) (i := (j + 1) % a.length + 1) (j := j + 2) (by rw [Int.emod_add_emod]; congr 1; omega)]
      exact q3⟩
    have e := this.2 fun j q1 q2 q3 => h ⟨j, q1, q2, q3⟩
    simp only [c, decide_true]; exact e
theorem impl_size_eq {L : Nat} {n : Int} (h : -1000000000 ≤ n ∧ n ≤ 1000000000) : impl_size L n = some (n.natAbs : Int) := by
  unfold impl_size
  simp only [imax_eq, isub_eq]
  rw [wr_id (by omega)]
  congr 1
  split <;> omega
theorem spec_l1Abs_eq {L : Nat} {n : Int} (h : -1000000000 ≤ n ∧ n ≤ 1000000000) : spec_l1Abs L n = some (n.natAbs : Int) := by
  unfold spec_l1Abs spec_l1Most
  simp only [ilt_eq, isub_eq, gbind_eq]
  rw [wr_id (by omega)]
  by_cases h1 : 0 - n < n
  · simp only [h1, decide_true, cond_true, Option.bind_some]; congr 1; omega
  · simp only [h1, decide_false, cond_false, Option.bind_some]; congr 1; omega
theorem divisor_l0 {L : Nat} : ∀ (m : Nat) (u v : Int), (-1000000000 ≤ u ∧ u ≤ 1000000000) → (-1000000000 ≤ v ∧ v ≤ 1000000000) → v.natAbs < m → impl_divisor_l0 L m u v = some (Nat.gcd u.natAbs v.natAbs : Int)
  | 0, _, _, _, _, h => by omega
  | m + 1, u, v, hu, hv, hm => by
    simp only [impl_divisor_l0, ieq_eq]
    by_cases h0 : v = 0
    · subst h0
      simp only [decide_true, Bool.not_true, cond_false, impl_size_eq hu, gbind_eq, Option.bind_some]
      simp
    · simp only [h0, decide_false, Bool.not_false, cond_true, cond_false]
      have h1 : (irem u v).natAbs = u.natAbs % v.natAbs := by rw [irem_eq, Int.natAbs_tmod]
      have h2 := Nat.mod_lt u.natAbs (show 0 < v.natAbs by omega)
      rw [divisor_l0 m v (irem u v) hv (by omega) (by omega), h1]
      congr 2
      rw [Nat.gcd_comm u.natAbs, Nat.gcd_rec v.natAbs u.natAbs, Nat.gcd_comm]
theorem common_l0 {L : Nat} : ∀ (m : Nat) (u v : Nat), v < m → spec_pgCommon_l0 L m u v = some (Nat.gcd u v : Int)
  | 0, _, _, h => by omega
  | m + 1, u, v, hm => by
    simp only [spec_pgCommon_l0, ilt_eq, ieq_eq]
    by_cases h0 : v = 0
    · subst h0
      simp
    · have h1 : (0 : Int) < (v : Int) := by omega
      have h2 : ¬ ((v : Int) = 0) := by omega
      simp only [h1, h2, decide_true, decide_false, cond_true, cond_false]
      have h3 : irem (u : Int) (v : Int) = ((u % v : Nat) : Int) := by rw [irem_nn (by omega)]; simp
      have h4 := Nat.mod_lt u (show 0 < v by omega)
      rw [h3, common_l0 m v (u % v) (by omega)]
      congr 2
      rw [Nat.gcd_comm u v, Nat.gcd_rec v u, Nat.gcd_comm]
def step (p q : Pt) : Int := (Nat.gcd (p.x - q.x).natAbs (p.y - q.y).natAbs : Int)
theorem step_bd {p q : Pt} (hp : Nr p) (hq : Nr q) : -4000 ≤ step p q ∧ step p q ≤ 4000 := by
  have h := sub_bd hp hq
  unfold step
  have : Nat.gcd (p.x - q.x).natAbs (p.y - q.y).natAbs ≤ (p.x - q.x).natAbs + (p.y - q.y).natAbs := by
    by_cases h0 : (p.x - q.x).natAbs = 0
    · rw [h0]; simp
    · have := Nat.gcd_le_left (p.y - q.y).natAbs (show 0 < (p.x - q.x).natAbs by omega); omega
  omega
theorem impl_steps_eq {L : Nat} {p q : Pt} (hp : Nr p) (hq : Nr q) (hL : 3000 < L) : impl_steps L p.x p.y q.x q.y = some (step p q) := by
  have h := sub_bd hp hq
  unfold impl_steps impl_divisor
  simp only [isub_eq, gbind_eq]
  rw [wr_id (n := p.x - q.x) (by omega), wr_id (n := p.y - q.y) (by omega), divisor_l0 L _ _ (by omega) (by omega) (by omega)]
  rfl
theorem spec_pgStep_eq {L : Nat} {p q : Pt} (hp : Nr p) (hq : Nr q) (hL : 3000 < L) : spec_pgStep L p.x p.y q.x q.y = some (step p q) := by
  have h := sub_bd hp hq
  unfold spec_pgStep spec_pgCommon
  simp only [isub_eq, gbind_eq]
  rw [wr_id (n := p.x - q.x) (by omega), wr_id (n := p.y - q.y) (by omega), spec_l1Abs_eq (by omega), spec_l1Abs_eq (by omega)]
  simp only [Option.bind_some]
  rw [common_l0 L _ _ (by omega)]
  rfl
def round (a : List Pt) : Int := sm (fun i => step (pt a i) (pt a (i + 1))) a.length
theorem impl_around_eq {L : Nat} {a : List Pt} (hn : a ≠ []) (hs : (a.length : Int) ≤ 1000) (hL : 3000 < L) (hin : ∀ i, Nr (pt a i)) : impl_around L a = some (round a) := by
  unfold impl_around
  have := accum (f := fun m s v => impl_around_l0 L a m s v) (S := fun v => sm (fun i => step (pt a i) (pt a (i + 1))) v.toNat) (r := some (round a)) (lo := 0) (n := a.length) (fun m => by
    simp only [impl_around_l0, ilt_eq, ilen_mapep, Int.lt_irrefl, decide_false, cond_false]; rfl) (fun m v h0 h => by
    simp only [impl_around_l0, ilt_eq, ilen_mapep, h, decide_true, cond_true, gbind_eq, lget_pt h0 h, Option.bind_some, iadd_eq, wr_s (i := v + 1) (by omega), impl_at_eq hn (show (a.length : Int) ≤ 1000000000 by omega)]
    rw [impl_steps_eq (hin _) (hin _) hL]
    simp only [Option.bind_some]
    have h1 := sm_bd (fun i => step_bd (hin i) (hin (i + 1))) v.toNat
    have h2 := step_bd (hin v) (hin (v + 1))
    have h3 : (v.toNat : Int) * 4000 ≤ 1000 * 4000 := by omega
    rw [wr_id (by omega)]
    congr 1
    rw [show (v + 1).toNat = v.toNat + 1 by omega]
    simp only [sm]
    rw [Int.toNat_of_nonneg h0]) L 0 (Int.le_refl _) (by omega) (by omega)
  exact this
theorem spec_pgRound_eq {L : Nat} {a : List Pt} (hn : a ≠ []) (hs : (a.length : Int) ≤ 1000) (hL : 3000 < L) (hin : ∀ i, Nr (pt a i)) : spec_pgRound L a = some (round a) := by
  have h3 : ¬ ((a.length : Int) = 0) := by have := List.length_pos_iff.2 hn; omega
  unfold spec_pgRound
  have := accum (f := fun m s v => spec_pgRound_l0 L a m s v) (S := fun v => sm (fun i => step (pt a i) (pt a (i + 1))) v.toNat) (r := some (round a)) (lo := 0) (n := a.length) (fun m => by
    simp only [spec_pgRound_l0, ilt_eq, ilen_mapep, Int.lt_irrefl, decide_false, cond_false]; rfl) (fun m v h0 h => by
    simp only [spec_pgRound_l0, ilt_eq, ieq_eq, ilen_mapep, h, h3, decide_true, decide_false, cond_true, cond_false, gbind_eq, lget_pt h0 h, Option.bind_some, iadd_eq, wr_s (i := v + 1) (by omega), lget_rem (show 0 ≤ v + 1 by omega) hn]
    rw [spec_pgStep_eq (hin _) (hin _) hL]
    simp only [Option.bind_some]
    have h1 := sm_bd (fun i => step_bd (hin i) (hin (i + 1))) v.toNat
    have h2 := step_bd (hin v) (hin (v + 1))
    have h3 : (v.toNat : Int) * 4000 ≤ 1000 * 4000 := by omega
    rw [wr_id (by omega)]
    congr 1
    rw [show (v + 1).toNat = v.toNat + 1 by omega]
    simp only [sm]
    rw [Int.toNat_of_nonneg h0]) L 0 (Int.le_refl _) (by omega) (by omega)
  exact this
theorem area_bd {a : List Pt} (hs : (a.length : Int) ≤ 100) (hin : ∀ i, Nr (pt a i)) : -200000000 ≤ area a ∧ area a ≤ 200000000 := by
  have h1 := sm_bd (fun i => cross_bd (hin i) (hin (i + 1))) a.length
  unfold area
  omega
noncomputable def inside (a : List Pt) : Int := wr .i64 (((wr .i64 (wr .i64 ((area a).natAbs + 2) - round a))).tdiv 2)
theorem inner_eq {L : Nat} {a : List Pt} (hn : 2 ≤ (a.length : Int)) (hs : (a.length : Int) ≤ 100) (hL : 3000 < L) (hin : ∀ i, Nr (pt a i)) : spec_pgInside L a = some (inside a) ∧ impl_inner L a = some (inside a) := by
  have hne : a ≠ [] := by intro e; subst e; simp at hn
  have hb := area_bd hs hin
  constructor
  · unfold spec_pgInside inside
    rw [spec_pgArea_eq hn (by omega) (by omega) hin]
    simp only [gbind_eq, Option.bind_some, spec_l1Abs_eq (show -1000000000 ≤ area a ∧ area a ≤ 1000000000 by omega), spec_pgRound_eq hne (show (a.length : Int) ≤ 1000 by omega) hL hin, ieq_eq, isub_eq, iadd_eq, iquo_eq]
    rfl
  · unfold impl_inner inside
    rw [impl_twice_eq hne (by omega) (by omega) hin]
    simp only [gbind_eq, Option.bind_some, impl_size_eq (show -1000000000 ≤ area a ∧ area a ≤ 1000000000 by omega), impl_around_eq hne (show (a.length : Int) ≤ 1000 by omega) hL hin, ieq_eq, isub_eq, iadd_eq, iquo_eq]
    rfl
end Go.AM
namespace Go.AM
theorem turn_swap (a b p : Pt) : turn b a p = - turn a b p := by unfold turn; grind
theorem mul_self_nn (x : Int) : 0 ≤ x * x := by
  rcases Int.le_total 0 x with h | h
  · exact Int.mul_nonneg h h
  · have := Int.mul_nonneg (show 0 ≤ -x by omega) (show 0 ≤ -x by omega); rw [Int.neg_mul_neg] at this; exact this
theorem on_of {a b p : Pt} (ht : turn a b p = 0) (h1 : (a.y - p.y) * (b.y - p.y) ≤ 0) (h2 : a.y ≠ b.y) : OnL a b p := by
  refine ⟨ht, ?_, h1⟩
  have e : ((a.x - p.x) * (b.x - p.x)) * ((b.y - a.y) * (b.y - a.y)) = ((b.x - a.x) * (b.x - a.x)) * ((a.y - p.y) * (b.y - p.y)) := by
    unfold turn at ht
    have e1 : (b.x - a.x) * (p.y - a.y) = (b.y - a.y) * (p.x - a.x) := by omega
    grind
  have h3 := mul_self_nn (b.x - a.x)
  have h4 : ((b.x - a.x) * (b.x - a.x)) * ((a.y - p.y) * (b.y - p.y)) ≤ 0 := Int.mul_nonpos_of_nonneg_of_nonpos h3 h1
  have h5 : 0 < (b.y - a.y) * (b.y - a.y) := by
    have := mul_self_nn (b.y - a.y)
    rcases Int.lt_or_eq_of_le this with h | h
    · exact h
    · have := Int.mul_eq_zero.1 h.symm
      omega
  rw [← e] at h4
  rcases Int.le_total ((a.x - p.x) * (b.x - p.x)) 0 with h | h
  · exact h
  · rcases Int.lt_or_eq_of_le h with h | h
    · have := Int.mul_pos h h5
      omega
    · omega
theorem where_eq {L : Nat} {a : List Pt} {q : Pt} (hn : a ≠ []) (hs : (a.length : Int) ≤ 1000) (hin : ∀ i, Nr (pt a i)) (hq : Nr q) : ∀ (m : Nat) (v : Int) (s : Bool), 0 ≤ v → v ≤ a.length → (a.length : Int) - v < m →
    ∃ r, spec_pgWhere_l0 L a q.x q.y m s v = some r ∧ impl_where_l0 L a q.x q.y m (if s then 1 else -1) v = some r
  | 0, _, _, _, _, h => by omega
  | m + 1, v, s, h0, hv, hm => by
    have h3 : ¬ ((a.length : Int) = 0) := by have := List.length_pos_iff.2 hn; omega
    by_cases h : v < (a.length : Int)
    · obtain ⟨r, r1, r2⟩ := where_eq (L := L) hn hs hin hq m (v + 1) s (by omega) (by omega) (by omega)
      obtain ⟨r', r1', r2'⟩ := where_eq (L := L) hn hs hin hq m (v + 1) (!s) (by omega) (by omega) (by omega)
      have eneg : wr .i64 (0 - (if s then 1 else -1)) = (if (!s) = true then 1 else -1) := by cases s <;> exact wr_id (by decide)
      simp only [spec_pgWhere_l0, impl_where_l0, ilt_eq, ile_eq, ieq_eq, iadd_eq, isub_eq, beqb_eq, ilen_mapep, h, h3, decide_true, decide_false, cond_true, cond_false, gbind_eq, wr_s (i := v + 1) (by omega), lget_pt h0 h, lget_rem (show 0 ≤ v + 1 by omega) hn,
        impl_at_eq hn (show (a.length : Int) ≤ 1000000000 by omega), Option.bind_some]
      rw [spec_pgOn_eq (hin _) (hin _) hq, impl_isOn_eq (hin _) (hin _) hq, spec_pgTurn_eq (hin _) (hin _) hq, spec_pgTurn_eq (hin _) (hin _) hq, impl_turn_eq (hin _) (hin _) hq]
      simp only [Option.bind_some, eneg]
      generalize pt a v = A at *
      generalize pt a (v + 1) = B at *
      by_cases hO : OnL A B q
      · exact ⟨0, by simp [hO], by simp [hO]⟩
      · simp only [hO, decide_false, cond_false]
        rw [turn_swap A B q]
        have hz : turn A B q = 0 → ¬ ((A.y - q.y) * (B.y - q.y) ≤ 0 ∧ A.y ≠ B.y) := fun e h => hO (on_of e h.1 h.2)
        rw [mul_le0] at hz
        by_cases c1 : B.y < A.y
        · simp only [c1, decide_true, cond_true]
          by_cases c2 : B.y ≤ q.y
          · by_cases c3 : q.y < A.y
            · have c4 : ¬ q.y < B.y := by omega
              have c5 : ¬ A.y < B.y := by omega
              by_cases c6 : 0 < turn A B q
              · have c7 : ¬ turn A B q < 0 := by omega
                exact ⟨r, by simp [c2, c3, c7, r1], by simp [c3, c4, c5, c6, r2]⟩
              · have c7 : turn A B q < 0 := by
                  have : turn A B q ≠ 0 := fun e => hz e ⟨by omega, by omega⟩
                  omega
                exact ⟨r', by simp [c2, c3, c7, r1'], by simpa [c3, c4, c5, c6] using r2'⟩
            · have c4 : ¬ q.y < B.y := by omega
              exact ⟨r, by simp [c2, c3, r1], by simp [c3, c4, r2]⟩
          · have c3 : q.y < A.y := by omega
            have c4 : q.y < B.y := by omega
            exact ⟨r, by simp [c2, r1], by simp [c3, c4, r2]⟩
        · simp only [c1, decide_false, cond_false]
          by_cases c2 : A.y ≤ q.y
          · have c3 : ¬ q.y < A.y := by omega
            by_cases c4 : q.y < B.y
            · have c5 : A.y < B.y := by omega
              by_cases c6 : 0 < turn A B q
              · exact ⟨r', by simp [c2, c4, c6, r1'], by simpa [c3, c4, c5, c6] using r2'⟩
              · exact ⟨r, by simp [c2, c4, c6, r1], by simp [c3, c4, c5, c6, r2]⟩
            · exact ⟨r, by simp [c2, c4, r1], by simp [c3, c4, r2]⟩
          · have c3 : q.y < A.y := by omega
            have c4 : q.y < B.y := by omega
            exact ⟨r, by simp [c2, r1], by simp [c3, c4, r2]⟩
    · simp only [spec_pgWhere_l0, impl_where_l0, ilt_eq, ilen_mapep, h, decide_false, cond_false]
      cases s
      · exact ⟨-1, rfl, rfl⟩
      · exact ⟨1, rfl, rfl⟩
theorem one_eq {L : Nat} {a : List Pt} (hL : 3000 < L) : ∃ r, spec_duOne L a = some r ∧ impl_isDualist L a = some r ∧ (r = true → Good_ a ∧ Cvx a) := by
  classical
  unfold spec_duOne impl_isDualist
  rw [spec_pgGood_eq (by omega), impl_IsPolygon_eq (by omega)]
  simp only [gbind_eq, Option.bind_some]
  by_cases g : Good_ a
  · have hne : a ≠ [] := by intro e; subst e; have := g.lo; simp at this
    have hin : ∀ i, Nr (pt a i) := fun i => (in_all g.isIn hne i).nr
    have h1 := g.lo
    have h2 := g.hi
    simp only [g, decide_true, Bool.not_true, cond_true, cond_false]
    unfold impl_isOneInside
    rw [spec_pgConvex_eq (by omega) (by omega) (by omega) hin, impl_isConvex_eq (by omega) (by omega) (by omega) hin, (inner_eq (by omega) (by omega) hL hin).1, (inner_eq (by omega) (by omega) hL hin).2]
    simp only [gbind_eq, Option.bind_some, ieq_eq, ilt_eq]
    by_cases c : Cvx a
    · simp only [c, decide_true, Bool.not_true, cond_true, cond_false]
      by_cases i : inside a = 1
      · simp only [i, decide_true, Bool.not_true, cond_true, cond_false]
        obtain ⟨r, r1, r2⟩ := where_eq (L := L) (q := ⟨0, 0⟩) hne (by omega) hin (by unfold Nr; simp) L 0 false (Int.le_refl _) (by omega) (by omega)
        have e1 : spec_pgWhere L a 0 0 = some r := r1
        have e2 : impl_where L a 0 0 = some r := r2
        rw [e1, e2]
        exact ⟨decide (0 < r), rfl, rfl, fun _ => ⟨trivial, trivial⟩⟩
      · simp only [i, decide_false, Bool.not_false, cond_true, cond_false]
        exact ⟨false, rfl, rfl, fun h => by cases h⟩
    · simp only [c, decide_false, Bool.not_false, cond_true, cond_false]
      exact ⟨false, rfl, rfl, fun h => by cases h⟩
  · simp only [g, decide_false, Bool.not_false, cond_true, cond_false]
    exact ⟨false, rfl, rfl, fun h => by cases h⟩
end Go.AM
namespace Go.AM
def Less (p q : Pt) : Prop := p.x < q.x ∨ (p.x = q.x ∧ p.y < q.y)
instance (p q : Pt) : Decidable (Less p q) := by unfold Less; infer_instance
theorem Less.trans {p q r : Pt} (h : Less p q) (k : Less q r) : Less p r := by unfold Less at *; omega
theorem Less.irrefl (p : Pt) : ¬ Less p p := by unfold Less; omega
theorem not_less_eq {p q : Pt} (h : ¬ Less p q) (k : ¬ Less q p) : p = q := by
  unfold Less at *
  cases p; cases q
  simp only [Pt.mk.injEq] at *
  omega
theorem spec_pgLess_eq {L : Nat} {p q : Pt} : spec_pgLess L p.x p.y q.x q.y = some (decide (Less p q)) := by
  unfold spec_pgLess Less
  simp only [ilt_eq, ieq_eq]
  by_cases h1 : p.x < q.x <;> by_cases h2 : p.x = q.x <;> by_cases h3 : p.y < q.y <;> simp [h1, h2, h3]
def cmpI (a b : Int) : Int := if a < b then -1 else if b < a then 1 else 0
theorem cmp_eq {L : Nat} {a b : Int} : cmp_Compare_int L a b = some (cmpI a b) := by
  unfold cmp_Compare_int cmp_isNaN_int cmpI
  simp only [gbind_eq, ieq_eq, decide_true, Bool.not_true, Option.bind_some, cond_false, ilt_eq]
  by_cases h1 : a < b <;> by_cases h2 : b < a <;> simp [h1, h2]
theorem impl_compare_eq {L : Nat} {p q : Pt} (hL : 5 < L) : ∃ c, impl_comparePegs L p.x p.y q.x q.y = some c ∧ (c < 0 ↔ Less p q) := by
  unfold impl_comparePegs cmp_Or_int
  simp only [gbind_eq, cmp_eq, Option.bind_some]
  obtain ⟨m, rfl⟩ : ∃ m, L = m + 3 := ⟨L - 3, by omega⟩
  have hl : ilen (List.map eI [cmpI p.x q.x, cmpI p.y q.y]) = 2 := by rw [ilen_eq]; rfl
  have g0 : lget [cmpI p.x q.x, cmpI p.y q.y] 0 = some (cmpI p.x q.x) := by rw [lget_eq]; rfl
  have g1 : lget [cmpI p.x q.x, cmpI p.y q.y] 1 = some (cmpI p.y q.y) := by rw [lget_eq]; rfl
  have w1 : wr .i64 (0 + 1) = 1 := wr_id (by decide)
  have w2 : wr .i64 (1 + 1) = 2 := wr_id (by decide)
  simp only [cmp_Or_int_l0, hl, ilt_eq, gbind_eq, g0, g1, iadd_eq, w1, w2, ieq_eq, Option.bind_some, show ((0 : Int) < 2) = True by simp, show ((1 : Int) < 2) = True by simp, show ((2 : Int) < 2) = False by simp, decide_true, decide_false, cond_true, cond_false]
  unfold cmpI Less
  by_cases h1 : p.x < q.x
  · exact ⟨-1, by simp [h1], by simp [h1]⟩
  · by_cases h2 : q.x < p.x
    · exact ⟨1, by simp [h1, h2], by simp [h1]; omega⟩
    · have e : p.x = q.x := by omega
      by_cases h3 : p.y < q.y
      · exact ⟨-1, by simp [h1, h2, h3], by simp [e, h3]⟩
      · by_cases h4 : q.y < p.y
        · exact ⟨1, by simp [h1, h2, h3, h4], by simp [e, h3]⟩
        · exact ⟨0, by simp [h1, h2, h3, h4], by simp [e, h3]⟩
def IsMin (a : List Pt) (k : Int) (n : Int) : Prop := 0 ≤ k ∧ k < (a.length : Int) ∧ ∀ i, 0 ≤ i → i < n → ¬ Less (pt a i) (pt a k)
theorem impl_first_l0_eq {L : Nat} {a : List Pt} (hs : (a.length : Int) ≤ 900000) (hL : 5 < L) : ∀ (m : Nat) (k v : Int), IsMin a k v → 0 ≤ v → v ≤ a.length → (a.length : Int) - v < m →
    ∃ r, impl_first_l0 L a m k v = some r ∧ IsMin a r a.length ∧ ((∀ i, 0 ≤ i → i < (a.length : Int) → ¬ Less (pt a i) (pt a k)) → r = k)
  | 0, _, _, _, _, _, h => by omega
  | m + 1, k, v, hk, h0, hv, hm => by
    by_cases h : v < (a.length : Int)
    · obtain ⟨c, hc, hc2⟩ := impl_compare_eq (p := pt a v) (q := pt a k) hL
      simp only [impl_first_l0, ilt_eq, ilen_mapep, h, decide_true, cond_true, gbind_eq, lget_pt h0 h, lget_pt hk.1 hk.2.1, Option.bind_some, hc, iadd_eq, wr_s (i := v + 1) (by omega)]
      by_cases hl : Less (pt a v) (pt a k)
      · simp only [hc2.2 hl, decide_true, cond_true]
        obtain ⟨r, r1, r2, r3⟩ := impl_first_l0_eq (L := L) hs hL m v (v + 1) ⟨h0, h, fun i q1 q2 => by
          by_cases e : i = v
          · subst e; exact Less.irrefl _
          · exact fun q => hk.2.2 i q1 (by omega) (q.trans hl)⟩ (by omega) (by omega) (by omega)
        exact ⟨r, r1, r2, fun hh => absurd hl (hh v h0 h)⟩
      · simp only [show ¬ c < 0 from fun q => hl (hc2.1 q), decide_false, cond_false]
        obtain ⟨r, r1, r2, r3⟩ := impl_first_l0_eq (L := L) hs hL m k (v + 1) ⟨hk.1, hk.2.1, fun i q1 q2 => by
          by_cases e : i = v
          · subst e; exact hl
          · exact hk.2.2 i q1 (by omega)⟩ (by omega) (by omega) (by omega)
        exact ⟨r, r1, r2, r3⟩
    · have e : v = a.length := by omega
      subst e
      simp only [impl_first_l0, ilt_eq, ilen_mapep, h, decide_false, cond_false]
      exact ⟨k, rfl, hk, fun _ => rfl⟩
theorem impl_first_eq {L : Nat} {a : List Pt} (hn : a ≠ []) (hs : (a.length : Int) ≤ 900000) (hL : (a.length : Int) + 5 < L) : ∃ r, impl_first L a = some r ∧ IsMin a r a.length ∧ ((∀ i, 0 ≤ i → i < (a.length : Int) → ¬ Less (pt a i) (pt a 0)) → r = 0) := by
  have hl : 0 < (a.length : Int) := by have := List.length_pos_iff.2 hn; omega
  exact impl_first_l0_eq hs (by omega) L 0 0 ⟨Int.le_refl _, hl, fun i q1 q2 => by omega⟩ (Int.le_refl _) (by omega) (by omega)
def tour (a : List Pt) (k s : Int) (n : Nat) : List Pt := (List.range n).map fun (j : Nat) => pt a (k + (j : Int) * s)
theorem fits_s {n : Int} {b : Nat} (h : n * b ≤ 140737488355328) : fits n b = true := by rw [fits_eq]; exact decide_eq_true h
theorem impl_told_l0_eq {L : Nat} {a : List Pt} {k s : Int} (hn : a ≠ []) (hs : (a.length : Int) ≤ 900000) (hk : 0 ≤ k ∧ k ≤ 900000) (hst : -1 ≤ s ∧ s ≤ 1) : ∀ (m : Nat) (v : Nat), v ≤ a.length → (a.length : Int) - v < m →
    impl_told_l0 L a k s m v (tour a k s v) = some (tour a k s a.length)
  | 0, _, _, h => by omega
  | m + 1, v, hv, hm => by
    by_cases h : (v : Int) < (a.length : Int)
    · have hb := mul_bd (x := v) (y := s) (A := 900000) (B := 1) (by omega) (by omega)
      have hlen : ((tour a k s v).length : Int) = v := by simp [tour]
      simp only [impl_told_l0, ilt_eq, ilen_mapep, h, decide_true, cond_true, gbind_eq, iadd_eq, imul_eq, wr_s (i := (v : Int) * s) (by omega), wr_id (n := k + (v : Int) * s) (by omega), impl_at_eq hn (show (a.length : Int) ≤ 1000000000 by omega), Option.bind_some, hlen, wr_s (i := (v : Int) + 1) (by omega)]
      rw [fits_s (by rw [ilen_eq]; simp; omega)]
      simp only [cond_true]
      have e : lcat (tour a k s v) [{ x := (pt a (k + v * s)).x, y := (pt a (k + v * s)).y }] = tour a k s (v + 1) := by
        rw [lcat_eq]; simp [tour, List.range_succ]
      rw [e]
      exact impl_told_l0_eq hn hs hk hst m (v + 1) (by omega) (by omega)
    · have e : v = a.length := by omega
      subst e
      simp only [impl_told_l0, ilt_eq, ilen_mapep, h, decide_false, cond_false]
theorem impl_told_eq {L : Nat} {a : List Pt} {k s : Int} (hn : a ≠ []) (hs : (a.length : Int) ≤ 900000) (hk : 0 ≤ k ∧ k ≤ 900000) (hst : -1 ≤ s ∧ s ≤ 1) (hL : (a.length : Int) < L) : impl_told L a k s = some (tour a k s a.length) := by
  unfold impl_told
  simp only [ile_eq, ilen_mapep, Int.le_refl, show 0 ≤ (a.length : Int) by omega, decide_true, Bool.and_self, fits_s (n := (a.length : Int)) (b := 16) (by omega), cond_true]
  have := impl_told_l0_eq (L := L) hn hs hk hst L 0 (by omega) (by omega)
  have e : tour a k s 0 = [] := rfl
  rw [e] at this
  rw [lrep_eq]
  exact this
end Go.AM
namespace Go.AM
theorem tour_len (a : List Pt) (k s : Int) (n : Nat) : (tour a k s n).length = n := by simp [tour]
theorem tour_get {a : List Pt} {k s : Int} {n j : Nat} (h : j < n) : (tour a k s n)[j]? = some (pt a (k + (j : Int) * s)) := by simp [tour, h]
theorem pt_tour {a : List Pt} {k s i : Int} (hn : a ≠ []) : pt (tour a k s a.length) i = pt a (k + (i % (a.length : Int)) * s) := by
  have hl : 0 < (a.length : Int) := by have := List.length_pos_iff.2 hn; omega
  have h1 := Int.emod_nonneg i (show (a.length : Int) ≠ 0 by omega)
  have h2 := Int.emod_lt_of_pos i hl
  conv => lhs; unfold pt
  rw [tour_len, List.getD_eq_getElem?_getD, tour_get (by omega), Int.toNat_of_nonneg h1]
  rfl
theorem tour_ext {a b : List Pt} {k s k' s' : Int} {n : Nat} (h : ∀ j : Nat, j < n → pt a (k + (j : Int) * s) = pt b (k' + (j : Int) * s')) : tour a k s n = tour b k' s' n := by
  unfold tour
  refine List.map_congr_left fun j hj => h j (by simpa using hj)
theorem rot_eq {c : List Pt} {k : Int} (h0 : 0 ≤ k) (h1 : k < c.length) : c.drop k.toNat ++ c.take k.toNat = tour c k 1 c.length := by
  apply List.ext_getElem?
  intro j
  by_cases hj : j < c.length
  · rw [tour_get hj, List.getElem?_append]
    simp only [List.length_drop, List.getElem?_drop, List.getElem?_take]
    split
    · have := pt_get (a := c) (i := k + j) (by omega) (by omega)
      rw [show k + (j : Int) * 1 = k + j by omega, ← this]
      congr 1; omega
    · rw [if_pos (by omega)]
      have := pt_get (a := c) (i := k + j - c.length) (by omega) (by omega)
      rw [show k + (j : Int) * 1 = k + j by omega]
      have e : pt c (k + j) = pt c (k + j - c.length) := pt_congr (by simp)
      rw [e, ← this]
      congr 1; omega
  · rw [List.getElem?_eq_none (by simp; omega), List.getElem?_eq_none (by rw [tour_len]; omega)]
theorem back_l0 {L : Nat} {a : List Pt} (hn : a ≠ []) (hs : (a.length : Int) ≤ 900000) : ∀ (m : Nat) (v : Int), 0 ≤ v → v < a.length → v < m → spec_pgBack_l0 L a m v (tour a 0 (-1) (a.length - v.toNat)) = some (tour a 0 (-1) a.length)
  | 0, _, _, _, h => by omega
  | m + 1, v, h0, hv, hm => by
    by_cases h : 0 < v
    · simp only [spec_pgBack_l0, ilt_eq, ilen_mapep, h, decide_true, cond_true, gbind_eq, iadd_eq, isub_eq, lget_pt h0 hv, Option.bind_some, tour_len, wr_s (i := v - 1) (by omega)]
      rw [fits_s (by rw [ilen_eq]; simp; omega)]
      simp only [cond_true]
      have e : lcat (tour a 0 (-1) (a.length - v.toNat)) [pt a v] = tour a 0 (-1) (a.length - (v - 1).toNat) := by
        rw [lcat_eq, show a.length - (v - 1).toNat = (a.length - v.toNat) + 1 by omega]
        have : pt a v = pt a (0 + ((a.length - v.toNat : Nat) : Int) * (-1)) := by
          rw [show 0 + ((a.length - v.toNat : Nat) : Int) * (-1) = v - a.length by omega]
          exact pt_congr (by simp)
        rw [this]
        simp [tour, List.range_succ]
      rw [e]
      exact back_l0 hn hs m (v - 1) (by omega) (by omega) (by omega)
    · have e : v = 0 := by omega
      subst e
      simp only [spec_pgBack_l0, ilt_eq, h, decide_false, cond_false]
      rfl
theorem spec_pgBack_eq {L : Nat} {a : List Pt} (hn : a ≠ []) (hs : (a.length : Int) ≤ 900000) (hL : (a.length : Int) < L) : spec_pgBack L a = some (tour a 0 (-1) a.length) := by
  have hl : 0 < (a.length : Int) := by have := List.length_pos_iff.2 hn; omega
  unfold spec_pgBack
  simp only [gbind_eq, lget_pt (Int.le_refl 0) hl, Option.bind_some, ilen_mapep, isub_eq, wr_s (i := (a.length : Int) - 1) (by omega)]
  have := back_l0 (L := L) hn hs L ((a.length : Int) - 1) (by omega) (by omega) (by omega)
  have e : tour a 0 (-1) (a.length - ((a.length : Int) - 1).toNat) = [pt a 0] := by
    rw [show a.length - ((a.length : Int) - 1).toNat = 1 by omega]
    rfl
  rw [e] at this
  exact this
theorem first_l1 {L : Nat} {c : List Pt} (hs : (c.length : Int) ≤ 900000) : ∀ (m : Nat) (k v : Int), IsMin c k v → 0 ≤ v → v ≤ c.length → (c.length : Int) - v < m →
    ∃ r, IsMin c r c.length ∧ spec_pgFirst_l1 L c m k v = some (tour c r 1 c.length)
  | 0, _, _, _, _, _, h => by omega
  | m + 1, k, v, hk, h0, hv, hm => by
    by_cases h : v < (c.length : Int)
    · simp only [spec_pgFirst_l1, ilt_eq, ilen_mapep, h, decide_true, cond_true, gbind_eq, lget_pt h0 h, lget_pt hk.1 hk.2.1, Option.bind_some, iadd_eq, wr_s (i := v + 1) (by omega), spec_pgLess_eq]
      by_cases hl : Less (pt c v) (pt c k)
      · simp only [hl, decide_true, cond_true]
        exact first_l1 (L := L) hs m v (v + 1) ⟨h0, h, fun i q1 q2 => by
          by_cases e : i = v
          · subst e; exact Less.irrefl _
          · exact fun q => hk.2.2 i q1 (by omega) (q.trans hl)⟩ (by omega) (by omega) (by omega)
      · simp only [hl, decide_false, cond_false]
        exact first_l1 (L := L) hs m k (v + 1) ⟨hk.1, hk.2.1, fun i q1 q2 => by
          by_cases e : i = v
          · subst e; exact hl
          · exact hk.2.2 i q1 (by omega)⟩ (by omega) (by omega) (by omega)
    · have e : v = c.length := by omega
      subst e
      have k0 := hk.1
      have k1 := hk.2.1
      refine ⟨k, hk, ?_⟩
      simp only [spec_pgFirst_l1, ilt_eq, ile_eq, ilen_mapep, h, decide_false, cond_false, k0, show k ≤ (c.length : Int) by omega, decide_true, Bool.and_self, cond_true, iadd_eq]
      rw [fits_s (by simp only [ilen_eq, lsub_eq]; simp; omega), fits_s (by simp only [ilen_eq, lsub_eq, lcat_eq]; simp; omega)]
      simp only [cond_true]
      rw [← rot_eq k0 k1, lcat_eq, lcat_eq, lsub_eq, lsub_eq]
      congr 1
      rw [List.nil_append, List.take_of_length_le (by simp; omega)]
      simp
theorem first_l0 {L : Nat} {c : List Pt} (hs : (c.length : Int) ≤ 900000) : ∀ (m : Nat) (k v : Int), IsMin c k v → 0 ≤ v → v ≤ c.length → (c.length : Int) - v < m →
    ∃ r, IsMin c r c.length ∧ spec_pgFirst_l0 L c m k v = some (tour c r 1 c.length)
  | 0, _, _, _, _, _, h => by omega
  | m + 1, k, v, hk, h0, hv, hm => by
    by_cases h : v < (c.length : Int)
    · simp only [spec_pgFirst_l0, ilt_eq, ile_eq, ilen_mapep, h, h0, hk.1, hk.2.1, Bool.and_self, decide_true, cond_true, gbind_eq, lget_pt h0 h, lget_pt hk.1 hk.2.1, Option.bind_some, iadd_eq, wr_s (i := v + 1) (by omega), spec_pgLess_eq]
      by_cases hl : Less (pt c v) (pt c k)
      · simp only [hl, decide_true, cond_true]
        exact first_l0 (L := L) hs m v (v + 1) ⟨h0, h, fun i q1 q2 => by
          by_cases e : i = v
          · subst e; exact Less.irrefl _
          · exact fun q => hk.2.2 i q1 (by omega) (q.trans hl)⟩ (by omega) (by omega) (by omega)
      · simp only [hl, decide_false, cond_false]
        exact first_l0 (L := L) hs m k (v + 1) ⟨hk.1, hk.2.1, fun i q1 q2 => by
          by_cases e : i = v
          · subst e; exact hl
          · exact hk.2.2 i q1 (by omega)⟩ (by omega) (by omega) (by omega)
    · have e : v = c.length := by omega
      subst e
      have k0 := hk.1
      have k1 := hk.2.1
      refine ⟨k, hk, ?_⟩
      simp only [spec_pgFirst_l0, ilt_eq, ile_eq, ilen_mapep, h, decide_false, cond_false, k0, show k ≤ (c.length : Int) by omega, decide_true, Bool.and_self, cond_true, iadd_eq, isub_eq]
      rw [fits_s (by simp only [ilen_eq, lsub_eq]; simp; omega), fits_s (by simp only [ilen_eq, lsub_eq, lcat_eq]; simp; omega)]
      simp only [cond_true]
      rw [← rot_eq k0 k1, lcat_eq, lcat_eq, lsub_eq, lsub_eq]
      congr 1
      rw [List.nil_append, List.take_of_length_le (by simp; omega)]
      simp
end Go.AM
namespace Go.AM
theorem pt_mod (a : List Pt) (i : Int) : pt a (i % (a.length : Int)) = pt a i := pt_congr (Int.emod_emod_of_dvd _ (Int.dvd_refl _))
theorem isMin_all {a : List Pt} {k : Int} (hn : a ≠ []) (h : IsMin a k a.length) (i : Int) : ¬ Less (pt a i) (pt a k) := by
  have hl : 0 < (a.length : Int) := by have := List.length_pos_iff.2 hn; omega
  have := h.2.2 (i % a.length) (Int.emod_nonneg _ (by omega)) (Int.emod_lt_of_pos _ hl)
  rwa [pt_mod] at this
theorem pt_inj {a : List Pt} (hn : a ≠ []) (hd : ∀ i k, 0 ≤ k → k < i → i < (a.length : Int) → pt a k ≠ pt a i) {i j : Int} (h : pt a i = pt a j) : i % (a.length : Int) = j % (a.length : Int) := by
  have hl : 0 < (a.length : Int) := by have := List.length_pos_iff.2 hn; omega
  rw [← pt_mod a i, ← pt_mod a j] at h
  have h1 := Int.emod_nonneg i (show (a.length : Int) ≠ 0 by omega)
  have h2 := Int.emod_lt_of_pos i hl
  have h3 := Int.emod_nonneg j (show (a.length : Int) ≠ 0 by omega)
  have h4 := Int.emod_lt_of_pos j hl
  rcases Int.lt_trichotomy (i % (a.length : Int)) (j % (a.length : Int)) with q | q | q
  · exact absurd h (hd _ _ h1 q h4)
  · exact q
  · exact absurd h.symm (hd _ _ h3 q h2)
structure Told (a c : List Pt) : Prop where
  ex : ∃ k s : Int, (s = 1 ∨ s = -1) ∧ c = tour a k s a.length ∧ IsMin a k a.length
theorem first_eq {L : Nat} {a : List Pt} (hn : a ≠ []) (hs : (a.length : Int) ≤ 1000) (hL : 3000 < L) (hin : ∀ i, Nr (pt a i)) (hd : ∀ i k, 0 ≤ k → k < i → i < (a.length : Int) → pt a k ≠ pt a i) (h2 : 2 ≤ (a.length : Int)) (hz : area a ≠ 0) :
    ∃ c, spec_pgFirst L a = some c ∧ impl_tellFirst L a = some c ∧ Told a c := by
  have hl : 0 < (a.length : Int) := by have := List.length_pos_iff.2 hn; omega
  obtain ⟨k, k1, k2, _⟩ := impl_first_eq (L := L) hn (by omega) (by omega)
  have hsg := sg_bd (area a)
  have key : ∀ s : Int, (s = 1 ∨ s = -1) → sg (area a) = s → impl_tellFirst L a = some (tour a k s a.length) := by
    intro s h1 h2
    unfold impl_tellFirst
    simp only [k1, gbind_eq, Option.bind_some, impl_twice_eq hn (show (a.length : Int) ≤ 1000 by omega) (show (a.length : Int) < L by omega) hin, impl_sign_eq, h2]
    rw [impl_told_eq hn (by omega) ⟨k2.1, by have := k2.2.1; omega⟩ (by omega) (by omega)]
    rfl
  unfold spec_pgFirst
  rw [spec_pgArea_eq h2 hs (by omega) hin]
  simp only [gbind_eq, Option.bind_some, ilt_eq]
  by_cases hneg : area a < 0
  · simp only [hneg, decide_true, cond_true]
    rw [spec_pgBack_eq hn (by omega) (by omega)]
    simp only [Option.bind_some]
    have hbl : (tour a 0 (-1) a.length).length = a.length := tour_len _ _ _ _
    have hbn : tour a 0 (-1) a.length ≠ [] := by intro e; rw [e] at hbl; simp at hbl; omega
    obtain ⟨r, r1, r2⟩ := first_l0 (L := L) (c := tour a 0 (-1) a.length) (by omega) L 0 0 ⟨Int.le_refl _, by omega, fun i q1 q2 => by omega⟩ (Int.le_refl _) (by omega) (by omega)
    have hsg1 : sg (area a) = -1 := by unfold sg; rw [if_neg (by omega), if_pos hneg]
    have hpb : ∀ i, pt (tour a 0 (-1) a.length) i = pt a (-i) := fun i => by
      rw [pt_tour hn]
      apply pt_congr
      rw [Int.mul_neg_one, Int.zero_add]
      have := Int.emod_add_mul_ediv i (a.length : Int)
      conv => rhs; rw [← this, show -(i % (a.length : Int) + (a.length : Int) * (i / (a.length : Int))) = -(i % (a.length : Int)) + (a.length : Int) * (-(i / (a.length : Int))) by rw [Int.neg_add, Int.mul_neg]]
      rw [Int.add_mul_emod_self_left]
    have hmin : pt a (-r) = pt a k := by
      refine not_less_eq (isMin_all hn k2 _) fun q => ?_
      have := isMin_all hbn r1 (-k)
      rw [hpb, hpb, Int.neg_neg] at this
      exact this q
    have hmod := pt_inj hn hd hmin
    refine ⟨tour a k (-1) a.length, ?_, key (-1) (.inr rfl) hsg1, ⟨k, -1, .inr rfl, rfl, k2⟩⟩
    rw [r2, hbl]
    congr 1
    refine tour_ext fun j hj => ?_
    rw [hpb]
    apply pt_congr
    rw [show -(r + (j : Int) * 1) = -r + (-(j : Int)) by omega, show k + (j : Int) * -1 = k + (-(j : Int)) by omega, Int.add_emod, hmod, ← Int.add_emod]
  · simp only [hneg, decide_false, cond_false]
    obtain ⟨r, r1, r2⟩ := first_l1 (L := L) (c := a) (by omega) L 0 0 ⟨Int.le_refl _, by omega, fun i q1 q2 => by omega⟩ (Int.le_refl _) (by omega) (by omega)
    have hsg1 : sg (area a) = 1 := by unfold sg; rw [if_pos (by omega)]
    have hmin : pt a r = pt a k := not_less_eq (isMin_all hn k2 _) (isMin_all hn r1 _)
    have hmod := pt_inj hn hd hmin
    refine ⟨tour a k 1 a.length, ?_, key 1 (.inl rfl) hsg1, ⟨k, 1, .inl rfl, rfl, k2⟩⟩
    rw [r2]
    congr 1
    refine tour_ext fun j hj => ?_
    apply pt_congr
    rw [Int.add_emod, hmod, ← Int.add_emod]
end Go.AM
namespace Go.AM
def mkp (p q : Pt) (j : Int) : Pt := ⟨p.x + (q.x - p.x).tdiv (step p q) * j, p.y + (q.y - p.y).tdiv (step p q) * j⟩
def seg (p q : Pt) (n : Nat) : List Pt := (List.range n).map fun (j : Nat) => mkp p q (j : Int)
theorem step_dvd (p q : Pt) : step p q ∣ (q.x - p.x) ∧ step p q ∣ (q.y - p.y) := by
  unfold step
  constructor
  · rw [Int.ofNat_dvd_left, show (q.x - p.x).natAbs = (p.x - q.x).natAbs by omega]; exact Nat.gcd_dvd_left _ _
  · rw [Int.ofNat_dvd_left, show (q.y - p.y).natAbs = (p.y - q.y).natAbs by omega]; exact Nat.gcd_dvd_right _ _
theorem step_nn (p q : Pt) : 0 ≤ step p q := by unfold step; omega
theorem tdiv_bd {a b A : Int} (h : -A ≤ a ∧ a ≤ A) : -A ≤ a.tdiv b ∧ a.tdiv b ≤ A := by
  have h1 : (a.tdiv b).natAbs ≤ a.natAbs := by rw [Int.natAbs_tdiv]; exact Nat.div_le_self _ _
  omega
theorem seg_succ (p q : Pt) (n : Nat) : seg p q (n + 1) = seg p q n ++ [mkp p q (n : Int)] := by simp [seg, List.range_succ]
theorem seg_len (p q : Pt) (n : Nat) : (seg p q n).length = n := by simp [seg]
def allp (c : List Pt) : Nat → List Pt
  | 0 => []
  | i + 1 => allp c i ++ seg (pt c i) (pt c (i + 1)) (step (pt c i) (pt c (i + 1))).toNat
theorem allp_len {c : List Pt} (hin : ∀ i, Nr (pt c i)) : ∀ i : Nat, (allp c i).length ≤ i * 4000
  | 0 => by simp [allp]
  | i + 1 => by
    have h := allp_len hin i
    have h2 := step_bd (hin i) (hin (i + 1))
    simp only [allp, List.length_append, seg_len]
    omega
theorem spec_seg {L : Nat} {κ0 : Int → Int → (List Pt) → (List Pt) → Option ((List Pt))} {n v : Int} {c w : List Pt} {p q : Pt} (hp : Nr p) (hq : Nr q) (hv : 0 ≤ v ∧ v ≤ 1000) (hw : (w.length : Int) ≤ 4000000) : ∀ (m : Nat) (j : Nat), (j : Int) ≤ step p q → step p q - j < m →
    spec_duAround_l1 L κ0 n v c p q (step p q) m j (w ++ seg p q j) = κ0 n (v + 1) c (w ++ seg p q (step p q).toNat)
  | 0, _, _, h => by omega
  | m + 1, j, hj, hm => by
    have hb := step_bd hp hq
    have hs := sub_bd hq hp
    by_cases h : (j : Int) < step p q
    · have h0 : ¬ step p q = 0 := by omega
      have d1 := tdiv_bd (b := step p q) hs.1
      have d2 := tdiv_bd (b := step p q) hs.2
      have m1 := mul_bd (y := (j : Int)) (B := 4000) d1 (by omega)
      have m2 := mul_bd (y := (j : Int)) (B := 4000) d2 (by omega)
      unfold Nr at hp hq
      simp only [spec_duAround_l1, ilt_eq, ieq_eq, h, h0, decide_true, decide_false, cond_true, cond_false, isub_eq, iadd_eq, imul_eq, iquo_eq, wr_id (n := q.x - p.x) (by omega), wr_id (n := q.y - p.y) (by omega), wr_id (n := (q.x - p.x).tdiv (step p q)) (by omega),
        wr_id (n := (q.y - p.y).tdiv (step p q)) (by omega), wr_id (n := (q.x - p.x).tdiv (step p q) * j) (by omega), wr_id (n := (q.y - p.y).tdiv (step p q) * j) (by omega), wr_id (n := p.x + (q.x - p.x).tdiv (step p q) * j) (by omega), wr_id (n := p.y + (q.y - p.y).tdiv (step p q) * j) (by omega), wr_s (i := (j : Int) + 1) (by omega)]
      rw [fits_s (by rw [ilen_mapep, ilen_eq]; simp [seg_len]; omega)]
      simp only [cond_true]
      have e : lcat (w ++ seg p q j) [{ x := p.x + (q.x - p.x).tdiv (step p q) * j, y := p.y + (q.y - p.y).tdiv (step p q) * j }] = w ++ seg p q (j + 1) := by
        rw [lcat_eq, seg_succ, List.append_assoc]; rfl
      rw [e]
      exact spec_seg hp hq hv hw m (j + 1) (by omega) (by omega)
    · have e : (j : Int) = step p q := by omega
      simp only [spec_duAround_l1, ilt_eq, h, decide_false, cond_false, iadd_eq, wr_s (i := v + 1) (by omega)]
      rw [← e]; simp
theorem spec_around_l0 {L : Nat} {c : List Pt} (hn : c ≠ []) (hs : (c.length : Int) ≤ 100) (hL : 5000 < L) (hin : ∀ i, Nr (pt c i)) : ∀ (m : Nat) (i : Nat), i ≤ c.length → (c.length : Int) - i < m → spec_duAround_l0 L m c.length i c (allp c i) = some (allp c c.length)
  | 0, _, _, h => by omega
  | m + 1, i, hi, hm => by
    have hl : 0 < (c.length : Int) := by have := List.length_pos_iff.2 hn; omega
    have h3 : ¬ ((c.length : Int) = 0) := by omega
    by_cases h : (i : Int) < (c.length : Int)
    · have b1 := Int.emod_nonneg ((i : Int) + 1) h3
      have b2 := Int.emod_lt_of_pos ((i : Int) + 1) hl
      have ha := allp_len hin i
      simp only [spec_duAround_l0, ilt_eq, ile_eq, ieq_eq, ilen_mapep, iadd_eq, h, h3, show 0 ≤ (i : Int) by omega, decide_true, decide_false, Bool.and_self, cond_true, cond_false, gbind_eq, lget_pt (show 0 ≤ (i : Int) by omega) h, Option.bind_some, wr_s (i := (i : Int) + 1) (by omega),
        lget_rem (show 0 ≤ (i : Int) + 1 by omega) hn, irem_nn (show 0 ≤ (i : Int) + 1 by omega), b1, b2]
      have hg : lget c (((i : Int) + 1) % (c.length : Int)) = some (pt c (i + 1)) := by rw [← irem_nn (by omega)]; exact lget_rem (by omega) hn
      rw [hg]
      simp only [Option.bind_some]
      rw [spec_pgStep_eq (hin _) (hin _) (by omega)]
      simp only [Option.bind_some]
      have hstep := step_bd (hin i) (hin (i + 1))
      have := spec_seg (L := L) (κ0 := spec_duAround_l0 L m) (n := c.length) (v := i) (c := c) (w := allp c i) (hin i) (hin (i + 1)) (by omega) (by omega) L 0 (step_nn _ _) (by omega)
      have e0 : seg (pt c i) (pt c (i + 1)) 0 = [] := rfl
      rw [e0, List.append_nil] at this
      refine this.trans ?_
      exact spec_around_l0 hn hs hL hin m (i + 1) (by omega) (by omega)
    · have e : i = c.length := by omega
      subst e
      simp only [spec_duAround_l0, ilt_eq, h, decide_false, cond_false]
end Go.AM
namespace Go.AM
theorem step_pos {p q : Pt} (h : p ≠ q) : 0 < step p q := by
  unfold step
  have : 0 < Nat.gcd (p.x - q.x).natAbs (p.y - q.y).natAbs := by
    rw [Nat.gcd_pos_iff]
    by_cases hx : p.x = q.x
    · right
      have : p.y ≠ q.y := fun e => h (by cases p; cases q; simp_all)
      omega
    · left; omega
  omega
end Go.AM
namespace Go.AM
theorem eqPegS_l0 {L : Nat} {a : List Pt} (hs : (a.length : Int) ≤ 1100000) : ∀ (m : Nat) (v : Int), 0 ≤ v → v ≤ a.length → (a.length : Int) - v < m → laws_eqPegS_l0 L a a m v = some true
  | 0, _, _, _, h => by omega
  | m + 1, v, h0, hv, hm => by
    by_cases h : v < (a.length : Int)
    · simp only [laws_eqPegS_l0, laws_eqPeg, ilt_eq, ilen_mapep, h, decide_true, cond_true, gbind_eq, lget_pt h0 h, Option.bind_some, ieq_eq, Bool.not_true, cond_false, iadd_eq, wr_id (n := v + 1) (by omega)]
      exact eqPegS_l0 hs m (v + 1) (by omega) (by omega) (by omega)
    · simp only [laws_eqPegS_l0, ilt_eq, ilen_mapep, h, decide_false, cond_false]
theorem eqPegS_eq {L : Nat} {a : List Pt} (hs : (a.length : Int) ≤ 1100000) (hL : (a.length : Int) < L) : laws_eqPegS L a a = some true := by
  unfold laws_eqPegS
  simp only [ieq_eq, decide_true, Bool.not_true, cond_false]
  exact eqPegS_l0 hs L 0 (Int.le_refl _) (by omega) (by omega)
theorem toPegS_l0 {L : Nat} {a : List Pt} (hs : (a.length : Int) ≤ 1100000) : ∀ (m i : Nat) (w : List Pt), i ≤ a.length → w.length = a.length → (a.length : Int) - i < m → w.take i = a.take i → laws_toPegS_l0 L a m i w = some a
  | 0, _, _, _, _, h, _ => by omega
  | m + 1, i, w, hi, hw, hm, ht => by
    by_cases h : (i : Int) < (a.length : Int)
    · have hwl : (w.length : Int) = a.length := by omega
      have gw : ∃ x, lget w (i : Int) = some x := ⟨w[i]'(by omega), by rw [lget_eq, if_pos (by omega), Int.toNat_natCast]; exact List.getElem?_eq_getElem _⟩
      obtain ⟨x, gw⟩ := gw
      simp only [laws_toPegS_l0, laws_toPeg, ilt_eq, ile_eq, ilen_mapep, hwl, h, show 0 ≤ (i : Int) by omega, decide_true, Bool.and_self, cond_true, gbind_eq, lget_pt (show 0 ≤ (i : Int) by omega) h, gw, Option.bind_some, iadd_eq, wr_id (n := (i : Int) + 1) (by omega)]
      refine toPegS_l0 hs m (i + 1) _ (by omega) (by rw [lset_eq]; simp [hw]) (by omega) ?_
      have hp := pt_get (a := a) (i := (i : Int)) (by omega) h
      rw [Int.toNat_natCast] at hp
      rw [lset_eq, Int.toNat_natCast, List.take_add_one, List.take_add_one, List.take_set_of_le (by omega), ht, hp, List.getElem?_set, if_pos rfl, if_pos (by omega)]
    · have e : i = a.length := by omega
      subst e
      simp only [laws_toPegS_l0, ilt_eq, ilen_mapep, h, decide_false, cond_false]
      rw [List.take_of_length_le (by omega), List.take_of_length_le (by omega)] at ht
      rw [ht]
theorem toPegS_eq {L : Nat} {a : List Pt} (hs : (a.length : Int) ≤ 1100000) (hL : (a.length : Int) < L) : laws_toPegS L a = some a := by
  unfold laws_toPegS
  simp only [ile_eq, ilen_mapep, Int.le_refl, show 0 ≤ (a.length : Int) by omega, decide_true, Bool.and_self, fits_s (n := (a.length : Int)) (b := 16) (by omega), cond_true]
  exact toPegS_l0 (L := L) hs L 0 _ (by omega) (by rw [lrep_eq]; simp) (by omega) (by simp)
end Go.AM
namespace Go.AM
def tg (A B q : Pt) : Bool := decide ((A.y ≤ q.y ∧ q.y < B.y ∧ 0 < turn A B q) ∨ (B.y ≤ q.y ∧ q.y < A.y ∧ turn A B q < 0))
def par (a : List Pt) (q : Pt) (v : Int) : Nat → Bool
  | 0 => false
  | k + 1 => xor (tg (pt a v) (pt a (v + 1)) q) (par a q (v + 1) k)
theorem where_val_l0 {L : Nat} {a : List Pt} {q : Pt} (hn : a ≠ []) (hs : (a.length : Int) ≤ 1000) (hin : ∀ i, Nr (pt a i)) (hq : Nr q) : ∀ (m k : Nat) (v : Int) (s : Bool), 0 ≤ v → v + k = a.length → k < m →
    ∃ r, spec_pgWhere_l0 L a q.x q.y m s v = some r ∧ impl_where_l0 L a q.x q.y m (if s then 1 else -1) v = some r ∧
      ((∃ i, v ≤ i ∧ i < (a.length : Int) ∧ OnL (pt a i) (pt a (i + 1)) q) → r = 0) ∧ ((¬ ∃ i, v ≤ i ∧ i < (a.length : Int) ∧ OnL (pt a i) (pt a (i + 1)) q) → r = if xor s (par a q v k) then 1 else -1)
  | 0, _, _, _, _, _, h => by omega
  | m + 1, 0, v, s, h0, hv, hm => by
    have h : ¬ v < (a.length : Int) := by omega
    simp only [spec_pgWhere_l0, impl_where_l0, ilt_eq, ilen_mapep, h, decide_false, cond_false]
    have hno : ¬ ∃ i, v ≤ i ∧ i < (a.length : Int) ∧ OnL (pt a i) (pt a (i + 1)) q := fun ⟨i, h1, h2, _⟩ => by omega
    cases s
    · exact ⟨-1, rfl, rfl, fun h => absurd h hno, fun _ => by simp [par]⟩
    · exact ⟨1, rfl, rfl, fun h => absurd h hno, fun _ => by simp [par]⟩
  | m + 1, k + 1, v, s, h0, hv, hm => by
    have h3 : ¬ ((a.length : Int) = 0) := by have := List.length_pos_iff.2 hn; omega
    have h : v < (a.length : Int) := by omega
    have next : ∀ s' : Bool, ∃ r, spec_pgWhere_l0 L a q.x q.y m s' (v + 1) = some r ∧ impl_where_l0 L a q.x q.y m (if s' then 1 else -1) (v + 1) = some r ∧
      ((∃ i, v + 1 ≤ i ∧ i < (a.length : Int) ∧ OnL (pt a i) (pt a (i + 1)) q) → r = 0) ∧ ((¬ ∃ i, v + 1 ≤ i ∧ i < (a.length : Int) ∧ OnL (pt a i) (pt a (i + 1)) q) → r = if xor s' (par a q (v + 1) k) then 1 else -1) := fun s' =>
      where_val_l0 (L := L) hn hs hin hq m k (v + 1) s' (by omega) (by omega) (by omega)
    have eneg : wr .i64 (0 - (if s then 1 else -1)) = (if (!s) = true then 1 else -1) := by cases s <;> exact wr_id (by decide)
    simp only [spec_pgWhere_l0, impl_where_l0, ilt_eq, ile_eq, ieq_eq, iadd_eq, isub_eq, beqb_eq, ilen_mapep, h, h3, decide_true, decide_false, cond_true, cond_false, gbind_eq, wr_s (i := v + 1) (by omega), lget_pt h0 h, lget_rem (show 0 ≤ v + 1 by omega) hn,
      impl_at_eq hn (show (a.length : Int) ≤ 1000000000 by omega), Option.bind_some]
    rw [spec_pgOn_eq (hin _) (hin _) hq, impl_isOn_eq (hin _) (hin _) hq, spec_pgTurn_eq (hin _) (hin _) hq, spec_pgTurn_eq (hin _) (hin _) hq, impl_turn_eq (hin _) (hin _) hq]
    simp only [Option.bind_some, eneg]
    by_cases hO : OnL (pt a v) (pt a (v + 1)) q
    · exact ⟨0, by simp [hO], by simp [hO], fun _ => rfl, fun h' => absurd ⟨v, Int.le_refl _, h, hO⟩ h'⟩
    · -- what the rest tells
      have rest : ∀ s', s' = xor s (tg (pt a v) (pt a (v + 1)) q) → ∃ r, (spec_pgWhere_l0 L a q.x q.y m s' (v + 1) = some r ∧ impl_where_l0 L a q.x q.y m (if s' then 1 else -1) (v + 1) = some r) ∧
          ((∃ i, v ≤ i ∧ i < (a.length : Int) ∧ OnL (pt a i) (pt a (i + 1)) q) → r = 0) ∧ ((¬ ∃ i, v ≤ i ∧ i < (a.length : Int) ∧ OnL (pt a i) (pt a (i + 1)) q) → r = if xor s (par a q v (k + 1)) then 1 else -1) := by
        intro s' hs'
        obtain ⟨r, r1, r2, r3, r4⟩ := next s'
        refine ⟨r, ⟨r1, r2⟩, fun ⟨i, i0, i1, i2⟩ => r3 ⟨i, ?_, i1, i2⟩, fun hno => ?_⟩
        · by_cases hi : i = v
          · subst hi; exact absurd i2 hO
          · omega
        · rw [r4 fun ⟨i, i0, i1, i2⟩ => hno ⟨i, by omega, i1, i2⟩, hs']
          show _ = if xor s (xor (tg (pt a v) (pt a (v + 1)) q) (par a q (v + 1) k)) then 1 else -1
          rw [← Bool.xor_assoc]
      have fin : ∀ s' (X Y : Option Int), s' = xor s (tg (pt a v) (pt a (v + 1)) q) → X = spec_pgWhere_l0 L a q.x q.y m s' (v + 1) → Y = impl_where_l0 L a q.x q.y m (if s' then 1 else -1) (v + 1) →
          ∃ r, X = some r ∧ Y = some r ∧ ((∃ i, v ≤ i ∧ i < (a.length : Int) ∧ OnL (pt a i) (pt a (i + 1)) q) → r = 0) ∧ ((¬ ∃ i, v ≤ i ∧ i < (a.length : Int) ∧ OnL (pt a i) (pt a (i + 1)) q) → r = if xor s (par a q v (k + 1)) then 1 else -1) := by
        intro s' X Y hs' hX hY
        obtain ⟨r, ⟨r1, r2⟩, r3⟩ := rest s' hs'
        exact ⟨r, hX.trans r1, hY.trans r2, r3⟩
      clear rest next
      simp only [hO, decide_false, cond_false]
      have htg : tg (pt a v) (pt a (v + 1)) q = decide (((pt a v).y ≤ q.y ∧ q.y < (pt a (v + 1)).y ∧ 0 < turn (pt a v) (pt a (v + 1)) q) ∨ ((pt a (v + 1)).y ≤ q.y ∧ q.y < (pt a v).y ∧ turn (pt a v) (pt a (v + 1)) q < 0)) := by
        unfold tg; congr
      generalize tg (pt a v) (pt a (v + 1)) q = t at *
      generalize pt a v = A at *
      generalize pt a (v + 1) = B at *
      rw [turn_swap A B q]
      have hz : turn A B q = 0 → ¬ ((A.y - q.y) * (B.y - q.y) ≤ 0 ∧ A.y ≠ B.y) := fun e h => hO (on_of e h.1 h.2)
      rw [mul_le0] at hz
      have up : t = true → xor s t = !s := fun e => by subst e; simp
      have no : t = false → xor s t = s := fun e => by subst e; simp
      by_cases c1 : B.y < A.y
      · simp only [c1, decide_true, cond_true]
        by_cases c2 : B.y ≤ q.y
        · by_cases c3 : q.y < A.y
          · have c4 : ¬ q.y < B.y := by omega
            have c5 : ¬ A.y < B.y := by omega
            by_cases c6 : 0 < turn A B q
            · have c7 : ¬ turn A B q < 0 := by omega
              exact fin s _ _ (no (by rw [htg]; simp; omega)).symm (by simp [c2, c3, c7]) (by simp [c3, c4, c5, c6])
            · have c7 : turn A B q < 0 := by
                have : turn A B q ≠ 0 := fun e => hz e ⟨by omega, by omega⟩
                omega
              exact fin (!s) _ _ (up (by rw [htg]; simp; omega)).symm (by simp [c2, c3, c7]) (by simp [c3, c4, c5, c6])
          · have c4 : ¬ q.y < B.y := by omega
            exact fin s _ _ (no (by rw [htg]; simp; omega)).symm (by simp [c2, c3]) (by simp [c3, c4])
        · have c3 : q.y < A.y := by omega
          have c4 : q.y < B.y := by omega
          exact fin s _ _ (no (by rw [htg]; simp; omega)).symm (by simp [c2]) (by simp [c3, c4])
      · simp only [c1, decide_false, cond_false]
        by_cases c2 : A.y ≤ q.y
        · have c3 : ¬ q.y < A.y := by omega
          by_cases c4 : q.y < B.y
          · have c5 : A.y < B.y := by omega
            by_cases c6 : 0 < turn A B q
            · exact fin (!s) _ _ (up (by rw [htg]; simp; omega)).symm (by simp [c2, c4, c6]) (by simp [c3, c4, c5, c6])
            · exact fin s _ _ (no (by rw [htg]; simp; omega)).symm (by simp [c2, c4, c6]) (by simp [c3, c4, c5, c6])
          · exact fin s _ _ (no (by rw [htg]; simp; omega)).symm (by simp [c2, c4]) (by simp [c3, c4])
        · have c3 : q.y < A.y := by omega
          have c4 : q.y < B.y := by omega
          exact fin s _ _ (no (by rw [htg]; simp; omega)).symm (by simp [c2]) (by simp [c3, c4])
def Rim (a : List Pt) (q : Pt) : Prop := ∃ i, 0 ≤ i ∧ i < (a.length : Int) ∧ OnL (pt a i) (pt a (i + 1)) q
open Classical in
noncomputable def wh (a : List Pt) (q : Pt) : Int := if Rim a q then 0 else if par a q 0 a.length then 1 else -1
open Classical in
theorem where_val {L : Nat} {a : List Pt} {q : Pt} (hn : a ≠ []) (hs : (a.length : Int) ≤ 1000) (hin : ∀ i, Nr (pt a i)) (hq : Nr q) (hL : (a.length : Int) < L) : spec_pgWhere L a q.x q.y = some (wh a q) ∧ impl_where L a q.x q.y = some (wh a q) := by
  obtain ⟨r, r1, r2, r3, r4⟩ := where_val_l0 (L := L) hn hs hin hq L a.length 0 false (Int.le_refl _) (by omega) (by omega)
  have e : r = wh a q := by
    unfold wh
    by_cases h : Rim a q
    · rw [if_pos h]; exact r3 h
    · rw [if_neg h, r4 h]; simp
  subst e
  exact ⟨r1, r2⟩
open Classical in
theorem one_val {L : Nat} {a : List Pt} (hL : 3000 < L) (h : spec_duOne L a = some true) : Good_ a ∧ Cvx a ∧ inside a = 1 ∧ 0 < wh a ⟨0, 0⟩ := by
  unfold spec_duOne at h
  rw [spec_pgGood_eq (by omega)] at h
  simp only [gbind_eq, Option.bind_some] at h
  by_cases g : Good_ a
  · have hne : a ≠ [] := by intro e; subst e; have := g.lo; simp at this
    have hin : ∀ i, Nr (pt a i) := fun i => (in_all g.isIn hne i).nr
    have h1 := g.lo
    have h2 := g.hi
    simp only [g, decide_true, Bool.not_true, cond_true, cond_false] at h
    rw [spec_pgConvex_eq (by omega) (by omega) (by omega) hin, (inner_eq (by omega) (by omega) hL hin).1] at h
    simp only [Option.bind_some, ieq_eq, ilt_eq] at h
    by_cases c : Cvx a
    · simp only [c, decide_true, Bool.not_true, cond_true, cond_false] at h
      by_cases i : inside a = 1
      · simp only [i, decide_true, Bool.not_true, cond_true, cond_false] at h
        have e := (where_val (L := L) (q := ⟨0, 0⟩) hne (by omega) hin (by unfold Nr; simp) (by omega)).1
        simp only at e
        rw [e] at h
        simp only [Option.bind_some, Option.some.injEq, decide_eq_true_eq] at h
        exact ⟨g, c, i, h⟩
      · simp [i] at h
    · simp [c] at h
  · simp [g] at h
end Go.AM
namespace Go.AM
def Pos (v : Pt) : Prop := 0 < v.x ∨ (v.x = 0 ∧ 0 < v.y)
def Neg (v : Pt) : Prop := v.x < 0 ∨ (v.x = 0 ∧ v.y < 0)
instance (v : Pt) : Decidable (Pos v) := by unfold Pos; infer_instance
instance (v : Pt) : Decidable (Neg v) := by unfold Neg; infer_instance
def dl (u v : Pt) : Int := if Neg u ∧ Pos v ∧ 0 < cross u v then 1 else if Pos u ∧ Neg v ∧ cross u v < 0 then -1 else 0
theorem dl_anti (u v : Pt) : dl v u = - dl u v := by
  have h : cross v u = - cross u v := by unfold cross; grind
  unfold dl
  rw [h]
  have n1 : ∀ w : Pt, Neg w → ¬ Pos w := fun w => by unfold Neg Pos; omega
  by_cases a1 : Neg u <;> by_cases a2 : Pos u <;> by_cases a3 : Neg v <;> by_cases a4 : Pos v <;> simp [a1, a2, a3, a4] <;>
    first
      | exact absurd a2 (n1 u a1)
      | exact absurd a4 (n1 v a3)
      | (by_cases b1 : 0 < cross u v <;> by_cases b2 : cross u v < 0 <;> simp [b1, b2] <;> omega)
      | skip
theorem pos_or_neg {v : Pt} (h : v ≠ ⟨0, 0⟩) : Pos v ∨ Neg v := by
  obtain ⟨x, y⟩ := v
  simp only [ne_eq, Pt.mk.injEq, not_and] at h
  unfold Pos Neg
  simp only
  by_cases hx : x = 0
  · have := h hx; omega
  · omega
theorem three_way (p q s : Pt) : cross q s * p.x + cross s p * q.x + cross p q * s.x = 0 ∧ cross q s * p.y + cross s p * q.y + cross p q * s.y = 0 := by
  unfold cross; constructor <;> grind
theorem sign_of {c : Int} {p w : Pt} (hp : Pos p) (hw : Pos w) (hx : c * p.x = w.x) (hy : c * p.y = w.y) : 0 < c := by
  unfold Pos at hp hw
  rcases Int.lt_trichotomy c 0 with h | h | h
  · exfalso
    rcases hp with hp | ⟨hp0, hp⟩
    · have := Int.mul_neg_of_neg_of_pos h hp; omega
    · rw [hp0] at hx
      have := Int.mul_neg_of_neg_of_pos h hp
      simp at hx; omega
  · subst h; simp at hx hy; omega
  · exact h
def comb (a : Int) (p : Pt) (b : Int) (q : Pt) : Pt := ⟨a * p.x + b * q.x, a * p.y + b * q.y⟩
theorem pos_comb {a b : Int} {p q : Pt} (ha : 0 < a) (hb : 0 ≤ b) (hp : Pos p) (hq : Pos q) : Pos (comb a p b q) := by
  unfold Pos comb at *
  simp only
  have bq : 0 ≤ b * q.x := by
    rcases hq with h | ⟨h, _⟩
    · exact Int.mul_nonneg hb (by omega)
    · rw [h]; simp
  rcases hp with h | ⟨h, h'⟩
  · left
    have := Int.mul_pos ha h
    omega
  · rw [h]
    simp only [Int.mul_zero, Int.zero_add]
    rcases Int.lt_or_eq_of_le bq with h1 | h1
    · exact .inl h1
    · right
      refine ⟨h1.symm, ?_⟩
      have := Int.mul_pos ha h'
      have bq' : 0 ≤ b * q.y := by
        rcases Int.mul_eq_zero.1 h1.symm with h2 | h2
        · rw [h2]; simp
        · rcases hq with h3 | ⟨_, h3⟩
          · omega
          · exact Int.mul_nonneg hb (by omega)
      omega
def ngt (v : Pt) : Pt := ⟨-v.x, -v.y⟩
theorem neg_ngt {v : Pt} : Neg v ↔ Pos (ngt v) := by unfold Neg Pos ngt; simp only; omega
theorem pos_ngt {v : Pt} : Pos v ↔ Neg (ngt v) := by unfold Neg Pos ngt; simp only; omega
theorem cross_ngt1 (u v : Pt) : cross (ngt u) v = - cross u v := by unfold cross ngt; grind
theorem wedge {p q s : Pt} (hp : Pos p) (hq : Neg q) (hs : Neg s) (h1 : cross p q < 0) (h2 : 0 ≤ cross p s) : 0 < cross s q := by
  obtain ⟨e1, e2⟩ := three_way p q s
  have hw := pos_comb (a := -cross p q) (b := cross p s) (by omega) h2 (neg_ngt.1 hs) (neg_ngt.1 hq)
  refine sign_of hp hw ?_ ?_
  · have : cross s p = - cross p s := by unfold cross; grind
    have : cross q s = - cross s q := by unfold cross; grind
    unfold comb ngt; simp only; grind
  · have : cross s p = - cross p s := by unfold cross; grind
    have : cross q s = - cross s q := by unfold cross; grind
    unfold comb ngt; simp only; grind
end Go.AM
namespace Go.AM
structure NM (p q r s : Pt) : Prop where
  sx : p.x + r.x = q.x + s.x
  sy : p.y + r.y = q.y + s.y
  n1 : ¬ (cross p s = 0 ∧ p.x * s.x ≤ 0 ∧ p.y * s.y ≤ 0)
  n2 : ¬ (cross q r = 0 ∧ q.x * r.x ≤ 0 ∧ q.y * r.y ≤ 0)
  n3 : ¬ (cross p q = 0 ∧ p.x * q.x ≤ 0 ∧ p.y * q.y ≤ 0)
  n4 : ¬ (cross s r = 0 ∧ s.x * r.x ≤ 0 ∧ s.y * r.y ≤ 0)
  n5 : ¬ (((cross p q < 0 ∧ 0 < cross s r) ∨ (0 < cross p q ∧ cross s r < 0)) ∧ ((cross p s < 0 ∧ 0 < cross q r) ∨ (0 < cross p s ∧ cross q r < 0)))
theorem cross_anti (u v : Pt) : cross v u = - cross u v := by unfold cross; grind
theorem NM.rot {p q r s : Pt} (h : NM p q r s) : NM q r s p := by
  have e1 := cross_anti q p; have e2 := cross_anti r s
  have h1 := h.n1; have h2 := h.n2; have h3 := h.n3; have h4 := h.n4; have h5 := h.n5
  refine ⟨by have := h.sx; omega, by have := h.sy; omega, ?_, ?_, ?_, ?_, ?_⟩
  · rw [cross_anti p q, Int.mul_comm q.x, Int.mul_comm q.y]; intro ⟨a, b⟩; exact h3 ⟨by omega, b⟩
  · rw [cross_anti s r, Int.mul_comm r.x, Int.mul_comm r.y]; intro ⟨a, b⟩; exact h4 ⟨by omega, b⟩
  · exact h2
  · exact h1
  · intro ⟨a, b⟩
    rw [cross_anti p q, cross_anti s r] at b
    exact h5 ⟨by omega, by omega⟩
theorem NM.swap {p q r s : Pt} (h : NM p q r s) : NM p s r q :=
  ⟨by have := h.sx; omega, by have := h.sy; omega, h.n3, h.n4, h.n1, h.n2, fun ⟨a, b⟩ => h.n5 ⟨b, a⟩⟩
theorem cross_ngt (u v : Pt) : cross (ngt u) (ngt v) = cross u v := by unfold cross ngt; grind
theorem NM.ngt {p q r s : Pt} (h : NM p q r s) : NM (ngt p) (ngt q) (ngt r) (ngt s) := by
  have hm : ∀ u v : Pt, (AM.ngt u).x * (AM.ngt v).x = u.x * v.x ∧ (AM.ngt u).y * (AM.ngt v).y = u.y * v.y := fun u v => by unfold AM.ngt; simp only; constructor <;> grind
  refine ⟨by have := h.sx; unfold AM.ngt; simp only; omega, by have := h.sy; unfold AM.ngt; simp only; omega, ?_, ?_, ?_, ?_, ?_⟩
  · rw [cross_ngt, (hm _ _).1, (hm _ _).2]; exact h.n1
  · rw [cross_ngt, (hm _ _).1, (hm _ _).2]; exact h.n2
  · rw [cross_ngt, (hm _ _).1, (hm _ _).2]; exact h.n3
  · rw [cross_ngt, (hm _ _).1, (hm _ _).2]; exact h.n4
  · simp only [cross_ngt]; exact h.n5
theorem opp {p q : Pt} (hp : Pos p) (hq : Neg q) (h : cross p q = 0) : p.x * q.x ≤ 0 ∧ p.y * q.y ≤ 0 := by
  unfold Pos Neg at *
  have e : p.x * q.y = p.y * q.x := by unfold cross at h; omega
  rcases hp with hp | ⟨hp0, hp⟩
  · rcases hq with hq | ⟨hq0, hq⟩
    · refine ⟨by have := Int.mul_neg_of_pos_of_neg hp hq; omega, ?_⟩
      have e2 : p.x * (p.y * q.y) = (p.y * p.y) * q.x := by grind
      have h1 := mul_self_nn p.y
      have h2 := Int.mul_nonpos_of_nonneg_of_nonpos h1 (show q.x ≤ 0 by omega)
      rcases Int.lt_or_le 0 (p.y * q.y) with h3 | h3
      · have := Int.mul_pos hp h3; omega
      · exact h3
    · exfalso
      rw [hq0] at e
      have := Int.mul_neg_of_pos_of_neg hp hq
      simp at e; omega
  · rw [hp0] at e ⊢
    simp only [Int.zero_mul] at e ⊢
    have hqx : q.x = 0 := by
      rcases Int.mul_eq_zero.1 e.symm with h1 | h1 <;> omega
    refine ⟨Int.le_refl _, ?_⟩
    have : q.y < 0 := by omega
    have := Int.mul_neg_of_pos_of_neg hp this
    omega
theorem cell1 {p q r s : Pt} (h : NM p q r s) (hp : Pos p) (hq : Neg q) (hs : Neg s) : cross p q < 0 → cross p s < 0 := by
  intro h1
  rcases Int.lt_or_le (cross p s) 0 with h2 | h2
  · exact h2
  · exfalso
    have w := wedge hp hq hs h1 h2
    have hr : r = ⟨q.x + s.x - p.x, q.y + s.y - p.y⟩ := by
      have := h.sx; have := h.sy; obtain ⟨a, b⟩ := r; simp only at *; congr 1 <;> omega
    have b1 : cross s r = cross s q + cross p s := by rw [hr]; unfold cross; grind
    have b2 : cross q r = cross p q - cross s q := by rw [hr]; unfold cross; grind
    rcases Int.lt_or_eq_of_le h2 with h3 | h3
    · exact h.n5 ⟨.inl ⟨h1, by omega⟩, .inr ⟨h3, by omega⟩⟩
    · exact h.n1 ⟨h3.symm, opp hp hs h3.symm⟩
theorem cell_1 {p q r s : Pt} (h : NM p q r s) (hp : Pos p) (hq : Neg q) (hs : Neg s) : (cross p q < 0 ↔ cross p s < 0) ∧ cross p q ≠ 0 ∧ cross p s ≠ 0 :=
  ⟨⟨cell1 h hp hq hs, cell1 h.swap hp hs hq⟩, fun e => h.n3 ⟨e, opp hp hq e⟩, fun e => h.n1 ⟨e, opp hp hs e⟩⟩
theorem cell2 {p q r s : Pt} (h : NM p q r s) (hp : Pos p) (hq : Pos q) (hr : Neg r) (hs : Neg s) : ¬ (cross q r < 0 ∧ 0 < cross p s) := by
  rintro ⟨k, g⟩
  have e1 : cross q r = cross q s + cross p q := by
    have hr' : r = ⟨q.x + s.x - p.x, q.y + s.y - p.y⟩ := by
      have := h.sx; have := h.sy; obtain ⟨a, b⟩ := r; simp only at *; congr 1 <;> omega
    rw [hr']; unfold cross; grind
  have e2 : cross q r = cross p r - cross s r := by
    have hq' : q = ⟨p.x + r.x - s.x, p.y + r.y - s.y⟩ := by
      have := h.sx; have := h.sy; obtain ⟨a, b⟩ := q; simp only at *; congr 1 <;> omega
    rw [hq']; unfold cross; grind
  have a1 : cross p q < 0 := by
    rcases Int.lt_or_le (cross p q) 0 with h1 | h1
    · exact h1
    · have hw := pos_comb (a := -cross q s) (b := cross p s) (by omega) (by omega) hp hq
      obtain ⟨t1, t2⟩ := three_way p q s
      have a := cross_anti p s
      have := sign_of (c := -cross p q) (neg_ngt.1 hs) hw (by unfold ngt comb; simp only; grind) (by unfold ngt comb; simp only; grind)
      omega
  have b1 : 0 < cross s r := by
    rcases Int.lt_or_le 0 (cross s r) with h1 | h1
    · exact h1
    · have hw := pos_comb (a := -cross p r) (b := cross p s) (by omega) (by omega) (neg_ngt.1 hs) (neg_ngt.1 hr)
      obtain ⟨t1, t2⟩ := three_way p r s
      have a := cross_anti p s
      have a' := cross_anti s r
      exact sign_of (c := cross s r) hp hw (by unfold ngt comb; simp only; grind) (by unfold ngt comb; simp only; grind)
  exact h.n5 ⟨.inl ⟨a1, b1⟩, .inr ⟨g, k⟩⟩
theorem cell_2 {p q r s : Pt} (h : NM p q r s) (hp : Pos p) (hq : Pos q) (hr : Neg r) (hs : Neg s) : (cross q r < 0 ↔ cross p s < 0) ∧ cross q r ≠ 0 ∧ cross p s ≠ 0 := by
  have z1 : cross q r ≠ 0 := fun e => h.n2 ⟨e, opp hq hr e⟩
  have z2 : cross p s ≠ 0 := fun e => h.n1 ⟨e, opp hp hs e⟩
  have k1 := cell2 h hp hq hr hs
  have h' : NM q p s r := h.swap.rot.rot.rot
  have k2 := cell2 h' hq hp hs hr
  refine ⟨?_, z1, z2⟩
  omega
theorem pos_not_neg {v : Pt} (h : Pos v) : ¬ Neg v := by unfold Pos Neg at *; omega
theorem dl_pp {u v : Pt} (h : Pos u) (k : Pos v) : dl u v = 0 := by unfold dl; simp [pos_not_neg h, pos_not_neg k]
theorem neg_not_pos {v : Pt} (h : Neg v) : ¬ Pos v := fun k => pos_not_neg k h
theorem dl_nn {u v : Pt} (h : Neg u) (k : Neg v) : dl u v = 0 := by unfold dl; simp [neg_not_pos h, neg_not_pos k]
theorem dl_pn {u v : Pt} (h : Pos u) (k : Neg v) : dl u v = if cross u v < 0 then -1 else 0 := by unfold dl; simp [h, k, pos_not_neg h]
theorem dl_np {u v : Pt} (h : Neg u) (k : Pos v) : dl u v = if 0 < cross u v then 1 else 0 := by unfold dl; simp [h, k, neg_not_pos h]
theorem sum1 {p q r s : Pt} (h : NM p q r s) (hp : Pos p) (hq : Neg q) (hr : Neg r) (hs : Neg s) : dl p q + dl q r + dl r s + dl s p = 0 := by
  rw [dl_pn hp hq, dl_nn hq hr, dl_nn hr hs, dl_np hs hp, cross_anti p s]
  obtain ⟨k1, k2, k3⟩ := cell_1 h hp hq hs
  split <;> split <;> omega
theorem sum1n {p q r s : Pt} (h : NM p q r s) (hp : Neg p) (hq : Pos q) (hr : Pos r) (hs : Pos s) : dl p q + dl q r + dl r s + dl s p = 0 := by
  rw [dl_np hp hq, dl_pp hq hr, dl_pp hr hs, dl_pn hs hp, cross_anti p s]
  obtain ⟨k1, k2, k3⟩ := cell_1 h.ngt (neg_ngt.1 hp) (pos_ngt.1 hq) (pos_ngt.1 hs)
  rw [cross_ngt, cross_ngt] at k1
  rw [cross_ngt] at k2 k3
  split <;> split <;> omega
theorem sum2 {p q r s : Pt} (h : NM p q r s) (hp : Pos p) (hq : Pos q) (hr : Neg r) (hs : Neg s) : dl p q + dl q r + dl r s + dl s p = 0 := by
  rw [dl_pp hp hq, dl_pn hq hr, dl_nn hr hs, dl_np hs hp, cross_anti p s]
  obtain ⟨k1, k2, k3⟩ := cell_2 h hp hq hr hs
  split <;> split <;> omega
theorem sum3 {p q r s : Pt} (h : NM p q r s) (hp : Pos p) (hq : Neg q) (hr : Pos r) (hs : Neg s) : False := by
  have := h.sx; have := h.sy
  unfold Pos Neg at *
  omega
theorem cell_sum {p q r s : Pt} (h : NM p q r s) (zp : p ≠ ⟨0, 0⟩) (zq : q ≠ ⟨0, 0⟩) (zr : r ≠ ⟨0, 0⟩) (zs : s ≠ ⟨0, 0⟩) : dl p q + dl q r + dl r s + dl s p = 0 := by
  have h1 := h.rot; have h2 := h1.rot; have h3 := h2.rot
  rcases pos_or_neg zp with hp | hp <;> rcases pos_or_neg zq with hq | hq <;> rcases pos_or_neg zr with hr | hr <;> rcases pos_or_neg zs with hs | hs
  · rw [dl_pp hp hq, dl_pp hq hr, dl_pp hr hs, dl_pp hs hp]; rfl
  · have := sum1n h3 hs hp hq hr; omega
  · have := sum1n h2 hr hs hp hq; omega
  · exact sum2 h hp hq hr hs
  · have := sum1n h1 hq hr hs hp; omega
  · exact (sum3 h hp hq hr hs).elim
  · have := sum2 h3 hs hp hq hr; omega
  · exact sum1 h hp hq hr hs
  · exact sum1n h hp hq hr hs
  · have := sum2 h1 hq hr hs hp; omega
  · exact (sum3 h1 hq hr hs hp).elim
  · have := sum1 h1 hq hr hs hp; omega
  · have := sum2 h2 hr hs hp hq; omega
  · have := sum1 h2 hr hs hp hq; omega
  · have := sum1 h3 hs hp hq hr; omega
  · rw [dl_nn hp hq, dl_nn hq hr, dl_nn hr hs, dl_nn hs hp]; rfl
def df (a c : Pt) : Pt := ⟨c.x - a.x, c.y - a.y⟩
theorem nm_of {A B C D : Pt} (h : ¬ Meet A B C D) : NM (df A C) (df A D) (df B D) (df B C) := by
  unfold Meet OnL at h
  have t1 : cross (df A C) (df B C) = turn A B C := by unfold cross df turn; grind
  have t2 : cross (df A D) (df B D) = turn A B D := by unfold cross df turn; grind
  have t3 : cross (df A C) (df A D) = turn C D A := by unfold cross df turn; grind
  have t4 : cross (df B C) (df B D) = turn C D B := by unfold cross df turn; grind
  have m : ∀ a b c d : Int, (a - b) * (c - d) = (b - a) * (d - c) := fun a b c d => by grind
  simp only [not_or] at h
  obtain ⟨h1, h2, h3, h4, h5⟩ := h
  refine ⟨by unfold df; simp only; omega, by unfold df; simp only; omega, ?_, ?_, ?_, ?_, ?_⟩
  · rw [t1]; intro ⟨a, b, c⟩; exact h1 ⟨a, by rw [m]; exact b, by rw [m]; exact c⟩
  · rw [t2]; intro ⟨a, b, c⟩; exact h2 ⟨a, by rw [m]; exact b, by rw [m]; exact c⟩
  · rw [t3]; intro ⟨a, b, c⟩; exact h3 ⟨a, b, c⟩
  · rw [t4]; intro ⟨a, b, c⟩; exact h4 ⟨a, b, c⟩
  · rw [t1, t2, t3, t4]
    intro ⟨a, b⟩
    apply h5
    have key : ∀ x y : Int, ((x < 0 ∧ 0 < y) ∨ (0 < x ∧ y < 0)) → sg x * sg y < 0 := fun x y h => by
      unfold sg
      rcases h with ⟨h1, h2⟩ | ⟨h1, h2⟩
      · rw [if_neg (by omega), if_pos h1, if_pos h2]; decide
      · rw [if_pos h1, if_neg (by omega), if_pos h2]; decide
    exact ⟨key _ _ b, key _ _ a⟩
theorem df_ne {A B : Pt} (h : A ≠ B) : df A B ≠ ⟨0, 0⟩ := by
  intro e
  apply h
  obtain ⟨a, b⟩ := A; obtain ⟨c, d⟩ := B
  unfold df at e
  simp only [Pt.mk.injEq] at e ⊢
  omega
theorem not_meet_ne {A B C D : Pt} (h : ¬ Meet A B C D) : A ≠ C ∧ A ≠ D ∧ B ≠ C ∧ B ≠ D := by
  unfold Meet at h
  simp only [not_or] at h
  obtain ⟨h1, h2, h3, h4, h5⟩ := h
  refine ⟨fun e => h1 ?_, fun e => h2 ?_, fun e => h1 ?_, fun e => h2 ?_⟩ <;> subst e <;> unfold OnL turn <;> refine ⟨by grind, by simp, by simp⟩
theorem cell_df {A B C D : Pt} (h : ¬ Meet A B C D) : dl (df A C) (df A D) + dl (df A D) (df B D) + dl (df B D) (df B C) + dl (df B C) (df A C) = 0 := by
  obtain ⟨n1, n2, n3, n4⟩ := not_meet_ne h
  exact cell_sum (nm_of h) (df_ne n1) (df_ne n2) (df_ne n4) (df_ne n3)
theorem tri_sum {u v w : Pt} (hw : w = comb 1 u 1 v) (h : cross u v ≠ 0) : dl u w + dl w v = dl u v := by
  have c1 : cross u w = cross u v := by rw [hw]; unfold cross comb; grind
  have c2 : cross w v = cross u v := by rw [hw]; unfold cross comb; grind
  have zu : u ≠ ⟨0, 0⟩ := fun e => h (by rw [e]; unfold cross; simp)
  have zv : v ≠ ⟨0, 0⟩ := fun e => h (by rw [e]; unfold cross; simp)
  have zw : w ≠ ⟨0, 0⟩ := fun e => h (by rw [← c1, e]; unfold cross; simp)
  have hx : w.x = u.x + v.x := by rw [hw]; unfold comb; simp
  have hy : w.y = u.y + v.y := by rw [hw]; unfold comb; simp
  rcases pos_or_neg zu with hu | hu <;> rcases pos_or_neg zv with hv | hv <;> rcases pos_or_neg zw with hw' | hw'
  · rw [dl_pp hu hw', dl_pp hw' hv, dl_pp hu hv]; rfl
  · exfalso; unfold Pos Neg at *; omega
  · rw [dl_pp hu hw', dl_pn hw' hv, dl_pn hu hv, c2]; omega
  · rw [dl_pn hu hw', dl_nn hw' hv, dl_pn hu hv, c1]; omega
  · rw [dl_np hu hw', dl_pp hw' hv, dl_np hu hv, c1]; omega
  · rw [dl_nn hu hw', dl_np hw' hv, dl_np hu hv, c2]; omega
  · exfalso; unfold Pos Neg at *; omega
  · rw [dl_nn hu hw', dl_nn hw' hv, dl_nn hu hv]; rfl
end Go.AM
namespace Go.AM
structure LP (n : Int) (P : Int → Pt) : Prop where
  n3 : 3 ≤ n
  per : ∀ i, P (i + n) = P i
  left : ∀ i, 0 < turn (P i) (P (i + 1)) (P (i + 2))
  apart : ∀ i k, i + 2 ≤ k → k - i < n - 1 → ¬ Meet (P i) (P (i + 1)) (P k) (P (k + 1))
section
variable {n : Int} {P : Int → Pt}
def eg (P : Int → Pt) (i : Int) : Pt := df (P i) (P (i + 1))
theorem turn_eg (P : Int → Pt) (i : Int) : turn (P i) (P (i + 1)) (P (i + 2)) = cross (eg P i) (eg P (i + 1)) := by
  unfold eg df turn cross
  rw [show i + 1 + 1 = i + 2 by omega]
  grind
def rowS (P : Int → Pt) (i : Int) : Nat → Int
  | 0 => 0
  | k + 1 => rowS P i k + dl (df (P i) (P (i + 1 + k))) (df (P i) (P (i + 2 + k)))
theorem row_step (h : LP n P) (i : Int) : ∀ k : Nat, (k : Int) + 1 < n - 1 ∨ k = 0 → rowS P i (k + 1) + dl (df (P i) (P (i + 2 + k))) (df (P (i + 1)) (P (i + 2 + k))) = dl (eg P i) (eg P (i + 1)) + rowS P (i + 1) k
  | 0, _ => by
    have hl := h.left i
    rw [turn_eg] at hl
    have := tri_sum (u := eg P i) (v := eg P (i + 1)) (w := df (P i) (P (i + 2))) (by unfold eg df comb; rw [show i + 1 + 1 = i + 2 by omega]; simp only [Pt.mk.injEq]; omega) (by omega)
    simp only [rowS, Int.add_zero, Int.zero_add, show ((0 : Nat) : Int) = 0 from rfl]
    unfold eg at this ⊢
    rw [show i + 1 + 1 = i + 2 by omega] at *
    exact this
  | k + 1, hk => by
    have hk' : (k : Int) + 2 < n - 1 := by have := h.n3; omega
    have ih := row_step h i k (by omega)
    have hm := h.apart i (i + 2 + k) (by omega) (by omega)
    have c := cell_df hm
    rw [show i + 2 + (k : Int) + 1 = i + 2 + ((k + 1 : Nat) : Int) by omega] at c
    have a1 := dl_anti (df (P (i + 1)) (P (i + 2 + k))) (df (P (i + 1)) (P (i + 2 + ((k + 1 : Nat) : Int))))
    have a2 := dl_anti (df (P i) (P (i + 2 + k))) (df (P (i + 1)) (P (i + 2 + k)))
    have r1 : rowS P i (k + 1 + 1) = rowS P i (k + 1) + dl (df (P i) (P (i + 2 + k))) (df (P i) (P (i + 2 + ((k + 1 : Nat) : Int)))) := by
      conv => lhs; unfold rowS
      rw [show i + 1 + ((k + 1 : Nat) : Int) = i + 2 + k by omega]
    have r2 : rowS P (i + 1) (k + 1) = rowS P (i + 1) k + dl (df (P (i + 1)) (P (i + 2 + k))) (df (P (i + 1)) (P (i + 2 + ((k + 1 : Nat) : Int)))) := by
      conv => lhs; unfold rowS
      rw [show i + 1 + 1 + (k : Int) = i + 2 + k by omega, show i + 1 + 2 + (k : Int) = i + 2 + ((k + 1 : Nat) : Int) by omega]
    rw [r1, r2]
    omega
theorem rows_sum (h : LP n P) : ∀ (k : Nat), (k : Int) ≤ n - 2 → rowS P (n - 1 - k) k + sm (fun t => dl (df (P (n - 1 - k + t)) (P n)) (df (P (n - 1 - k + t + 1)) (P n))) k = sm (fun t => dl (eg P (n - 1 - k + t)) (eg P (n - 1 - k + t + 1))) k
  | 0, _ => by simp [rowS, sm]
  | k + 1, hk => by
    have ih := rows_sum h k (by omega)
    have hs := row_step h (n - 1 - (k + 1 : Nat)) k (by omega)
    have e1 : n - 1 - ((k + 1 : Nat) : Int) + 1 = n - 1 - k := by omega
    have e2 : n - 1 - ((k + 1 : Nat) : Int) + 2 + k = n := by omega
    rw [e1, e2] at hs
    have shift : ∀ f : Int → Int, sm (fun t => f (n - 1 - ((k + 1 : Nat) : Int) + t)) (k + 1) = f (n - 1 - ((k + 1 : Nat) : Int)) + sm (fun t => f (n - 1 - (k : Int) + t)) k := by
      intro f
      have key : ∀ m : Nat, sm (fun t => f (n - 1 - ((k + 1 : Nat) : Int) + t)) (m + 1) = f (n - 1 - ((k + 1 : Nat) : Int)) + sm (fun t => f (n - 1 - (k : Int) + t)) m := by
        intro m
        induction m with
        | zero => simp [sm]
        | succ m ihm =>
          have : sm (fun t => f (n - 1 - ((k + 1 : Nat) : Int) + t)) (m + 1 + 1) = sm (fun t => f (n - 1 - ((k + 1 : Nat) : Int) + t)) (m + 1) + f (n - 1 - ((k + 1 : Nat) : Int) + ((m + 1 : Nat) : Int)) := rfl
          rw [this, ihm]
          simp only [sm]
          rw [show n - 1 - ((k + 1 : Nat) : Int) + ((m + 1 : Nat) : Int) = n - 1 - (k : Int) + (m : Int) by omega]
          omega
      exact key k
    have s1 := shift fun x => dl (df (P x) (P n)) (df (P (x + 1)) (P n))
    have s2 := shift fun x => dl (eg P x) (eg P (x + 1))
    rw [s1, s2]
    rw [show n - 1 - ((k + 1 : Nat) : Int) + 1 = n - 1 - k by omega]
    omega
structure Base (n : Int) (P : Int → Pt) : Prop extends LP n P where
  first : ∀ j, 0 < j → j < n → Pos (df (P 0) (P j))
theorem once (h : Base n P) : sm (fun t => dl (eg P t) (eg P (t + 1))) n.toNat = 1 := by
  have n3 := h.n3
  obtain ⟨k, hk⟩ : ∃ k : Nat, n = k + 3 := ⟨(n - 3).toNat, by omega⟩
  have r0 : ∀ m : Nat, (m : Int) ≤ n - 2 → rowS P 0 m = 0 := by
    intro m
    induction m with
    | zero => intro _; rfl
    | succ m ih =>
      intro hm
      simp only [rowS]
      rw [ih (by omega), dl_pp (h.first _ (by omega) (by omega)) (h.first _ (by omega) (by omega))]
      rfl
  have pn : P n = P 0 := by have := h.per 0; rwa [Int.zero_add] at this
  have hneg : ∀ j, 0 < j → j < n → Neg (df (P j) (P n)) := fun j h0 h1 => by
    have := h.first j h0 h1
    rw [pn]
    unfold Pos Neg df at *
    simp only at *
    omega
  have col := rows_sum h.toLP (k + 1) (by omega)
  have e1 : n - 1 - ((k + 1 : Nat) : Int) = 1 := by omega
  rw [e1] at col
  have c0 : sm (fun t => dl (df (P (1 + t)) (P n)) (df (P (1 + t + 1)) (P n))) (k + 1) = 0 := by
    have : sm (fun t => dl (df (P (1 + t)) (P n)) (df (P (1 + t + 1)) (P n))) (k + 1) = sm (fun _ => 0) (k + 1) := sm_congr fun i h0 h1 => dl_nn (hneg _ (by omega) (by omega)) (hneg _ (by omega) (by omega))
    rw [this]
    have z : ∀ m : Nat, sm (fun _ => 0) m = 0 := fun m => by induction m with | zero => rfl | succ m ih => simp [sm, ih]
    exact z _
  rw [c0] at col
  have s0 := row_step h.toLP 0 k (by omega)
  rw [r0 (k + 1) (by omega)] at s0
  have q1 : (0 : Int) + 2 + k = n - 1 := by omega
  rw [q1, Int.zero_add, show (0 : Int) + 1 = 1 by rfl] at s0
  have rl : rowS P 1 (k + 1) = rowS P 1 k + dl (df (P 1) (P (n - 1))) (df (P 1) (P n)) := by
    simp only [rowS]
    rw [show (1 : Int) + 1 + k = n - 1 by omega, show (1 : Int) + 2 + k = n by omega]
  have hl := h.left (n - 1)
  rw [turn_eg, show n - 1 + 1 = n by omega] at hl
  have pn1 : P (n + 1) = P 1 := by have := h.per 1; rwa [Int.add_comm] at this
  have u1 : df (P 0) (P (n - 1)) = ngt (eg P (n - 1)) := by
    unfold df ngt eg df; rw [show n - 1 + 1 = n by omega, pn]; simp only [Pt.mk.injEq]; omega
  have v1 : df (P 1) (P n) = ngt (eg P n) := by
    unfold df ngt eg df; rw [pn1, pn]; simp only [Pt.mk.injEq]; omega
  have tr := tri_sum (u := df (P 0) (P (n - 1))) (v := df (P 1) (P n)) (w := df (P 1) (P (n - 1))) (by unfold df comb; rw [pn]; simp only [Pt.mk.injEq]; omega) (by rw [u1, v1, cross_ngt]; omega)
  have dlast : dl (df (P 0) (P (n - 1))) (df (P 1) (P n)) = 0 := by
    rw [dl_pn (h.first _ (by omega) (by omega)) (hneg _ (by omega) (by omega)), u1, v1, cross_ngt, if_neg (by omega)]
  have eN : eg P n = eg P 0 := by unfold eg; rw [pn1, pn]; rfl
  have dback : dl (eg P (n - 1)) (eg P (n - 1 + 1)) = 1 := by
    rw [show n - 1 + 1 = n by omega]
    have a1 : Neg (eg P (n - 1)) := by have := hneg (n - 1) (by omega) (by omega); unfold eg; rwa [show n - 1 + 1 = n by omega]
    have a2 : Pos (eg P n) := by rw [eN]; unfold eg; exact h.first _ (by omega) (by omega)
    rw [dl_np a1 a2, if_pos hl]
  have tot : sm (fun t => dl (eg P t) (eg P (t + 1))) n.toNat = dl (eg P 0) (eg P 1) + sm (fun t => dl (eg P (1 + t)) (eg P (1 + t + 1))) (k + 1) + dl (eg P (n - 1)) (eg P (n - 1 + 1)) := by
    rw [show n.toNat = (k + 2) + 1 by omega]
    simp only [sm]
    rw [show ((k + 2 : Nat) : Int) = n - 1 by omega]
    have key : ∀ m : Nat, sm (fun t => dl (eg P t) (eg P (t + 1))) (m + 1) = dl (eg P 0) (eg P 1) + sm (fun t => dl (eg P (1 + t)) (eg P (1 + t + 1))) m := by
      intro m
      induction m with
      | zero => simp [sm]
      | succ m ih =>
        have : sm (fun t => dl (eg P t) (eg P (t + 1))) (m + 1 + 1) = sm (fun t => dl (eg P t) (eg P (t + 1))) (m + 1) + dl (eg P ((m + 1 : Nat) : Int)) (eg P (((m + 1 : Nat) : Int) + 1)) := rfl
        rw [this, ih]
        simp only [sm]
        rw [show ((m + 1 : Nat) : Int) = 1 + (m : Int) by omega]
        omega
    have := key (k + 1)
    simp only [sm] at this
    omega
  rw [tot, dback]
  rw [dlast] at tr
  omega
end
end Go.AM
namespace Go.AM
theorem tplus {u v w : Pt} (hu : Pos u) (hv : Pos v) (hw : Pos w) (h1 : 0 ≤ cross u v) (h2 : 0 < cross v w) : 0 < cross u w := by
  obtain ⟨e1, e2⟩ := three_way u v w
  have a := cross_anti u w
  have hc := pos_comb (a := cross v w) (b := cross u v) h2 h1 hu hw
  exact sign_of (c := cross u w) hv hc (by unfold comb; simp only; grind) (by unfold comb; simp only; grind)
theorem tneg {u v w : Pt} (hu : Neg u) (hv : Neg v) (hw : Neg w) (h1 : 0 ≤ cross u v) (h2 : 0 < cross v w) : 0 < cross u w := by
  have := tplus (neg_ngt.1 hu) (neg_ngt.1 hv) (neg_ngt.1 hw) (by rw [cross_ngt]; exact h1) (by rw [cross_ngt]; exact h2)
  rwa [cross_ngt] at this
theorem sm_nonneg {g : Int → Int} : ∀ {k : Nat}, (∀ i : Int, 0 ≤ i → i < k → 0 ≤ g i) → 0 ≤ sm g k ∧ ∀ i : Int, 0 ≤ i → i < k → g i ≤ sm g k
  | 0, _ => ⟨by simp [sm], fun i h0 h1 => by omega⟩
  | k + 1, h => by
    obtain ⟨h1, h2⟩ := sm_nonneg (k := k) fun i h0 h1 => h i h0 (by omega)
    have h3 := h k (by omega) (by omega)
    simp only [sm]
    refine ⟨by omega, fun i i0 i1 => ?_⟩
    by_cases e : i = k
    · subst e; omega
    · have := h2 i i0 (by omega); omega
section
variable {n : Int} {P : Int → Pt}
theorem LP.cr (h : LP n P) (i : Int) : 0 < cross (eg P i) (eg P (i + 1)) := by have := h.left i; rwa [turn_eg] at this
theorem LP.pr (h : LP n P) (i : Int) : eg P (i + n) = eg P i := by
  unfold eg; rw [h.per, show i + n + 1 = i + 1 + n by omega, h.per]
theorem LP.nz (h : LP n P) (i : Int) : eg P i ≠ ⟨0, 0⟩ := fun e => by
  have := h.cr i; rw [e] at this; unfold cross at this; simp at this
theorem LP.ne (h : LP n P) {i j : Int} (h0 : i < j) (h1 : j < i + n) : P i ≠ P j := by
  have n3 := h.n3
  have step : ∀ i, P i ≠ P (i + 1) := fun i e => h.nz i (by unfold eg df; rw [← e]; simp)
  by_cases e1 : j = i + 1
  · subst e1; exact step i
  · by_cases e2 : j = i + n - 1
    · intro e
      have := step j
      rw [show j + 1 = i + n by omega, h.per] at this
      exact this e.symm
    · exact (not_meet_ne (h.apart i j (by omega) (by omega))).1
theorem Base.stay (h : Base n P) {i : Int} (h0 : 0 ≤ i) (h1 : i + 1 < n) : Neg (eg P i) → Neg (eg P (i + 1)) := by
  intro hn
  rcases pos_or_neg (h.nz (i + 1)) with hp | hp
  · exfalso
    have n3 := h.n3
    have ho := once h
    have hnn : ∀ t : Int, 0 ≤ dl (eg P t) (eg P (t + 1)) := fun t => by
      unfold dl
      have := h.cr t
      split
      · omega
      · rw [if_neg (by omega)]; omega
    obtain ⟨m, hm⟩ : ∃ m : Nat, n.toNat = m + 1 := ⟨n.toNat - 1, by omega⟩
    rw [hm] at ho
    simp only [sm] at ho
    have hb := (sm_nonneg (g := fun t => dl (eg P t) (eg P (t + 1))) (k := m) fun t _ _ => hnn t).2 i h0 (by omega)
    have e1 : dl (eg P i) (eg P (i + 1)) = 1 := by rw [dl_np hn hp, if_pos (h.cr i)]
    have e2 : dl (eg P (m : Int)) (eg P ((m : Int) + 1)) = 1 := by
      have hmn : (m : Int) = n - 1 := by omega
      rw [hmn]
      have pn : P n = P 0 := by have := h.per 0; rwa [Int.zero_add] at this
      have a1 : Neg (eg P (n - 1)) := by
        have := h.first (n - 1) (by omega) (by omega)
        unfold eg; rw [show n - 1 + 1 = n by omega, pn]
        unfold Pos Neg df at *; simp only at *; omega
      have a2 : Pos (eg P (n - 1 + 1)) := by
        rw [show n - 1 + 1 = 0 + n by omega, h.pr]
        have := h.first 1 (by omega) (by omega)
        unfold eg; exact this
      rw [dl_np a1 a2, if_pos (h.cr _)]
    omega
  · exact hp
theorem Base.stays (h : Base n P) {i : Int} (h0 : 0 ≤ i) (hn : Neg (eg P i)) : ∀ k : Nat, i + k < n → Neg (eg P (i + k))
  | 0, _ => by simpa using hn
  | k + 1, hk => by
    have := h.stay (i := i + k) (by omega) (by omega) (h.stays h0 hn k (by omega))
    rwa [show i + (k : Int) + 1 = i + ((k + 1 : Nat) : Int) by omega] at this
theorem Base.pos_le (h : Base n P) {i j : Int} (h0 : 0 ≤ i) (hij : i ≤ j) (hj : j < n) (hp : Pos (eg P j)) : Pos (eg P i) := by
  rcases pos_or_neg (h.nz i) with hi | hi
  · exact hi
  · have := h.stays h0 hi (j - i).toNat (by omega)
    rw [show i + ((j - i).toNat : Int) = j by omega] at this
    exact absurd this (pos_not_neg hp)
theorem Base.chain (h : Base n P) {i : Int} (h0 : 0 ≤ i) : ∀ k : Nat, i + 1 + k < n → Pos (eg P (i + 1 + k)) → 0 < cross (eg P i) (eg P (i + 1 + k))
  | 0, _, _ => by simpa using h.cr i
  | k + 1, hk, hp => by
    have e : i + 1 + ((k + 1 : Nat) : Int) = i + 1 + k + 1 := by omega
    rw [e] at hp ⊢
    have hp1 := h.pos_le (i := i + 1 + k) (by omega) (by omega) (by omega) hp
    have hp0 := h.pos_le (i := i) h0 (by omega) (by omega) hp
    exact tplus hp0 hp1 hp (by have := h.chain h0 k (by omega) hp1; omega) (h.cr _)
theorem Base.lt (h : Base n P) {i j : Int} (h0 : 0 ≤ i) (hij : i < j) (hj : j < n) (hp : Pos (eg P j)) : 0 < cross (eg P i) (eg P j) := by
  have := h.chain h0 (j - i - 1).toNat (by omega)
  rw [show i + 1 + ((j - i - 1).toNat : Int) = j by omega] at this
  exact this hp
theorem Base.down (h : Base n P) {i m : Int} (h0 : 0 ≤ i) (h1 : i < n) (hp : Pos (eg P i)) (hm : i < m) (hm2 : m + 1 ≤ i + n - 1) (hd : cross (eg P i) (eg P m) ≤ 0) : cross (eg P i) (eg P (m + 1)) < 0 := by
  by_cases hmn : m < n
  · rcases pos_or_neg (h.nz m) with q | q
    · have := h.lt h0 hm hmn q; omega
    · by_cases hm1 : m + 1 < n
      · have q1 := h.stay (by omega) hm1 q
        have := tneg (pos_ngt.1 hp) q q1 (by rw [cross_ngt1]; omega) (h.cr m)
        rw [cross_ngt1] at this
        omega
      · have e : m + 1 = 0 + n := by omega
        rw [e, h.pr]
        have := h.lt (i := 0) (j := i) (by omega) (by omega) h1 hp
        rw [cross_anti (eg P 0) (eg P i)]
        omega
  · have e : m + 1 = (m + 1 - n) + n := by omega
    rw [e, h.pr]
    have := h.lt (i := m + 1 - n) (j := i) (by omega) (by omega) h1 hp
    rw [cross_anti (eg P (m + 1 - n)) (eg P i)]
    omega
theorem turn_next (P : Int → Pt) (i j : Int) : turn (P i) (P (i + 1)) (P (j + 1)) = turn (P i) (P (i + 1)) (P j) + cross (eg P i) (eg P j) := by
  unfold turn cross eg df; grind
theorem Base.conv (h : Base n P) {i : Int} (h0 : 0 ≤ i) (h1 : i < n) (hp : Pos (eg P i)) {j : Int} (hj : i + 2 ≤ j) (hj2 : j ≤ i + n - 1) : 0 < turn (P i) (P (i + 1)) (P j) := by
  have t1 : turn (P i) (P (i + 1)) (P (i + 1)) = 0 := by unfold turn; grind
  have tn : turn (P i) (P (i + 1)) (P (i + n)) = 0 := by rw [h.per]; unfold turn; grind
  by_cases hall : ∀ m, i < m → m < j → 0 < cross (eg P i) (eg P m)
  · have up : ∀ k : Nat, i + 2 + k ≤ j → 0 < turn (P i) (P (i + 1)) (P (i + 2 + k)) := by
      intro k
      induction k with
      | zero => intro hk; have := turn_next P i (i + 1); have := hall (i + 1) (by omega) (by omega); rw [show i + 1 + 1 = i + 2 by omega] at *; simp; omega
      | succ k ih =>
        intro hk
        have a := turn_next P i (i + 2 + k)
        have b := hall (i + 2 + k) (by omega) (by omega)
        have c := ih (by omega)
        rw [show i + 2 + ((k + 1 : Nat) : Int) = i + 2 + k + 1 by omega, a]
        omega
    have := up (j - i - 2).toNat (by omega)
    rwa [show i + 2 + ((j - i - 2).toNat : Int) = j by omega] at this
  · obtain ⟨m, hm⟩ := Classical.not_forall.1 hall
    simp only [Classical.not_imp] at hm
    obtain ⟨m0, m1, m2⟩ := hm
    have dn : ∀ k : Nat, m + 1 + k ≤ i + n - 1 → cross (eg P i) (eg P (m + 1 + k)) < 0 := by
      intro k
      induction k with
      | zero => intro hk; have := h.down h0 h1 hp m0 (by omega) (by omega); simpa using this
      | succ k ih =>
        intro hk
        have := h.down (m := m + 1 + k) h0 h1 hp (by omega) (by omega) (by have := ih (by omega); omega)
        rwa [show m + 1 + (k : Int) + 1 = m + 1 + ((k + 1 : Nat) : Int) by omega] at this
    have back : ∀ k : Nat, j ≤ i + n - 1 - k → 0 < turn (P i) (P (i + 1)) (P (i + n - 1 - k)) := by
      intro k
      induction k with
      | zero =>
        intro hk
        have a := turn_next P i (i + n - 1)
        rw [show i + n - 1 + 1 = i + n by omega, tn] at a
        have b := dn (i + n - 1 - (m + 1)).toNat (by omega)
        rw [show m + 1 + ((i + n - 1 - (m + 1)).toNat : Int) = i + n - 1 by omega] at b
        simp; omega
      | succ k ih =>
        intro hk
        have a := turn_next P i (i + n - 1 - (k + 1 : Nat))
        rw [show i + n - 1 - ((k + 1 : Nat) : Int) + 1 = i + n - 1 - k by omega] at a
        have b := dn (i + n - 1 - (k + 1 : Nat) - (m + 1)).toNat (by omega)
        rw [show m + 1 + ((i + n - 1 - ((k + 1 : Nat) : Int) - (m + 1)).toNat : Int) = i + n - 1 - ((k + 1 : Nat) : Int) by omega] at b
        have c := ih (by omega)
        omega
    have := back (i + n - 1 - j).toNat (by omega)
    rwa [show i + n - 1 - ((i + n - 1 - j).toNat : Int) = j by omega] at this
theorem LP.shift (h : LP n P) (s : Int) : LP n fun t => P (t + s) where
  n3 := h.n3
  per i := by rw [show i + n + s = i + s + n by omega]; exact h.per _
  left i := by have := h.left (i + s); rwa [show i + s + 1 = i + 1 + s by omega, show i + s + 2 = i + 2 + s by omega] at this
  apart i k h1 h2 := by have := h.apart (i + s) (k + s) (by omega) (by omega); rwa [show i + s + 1 = i + 1 + s by omega, show k + s + 1 = k + 1 + s by omega] at this
theorem LP.base (h : LP n P) : ∃ s, Base n fun t => P (t + s) := by
  have n3 := h.n3
  have hm : ∀ k : Nat, ∃ s : Int, 0 ≤ s ∧ s ≤ k ∧ ∀ j : Int, 0 ≤ j → j ≤ k → ¬ Less (P j) (P s) := by
    intro k
    induction k with
    | zero =>
      refine ⟨0, by omega, by omega, fun j h0 h1 => ?_⟩
      have e : j = 0 := by omega
      rw [e]
      exact Less.irrefl _
    | succ k ih =>
      obtain ⟨s, s0, s1, s2⟩ := ih
      by_cases hl : Less (P ((k + 1 : Nat) : Int)) (P s)
      · refine ⟨((k + 1 : Nat) : Int), by omega, by omega, fun j h0 h1 hx => ?_⟩
        by_cases e : j = ((k + 1 : Nat) : Int)
        · subst e; exact Less.irrefl _ hx
        · exact s2 j h0 (by omega) (hx.trans hl)
      · refine ⟨s, s0, by omega, fun j h0 h1 hx => ?_⟩
        by_cases e : j = ((k + 1 : Nat) : Int)
        · subst e; exact hl hx
        · exact s2 j h0 (by omega) hx
  obtain ⟨s, s0, s1, s2⟩ := hm (n - 1).toNat
  refine ⟨s, h.shift s, fun j j0 j1 => ?_⟩
  have hne := h.ne (i := s) (j := j + s) (by omega) (by omega)
  have hno : ¬ Less (P (j + s)) (P s) := by
    by_cases e : j + s < n
    · exact s2 (j + s) (by omega) (by omega)
    · have := h.per (j + s - n)
      rw [show j + s - n + n = j + s by omega] at this
      rw [this]
      exact s2 (j + s - n) (by omega) (by omega)
  show Pos (df (P (0 + s)) (P (j + s)))
  rw [Int.zero_add]
  rcases pos_or_neg (df_ne hne) with hp | hp
  · exact hp
  · exfalso
    apply hno
    unfold Neg df at hp
    unfold Less
    simp only at hp
    omega
theorem LP.conv_pos (h : LP n P) {i j : Int} (hp : Pos (eg P i)) (hj : i + 2 ≤ j) (hj2 : j ≤ i + n - 1) : 0 < turn (P i) (P (i + 1)) (P j) := by
  have n3 := h.n3
  obtain ⟨s, hb⟩ := h.base
  have hper : ∀ (x q : Int), P (x + q * n) = P x := by
    have up : ∀ (k : Nat) (x : Int), P (x + k * n) = P x := by
      intro k
      induction k with
      | zero => intro x; simp
      | succ k ih => intro x; rw [show x + ((k + 1 : Nat) : Int) * n = (x + k * n) + n by rw [Int.natCast_add, Int.add_mul]; simp; omega, h.per, ih]
    intro x q
    rcases Int.le_total 0 q with hq | hq
    · have := up q.toNat x; rwa [Int.toNat_of_nonneg hq] at this
    · have := up (-q).toNat (x + q * n)
      rw [Int.toNat_of_nonneg (by omega), Int.neg_mul] at this
      rw [← this]; congr 1; omega
  have q1 := Int.emod_nonneg (i - s) (show n ≠ 0 by omega)
  have q2 := Int.emod_lt_of_pos (i - s) (show 0 < n by omega)
  have q3 := Int.mul_ediv_add_emod (i - s) n
  have ex : ∀ d : Int, P ((i - s) % n + d + s) = P (i + d) := fun d => by
    have := hper ((i - s) % n + d + s) ((i - s) / n)
    rw [← this]; congr 1
    rw [Int.mul_comm]; omega
  have e0 := ex 0; have e1 := ex 1; have ej := ex (j - i)
  rw [Int.add_zero, Int.add_zero] at e0
  rw [show i + (j - i) = j by omega] at ej
  have := hb.conv (i := (i - s) % n) (j := (i - s) % n + (j - i)) q1 q2 (by unfold eg; simp only; rw [e0, e1]; exact hp) (by omega) (by omega)
  rwa [e0, e1, ej] at this
theorem turn_ngt (a b c : Pt) : turn (ngt a) (ngt b) (ngt c) = turn a b c := by unfold turn ngt; grind
theorem meet_ngt {A B C D : Pt} : Meet (ngt A) (ngt B) (ngt C) (ngt D) ↔ Meet A B C D := by
  have hm : ∀ a b c d : Pt, ((AM.ngt a).x - (AM.ngt b).x) * ((AM.ngt c).x - (AM.ngt b).x) = (a.x - b.x) * (c.x - b.x) := fun a b c d => by unfold AM.ngt; simp only; grind
  have ho : ∀ a b p : Pt, OnL (ngt a) (ngt b) (ngt p) ↔ OnL a b p := fun a b p => by
    unfold OnL
    rw [turn_ngt]
    have e1 : ((AM.ngt a).x - (AM.ngt p).x) * ((AM.ngt b).x - (AM.ngt p).x) = (a.x - p.x) * (b.x - p.x) := by unfold AM.ngt; simp only; grind
    have e2 : ((AM.ngt a).y - (AM.ngt p).y) * ((AM.ngt b).y - (AM.ngt p).y) = (a.y - p.y) * (b.y - p.y) := by unfold AM.ngt; simp only; grind
    rw [e1, e2]
  unfold Meet
  simp only [ho, turn_ngt]
theorem LP.neg (h : LP n P) : LP n fun t => ngt (P t) where
  n3 := h.n3
  per i := by rw [h.per]
  left i := by rw [turn_ngt]; exact h.left i
  apart i k h1 h2 := by rw [meet_ngt]; exact h.apart i k h1 h2
theorem LP.conv (h : LP n P) {i j : Int} (hj : i + 2 ≤ j) (hj2 : j ≤ i + n - 1) : 0 < turn (P i) (P (i + 1)) (P j) := by
  rcases pos_or_neg (h.nz i) with hp | hp
  · exact h.conv_pos hp hj hj2
  · have := h.neg.conv_pos (i := i) (j := j) (by
      have := neg_ngt.1 hp
      unfold eg df ngt at *
      simp only at *
      unfold Pos at *
      simp only at *
      omega) hj hj2
    rwa [turn_ngt] at this
end
end Go.AM
namespace Go.AM
def Up (A B : Pt) (y : Int) : Prop := A.y ≤ y ∧ y < B.y
def Dn (A B : Pt) (y : Int) : Prop := B.y ≤ y ∧ y < A.y
instance (A B : Pt) (y : Int) : Decidable (Up A B y) := by unfold Up; infer_instance
instance (A B : Pt) (y : Int) : Decidable (Dn A B y) := by unfold Dn; infer_instance
section
variable {n : Int} {P : Int → Pt}
theorem LP.mul (h : LP n P) (x q : Int) : P (x + q * n) = P x := by
  have up : ∀ (k : Nat) (x : Int), P (x + k * n) = P x := by
    intro k
    induction k with
    | zero => intro x; simp
    | succ k ih => intro x; rw [show x + ((k + 1 : Nat) : Int) * n = (x + k * n) + n by rw [Int.natCast_add, Int.add_mul]; simp; omega, h.per, ih]
  rcases Int.le_total 0 q with hq | hq
  · have := up q.toNat x; rwa [Int.toNat_of_nonneg hq] at this
  · have := up (-q).toNat (x + q * n)
    rw [Int.toNat_of_nonneg (by omega), Int.neg_mul] at this
    rw [← this]; congr 1; omega
theorem LP.ge (h : LP n P) (i j : Int) (h0 : 0 ≤ i) (h1 : i < n) (j0 : 0 ≤ j) (j1 : j < n) : 0 ≤ turn (P i) (P (i + 1)) (P j) ∧ (turn (P i) (P (i + 1)) (P j) = 0 → j = i ∨ j = i + 1 ∨ (i = n - 1 ∧ j = 0)) := by
  have n3 := h.n3
  have z0 : turn (P i) (P (i + 1)) (P i) = 0 := by unfold turn; grind
  have z1 : turn (P i) (P (i + 1)) (P (i + 1)) = 0 := by unfold turn; grind
  by_cases e0 : j = i
  · subst e0; exact ⟨by omega, fun _ => .inl rfl⟩
  · by_cases e1 : j = i + 1
    · subst e1; exact ⟨by omega, fun _ => .inr (.inl rfl)⟩
    · by_cases e2 : i = n - 1 ∧ j = 0
      · obtain ⟨rfl, rfl⟩ := e2
        have : P (n - 1 + 1) = P 0 := by rw [show n - 1 + 1 = 0 + n by omega, h.per]
        rw [this] at z1 ⊢
        exact ⟨by omega, fun _ => .inr (.inr ⟨rfl, rfl⟩)⟩
      · have pos : 0 < turn (P i) (P (i + 1)) (P j) := by
          by_cases hij : i < j
          · exact h.conv (by omega) (by omega)
          · have := h.conv (i := i) (j := j + n) (by omega) (by omega)
            rwa [h.per] at this
        exact ⟨by omega, fun e => by omega⟩
theorem up_once (h : LP n P) {i j y : Int} (i0 : 0 ≤ i) (i1 : i < n) (j0 : 0 ≤ j) (j1 : j < n) (hi : Up (P i) (P (i + 1)) y) (hj : Up (P j) (P (j + 1)) y) : i = j := by
  have pn : P n = P 0 := by have := h.per 0; rwa [Int.zero_add] at this
  obtain ⟨i', i0', i1', ei, ei'⟩ : ∃ i', 0 ≤ i' ∧ i' < n ∧ P (i + 1) = P i' ∧ (i' = i + 1 ∨ (i = n - 1 ∧ i' = 0)) := by
    by_cases e : i + 1 < n
    · exact ⟨i + 1, by omega, e, rfl, .inl rfl⟩
    · exact ⟨0, by omega, by omega, by rw [show i + 1 = n by omega, pn], .inr ⟨by omega, rfl⟩⟩
  obtain ⟨j', j0', j1', ej, ej'⟩ : ∃ j', 0 ≤ j' ∧ j' < n ∧ P (j + 1) = P j' ∧ (j' = j + 1 ∨ (j = n - 1 ∧ j' = 0)) := by
    by_cases e : j + 1 < n
    · exact ⟨j + 1, by omega, e, rfl, .inl rfl⟩
    · exact ⟨0, by omega, by omega, by rw [show j + 1 = n by omega, pn], .inr ⟨by omega, rfl⟩⟩
  have a1 := h.ge i j i0 i1 j0 j1
  have a2 := (h.ge i j' i0 i1 j0' j1').1
  have a3 := (h.ge j i j0 j1 i0 i1).1
  have a4 := (h.ge j i' j0 j1 i0' i1').1
  rw [← ej] at a2; rw [← ei] at a4
  have id : ((P (j + 1)).y - y) * turn (P i) (P (i + 1)) (P j) + (y - (P j).y) * turn (P i) (P (i + 1)) (P (j + 1)) + ((P (i + 1)).y - y) * turn (P j) (P (j + 1)) (P i) + (y - (P i).y) * turn (P j) (P (j + 1)) (P (i + 1)) = 0 := by
    unfold turn; grind
  unfold Up at hi hj
  have m1 := Int.mul_nonneg (show 0 ≤ (P (j + 1)).y - y by omega) a1.1
  have m2 := Int.mul_nonneg (show 0 ≤ y - (P j).y by omega) a2
  have m3 := Int.mul_nonneg (show 0 ≤ (P (i + 1)).y - y by omega) a3
  have m4 := Int.mul_nonneg (show 0 ≤ y - (P i).y by omega) a4
  have z : ((P (j + 1)).y - y) * turn (P i) (P (i + 1)) (P j) = 0 := by omega
  have z2 : turn (P i) (P (i + 1)) (P j) = 0 := by
    rcases Int.mul_eq_zero.1 z with h1 | h1
    · omega
    · exact h1
  rcases a1.2 z2 with e | e | ⟨e1, e2⟩
  · exact e.symm
  · subst e; omega
  · rw [e1, show n - 1 + 1 = n by omega, pn] at hi
    rw [e2] at hj
    omega
theorem dn_once (h : LP n P) {i j y : Int} (i0 : 0 ≤ i) (i1 : i < n) (j0 : 0 ≤ j) (j1 : j < n) (hi : Dn (P i) (P (i + 1)) y) (hj : Dn (P j) (P (j + 1)) y) : i = j := by
  have pn : P n = P 0 := by have := h.per 0; rwa [Int.zero_add] at this
  obtain ⟨i', i0', i1', ei, ei'⟩ : ∃ i', 0 ≤ i' ∧ i' < n ∧ P (i + 1) = P i' ∧ (i' = i + 1 ∨ (i = n - 1 ∧ i' = 0)) := by
    by_cases e : i + 1 < n
    · exact ⟨i + 1, by omega, e, rfl, .inl rfl⟩
    · exact ⟨0, by omega, by omega, by rw [show i + 1 = n by omega, pn], .inr ⟨by omega, rfl⟩⟩
  obtain ⟨j', j0', j1', ej, ej'⟩ : ∃ j', 0 ≤ j' ∧ j' < n ∧ P (j + 1) = P j' ∧ (j' = j + 1 ∨ (j = n - 1 ∧ j' = 0)) := by
    by_cases e : j + 1 < n
    · exact ⟨j + 1, by omega, e, rfl, .inl rfl⟩
    · exact ⟨0, by omega, by omega, by rw [show j + 1 = n by omega, pn], .inr ⟨by omega, rfl⟩⟩
  have a1 := (h.ge i j i0 i1 j0 j1).1
  have a2 := h.ge i j' i0 i1 j0' j1'
  have a3 := (h.ge j i j0 j1 i0 i1).1
  have a4 := (h.ge j i' j0 j1 i0' i1').1
  rw [← ej] at a2; rw [← ei] at a4
  have id : ((P (j + 1)).y - y) * turn (P i) (P (i + 1)) (P j) + (y - (P j).y) * turn (P i) (P (i + 1)) (P (j + 1)) + ((P (i + 1)).y - y) * turn (P j) (P (j + 1)) (P i) + (y - (P i).y) * turn (P j) (P (j + 1)) (P (i + 1)) = 0 := by
    unfold turn; grind
  unfold Dn at hi hj
  have m1 := Int.mul_nonpos_of_nonpos_of_nonneg (show (P (j + 1)).y - y ≤ 0 by omega) a1
  have m2 := Int.mul_nonpos_of_nonpos_of_nonneg (show y - (P j).y ≤ 0 by omega) a2.1
  have m3 := Int.mul_nonpos_of_nonpos_of_nonneg (show (P (i + 1)).y - y ≤ 0 by omega) a3
  have m4 := Int.mul_nonpos_of_nonpos_of_nonneg (show y - (P i).y ≤ 0 by omega) a4
  have z : (y - (P j).y) * turn (P i) (P (i + 1)) (P (j + 1)) = 0 := by omega
  have z2 : turn (P i) (P (i + 1)) (P (j + 1)) = 0 := by
    rcases Int.mul_eq_zero.1 z with h1 | h1
    · omega
    · exact h1
  rcases a2.2 z2 with e | e | ⟨e1, e2⟩
  · -- the other line's end is this one's beginning
    rw [ej, e] at hj; omega
  · omega
  · omega
theorem up_dn (P : Int → Pt) (y : Int) : ∀ k : Nat, sm (fun i => (if Up (P i) (P (i + 1)) y then 1 else 0) - (if Dn (P i) (P (i + 1)) y then 1 else 0)) k = (if y < (P k).y then 1 else 0) - (if y < (P 0).y then 1 else 0)
  | 0 => by simp [sm]
  | k + 1 => by
    simp only [sm]
    rw [up_dn P y k]
    rw [show ((k + 1 : Nat) : Int) = (k : Int) + 1 by omega]
    unfold Up Dn
    by_cases a : y < (P k).y <;> by_cases b : y < (P ((k : Int) + 1)).y <;> simp [a, b] <;> omega
theorem sm_zero {g : Int → Int} : ∀ {k : Nat}, (∀ i : Int, 0 ≤ i → i < k → g i = 0) → sm g k = 0
  | 0, _ => rfl
  | k + 1, h => by simp only [sm]; rw [sm_zero fun i h0 h1 => h i h0 (by omega), h k (by omega) (by omega)]; rfl
theorem sm_add (f g : Int → Int) : ∀ k : Nat, sm (fun i => f i - g i) k = sm f k - sm g k
  | 0 => rfl
  | k + 1 => by simp only [sm]; rw [sm_add f g k]; omega
theorem up_has_dn (h : LP n P) {u y : Int} (u0 : 0 ≤ u) (u1 : u < n) (hu : Up (P u) (P (u + 1)) y) : ∃ d, 0 ≤ d ∧ d < n ∧ Dn (P d) (P (d + 1)) y := by
  have pn : P n = P 0 := by have := h.per 0; rwa [Int.zero_add] at this
  refine Classical.byContradiction fun hno => ?_
  have hs := up_dn P y n.toNat
  rw [Int.toNat_of_nonneg (by have := h.n3; omega), pn, sm_add (fun i => if Up (P i) (P (i + 1)) y then 1 else 0) (fun i => if Dn (P i) (P (i + 1)) y then 1 else 0)] at hs
  have z : sm (fun i => if Dn (P i) (P (i + 1)) y then 1 else 0) n.toNat = 0 := sm_zero fun i i0 i1 => if_neg fun hd => hno ⟨i, i0, by omega, hd⟩
  have o := (sm_nonneg (g := fun i => if Up (P i) (P (i + 1)) y then 1 else 0) (k := n.toNat) fun i _ _ => by split <;> omega).2 u u0 (by omega)
  simp only [if_pos hu] at o
  omega
theorem dn_has_up (h : LP n P) {u y : Int} (u0 : 0 ≤ u) (u1 : u < n) (hu : Dn (P u) (P (u + 1)) y) : ∃ d, 0 ≤ d ∧ d < n ∧ Up (P d) (P (d + 1)) y := by
  have pn : P n = P 0 := by have := h.per 0; rwa [Int.zero_add] at this
  refine Classical.byContradiction fun hno => ?_
  have hs := up_dn P y n.toNat
  rw [Int.toNat_of_nonneg (by have := h.n3; omega), pn, sm_add (fun i => if Up (P i) (P (i + 1)) y then 1 else 0) (fun i => if Dn (P i) (P (i + 1)) y then 1 else 0)] at hs
  have z : sm (fun i => if Up (P i) (P (i + 1)) y then 1 else 0) n.toNat = 0 := sm_zero fun i i0 i1 => if_neg fun hd => hno ⟨i, i0, by omega, hd⟩
  have o := (sm_nonneg (g := fun i => if Dn (P i) (P (i + 1)) y then 1 else 0) (k := n.toNat) fun i _ _ => by split <;> omega).2 u u0 (by omega)
  simp only [if_pos hu] at o
  omega
theorem between (h : LP n P) {u d i : Int} {q : Pt} (u0 : 0 ≤ u) (u1 : u < n) (d0 : 0 ≤ d) (d1 : d < n) (i0 : 0 ≤ i) (i1 : i < n) (hu : Up (P u) (P (u + 1)) q.y) (hd : Dn (P d) (P (d + 1)) q.y)
    (tu : 0 < turn (P u) (P (u + 1)) q) (td : 0 < turn (P d) (P (d + 1)) q) (hno : ¬ OnL (P i) (P (i + 1)) q) : 0 < turn (P i) (P (i + 1)) q := by
  have pn : P n = P 0 := by have := h.per 0; rwa [Int.zero_add] at this
  have nxt : ∀ i : Int, 0 ≤ i → i < n → ∃ i', 0 ≤ i' ∧ i' < n ∧ P (i + 1) = P i' ∧ (i' = i + 1 ∨ (i = n - 1 ∧ i' = 0)) := fun i i0 i1 => by
    by_cases e : i + 1 < n
    · exact ⟨i + 1, by omega, e, rfl, .inl rfl⟩
    · exact ⟨0, by omega, by omega, by rw [show i + 1 = n by omega, pn], .inr ⟨by omega, rfl⟩⟩
  obtain ⟨u', u0', u1', eu, eu'⟩ := nxt u u0 u1
  obtain ⟨d', d0', d1', ed, ed'⟩ := nxt d d0 d1
  have gA := h.ge i u i0 i1 u0 u1
  have gB := h.ge i u' i0 i1 u0' u1'
  have gC := h.ge i d i0 i1 d0 d1
  have gD := h.ge i d' i0 i1 d0' d1'
  rw [← eu] at gB; rw [← ed] at gD
  have id : turn (P i) (P (i + 1)) q * (((P d).y - (P (d + 1)).y) * turn (P u) (P (u + 1)) q + ((P (u + 1)).y - (P u).y) * turn (P d) (P (d + 1)) q) =
      (((P (u + 1)).y - q.y) * turn (P i) (P (i + 1)) (P u) + (q.y - (P u).y) * turn (P i) (P (i + 1)) (P (u + 1))) * turn (P d) (P (d + 1)) q +
      (((P d).y - q.y) * turn (P i) (P (i + 1)) (P (d + 1)) + (q.y - (P (d + 1)).y) * turn (P i) (P (i + 1)) (P d)) * turn (P u) (P (u + 1)) q := by
    unfold turn; grind
  unfold Up at hu; unfold Dn at hd
  have b1 := Int.mul_nonneg (show 0 ≤ (P (u + 1)).y - q.y by omega) gA.1
  have b2 := Int.mul_nonneg (show 0 ≤ q.y - (P u).y by omega) gB.1
  have b3 := Int.mul_nonneg (show 0 ≤ (P d).y - q.y by omega) gD.1
  have b4 := Int.mul_nonneg (show 0 ≤ q.y - (P (d + 1)).y by omega) gC.1
  generalize hMu : ((P (u + 1)).y - q.y) * turn (P i) (P (i + 1)) (P u) + (q.y - (P u).y) * turn (P i) (P (i + 1)) (P (u + 1)) = Mu at *
  generalize hMd : ((P d).y - q.y) * turn (P i) (P (i + 1)) (P (d + 1)) + (q.y - (P (d + 1)).y) * turn (P i) (P (i + 1)) (P d) = Md at *
  have cpos : 0 < ((P d).y - (P (d + 1)).y) * turn (P u) (P (u + 1)) q + ((P (u + 1)).y - (P u).y) * turn (P d) (P (d + 1)) q := by
    have := Int.mul_pos (show 0 < (P d).y - (P (d + 1)).y by omega) tu
    have := Int.mul_pos (show 0 < (P (u + 1)).y - (P u).y by omega) td
    omega
  generalize hc : ((P d).y - (P (d + 1)).y) * turn (P u) (P (u + 1)) q + ((P (u + 1)).y - (P u).y) * turn (P d) (P (d + 1)) q = c at *
  have mu0 : 0 ≤ Mu := by omega
  have md0 : 0 ≤ Md := by omega
  by_cases hui : u = i
  · subst hui; exact tu
  by_cases hdi : d = i
  · subst hdi; exact td
  by_cases hz : Mu = 0 ∧ Md = 0
  · exfalso
    obtain ⟨z1, z2⟩ := hz
    have y1 : ((P (u + 1)).y - q.y) * turn (P i) (P (i + 1)) (P u) = 0 := by omega
    have y2 : (q.y - (P u).y) * turn (P i) (P (i + 1)) (P (u + 1)) = 0 := by omega
    have y3 : ((P d).y - q.y) * turn (P i) (P (i + 1)) (P (d + 1)) = 0 := by omega
    have y4 : (q.y - (P (d + 1)).y) * turn (P i) (P (i + 1)) (P d) = 0 := by omega
    have tA : turn (P i) (P (i + 1)) (P u) = 0 := (Int.mul_eq_zero.1 y1).resolve_left (by omega)
    have tD : turn (P i) (P (i + 1)) (P (d + 1)) = 0 := (Int.mul_eq_zero.1 y3).resolve_left (by omega)
    have cA := gA.2 tA
    have cD := gD.2 tD
    have n3 := h.n3
    have eA : P (i + 1) = P u ∧ P (u + 1) = P (i + 2) := by
      rcases cA with e | e | ⟨e1, e2⟩
      · exact absurd e hui
      · subst e; exact ⟨rfl, by rw [show i + 1 + 1 = i + 2 by omega]⟩
      · subst e1; subst e2
        exact ⟨by rw [show n - 1 + 1 = n by omega, pn], by rw [show n - 1 + 2 = (0 + 1) + n by omega, h.per]⟩
    have eD : P i = P (d + 1) ∧ P d = P (i - 1) := by
      rcases ed' with e | ⟨e1, e2⟩
      · rcases cD with e' | e' | ⟨e1', e2'⟩
        · have : i = d + 1 := by omega
          subst this; exact ⟨rfl, by rw [show d + 1 - 1 = d by omega]⟩
        · omega
        · omega
      · rcases cD with e' | e' | ⟨e1', e2'⟩
        · have : i = 0 := by omega
          subst this; subst e1
          refine ⟨by rw [show n - 1 + 1 = n by omega, pn], ?_⟩
          have := h.per (0 - 1)
          rw [show (0 : Int) - 1 + n = n - 1 by omega] at this
          exact this
        · omega
        · omega
    have l1 := h.left i
    have l2 := h.left (i - 1)
    rw [show i - 1 + 1 = i by omega, show i - 1 + 2 = i + 1 by omega] at l2
    have l2' : turn (P i) (P (i + 1)) (P (i - 1)) = turn (P (i - 1)) (P i) (P (i + 1)) := by unfold turn; grind
    rw [eA.2] at y2
    rw [eD.2, l2'] at y4
    have hyA : q.y = (P u).y := by
      rcases Int.mul_eq_zero.1 y2 with h1 | h1 <;> omega
    have hyD : q.y = (P (d + 1)).y := by
      rcases Int.mul_eq_zero.1 y4 with h1 | h1 <;> omega
    have xA : q.x < (P u).x := by
      have e : turn (P u) (P (u + 1)) q = ((P (u + 1)).y - (P u).y) * ((P u).x - q.x) := by unfold turn; rw [hyA]; grind
      rw [e] at tu
      rcases Int.lt_or_le q.x (P u).x with h1 | h1
      · exact h1
      · have := Int.mul_nonpos_of_nonneg_of_nonpos (show 0 ≤ (P (u + 1)).y - (P u).y by omega) (show (P u).x - q.x ≤ 0 by omega); omega
    have xD : (P (d + 1)).x < q.x := by
      have e : turn (P d) (P (d + 1)) q = ((P d).y - (P (d + 1)).y) * (q.x - (P (d + 1)).x) := by unfold turn; rw [hyD]; grind
      rw [e] at td
      rcases Int.lt_or_le (P (d + 1)).x q.x with h1 | h1
      · exact h1
      · have := Int.mul_nonpos_of_nonneg_of_nonpos (show 0 ≤ (P d).y - (P (d + 1)).y by omega) (show q.x - (P (d + 1)).x ≤ 0 by omega); omega
    apply hno
    rw [eD.1, eA.1]
    refine ⟨?_, ?_, ?_⟩
    · unfold turn; rw [← hyA, ← hyD]; simp
    · have := Int.mul_neg_of_neg_of_pos (show (P (d + 1)).x - q.x < 0 by omega) (show 0 < (P u).x - q.x by omega); omega
    · rw [← hyA, ← hyD]; simp
  · have hr : 0 < Mu * turn (P d) (P (d + 1)) q + Md * turn (P u) (P (u + 1)) q := by
      have p1 := Int.mul_nonneg mu0 (show 0 ≤ turn (P d) (P (d + 1)) q by omega)
      have p2 := Int.mul_nonneg md0 (show 0 ≤ turn (P u) (P (u + 1)) q by omega)
      by_cases h1 : Mu = 0
      · have := Int.mul_pos (show 0 < Md by omega) tu; omega
      · have := Int.mul_pos (show 0 < Mu by omega) td; omega
    rw [← id] at hr
    rcases Int.lt_or_le 0 (turn (P i) (P (i + 1)) q) with h1 | h1
    · exact h1
    · have := Int.mul_nonpos_of_nonpos_of_nonneg h1 (show 0 ≤ c by omega); omega
theorem not_both (h : LP n P) {u d : Int} {q : Pt} (u0 : 0 ≤ u) (u1 : u < n) (d0 : 0 ≤ d) (d1 : d < n) (hu : Up (P u) (P (u + 1)) q.y) (hd : Dn (P d) (P (d + 1)) q.y)
    (tu : turn (P u) (P (u + 1)) q < 0) (td : turn (P d) (P (d + 1)) q < 0) : False := by
  have pn : P n = P 0 := by have := h.per 0; rwa [Int.zero_add] at this
  obtain ⟨d', d0', d1', ed⟩ : ∃ i', 0 ≤ i' ∧ i' < n ∧ P (d + 1) = P i' := by
    by_cases e : d + 1 < n
    · exact ⟨d + 1, by omega, e, rfl⟩
    · exact ⟨0, by omega, by omega, by rw [show d + 1 = n by omega, pn]⟩
  have gC := (h.ge u d u0 u1 d0 d1).1
  have gD := (h.ge u d' u0 u1 d0' d1').1
  rw [← ed] at gD
  have id : ((P d).y - q.y) * turn (P u) (P (u + 1)) (P (d + 1)) + (q.y - (P (d + 1)).y) * turn (P u) (P (u + 1)) (P d) =
      ((P d).y - (P (d + 1)).y) * turn (P u) (P (u + 1)) q + ((P (u + 1)).y - (P u).y) * turn (P d) (P (d + 1)) q := by
    unfold turn; grind
  unfold Up at hu; unfold Dn at hd
  have b3 := Int.mul_nonneg (show 0 ≤ (P d).y - q.y by omega) gD
  have b4 := Int.mul_nonneg (show 0 ≤ q.y - (P (d + 1)).y by omega) gC
  have c1 := Int.mul_neg_of_pos_of_neg (show 0 < (P d).y - (P (d + 1)).y by omega) tu
  have c2 := Int.mul_neg_of_pos_of_neg (show 0 < (P (u + 1)).y - (P u).y by omega) td
  omega
end
def xr (t : Int → Bool) : Nat → Bool
  | 0 => false
  | k + 1 => xor (xr t k) (t k)
theorem xr_zero {t : Int → Bool} : ∀ {k : Nat}, (∀ i : Int, 0 ≤ i → i < k → t i = false) → xr t k = false
  | 0, _ => rfl
  | k + 1, h => by simp only [xr]; rw [xr_zero fun i h0 h1 => h i h0 (by omega), h k (by omega) (by omega)]; rfl
theorem xr_two {t : Int → Bool} {u d : Int} (u0 : 0 ≤ u) (d0 : 0 ≤ d) (hud : u ≠ d) (he : t u = t d) : ∀ {k : Nat}, u < k → d < k → (∀ i : Int, 0 ≤ i → i < k → i ≠ u → i ≠ d → t i = false) → xr t k = false := by
  have one : ∀ {v : Int} {k : Nat}, 0 ≤ v → v < k → (∀ i : Int, 0 ≤ i → i < k → i ≠ v → t i = false) → xr t k = t v := by
    intro v k
    induction k with
    | zero => intro _ h; omega
    | succ k ih =>
      intro v0 hv hz
      simp only [xr]
      by_cases e : v = k
      · subst e; rw [xr_zero fun i h0 h1 => hz i h0 (by omega) (by omega)]; simp
      · rw [ih v0 (by omega) fun i h0 h1 hi => hz i h0 (by omega) hi, hz k (by omega) (by omega) (fun e' => e e'.symm)]; simp
  intro k
  induction k with
  | zero => intro h; omega
  | succ k ih =>
    intro hu hd hz
    simp only [xr]
    by_cases e1 : u = k
    · rw [one d0 (by omega) fun i h0 h1 hi => hz i h0 (by omega) (by omega) hi, ← he, e1]; simp
    · by_cases e2 : d = k
      · rw [one u0 (by omega) fun i h0 h1 hi => hz i h0 (by omega) hi (by omega), he, e2]; simp
      · rw [ih (by omega) (by omega) fun i h0 h1 h2 h3 => hz i h0 (by omega) h2 h3, hz k (by omega) (by omega) (fun e => e1 e.symm) (fun e => e2 e.symm)]; rfl
theorem par_xr (a : List Pt) (q : Pt) : ∀ (k : Nat) (v : Int), par a q v k = xr (fun i => tg (pt a (v + i)) (pt a (v + i + 1)) q) k := by
  have shift : ∀ (t : Int → Bool) (k : Nat), xr t (k + 1) = xor (t 0) (xr (fun i => t (i + 1)) k) := by
    intro t k
    induction k with
    | zero => simp [xr]
    | succ k ih =>
      have : xr t (k + 1 + 1) = xor (xr t (k + 1)) (t ((k + 1 : Nat) : Int)) := rfl
      rw [this, ih]
      simp only [xr]
      rw [Bool.xor_assoc]; rfl
  intro k
  induction k with
  | zero => intro v; rfl
  | succ k ih =>
    intro v
    rw [shift]
    simp only [par]
    rw [ih (v + 1)]
    simp only [Int.add_zero]
    congr 1
    congr 1
    funext i
    rw [show v + 1 + i = v + (i + 1) by omega]
theorem xr_rev (t : Int → Bool) : ∀ k : Nat, xr (fun i => t (k - 1 - i)) k = xr t k := by
  have shift : ∀ (t : Int → Bool) (k : Nat), xr t (k + 1) = xor (t 0) (xr (fun i => t (i + 1)) k) := by
    intro t k
    induction k with
    | zero => simp [xr]
    | succ k ih =>
      have : xr t (k + 1 + 1) = xor (xr t (k + 1)) (t ((k + 1 : Nat) : Int)) := rfl
      rw [this, ih]
      simp only [xr]
      rw [Bool.xor_assoc]; rfl
  intro k
  induction k with
  | zero => rfl
  | succ k ih =>
    rw [shift]
    simp only [xr]
    have : (fun i : Int => t (((k + 1 : Nat) : Int) - 1 - (i + 1))) = fun i => t (k - 1 - i) := by funext i; congr 1; omega
    rw [this, ih, show ((k + 1 : Nat) : Int) - 1 - 0 = k by omega, Bool.xor_comm]
theorem inside_left {a : List Pt} {q : Pt} (h : LP a.length (pt a)) (hr : ¬ Rim a q) (hp : par a q 0 a.length = true) {i : Int} (i0 : 0 ≤ i) (i1 : i < a.length) : 0 < turn (pt a i) (pt a (i + 1)) q := by
  refine Classical.byContradiction fun hc => ?_
  have rim : ∀ j : Int, 0 ≤ j → j < a.length → ¬ OnL (pt a j) (pt a (j + 1)) q := fun j j0 j1 ho => hr ⟨j, j0, j1, ho⟩
  rw [par_xr] at hp
  simp only [Int.zero_add] at hp
  have tz : ∀ j : Int, ¬ Up (pt a j) (pt a (j + 1)) q.y → ¬ Dn (pt a j) (pt a (j + 1)) q.y → tg (pt a j) (pt a (j + 1)) q = false := fun j h1 h2 => by
    unfold tg; unfold Up at h1; unfold Dn at h2; simp; omega
  by_cases hu : ∃ u, 0 ≤ u ∧ u < (a.length : Int) ∧ Up (pt a u) (pt a (u + 1)) q.y
  · obtain ⟨u, u0, u1, u2⟩ := hu
    obtain ⟨d, d0, d1, d2⟩ := up_has_dn h u0 u1 u2
    have hud : u ≠ d := fun e => by subst e; unfold Up at u2; unfold Dn at d2; omega
    have nu : turn (pt a u) (pt a (u + 1)) q ≠ 0 := fun e => rim u u0 u1 (on_of e (by rw [mul_le0]; unfold Up at u2; omega) (by unfold Up at u2; omega))
    have nd : turn (pt a d) (pt a (d + 1)) q ≠ 0 := fun e => rim d d0 d1 (on_of e (by rw [mul_le0]; unfold Dn at d2; omega) (by unfold Dn at d2; omega))
    have he : tg (pt a u) (pt a (u + 1)) q = tg (pt a d) (pt a (d + 1)) q := by
      have k1 : ¬ (0 < turn (pt a u) (pt a (u + 1)) q ∧ 0 < turn (pt a d) (pt a (d + 1)) q) := fun ⟨x, y⟩ => hc (between h u0 u1 d0 d1 i0 i1 u2 d2 x y (rim i i0 i1))
      have k2 : ¬ (turn (pt a u) (pt a (u + 1)) q < 0 ∧ turn (pt a d) (pt a (d + 1)) q < 0) := fun ⟨x, y⟩ => not_both h u0 u1 d0 d1 u2 d2 x y
      unfold tg Up Dn at *
      by_cases c : 0 < turn (pt a u) (pt a (u + 1)) q
      · have : turn (pt a d) (pt a (d + 1)) q < 0 := by omega
        rw [decide_eq_true (by omega), decide_eq_true (by omega)]
      · have : 0 < turn (pt a d) (pt a (d + 1)) q := by omega
        rw [decide_eq_false (by omega), decide_eq_false (by omega)]
    have := xr_two (t := fun i => tg (pt a i) (pt a (i + 1)) q) u0 d0 hud he u1 d1 fun j j0 j1 h1 h2 => tz j (fun hx => h1 (up_once h j0 j1 u0 u1 hx u2)) (fun hx => h2 (dn_once h j0 j1 d0 d1 hx d2))
    rw [this] at hp
    cases hp
  · have hd : ¬ ∃ d, 0 ≤ d ∧ d < (a.length : Int) ∧ Dn (pt a d) (pt a (d + 1)) q.y := fun ⟨d, d0, d1, d2⟩ => hu (dn_has_up h d0 d1 d2)
    have := xr_zero (t := fun i => tg (pt a i) (pt a (i + 1)) q) (k := a.length) fun j j0 j1 => tz j (fun hx => hu ⟨j, j0, j1, hx⟩) (fun hx => hd ⟨j, j0, j1, hx⟩)
    rw [this] at hp
    cases hp
end Go.AM
namespace Go.AM
theorem turn_rv (a b c : Pt) : turn c b a = - turn a b c := by unfold turn; grind
theorem dvd_mul' {a b : Int} (c : Int) (h : a ∣ b) : a ∣ c * b := by
  obtain ⟨k, hk⟩ := h
  exact ⟨c * k, by rw [hk]; grind⟩
theorem onL_rev {a b p : Pt} : OnL b a p ↔ OnL a b p := by
  unfold OnL
  rw [turn_swap a b p, Int.mul_comm (b.x - p.x), Int.mul_comm (b.y - p.y)]
  constructor <;> intro ⟨h1, h2, h3⟩ <;> exact ⟨by omega, h2, h3⟩
theorem sg_neg (n : Int) : sg (-n) = - sg n := by
  unfold sg
  rcases Int.lt_trichotomy n 0 with h | h | h
  · rw [if_pos (by omega), if_neg (by omega), if_pos h]; rfl
  · subst h; simp
  · rw [if_neg (by omega), if_pos (by omega), if_pos h]
theorem meet_sym {A B C D : Pt} : Meet A B C D ↔ Meet C D A B := by
  unfold Meet
  constructor
  · rintro (h | h | h | h | ⟨h1, h2⟩)
    · exact .inr (.inr (.inl h))
    · exact .inr (.inr (.inr (.inl h)))
    · exact .inl h
    · exact .inr (.inl h)
    · exact .inr (.inr (.inr (.inr ⟨h2, h1⟩)))
  · rintro (h | h | h | h | ⟨h1, h2⟩)
    · exact .inr (.inr (.inl h))
    · exact .inr (.inr (.inr (.inl h)))
    · exact .inl h
    · exact .inr (.inl h)
    · exact .inr (.inr (.inr (.inr ⟨h2, h1⟩)))
theorem meet_rev1 {A B C D : Pt} : Meet B A C D → Meet A B C D := by
  unfold Meet
  rw [turn_swap A B C, turn_swap A B D, sg_neg, sg_neg, Int.neg_mul_neg, Int.mul_comm (sg (turn C D B)) (sg (turn C D A)), onL_rev (a := A) (b := B) (p := C), onL_rev (a := A) (b := B) (p := D)]
  rintro (h | h | h | h | h)
  · exact .inl h
  · exact .inr (.inl h)
  · exact .inr (.inr (.inr (.inl h)))
  · exact .inr (.inr (.inl h))
  · exact .inr (.inr (.inr (.inr h)))
theorem meet_rev {A B C D : Pt} (h : Meet B A D C) : Meet A B C D := meet_sym.1 (meet_rev1 (meet_sym.1 (meet_rev1 h)))
theorem Good_.apartAll {a : List Pt} (g : Good_ a) {i k : Int} (h1 : i + 2 ≤ k) (h2 : k - i < (a.length : Int) - 1) : ¬ Meet (pt a i) (pt a (i + 1)) (pt a k) (pt a (k + 1)) := by
  have lo := g.lo
  have q1 := Int.emod_nonneg i (show (a.length : Int) ≠ 0 by omega)
  have q2 := Int.emod_lt_of_pos i (show 0 < (a.length : Int) by omega)
  have q3 := Int.mul_ediv_add_emod i a.length
  have e : ∀ d : Int, pt a (i % a.length + d) = pt a (i + d) := fun d => pt_congr (by rw [Int.emod_add_emod])
  have e0 := e 0; have e1 := e 1; have e2 := e (k - i); have e3 := e (k + 1 - i)
  rw [Int.add_zero, Int.add_zero] at e0
  rw [show i + (k - i) = k by omega] at e2
  rw [show i + (k + 1 - i) = k + 1 by omega] at e3
  rw [← e0, ← e1, ← e2, ← e3]
  by_cases hw : i % (a.length : Int) + (k - i) < a.length
  · have := g.apart (i % a.length) (i % a.length + (k - i)) q1 (by omega) hw (by omega)
    rwa [show i % (a.length : Int) + (k - i) + 1 = i % a.length + (k + 1 - i) by omega] at this
  · have := g.apart (i % a.length + (k - i) - a.length) (i % a.length) (by omega) (by omega) q2 (by omega)
    intro hm
    apply this
    have c : ∀ x : Int, pt a (x - a.length) = pt a x := fun x => pt_congr (by rw [Int.sub_emod_right])
    rw [c, show i % (a.length : Int) + (k - i) - a.length + 1 = i % a.length + (k + 1 - i) - a.length by omega, c]
    exact meet_sym.1 hm
theorem Cvx.all {a : List Pt} (hn : a ≠ []) (c : Cvx a) (i : Int) : sg (turn (pt a i) (pt a (i + 1)) (pt a (i + 2))) = sg (area a) := by
  have hl : 0 < (a.length : Int) := by have := List.length_pos_iff.2 hn; omega
  have := c (i % a.length) (Int.emod_nonneg _ (by omega)) (Int.emod_lt_of_pos _ hl)
  have e : ∀ d : Int, pt a (i % a.length + d) = pt a (i + d) := fun d => pt_congr (by rw [Int.emod_add_emod])
  rwa [e, e, pt_mod] at this
theorem pt_per (a : List Pt) (i : Int) : pt a (i + a.length) = pt a i := pt_congr (by rw [Int.add_emod_right])
theorem sg_pos {n : Int} (h : sg n = 1) : 0 < n := by unfold sg at h; split at h; assumption; split at h <;> omega
theorem sg_neg1 {n : Int} (h : sg n = -1) : n < 0 := by unfold sg at h; split at h; omega; split at h; assumption; omega
theorem lp_pos {a : List Pt} (g : Good_ a) (c : Cvx a) (hp : 0 < area a) : LP a.length (pt a) where
  n3 := g.lo
  per i := pt_per a i
  left i := sg_pos (by
    rw [c.all (by intro e; subst e; have := g.lo; simp at this) i]
    unfold sg; rw [if_pos hp])
  apart i k h1 h2 := g.apartAll h1 h2
theorem pt_rev {a : List Pt} (hn : a ≠ []) (i : Int) : pt (tour a 0 (-1) a.length) i = pt a (-i) := by
  rw [pt_tour hn, Int.zero_add]
  apply pt_congr
  have := Int.mul_ediv_add_emod i a.length
  have e : i % (a.length : Int) * -1 = -i + a.length * (i / a.length) := by omega
  rw [e, Int.add_mul_emod_self_left]
theorem lp_neg {a : List Pt} (g : Good_ a) (c : Cvx a) (hp : area a < 0) : LP a.length (pt (tour a 0 (-1) a.length)) := by
  have hn : a ≠ [] := by intro e; subst e; have := g.lo; simp at this
  have e : pt (tour a 0 (-1) a.length) = fun i => pt a (-i) := by funext i; exact pt_rev hn i
  rw [e]
  refine ⟨g.lo, fun i => ?_, fun i => ?_, fun i k h1 h2 hm => ?_⟩
  · have := pt_per a (-(i + a.length))
    rw [← this]; congr 1; omega
  · have h := sg_neg1 (n := turn (pt a (-(i + 2))) (pt a (-(i + 2) + 1)) (pt a (-(i + 2) + 2))) (by
      rw [c.all hn]; unfold sg; rw [if_neg (by omega), if_pos hp])
    rw [show -(i + 2) + 1 = -(i + 1) by omega, show -(i + 2) + 2 = -i by omega, turn_rv] at h
    omega
  · have := g.apartAll (i := -(k + 1)) (k := -(i + 1)) (by omega) (by omega)
    rw [show -(k + 1) + 1 = -k by omega, show -(i + 1) + 1 = -i by omega] at this
    exact this (meet_sym.1 (meet_rev hm))
theorem sides_of {a : List Pt} {q : Pt} (g : Good_ a) (c : Cvx a) (hz : area a ≠ 0) (hr : ¬ Rim a q) (hp : par a q 0 a.length = true) (i : Int) : 0 < sg (area a) * turn (pt a i) (pt a (i + 1)) q := by
  have lo := g.lo
  have hn : a ≠ [] := by intro e; subst e; simp at lo
  have hl : 0 < (a.length : Int) := by omega
  have e : ∀ (b : List Pt) (i d : Int), pt b (i % b.length + d) = pt b (i + d) := fun b i d => pt_congr (by rw [Int.emod_add_emod])
  rcases Int.lt_or_gt_of_ne hz with h | h
  · have hs : sg (area a) = -1 := by unfold sg; rw [if_neg (by omega), if_pos h]
    rw [hs]
    have hlen : (tour a 0 (-1) a.length).length = a.length := tour_len _ _ _ _
    have lp : LP (tour a 0 (-1) a.length).length (pt (tour a 0 (-1) a.length)) := by rw [hlen]; exact lp_neg g c h
    have hpt := pt_rev hn
    have rim : ¬ Rim (tour a 0 (-1) a.length) q := by
      rintro ⟨j, j0, j1, ho⟩
      rw [hpt, hpt] at ho
      rw [hlen] at j1
      refine hr ⟨(-(j + 1)) % a.length, Int.emod_nonneg _ (by omega), Int.emod_lt_of_pos _ hl, ?_⟩
      have a1 := e a (-(j + 1)) 1
      have a0 := pt_mod a (-(j + 1))
      rw [a1, a0, show -(j + 1) + 1 = -j by omega]
      exact onL_rev.1 ho
    have hpar : par (tour a 0 (-1) a.length) q 0 (tour a 0 (-1) a.length).length = true := by
      rw [hlen, par_xr]
      rw [par_xr] at hp
      rw [← hp, ← xr_rev (fun i => tg (pt a (0 + i)) (pt a (0 + i + 1)) q)]
      congr 1
      funext j
      simp only [Int.zero_add]
      rw [hpt, hpt]
      have b1 := pt_per a (-(j + 1))
      have b2 := pt_per a (-j)
      rw [show (a.length : Int) - 1 - j = -(j + 1) + a.length by omega, show -(j + 1) + (a.length : Int) + 1 = -j + a.length by omega, b1, b2]
      unfold tg
      rw [turn_swap (pt a (-(j + 1))) (pt a (-j)) q]
      congr 1
      exact propext ⟨fun h => by omega, fun h => by omega⟩
    have hin := inside_left lp rim hpar (i := (-(i + 1)) % a.length) (Int.emod_nonneg _ (by omega)) (by rw [hlen]; exact Int.emod_lt_of_pos _ hl)
    have c1 := e (tour a 0 (-1) a.length) (-(i + 1)) 1
    have c0 := pt_mod (tour a 0 (-1) a.length) (-(i + 1))
    rw [hlen] at c1 c0
    rw [c1, c0, hpt, hpt, show - -(i + 1) = i + 1 by omega, show -(-(i + 1) + 1) = i by omega, turn_swap (pt a i) (pt a (i + 1)) q] at hin
    omega
  · have hs : sg (area a) = 1 := by unfold sg; rw [if_pos h]
    rw [hs]
    have hin := inside_left (lp_pos g c h) hr hp (i := i % a.length) (Int.emod_nonneg _ (by omega)) (Int.emod_lt_of_pos _ hl)
    rw [e a i 1, pt_mod] at hin
    omega
def ev (p : Pt) : Int := if p.x % 2 = 0 ∧ p.y % 2 = 0 then 1 else 0
theorem step_even (p q : Pt) : step p q % 2 = if (p.x - q.x) % 2 = 0 ∧ (p.y - q.y) % 2 = 0 then 0 else 1 := by
  unfold step
  generalize hX : p.x - q.x = X
  generalize hY : p.y - q.y = Y
  by_cases h : X % 2 = 0 ∧ Y % 2 = 0
  · rw [if_pos h]
    have : 2 ∣ Nat.gcd X.natAbs Y.natAbs := Nat.dvd_gcd (by omega) (by omega)
    omega
  · rw [if_neg h]
    have h1 : ¬ 2 ∣ Nat.gcd X.natAbs Y.natAbs := fun hd => h (by
      have a := Nat.dvd_trans hd (Nat.gcd_dvd_left _ _)
      have b := Nat.dvd_trans hd (Nat.gcd_dvd_right _ _)
      omega)
    omega
theorem parity (p q : Pt) : (cross p q + step p q + ev p + ev q) % 2 = 0 := by
  have h1 := step_even p q
  have hc : cross p q % 2 = ((p.x % 2) * (q.y % 2) - (p.y % 2) * (q.x % 2)) % 2 := by
    unfold cross
    rw [Int.sub_emod, Int.mul_emod, Int.mul_emod p.y, ← Int.sub_emod]
  have a1 : p.x % 2 = 0 ∨ p.x % 2 = 1 := by omega
  have a2 : p.y % 2 = 0 ∨ p.y % 2 = 1 := by omega
  have a3 : q.x % 2 = 0 ∨ q.x % 2 = 1 := by omega
  have a4 : q.y % 2 = 0 ∨ q.y % 2 = 1 := by omega
  unfold ev
  rcases a1 with e1 | e1 <;> rcases a2 with e2 | e2 <;> rcases a3 with e3 | e3 <;> rcases a4 with e4 | e4 <;>
    (rw [e1, e2, e3, e4] at hc
     have d1 : (p.x - q.x) % 2 = (p.x % 2 - q.x % 2) % 2 := by omega
     have d2 : (p.y - q.y) % 2 = (p.y % 2 - q.y % 2) % 2 := by omega
     rw [d1, d2, e1, e2, e3, e4] at h1
     simp [e1, e2, e3, e4] at h1 hc ⊢
     omega)
theorem sm_plus (f g : Int → Int) : ∀ k : Nat, sm (fun i => f i + g i) k = sm f k + sm g k
  | 0 => rfl
  | k + 1 => by simp only [sm]; rw [sm_plus f g k]; omega
theorem sm_mod {f : Int → Int} (h : ∀ i, f i % 2 = 0) : ∀ k : Nat, sm f k % 2 = 0
  | 0 => rfl
  | k + 1 => by simp only [sm]; have := sm_mod h k; have := h k; omega
theorem sm_round {f : Int → Int} {k : Nat} (h : f k = f 0) : sm (fun i => f (i + 1)) k = sm f k := by
  have key : ∀ m : Nat, sm (fun i => f (i + 1)) m + f 0 = sm f m + f m := by
    intro m
    induction m with
    | zero => rfl
    | succ m ih => simp only [sm]; rw [show ((m + 1 : Nat) : Int) = (m : Int) + 1 by omega]; omega
  have := key k
  omega
theorem area_round (a : List Pt) : (area a + round a) % 2 = 0 := by
  have h1 := sm_mod (f := fun i => cross (pt a i) (pt a (i + 1)) + step (pt a i) (pt a (i + 1)) + ev (pt a i) + ev (pt a (i + 1))) (fun i => parity _ _) a.length
  rw [sm_plus (fun i => cross (pt a i) (pt a (i + 1)) + step (pt a i) (pt a (i + 1)) + ev (pt a i)) (fun i => ev (pt a (i + 1))), sm_plus (fun i => cross (pt a i) (pt a (i + 1)) + step (pt a i) (pt a (i + 1))) (fun i => ev (pt a i)),
    sm_plus (fun i => cross (pt a i) (pt a (i + 1))) (fun i => step (pt a i) (pt a (i + 1))), sm_round (f := fun i => ev (pt a i)) (by show ev (pt a a.length) = ev (pt a 0); rw [show (a.length : Int) = 0 + a.length by omega, pt_per])] at h1
  unfold area round
  omega
theorem step_dvd_cross (p q : Pt) : step p q ∣ cross p q := by
  obtain ⟨h1, h2⟩ := step_dvd p q
  have e : cross p q = p.x * (q.y - p.y) - p.y * (q.x - p.x) := by unfold cross; grind
  rw [e]
  exact Int.dvd_sub (dvd_mul' _ h2) (dvd_mul' _ h1)
theorem turn_zero (p q : Pt) : turn p q ⟨0, 0⟩ = cross p q := by unfold turn cross; grind
theorem sm_mul (s : Int) (f : Int → Int) : ∀ k : Nat, sm (fun i => s * f i) k = s * sm f k
  | 0 => by simp [sm]
  | k + 1 => by simp only [sm]; rw [sm_mul s f k, Int.mul_add]
theorem sg_mul_self {n : Int} : sg n * n = n.natAbs := by
  unfold sg
  split
  · omega
  · split <;> omega
theorem cross_step {a : List Pt} (g : Good_ a) (c : Cvx a) (hi : inside a = 1) (hw : 0 < wh a ⟨0, 0⟩) : (∀ i, sg (area a) * cross (pt a i) (pt a (i + 1)) = step (pt a i) (pt a (i + 1))) ∧ (sg (area a) = 1 ∨ sg (area a) = -1) ∧ area a ≠ 0 ∧ ¬ Rim a ⟨0, 0⟩ := by
  have lo := g.lo; have hi2 := g.hi
  have hn : a ≠ [] := by intro e; subst e; simp at lo
  have hin : ∀ i, Nr (pt a i) := fun i => (in_all g.isIn hn i).nr
  have hz : area a ≠ 0 := fun e => by
    have q1 := c 0 (Int.le_refl _) (by omega)
    have q2 := g.turn 0 (Int.le_refl _) (by omega)
    rw [e] at q1
    unfold sg at q1
    split at q1
    · simp at q1
    · split at q1
      · simp at q1
      · omega
  have hsg : sg (area a) = 1 ∨ sg (area a) = -1 := by
    unfold sg; split; exact .inl rfl; split; exact .inr rfl; omega
  unfold wh at hw
  have hr : ¬ Rim a ⟨0, 0⟩ := fun h => by rw [if_pos h] at hw; omega
  rw [if_neg hr] at hw
  have hp : par a ⟨0, 0⟩ 0 a.length = true := by
    cases h : par a ⟨0, 0⟩ 0 a.length with
    | true => rfl
    | false => rw [h] at hw; simp at hw
  have hside := fun i => sides_of g c hz hr hp i
  have hab := area_bd (a := a) (by omega) hin
  have hrd : round a ≤ 400000 ∧ -400000 ≤ round a := by
    have h1 := sm_bd (fun i => step_bd (hin i) (hin (i + 1))) a.length
    unfold round; omega
  have har : (area a).natAbs = round a := by
    unfold inside at hi
    rw [wr_id (n := (area a).natAbs + 2) (by omega), wr_id (n := (area a).natAbs + 2 - round a) (by omega)] at hi
    have hb : -200400002 ≤ ((area a).natAbs + 2 - round a).tdiv 2 ∧ ((area a).natAbs + 2 - round a : Int).tdiv 2 ≤ 200400002 := tdiv_bd (A := 200400002) (by omega)
    rw [wr_id (by omega)] at hi
    have hm := area_round a
    have := Int.tmod_add_mul_tdiv ((area a).natAbs + 2 - round a) 2
    have h2 := Int.natAbs_tmod ((area a).natAbs + 2 - round a) 2
    have h3 := Nat.mod_lt ((area a).natAbs + 2 - round a : Int).natAbs (show 0 < (2 : Int).natAbs by decide)
    omega
  have each : ∀ i : Int, step (pt a i) (pt a (i + 1)) ≤ sg (area a) * cross (pt a i) (pt a (i + 1)) := fun i => by
    have h1 := hside i
    rw [turn_zero] at h1
    exact Int.le_of_dvd h1 (dvd_mul' _ (step_dvd_cross _ _))
  have hsum : sm (fun i => sg (area a) * cross (pt a i) (pt a (i + 1)) - step (pt a i) (pt a (i + 1))) a.length = 0 := by
    rw [sm_add (fun i => sg (area a) * cross (pt a i) (pt a (i + 1))) (fun i => step (pt a i) (pt a (i + 1))), sm_mul]
    have : sg (area a) * area a = (area a).natAbs := sg_mul_self
    unfold area round at *
    omega
  refine ⟨fun i => ?_, hsg, hz, hr⟩
  have hb := (sm_nonneg (g := fun i => sg (area a) * cross (pt a i) (pt a (i + 1)) - step (pt a i) (pt a (i + 1))) (k := a.length) fun i _ _ => by have := each i; omega).2 (i % a.length) (Int.emod_nonneg _ (by omega)) (Int.emod_lt_of_pos _ (by omega))
  have e1 : pt a (i % a.length + 1) = pt a (i + 1) := pt_congr (by rw [Int.emod_add_emod])
  have e0 := pt_mod a i
  rw [hsum, e1, e0] at hb
  have := each i
  omega
end Go.AM
namespace Go.AM
theorem idxLoop {β γ : Type} {f : Nat → Int → List β → Option γ} {H : Int → β} {n : Nat} {K : List β → Option γ} (hstop : ∀ m w, f (m + 1) n w = K w)
    (hgo : ∀ m v w, 0 ≤ v → v < (n : Int) → w.length ≤ n → f (m + 1) v w = f m (v + 1) (w ++ [H v])) : ∀ (m i : Nat), i ≤ n → n - i < m → f m i ((List.range i).map fun (j : Nat) => H j) = K ((List.range n).map fun (j : Nat) => H j)
  | 0, i, _, hm => by omega
  | m + 1, i, hi, hm => by
    by_cases h : i < n
    · rw [hgo m i _ (by omega) (by omega) (by simp; omega)]
      have e : (List.range i).map (fun (j : Nat) => H j) ++ [H i] = (List.range (i + 1)).map fun (j : Nat) => H j := by simp [List.range_succ]
      rw [e]
      exact idxLoop hstop hgo m (i + 1) (by omega) (by omega)
    · have e : i = n := by omega
      subst e
      exact hstop m _
theorem pt_range {H : Int → Pt} {n : Nat} (hn : 0 < n) (hper : ∀ i, H (i + n) = H i) (i : Int) : pt ((List.range n).map fun (j : Nat) => H j) i = H i := by
  have hl : ((List.range n).map fun (j : Nat) => H j).length = n := by simp
  have q1 := Int.emod_nonneg i (show (n : Int) ≠ 0 by omega)
  have q2 := Int.emod_lt_of_pos i (show 0 < (n : Int) by omega)
  have h1 := pt_get (a := (List.range n).map fun (j : Nat) => H j) (i := i % n) q1 (by rw [hl]; exact q2)
  rw [List.getElem?_map, List.getElem?_range (by omega)] at h1
  simp only [Option.map_some, Option.some.injEq] at h1
  have e : pt ((List.range n).map fun (j : Nat) => H j) (i % n) = pt ((List.range n).map fun (j : Nat) => H j) i := by
    have := pt_mod ((List.range n).map fun (j : Nat) => H j) i
    rwa [hl] at this
  rw [← e, ← h1, Int.toNat_of_nonneg q1]
  have mul : ∀ (k : Nat) (x : Int), H (x + k * n) = H x := by
    intro k
    induction k with
    | zero => intro x; simp
    | succ k ih => intro x; rw [show x + ((k + 1 : Nat) : Int) * n = (x + k * n) + n by rw [Int.natCast_add, Int.add_mul]; simp; omega, hper, ih]
  have q3 := Int.mul_ediv_add_emod i n
  rcases Int.le_total 0 (i / n) with hq | hq
  · have := mul (i / n).toNat (i % n)
    rw [Int.toNat_of_nonneg hq] at this
    rw [← this]; congr 1; rw [Int.mul_comm]; omega
  · have := mul (-(i / n)).toNat i
    rw [Int.toNat_of_nonneg (by omega), Int.neg_mul] at this
    rw [← this]; congr 1; rw [Int.mul_comm]; omega
theorem pt_tour' {a : List Pt} {k s : Int} (hn : a ≠ []) (i : Int) : pt (tour a k s a.length) i = pt a (k + i * s) := by
  rw [pt_tour hn]
  apply pt_congr
  rw [Int.add_emod, Int.mul_emod, Int.emod_emod_of_dvd _ (Int.dvd_refl _), ← Int.mul_emod, ← Int.add_emod]
theorem tellFirst_val {L : Nat} {a : List Pt} (hn : a ≠ []) (hs : (a.length : Int) ≤ 1000) (hL : 3000 < L) (hin : ∀ i, Nr (pt a i)) (hz : sg (area a) = 1 ∨ sg (area a) = -1) :
    ∃ k, IsMin a k a.length ∧ impl_tellFirst L a = some (tour a k (sg (area a)) a.length) ∧ impl_first L a = some k := by
  obtain ⟨k, k1, k2, _⟩ := impl_first_eq (L := L) hn (by omega) (by omega)
  refine ⟨k, k2, ?_, k1⟩
  unfold impl_tellFirst
  simp only [k1, gbind_eq, Option.bind_some, impl_twice_eq hn (show (a.length : Int) ≤ 1000 by omega) (show (a.length : Int) < L by omega) hin, impl_sign_eq]
  rw [impl_told_eq hn (by omega) ⟨k2.1, by have := k2.2.1; omega⟩ (by omega) (by omega)]
  rfl
theorem step_sym (p q : Pt) : step p q = step q p := by
  unfold step
  rw [show (p.x - q.x).natAbs = (q.x - p.x).natAbs by omega, show (p.y - q.y).natAbs = (q.y - p.y).natAbs by omega]
structure On1 (c : List Pt) : Prop where
  lp : LP c.length (pt c)
  hi : (c.length : Int) ≤ 10
  isIn : ∀ i, In (pt c i)
  cr : ∀ i, cross (pt c i) (pt c (i + 1)) = step (pt c i) (pt c (i + 1))
  pos : ∀ i, 0 < step (pt c i) (pt c (i + 1))
  rim : ∀ i, ¬ OnL (pt c i) (pt c (i + 1)) ⟨0, 0⟩
theorem one_told {L : Nat} {a : List Pt} (hL : 3000 < L) (h : spec_duOne L a = some true) : ∃ k c, c = tour a k (sg (area a)) a.length ∧ IsMin a k a.length ∧ (sg (area a) = 1 ∨ sg (area a) = -1) ∧ spec_pgFirst L a = some c ∧ impl_tellFirst L a = some c ∧ On1 c ∧ Good_ a := by
  obtain ⟨g, cv, hi1, hw⟩ := one_val hL h
  obtain ⟨hst, hsg, hz, hr⟩ := cross_step g cv hi1 hw
  have lo := g.lo; have hi := g.hi
  have hn : a ≠ [] := by intro e; subst e; simp at lo
  have hin : ∀ i, Nr (pt a i) := fun i => (in_all g.isIn hn i).nr
  obtain ⟨k, k1, k2, _⟩ := tellFirst_val (L := L) hn (by omega) hL hin hsg
  obtain ⟨c, c1, c2, _⟩ := first_eq (L := L) hn (by omega) hL hin g.ne (by omega) hz
  rw [k2] at c2
  cases c2
  have hpt := fun i => pt_tour' (a := a) (k := k) (s := sg (area a)) hn i
  refine ⟨k, _, rfl, k1, hsg, c1, k2, ⟨?_, by rw [tour_len]; exact hi, fun i => by rw [hpt]; exact in_all g.isIn hn _, fun i => ?_, fun i => ?_, fun i ho => ?_⟩, g⟩
  · rw [tour_len]
    have e : pt (tour a k (sg (area a)) a.length) = fun i => pt a (k + i * sg (area a)) := by funext i; exact hpt i
    rw [e]
    rcases Int.lt_or_gt_of_ne hz with h1 | h1
    · have e1 : sg (area a) = -1 := by unfold sg; rw [if_neg (by omega), if_pos h1]
      rw [e1]
      have := (lp_neg g cv h1).shift (-k)
      have e2 : (fun i => pt a (k + i * -1)) = fun t => pt (tour a 0 (-1) a.length) (t + -k) := by
        funext t; rw [pt_rev hn]; congr 1; omega
      rw [e2]; exact this
    · have e1 : sg (area a) = 1 := by unfold sg; rw [if_pos h1]
      rw [e1]
      have := (lp_pos g cv h1).shift k
      have e2 : (fun i => pt a (k + i * 1)) = fun t => pt a (t + k) := by funext t; congr 1; omega
      rw [e2]; exact this
  · rw [hpt, hpt]
    rcases hsg with e1 | e1
    · rw [e1]
      have := hst (k + i * 1)
      rw [e1] at this
      rw [show k + (i + 1) * 1 = k + i * 1 + 1 by omega]
      omega
    · rw [e1]
      have := hst (k + (i + 1) * -1)
      rw [e1, show k + (i + 1) * -1 + 1 = k + i * -1 by omega] at this
      rw [step_sym, ← this, cross_anti (pt a (k + (i + 1) * -1)) (pt a (k + i * -1))]
      omega
  · refine step_pos fun e => ?_
    rw [hpt, hpt] at e
    have := pt_inj hn g.ne e
    have h5 := Int.emod_emod_of_dvd (k + (i + 1) * sg (area a) - (k + i * sg (area a))) (Int.dvd_refl (a.length : Int))
    have h6 : (k + (i + 1) * sg (area a) - (k + i * sg (area a))) % (a.length : Int) = 0 := by rw [Int.sub_emod, ← this]; simp
    have h7 : (a.length : Int) ∣ sg (area a) := by
      have := Int.dvd_of_emod_eq_zero h6
      rwa [show k + (i + 1) * sg (area a) - (k + i * sg (area a)) = sg (area a) by rw [Int.add_mul]; omega] at this
    rcases hsg with e1 | e1
    · rw [e1] at h7; have := Int.le_of_dvd (by omega) h7; omega
    · rw [e1] at h7; have := Int.le_of_dvd (show (0 : Int) < 1 by omega) (Int.dvd_neg.1 (by simpa using h7)); omega
  · rw [hpt, hpt] at ho
    have hl : 0 < (a.length : Int) := by omega
    have mk : ∀ j : Int, OnL (pt a j) (pt a (j + 1)) ⟨0, 0⟩ → False := fun j hj => hr ⟨j % a.length, Int.emod_nonneg _ (by omega), Int.emod_lt_of_pos _ hl, by
      have e1 : pt a (j % a.length + 1) = pt a (j + 1) := pt_congr (by rw [Int.emod_add_emod])
      rw [e1, pt_mod]; exact hj⟩
    rcases hsg with e1 | e1
    · rw [e1] at ho
      exact mk (k + i * 1) (by rw [show k + i * 1 + 1 = k + (i + 1) * 1 by omega]; exact ho)
    · rw [e1] at ho
      exact mk (k + (i + 1) * -1) (by rw [show k + (i + 1) * -1 + 1 = k + i * -1 by omega]; exact onL_rev.1 ho)
def dpt (p q : Pt) : Pt := ⟨(q.y - p.y).tdiv (step p q), (p.x - q.x).tdiv (step p q)⟩
noncomputable def dlist (c : List Pt) : List Pt := (List.range c.length).map fun (j : Nat) => dpt (pt c j) (pt c ((j : Int) + 1))
theorem dpt_mul {p q : Pt} (h : 0 < step p q) : (dpt p q).x * step p q = q.y - p.y ∧ (dpt p q).y * step p q = p.x - q.x := by
  obtain ⟨h1, h2⟩ := step_dvd p q
  refine ⟨exact_div' h h2, exact_div' h ?_⟩
  obtain ⟨k, hk⟩ := h1
  exact ⟨-k, by rw [Int.mul_neg, ← hk]; omega⟩
where exact_div' {G z : Int} (hG : 0 < G) (h : G ∣ z) : z.tdiv G * G = z := Int.tdiv_mul_cancel h
theorem pt_dlist {c : List Pt} (hn : 0 < c.length) (i : Int) : pt (dlist c) i = dpt (pt c i) (pt c (i + 1)) :=
  pt_range (H := fun i => dpt (pt c i) (pt c (i + 1))) hn (fun i => by
    have e1 := pt_per c i
    have e2 := pt_per c (i + 1)
    rw [e1, show i + (c.length : Int) + 1 = i + 1 + c.length by omega, e2]) i
theorem dlist_len (c : List Pt) : (dlist c).length = c.length := by simp [dlist]
theorem dpt_dot {p q : Pt} (h : 0 < step p q) (hc : cross p q = step p q) : (dpt p q).x * p.x + (dpt p q).y * p.y = 1 ∧ (dpt p q).x * q.x + (dpt p q).y * q.y = 1 := by
  obtain ⟨h1, h2⟩ := dpt_mul h
  unfold cross at hc
  have e1 : ((dpt p q).x * p.x + (dpt p q).y * p.y) * step p q = 1 * step p q := by grind
  have e2 : ((dpt p q).x * q.x + (dpt p q).y * q.y) * step p q = 1 * step p q := by grind
  exact ⟨Int.eq_of_mul_eq_mul_right (by omega) e1, Int.eq_of_mul_eq_mul_right (by omega) e2⟩
theorem sm_pos {g : Int → Int} : ∀ {k : Nat}, 0 < k → (∀ i : Int, 0 ≤ i → i < k → 0 < g i) → 0 < sm g k
  | 0, h, _ => by omega
  | k + 1, _, h => by
    have h3 := h k (by omega) (by omega)
    have := (sm_nonneg (g := g) (k := k) fun i h0 h1 => by have := h i h0 (by omega); omega).1
    simp only [sm]
    omega
theorem flat {E A B C : Pt} (ha : E.x * A.x + E.y * A.y = 1) (hb : E.x * B.x + E.y * B.y = 1) (hc : E.x * C.x + E.y * C.y = 1) : turn A B C = 0 := by
  unfold turn
  have h1 : E.x * (B.x - A.x) + E.y * (B.y - A.y) = 0 := by rw [Int.mul_sub, Int.mul_sub]; omega
  have h2 : E.x * (C.x - A.x) + E.y * (C.y - A.y) = 0 := by rw [Int.mul_sub, Int.mul_sub]; omega
  generalize B.x - A.x = X1 at *
  generalize B.y - A.y = Y1 at *
  generalize C.x - A.x = X2 at *
  generalize C.y - A.y = Y2 at *
  clear hb hc
  have e1 : E.x * (X1 * Y2 - Y1 * X2) = 0 := by
    have : E.x * (X1 * Y2 - Y1 * X2) = (E.x * X1 + E.y * Y1) * Y2 - Y1 * (E.x * X2 + E.y * Y2) := by grind
    rw [this, h1, h2]; simp
  have e2 : E.y * (X1 * Y2 - Y1 * X2) = 0 := by
    have : E.y * (X1 * Y2 - Y1 * X2) = X1 * (E.x * X2 + E.y * Y2) - (E.x * X1 + E.y * Y1) * X2 := by grind
    rw [this, h1, h2]; simp
  rcases Int.mul_eq_zero.1 e1 with h | h
  · rcases Int.mul_eq_zero.1 e2 with h' | h'
    · rw [h, h'] at ha; simp at ha
    · exact h'
  · exact h
theorem dlist_ok {c : List Pt} (o : On1 c) : dlist c ≠ [] ∧ (∀ i, Nr (pt (dlist c) i)) ∧ 0 < area (dlist c) ∧ (∀ i k, 0 ≤ k → k < i → i < (c.length : Int) → pt (dlist c) k ≠ pt (dlist c) i) := by
  have lo := o.lp.n3
  have hpt := fun i => pt_dlist (c := c) (by omega) i
  refine ⟨fun e => ?_, fun i => ?_, ?_, fun i k k0 hk hi he => ?_⟩
  · have := congrArg List.length e; rw [dlist_len] at this; simp only [List.length_nil] at this; omega
  · rw [hpt]
    have h1 := o.isIn i; have h2 := o.isIn (i + 1)
    unfold In at h1 h2
    have b1 : -80 ≤ ((pt c (i + 1)).y - (pt c i).y).tdiv (step (pt c i) (pt c (i + 1))) ∧ ((pt c (i + 1)).y - (pt c i).y).tdiv (step (pt c i) (pt c (i + 1))) ≤ 80 := tdiv_bd (A := 80) (by omega)
    have b2 : -80 ≤ ((pt c i).x - (pt c (i + 1)).x).tdiv (step (pt c i) (pt c (i + 1))) ∧ ((pt c i).x - (pt c (i + 1)).x).tdiv (step (pt c i) (pt c (i + 1))) ≤ 80 := tdiv_bd (A := 80) (by omega)
    unfold Nr dpt
    simp only
    omega
  · unfold area
    rw [dlist_len]
    refine sm_pos (by omega) fun i _ _ => ?_
    rw [hpt, hpt]
    have p1 := o.pos i; have p2 := o.pos (i + 1)
    obtain ⟨a1, a2⟩ := dpt_mul p1
    obtain ⟨b1, b2⟩ := dpt_mul p2
    have hl := o.lp.left i
    rw [show i + 1 + 1 = i + 2 by omega] at *
    have e : cross (dpt (pt c i) (pt c (i + 1))) (dpt (pt c (i + 1)) (pt c (i + 2))) * (step (pt c i) (pt c (i + 1)) * step (pt c (i + 1)) (pt c (i + 2))) = turn (pt c i) (pt c (i + 1)) (pt c (i + 2)) := by
      unfold cross turn; grind
    rw [← e] at hl
    have hpp := Int.mul_pos p1 p2
    rcases Int.lt_or_le 0 (cross (dpt (pt c i) (pt c (i + 1))) (dpt (pt c (i + 1)) (pt c (i + 2)))) with h | h
    · exact h
    · have := Int.mul_nonpos_of_nonpos_of_nonneg h (show 0 ≤ step (pt c i) (pt c (i + 1)) * step (pt c (i + 1)) (pt c (i + 2)) by omega); omega
  · rw [hpt, hpt] at he
    obtain ⟨d1, d2⟩ := dpt_dot (o.pos k) (o.cr k)
    obtain ⟨d3, d4⟩ := dpt_dot (o.pos i) (o.cr i)
    rw [he] at d1 d2
    generalize dpt (pt c i) (pt c (i + 1)) = E at *
    have t1 := flat d3 d4 d1
    have t2 := flat d3 d4 d2
    have g1 := (o.lp.ge i k (by omega) hi k0 (by omega)).2 t1
    rcases g1 with e | e | ⟨e1, e2⟩
    · omega
    · omega
    · subst e2
      rw [Int.zero_add] at t2
      have g2 := (o.lp.ge i 1 (by omega) hi (by omega) (by omega)).2 t2
      omega
theorem dual_eq {L : Nat} {a : List Pt} (hL : 600000 < L) (h : spec_duOne L a = some true) : ∃ d, spec_duDual L a = some d ∧ impl_dual L a = some d ∧ (d.length : Int) ≤ 10 ∧ ∃ k c r, c = tour a k (sg (area a)) a.length ∧ (sg (area a) = 1 ∨ sg (area a) = -1) ∧ spec_pgFirst L a = some c ∧ On1 c ∧ Good_ a ∧ d = tour (dlist c) r 1 (dlist c).length := by
  obtain ⟨k, c, hc, _, hsgn, c1, c2, o, g⟩ := one_told (by omega) h
  have lo := o.lp.n3; have hi := o.hi
  have hn : c ≠ [] := by intro e; subst e; simp at lo
  have hin : ∀ i, Nr (pt c i) := fun i => (o.isIn i).nr
  obtain ⟨q1, q2, q3, q4⟩ := dlist_ok o
  obtain ⟨d, d1, d2, _⟩ := first_eq (L := L) (a := dlist c) q1 (by rw [dlist_len]; omega) (by omega) q2 (by rw [dlist_len]; exact q4) (by rw [dlist_len]; omega) (by omega)
  have hsg : sg (area (dlist c)) = 1 := by unfold sg; rw [if_pos q3]
  obtain ⟨r, r1, r2, r3⟩ := tellFirst_val (L := L) q1 (by rw [dlist_len]; omega) (by omega) q2 (.inl hsg)
  rw [hsg] at r2
  rw [d2] at r2
  cases r2
  have h3 : ¬ ((c.length : Int) = 0) := by omega
  refine ⟨tour (dlist c) r 1 (dlist c).length, ?_, ?_, ?_, k, c, r, hc, hsgn, c1, o, g, rfl⟩
  · unfold spec_duDual
    simp only [c1, gbind_eq, Option.bind_some]
    have := idxLoop (f := spec_duDual_l0 L c) (H := fun i => dpt (pt c i) (pt c (i + 1))) (n := c.length) (K := fun w => (spec_pgFirst L w).bind fun r2 => some r2) (fun m w => by
      simp only [spec_duDual_l0, ilt_eq, ilen_mapep, Int.lt_irrefl, decide_false, cond_false, gbind_eq]) (fun m v w h0 h1 hw => by
      have e1 := o.pos v
      have hb := sub_bd (hin (v + 1)) (hin v)
      have hb' := sub_bd (hin v) (hin (v + 1))
      have z : ¬ step (pt c v) (pt c (v + 1)) = 0 := by omega
      have b1 := tdiv_bd (a := (pt c (v + 1)).y - (pt c v).y) (b := step (pt c v) (pt c (v + 1))) (A := 2000) (by omega)
      have b2 := tdiv_bd (a := (pt c v).x - (pt c (v + 1)).x) (b := step (pt c v) (pt c (v + 1))) (A := 2000) (by omega)
      have hm1 := Int.emod_nonneg (v + 1) h3
      have hm2 := Int.emod_lt_of_pos (v + 1) (show 0 < (c.length : Int) by omega)
      simp only [spec_duDual_l0, ilt_eq, ile_eq, ieq_eq, ilen_mapep, h1, h0, h3, decide_true, decide_false, Bool.and_self, cond_true, cond_false, gbind_eq, lget_pt h0 h1, Option.bind_some, iadd_eq, wr_s (i := v + 1) (by omega), irem_nn (show 0 ≤ v + 1 by omega), hm1, hm2, lget_pt hm1 hm2, pt_mod,
        spec_pgStep_eq (hin v) (hin (v + 1)) (show 3000 < L by omega), z, isub_eq, iquo_eq, wr_s (i := (pt c (v + 1)).y - (pt c v).y) (by omega), wr_s (i := (pt c v).x - (pt c (v + 1)).x) (by omega), wr_s (i := ((pt c (v + 1)).y - (pt c v).y).tdiv (step (pt c v) (pt c (v + 1)))) (by omega), wr_s (i := ((pt c v).x - (pt c (v + 1)).x).tdiv (step (pt c v) (pt c (v + 1)))) (by omega), lcat_eq]
      simp only [ilen_eq, List.length_cons, List.length_nil, fits_s (n := (w.length : Int) + ((0 + 1 : Nat) : Int)) (b := 16) (by omega), cond_true]
      rfl) L 0 (by omega) (by omega)
    have this' : spec_duDual_l0 L c L 0 [] = (spec_pgFirst L (dlist c)).bind fun r2 => some r2 := this
    rw [this', d1]; rfl
  · unfold impl_dual
    simp only [c2, gbind_eq, Option.bind_some]
    have := idxLoop (f := impl_dual_l0 L c) (H := fun i => dpt (pt c i) (pt c (i + 1))) (n := c.length) (K := fun w => (impl_first L w).bind fun r3 => (impl_told L w r3 1).bind fun r4 => some r4) (fun m w => by
      simp only [impl_dual_l0, ilt_eq, ilen_mapep, Int.lt_irrefl, decide_false, cond_false, gbind_eq]) (fun m v w h0 h1 hw => by
      have e1 := o.pos v
      have hb := sub_bd (hin (v + 1)) (hin v)
      have hb' := sub_bd (hin v) (hin (v + 1))
      have z : ¬ step (pt c v) (pt c (v + 1)) = 0 := by omega
      have b1 := tdiv_bd (a := (pt c (v + 1)).y - (pt c v).y) (b := step (pt c v) (pt c (v + 1))) (A := 2000) (by omega)
      have b2 := tdiv_bd (a := (pt c v).x - (pt c (v + 1)).x) (b := step (pt c v) (pt c (v + 1))) (A := 2000) (by omega)
      simp only [impl_dual_l0, ilt_eq, ile_eq, ieq_eq, ilen_mapep, h1, h0, decide_true, Bool.and_self, cond_true, gbind_eq, lget_pt h0 h1, Option.bind_some, iadd_eq, wr_s (i := v + 1) (by omega), impl_at_eq hn (show (c.length : Int) ≤ 1000000000 by omega),
        impl_cross_eq (hin v) (hin (v + 1)), o.cr v, z, decide_false, cond_false, isub_eq, iquo_eq, wr_s (i := (pt c (v + 1)).y - (pt c v).y) (by omega), wr_s (i := (pt c v).x - (pt c (v + 1)).x) (by omega), wr_s (i := ((pt c (v + 1)).y - (pt c v).y).tdiv (step (pt c v) (pt c (v + 1)))) (by omega), wr_s (i := ((pt c v).x - (pt c (v + 1)).x).tdiv (step (pt c v) (pt c (v + 1)))) (by omega), lcat_eq]
      simp only [ilen_eq, List.length_cons, List.length_nil, fits_s (n := (w.length : Int) + ((0 + 1 : Nat) : Int)) (b := 16) (by omega), cond_true]
      rfl) L 0 (by omega) (by omega)
    have this' : impl_dual_l0 L c L 0 [] = (impl_first L (dlist c)).bind fun r3 => (impl_told L (dlist c) r3 1).bind fun r4 => some r4 := this
    rw [this', r3]
    simp only [Option.bind_some]
    rw [impl_told_eq q1 (by rw [dlist_len]; omega) ⟨r1.1, by have := r1.2.1; rw [dlist_len] at this; omega⟩ (by omega) (by rw [dlist_len]; omega)]
    rfl
  · rw [tour_len, dlist_len]; exact hi
end Go.AM
namespace Go.AM
def Ring (w : Int → Pt) : Prop := ∀ i, cross (w i) (w (i + 1)) = 1
def nm (w : Int → Pt) (i : Int) : Int := cross (w (i - 1)) (w (i + 1))
def lin (α β γ δ : Int) (p : Pt) : Pt := ⟨α * p.x + β * p.y, γ * p.x + δ * p.y⟩
theorem pt_ext {p q : Pt} (h : p.x = q.x) (k : p.y = q.y) : p = q := by cases p; cases q; simp only at h k; subst h; subst k; rfl
theorem cross_lin {α β γ δ : Int} (p q : Pt) : cross (lin α β γ δ p) (lin α β γ δ q) = (α * δ - β * γ) * cross p q := by unfold cross lin; grind
theorem Ring.rel {w : Int → Pt} (h : Ring w) (i : Int) : (w (i - 1)).x + (w (i + 1)).x = nm w i * (w i).x ∧ (w (i - 1)).y + (w (i + 1)).y = nm w i * (w i).y := by
  have h1 := h (i - 1)
  have h2 := h i
  rw [show i - 1 + 1 = i by omega] at h1
  unfold nm
  unfold cross at *
  constructor <;> grind
theorem Ring.step {w v : Int → Pt} (hw : Ring w) (hv : Ring v) {α β γ δ : Int} {i : Int} (hn : nm w i = nm v i) (h : v i = lin α β γ δ (w i)) :
    (v (i - 1) = lin α β γ δ (w (i - 1)) → v (i + 1) = lin α β γ δ (w (i + 1))) ∧ (v (i + 1) = lin α β γ δ (w (i + 1)) → v (i - 1) = lin α β γ δ (w (i - 1))) := by
  obtain ⟨a1, a2⟩ := hw.rel i
  obtain ⟨b1, b2⟩ := hv.rel i
  rw [← hn] at b1 b2
  have hx : (v i).x = α * (w i).x + β * (w i).y := by rw [h]; rfl
  have hy : (v i).y = γ * (w i).x + δ * (w i).y := by rw [h]; rfl
  generalize nm w i = n at *
  constructor
  · intro k
    have kx : (v (i - 1)).x = α * (w (i - 1)).x + β * (w (i - 1)).y := by rw [k]; rfl
    have ky : (v (i - 1)).y = γ * (w (i - 1)).x + δ * (w (i - 1)).y := by rw [k]; rfl
    refine pt_ext ?_ ?_
    · show (v (i + 1)).x = α * (w (i + 1)).x + β * (w (i + 1)).y
      grind
    · show (v (i + 1)).y = γ * (w (i + 1)).x + δ * (w (i + 1)).y
      grind
  · intro k
    have kx : (v (i + 1)).x = α * (w (i + 1)).x + β * (w (i + 1)).y := by rw [k]; rfl
    have ky : (v (i + 1)).y = γ * (w (i + 1)).x + δ * (w (i + 1)).y := by rw [k]; rfl
    refine pt_ext ?_ ?_
    · show (v (i - 1)).x = α * (w (i - 1)).x + β * (w (i - 1)).y
      grind
    · show (v (i - 1)).y = γ * (w (i - 1)).x + δ * (w (i - 1)).y
      grind
theorem ring_same {w v : Int → Pt} (hw : Ring w) (hv : Ring v) (hn : ∀ i, nm w i = nm v i) : ∃ α β γ δ : Int, α * δ - β * γ = 1 ∧ ∀ i, v i = lin α β γ δ (w i) := by
  have h0 := hw 0
  have k0 := hv 0
  rw [Int.zero_add] at h0 k0
  unfold cross at h0 k0
  refine ⟨(v 0).x * (w 1).y - (v 1).x * (w 0).y, (v 1).x * (w 0).x - (v 0).x * (w 1).x, (v 0).y * (w 1).y - (v 1).y * (w 0).y, (v 1).y * (w 0).x - (v 0).y * (w 1).x, ?_, ?_⟩
  · have : ((v 0).x * (w 1).y - (v 1).x * (w 0).y) * ((v 1).y * (w 0).x - (v 0).y * (w 1).x) - ((v 1).x * (w 0).x - (v 0).x * (w 1).x) * ((v 0).y * (w 1).y - (v 1).y * (w 0).y) =
        ((v 0).x * (v 1).y - (v 0).y * (v 1).x) * ((w 0).x * (w 1).y - (w 0).y * (w 1).x) := by grind
    rw [this, h0, k0]; rfl
  · have e0 : v 0 = lin ((v 0).x * (w 1).y - (v 1).x * (w 0).y) ((v 1).x * (w 0).x - (v 0).x * (w 1).x) ((v 0).y * (w 1).y - (v 1).y * (w 0).y) ((v 1).y * (w 0).x - (v 0).y * (w 1).x) (w 0) := by
      refine pt_ext ?_ ?_
      · show (v 0).x = ((v 0).x * (w 1).y - (v 1).x * (w 0).y) * (w 0).x + ((v 1).x * (w 0).x - (v 0).x * (w 1).x) * (w 0).y
        have : ((v 0).x * (w 1).y - (v 1).x * (w 0).y) * (w 0).x + ((v 1).x * (w 0).x - (v 0).x * (w 1).x) * (w 0).y = (v 0).x * ((w 0).x * (w 1).y - (w 0).y * (w 1).x) := by grind
        rw [this, h0]; omega
      · show (v 0).y = ((v 0).y * (w 1).y - (v 1).y * (w 0).y) * (w 0).x + ((v 1).y * (w 0).x - (v 0).y * (w 1).x) * (w 0).y
        have : ((v 0).y * (w 1).y - (v 1).y * (w 0).y) * (w 0).x + ((v 1).y * (w 0).x - (v 0).y * (w 1).x) * (w 0).y = (v 0).y * ((w 0).x * (w 1).y - (w 0).y * (w 1).x) := by grind
        rw [this, h0]; omega
    have e1 : v 1 = lin ((v 0).x * (w 1).y - (v 1).x * (w 0).y) ((v 1).x * (w 0).x - (v 0).x * (w 1).x) ((v 0).y * (w 1).y - (v 1).y * (w 0).y) ((v 1).y * (w 0).x - (v 0).y * (w 1).x) (w 1) := by
      refine pt_ext ?_ ?_
      · show (v 1).x = ((v 0).x * (w 1).y - (v 1).x * (w 0).y) * (w 1).x + ((v 1).x * (w 0).x - (v 0).x * (w 1).x) * (w 1).y
        have : ((v 0).x * (w 1).y - (v 1).x * (w 0).y) * (w 1).x + ((v 1).x * (w 0).x - (v 0).x * (w 1).x) * (w 1).y = (v 1).x * ((w 0).x * (w 1).y - (w 0).y * (w 1).x) := by grind
        rw [this, h0]; omega
      · show (v 1).y = ((v 0).y * (w 1).y - (v 1).y * (w 0).y) * (w 1).x + ((v 1).y * (w 0).x - (v 0).y * (w 1).x) * (w 1).y
        have : ((v 0).y * (w 1).y - (v 1).y * (w 0).y) * (w 1).x + ((v 1).y * (w 0).x - (v 0).y * (w 1).x) * (w 1).y = (v 1).y * ((w 0).x * (w 1).y - (w 0).y * (w 1).x) := by grind
        rw [this, h0]; omega
    clear h0 k0
    generalize (v 0).x * (w 1).y - (v 1).x * (w 0).y = α at *
    generalize (v 1).x * (w 0).x - (v 0).x * (w 1).x = β at *
    generalize (v 0).y * (w 1).y - (v 1).y * (w 0).y = γ at *
    generalize (v 1).y * (w 0).x - (v 0).y * (w 1).x = δ at *
    have up : ∀ n : Nat, v (n : Int) = lin α β γ δ (w (n : Int)) ∧ v ((n : Int) + 1) = lin α β γ δ (w ((n : Int) + 1)) := by
      intro n
      induction n with
      | zero => exact ⟨e0, e1⟩
      | succ n ih =>
        obtain ⟨i1, i2⟩ := ih
        have c : ((n + 1 : Nat) : Int) = (n : Int) + 1 := by omega
        rw [c]
        refine ⟨i2, ?_⟩
        have := (Ring.step hw hv (hn ((n : Int) + 1)) i2).1
        rw [show (n : Int) + 1 - 1 = n by omega] at this
        exact this i1
    have dn : ∀ n : Nat, v (-(n : Int)) = lin α β γ δ (w (-(n : Int))) ∧ v (-(n : Int) + 1) = lin α β γ δ (w (-(n : Int) + 1)) := by
      intro n
      induction n with
      | zero => exact ⟨e0, e1⟩
      | succ n ih =>
        obtain ⟨i1, i2⟩ := ih
        have c : -((n + 1 : Nat) : Int) = -(n : Int) - 1 := by omega
        rw [c, show -(n : Int) - 1 + 1 = -(n : Int) by omega]
        exact ⟨(Ring.step hw hv (hn (-(n : Int))) i1).2 i2, i1⟩
    intro i
    rcases Int.le_total 0 i with h | h
    · have := (up i.toNat).1
      rwa [Int.toNat_of_nonneg h] at this
    · have := (dn (-i).toNat).1
      rwa [Int.toNat_of_nonneg (by omega), Int.neg_neg] at this
theorem ring_tour {w v : Int → Pt} (hw : Ring w) (hv : Ring v) {k s : Int} (hs : s = 1 ∨ s = -1) (hn : ∀ i, nm w i = nm v (k + i * s)) : ∃ α β γ δ : Int, (α * δ - β * γ = 1 ∨ α * δ - β * γ = -1) ∧ ∀ i, v (k + i * s) = lin α β γ δ (w i) := by
  rcases hs with rfl | rfl
  · obtain ⟨α, β, γ, δ, h1, h2⟩ := ring_same (w := w) (v := fun i => v (k + i * 1)) hw (fun i => by
      have := hv (k + i * 1)
      rwa [show k + i * 1 + 1 = k + (i + 1) * 1 by omega] at this) (fun i => by
      rw [hn]
      unfold nm
      rw [show k + i * 1 - 1 = k + (i - 1) * 1 by omega, show k + i * 1 + 1 = k + (i + 1) * 1 by omega])
    exact ⟨α, β, γ, δ, .inl h1, h2⟩
  · have cs : ∀ p q : Pt, cross ⟨p.y, p.x⟩ ⟨q.y, q.x⟩ = cross q p := fun p q => by unfold cross; grind
    obtain ⟨α, β, γ, δ, h1, h2⟩ := ring_same (w := w) (v := fun i => ⟨(v (k + i * -1)).y, (v (k + i * -1)).x⟩) hw (fun i => by
      simp only
      rw [cs]
      have := hv (k + (i + 1) * -1)
      rwa [show k + (i + 1) * -1 + 1 = k + i * -1 by omega] at this) (fun i => by
      rw [hn]
      unfold nm
      simp only
      rw [cs, show k + i * -1 - 1 = k + (i + 1) * -1 by omega, show k + i * -1 + 1 = k + (i - 1) * -1 by omega])
    refine ⟨γ, δ, α, β, .inr ?_, fun i => ?_⟩
    · have : γ * β - δ * α = -(α * δ - β * γ) := by grind
      rw [this, h1]
    · have e := h2 i
      have ex := congrArg Pt.x e
      have ey := congrArg Pt.y e
      exact pt_ext ey ex
end Go.AM
namespace Go.AM
structure Star (c : Int → Pt) (n : Int) : Prop where
  n3 : 3 ≤ n
  per : ∀ i, c (i + n) = c i
  cr : ∀ i, cross (c i) (c (i + 1)) = step (c i) (c (i + 1))
  pos : ∀ i, 0 < step (c i) (c (i + 1))
  left : ∀ i, 0 < turn (c i) (c (i + 1)) (c (i + 2))
section
variable {c : Int → Pt} {n : Int}
def stp (c : Int → Pt) (i : Int) : Int := step (c i) (c (i + 1))
def ew (c : Int → Pt) (i : Int) : Pt := ⟨((c (i + 1)).x - (c i).x).tdiv (stp c i), ((c (i + 1)).y - (c i).y).tdiv (stp c i)⟩
theorem Star.ew_mul (h : Star c n) (i : Int) : (ew c i).x * stp c i = (c (i + 1)).x - (c i).x ∧ (ew c i).y * stp c i = (c (i + 1)).y - (c i).y := by
  obtain ⟨h1, h2⟩ := step_dvd (c i) (c (i + 1))
  exact ⟨Int.tdiv_mul_cancel h1, Int.tdiv_mul_cancel h2⟩
theorem mkp_ew (i t : Int) : mkp (c i) (c (i + 1)) t = ⟨(c i).x + (ew c i).x * t, (c i).y + (ew c i).y * t⟩ := rfl
theorem Star.cross_ew (h : Star c n) (i : Int) : cross (c i) (ew c i) = 1 ∧ cross (c (i + 1)) (ew c i) = 1 := by
  obtain ⟨a1, a2⟩ := h.ew_mul i
  have hp := h.pos i
  have hc := h.cr i
  have e1 : cross (c i) (ew c i) * stp c i = 1 * stp c i := by
    unfold stp at *
    unfold cross at *
    rw [Int.one_mul]
    have : ((c i).x * (ew c i).y - (c i).y * (ew c i).x) * step (c i) (c (i + 1)) = (c i).x * ((ew c i).y * step (c i) (c (i + 1))) - (c i).y * ((ew c i).x * step (c i) (c (i + 1))) := by grind
    rw [this, a1, a2, ← hc]; grind
  have e2 : cross (c (i + 1)) (ew c i) * stp c i = 1 * stp c i := by
    unfold stp at *
    unfold cross at *
    rw [Int.one_mul]
    have : ((c (i + 1)).x * (ew c i).y - (c (i + 1)).y * (ew c i).x) * step (c i) (c (i + 1)) = (c (i + 1)).x * ((ew c i).y * step (c i) (c (i + 1))) - (c (i + 1)).y * ((ew c i).x * step (c i) (c (i + 1))) := by grind
    rw [this, a1, a2, ← hc]; grind
  unfold stp at e1 e2
  exact ⟨Int.eq_of_mul_eq_mul_right (by omega) e1, Int.eq_of_mul_eq_mul_right (by omega) e2⟩
theorem Star.ew_left (h : Star c n) (i : Int) : 0 < cross (ew c i) (ew c (i + 1)) := by
  obtain ⟨a1, a2⟩ := h.ew_mul i
  obtain ⟨b1, b2⟩ := h.ew_mul (i + 1)
  have hp := h.pos i
  have hq := h.pos (i + 1)
  have hl := h.left i
  rw [show i + 1 + 1 = i + 2 by omega] at *
  have e : cross (ew c i) (ew c (i + 1)) * (stp c i * stp c (i + 1)) = turn (c i) (c (i + 1)) (c (i + 2)) := by
    have : cross (ew c i) (ew c (i + 1)) * (stp c i * stp c (i + 1)) = (ew c i).x * stp c i * ((ew c (i + 1)).y * stp c (i + 1)) - (ew c i).y * stp c i * ((ew c (i + 1)).x * stp c (i + 1)) := by unfold cross; grind
    rw [this, a1, a2, b1, b2]
    unfold turn; grind
  rw [← e] at hl
  have hs : 0 < stp c i * stp c (i + 1) := Int.mul_pos hp (by unfold stp; rw [show i + 1 + 1 = i + 2 by omega]; exact hq)
  rcases Int.lt_or_le 0 (cross (ew c i) (ew c (i + 1))) with k | k
  · exact k
  · have := Int.mul_nonpos_of_nonpos_of_nonneg k (show 0 ≤ stp c i * stp c (i + 1) by omega); omega
structure Plc (c w : Int → Pt) (n N : Int) (K : Int → Int) : Prop where
  k0 : K 0 = 0
  kn : K n = N
  next : ∀ i, K (i + 1) = K i + stp c i
  at_ : ∀ i t, 0 ≤ t → t ≤ stp c i → w (K i + t) = ⟨(c i).x + (ew c i).x * t, (c i).y + (ew c i).y * t⟩
  find : ∀ j, ∃ i t, 0 ≤ t ∧ t < stp c i ∧ j = K i + t
variable {w : Int → Pt} {N : Int} {K : Int → Int}
theorem Plc.ring (p : Plc c w n N K) (h : Star c n) : Ring w := fun j => by
  obtain ⟨i, t, t0, t1, rfl⟩ := p.find j
  have e1 := p.at_ i t t0 (by omega)
  have e2 := p.at_ i (t + 1) (by omega) (by omega)
  rw [show K i + t + 1 = K i + (t + 1) by omega, e1, e2]
  have := (h.cross_ew i).1
  unfold cross at *
  simp only
  grind
theorem Plc.corner (p : Plc c w n N K) (i : Int) (h : Star c n) : w (K i) = c i := by
  have := p.at_ i 0 (by omega) (by have := h.pos i; unfold stp; omega)
  rw [Int.add_zero, Int.mul_zero, Int.mul_zero, Int.add_zero, Int.add_zero] at this
  exact this
theorem Plc.prev (p : Plc c w n N K) (i : Int) (h : Star c n) : w (K i - 1) = ⟨(c i).x - (ew c (i - 1)).x, (c i).y - (ew c (i - 1)).y⟩ := by
  have hp := h.pos (i - 1)
  have hn := p.next (i - 1)
  rw [show i - 1 + 1 = i by omega] at hn hp
  have e := p.at_ (i - 1) (stp c (i - 1) - 1) (by unfold stp; rw [show i - 1 + 1 = i by omega]; omega) (by omega)
  rw [show K i - 1 = K (i - 1) + (stp c (i - 1) - 1) by omega, e]
  obtain ⟨a1, a2⟩ := h.ew_mul (i - 1)
  rw [show i - 1 + 1 = i by omega] at a1 a2
  refine pt_ext ?_ ?_
  · simp only; rw [Int.mul_sub, a1]; omega
  · simp only; rw [Int.mul_sub, a2]; omega
theorem Plc.nm_corner (p : Plc c w n N K) (i : Int) (h : Star c n) : nm w (K i) = 2 - cross (ew c (i - 1)) (ew c i) := by
  have e1 := p.prev i h
  have e2 := p.at_ i 1 (by omega) (by have := h.pos i; unfold stp; omega)
  have c1 := (h.cross_ew i).1
  have c2 := (h.cross_ew (i - 1)).2
  rw [show i - 1 + 1 = i by omega] at c2
  unfold nm
  rw [e1, e2]
  unfold cross at *
  simp only
  grind
theorem Plc.nm_lt (p : Plc c w n N K) (i : Int) (h : Star c n) : nm w (K i) < 2 := by
  rw [p.nm_corner i h]
  have := h.ew_left (i - 1)
  rw [show i - 1 + 1 = i by omega] at this
  omega
theorem Plc.nm_mid (p : Plc c w n N K) (i t : Int) (h : Star c n) (t0 : 0 < t) (t1 : t < stp c i) : nm w (K i + t) = 2 := by
  have e1 := p.at_ i (t - 1) (by omega) (by omega)
  have e2 := p.at_ i (t + 1) (by omega) (by omega)
  have c1 := (h.cross_ew i).1
  unfold nm
  rw [show K i + t - 1 = K i + (t - 1) by omega, show K i + t + 1 = K i + (t + 1) by omega, e1, e2]
  unfold cross at *
  simp only
  grind
theorem Plc.is_corner (p : Plc c w n N K) (h : Star c n) (j : Int) : nm w j ≠ 2 ↔ ∃ i, j = K i := by
  constructor
  · intro hj
    obtain ⟨i, t, t0, t1, rfl⟩ := p.find j
    by_cases ht : t = 0
    · exact ⟨i, by omega⟩
    · exact absurd (p.nm_mid i t h (by omega) t1) hj
  · rintro ⟨i, rfl⟩
    have := p.nm_lt i h
    omega
theorem Plc.mono (p : Plc c w n N K) (h : Star c n) {i k : Int} (hi : i < k) : K i < K k := by
  have key : ∀ m : Nat, K i < K (i + 1 + m) := by
    intro m
    induction m with
    | zero =>
      have := p.next i
      have := h.pos i
      unfold stp at *
      simp only [Int.natCast_zero, Int.add_zero]
      omega
    | succ m ih =>
      have a := p.next (i + 1 + m)
      have b := h.pos (i + 1 + m)
      unfold stp at a
      rw [show i + 1 + ((m + 1 : Nat) : Int) = i + 1 + m + 1 by omega]
      omega
  have := key (k - i - 1).toNat
  rwa [show i + 1 + ((k - i - 1).toNat : Int) = k by omega] at this
theorem Plc.inj (p : Plc c w n N K) (h : Star c n) {i k : Int} (e : K i = K k) : i = k := by
  rcases Int.lt_trichotomy i k with q | q | q
  · have := p.mono h q; omega
  · exact q
  · have := p.mono h q; omega
end
end Go.AM
namespace Go.AM
theorem tmod_abs (a b : Int) : (a.tmod b).natAbs = a.natAbs % b.natAbs := Int.natAbs_tmod a b
theorem rem_abs {a b : Int} (hb : b ≠ 0) : ((a - a.tdiv b * b).natAbs : Int) = a.natAbs - (a.tdiv b).natAbs * b.natAbs ∧ (a - a.tdiv b * b) = a.tmod b := by
  have h1 : a - a.tdiv b * b = a.tmod b := by
    have := Int.tmod_add_mul_tdiv a b
    rw [Int.mul_comm b] at this
    omega
  refine ⟨?_, h1⟩
  rw [h1, tmod_abs, Int.natAbs_tdiv]
  have := Nat.div_add_mod a.natAbs b.natAbs
  have h2 : ((a.natAbs.div b.natAbs : Nat) : Int) * (b.natAbs : Int) = ((b.natAbs * (a.natAbs / b.natAbs) : Nat) : Int) := by rw [Nat.mul_comm b.natAbs]; simp; rfl
  rw [h2]
  omega
structure Bz (a0 b0 a b u x v y : Int) : Prop where
  e1 : u * a0 + v * b0 = a
  e2 : x * a0 + y * b0 = b
  k1 : (u.natAbs : Int) * b.natAbs + x.natAbs * a.natAbs ≤ b0.natAbs
  k2 : (v.natAbs : Int) * b.natAbs + y.natAbs * a.natAbs ≤ a0.natAbs
  hu : u.natAbs ≤ 1 ∨ (u.natAbs : Int) ≤ b0.natAbs
  hv : v.natAbs ≤ 1 ∨ (v.natAbs : Int) ≤ a0.natAbs
  hx : x.natAbs ≤ 1 ∨ (x.natAbs : Int) ≤ b0.natAbs
  hy : y.natAbs ≤ 1 ∨ (y.natAbs : Int) ≤ a0.natAbs
  gcd : Nat.gcd a.natAbs b.natAbs = Nat.gcd a0.natAbs b0.natAbs
  ha : a.natAbs ≤ 4000
  hb : b.natAbs ≤ 4000
theorem bz0 {a0 b0 : Int} (ha : a0.natAbs ≤ 4000) (hb : b0.natAbs ≤ 4000) : Bz a0 b0 a0 b0 1 0 0 1 := by
  refine ⟨by omega, by omega, by simp, by simp, .inl (by simp), .inl (by simp), .inl (by simp), .inl (by simp), rfl, ha, hb⟩
theorem mul_le_of {a b c : Nat} (h : (a : Int) * b ≤ c) (hb : 0 < b) : a ≤ c := by
  have h1 : a * b ≤ c := by exact_mod_cast h
  exact Nat.le_trans (Nat.le_mul_of_pos_right a hb) h1
theorem bz_step {a0 b0 a b u x v y : Int} (h : Bz a0 b0 a b u x v y) (hb : b ≠ 0) : Bz a0 b0 b (a - a.tdiv b * b) x (u - a.tdiv b * x) y (v - a.tdiv b * y) := by
  obtain ⟨r1, r2⟩ := rem_abs (a := a) hb
  have tri : ∀ p q z : Int, ((p - q * z).natAbs : Int) ≤ p.natAbs + q.natAbs * z.natAbs := fun p q z => by
    have := Int.natAbs_sub_le p (q * z)
    rw [Int.natAbs_mul] at this
    have e : ((q.natAbs * z.natAbs : Nat) : Int) = (q.natAbs : Int) * z.natAbs := by simp
    omega
  have key : ∀ p z : Int, ∀ c : Nat, (p.natAbs : Int) * b.natAbs + z.natAbs * a.natAbs ≤ c → (z.natAbs : Int) * (a - a.tdiv b * b).natAbs + ((p - a.tdiv b * z).natAbs : Int) * b.natAbs ≤ c := fun p z c hc => by
    have t := tri p (a.tdiv b) z
    have hbn : (0 : Int) ≤ b.natAbs := by omega
    have m := Int.mul_le_mul_of_nonneg_right t hbn
    rw [r1]
    have e1 : (z.natAbs : Int) * (a.natAbs - (a.tdiv b).natAbs * b.natAbs) = z.natAbs * a.natAbs - (a.tdiv b).natAbs * z.natAbs * b.natAbs := by grind
    have e2 : ((p.natAbs : Int) + (a.tdiv b).natAbs * z.natAbs) * b.natAbs = p.natAbs * b.natAbs + (a.tdiv b).natAbs * z.natAbs * b.natAbs := by grind
    rw [e1]
    rw [e2] at m
    omega
  have hbp : 0 < b.natAbs := by omega
  have n1 := key u x _ h.k1
  have n2 := key v y _ h.k2
  have bd : ∀ p q : Int, ∀ c : Nat, (q.natAbs : Int) * (a - a.tdiv b * b).natAbs + (p.natAbs : Int) * b.natAbs ≤ c → p.natAbs ≤ 1 ∨ (p.natAbs : Int) ≤ c := fun p q c hc => by
    right
    have : (p.natAbs : Int) * b.natAbs ≤ c := by
      have : (0 : Int) ≤ q.natAbs * (a - a.tdiv b * b).natAbs := by exact_mod_cast Nat.zero_le _
      omega
    exact_mod_cast mul_le_of this hbp
  refine ⟨h.e2, ?_, n1, n2, h.hx, h.hy, bd _ _ _ n1, bd _ _ _ n2, ?_, h.hb, ?_⟩
  · have := h.e1; have := h.e2; subst_vars; grind
  · rw [r2, tmod_abs, ← h.gcd, Nat.gcd_comm, ← Nat.gcd_rec, Nat.gcd_comm]
  · rw [r2, tmod_abs]
    have := Nat.mod_le a.natAbs b.natAbs
    have := h.ha
    omega
theorem bz_q {a0 b0 a b u x v y : Int} (h : Bz a0 b0 a b u x v y) (hb : b ≠ 0) (hA : a0.natAbs ≤ 4000) (hB : b0.natAbs ≤ 4000) :
    (-4000 ≤ a.tdiv b ∧ a.tdiv b ≤ 4000) ∧ (-4000 ≤ a.tdiv b * x ∧ a.tdiv b * x ≤ 4000) ∧ (-4000 ≤ a.tdiv b * y ∧ a.tdiv b * y ≤ 4000) ∧ (-4000 ≤ a.tdiv b * b ∧ a.tdiv b * b ≤ 4000) := by
  have hq : (a.tdiv b).natAbs * b.natAbs ≤ a.natAbs := by
    rw [Int.natAbs_tdiv]
    exact Nat.div_mul_le_self _ _
  have hbp : 0 < b.natAbs := by omega
  have hq1 : (a.tdiv b).natAbs ≤ a.natAbs := Nat.le_trans (Nat.le_mul_of_pos_right _ hbp) hq
  have one : ∀ z : Int, ∀ c : Nat, (z.natAbs : Int) * a.natAbs ≤ c → c ≤ 4000 → (a.tdiv b * z).natAbs ≤ 4000 := fun z c hz hc => by
    have h1 : z.natAbs * a.natAbs ≤ c := by exact_mod_cast hz
    rw [Int.natAbs_mul, Nat.mul_comm]
    exact Nat.le_trans (Nat.mul_le_mul_left _ hq1) (Nat.le_trans h1 hc)
  have p1 : (x.natAbs : Int) * a.natAbs ≤ b0.natAbs := by
    have := h.k1
    have : (0 : Int) ≤ u.natAbs * b.natAbs := by exact_mod_cast Nat.zero_le _
    omega
  have p2 : (y.natAbs : Int) * a.natAbs ≤ a0.natAbs := by
    have := h.k2
    have : (0 : Int) ≤ v.natAbs * b.natAbs := by exact_mod_cast Nat.zero_le _
    omega
  have q1 := one x _ p1 hB
  have q2 := one y _ p2 hA
  have q3 : (a.tdiv b * b).natAbs ≤ 4000 := by rw [Int.natAbs_mul]; exact Nat.le_trans hq h.ha
  have := h.ha
  omega
theorem bezout_l0 {L : Nat} {a0 b0 : Int} (hA : a0.natAbs ≤ 4000) (hB : b0.natAbs ≤ 4000) : ∀ (m : Nat) (a b u x v y : Int), Bz a0 b0 a b u x v y → b.natAbs < m →
    ∃ g p q, impl_bezout_l0 L m a b u v x y = some (g, p, q) ∧ spec_mvFull_l0 L m a b u v x y = some (if g < 0 then (-p, -q) else (p, q)) ∧
      p * a0 + q * b0 = g ∧ g.natAbs = Nat.gcd a0.natAbs b0.natAbs ∧ (-4000 ≤ p ∧ p ≤ 4000) ∧ (-4000 ≤ q ∧ q ≤ 4000)
  | 0, _, _, _, _, _, _, _, h => by omega
  | m + 1, a, b, u, x, v, y, h, hm => by
    by_cases hb : b = 0
    · subst hb
      have bu : -4000 ≤ u ∧ u ≤ 4000 := by have := h.hu; omega
      have bv : -4000 ≤ v ∧ v ≤ 4000 := by have := h.hv; omega
      refine ⟨a, u, v, ?_, ?_, h.e1, ?_, bu, bv⟩
      · simp only [impl_bezout_l0, ieq_eq, decide_true, Bool.not_true, cond_false]
      · simp only [spec_mvFull_l0, ieq_eq, ilt_eq, isub_eq, decide_true, Bool.not_true, cond_false]
        rw [wr_id (n := 0 - u) (by omega), wr_id (n := 0 - v) (by omega)]
        by_cases ha : a < 0
        · simp only [ha, decide_true, cond_true, if_true]; congr 2 <;> omega
        · simp only [ha, decide_false, cond_false, if_false]
      · have := h.gcd; simpa using this
    · obtain ⟨b1, b2, b3, b4⟩ := bz_q h hb hA hB
      have k1 := h.hu; have k2 := h.hv; have k3 := h.ha
      have s := bz_step h hb
      obtain ⟨r1, r2⟩ := rem_abs (a := a) hb
      have hlt : (a - a.tdiv b * b).natAbs < m := by
        rw [r2, tmod_abs]
        have := Nat.mod_lt a.natAbs (show 0 < b.natAbs by omega)
        omega
      obtain ⟨g, p, q, e1, e2, e3⟩ := bezout_l0 (L := L) hA hB m _ _ _ _ _ _ s hlt
      refine ⟨g, p, q, ?_, ?_, e3⟩
      · simp only [impl_bezout_l0, ieq_eq, hb, decide_false, Bool.not_false, cond_true, cond_false, iquo_eq, imul_eq, isub_eq]
        rw [wr_id (n := a.tdiv b) (by omega), wr_id (n := a.tdiv b * b) (by omega), wr_id (n := a.tdiv b * x) (by omega), wr_id (n := a.tdiv b * y) (by omega), wr_id (n := a - a.tdiv b * b) (by omega), wr_id (n := u - a.tdiv b * x) (by omega), wr_id (n := v - a.tdiv b * y) (by omega)]
        exact e1
      · simp only [spec_mvFull_l0, ieq_eq, hb, decide_false, Bool.not_false, cond_true, cond_false, iquo_eq, imul_eq, isub_eq]
        rw [wr_id (n := a.tdiv b) (by omega), wr_id (n := a.tdiv b * b) (by omega), wr_id (n := a.tdiv b * x) (by omega), wr_id (n := a.tdiv b * y) (by omega), wr_id (n := a - a.tdiv b * b) (by omega), wr_id (n := u - a.tdiv b * x) (by omega), wr_id (n := v - a.tdiv b * y) (by omega)]
        exact e2
theorem bezout_eq {L : Nat} {a b : Int} (hA : a.natAbs ≤ 4000) (hB : b.natAbs ≤ 4000) (hL : 4000 < L) :
    ∃ g p q, impl_bezout L a b = some (g, p, q) ∧ spec_mvFull L a b = some (if g < 0 then (-p, -q) else (p, q)) ∧
      p * a + q * b = g ∧ g.natAbs = Nat.gcd a.natAbs b.natAbs ∧ (-4000 ≤ p ∧ p ≤ 4000) ∧ (-4000 ≤ q ∧ q ≤ 4000) := by
  unfold impl_bezout spec_mvFull
  exact bezout_l0 hA hB L a b 1 0 0 1 (bz0 hA hB) (by omega)
end Go.AM
namespace Go.AM
theorem take_map_succ {β : Type} {a : List Pt} {h : Pt → β} {v : Int} (h0 : 0 ≤ v) (h1 : v < a.length) : (a.take (v + 1).toNat).map h = (a.take v.toNat).map h ++ [h (pt a v)] := by
  have e : (v + 1).toNat = v.toNat + 1 := by omega
  rw [e, List.take_add_one, pt_get h0 h1]
  simp
theorem mapLoop {β : Type} {f : Nat → Int → List β → Option (List β)} {h : Pt → β} {a : List Pt} (hstop : ∀ m w, f (m + 1) a.length w = some w)
    (hgo : ∀ m v w, 0 ≤ v → v < (a.length : Int) → w.length ≤ a.length → f (m + 1) v w = f m (v + 1) (w ++ [h (pt a v)])) : ∀ (m : Nat) (v : Int), 0 ≤ v → v ≤ a.length → (a.length : Int) - v < m → f m v ((a.take v.toNat).map h) = some (a.map h)
  | 0, v, _, _, hm => by omega
  | m + 1, v, h0, hv, hm => by
    by_cases hvn : v < (a.length : Int)
    · rw [hgo m v _ h0 hvn (by simp; omega), ← take_map_succ h0 hvn]
      exact mapLoop hstop hgo m (v + 1) (by omega) (by omega) (by omega)
    · have e : v = (a.length : Int) := by omega
      subst e
      rw [hstop]
      simp
def brg (A B C D : Int) (o p : Pt) : Pt := ⟨A * (p.x - o.x) + B * (p.y - o.y), C * (p.x - o.x) + D * (p.y - o.y)⟩
theorem spec_mvPeg_eq {L : Nat} {A B C D X Y x y : Int} (hA : -60000000000 ≤ A ∧ A ≤ 60000000000) (hB : -60000000000 ≤ B ∧ B ≤ 60000000000) (hC : -60000000000 ≤ C ∧ C ≤ 60000000000) (hD : -60000000000 ≤ D ∧ D ≤ 60000000000)
    (hX : -1000000000 ≤ X ∧ X ≤ 1000000000) (hY : -1000000000 ≤ Y ∧ Y ≤ 1000000000) (hx : -4000 ≤ x ∧ x ≤ 4000) (hy : -4000 ≤ y ∧ y ≤ 4000) :
    spec_mvPeg L A B C D X Y x y = some (A * x + B * y + X, C * x + D * y + Y) := by
  have h1 := mul_bd hA hx; have h2 := mul_bd hB hy; have h3 := mul_bd hC hx; have h4 := mul_bd hD hy
  unfold spec_mvPeg
  simp only [iadd_eq, imul_eq]
  rw [wr_id (n := A * x) (by omega), wr_id (n := B * y) (by omega), wr_id (n := C * x) (by omega), wr_id (n := D * y) (by omega), wr_id (n := A * x + B * y) (by omega), wr_id (n := C * x + D * y) (by omega), wr_id (n := A * x + B * y + X) (by omega), wr_id (n := C * x + D * y + Y) (by omega)]
theorem impl_bring_eq {L : Nat} {A B C D X Y x y : Int} : impl_Move_bring L A B C D X Y x y = spec_mvPeg L A B C D X Y x y := rfl
theorem less_eq {L : Nat} {p q : Pt} (hp : Nr p) (hq : Nr q) : impl_Peg_less L p.x p.y q.x q.y = some (p.x - q.x, p.y - q.y) := by
  have := sub_bd hp hq
  unfold impl_Peg_less
  simp only [isub_eq]
  rw [wr_id (by omega), wr_id (by omega)]
theorem tdiv_small {a b : Int} {N : Int} (h : -N ≤ a ∧ a ≤ N) : -N ≤ a.tdiv b ∧ a.tdiv b ≤ N := tdiv_bd h
theorem spec_mvFrame_l0_eq {L : Nat} {a : List Pt} {o p1 p2 : Pt} {r : Int} {r1 r2 : Int × Int} {A B C D K : Int} (hin : ∀ i, Nr (pt a i)) (ho : Nr o) (hs : (a.length : Int) ≤ 1000)
    (hC : wr IntKind.i64 (isub 0 (wr IntKind.i64 (iquo (wr IntKind.i64 (isub 0 (wr IntKind.i64 (isub (Pt.y p2) (Pt.y o))))) r))) = C) (hD : wr IntKind.i64 (isub 0 (wr IntKind.i64 (iquo (wr IntKind.i64 (isub (Pt.x p1) (Pt.x o))) r))) = D)
    (hK : wr IntKind.i64 (iquo (wr IntKind.i64 (isub (irem (wr IntKind.i64 (iadd (irem (Prod.fst r2) (wr IntKind.i64 (isub 0 (Prod.snd r2)))) (wr IntKind.i64 (isub 0 (Prod.snd r2))))) (wr IntKind.i64 (isub 0 (Prod.snd r2)))) (Prod.fst r2))) (wr IntKind.i64 (isub 0 (Prod.snd r2)))) = K)
    (hA : wr IntKind.i64 (iadd (Prod.fst r1) (wr IntKind.i64 (imul K C))) = A) (hB : wr IntKind.i64 (iadd (Prod.snd r1) (wr IntKind.i64 (imul K D))) = B)
    (bA : -60000000000 ≤ A ∧ A ≤ 60000000000) (bB : -60000000000 ≤ B ∧ B ≤ 60000000000) (bC : -60000000000 ≤ C ∧ C ≤ 60000000000) (bD : -60000000000 ≤ D ∧ D ≤ 60000000000) (hL : (a.length : Int) < L) :
    spec_mvFrame_l0 L a o p1 p2 r r1 r2 L 0 [] = some (a.map (brg A B C D o)) := by
  have := mapLoop (f := spec_mvFrame_l0 L a o p1 p2 r r1 r2) (h := brg A B C D o) (a := a) (fun m w => by
    simp only [spec_mvFrame_l0, ilt_eq, ilen_mapep, Int.lt_irrefl, decide_false, cond_false]) (fun m v w hv0 h1 hw => by
    have hb := sub_bd (hin v) ho
    simp only [spec_mvFrame_l0, ilt_eq, ilen_mapep, h1, decide_true, cond_true, gbind_eq, lget_pt hv0 h1, Option.bind_some, hC, hD, hK, hA, hB]
    simp only [isub_eq]
    rw [wr_id (n := (pt a v).x - o.x) (by omega), wr_id (n := (pt a v).y - o.y) (by omega), spec_mvPeg_eq bA bB bC bD (by omega) (by omega) (by omega) (by omega)]
    simp only [Option.bind_some, iadd_eq, ilen_eq, List.length_cons, List.length_nil, fits_s (n := (w.length : Int) + ((0 + 1 : Nat) : Int)) (b := 16) (by omega), cond_true, lcat_eq, wr_id (n := v + 1) (by omega)]
    simp [brg]) L 0 (by omega) (by omega) (by omega)
  simpa using this
theorem spec_mvFrame_l1_eq {L : Nat} {a : List Pt} {o p1 p2 : Pt} {r : Int} {r1 r2 : Int × Int} {A B C D K : Int} (hin : ∀ i, Nr (pt a i)) (ho : Nr o) (hs : (a.length : Int) ≤ 1000)
    (hC : wr IntKind.i64 (iquo (wr IntKind.i64 (isub 0 (wr IntKind.i64 (isub (Pt.y p2) (Pt.y o))))) r) = C) (hD : wr IntKind.i64 (iquo (wr IntKind.i64 (isub (Pt.x p1) (Pt.x o))) r) = D)
    (hK : wr IntKind.i64 (iquo (wr IntKind.i64 (isub (irem (wr IntKind.i64 (iadd (irem (Prod.fst r2) (Prod.snd r2)) (Prod.snd r2))) (Prod.snd r2)) (Prod.fst r2))) (Prod.snd r2)) = K)
    (hA : wr IntKind.i64 (iadd (Prod.fst r1) (wr IntKind.i64 (imul K C))) = A) (hB : wr IntKind.i64 (iadd (Prod.snd r1) (wr IntKind.i64 (imul K D))) = B)
    (bA : -60000000000 ≤ A ∧ A ≤ 60000000000) (bB : -60000000000 ≤ B ∧ B ≤ 60000000000) (bC : -60000000000 ≤ C ∧ C ≤ 60000000000) (bD : -60000000000 ≤ D ∧ D ≤ 60000000000) (hL : (a.length : Int) < L) :
    spec_mvFrame_l1 L a o p1 p2 r r1 r2 L 0 [] = some (a.map (brg A B C D o)) := by
  have := mapLoop (f := spec_mvFrame_l1 L a o p1 p2 r r1 r2) (h := brg A B C D o) (a := a) (fun m w => by
    simp only [spec_mvFrame_l1, ilt_eq, ilen_mapep, Int.lt_irrefl, decide_false, cond_false]) (fun m v w hv0 h1 hw => by
    have hb := sub_bd (hin v) ho
    simp only [spec_mvFrame_l1, ilt_eq, ilen_mapep, h1, decide_true, cond_true, gbind_eq, lget_pt hv0 h1, Option.bind_some, hC, hD, hK, hA, hB]
    simp only [isub_eq]
    rw [wr_id (n := (pt a v).x - o.x) (by omega), wr_id (n := (pt a v).y - o.y) (by omega), spec_mvPeg_eq bA bB bC bD (by omega) (by omega) (by omega) (by omega)]
    simp only [Option.bind_some, iadd_eq, ilen_eq, List.length_cons, List.length_nil, fits_s (n := (w.length : Int) + ((0 + 1 : Nat) : Int)) (b := 16) (by omega), cond_true, lcat_eq, wr_id (n := v + 1) (by omega)]
    simp [brg]) L 0 (by omega) (by omega) (by omega)
  simpa using this
theorem impl_frame_l0_eq {L : Nat} {a : List Pt} {o : Pt} {r : Int × Int} {r1 : Int × Int × Int} {r3 : Int × Int} {A B C D K : Int} (h0 : lget a 0 = some o) (hin : ∀ i, Nr (pt a i)) (ho : Nr o) (hs : (a.length : Int) ≤ 1000)
    (hC : wr IntKind.i64 (isub 0 (wr IntKind.i64 (iquo (wr IntKind.i64 (isub 0 (Prod.snd r))) (wr IntKind.i64 (isub 0 (Prod.fst r1)))))) = C) (hD : wr IntKind.i64 (isub 0 (wr IntKind.i64 (iquo (Prod.fst r) (wr IntKind.i64 (isub 0 (Prod.fst r1)))))) = D)
    (hK : wr IntKind.i64 (iquo (wr IntKind.i64 (isub (irem (wr IntKind.i64 (iadd (irem (Prod.fst r3) (wr IntKind.i64 (isub 0 (Prod.snd r3)))) (wr IntKind.i64 (isub 0 (Prod.snd r3))))) (wr IntKind.i64 (isub 0 (Prod.snd r3)))) (Prod.fst r3))) (wr IntKind.i64 (isub 0 (Prod.snd r3)))) = K)
    (hA : wr IntKind.i64 (iadd (wr IntKind.i64 (isub 0 (Prod.fst (Prod.snd r1)))) (wr IntKind.i64 (imul K C))) = A) (hB : wr IntKind.i64 (iadd (wr IntKind.i64 (isub 0 (Prod.snd (Prod.snd r1)))) (wr IntKind.i64 (imul K D))) = B)
    (bA : -60000000000 ≤ A ∧ A ≤ 60000000000) (bB : -60000000000 ≤ B ∧ B ≤ 60000000000) (bC : -60000000000 ≤ C ∧ C ≤ 60000000000) (bD : -60000000000 ≤ D ∧ D ≤ 60000000000) (hL : (a.length : Int) < L) :
    impl_frame_l0 L a r r1 r3 L 0 [] = some (a.map (brg A B C D o)) := by
  have := mapLoop (f := impl_frame_l0 L a r r1 r3) (h := brg A B C D o) (a := a) (fun m w => by
    simp only [impl_frame_l0, ilt_eq, ilen_mapep, Int.lt_irrefl, decide_false, cond_false]) (fun m v w hv0 h1 hw => by
    have hb := sub_bd (hin v) ho
    simp only [impl_frame_l0, ilt_eq, ilen_mapep, h1, decide_true, cond_true, gbind_eq, lget_pt hv0 h1, Option.bind_some, hC, hD, hK, hA, hB, h0]
    rw [less_eq (hin v) ho]
    simp only [Option.bind_some, impl_bring_eq]
    rw [spec_mvPeg_eq bA bB bC bD (by omega) (by omega) (by omega) (by omega)]
    simp only [Option.bind_some, iadd_eq, ilen_eq, List.length_cons, List.length_nil, fits_s (n := (w.length : Int) + ((0 + 1 : Nat) : Int)) (b := 16) (by omega), cond_true, lcat_eq, wr_id (n := v + 1) (by omega)]
    simp [brg]) L 0 (by omega) (by omega) (by omega)
  simpa using this
theorem impl_frame_l1_eq {L : Nat} {a : List Pt} {o : Pt} {r : Int × Int} {r1 : Int × Int × Int} {r3 : Int × Int} {A B C D K : Int} (h0 : lget a 0 = some o) (hin : ∀ i, Nr (pt a i)) (ho : Nr o) (hs : (a.length : Int) ≤ 1000)
    (hC : wr IntKind.i64 (iquo (wr IntKind.i64 (isub 0 (Prod.snd r))) (wr IntKind.i64 (isub 0 (Prod.fst r1)))) = C) (hD : wr IntKind.i64 (iquo (Prod.fst r) (wr IntKind.i64 (isub 0 (Prod.fst r1)))) = D)
    (hK : wr IntKind.i64 (iquo (wr IntKind.i64 (isub (irem (wr IntKind.i64 (iadd (irem (Prod.fst r3) (Prod.snd r3)) (Prod.snd r3))) (Prod.snd r3)) (Prod.fst r3))) (Prod.snd r3)) = K)
    (hA : wr IntKind.i64 (iadd (wr IntKind.i64 (isub 0 (Prod.fst (Prod.snd r1)))) (wr IntKind.i64 (imul K C))) = A) (hB : wr IntKind.i64 (iadd (wr IntKind.i64 (isub 0 (Prod.snd (Prod.snd r1)))) (wr IntKind.i64 (imul K D))) = B)
    (bA : -60000000000 ≤ A ∧ A ≤ 60000000000) (bB : -60000000000 ≤ B ∧ B ≤ 60000000000) (bC : -60000000000 ≤ C ∧ C ≤ 60000000000) (bD : -60000000000 ≤ D ∧ D ≤ 60000000000) (hL : (a.length : Int) < L) :
    impl_frame_l1 L a r r1 r3 L 0 [] = some (a.map (brg A B C D o)) := by
  have := mapLoop (f := impl_frame_l1 L a r r1 r3) (h := brg A B C D o) (a := a) (fun m w => by
    simp only [impl_frame_l1, ilt_eq, ilen_mapep, Int.lt_irrefl, decide_false, cond_false]) (fun m v w hv0 h1 hw => by
    have hb := sub_bd (hin v) ho
    simp only [impl_frame_l1, ilt_eq, ilen_mapep, h1, decide_true, cond_true, gbind_eq, lget_pt hv0 h1, Option.bind_some, hC, hD, hK, hA, hB, h0]
    rw [less_eq (hin v) ho]
    simp only [Option.bind_some, impl_bring_eq]
    rw [spec_mvPeg_eq bA bB bC bD (by omega) (by omega) (by omega) (by omega)]
    simp only [Option.bind_some, iadd_eq, ilen_eq, List.length_cons, List.length_nil, fits_s (n := (w.length : Int) + ((0 + 1 : Nat) : Int)) (b := 16) (by omega), cond_true, lcat_eq, wr_id (n := v + 1) (by omega)]
    simp [brg]) L 0 (by omega) (by omega) (by omega)
  simpa using this
theorem impl_frame_l2_eq {L : Nat} {a : List Pt} {o : Pt} {r : Int × Int} {r1 : Int × Int × Int} {r9 : Int × Int} {A B C D K : Int} (h0 : lget a 0 = some o) (hin : ∀ i, Nr (pt a i)) (ho : Nr o) (hs : (a.length : Int) ≤ 1000)
    (hC : wr IntKind.i64 (isub 0 (wr IntKind.i64 (iquo (wr IntKind.i64 (isub 0 (Prod.snd r))) (Prod.fst r1)))) = C) (hD : wr IntKind.i64 (isub 0 (wr IntKind.i64 (iquo (Prod.fst r) (Prod.fst r1)))) = D)
    (hK : wr IntKind.i64 (iquo (wr IntKind.i64 (isub (irem (wr IntKind.i64 (iadd (irem (Prod.fst r9) (wr IntKind.i64 (isub 0 (Prod.snd r9)))) (wr IntKind.i64 (isub 0 (Prod.snd r9))))) (wr IntKind.i64 (isub 0 (Prod.snd r9)))) (Prod.fst r9))) (wr IntKind.i64 (isub 0 (Prod.snd r9)))) = K)
    (hA : wr IntKind.i64 (iadd (Prod.fst (Prod.snd r1)) (wr IntKind.i64 (imul K C))) = A) (hB : wr IntKind.i64 (iadd (Prod.snd (Prod.snd r1)) (wr IntKind.i64 (imul K D))) = B)
    (bA : -60000000000 ≤ A ∧ A ≤ 60000000000) (bB : -60000000000 ≤ B ∧ B ≤ 60000000000) (bC : -60000000000 ≤ C ∧ C ≤ 60000000000) (bD : -60000000000 ≤ D ∧ D ≤ 60000000000) (hL : (a.length : Int) < L) :
    impl_frame_l2 L a r r1 r9 L 0 [] = some (a.map (brg A B C D o)) := by
  have := mapLoop (f := impl_frame_l2 L a r r1 r9) (h := brg A B C D o) (a := a) (fun m w => by
    simp only [impl_frame_l2, ilt_eq, ilen_mapep, Int.lt_irrefl, decide_false, cond_false]) (fun m v w hv0 h1 hw => by
    have hb := sub_bd (hin v) ho
    simp only [impl_frame_l2, ilt_eq, ilen_mapep, h1, decide_true, cond_true, gbind_eq, lget_pt hv0 h1, Option.bind_some, hC, hD, hK, hA, hB, h0]
    rw [less_eq (hin v) ho]
    simp only [Option.bind_some, impl_bring_eq]
    rw [spec_mvPeg_eq bA bB bC bD (by omega) (by omega) (by omega) (by omega)]
    simp only [Option.bind_some, iadd_eq, ilen_eq, List.length_cons, List.length_nil, fits_s (n := (w.length : Int) + ((0 + 1 : Nat) : Int)) (b := 16) (by omega), cond_true, lcat_eq, wr_id (n := v + 1) (by omega)]
    simp [brg]) L 0 (by omega) (by omega) (by omega)
  simpa using this
theorem impl_frame_l3_eq {L : Nat} {a : List Pt} {o : Pt} {r : Int × Int} {r1 : Int × Int × Int} {r9 : Int × Int} {A B C D K : Int} (h0 : lget a 0 = some o) (hin : ∀ i, Nr (pt a i)) (ho : Nr o) (hs : (a.length : Int) ≤ 1000)
    (hC : wr IntKind.i64 (iquo (wr IntKind.i64 (isub 0 (Prod.snd r))) (Prod.fst r1)) = C) (hD : wr IntKind.i64 (iquo (Prod.fst r) (Prod.fst r1)) = D)
    (hK : wr IntKind.i64 (iquo (wr IntKind.i64 (isub (irem (wr IntKind.i64 (iadd (irem (Prod.fst r9) (Prod.snd r9)) (Prod.snd r9))) (Prod.snd r9)) (Prod.fst r9))) (Prod.snd r9)) = K)
    (hA : wr IntKind.i64 (iadd (Prod.fst (Prod.snd r1)) (wr IntKind.i64 (imul K C))) = A) (hB : wr IntKind.i64 (iadd (Prod.snd (Prod.snd r1)) (wr IntKind.i64 (imul K D))) = B)
    (bA : -60000000000 ≤ A ∧ A ≤ 60000000000) (bB : -60000000000 ≤ B ∧ B ≤ 60000000000) (bC : -60000000000 ≤ C ∧ C ≤ 60000000000) (bD : -60000000000 ≤ D ∧ D ≤ 60000000000) (hL : (a.length : Int) < L) :
    impl_frame_l3 L a r r1 r9 L 0 [] = some (a.map (brg A B C D o)) := by
  have := mapLoop (f := impl_frame_l3 L a r r1 r9) (h := brg A B C D o) (a := a) (fun m w => by
    simp only [impl_frame_l3, ilt_eq, ilen_mapep, Int.lt_irrefl, decide_false, cond_false]) (fun m v w hv0 h1 hw => by
    have hb := sub_bd (hin v) ho
    simp only [impl_frame_l3, ilt_eq, ilen_mapep, h1, decide_true, cond_true, gbind_eq, lget_pt hv0 h1, Option.bind_some, hC, hD, hK, hA, hB, h0]
    rw [less_eq (hin v) ho]
    simp only [Option.bind_some, impl_bring_eq]
    rw [spec_mvPeg_eq bA bB bC bD (by omega) (by omega) (by omega) (by omega)]
    simp only [Option.bind_some, iadd_eq, ilen_eq, List.length_cons, List.length_nil, fits_s (n := (w.length : Int) + ((0 + 1 : Nat) : Int)) (b := 16) (by omega), cond_true, lcat_eq, wr_id (n := v + 1) (by omega)]
    simp [brg]) L 0 (by omega) (by omega) (by omega)
  simpa using this
end Go.AM
namespace Go.AM
structure Fr (a : List Pt) (A B C D g b d : Int) : Prop where
  e1 : brg A B C D (pt a 0) (pt a 1) = ⟨g, 0⟩
  e2 : brg A B C D (pt a 0) (pt a 2) = ⟨b, d⟩
  g0 : 0 < g
  b0 : 0 ≤ b
  bd : b < d
  gg : g = step (pt a 0) (pt a 1)
  det : A * D - B * C = 1 ∨ A * D - B * C = -1
  bA : -60000000000 ≤ A ∧ A ≤ 60000000000
  bB : -60000000000 ≤ B ∧ B ≤ 60000000000
  bC : -2000 ≤ C ∧ C ≤ 2000
  bD : -2000 ≤ D ∧ D ≤ 2000
theorem shear_eq {tx ty : Int} (hty : 0 < ty) (bx : -17000000 ≤ tx ∧ tx ≤ 17000000) (by_ : ty ≤ 9000000) :
    ∃ b K : Int, wr .i64 (iquo (wr .i64 (isub (irem (wr .i64 (iadd (irem tx ty) ty)) ty) tx)) ty) = K ∧ 0 ≤ b ∧ b < ty ∧ tx + K * ty = b ∧ (-27000000 ≤ K ∧ K ≤ 27000000) := by
  have h1 : -ty < tx.tmod ty ∧ tx.tmod ty < ty := by
    have := Int.tmod_lt_of_pos tx hty
    have h2 := Int.natAbs_tmod tx ty
    have h3 := Nat.mod_lt tx.natAbs (show 0 < ty.natAbs by omega)
    omega
  have h2 : (tx.tmod ty + ty).tmod ty = tx % ty := by
    rw [Int.tmod_eq_emod_of_nonneg (by omega), Int.add_emod_right]
    conv => rhs; rw [← Int.tmod_add_mul_tdiv tx ty, Int.add_mul_emod_self_left]
  have h3 := Int.emod_nonneg tx (show ty ≠ 0 by omega)
  have h4 := Int.emod_lt_of_pos tx hty
  have h5 := Int.mul_ediv_add_emod tx ty
  have h6 : (tx % ty - tx).tdiv ty = -(tx / ty) := by
    have : tx % ty - tx = -(tx / ty) * ty := by rw [Int.neg_mul, Int.mul_comm]; omega
    rw [this, Int.mul_tdiv_cancel _ (by omega)]
  have h7 : -17000000 ≤ tx / ty ∧ tx / ty ≤ 17000000 := by
    constructor
    · have := Int.ediv_le_ediv hty bx.1
      have h8 : -17000000 ≤ (-17000000 : Int) / ty := by
        rw [Int.le_ediv_iff_mul_le hty]; omega
      omega
    · have := Int.ediv_le_ediv hty bx.2
      have h8 : (17000000 : Int) / ty ≤ 17000000 := Int.ediv_le_self _ (by omega)
      omega
  refine ⟨tx % ty, -(tx / ty), ?_, h3, h4, ?_, by omega⟩
  · simp only [irem_eq, iadd_eq, isub_eq, iquo_eq]
    rw [wr_id (n := tx.tmod ty + ty) (by omega), h2, wr_id (n := tx % ty - tx) (by omega), h6, wr_id (by omega)]
  · rw [Int.neg_mul, Int.mul_comm]; omega
theorem exact_div {G z : Int} (hG : 0 < G) (h : G ∣ z) : z.tdiv G * G = z := Int.tdiv_mul_cancel h
theorem frame_eq {L : Nat} {a : List Pt} (hn : 3 ≤ (a.length : Int)) (hs : (a.length : Int) ≤ 1000) (hin : ∀ i, Nr (pt a i)) (ht : turn (pt a 0) (pt a 1) (pt a 2) ≠ 0) (hL : 5000 < L) :
    ∃ A B C D g b d, spec_mvFrame L a = some (a.map (brg A B C D (pt a 0))) ∧ impl_frame L a = some (a.map (brg A B C D (pt a 0))) ∧ Fr a A B C D g b d := by
  have l0 := lget_pt (a := a) (i := 0) (by omega) (by omega)
  have l1 := lget_pt (a := a) (i := 1) (by omega) (by omega)
  have l2 := lget_pt (a := a) (i := 2) (by omega) (by omega)
  have n0 := hin 0; have n1 := hin 1; have n2 := hin 2
  have s1 := sub_bd n1 n0
  have s2 := sub_bd n2 n0
  have hst : pt a 0 ≠ pt a 1 := fun e => ht (by rw [e]; unfold turn; grind)
  have hG := step_pos hst
  have hstd := step_dvd (pt a 0) (pt a 1)
  have hsb := step_bd n0 n1
  obtain ⟨gz, p, q, hb1, hb2, hb3, hb4, hb5, hb6⟩ := bezout_eq (L := L) (a := (pt a 1).x - (pt a 0).x) (b := (pt a 1).y - (pt a 0).y) (by omega) (by omega) (by omega)
  have hGz : (gz.natAbs : Int) = step (pt a 0) (pt a 1) := by
    rw [hb4]; unfold step
    rw [show ((pt a 1).x - (pt a 0).x).natAbs = ((pt a 0).x - (pt a 1).x).natAbs by omega, show ((pt a 1).y - (pt a 0).y).natAbs = ((pt a 0).y - (pt a 1).y).natAbs by omega]
  generalize hGd : step (pt a 0) (pt a 1) = G at *
  generalize hX : (pt a 1).x - (pt a 0).x = X at *
  generalize hY : (pt a 1).y - (pt a 0).y = Y at *
  generalize hWx : (pt a 2).x - (pt a 0).x = wx at *
  generalize hWy : (pt a 2).y - (pt a 0).y = wy at *
  have hturn : turn (pt a 0) (pt a 1) (pt a 2) = X * wy - Y * wx := by unfold turn; rw [hX, hY, hWx, hWy]
  have dX : X.tdiv G * G = X := exact_div hG hstd.1
  have dY : (-Y).tdiv G * G = -Y := exact_div hG (Int.dvd_neg.2 hstd.2)
  have bX : -2000 ≤ X.tdiv G ∧ X.tdiv G ≤ 2000 := tdiv_bd (A := 2000) (by omega)
  have bY : -2000 ≤ (-Y).tdiv G ∧ (-Y).tdiv G ≤ 2000 := tdiv_bd (A := 2000) (by omega)
  generalize hd0 : X.tdiv G = d0 at *
  generalize hc0 : (-Y).tdiv G = c0 at *
  obtain ⟨u, v, huv, hspec, hu, hv⟩ : ∃ u v : Int, u * X + v * Y = G ∧ (if gz < 0 then (-p, -q) else (p, q)) = (u, v) ∧ (-4000 ≤ u ∧ u ≤ 4000) ∧ (-4000 ≤ v ∧ v ≤ 4000) := by
    by_cases hneg : gz < 0
    · refine ⟨-p, -q, ?_, by simp [hneg], by omega, by omega⟩
      have : -p * X + -q * Y = -gz := by rw [← hb3]; grind
      omega
    · exact ⟨p, q, by omega, by simp [hneg], hb5, hb6⟩
  rw [hspec] at hb2
  have m1 := mul_bd hu s2.1; have m2 := mul_bd hv s2.2; have m3 := mul_bd bY s2.1; have m4 := mul_bd bX s2.2
  have hT3 : G * (c0 * wx + d0 * wy) = X * wy - Y * wx := by grind
  have hty0 : c0 * wx + d0 * wy ≠ 0 := fun e => ht (by rw [hturn, ← hT3, e]; simp)
  have hdet : u * d0 - v * c0 = 1 := by
    have : G * (u * d0 - v * c0) = G * 1 := by grind
    exact Int.eq_of_mul_eq_mul_left (by omega) this
  generalize htx : u * wx + v * wy = tx at *
  generalize htyd : c0 * wx + d0 * wy = ty at *
  have fin : ∀ (C D t K b : Int), ((C = c0 ∧ D = d0 ∧ t = ty) ∨ (C = -c0 ∧ D = -d0 ∧ t = -ty)) → 0 < t → 0 ≤ b → b < t → tx + K * t = b → (-27000000 ≤ K ∧ K ≤ 27000000) →
      Fr a (u + K * C) (v + K * D) C D G b t ∧ (-54000000000 ≤ K * C ∧ K * C ≤ 54000000000) ∧ (-54000000000 ≤ K * D ∧ K * D ≤ 54000000000) := by
    intro C D t K b hCD ht0 hb0 hbt hK bK
    have bC : -2000 ≤ C ∧ C ≤ 2000 := by omega
    have bD : -2000 ≤ D ∧ D ≤ 2000 := by omega
    have k1 := mul_bd bK bC; have k2 := mul_bd bK bD
    have q1 : C * X + D * Y = 0 := by
      have z : c0 * X + d0 * Y = 0 := by
        have : G * (c0 * X + d0 * Y) = 0 := by grind
        rcases Int.mul_eq_zero.1 this with h | h
        · omega
        · exact h
      rcases hCD with ⟨rfl, rfl, _⟩ | ⟨rfl, rfl, _⟩
      · exact z
      · rw [Int.neg_mul, Int.neg_mul]; omega
    have q2 : C * wx + D * wy = t := by
      rcases hCD with ⟨rfl, rfl, rfl⟩ | ⟨rfl, rfl, rfl⟩
      · exact htyd
      · rw [Int.neg_mul, Int.neg_mul]; omega
    refine ⟨⟨?_, ?_, hG, hb0, hbt, hGd.symm, ?_, by omega, by omega, bC, bD⟩, by omega, by omega⟩
    · unfold brg; rw [hX, hY]
      congr 1
      have : (u + K * C) * X + (v + K * D) * Y = u * X + v * Y + K * (C * X + D * Y) := by grind
      rw [this, q1, huv]; omega
    · unfold brg; rw [hWx, hWy]
      congr 1
      have : (u + K * C) * wx + (v + K * D) * wy = u * wx + v * wy + K * (C * wx + D * wy) := by grind
      rw [this, q2, htx, hK]
    · have : (u + K * C) * D - (v + K * D) * C = u * D - v * C := by grind
      rw [this]
      rcases hCD with ⟨rfl, rfl, _⟩ | ⟨rfl, rfl, _⟩
      · exact .inl hdet
      · right; rw [Int.mul_neg, Int.mul_neg]; omega
  have wY : wr IntKind.i64 (isub 0 (wr IntKind.i64 (isub (pt a 1).y (pt a 0).y))) = -Y := by
    simp only [isub_eq]; rw [hY, wr_id (n := Y) (by omega), wr_id (n := 0 - Y) (by omega)]; omega
  have wX : wr IntKind.i64 (isub (pt a 1).x (pt a 0).x) = X := by simp only [isub_eq]; rw [hX, wr_id (by omega)]
  have wY1 : wr IntKind.i64 (isub (pt a 1).y (pt a 0).y) = Y := by simp only [isub_eq]; rw [hY, wr_id (by omega)]
  have wWx : wr IntKind.i64 (isub (pt a 2).x (pt a 0).x) = wx := by simp only [isub_eq]; rw [hWx, wr_id (by omega)]
  have wWy : wr IntKind.i64 (isub (pt a 2).y (pt a 0).y) = wy := by simp only [isub_eq]; rw [hWy, wr_id (by omega)]
  have wc : wr IntKind.i64 (iquo (-Y) G) = c0 := by simp only [iquo_eq]; rw [hc0, wr_id (by omega)]
  have wd : wr IntKind.i64 (iquo X G) = d0 := by simp only [iquo_eq]; rw [hd0, wr_id (by omega)]
  have wneg : ∀ z : Int, -100000000 ≤ z ∧ z ≤ 100000000 → wr IntKind.i64 (isub 0 z) = -z := fun z hz => by simp only [isub_eq]; rw [wr_id (by omega)]; omega
  have hpeg : spec_mvPeg L u v c0 d0 0 0 wx wy = some (tx, ty) := by
    rw [spec_mvPeg_eq (by omega) (by omega) (by omega) (by omega) (by omega) (by omega) (by omega) (by omega), Int.add_zero, Int.add_zero, htx, htyd]
  have hcom : spec_pgCommon L X Y = some G := by
    have := spec_pgStep_eq (L := L) (p := pt a 1) (q := pt a 0) n1 n0 (by omega)
    unfold spec_pgStep at this
    simp only [isub_eq, gbind_eq] at this
    rw [hX, hY, wr_id (n := X) (by omega), wr_id (n := Y) (by omega)] at this
    cases hc : spec_pgCommon L X Y with
    | none => rw [hc] at this; cases this
    | some z =>
      rw [hc] at this
      simp only [Option.bind_some, Option.some.injEq] at this
      rw [this, ← hGd]
      unfold step
      congr 1
      rw [show ((pt a 1).x - (pt a 0).x).natAbs = ((pt a 0).x - (pt a 1).x).natAbs by omega, show ((pt a 1).y - (pt a 0).y).natAbs = ((pt a 0).y - (pt a 1).y).natAbs by omega]
  have w40 : wr IntKind.i64 (isub 0 Y) = -Y := wneg Y (by omega)
  have hG0 : decide (G = 0) = false := by simp; omega
  have hfit : fits (a.length : Int) 16 = true := fits_s (by omega)
  have hz0 : lrep 0 (⟨0, 0⟩ : Pt) = [] := by simp [lrep_eq]
  have hle0 : (a.length : Int) < L := by omega
  have wu : ∀ z : Int, -4000 ≤ z ∧ z ≤ 4000 → wr IntKind.i64 (isub 0 z) = -z := fun z hz => wneg z (by omega)
  rcases Int.lt_or_gt_of_ne hty0 with hneg | hpos
  · obtain ⟨b, K, hKe, hb0, hbt, hK, bK⟩ := shear_eq (tx := tx) (ty := -ty) (by omega) (by omega) (by omega)
    obtain ⟨fr, k1, k2⟩ := fin (-c0) (-d0) (-ty) K b (.inr ⟨rfl, rfl, rfl⟩) (by omega) hb0 hbt hK bK
    have wty := wneg ty (by omega)
    have wA : wr IntKind.i64 (iadd u (wr IntKind.i64 (imul K (-c0)))) = u + K * -c0 := by
      simp only [iadd_eq, imul_eq]; rw [wr_id (n := K * -c0) (by omega), wr_id (by omega)]
    have wB : wr IntKind.i64 (iadd v (wr IntKind.i64 (imul K (-d0)))) = v + K * -d0 := by
      simp only [iadd_eq, imul_eq]; rw [wr_id (n := K * -d0) (by omega), wr_id (by omega)]
    have hlt : decide (ty < 0) = true := by simp [hneg]
    have hny : decide (-ty = 0) = false := by simp; omega
    refine ⟨_, _, _, _, _, _, _, ?_, ?_, fr⟩
    · unfold spec_mvFrame
      simp only [l0, l1, l2, gbind_eq, Option.bind_some, wX, wY1, w40, hcom, hb2, wc, wd, wWx, wWy, hpeg, ieq_eq, ilt_eq, hG0, cond_false, hlt, cond_true, wty, hny]
      exact spec_mvFrame_l0_eq (r := G) (r1 := (u, v)) (r2 := (tx, ty)) (A := u + K * -c0) (B := v + K * -d0) (C := -c0) (D := -d0) (K := K) hin n0 hs (by rw [wY, wc]; exact wneg c0 (by omega)) (by rw [wX, wd]; exact wneg d0 (by omega)) (by simp only [wty]; exact hKe) wA wB (by omega) (by omega) (by omega) (by omega) hle0
    · unfold impl_frame
      simp only [l0, l1, l2, gbind_eq, Option.bind_some, less_eq n1 n0, less_eq n2 n0, hX, hY, hWx, hWy, hb1]
      by_cases hgn : gz < 0
      · simp only [hgn, if_true, Prod.mk.injEq] at hspec
        have hgz : -gz = G := by omega
        have w1 : wr IntKind.i64 (isub 0 gz) = G := by rw [wneg gz (by omega), hgz]
        have w2 : wr IntKind.i64 (isub 0 p) = u := by rw [wu p hb5]; exact hspec.1
        have w3 : wr IntKind.i64 (isub 0 q) = v := by rw [wu q hb6]; exact hspec.2
        have w4 : wr IntKind.i64 (isub 0 Y) = -Y := wneg Y (by omega)
        simp only [ilt_eq, hgn, decide_true, cond_true, w1, w2, w3, w4, wc, wd, ieq_eq, hG0, cond_false, impl_bring_eq, hpeg, Option.bind_some, hlt, wty, hny, ilen_mapep, ile_eq, Int.le_refl, show (0 : Int) ≤ a.length by omega, Bool.and_self, hfit, hz0]
        exact impl_frame_l0_eq (A := u + K * -c0) (B := v + K * -d0) (C := -c0) (D := -d0) (K := K) l0 hin n0 hs (by simp only [w1, w4, wc]; exact wneg c0 (by omega)) (by simp only [w1, wd]; exact wneg d0 (by omega)) (by simp only [wty]; exact hKe) (by simp only [w2]; exact wA) (by simp only [w3]; exact wB) (by omega) (by omega) (by omega) (by omega) hle0
      · simp only [hgn, if_false, Prod.mk.injEq] at hspec
        have hgz : gz = G := by omega
        have w4 : wr IntKind.i64 (isub 0 Y) = -Y := wneg Y (by omega)
        obtain ⟨rfl, rfl⟩ := hspec
        subst hgz
        simp only [ilt_eq, hgn, decide_false, w4, wc, wd, ieq_eq, hG0, cond_false, impl_bring_eq, hpeg, Option.bind_some, hlt, cond_true, wty, hny, ilen_mapep, ile_eq, Int.le_refl, show (0 : Int) ≤ a.length by omega, decide_true, Bool.and_self, hfit, hz0]
        exact impl_frame_l2_eq (A := p + K * -c0) (B := q + K * -d0) (C := -c0) (D := -d0) (K := K) l0 hin n0 hs (by simp only [w4, wc]; exact wneg c0 (by omega)) (by simp only [wd]; exact wneg d0 (by omega)) (by simp only [wty]; exact hKe) wA wB (by omega) (by omega) (by omega) (by omega) hle0
  · obtain ⟨b, K, hKe, hb0, hbt, hK, bK⟩ := shear_eq (tx := tx) (ty := ty) (by omega) (by omega) (by omega)
    obtain ⟨fr, k1, k2⟩ := fin c0 d0 ty K b (.inl ⟨rfl, rfl, rfl⟩) (by omega) hb0 hbt hK bK
    have wA : wr IntKind.i64 (iadd u (wr IntKind.i64 (imul K c0))) = u + K * c0 := by
      simp only [iadd_eq, imul_eq]; rw [wr_id (n := K * c0) (by omega), wr_id (by omega)]
    have wB : wr IntKind.i64 (iadd v (wr IntKind.i64 (imul K d0))) = v + K * d0 := by
      simp only [iadd_eq, imul_eq]; rw [wr_id (n := K * d0) (by omega), wr_id (by omega)]
    have hlt : decide (ty < 0) = false := by simp; omega
    have hny : decide (ty = 0) = false := by simp; omega
    refine ⟨_, _, _, _, _, _, _, ?_, ?_, fr⟩
    · unfold spec_mvFrame
      simp only [l0, l1, l2, gbind_eq, Option.bind_some, wX, wY1, w40, hcom, hb2, wc, wd, wWx, wWy, hpeg, ieq_eq, ilt_eq, hG0, cond_false, hlt, hny]
      exact spec_mvFrame_l1_eq (r := G) (r1 := (u, v)) (r2 := (tx, ty)) (A := u + K * c0) (B := v + K * d0) (C := c0) (D := d0) (K := K) hin n0 hs (by rw [wY, wc]) (by rw [wX, wd]) hKe wA wB (by omega) (by omega) (by omega) (by omega) hle0
    · unfold impl_frame
      simp only [l0, l1, l2, gbind_eq, Option.bind_some, less_eq n1 n0, less_eq n2 n0, hX, hY, hWx, hWy, hb1]
      by_cases hgn : gz < 0
      · simp only [hgn, if_true, Prod.mk.injEq] at hspec
        have hgz : -gz = G := by omega
        have w1 : wr IntKind.i64 (isub 0 gz) = G := by rw [wneg gz (by omega), hgz]
        have w2 : wr IntKind.i64 (isub 0 p) = u := by rw [wu p hb5]; exact hspec.1
        have w3 : wr IntKind.i64 (isub 0 q) = v := by rw [wu q hb6]; exact hspec.2
        have w4 : wr IntKind.i64 (isub 0 Y) = -Y := wneg Y (by omega)
        simp only [ilt_eq, hgn, decide_true, cond_true, w1, w2, w3, w4, wc, wd, ieq_eq, hG0, cond_false, impl_bring_eq, hpeg, Option.bind_some, hlt, hny, ilen_mapep, ile_eq, Int.le_refl, show (0 : Int) ≤ a.length by omega, Bool.and_self, hfit, hz0]
        exact impl_frame_l1_eq (A := u + K * c0) (B := v + K * d0) (C := c0) (D := d0) (K := K) l0 hin n0 hs (by simp only [w1, w4, wc]) (by simp only [w1, wd]) hKe (by simp only [w2]; exact wA) (by simp only [w3]; exact wB) (by omega) (by omega) (by omega) (by omega) hle0
      · simp only [hgn, if_false, Prod.mk.injEq] at hspec
        have hgz : gz = G := by omega
        have w4 : wr IntKind.i64 (isub 0 Y) = -Y := wneg Y (by omega)
        obtain ⟨rfl, rfl⟩ := hspec
        subst hgz
        simp only [ilt_eq, hgn, decide_false, w4, wc, wd, ieq_eq, hG0, cond_false, impl_bring_eq, hpeg, Option.bind_some, hlt, cond_true, hny, ilen_mapep, ile_eq, Int.le_refl, show (0 : Int) ≤ a.length by omega, decide_true, Bool.and_self, hfit, hz0]
        exact impl_frame_l3_eq (A := p + K * c0) (B := q + K * d0) (C := c0) (D := d0) (K := K) l0 hin n0 hs (by simp only [w4, wc]) (by simp only [wd]) hKe wA wB (by omega) (by omega) (by omega) (by omega) hle0
end Go.AM
