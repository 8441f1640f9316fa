import Derived.Test.YtokhceheoccfhaaAmSeat
set_option linter.unusedVariables false
set_option linter.unusedSimpArgs false
set_option linter.unnecessarySimpa false
set_option linter.deprecated false
set_option linter.unusedSectionVars false
open Go Go.AM Go.Proofs
namespace Go.AM
set_option maxRecDepth 400000
set_option maxHeartbeats 40000000
set_option linter.unusedVariables false
noncomputable def spec_l1In (L : Nat) (a : Int) (b : Int) (c : Int) : Option (Bool) := bif ile b a then (some (ile a c)) else (some false)


def spec_l1In_ok (L : Nat) (C : CF) : Prop := ∀ (a : Int) (b : Int) (c : Int), C 191 ([.int .i64 a, .int .i64 b, .int .i64 c]) ([]) = Option.map (fun r : Bool => ((.bool r, []) : AV × List Blk)) (spec_l1In L a b c)


theorem spec_l1In_run (L : Nat) (C : CF) : ∀ (a : Int) (b : Int) (c : Int), run T C sh (keep 191) L Try.f191 ([.int .i64 a, .int .i64 b, .int .i64 c]) ([]) = Option.map (fun r : Bool => ((.bool r, []) : AV × List Blk)) (spec_l1In L a b c) := by
 intro a b c
 unfold spec_l1In
 conv => lhs; whnf
 refine t_cond ?_ ?_
 ·conv => lhs; whnf
  exact t_ret (by first | rfl | simp only [ml] <;> rfl)
 ·conv => lhs; whnf
  exact t_ret (by first | rfl | simp only [ml] <;> rfl)


noncomputable def spec_pgIs (L : Nat) (a_0 : Int) (a_1 : Int) : Option (Bool) := gbind (spec_l1In L a_0 (-40) 40) fun r => bif r then (gbind (spec_l1In L a_1 (-40) 40) fun r1 => some r1) else (some false)


def spec_pgIs_ok (L : Nat) (C : CF) : Prop := ∀ (a_0 : Int) (a_1 : Int), C 131 ([.agg [.int .i64 a_0, .int .i64 a_1]]) ([]) = Option.map (fun r : Bool => ((.bool r, []) : AV × List Blk)) (spec_pgIs L a_0 a_1)


theorem spec_pgIs_run (L : Nat) (C : CF) (h_spec_l1In : spec_l1In_ok L C) : ∀ (a_0 : Int) (a_1 : Int), run T C sh (keep 131) L Try.f131 ([.agg [.int .i64 a_0, .int .i64 a_1]]) ([]) = Option.map (fun r : Bool => ((.bool r, []) : AV × List Blk)) (spec_pgIs L a_0 a_1) := by
 intro a_0 a_1
 unfold spec_pgIs
 conv => lhs; whnf
 refine t_call (h_spec_l1In a_0 (-40) 40) fun r => ?_
 conv => lhs; whnf
 refine t_cond ?_ ?_
 ·conv => lhs; whnf
  refine t_call (h_spec_l1In a_1 (-40) 40) fun r1 => ?_
  conv => lhs; whnf
  exact t_ret (by first | rfl | simp only [ml] <;> rfl)
 ·conv => lhs; whnf
  exact t_ret (by first | rfl | simp only [ml] <;> rfl)


noncomputable def spec_pgTurn (L : Nat) (a_0 : Int) (a_1 : Int) (b_0 : Int) (b_1 : Int) (c_0 : Int) (c_1 : Int) : Option (Int) := some (wr IntKind.i64 (isub (wr IntKind.i64 (imul (wr IntKind.i64 (isub b_0 a_0)) (wr IntKind.i64 (isub c_1 a_1)))) (wr IntKind.i64 (imul (wr IntKind.i64 (isub b_1 a_1)) (wr IntKind.i64 (isub c_0 a_0))))))


def spec_pgTurn_ok (L : Nat) (C : CF) : Prop := ∀ (a_0 : Int) (a_1 : Int) (b_0 : Int) (b_1 : Int) (c_0 : Int) (c_1 : Int), C 221 ([.agg [.int .i64 a_0, .int .i64 a_1], .agg [.int .i64 b_0, .int .i64 b_1], .agg [.int .i64 c_0, .int .i64 c_1]]) ([]) = Option.map (fun r : Int => ((.int .i64 r, []) : AV × List Blk)) (spec_pgTurn L a_0 a_1 b_0 b_1 c_0 c_1)


theorem spec_pgTurn_run (L : Nat) (C : CF) : ∀ (a_0 : Int) (a_1 : Int) (b_0 : Int) (b_1 : Int) (c_0 : Int) (c_1 : Int), run T C sh (keep 221) L Try.f221 ([.agg [.int .i64 a_0, .int .i64 a_1], .agg [.int .i64 b_0, .int .i64 b_1], .agg [.int .i64 c_0, .int .i64 c_1]]) ([]) = Option.map (fun r : Int => ((.int .i64 r, []) : AV × List Blk)) (spec_pgTurn L a_0 a_1 b_0 b_1 c_0 c_1) := by
 intro a_0 a_1 b_0 b_1 c_0 c_1
 unfold spec_pgTurn
 conv => lhs; whnf
 exact t_ret (by first | rfl | simp only [ml] <;> rfl)


noncomputable def spec_pgOn (L : Nat) (a_0 : Int) (a_1 : Int) (b_0 : Int) (b_1 : Int) (c_0 : Int) (c_1 : Int) : Option (Bool) := gbind (spec_pgTurn L a_0 a_1 b_0 b_1 c_0 c_1) fun r => bif ieq r 0 then (bif ile (wr IntKind.i64 (imul (wr IntKind.i64 (isub a_0 c_0)) (wr IntKind.i64 (isub b_0 c_0)))) 0 then (some (ile (wr IntKind.i64 (imul (wr IntKind.i64 (isub a_1 c_1)) (wr IntKind.i64 (isub b_1 c_1)))) 0)) else (some false)) else (some false)


def spec_pgOn_ok (L : Nat) (C : CF) : Prop := ∀ (a_0 : Int) (a_1 : Int) (b_0 : Int) (b_1 : Int) (c_0 : Int) (c_1 : Int), C 223 ([.agg [.int .i64 a_0, .int .i64 a_1], .agg [.int .i64 b_0, .int .i64 b_1], .agg [.int .i64 c_0, .int .i64 c_1]]) ([]) = Option.map (fun r : Bool => ((.bool r, []) : AV × List Blk)) (spec_pgOn L a_0 a_1 b_0 b_1 c_0 c_1)


theorem spec_pgOn_run (L : Nat) (C : CF) (h_spec_pgTurn : spec_pgTurn_ok L C) : ∀ (a_0 : Int) (a_1 : Int) (b_0 : Int) (b_1 : Int) (c_0 : Int) (c_1 : Int), run T C sh (keep 223) L Try.f223 ([.agg [.int .i64 a_0, .int .i64 a_1], .agg [.int .i64 b_0, .int .i64 b_1], .agg [.int .i64 c_0, .int .i64 c_1]]) ([]) = Option.map (fun r : Bool => ((.bool r, []) : AV × List Blk)) (spec_pgOn L a_0 a_1 b_0 b_1 c_0 c_1) := by
 intro a_0 a_1 b_0 b_1 c_0 c_1
 unfold spec_pgOn
 conv => lhs; whnf
 refine t_call (h_spec_pgTurn a_0 a_1 b_0 b_1 c_0 c_1) fun r => ?_
 conv => lhs; whnf
 refine t_cond ?_ ?_
 ·conv => lhs; whnf
  refine t_cond ?_ ?_
  ·conv => lhs; whnf
   exact t_ret (by first | rfl | simp only [ml] <;> rfl)
  ·conv => lhs; whnf
   exact t_ret (by first | rfl | simp only [ml] <;> rfl)
 ·conv => lhs; whnf
  exact t_ret (by first | rfl | simp only [ml] <;> rfl)


noncomputable def spec_l1Sign (L : Nat) (a : Int) : Option (Int) := bif ilt 0 a then (some 1) else (bif ilt a 0 then (some (-1)) else (some 0))


def spec_l1Sign_ok (L : Nat) (C : CF) : Prop := ∀ (a : Int), C 198 ([.int .i64 a]) ([]) = Option.map (fun r : Int => ((.int .i64 r, []) : AV × List Blk)) (spec_l1Sign L a)


theorem spec_l1Sign_run (L : Nat) (C : CF) : ∀ (a : Int), run T C sh (keep 198) L Try.f198 ([.int .i64 a]) ([]) = Option.map (fun r : Int => ((.int .i64 r, []) : AV × List Blk)) (spec_l1Sign L a) := by
 intro a
 unfold spec_l1Sign
 conv => lhs; whnf
 refine t_cond ?_ ?_
 ·conv => lhs; whnf
  exact t_ret (by first | rfl | simp only [ml] <;> rfl)
 ·conv => lhs; whnf
  refine t_cond ?_ ?_
  ·conv => lhs; whnf
   exact t_ret (by first | rfl | simp only [ml] <;> rfl)
  ·conv => lhs; whnf
   exact t_ret (by first | rfl | simp only [ml] <;> rfl)


noncomputable def spec_pgMeet (L : Nat) (a_0 : Int) (a_1 : Int) (b_0 : Int) (b_1 : Int) (c_0 : Int) (c_1 : Int) (d_0 : Int) (d_1 : Int) : Option (Bool) := gbind (spec_pgOn L a_0 a_1 b_0 b_1 c_0 c_1) fun r => bif r then (some true) else (gbind (spec_pgOn L a_0 a_1 b_0 b_1 d_0 d_1) fun r1 => bif r1 then (some true) else (gbind (spec_pgOn L c_0 c_1 d_0 d_1 a_0 a_1) fun r2 => bif r2 then (some true) else (gbind (spec_pgOn L c_0 c_1 d_0 d_1 b_0 b_1) fun r3 => bif r3 then (some true) else (gbind (spec_pgTurn L a_0 a_1 b_0 b_1 c_0 c_1) fun r4 => gbind (spec_l1Sign L r4) fun r5 => gbind (spec_pgTurn L a_0 a_1 b_0 b_1 d_0 d_1) fun r6 => gbind (spec_l1Sign L r6) fun r7 => bif ilt (wr IntKind.i64 (imul r5 r7)) 0 then (gbind (spec_pgTurn L c_0 c_1 d_0 d_1 a_0 a_1) fun r8 => gbind (spec_l1Sign L r8) fun r9 => gbind (spec_pgTurn L c_0 c_1 d_0 d_1 b_0 b_1) fun r10 => gbind (spec_l1Sign L r10) fun r11 => some (ilt (wr IntKind.i64 (imul r9 r11)) 0)) else (some false)))))


def spec_pgMeet_ok (L : Nat) (C : CF) : Prop := ∀ (a_0 : Int) (a_1 : Int) (b_0 : Int) (b_1 : Int) (c_0 : Int) (c_1 : Int) (d_0 : Int) (d_1 : Int), C 236 ([.agg [.int .i64 a_0, .int .i64 a_1], .agg [.int .i64 b_0, .int .i64 b_1], .agg [.int .i64 c_0, .int .i64 c_1], .agg [.int .i64 d_0, .int .i64 d_1]]) ([]) = Option.map (fun r : Bool => ((.bool r, []) : AV × List Blk)) (spec_pgMeet L a_0 a_1 b_0 b_1 c_0 c_1 d_0 d_1)


theorem spec_pgMeet_run (L : Nat) (C : CF) (h_spec_pgTurn : spec_pgTurn_ok L C) (h_spec_pgOn : spec_pgOn_ok L C) (h_spec_l1Sign : spec_l1Sign_ok L C) : ∀ (a_0 : Int) (a_1 : Int) (b_0 : Int) (b_1 : Int) (c_0 : Int) (c_1 : Int) (d_0 : Int) (d_1 : Int), run T C sh (keep 236) L Try.f236 ([.agg [.int .i64 a_0, .int .i64 a_1], .agg [.int .i64 b_0, .int .i64 b_1], .agg [.int .i64 c_0, .int .i64 c_1], .agg [.int .i64 d_0, .int .i64 d_1]]) ([]) = Option.map (fun r : Bool => ((.bool r, []) : AV × List Blk)) (spec_pgMeet L a_0 a_1 b_0 b_1 c_0 c_1 d_0 d_1) := by
 intro a_0 a_1 b_0 b_1 c_0 c_1 d_0 d_1
 unfold spec_pgMeet
 conv => lhs; whnf
 refine t_call (h_spec_pgOn a_0 a_1 b_0 b_1 c_0 c_1) fun r => ?_
 conv => lhs; whnf
 refine t_cond ?_ ?_
 ·conv => lhs; whnf
  exact t_ret (by first | rfl | simp only [ml] <;> rfl)
 ·conv => lhs; whnf
  refine t_call (h_spec_pgOn a_0 a_1 b_0 b_1 d_0 d_1) fun r1 => ?_
  conv => lhs; whnf
  refine t_cond ?_ ?_
  ·conv => lhs; whnf
   exact t_ret (by first | rfl | simp only [ml] <;> rfl)
  ·conv => lhs; whnf
   refine t_call (h_spec_pgOn c_0 c_1 d_0 d_1 a_0 a_1) fun r2 => ?_
   conv => lhs; whnf
   refine t_cond ?_ ?_
   ·conv => lhs; whnf
    exact t_ret (by first | rfl | simp only [ml] <;> rfl)
   ·conv => lhs; whnf
    refine t_call (h_spec_pgOn c_0 c_1 d_0 d_1 b_0 b_1) fun r3 => ?_
    conv => lhs; whnf
    refine t_cond ?_ ?_
    ·conv => lhs; whnf
     exact t_ret (by first | rfl | simp only [ml] <;> rfl)
    ·conv => lhs; whnf
     refine t_call (h_spec_pgTurn a_0 a_1 b_0 b_1 c_0 c_1) fun r4 => ?_
     conv => lhs; whnf
     refine t_call (h_spec_l1Sign r4) fun r5 => ?_
     conv => lhs; whnf
     refine t_call (h_spec_pgTurn a_0 a_1 b_0 b_1 d_0 d_1) fun r6 => ?_
     conv => lhs; whnf
     refine t_call (h_spec_l1Sign r6) fun r7 => ?_
     conv => lhs; whnf
     refine t_cond ?_ ?_
     ·conv => lhs; whnf
      refine t_call (h_spec_pgTurn c_0 c_1 d_0 d_1 a_0 a_1) fun r8 => ?_
      conv => lhs; whnf
      refine t_call (h_spec_l1Sign r8) fun r9 => ?_
      conv => lhs; whnf
      refine t_call (h_spec_pgTurn c_0 c_1 d_0 d_1 b_0 b_1) fun r10 => ?_
      conv => lhs; whnf
      refine t_call (h_spec_l1Sign r10) fun r11 => ?_
      conv => lhs; whnf
      exact t_ret (by first | rfl | simp only [ml] <;> rfl)
     ·conv => lhs; whnf
      exact t_ret (by first | rfl | simp only [ml] <;> rfl)


noncomputable def spec_pgGood_l1 (L : Nat) (κ0 : (List Pt) → Int → (List Pt) → Int → Int → Option Bool) (v0 : List Pt) (v3 : Int) (v17 : List Pt) (v18 : Int) (v19 : Int) (p : Pt) : Nat → Int → Option Bool
  | 0, _ => none
  | m1 + 1, v31 => bif ilt v31 (ilen (lsub (List.map ep v0) 0 v19)) then (gbind (lget (lsub v0 0 v19) v31) fun p1 => bif ieq (Pt.x p) (Pt.x p1) && ieq (Pt.y p) (Pt.y p1) then (some false) else (spec_pgGood_l1 L κ0 v0 v3 v17 v18 v19 p m1 (wr IntKind.i64 (iadd v31 1)))) else (κ0 v0 v3 v17 v18 (wr IntKind.i64 (iadd v19 1)))


noncomputable def spec_pgGood_l3 (L : Nat) (κ1 : (List Pt) → Int → (List Pt) → Int → Int → Option Bool) (v01 : List Pt) (v32 : Int) (v40 : List Pt) (v41 : Int) (v42 : Int) (p2 : Pt) (p3 : Pt) : Nat → Int → Option Bool
  | 0, _ => none
  | m3 + 1, v11 => bif ilt v11 v32 then (bif ilt (wr IntKind.i64 (isub v11 v42)) (wr IntKind.i64 (isub v32 1)) then (gbind (lget v01 v11) fun p5 => bif ieq v32 0 then (none) else (gbind (lget v01 (irem (wr IntKind.i64 (iadd v11 1)) v32)) fun p6 => gbind (spec_pgMeet L (Pt.x p2) (Pt.y p2) (Pt.x p3) (Pt.y p3) (Pt.x p5) (Pt.y p5) (Pt.x p6) (Pt.y p6)) fun r3 => bif r3 then (some false) else (spec_pgGood_l3 L κ1 v01 v32 v40 v41 v42 p2 p3 m3 (wr IntKind.i64 (iadd v11 1))))) else (κ1 v01 v32 v40 v41 (wr IntKind.i64 (iadd v42 1)))) else (κ1 v01 v32 v40 v41 (wr IntKind.i64 (iadd v42 1)))


noncomputable def spec_pgGood_l2 (L : Nat) : Nat → (List Pt) → Int → (List Pt) → Int → Int → Option Bool
  | 0, _, _, _, _, _ => none
  | m2 + 1, v01, v32, v40, v41, v42 => bif ilt v42 v41 then (gbind (lget v40 v42) fun p2 => bif ieq v32 0 then (none) else (gbind (lget v01 (irem (wr IntKind.i64 (iadd v42 1)) v32)) fun p3 => bif ieq v32 0 then (none) else (gbind (lget v01 (irem (wr IntKind.i64 (iadd v42 2)) v32)) fun p4 => gbind (spec_pgTurn L (Pt.x p2) (Pt.y p2) (Pt.x p3) (Pt.y p3) (Pt.x p4) (Pt.y p4)) fun r2 => bif ieq r2 0 then (some false) else (spec_pgGood_l3 L (spec_pgGood_l2 L m2) v01 v32 v40 v41 v42 p2 p3 L (wr IntKind.i64 (iadd v42 2)))))) else (some true)


noncomputable def spec_pgGood_l0 (L : Nat) : Nat → (List Pt) → Int → (List Pt) → Int → Int → Option Bool
  | 0, _, _, _, _, _ => none
  | m + 1, v0, v3, v17, v18, v19 => bif ilt v19 v18 then (gbind (lget v17 v19) fun p => gbind (spec_pgIs L (Pt.x p) (Pt.y p)) fun r1 => bif !r1 then (some false) else (bif ile 0 v19 && ile v19 (ilen (List.map ep v0)) then (spec_pgGood_l1 L (spec_pgGood_l0 L m) v0 v3 v17 v18 v19 p L 0) else (none))) else (spec_pgGood_l2 L L v0 v3 v0 (ilen (List.map ep v0)) 0)


noncomputable def spec_pgGood (L : Nat) (a : List Pt) : Option (Bool) := gbind (spec_l1In L (ilen (List.map ep a)) 3 10) fun r => bif !r then (some false) else (spec_pgGood_l0 L L a (ilen (List.map ep a)) a (ilen (List.map ep a)) 0)


def spec_pgGood_ok (L : Nat) (C : CF) : Prop := ∀ (oa : Bool) (ca : Bool) (x_a : List AV) (a : List Pt) (_ : x_a = List.map ep a), C 164 ([.lst oa ca 2 x_a]) ([]) = Option.map (fun r : Bool => ((.bool r, []) : AV × List Blk)) (spec_pgGood L a)


theorem spec_pgGood_run (L : Nat) (C : CF) (h_spec_l1In : spec_l1In_ok L C) (h_spec_pgIs : spec_pgIs_ok L C) (h_spec_pgTurn : spec_pgTurn_ok L C) (h_spec_pgMeet : spec_pgMeet_ok L C) : ∀ (oa : Bool) (ca : Bool) (x_a : List AV) (a : List Pt) (_ : x_a = List.map ep a), run T C sh (keep 164) L Try.f164 ([.lst oa ca 2 x_a]) ([]) = Option.map (fun r : Bool => ((.bool r, []) : AV × List Blk)) (spec_pgGood L a) := by
 intro oa ca x_a a hx_a
 subst hx_a
 unfold spec_pgGood
 conv => lhs; whnf
 refine t_call (h_spec_l1In (ilen (List.map ep a)) 3 10) fun r => ?_
 conv => lhs; whnf
 refine t_cond ?_ ?_
 ·conv => lhs; whnf
  exact t_ret (by first | rfl | simp only [ml] <;> rfl)
 ·conv => lhs; whnf
  refine t_loop (fun (⟨v0, v3, v17, v18, v19⟩ : (List Pt) × Int × (List Pt) × Int × Int) => (AV.lst oa ca 2 (List.map ep v0) :: topA 2 (AV.int IntKind.i64 v3 :: topA 13 (AV.lst oa ca 2 (List.map ep v17) :: AV.int IntKind.i64 v18 :: AV.int IntKind.i64 v19 :: tops 75)), [])) (fun m (⟨v0, v3, v17, v18, v19⟩ : (List Pt) × Int × (List Pt) × Int × Int) => spec_pgGood_l0 L m v0 v3 v17 v18 v19) (fun _ => rfl) (fun m s rec hrec => ?_) L ((a, ilen (List.map ep a), a, ilen (List.map ep a), 0)) ?_ ?_
  rotate_left
  ·first | rfl | simp only [ml] <;> rfl
  ·first | rfl | simp only [ml] <;> rfl
  obtain ⟨v0, v3, v17, v18, v19⟩ := s
  show _ = Option.map _ (spec_pgGood_l0 L (m + 1) v0 v3 v17 v18 v19)
  rw [spec_pgGood_l0.eq_2]
  conv => lhs; whnf
  refine t_cond ?_ ?_
  ·conv => lhs; whnf
   refine t_get (en := ep) (l := v17) (by first | rfl | simp only [ml] <;> rfl) fun p => ?_
   conv => lhs; whnf
   refine t_call (h_spec_pgIs (Pt.x p) (Pt.y p)) fun r1 => ?_
   conv => lhs; whnf
   refine t_cond ?_ ?_
   ·conv => lhs; whnf
    exact t_ret (by first | rfl | simp only [ml] <;> rfl)
   ·conv => lhs; whnf
    refine t_cond ?_ ?_
    ·conv => lhs; whnf
     refine t_loop (fun (v31 : Int) => (AV.lst oa ca 2 (List.map ep v0) :: topA 2 (AV.int IntKind.i64 v3 :: AV.top :: AV.ptr 0 0 0 2 :: topA 11 (AV.lst oa ca 2 (List.map ep v17) :: AV.int IntKind.i64 v18 :: AV.int IntKind.i64 v19 :: topA 9 (AV.lst oa false 2 (lsub (List.map ep v0) 0 v19) :: AV.int IntKind.i64 (ilen (lsub (List.map ep v0) 0 v19)) :: AV.int IntKind.i64 v31 :: tops 63))), [Blk.box (AV.agg [AV.int IntKind.i64 (Pt.x p), AV.int IntKind.i64 (Pt.y p)])])) (fun m1 (v31 : Int) => spec_pgGood_l1 L (spec_pgGood_l0 L m) v0 v3 v17 v18 v19 p m1 v31) (fun _ => rfl) (fun m1 v31 rec1 hrec1 => ?_) L 0 ?_ ?_
     rotate_left
     ·first | rfl | simp only [ml] <;> rfl
     ·first | rfl | simp only [ml] <;> rfl
     show _ = Option.map _ (spec_pgGood_l1 L (spec_pgGood_l0 L m) v0 v3 v17 v18 v19 p (m1 + 1) v31)
     rw [spec_pgGood_l1.eq_2]
     conv => lhs; whnf
     refine t_cond ?_ ?_
     ·conv => lhs; whnf
      refine t_get (en := ep) (l := lsub v0 0 v19) (by first | rfl | simp only [ml] <;> rfl) fun p1 => ?_
      conv => lhs; whnf
      refine t_cond ?_ ?_
      ·conv => lhs; whnf
       exact t_ret (by first | rfl | simp only [ml] <;> rfl)
      ·conv => lhs; whnf
       exact hrec1 (wr IntKind.i64 (iadd v31 1)) _ _ (by first | rfl | simp only [ml] <;> rfl) (by first | rfl | simp only [ml] <;> rfl)
     ·conv => lhs; whnf
      exact hrec ((v0, v3, v17, v18, wr IntKind.i64 (iadd v19 1))) _ _ (by first | rfl | simp only [ml] <;> rfl) (by first | rfl | simp only [ml] <;> rfl)
    ·conv => lhs; whnf
     exact t_none
  ·conv => lhs; whnf
   refine t_loop (fun (⟨v01, v32, v40, v41, v42⟩ : (List Pt) × Int × (List Pt) × Int × Int) => (AV.lst oa ca 2 (List.map ep v01) :: topA 2 (AV.int IntKind.i64 v32 :: topA 36 (AV.lst oa ca 2 (List.map ep v40) :: AV.int IntKind.i64 v41 :: AV.int IntKind.i64 v42 :: tops 52)), [])) (fun m2 (⟨v01, v32, v40, v41, v42⟩ : (List Pt) × Int × (List Pt) × Int × Int) => spec_pgGood_l2 L m2 v01 v32 v40 v41 v42) (fun _ => rfl) (fun m2 s2 rec2 hrec2 => ?_) L ((v0, v3, v0, ilen (List.map ep v0), 0)) ?_ ?_
   rotate_left
   ·first | rfl | simp only [ml] <;> rfl
   ·first | rfl | simp only [ml] <;> rfl
   obtain ⟨v01, v32, v40, v41, v42⟩ := s2
   show _ = Option.map _ (spec_pgGood_l2 L (m2 + 1) v01 v32 v40 v41 v42)
   rw [spec_pgGood_l2.eq_2]
   conv => lhs; whnf
   refine t_cond ?_ ?_
   ·conv => lhs; whnf
    refine t_get (en := ep) (l := v40) (by first | rfl | simp only [ml] <;> rfl) fun p2 => ?_
    conv => lhs; whnf
    refine t_cond ?_ ?_
    ·conv => lhs; whnf
     exact t_none
    ·conv => lhs; whnf
     refine t_get (en := ep) (l := v01) (by first | rfl | simp only [ml] <;> rfl) fun p3 => ?_
     conv => lhs; whnf
     refine t_cond ?_ ?_
     ·conv => lhs; whnf
      exact t_none
     ·conv => lhs; whnf
      refine t_get (en := ep) (l := v01) (by first | rfl | simp only [ml] <;> rfl) fun p4 => ?_
      conv => lhs; whnf
      refine t_call (h_spec_pgTurn (Pt.x p2) (Pt.y p2) (Pt.x p3) (Pt.y p3) (Pt.x p4) (Pt.y p4)) fun r2 => ?_
      conv => lhs; whnf
      refine t_cond ?_ ?_
      ·conv => lhs; whnf
       exact t_ret (by first | rfl | simp only [ml] <;> rfl)
      ·conv => lhs; whnf
       refine t_loop (fun (v11 : Int) => (AV.lst oa ca 2 (List.map ep v01) :: topA 2 (AV.int IntKind.i64 v32 :: topA 4 (AV.int IntKind.i64 v42 :: AV.ptr 0 0 0 2 :: AV.ptr 1 0 0 2 :: AV.int IntKind.i64 v11 :: topA 28 (AV.lst oa ca 2 (List.map ep v40) :: AV.int IntKind.i64 v41 :: AV.int IntKind.i64 v42 :: tops 52))), [Blk.box (AV.agg [AV.int IntKind.i64 (Pt.x p2), AV.int IntKind.i64 (Pt.y p2)]), Blk.box (AV.agg [AV.int IntKind.i64 (Pt.x p3), AV.int IntKind.i64 (Pt.y p3)])])) (fun m3 (v11 : Int) => spec_pgGood_l3 L (spec_pgGood_l2 L m2) v01 v32 v40 v41 v42 p2 p3 m3 v11) (fun _ => rfl) (fun m3 v11 rec3 hrec3 => ?_) L (wr IntKind.i64 (iadd v42 2)) ?_ ?_
       rotate_left
       ·first | rfl | simp only [ml] <;> rfl
       ·first | rfl | simp only [ml] <;> rfl
       show _ = Option.map _ (spec_pgGood_l3 L (spec_pgGood_l2 L m2) v01 v32 v40 v41 v42 p2 p3 (m3 + 1) v11)
       rw [spec_pgGood_l3.eq_2]
       conv => lhs; whnf
       refine t_cond ?_ ?_
       ·conv => lhs; whnf
        refine t_cond ?_ ?_
        ·conv => lhs; whnf
         refine t_get (en := ep) (l := v01) (by first | rfl | simp only [ml] <;> rfl) fun p5 => ?_
         conv => lhs; whnf
         refine t_cond ?_ ?_
         ·conv => lhs; whnf
          exact t_none
         ·conv => lhs; whnf
          refine t_get (en := ep) (l := v01) (by first | rfl | simp only [ml] <;> rfl) fun p6 => ?_
          conv => lhs; whnf
          refine t_call (h_spec_pgMeet (Pt.x p2) (Pt.y p2) (Pt.x p3) (Pt.y p3) (Pt.x p5) (Pt.y p5) (Pt.x p6) (Pt.y p6)) fun r3 => ?_
          conv => lhs; whnf
          refine t_cond ?_ ?_
          ·conv => lhs; whnf
           exact t_ret (by first | rfl | simp only [ml] <;> rfl)
          ·conv => lhs; whnf
           exact hrec3 (wr IntKind.i64 (iadd v11 1)) _ _ (by first | rfl | simp only [ml] <;> rfl) (by first | rfl | simp only [ml] <;> rfl)
        ·conv => lhs; whnf
         exact hrec2 ((v01, v32, v40, v41, wr IntKind.i64 (iadd v42 1))) _ _ (by first | rfl | simp only [ml] <;> rfl) (by first | rfl | simp only [ml] <;> rfl)
       ·conv => lhs; whnf
        exact hrec2 ((v01, v32, v40, v41, wr IntKind.i64 (iadd v42 1))) _ _ (by first | rfl | simp only [ml] <;> rfl) (by first | rfl | simp only [ml] <;> rfl)
   ·conv => lhs; whnf
    exact t_ret (by first | rfl | simp only [ml] <;> rfl)


noncomputable def spec_pgArea_l0 (L : Nat) (a : List Pt) : Nat → Int → Int → Option Int
  | 0, _, _ => none
  | m + 1, v3, v4 => bif ilt v4 (ilen (List.map ep a)) then (gbind (lget a 0) fun p => gbind (lget a (wr IntKind.i64 (isub v4 1))) fun p1 => gbind (lget a v4) fun p2 => gbind (spec_pgTurn L (Pt.x p) (Pt.y p) (Pt.x p1) (Pt.y p1) (Pt.x p2) (Pt.y p2)) fun r => spec_pgArea_l0 L a m (wr IntKind.i64 (iadd v3 r)) (wr IntKind.i64 (iadd v4 1))) else (some v3)


noncomputable def spec_pgArea (L : Nat) (a : List Pt) : Option (Int) := spec_pgArea_l0 L a L 0 2


def spec_pgArea_ok (L : Nat) (C : CF) : Prop := ∀ (oa : Bool) (ca : Bool) (x_a : List AV) (a : List Pt) (_ : x_a = List.map ep a), C 145 ([.lst oa ca 2 x_a]) ([]) = Option.map (fun r : Int => ((.int .i64 r, []) : AV × List Blk)) (spec_pgArea L a)


theorem spec_pgArea_run (L : Nat) (C : CF) (h_spec_pgTurn : spec_pgTurn_ok L C) : ∀ (oa : Bool) (ca : Bool) (x_a : List AV) (a : List Pt) (_ : x_a = List.map ep a), run T C sh (keep 145) L Try.f145 ([.lst oa ca 2 x_a]) ([]) = Option.map (fun r : Int => ((.int .i64 r, []) : AV × List Blk)) (spec_pgArea L a) := by
 intro oa ca x_a a hx_a
 subst hx_a
 unfold spec_pgArea
 conv => lhs; whnf
 refine t_loop (fun (⟨v3, v4⟩ : Int × Int) => (AV.lst oa ca 2 (List.map ep a) :: topA 2 (AV.int IntKind.i64 v3 :: AV.int IntKind.i64 v4 :: tops 22), [])) (fun m (⟨v3, v4⟩ : Int × Int) => spec_pgArea_l0 L a m v3 v4) (fun _ => rfl) (fun m s rec hrec => ?_) L ((0, 2)) ?_ ?_
 rotate_left
 ·first | rfl | simp only [ml] <;> rfl
 ·first | rfl | simp only [ml] <;> rfl
 obtain ⟨v3, v4⟩ := s
 show _ = Option.map _ (spec_pgArea_l0 L a (m + 1) v3 v4)
 rw [spec_pgArea_l0.eq_2]
 conv => lhs; whnf
 refine t_cond ?_ ?_
 ·conv => lhs; whnf
  refine t_get (en := ep) (l := a) (by first | rfl | simp only [ml] <;> rfl) fun p => ?_
  conv => lhs; whnf
  refine t_get (en := ep) (l := a) (by first | rfl | simp only [ml] <;> rfl) fun p1 => ?_
  conv => lhs; whnf
  refine t_get (en := ep) (l := a) (by first | rfl | simp only [ml] <;> rfl) fun p2 => ?_
  conv => lhs; whnf
  refine t_call (h_spec_pgTurn (Pt.x p) (Pt.y p) (Pt.x p1) (Pt.y p1) (Pt.x p2) (Pt.y p2)) fun r => ?_
  conv => lhs; whnf
  exact hrec ((wr IntKind.i64 (iadd v3 r), wr IntKind.i64 (iadd v4 1))) _ _ (by first | rfl | simp only [ml] <;> rfl) (by first | rfl | simp only [ml] <;> rfl)
 ·conv => lhs; whnf
  exact t_ret (by first | rfl | simp only [ml] <;> rfl)


noncomputable def spec_l1Most (L : Nat) (a : Int) (b : Int) : Option (Int) := bif ilt b a then (some a) else (some b)


def spec_l1Most_ok (L : Nat) (C : CF) : Prop := ∀ (a : Int) (b : Int), C 197 ([.int .i64 a, .int .i64 b]) ([]) = Option.map (fun r : Int => ((.int .i64 r, []) : AV × List Blk)) (spec_l1Most L a b)


theorem spec_l1Most_run (L : Nat) (C : CF) : ∀ (a : Int) (b : Int), run T C sh (keep 197) L Try.f197 ([.int .i64 a, .int .i64 b]) ([]) = Option.map (fun r : Int => ((.int .i64 r, []) : AV × List Blk)) (spec_l1Most L a b) := by
 intro a b
 unfold spec_l1Most
 conv => lhs; whnf
 refine t_cond ?_ ?_
 ·conv => lhs; whnf
  exact t_ret (by first | rfl | simp only [ml] <;> rfl)
 ·conv => lhs; whnf
  exact t_ret (by first | rfl | simp only [ml] <;> rfl)


noncomputable def spec_l1Abs (L : Nat) (a : Int) : Option (Int) := gbind (spec_l1Most L a (wr IntKind.i64 (isub 0 a))) fun r => some r


def spec_l1Abs_ok (L : Nat) (C : CF) : Prop := ∀ (a : Int), C 148 ([.int .i64 a]) ([]) = Option.map (fun r : Int => ((.int .i64 r, []) : AV × List Blk)) (spec_l1Abs L a)


theorem spec_l1Abs_run (L : Nat) (C : CF) (h_spec_l1Most : spec_l1Most_ok L C) : ∀ (a : Int), run T C sh (keep 148) L Try.f148 ([.int .i64 a]) ([]) = Option.map (fun r : Int => ((.int .i64 r, []) : AV × List Blk)) (spec_l1Abs L a) := by
 intro a
 unfold spec_l1Abs
 conv => lhs; whnf
 refine t_call (h_spec_l1Most a (wr IntKind.i64 (isub 0 a))) fun r => ?_
 conv => lhs; whnf
 exact t_ret (by first | rfl | simp only [ml] <;> rfl)


noncomputable def spec_pgCommon_l0 (L : Nat) : Nat → Int → Int → Option Int
  | 0, _, _ => none
  | m + 1, v0, v1 => bif ilt 0 v1 then (bif ieq v1 0 then (none) else (spec_pgCommon_l0 L m v1 (irem v0 v1))) else (some v0)


noncomputable def spec_pgCommon (L : Nat) (a : Int) (b : Int) : Option (Int) := gbind (spec_l1Abs L a) fun r => gbind (spec_l1Abs L b) fun r1 => spec_pgCommon_l0 L L r r1


def spec_pgCommon_ok (L : Nat) (C : CF) : Prop := ∀ (a : Int) (b : Int), C 195 ([.int .i64 a, .int .i64 b]) ([]) = Option.map (fun r : Int => ((.int .i64 r, []) : AV × List Blk)) (spec_pgCommon L a b)


theorem spec_pgCommon_run (L : Nat) (C : CF) (h_spec_l1Abs : spec_l1Abs_ok L C) : ∀ (a : Int) (b : Int), run T C sh (keep 195) L Try.f195 ([.int .i64 a, .int .i64 b]) ([]) = Option.map (fun r : Int => ((.int .i64 r, []) : AV × List Blk)) (spec_pgCommon L a b) := by
 intro a b
 unfold spec_pgCommon
 conv => lhs; whnf
 refine t_call (h_spec_l1Abs a) fun r => ?_
 conv => lhs; whnf
 refine t_call (h_spec_l1Abs b) fun r1 => ?_
 conv => lhs; whnf
 refine t_loop (fun (⟨v0, v1⟩ : Int × Int) => (AV.int IntKind.i64 v0 :: AV.int IntKind.i64 v1 :: tops 14, [])) (fun m (⟨v0, v1⟩ : Int × Int) => spec_pgCommon_l0 L m v0 v1) (fun _ => rfl) (fun m s rec hrec => ?_) L ((r, r1)) ?_ ?_
 rotate_left
 ·first | rfl | simp only [ml] <;> rfl
 ·first | rfl | simp only [ml] <;> rfl
 obtain ⟨v0, v1⟩ := s
 show _ = Option.map _ (spec_pgCommon_l0 L (m + 1) v0 v1)
 rw [spec_pgCommon_l0.eq_2]
 conv => lhs; whnf
 refine t_cond ?_ ?_
 ·conv => lhs; whnf
  refine t_cond ?_ ?_
  ·conv => lhs; whnf
   exact t_none
  ·conv => lhs; whnf
   exact hrec ((v1, irem v0 v1)) _ _ (by first | rfl | simp only [ml] <;> rfl) (by first | rfl | simp only [ml] <;> rfl)
 ·conv => lhs; whnf
  exact t_ret (by first | rfl | simp only [ml] <;> rfl)


noncomputable def spec_pgStep (L : Nat) (a_0 : Int) (a_1 : Int) (b_0 : Int) (b_1 : Int) : Option (Int) := gbind (spec_pgCommon L (wr IntKind.i64 (isub a_0 b_0)) (wr IntKind.i64 (isub a_1 b_1))) fun r => some r


def spec_pgStep_ok (L : Nat) (C : CF) : Prop := ∀ (a_0 : Int) (a_1 : Int) (b_0 : Int) (b_1 : Int), C 220 ([.agg [.int .i64 a_0, .int .i64 a_1], .agg [.int .i64 b_0, .int .i64 b_1]]) ([]) = Option.map (fun r : Int => ((.int .i64 r, []) : AV × List Blk)) (spec_pgStep L a_0 a_1 b_0 b_1)


theorem spec_pgStep_run (L : Nat) (C : CF) (h_spec_pgCommon : spec_pgCommon_ok L C) : ∀ (a_0 : Int) (a_1 : Int) (b_0 : Int) (b_1 : Int), run T C sh (keep 220) L Try.f220 ([.agg [.int .i64 a_0, .int .i64 a_1], .agg [.int .i64 b_0, .int .i64 b_1]]) ([]) = Option.map (fun r : Int => ((.int .i64 r, []) : AV × List Blk)) (spec_pgStep L a_0 a_1 b_0 b_1) := by
 intro a_0 a_1 b_0 b_1
 unfold spec_pgStep
 conv => lhs; whnf
 refine t_call (h_spec_pgCommon (wr IntKind.i64 (isub a_0 b_0)) (wr IntKind.i64 (isub a_1 b_1))) fun r => ?_
 conv => lhs; whnf
 exact t_ret (by first | rfl | simp only [ml] <;> rfl)


noncomputable def spec_pgRound_l0 (L : Nat) (a : List Pt) : Nat → Int → Int → Option Int
  | 0, _, _ => none
  | m + 1, v3, v8 => bif ilt v8 (ilen (List.map ep a)) then (gbind (lget a v8) fun p => bif ieq (ilen (List.map ep a)) 0 then (none) else (gbind (lget a (irem (wr IntKind.i64 (iadd v8 1)) (ilen (List.map ep a)))) fun p1 => gbind (spec_pgStep L (Pt.x p) (Pt.y p) (Pt.x p1) (Pt.y p1)) fun r => spec_pgRound_l0 L a m (wr IntKind.i64 (iadd v3 r)) (wr IntKind.i64 (iadd v8 1)))) else (some v3)


noncomputable def spec_pgRound (L : Nat) (a : List Pt) : Option (Int) := spec_pgRound_l0 L a L 0 0


def spec_pgRound_ok (L : Nat) (C : CF) : Prop := ∀ (oa : Bool) (ca : Bool) (x_a : List AV) (a : List Pt) (_ : x_a = List.map ep a), C 165 ([.lst oa ca 2 x_a]) ([]) = Option.map (fun r : Int => ((.int .i64 r, []) : AV × List Blk)) (spec_pgRound L a)


theorem spec_pgRound_run (L : Nat) (C : CF) (h_spec_pgStep : spec_pgStep_ok L C) : ∀ (oa : Bool) (ca : Bool) (x_a : List AV) (a : List Pt) (_ : x_a = List.map ep a), run T C sh (keep 165) L Try.f165 ([.lst oa ca 2 x_a]) ([]) = Option.map (fun r : Int => ((.int .i64 r, []) : AV × List Blk)) (spec_pgRound L a) := by
 intro oa ca x_a a hx_a
 subst hx_a
 unfold spec_pgRound
 conv => lhs; whnf
 refine t_loop (fun (⟨v3, v8⟩ : Int × Int) => (AV.lst oa ca 2 (List.map ep a) :: topA 2 (AV.int IntKind.i64 v3 :: topA 2 (AV.lst oa ca 2 (List.map ep a) :: AV.int IntKind.i64 (ilen (List.map ep a)) :: AV.int IntKind.i64 v8 :: tops 18)), [])) (fun m (⟨v3, v8⟩ : Int × Int) => spec_pgRound_l0 L a m v3 v8) (fun _ => rfl) (fun m s rec hrec => ?_) L ((0, 0)) ?_ ?_
 rotate_left
 ·first | rfl | simp only [ml] <;> rfl
 ·first | rfl | simp only [ml] <;> rfl
 obtain ⟨v3, v8⟩ := s
 show _ = Option.map _ (spec_pgRound_l0 L a (m + 1) v3 v8)
 rw [spec_pgRound_l0.eq_2]
 conv => lhs; whnf
 refine t_cond ?_ ?_
 ·conv => lhs; whnf
  refine t_get (en := ep) (l := a) (by first | rfl | simp only [ml] <;> rfl) fun p => ?_
  conv => lhs; whnf
  refine t_cond ?_ ?_
  ·conv => lhs; whnf
   exact t_none
  ·conv => lhs; whnf
   refine t_get (en := ep) (l := a) (by first | rfl | simp only [ml] <;> rfl) fun p1 => ?_
   conv => lhs; whnf
   refine t_call (h_spec_pgStep (Pt.x p) (Pt.y p) (Pt.x p1) (Pt.y p1)) fun r => ?_
   conv => lhs; whnf
   exact hrec ((wr IntKind.i64 (iadd v3 r), wr IntKind.i64 (iadd v8 1))) _ _ (by first | rfl | simp only [ml] <;> rfl) (by first | rfl | simp only [ml] <;> rfl)
 ·conv => lhs; whnf
  exact t_ret (by first | rfl | simp only [ml] <;> rfl)


noncomputable def spec_pgInside (L : Nat) (a : List Pt) : Option (Int) := gbind (spec_pgArea L a) fun r => gbind (spec_l1Abs L r) fun r1 => gbind (spec_pgRound L a) fun r2 => bif ieq 2 0 then (none) else (some (wr IntKind.i64 (iquo (wr IntKind.i64 (isub (wr IntKind.i64 (iadd r1 2)) r2)) 2)))


def spec_pgInside_ok (L : Nat) (C : CF) : Prop := ∀ (oa : Bool) (ca : Bool) (x_a : List AV) (a : List Pt) (_ : x_a = List.map ep a), C 150 ([.lst oa ca 2 x_a]) ([]) = Option.map (fun r : Int => ((.int .i64 r, []) : AV × List Blk)) (spec_pgInside L a)


theorem spec_pgInside_run (L : Nat) (C : CF) (h_spec_pgArea : spec_pgArea_ok L C) (h_spec_l1Abs : spec_l1Abs_ok L C) (h_spec_pgRound : spec_pgRound_ok L C) : ∀ (oa : Bool) (ca : Bool) (x_a : List AV) (a : List Pt) (_ : x_a = List.map ep a), run T C sh (keep 150) L Try.f150 ([.lst oa ca 2 x_a]) ([]) = Option.map (fun r : Int => ((.int .i64 r, []) : AV × List Blk)) (spec_pgInside L a) := by
 intro oa ca x_a a hx_a
 subst hx_a
 unfold spec_pgInside
 conv => lhs; whnf
 refine t_call (h_spec_pgArea _ _ _ a (by first | rfl | simp only [ml] <;> rfl)) fun r => ?_
 conv => lhs; whnf
 refine t_call (h_spec_l1Abs r) fun r1 => ?_
 conv => lhs; whnf
 refine t_call (h_spec_pgRound _ _ _ a (by first | rfl | simp only [ml] <;> rfl)) fun r2 => ?_
 conv => lhs; whnf
 refine t_cond ?_ ?_
 ·conv => lhs; whnf
  exact t_none
 ·conv => lhs; whnf
  exact t_ret (by first | rfl | simp only [ml] <;> rfl)


noncomputable def spec_pgBack_l0 (L : Nat) (a : List Pt) : Nat → Int → (List Pt) → Option ((List Pt))
  | 0, _, _ => none
  | m + 1, v4, w0 => bif ilt 0 v4 then (gbind (lget a v4) fun p1 => bif fits (iadd (ilen (List.map ep w0)) (ilen [AV.agg [AV.int IntKind.i64 (Pt.x p1), AV.int IntKind.i64 (Pt.y p1)]])) 16 then (spec_pgBack_l0 L a m (wr IntKind.i64 (isub v4 1)) (lcat w0 (p1 :: []))) else (none)) else (some w0)


noncomputable def spec_pgBack (L : Nat) (a : List Pt) : Option ((List Pt)) := gbind (lget a 0) fun p => spec_pgBack_l0 L a L (wr IntKind.i64 (isub (ilen (List.map ep a)) 1)) (p :: [])


def spec_pgBack_ok (L : Nat) (C : CF) : Prop := ∀ (oa : Bool) (ca : Bool) (x_a : List AV) (a : List Pt) (_ : x_a = List.map ep a), C 169 ([.lst oa ca 2 x_a]) ([]) = Option.map (fun r : (List Pt) => ((.frs 2 (List.map ep r), []) : AV × List Blk)) (spec_pgBack L a)


theorem spec_pgBack_run (L : Nat) (C : CF) : ∀ (oa : Bool) (ca : Bool) (x_a : List AV) (a : List Pt) (_ : x_a = List.map ep a), run T C sh (keep 169) L Try.f169 ([.lst oa ca 2 x_a]) ([]) = Option.map (fun r : (List Pt) => ((.frs 2 (List.map ep r), []) : AV × List Blk)) (spec_pgBack L a) := by
 intro oa ca x_a a hx_a
 subst hx_a
 unfold spec_pgBack
 conv => lhs; whnf
 refine t_get (en := ep) (l := a) (by first | rfl | simp only [ml] <;> rfl) fun p => ?_
 conv => lhs; whnf
 refine t_loop (fun (⟨v4, w0⟩ : Int × (List Pt)) => (AV.lst oa ca 2 (List.map ep a) :: topA 2 (AV.own 0 2 none false :: AV.int IntKind.i64 v4 :: tops 19), [Blk.rows Mode.live 2 (List.map ep w0)])) (fun m (⟨v4, w0⟩ : Int × (List Pt)) => spec_pgBack_l0 L a m v4 w0) (fun _ => rfl) (fun m s rec hrec => ?_) L ((wr IntKind.i64 (isub (ilen (List.map ep a)) 1), p :: [])) ?_ ?_
 rotate_left
 ·first | rfl | simp only [ml] <;> rfl
 ·first | rfl | simp only [ml] <;> rfl
 obtain ⟨v4, w0⟩ := s
 show _ = Option.map _ (spec_pgBack_l0 L a (m + 1) v4 w0)
 rw [spec_pgBack_l0.eq_2]
 conv => lhs; whnf
 refine t_cond ?_ ?_
 ·conv => lhs; whnf
  refine t_get (en := ep) (l := a) (by first | rfl | simp only [ml] <;> rfl) fun p1 => ?_
  conv => lhs; whnf
  refine t_cond ?_ ?_
  ·conv => lhs; whnf
   exact hrec ((wr IntKind.i64 (isub v4 1), lcat w0 (p1 :: []))) _ _ (by first | rfl | simp only [ml] <;> rfl) (by first | rfl | simp only [ml] <;> rfl)
  ·conv => lhs; whnf
   exact t_none
 ·conv => lhs; whnf
  exact t_ret (by first | rfl | simp only [ml] <;> rfl)


noncomputable def impl_within (L : Nat) (a : Int) (b : Int) (c : Int) : Option (Bool) := bif ile b a then (some (ile a c)) else (some false)


def impl_within_ok (L : Nat) (C : CF) : Prop := ∀ (a : Int) (b : Int) (c : Int), C 134 ([.int .i64 a, .int .i64 b, .int .i64 c]) ([]) = Option.map (fun r : Bool => ((.bool r, []) : AV × List Blk)) (impl_within L a b c)


theorem impl_within_run (L : Nat) (C : CF) : ∀ (a : Int) (b : Int) (c : Int), run T C sh (keep 134) L Try.f134 ([.int .i64 a, .int .i64 b, .int .i64 c]) ([]) = Option.map (fun r : Bool => ((.bool r, []) : AV × List Blk)) (impl_within L a b c) := by
 intro a b c
 unfold impl_within
 conv => lhs; whnf
 refine t_cond ?_ ?_
 ·conv => lhs; whnf
  exact t_ret (by first | rfl | simp only [ml] <;> rfl)
 ·conv => lhs; whnf
  exact t_ret (by first | rfl | simp only [ml] <;> rfl)


noncomputable def impl_IsPeg (L : Nat) (a_0 : Int) (a_1 : Int) : Option (Bool) := gbind (impl_within L a_0 (-40) 40) fun r => bif r then (gbind (impl_within L a_1 (-40) 40) fun r1 => some r1) else (some false)


def impl_IsPeg_ok (L : Nat) (C : CF) : Prop := ∀ (a_0 : Int) (a_1 : Int), C 128 ([.agg [.int .i64 a_0, .int .i64 a_1]]) ([]) = Option.map (fun r : Bool => ((.bool r, []) : AV × List Blk)) (impl_IsPeg L a_0 a_1)


theorem impl_IsPeg_run (L : Nat) (C : CF) (h_impl_within : impl_within_ok L C) : ∀ (a_0 : Int) (a_1 : Int), run T C sh (keep 128) L Try.f128 ([.agg [.int .i64 a_0, .int .i64 a_1]]) ([]) = Option.map (fun r : Bool => ((.bool r, []) : AV × List Blk)) (impl_IsPeg L a_0 a_1) := by
 intro a_0 a_1
 unfold impl_IsPeg
 conv => lhs; whnf
 refine t_call (h_impl_within a_0 (-40) 40) fun r => ?_
 conv => lhs; whnf
 refine t_cond ?_ ?_
 ·conv => lhs; whnf
  refine t_call (h_impl_within a_1 (-40) 40) fun r1 => ?_
  conv => lhs; whnf
  exact t_ret (by first | rfl | simp only [ml] <;> rfl)
 ·conv => lhs; whnf
  exact t_ret (by first | rfl | simp only [ml] <;> rfl)


noncomputable def impl_arePegs_1 (L : Nat) (a_0 : Int) (a_1 : Int) : Option (Bool) := gbind (impl_IsPeg L a_0 a_1) fun r => some (!r)


def impl_arePegs_1_ok (L : Nat) (C : CF) : Prop := ∀ (a_0 : Int) (a_1 : Int), C 238 ([.agg [.int .i64 a_0, .int .i64 a_1]]) ([]) = Option.map (fun r : Bool => ((.bool r, []) : AV × List Blk)) (impl_arePegs_1 L a_0 a_1)


theorem impl_arePegs_1_run (L : Nat) (C : CF) (h_impl_IsPeg : impl_IsPeg_ok L C) : ∀ (a_0 : Int) (a_1 : Int), run T C sh (keep 238) L Try.f238 ([.agg [.int .i64 a_0, .int .i64 a_1]]) ([]) = Option.map (fun r : Bool => ((.bool r, []) : AV × List Blk)) (impl_arePegs_1 L a_0 a_1) := by
 intro a_0 a_1
 unfold impl_arePegs_1
 conv => lhs; whnf
 refine t_call (h_impl_IsPeg a_0 a_1) fun r => ?_
 conv => lhs; whnf
 exact t_ret (by first | rfl | simp only [ml] <;> rfl)


noncomputable def slices_IndexFunc_impl_Peg_impl_Peg_arePegs_l0 (L : Nat) (a : List Pt) : Nat → Int → Option Int
  | 0, _ => none
  | m + 1, v8 => bif ilt v8 (ilen (List.map ep a)) then (gbind (lget a v8) fun p => gbind (impl_arePegs_1 L (Pt.x p) (Pt.y p)) fun r => bif r then (some v8) else (slices_IndexFunc_impl_Peg_impl_Peg_arePegs_l0 L a m (wr IntKind.i64 (iadd v8 1)))) else (some (-1))


noncomputable def slices_IndexFunc_impl_Peg_impl_Peg_arePegs (L : Nat) (a : List Pt) : Option (Int) := slices_IndexFunc_impl_Peg_impl_Peg_arePegs_l0 L a L 0


def slices_IndexFunc_impl_Peg_impl_Peg_arePegs_ok (L : Nat) (C : CF) : Prop := ∀ (o1 : Bool) (c1 : Bool) (x_a : List AV) (a : List Pt) (_ : x_a = List.map ep a), C 258 ([.lst o1 c1 2 x_a, .fn 238 [] []]) ([]) = Option.map (fun r : Int => ((.int .i64 r, []) : AV × List Blk)) (slices_IndexFunc_impl_Peg_impl_Peg_arePegs L a)


theorem slices_IndexFunc_impl_Peg_impl_Peg_arePegs_run (L : Nat) (C : CF) (h_impl_arePegs_1 : impl_arePegs_1_ok L C) : ∀ (o1 : Bool) (c1 : Bool) (x_a : List AV) (a : List Pt) (_ : x_a = List.map ep a), run T C sh (keep 258) L Try.f258 ([.lst o1 c1 2 x_a, .fn 238 [] []]) ([]) = Option.map (fun r : Int => ((.int .i64 r, []) : AV × List Blk)) (slices_IndexFunc_impl_Peg_impl_Peg_arePegs L a) := by
 intro o1 c1 x_a a hx_a
 subst hx_a
 unfold slices_IndexFunc_impl_Peg_impl_Peg_arePegs
 conv => lhs; whnf
 refine t_loop (fun (v8 : Int) => (AV.lst o1 c1 2 (List.map ep a) :: AV.fn 238 [] [] :: topA 5 (AV.int IntKind.i64 (ilen (List.map ep a)) :: AV.int IntKind.i64 v8 :: tops 10), [])) (fun m (v8 : Int) => slices_IndexFunc_impl_Peg_impl_Peg_arePegs_l0 L a m v8) (fun _ => rfl) (fun m v8 rec hrec => ?_) L 0 ?_ ?_
 rotate_left
 ·first | rfl | simp only [ml] <;> rfl
 ·first | rfl | simp only [ml] <;> rfl
 show _ = Option.map _ (slices_IndexFunc_impl_Peg_impl_Peg_arePegs_l0 L a (m + 1) v8)
 rw [slices_IndexFunc_impl_Peg_impl_Peg_arePegs_l0.eq_2]
 conv => lhs; whnf
 refine t_cond ?_ ?_
 ·conv => lhs; whnf
  refine t_get (en := ep) (l := a) (by first | rfl | simp only [ml] <;> rfl) fun p => ?_
  conv => lhs; whnf
  refine t_call (h_impl_arePegs_1 (Pt.x p) (Pt.y p)) fun r => ?_
  conv => lhs; whnf
  refine t_cond ?_ ?_
  ·conv => lhs; whnf
   exact t_ret (by first | rfl | simp only [ml] <;> rfl)
  ·conv => lhs; whnf
   exact hrec (wr IntKind.i64 (iadd v8 1)) _ _ (by first | rfl | simp only [ml] <;> rfl) (by first | rfl | simp only [ml] <;> rfl)
 ·conv => lhs; whnf
  exact t_ret (by first | rfl | simp only [ml] <;> rfl)


noncomputable def slices_ContainsFunc_impl_Peg_impl_Peg_arePegs (L : Nat) (a : List Pt) : Option (Bool) := gbind (slices_IndexFunc_impl_Peg_impl_Peg_arePegs L a) fun r => some (ile 0 r)


def slices_ContainsFunc_impl_Peg_impl_Peg_arePegs_ok (L : Nat) (C : CF) : Prop := ∀ (o1 : Bool) (c1 : Bool) (x_a : List AV) (a : List Pt) (_ : x_a = List.map ep a), C 237 ([.lst o1 c1 2 x_a, .fn 238 [] []]) ([]) = Option.map (fun r : Bool => ((.bool r, []) : AV × List Blk)) (slices_ContainsFunc_impl_Peg_impl_Peg_arePegs L a)


theorem slices_ContainsFunc_impl_Peg_impl_Peg_arePegs_run (L : Nat) (C : CF) (h_slices_IndexFunc_impl_Peg_impl_Peg_arePegs : slices_IndexFunc_impl_Peg_impl_Peg_arePegs_ok L C) : ∀ (o1 : Bool) (c1 : Bool) (x_a : List AV) (a : List Pt) (_ : x_a = List.map ep a), run T C sh (keep 237) L Try.f237 ([.lst o1 c1 2 x_a, .fn 238 [] []]) ([]) = Option.map (fun r : Bool => ((.bool r, []) : AV × List Blk)) (slices_ContainsFunc_impl_Peg_impl_Peg_arePegs L a) := by
 intro o1 c1 x_a a hx_a
 subst hx_a
 unfold slices_ContainsFunc_impl_Peg_impl_Peg_arePegs
 conv => lhs; whnf
 refine t_call (h_slices_IndexFunc_impl_Peg_impl_Peg_arePegs _ _ _ a (by first | rfl | simp only [ml] <;> rfl)) fun r => ?_
 conv => lhs; whnf
 exact t_ret (by first | rfl | simp only [ml] <;> rfl)


noncomputable def impl_arePegs (L : Nat) (a : List Pt) : Option (Bool) := gbind (slices_ContainsFunc_impl_Peg_impl_Peg_arePegs L a) fun r => some (!r)


def impl_arePegs_ok (L : Nat) (C : CF) : Prop := ∀ (oa : Bool) (ca : Bool) (x_a : List AV) (a : List Pt) (_ : x_a = List.map ep a), C 172 ([.lst oa ca 2 x_a]) ([]) = Option.map (fun r : Bool => ((.bool r, []) : AV × List Blk)) (impl_arePegs L a)


theorem impl_arePegs_run (L : Nat) (C : CF) (h_slices_ContainsFunc_impl_Peg_impl_Peg_arePegs : slices_ContainsFunc_impl_Peg_impl_Peg_arePegs_ok L C) : ∀ (oa : Bool) (ca : Bool) (x_a : List AV) (a : List Pt) (_ : x_a = List.map ep a), run T C sh (keep 172) L Try.f172 ([.lst oa ca 2 x_a]) ([]) = Option.map (fun r : Bool => ((.bool r, []) : AV × List Blk)) (impl_arePegs L a) := by
 intro oa ca x_a a hx_a
 subst hx_a
 unfold impl_arePegs
 conv => lhs; whnf
 refine t_call (h_slices_ContainsFunc_impl_Peg_impl_Peg_arePegs _ _ _ a (by first | rfl | simp only [ml] <;> rfl)) fun r => ?_
 conv => lhs; whnf
 exact t_ret (by first | rfl | simp only [ml] <;> rfl)


noncomputable def slices_Index_impl_Peg_impl_Peg_l0 (L : Nat) (a : List Pt) (b_0 : Int) (b_1 : Int) : Nat → Int → Option Int
  | 0, _ => none
  | m + 1, v8 => bif ilt v8 (ilen (List.map ep a)) then (gbind (lget a v8) fun p => bif ieq b_0 (Pt.x p) && ieq b_1 (Pt.y p) then (some v8) else (slices_Index_impl_Peg_impl_Peg_l0 L a b_0 b_1 m (wr IntKind.i64 (iadd v8 1)))) else (some (-1))


noncomputable def slices_Index_impl_Peg_impl_Peg (L : Nat) (a : List Pt) (b_0 : Int) (b_1 : Int) : Option (Int) := slices_Index_impl_Peg_impl_Peg_l0 L a b_0 b_1 L 0


def slices_Index_impl_Peg_impl_Peg_ok (L : Nat) (C : CF) : Prop := ∀ (oa : Bool) (ca : Bool) (x_a : List AV) (a : List Pt) (_ : x_a = List.map ep a) (b_0 : Int) (b_1 : Int), C 239 ([.lst oa ca 2 x_a, .agg [.int .i64 b_0, .int .i64 b_1]]) ([]) = Option.map (fun r : Int => ((.int .i64 r, []) : AV × List Blk)) (slices_Index_impl_Peg_impl_Peg L a b_0 b_1)


theorem slices_Index_impl_Peg_impl_Peg_run (L : Nat) (C : CF) : ∀ (oa : Bool) (ca : Bool) (x_a : List AV) (a : List Pt) (_ : x_a = List.map ep a) (b_0 : Int) (b_1 : Int), run T C sh (keep 239) L Try.f239 ([.lst oa ca 2 x_a, .agg [.int .i64 b_0, .int .i64 b_1]]) ([]) = Option.map (fun r : Int => ((.int .i64 r, []) : AV × List Blk)) (slices_Index_impl_Peg_impl_Peg L a b_0 b_1) := by
 intro oa ca x_a a hx_a b_0 b_1
 subst hx_a
 unfold slices_Index_impl_Peg_impl_Peg
 conv => lhs; whnf
 refine t_loop (fun (v8 : Int) => (AV.lst oa ca 2 (List.map ep a) :: topA 2 (AV.ptr 0 0 0 2 :: topA 3 (AV.int IntKind.i64 (ilen (List.map ep a)) :: AV.int IntKind.i64 v8 :: tops 10)), [Blk.box (AV.agg [AV.int IntKind.i64 b_0, AV.int IntKind.i64 b_1])])) (fun m (v8 : Int) => slices_Index_impl_Peg_impl_Peg_l0 L a b_0 b_1 m v8) (fun _ => rfl) (fun m v8 rec hrec => ?_) L 0 ?_ ?_
 rotate_left
 ·first | rfl | simp only [ml] <;> rfl
 ·first | rfl | simp only [ml] <;> rfl
 show _ = Option.map _ (slices_Index_impl_Peg_impl_Peg_l0 L a b_0 b_1 (m + 1) v8)
 rw [slices_Index_impl_Peg_impl_Peg_l0.eq_2]
 conv => lhs; whnf
 refine t_cond ?_ ?_
 ·conv => lhs; whnf
  refine t_get (en := ep) (l := a) (by first | rfl | simp only [ml] <;> rfl) fun p => ?_
  conv => lhs; whnf
  refine t_cond ?_ ?_
  ·conv => lhs; whnf
   exact t_ret (by first | rfl | simp only [ml] <;> rfl)
  ·conv => lhs; whnf
   exact hrec (wr IntKind.i64 (iadd v8 1)) _ _ (by first | rfl | simp only [ml] <;> rfl) (by first | rfl | simp only [ml] <;> rfl)
 ·conv => lhs; whnf
  exact t_ret (by first | rfl | simp only [ml] <;> rfl)


noncomputable def slices_Contains_impl_Peg_impl_Peg (L : Nat) (a : List Pt) (b_0 : Int) (b_1 : Int) : Option (Bool) := gbind (slices_Index_impl_Peg_impl_Peg L a b_0 b_1) fun r => some (ile 0 r)


def slices_Contains_impl_Peg_impl_Peg_ok (L : Nat) (C : CF) : Prop := ∀ (oa : Bool) (ca : Bool) (x_a : List AV) (a : List Pt) (_ : x_a = List.map ep a) (b_0 : Int) (b_1 : Int), C 173 ([.lst oa ca 2 x_a, .agg [.int .i64 b_0, .int .i64 b_1]]) ([]) = Option.map (fun r : Bool => ((.bool r, []) : AV × List Blk)) (slices_Contains_impl_Peg_impl_Peg L a b_0 b_1)


theorem slices_Contains_impl_Peg_impl_Peg_run (L : Nat) (C : CF) (h_slices_Index_impl_Peg_impl_Peg : slices_Index_impl_Peg_impl_Peg_ok L C) : ∀ (oa : Bool) (ca : Bool) (x_a : List AV) (a : List Pt) (_ : x_a = List.map ep a) (b_0 : Int) (b_1 : Int), run T C sh (keep 173) L Try.f173 ([.lst oa ca 2 x_a, .agg [.int .i64 b_0, .int .i64 b_1]]) ([]) = Option.map (fun r : Bool => ((.bool r, []) : AV × List Blk)) (slices_Contains_impl_Peg_impl_Peg L a b_0 b_1) := by
 intro oa ca x_a a hx_a b_0 b_1
 subst hx_a
 unfold slices_Contains_impl_Peg_impl_Peg
 conv => lhs; whnf
 refine t_call (h_slices_Index_impl_Peg_impl_Peg _ _ _ a (by first | rfl | simp only [ml] <;> rfl) b_0 b_1) fun r => ?_
 conv => lhs; whnf
 exact t_ret (by first | rfl | simp only [ml] <;> rfl)


noncomputable def impl_at (L : Nat) (a : List Pt) (b : Int) : Option (Int × Int) := bif ieq (ilen (List.map ep a)) 0 then (none) else (bif ieq (ilen (List.map ep a)) 0 then (none) else (gbind (lget a (irem (wr IntKind.i64 (iadd (irem b (ilen (List.map ep a))) (ilen (List.map ep a)))) (ilen (List.map ep a)))) fun p => some ((Pt.x p, Pt.y p))))


def impl_at_ok (L : Nat) (C : CF) : Prop := ∀ (oa : Bool) (ca : Bool) (x_a : List AV) (a : List Pt) (_ : x_a = List.map ep a) (b : Int), C 175 ([.lst oa ca 2 x_a, .int .i64 b]) ([]) = Option.map (fun r : Int × Int => ((.agg [.int .i64 (r.1), .int .i64 (r.2)], []) : AV × List Blk)) (impl_at L a b)


theorem impl_at_run (L : Nat) (C : CF) : ∀ (oa : Bool) (ca : Bool) (x_a : List AV) (a : List Pt) (_ : x_a = List.map ep a) (b : Int), run T C sh (keep 175) L Try.f175 ([.lst oa ca 2 x_a, .int .i64 b]) ([]) = Option.map (fun r : Int × Int => ((.agg [.int .i64 (r.1), .int .i64 (r.2)], []) : AV × List Blk)) (impl_at L a b) := by
 intro oa ca x_a a hx_a b
 subst hx_a
 unfold impl_at
 conv => lhs; whnf
 refine t_cond ?_ ?_
 ·conv => lhs; whnf
  exact t_none
 ·conv => lhs; whnf
  refine t_cond ?_ ?_
  ·conv => lhs; whnf
   exact t_none
  ·conv => lhs; whnf
   refine t_get (en := ep) (l := a) (by first | rfl | simp only [ml] <;> rfl) fun p => ?_
   conv => lhs; whnf
   exact t_ret (by first | rfl | simp only [ml] <;> rfl)


noncomputable def impl_Peg_less (L : Nat) (a_0 : Int) (a_1 : Int) (b_0 : Int) (b_1 : Int) : Option (Int × Int) := some ((wr IntKind.i64 (isub a_0 b_0), wr IntKind.i64 (isub a_1 b_1)))


def impl_Peg_less_ok (L : Nat) (C : CF) : Prop := ∀ (a_0 : Int) (a_1 : Int) (b_0 : Int) (b_1 : Int), C 199 ([.agg [.int .i64 a_0, .int .i64 a_1], .agg [.int .i64 b_0, .int .i64 b_1]]) ([]) = Option.map (fun r : Int × Int => ((.agg [.int .i64 (r.1), .int .i64 (r.2)], []) : AV × List Blk)) (impl_Peg_less L a_0 a_1 b_0 b_1)


theorem impl_Peg_less_run (L : Nat) (C : CF) : ∀ (a_0 : Int) (a_1 : Int) (b_0 : Int) (b_1 : Int), run T C sh (keep 199) L Try.f199 ([.agg [.int .i64 a_0, .int .i64 a_1], .agg [.int .i64 b_0, .int .i64 b_1]]) ([]) = Option.map (fun r : Int × Int => ((.agg [.int .i64 (r.1), .int .i64 (r.2)], []) : AV × List Blk)) (impl_Peg_less L a_0 a_1 b_0 b_1) := by
 intro a_0 a_1 b_0 b_1
 unfold impl_Peg_less
 conv => lhs; whnf
 exact t_ret (by first | rfl | simp only [ml] <;> rfl)


noncomputable def impl_cross (L : Nat) (a_0 : Int) (a_1 : Int) (b_0 : Int) (b_1 : Int) : Option (Int) := some (wr IntKind.i64 (isub (wr IntKind.i64 (imul a_0 b_1)) (wr IntKind.i64 (imul a_1 b_0))))


def impl_cross_ok (L : Nat) (C : CF) : Prop := ∀ (a_0 : Int) (a_1 : Int) (b_0 : Int) (b_1 : Int), C 202 ([.agg [.int .i64 a_0, .int .i64 a_1], .agg [.int .i64 b_0, .int .i64 b_1]]) ([]) = Option.map (fun r : Int => ((.int .i64 r, []) : AV × List Blk)) (impl_cross L a_0 a_1 b_0 b_1)


theorem impl_cross_run (L : Nat) (C : CF) : ∀ (a_0 : Int) (a_1 : Int) (b_0 : Int) (b_1 : Int), run T C sh (keep 202) L Try.f202 ([.agg [.int .i64 a_0, .int .i64 a_1], .agg [.int .i64 b_0, .int .i64 b_1]]) ([]) = Option.map (fun r : Int => ((.int .i64 r, []) : AV × List Blk)) (impl_cross L a_0 a_1 b_0 b_1) := by
 intro a_0 a_1 b_0 b_1
 unfold impl_cross
 conv => lhs; whnf
 exact t_ret (by first | rfl | simp only [ml] <;> rfl)


noncomputable def impl_turn (L : Nat) (a_0 : Int) (a_1 : Int) (b_0 : Int) (b_1 : Int) (c_0 : Int) (c_1 : Int) : Option (Int) := gbind (impl_Peg_less L b_0 b_1 a_0 a_1) fun r => gbind (impl_Peg_less L c_0 c_1 a_0 a_1) fun r1 => gbind (impl_cross L (Prod.fst r) (Prod.snd r) (Prod.fst r1) (Prod.snd r1)) fun r2 => some r2


def impl_turn_ok (L : Nat) (C : CF) : Prop := ∀ (a_0 : Int) (a_1 : Int) (b_0 : Int) (b_1 : Int) (c_0 : Int) (c_1 : Int), C 174 ([.agg [.int .i64 a_0, .int .i64 a_1], .agg [.int .i64 b_0, .int .i64 b_1], .agg [.int .i64 c_0, .int .i64 c_1]]) ([]) = Option.map (fun r : Int => ((.int .i64 r, []) : AV × List Blk)) (impl_turn L a_0 a_1 b_0 b_1 c_0 c_1)


theorem impl_turn_run (L : Nat) (C : CF) (h_impl_Peg_less : impl_Peg_less_ok L C) (h_impl_cross : impl_cross_ok L C) : ∀ (a_0 : Int) (a_1 : Int) (b_0 : Int) (b_1 : Int) (c_0 : Int) (c_1 : Int), run T C sh (keep 174) L Try.f174 ([.agg [.int .i64 a_0, .int .i64 a_1], .agg [.int .i64 b_0, .int .i64 b_1], .agg [.int .i64 c_0, .int .i64 c_1]]) ([]) = Option.map (fun r : Int => ((.int .i64 r, []) : AV × List Blk)) (impl_turn L a_0 a_1 b_0 b_1 c_0 c_1) := by
 intro a_0 a_1 b_0 b_1 c_0 c_1
 unfold impl_turn
 conv => lhs; whnf
 refine t_call (h_impl_Peg_less b_0 b_1 a_0 a_1) fun r => ?_
 conv => lhs; whnf
 refine t_call (h_impl_Peg_less c_0 c_1 a_0 a_1) fun r1 => ?_
 conv => lhs; whnf
 refine t_call (h_impl_cross (Prod.fst r) (Prod.snd r) (Prod.fst r1) (Prod.snd r1)) fun r2 => ?_
 conv => lhs; whnf
 exact t_ret (by first | rfl | simp only [ml] <;> rfl)


noncomputable def impl_sign (L : Nat) (a : Int) : Option (Int) := some (imin 1 (imax (-1) a))


def impl_sign_ok (L : Nat) (C : CF) : Prop := ∀ (a : Int), C 196 ([.int .i64 a]) ([]) = Option.map (fun r : Int => ((.int .i64 r, []) : AV × List Blk)) (impl_sign L a)


theorem impl_sign_run (L : Nat) (C : CF) : ∀ (a : Int), run T C sh (keep 196) L Try.f196 ([.int .i64 a]) ([]) = Option.map (fun r : Int => ((.int .i64 r, []) : AV × List Blk)) (impl_sign L a) := by
 intro a
 unfold impl_sign
 conv => lhs; whnf
 exact t_ret (by first | rfl | simp only [ml] <;> rfl)


noncomputable def impl_isOn (L : Nat) (a_0 : Int) (a_1 : Int) (b_0 : Int) (b_1 : Int) (c_0 : Int) (c_1 : Int) : Option (Bool) := gbind (impl_turn L a_0 a_1 b_0 b_1 c_0 c_1) fun r => bif ieq r 0 then (gbind (impl_within L c_0 (imin a_0 b_0) (imax a_0 b_0)) fun r1 => bif r1 then (gbind (impl_within L c_1 (imin a_1 b_1) (imax a_1 b_1)) fun r2 => some r2) else (some false)) else (some false)


def impl_isOn_ok (L : Nat) (C : CF) : Prop := ∀ (a_0 : Int) (a_1 : Int) (b_0 : Int) (b_1 : Int) (c_0 : Int) (c_1 : Int), C 179 ([.agg [.int .i64 a_0, .int .i64 a_1], .agg [.int .i64 b_0, .int .i64 b_1], .agg [.int .i64 c_0, .int .i64 c_1]]) ([]) = Option.map (fun r : Bool => ((.bool r, []) : AV × List Blk)) (impl_isOn L a_0 a_1 b_0 b_1 c_0 c_1)


theorem impl_isOn_run (L : Nat) (C : CF) (h_impl_within : impl_within_ok L C) (h_impl_turn : impl_turn_ok L C) : ∀ (a_0 : Int) (a_1 : Int) (b_0 : Int) (b_1 : Int) (c_0 : Int) (c_1 : Int), run T C sh (keep 179) L Try.f179 ([.agg [.int .i64 a_0, .int .i64 a_1], .agg [.int .i64 b_0, .int .i64 b_1], .agg [.int .i64 c_0, .int .i64 c_1]]) ([]) = Option.map (fun r : Bool => ((.bool r, []) : AV × List Blk)) (impl_isOn L a_0 a_1 b_0 b_1 c_0 c_1) := by
 intro a_0 a_1 b_0 b_1 c_0 c_1
 unfold impl_isOn
 conv => lhs; whnf
 refine t_call (h_impl_turn a_0 a_1 b_0 b_1 c_0 c_1) fun r => ?_
 conv => lhs; whnf
 refine t_cond ?_ ?_
 ·conv => lhs; whnf
  refine t_call (h_impl_within c_0 (imin a_0 b_0) (imax a_0 b_0)) fun r1 => ?_
  conv => lhs; whnf
  refine t_cond ?_ ?_
  ·conv => lhs; whnf
   refine t_call (h_impl_within c_1 (imin a_1 b_1) (imax a_1 b_1)) fun r2 => ?_
   conv => lhs; whnf
   exact t_ret (by first | rfl | simp only [ml] <;> rfl)
  ·conv => lhs; whnf
   exact t_ret (by first | rfl | simp only [ml] <;> rfl)
 ·conv => lhs; whnf
  exact t_ret (by first | rfl | simp only [ml] <;> rfl)


noncomputable def impl_meet (L : Nat) (a_0 : Int) (a_1 : Int) (b_0 : Int) (b_1 : Int) (c_0 : Int) (c_1 : Int) (d_0 : Int) (d_1 : Int) : Option (Bool) := gbind (impl_turn L a_0 a_1 b_0 b_1 c_0 c_1) fun r => gbind (impl_sign L r) fun r1 => gbind (impl_turn L a_0 a_1 b_0 b_1 d_0 d_1) fun r2 => gbind (impl_sign L r2) fun r3 => bif ilt (wr IntKind.i64 (imul r1 r3)) 0 then (gbind (impl_turn L c_0 c_1 d_0 d_1 a_0 a_1) fun r4 => gbind (impl_sign L r4) fun r5 => gbind (impl_turn L c_0 c_1 d_0 d_1 b_0 b_1) fun r6 => gbind (impl_sign L r6) fun r7 => bif ilt (wr IntKind.i64 (imul r5 r7)) 0 then (some true) else (gbind (impl_isOn L a_0 a_1 b_0 b_1 c_0 c_1) fun r8 => bif r8 then (some true) else (gbind (impl_isOn L a_0 a_1 b_0 b_1 d_0 d_1) fun r9 => bif r9 then (some true) else (gbind (impl_isOn L c_0 c_1 d_0 d_1 a_0 a_1) fun r10 => bif r10 then (some true) else (gbind (impl_isOn L c_0 c_1 d_0 d_1 b_0 b_1) fun r11 => some r11))))) else (gbind (impl_isOn L a_0 a_1 b_0 b_1 c_0 c_1) fun r12 => bif r12 then (some true) else (gbind (impl_isOn L a_0 a_1 b_0 b_1 d_0 d_1) fun r13 => bif r13 then (some true) else (gbind (impl_isOn L c_0 c_1 d_0 d_1 a_0 a_1) fun r14 => bif r14 then (some true) else (gbind (impl_isOn L c_0 c_1 d_0 d_1 b_0 b_1) fun r15 => some r15))))


def impl_meet_ok (L : Nat) (C : CF) : Prop := ∀ (a_0 : Int) (a_1 : Int) (b_0 : Int) (b_1 : Int) (c_0 : Int) (c_1 : Int) (d_0 : Int) (d_1 : Int), C 176 ([.agg [.int .i64 a_0, .int .i64 a_1], .agg [.int .i64 b_0, .int .i64 b_1], .agg [.int .i64 c_0, .int .i64 c_1], .agg [.int .i64 d_0, .int .i64 d_1]]) ([]) = Option.map (fun r : Bool => ((.bool r, []) : AV × List Blk)) (impl_meet L a_0 a_1 b_0 b_1 c_0 c_1 d_0 d_1)


theorem impl_meet_run (L : Nat) (C : CF) (h_impl_turn : impl_turn_ok L C) (h_impl_sign : impl_sign_ok L C) (h_impl_isOn : impl_isOn_ok L C) : ∀ (a_0 : Int) (a_1 : Int) (b_0 : Int) (b_1 : Int) (c_0 : Int) (c_1 : Int) (d_0 : Int) (d_1 : Int), run T C sh (keep 176) L Try.f176 ([.agg [.int .i64 a_0, .int .i64 a_1], .agg [.int .i64 b_0, .int .i64 b_1], .agg [.int .i64 c_0, .int .i64 c_1], .agg [.int .i64 d_0, .int .i64 d_1]]) ([]) = Option.map (fun r : Bool => ((.bool r, []) : AV × List Blk)) (impl_meet L a_0 a_1 b_0 b_1 c_0 c_1 d_0 d_1) := by
 intro a_0 a_1 b_0 b_1 c_0 c_1 d_0 d_1
 unfold impl_meet
 conv => lhs; whnf
 refine t_call (h_impl_turn a_0 a_1 b_0 b_1 c_0 c_1) fun r => ?_
 conv => lhs; whnf
 refine t_call (h_impl_sign r) fun r1 => ?_
 conv => lhs; whnf
 refine t_call (h_impl_turn a_0 a_1 b_0 b_1 d_0 d_1) fun r2 => ?_
 conv => lhs; whnf
 refine t_call (h_impl_sign r2) fun r3 => ?_
 conv => lhs; whnf
 refine t_cond ?_ ?_
 ·conv => lhs; whnf
  refine t_call (h_impl_turn c_0 c_1 d_0 d_1 a_0 a_1) fun r4 => ?_
  conv => lhs; whnf
  refine t_call (h_impl_sign r4) fun r5 => ?_
  conv => lhs; whnf
  refine t_call (h_impl_turn c_0 c_1 d_0 d_1 b_0 b_1) fun r6 => ?_
  conv => lhs; whnf
  refine t_call (h_impl_sign r6) fun r7 => ?_
  conv => lhs; whnf
  refine t_cond ?_ ?_
  ·conv => lhs; whnf
   exact t_ret (by first | rfl | simp only [ml] <;> rfl)
  ·conv => lhs; whnf
   refine t_call (h_impl_isOn a_0 a_1 b_0 b_1 c_0 c_1) fun r8 => ?_
   conv => lhs; whnf
   refine t_cond ?_ ?_
   ·conv => lhs; whnf
    exact t_ret (by first | rfl | simp only [ml] <;> rfl)
   ·conv => lhs; whnf
    refine t_call (h_impl_isOn a_0 a_1 b_0 b_1 d_0 d_1) fun r9 => ?_
    conv => lhs; whnf
    refine t_cond ?_ ?_
    ·conv => lhs; whnf
     exact t_ret (by first | rfl | simp only [ml] <;> rfl)
    ·conv => lhs; whnf
     refine t_call (h_impl_isOn c_0 c_1 d_0 d_1 a_0 a_1) fun r10 => ?_
     conv => lhs; whnf
     refine t_cond ?_ ?_
     ·conv => lhs; whnf
      exact t_ret (by first | rfl | simp only [ml] <;> rfl)
     ·conv => lhs; whnf
      refine t_call (h_impl_isOn c_0 c_1 d_0 d_1 b_0 b_1) fun r11 => ?_
      conv => lhs; whnf
      exact t_ret (by first | rfl | simp only [ml] <;> rfl)
 ·conv => lhs; whnf
  refine t_call (h_impl_isOn a_0 a_1 b_0 b_1 c_0 c_1) fun r12 => ?_
  conv => lhs; whnf
  refine t_cond ?_ ?_
  ·conv => lhs; whnf
   exact t_ret (by first | rfl | simp only [ml] <;> rfl)
  ·conv => lhs; whnf
   refine t_call (h_impl_isOn a_0 a_1 b_0 b_1 d_0 d_1) fun r13 => ?_
   conv => lhs; whnf
   refine t_cond ?_ ?_
   ·conv => lhs; whnf
    exact t_ret (by first | rfl | simp only [ml] <;> rfl)
   ·conv => lhs; whnf
    refine t_call (h_impl_isOn c_0 c_1 d_0 d_1 a_0 a_1) fun r14 => ?_
    conv => lhs; whnf
    refine t_cond ?_ ?_
    ·conv => lhs; whnf
     exact t_ret (by first | rfl | simp only [ml] <;> rfl)
    ·conv => lhs; whnf
     refine t_call (h_impl_isOn c_0 c_1 d_0 d_1 b_0 b_1) fun r15 => ?_
     conv => lhs; whnf
     exact t_ret (by first | rfl | simp only [ml] <;> rfl)


noncomputable def impl_IsPolygon_l1 (L : Nat) (κ0 : (List Pt) → Int → (List Pt) → Int → Int → Option Bool) (v0 : List Pt) (v3 : Int) (v17 : List Pt) (v18 : Int) (v19 : Int) (p : Pt) : Nat → Int → Option Bool
  | 0, _ => none
  | m1 + 1, v43 => bif ilt v43 v19 then (bif ieq (wr IntKind.i64 (iadd v43 1)) v19 then (impl_IsPolygon_l1 L κ0 v0 v3 v17 v18 v19 p m1 (wr IntKind.i64 (iadd v43 1))) else (bif ieq (wr IntKind.i64 (iadd v19 1)) v3 then (bif ieq v43 0 then (impl_IsPolygon_l1 L κ0 v0 v3 v17 v18 v19 p m1 (wr IntKind.i64 (iadd v43 1))) else (gbind (lget v0 v43) fun p1 => gbind (lget v0 (wr IntKind.i64 (iadd v43 1))) fun p2 => gbind (impl_at L v0 (wr IntKind.i64 (iadd v19 1))) fun r6 => gbind (impl_meet L (Pt.x p1) (Pt.y p1) (Pt.x p2) (Pt.y p2) (Pt.x p) (Pt.y p) (Prod.fst r6) (Prod.snd r6)) fun r7 => bif r7 then (some false) else (impl_IsPolygon_l1 L κ0 v0 v3 v17 v18 v19 p m1 (wr IntKind.i64 (iadd v43 1))))) else (gbind (lget v0 v43) fun p3 => gbind (lget v0 (wr IntKind.i64 (iadd v43 1))) fun p4 => gbind (impl_at L v0 (wr IntKind.i64 (iadd v19 1))) fun r8 => gbind (impl_meet L (Pt.x p3) (Pt.y p3) (Pt.x p4) (Pt.y p4) (Pt.x p) (Pt.y p) (Prod.fst r8) (Prod.snd r8)) fun r9 => bif r9 then (some false) else (impl_IsPolygon_l1 L κ0 v0 v3 v17 v18 v19 p m1 (wr IntKind.i64 (iadd v43 1)))))) else (κ0 v0 v3 v17 v18 (wr IntKind.i64 (iadd v19 1)))


noncomputable def impl_IsPolygon_l0 (L : Nat) : Nat → (List Pt) → Int → (List Pt) → Int → Int → Option Bool
  | 0, _, _, _, _, _ => none
  | m + 1, v0, v3, v17, v18, v19 => bif ilt v19 v18 then (gbind (lget v17 v19) fun p => bif ile 0 v19 && ile v19 (ilen (List.map ep v0)) then (gbind (slices_Contains_impl_Peg_impl_Peg L (lsub v0 0 v19) (Pt.x p) (Pt.y p)) fun r2 => bif r2 then (some false) else (gbind (impl_at L v0 (wr IntKind.i64 (isub v19 1))) fun r3 => gbind (impl_at L v0 (wr IntKind.i64 (iadd v19 1))) fun r4 => gbind (impl_turn L (Prod.fst r3) (Prod.snd r3) (Pt.x p) (Pt.y p) (Prod.fst r4) (Prod.snd r4)) fun r5 => bif ieq r5 0 then (some false) else (impl_IsPolygon_l1 L (impl_IsPolygon_l0 L m) v0 v3 v17 v18 v19 p L 0))) else (none)) else (some true)


noncomputable def impl_IsPolygon (L : Nat) (a : List Pt) : Option (Bool) := gbind (impl_within L (ilen (List.map ep a)) 3 10) fun r => bif !r then (some false) else (gbind (impl_arePegs L a) fun r1 => bif !r1 then (some false) else (impl_IsPolygon_l0 L L a (ilen (List.map ep a)) a (ilen (List.map ep a)) 0))


def impl_IsPolygon_ok (L : Nat) (C : CF) : Prop := ∀ (oa : Bool) (ca : Bool) (x_a : List AV) (a : List Pt) (_ : x_a = List.map ep a), C 56 ([.lst oa ca 2 x_a]) ([]) = Option.map (fun r : Bool => ((.bool r, []) : AV × List Blk)) (impl_IsPolygon L a)


theorem impl_IsPolygon_run (L : Nat) (C : CF) (h_impl_within : impl_within_ok L C) (h_impl_arePegs : impl_arePegs_ok L C) (h_slices_Contains_impl_Peg_impl_Peg : slices_Contains_impl_Peg_impl_Peg_ok L C) (h_impl_at : impl_at_ok L C) (h_impl_turn : impl_turn_ok L C) (h_impl_meet : impl_meet_ok L C) : ∀ (oa : Bool) (ca : Bool) (x_a : List AV) (a : List Pt) (_ : x_a = List.map ep a), run T C sh (keep 56) L Try.f56 ([.lst oa ca 2 x_a]) ([]) = Option.map (fun r : Bool => ((.bool r, []) : AV × List Blk)) (impl_IsPolygon L a) := by
 intro oa ca x_a a hx_a
 subst hx_a
 unfold impl_IsPolygon
 conv => lhs; whnf
 refine t_call (h_impl_within (ilen (List.map ep a)) 3 10) fun r => ?_
 conv => lhs; whnf
 refine t_cond ?_ ?_
 ·conv => lhs; whnf
  exact t_ret (by first | rfl | simp only [ml] <;> rfl)
 ·conv => lhs; whnf
  refine t_call (h_impl_arePegs _ _ _ a (by first | rfl | simp only [ml] <;> rfl)) fun r1 => ?_
  conv => lhs; whnf
  refine t_cond ?_ ?_
  ·conv => lhs; whnf
   exact t_ret (by first | rfl | simp only [ml] <;> rfl)
  ·conv => lhs; whnf
   refine t_loop (fun (⟨v0, v3, v17, v18, v19⟩ : (List Pt) × Int × (List Pt) × Int × Int) => (AV.lst oa ca 2 (List.map ep v0) :: topA 2 (AV.int IntKind.i64 v3 :: topA 13 (AV.lst oa ca 2 (List.map ep v17) :: AV.int IntKind.i64 v18 :: AV.int IntKind.i64 v19 :: tops 57)), [])) (fun m (⟨v0, v3, v17, v18, v19⟩ : (List Pt) × Int × (List Pt) × Int × Int) => impl_IsPolygon_l0 L m v0 v3 v17 v18 v19) (fun _ => rfl) (fun m s rec hrec => ?_) L ((a, ilen (List.map ep a), a, ilen (List.map ep a), 0)) ?_ ?_
   rotate_left
   ·first | rfl | simp only [ml] <;> rfl
   ·first | rfl | simp only [ml] <;> rfl
   obtain ⟨v0, v3, v17, v18, v19⟩ := s
   show _ = Option.map _ (impl_IsPolygon_l0 L (m + 1) v0 v3 v17 v18 v19)
   rw [impl_IsPolygon_l0.eq_2]
   conv => lhs; whnf
   refine t_cond ?_ ?_
   ·conv => lhs; whnf
    refine t_get (en := ep) (l := v17) (by first | rfl | simp only [ml] <;> rfl) fun p => ?_
    conv => lhs; whnf
    refine t_cond ?_ ?_
    ·conv => lhs; whnf
     refine t_call (h_slices_Contains_impl_Peg_impl_Peg _ _ _ (lsub v0 0 v19) (by first | rfl | simp only [ml] <;> rfl) (Pt.x p) (Pt.y p)) fun r2 => ?_
     conv => lhs; whnf
     refine t_cond ?_ ?_
     ·conv => lhs; whnf
      exact t_ret (by first | rfl | simp only [ml] <;> rfl)
     ·conv => lhs; whnf
      refine t_call (h_impl_at _ _ _ v0 (by first | rfl | simp only [ml] <;> rfl) (wr IntKind.i64 (isub v19 1))) fun r3 => ?_
      conv => lhs; whnf
      refine t_call (h_impl_at _ _ _ v0 (by first | rfl | simp only [ml] <;> rfl) (wr IntKind.i64 (iadd v19 1))) fun r4 => ?_
      conv => lhs; whnf
      refine t_call (h_impl_turn (Prod.fst r3) (Prod.snd r3) (Pt.x p) (Pt.y p) (Prod.fst r4) (Prod.snd r4)) fun r5 => ?_
      conv => lhs; whnf
      refine t_cond ?_ ?_
      ·conv => lhs; whnf
       exact t_ret (by first | rfl | simp only [ml] <;> rfl)
      ·conv => lhs; whnf
       refine t_loop (fun (v43 : Int) => (AV.lst oa ca 2 (List.map ep v0) :: topA 2 (AV.int IntKind.i64 v3 :: AV.int IntKind.i64 v19 :: AV.ptr 0 0 0 2 :: topA 11 (AV.lst oa ca 2 (List.map ep v17) :: AV.int IntKind.i64 v18 :: AV.int IntKind.i64 v19 :: topA 22 (AV.int IntKind.i64 v19 :: AV.int IntKind.i64 v43 :: tops 33))), [Blk.box (AV.agg [AV.int IntKind.i64 (Pt.x p), AV.int IntKind.i64 (Pt.y p)])])) (fun m1 (v43 : Int) => impl_IsPolygon_l1 L (impl_IsPolygon_l0 L m) v0 v3 v17 v18 v19 p m1 v43) (fun _ => rfl) (fun m1 v43 rec1 hrec1 => ?_) L 0 ?_ ?_
       rotate_left
       ·first | rfl | simp only [ml] <;> rfl
       ·first | rfl | simp only [ml] <;> rfl
       show _ = Option.map _ (impl_IsPolygon_l1 L (impl_IsPolygon_l0 L m) v0 v3 v17 v18 v19 p (m1 + 1) v43)
       rw [impl_IsPolygon_l1.eq_2]
       conv => lhs; whnf
       refine t_cond ?_ ?_
       ·conv => lhs; whnf
        refine t_cond ?_ ?_
        ·conv => lhs; whnf
         exact hrec1 (wr IntKind.i64 (iadd v43 1)) _ _ (by first | rfl | simp only [ml] <;> rfl) (by first | rfl | simp only [ml] <;> rfl)
        ·conv => lhs; whnf
         refine t_cond ?_ ?_
         ·conv => lhs; whnf
          refine t_cond ?_ ?_
          ·conv => lhs; whnf
           exact hrec1 (wr IntKind.i64 (iadd v43 1)) _ _ (by first | rfl | simp only [ml] <;> rfl) (by first | rfl | simp only [ml] <;> rfl)
          ·conv => lhs; whnf
           refine t_get (en := ep) (l := v0) (by first | rfl | simp only [ml] <;> rfl) fun p1 => ?_
           conv => lhs; whnf
           refine t_get (en := ep) (l := v0) (by first | rfl | simp only [ml] <;> rfl) fun p2 => ?_
           conv => lhs; whnf
           refine t_call (h_impl_at _ _ _ v0 (by first | rfl | simp only [ml] <;> rfl) (wr IntKind.i64 (iadd v19 1))) fun r6 => ?_
           conv => lhs; whnf
           refine t_call (h_impl_meet (Pt.x p1) (Pt.y p1) (Pt.x p2) (Pt.y p2) (Pt.x p) (Pt.y p) (Prod.fst r6) (Prod.snd r6)) fun r7 => ?_
           conv => lhs; whnf
           refine t_cond ?_ ?_
           ·conv => lhs; whnf
            exact t_ret (by first | rfl | simp only [ml] <;> rfl)
           ·conv => lhs; whnf
            exact hrec1 (wr IntKind.i64 (iadd v43 1)) _ _ (by first | rfl | simp only [ml] <;> rfl) (by first | rfl | simp only [ml] <;> rfl)
         ·conv => lhs; whnf
          refine t_get (en := ep) (l := v0) (by first | rfl | simp only [ml] <;> rfl) fun p3 => ?_
          conv => lhs; whnf
          refine t_get (en := ep) (l := v0) (by first | rfl | simp only [ml] <;> rfl) fun p4 => ?_
          conv => lhs; whnf
          refine t_call (h_impl_at _ _ _ v0 (by first | rfl | simp only [ml] <;> rfl) (wr IntKind.i64 (iadd v19 1))) fun r8 => ?_
          conv => lhs; whnf
          refine t_call (h_impl_meet (Pt.x p3) (Pt.y p3) (Pt.x p4) (Pt.y p4) (Pt.x p) (Pt.y p) (Prod.fst r8) (Prod.snd r8)) fun r9 => ?_
          conv => lhs; whnf
          refine t_cond ?_ ?_
          ·conv => lhs; whnf
           exact t_ret (by first | rfl | simp only [ml] <;> rfl)
          ·conv => lhs; whnf
           exact hrec1 (wr IntKind.i64 (iadd v43 1)) _ _ (by first | rfl | simp only [ml] <;> rfl) (by first | rfl | simp only [ml] <;> rfl)
       ·conv => lhs; whnf
        exact hrec ((v0, v3, v17, v18, wr IntKind.i64 (iadd v19 1))) _ _ (by first | rfl | simp only [ml] <;> rfl) (by first | rfl | simp only [ml] <;> rfl)
    ·conv => lhs; whnf
     exact t_none
   ·conv => lhs; whnf
    exact t_ret (by first | rfl | simp only [ml] <;> rfl)


noncomputable def impl_twice_l0 (L : Nat) (a : List Pt) : Nat → Int → Int → Option Int
  | 0, _, _ => none
  | m + 1, v3, v8 => bif ilt v8 (ilen (List.map ep a)) then (gbind (lget a v8) fun p => gbind (impl_at L a (wr IntKind.i64 (iadd v8 1))) fun r => gbind (impl_cross L (Pt.x p) (Pt.y p) (Prod.fst r) (Prod.snd r)) fun r1 => impl_twice_l0 L a m (wr IntKind.i64 (iadd v3 r1)) (wr IntKind.i64 (iadd v8 1))) else (some v3)


noncomputable def impl_twice (L : Nat) (a : List Pt) : Option (Int) := impl_twice_l0 L a L 0 0


def impl_twice_ok (L : Nat) (C : CF) : Prop := ∀ (oa : Bool) (ca : Bool) (x_a : List AV) (a : List Pt) (_ : x_a = List.map ep a), C 133 ([.lst oa ca 2 x_a]) ([]) = Option.map (fun r : Int => ((.int .i64 r, []) : AV × List Blk)) (impl_twice L a)


theorem impl_twice_run (L : Nat) (C : CF) (h_impl_at : impl_at_ok L C) (h_impl_cross : impl_cross_ok L C) : ∀ (oa : Bool) (ca : Bool) (x_a : List AV) (a : List Pt) (_ : x_a = List.map ep a), run T C sh (keep 133) L Try.f133 ([.lst oa ca 2 x_a]) ([]) = Option.map (fun r : Int => ((.int .i64 r, []) : AV × List Blk)) (impl_twice L a) := by
 intro oa ca x_a a hx_a
 subst hx_a
 unfold impl_twice
 conv => lhs; whnf
 refine t_loop (fun (⟨v3, v8⟩ : Int × Int) => (AV.lst oa ca 2 (List.map ep a) :: topA 2 (AV.int IntKind.i64 v3 :: topA 2 (AV.lst oa ca 2 (List.map ep a) :: AV.int IntKind.i64 (ilen (List.map ep a)) :: AV.int IntKind.i64 v8 :: tops 14)), [])) (fun m (⟨v3, v8⟩ : Int × Int) => impl_twice_l0 L a m v3 v8) (fun _ => rfl) (fun m s rec hrec => ?_) L ((0, 0)) ?_ ?_
 rotate_left
 ·first | rfl | simp only [ml] <;> rfl
 ·first | rfl | simp only [ml] <;> rfl
 obtain ⟨v3, v8⟩ := s
 show _ = Option.map _ (impl_twice_l0 L a (m + 1) v3 v8)
 rw [impl_twice_l0.eq_2]
 conv => lhs; whnf
 refine t_cond ?_ ?_
 ·conv => lhs; whnf
  refine t_get (en := ep) (l := a) (by first | rfl | simp only [ml] <;> rfl) fun p => ?_
  conv => lhs; whnf
  refine t_call (h_impl_at _ _ _ a (by first | rfl | simp only [ml] <;> rfl) (wr IntKind.i64 (iadd v8 1))) fun r => ?_
  conv => lhs; whnf
  refine t_call (h_impl_cross (Pt.x p) (Pt.y p) (Prod.fst r) (Prod.snd r)) fun r1 => ?_
  conv => lhs; whnf
  exact hrec ((wr IntKind.i64 (iadd v3 r1), wr IntKind.i64 (iadd v8 1))) _ _ (by first | rfl | simp only [ml] <;> rfl) (by first | rfl | simp only [ml] <;> rfl)
 ·conv => lhs; whnf
  exact t_ret (by first | rfl | simp only [ml] <;> rfl)


noncomputable def impl_size (L : Nat) (a : Int) : Option (Int) := some (imax a (wr IntKind.i64 (isub 0 a)))


def impl_size_ok (L : Nat) (C : CF) : Prop := ∀ (a : Int), C 147 ([.int .i64 a]) ([]) = Option.map (fun r : Int => ((.int .i64 r, []) : AV × List Blk)) (impl_size L a)


theorem impl_size_run (L : Nat) (C : CF) : ∀ (a : Int), run T C sh (keep 147) L Try.f147 ([.int .i64 a]) ([]) = Option.map (fun r : Int => ((.int .i64 r, []) : AV × List Blk)) (impl_size L a) := by
 intro a
 unfold impl_size
 conv => lhs; whnf
 exact t_ret (by first | rfl | simp only [ml] <;> rfl)


noncomputable def impl_divisor_l0 (L : Nat) : Nat → Int → Int → Option Int
  | 0, _, _ => none
  | m + 1, v0, v1 => bif !ieq v1 0 then (bif ieq v1 0 then (none) else (impl_divisor_l0 L m v1 (irem v0 v1))) else (gbind (impl_size L v0) fun r => some r)


noncomputable def impl_divisor (L : Nat) (a : Int) (b : Int) : Option (Int) := impl_divisor_l0 L L a b


def impl_divisor_ok (L : Nat) (C : CF) : Prop := ∀ (a : Int) (b : Int), C 194 ([.int .i64 a, .int .i64 b]) ([]) = Option.map (fun r : Int => ((.int .i64 r, []) : AV × List Blk)) (impl_divisor L a b)


theorem impl_divisor_run (L : Nat) (C : CF) (h_impl_size : impl_size_ok L C) : ∀ (a : Int) (b : Int), run T C sh (keep 194) L Try.f194 ([.int .i64 a, .int .i64 b]) ([]) = Option.map (fun r : Int => ((.int .i64 r, []) : AV × List Blk)) (impl_divisor L a b) := by
 intro a b
 unfold impl_divisor
 conv => lhs; whnf
 refine t_loop (fun (⟨v0, v1⟩ : Int × Int) => (AV.int IntKind.i64 v0 :: AV.int IntKind.i64 v1 :: tops 11, [])) (fun m (⟨v0, v1⟩ : Int × Int) => impl_divisor_l0 L m v0 v1) (fun _ => rfl) (fun m s rec hrec => ?_) L ((a, b)) ?_ ?_
 rotate_left
 ·first | rfl | simp only [ml] <;> rfl
 ·first | rfl | simp only [ml] <;> rfl
 obtain ⟨v0, v1⟩ := s
 show _ = Option.map _ (impl_divisor_l0 L (m + 1) v0 v1)
 rw [impl_divisor_l0.eq_2]
 conv => lhs; whnf
 refine t_cond ?_ ?_
 ·conv => lhs; whnf
  refine t_cond ?_ ?_
  ·conv => lhs; whnf
   exact t_none
  ·conv => lhs; whnf
   exact hrec ((v1, irem v0 v1)) _ _ (by first | rfl | simp only [ml] <;> rfl) (by first | rfl | simp only [ml] <;> rfl)
 ·conv => lhs; whnf
  refine t_call (h_impl_size v0) fun r => ?_
  conv => lhs; whnf
  exact t_ret (by first | rfl | simp only [ml] <;> rfl)


noncomputable def impl_steps (L : Nat) (a_0 : Int) (a_1 : Int) (b_0 : Int) (b_1 : Int) : Option (Int) := gbind (impl_divisor L (wr IntKind.i64 (isub a_0 b_0)) (wr IntKind.i64 (isub a_1 b_1))) fun r => some r


def impl_steps_ok (L : Nat) (C : CF) : Prop := ∀ (a_0 : Int) (a_1 : Int) (b_0 : Int) (b_1 : Int), C 177 ([.agg [.int .i64 a_0, .int .i64 a_1], .agg [.int .i64 b_0, .int .i64 b_1]]) ([]) = Option.map (fun r : Int => ((.int .i64 r, []) : AV × List Blk)) (impl_steps L a_0 a_1 b_0 b_1)


theorem impl_steps_run (L : Nat) (C : CF) (h_impl_divisor : impl_divisor_ok L C) : ∀ (a_0 : Int) (a_1 : Int) (b_0 : Int) (b_1 : Int), run T C sh (keep 177) L Try.f177 ([.agg [.int .i64 a_0, .int .i64 a_1], .agg [.int .i64 b_0, .int .i64 b_1]]) ([]) = Option.map (fun r : Int => ((.int .i64 r, []) : AV × List Blk)) (impl_steps L a_0 a_1 b_0 b_1) := by
 intro a_0 a_1 b_0 b_1
 unfold impl_steps
 conv => lhs; whnf
 refine t_call (h_impl_divisor (wr IntKind.i64 (isub a_0 b_0)) (wr IntKind.i64 (isub a_1 b_1))) fun r => ?_
 conv => lhs; whnf
 exact t_ret (by first | rfl | simp only [ml] <;> rfl)


noncomputable def impl_around_l0 (L : Nat) (a : List Pt) : Nat → Int → Int → Option Int
  | 0, _, _ => none
  | m + 1, v3, v8 => bif ilt v8 (ilen (List.map ep a)) then (gbind (lget a v8) fun p => gbind (impl_at L a (wr IntKind.i64 (iadd v8 1))) fun r => gbind (impl_steps L (Pt.x p) (Pt.y p) (Prod.fst r) (Prod.snd r)) fun r1 => impl_around_l0 L a m (wr IntKind.i64 (iadd v3 r1)) (wr IntKind.i64 (iadd v8 1))) else (some v3)


noncomputable def impl_around (L : Nat) (a : List Pt) : Option (Int) := impl_around_l0 L a L 0 0


def impl_around_ok (L : Nat) (C : CF) : Prop := ∀ (oa : Bool) (ca : Bool) (x_a : List AV) (a : List Pt) (_ : x_a = List.map ep a), C 151 ([.lst oa ca 2 x_a]) ([]) = Option.map (fun r : Int => ((.int .i64 r, []) : AV × List Blk)) (impl_around L a)


theorem impl_around_run (L : Nat) (C : CF) (h_impl_at : impl_at_ok L C) (h_impl_steps : impl_steps_ok L C) : ∀ (oa : Bool) (ca : Bool) (x_a : List AV) (a : List Pt) (_ : x_a = List.map ep a), run T C sh (keep 151) L Try.f151 ([.lst oa ca 2 x_a]) ([]) = Option.map (fun r : Int => ((.int .i64 r, []) : AV × List Blk)) (impl_around L a) := by
 intro oa ca x_a a hx_a
 subst hx_a
 unfold impl_around
 conv => lhs; whnf
 refine t_loop (fun (⟨v3, v8⟩ : Int × Int) => (AV.lst oa ca 2 (List.map ep a) :: topA 2 (AV.int IntKind.i64 v3 :: topA 2 (AV.lst oa ca 2 (List.map ep a) :: AV.int IntKind.i64 (ilen (List.map ep a)) :: AV.int IntKind.i64 v8 :: tops 14)), [])) (fun m (⟨v3, v8⟩ : Int × Int) => impl_around_l0 L a m v3 v8) (fun _ => rfl) (fun m s rec hrec => ?_) L ((0, 0)) ?_ ?_
 rotate_left
 ·first | rfl | simp only [ml] <;> rfl
 ·first | rfl | simp only [ml] <;> rfl
 obtain ⟨v3, v8⟩ := s
 show _ = Option.map _ (impl_around_l0 L a (m + 1) v3 v8)
 rw [impl_around_l0.eq_2]
 conv => lhs; whnf
 refine t_cond ?_ ?_
 ·conv => lhs; whnf
  refine t_get (en := ep) (l := a) (by first | rfl | simp only [ml] <;> rfl) fun p => ?_
  conv => lhs; whnf
  refine t_call (h_impl_at _ _ _ a (by first | rfl | simp only [ml] <;> rfl) (wr IntKind.i64 (iadd v8 1))) fun r => ?_
  conv => lhs; whnf
  refine t_call (h_impl_steps (Pt.x p) (Pt.y p) (Prod.fst r) (Prod.snd r)) fun r1 => ?_
  conv => lhs; whnf
  exact hrec ((wr IntKind.i64 (iadd v3 r1), wr IntKind.i64 (iadd v8 1))) _ _ (by first | rfl | simp only [ml] <;> rfl) (by first | rfl | simp only [ml] <;> rfl)
 ·conv => lhs; whnf
  exact t_ret (by first | rfl | simp only [ml] <;> rfl)


noncomputable def impl_inner (L : Nat) (a : List Pt) : Option (Int) := gbind (impl_twice L a) fun r => gbind (impl_size L r) fun r1 => gbind (impl_around L a) fun r2 => bif ieq 2 0 then (none) else (some (wr IntKind.i64 (iquo (wr IntKind.i64 (isub (wr IntKind.i64 (iadd r1 2)) r2)) 2)))


def impl_inner_ok (L : Nat) (C : CF) : Prop := ∀ (oa : Bool) (ca : Bool) (x_a : List AV) (a : List Pt) (_ : x_a = List.map ep a), C 149 ([.lst oa ca 2 x_a]) ([]) = Option.map (fun r : Int => ((.int .i64 r, []) : AV × List Blk)) (impl_inner L a)


theorem impl_inner_run (L : Nat) (C : CF) (h_impl_twice : impl_twice_ok L C) (h_impl_size : impl_size_ok L C) (h_impl_around : impl_around_ok L C) : ∀ (oa : Bool) (ca : Bool) (x_a : List AV) (a : List Pt) (_ : x_a = List.map ep a), run T C sh (keep 149) L Try.f149 ([.lst oa ca 2 x_a]) ([]) = Option.map (fun r : Int => ((.int .i64 r, []) : AV × List Blk)) (impl_inner L a) := by
 intro oa ca x_a a hx_a
 subst hx_a
 unfold impl_inner
 conv => lhs; whnf
 refine t_call (h_impl_twice _ _ _ a (by first | rfl | simp only [ml] <;> rfl)) fun r => ?_
 conv => lhs; whnf
 refine t_call (h_impl_size r) fun r1 => ?_
 conv => lhs; whnf
 refine t_call (h_impl_around _ _ _ a (by first | rfl | simp only [ml] <;> rfl)) fun r2 => ?_
 conv => lhs; whnf
 refine t_cond ?_ ?_
 ·conv => lhs; whnf
  exact t_none
 ·conv => lhs; whnf
  exact t_ret (by first | rfl | simp only [ml] <;> rfl)


noncomputable def impl_Peg_plus (L : Nat) (a_0 : Int) (a_1 : Int) (b_0 : Int) (b_1 : Int) : Option (Int × Int) := some ((wr IntKind.i64 (iadd a_0 b_0), wr IntKind.i64 (iadd a_1 b_1)))


def impl_Peg_plus_ok (L : Nat) (C : CF) : Prop := ∀ (a_0 : Int) (a_1 : Int) (b_0 : Int) (b_1 : Int), C 135 ([.agg [.int .i64 a_0, .int .i64 a_1], .agg [.int .i64 b_0, .int .i64 b_1]]) ([]) = Option.map (fun r : Int × Int => ((.agg [.int .i64 (r.1), .int .i64 (r.2)], []) : AV × List Blk)) (impl_Peg_plus L a_0 a_1 b_0 b_1)


theorem impl_Peg_plus_run (L : Nat) (C : CF) : ∀ (a_0 : Int) (a_1 : Int) (b_0 : Int) (b_1 : Int), run T C sh (keep 135) L Try.f135 ([.agg [.int .i64 a_0, .int .i64 a_1], .agg [.int .i64 b_0, .int .i64 b_1]]) ([]) = Option.map (fun r : Int × Int => ((.agg [.int .i64 (r.1), .int .i64 (r.2)], []) : AV × List Blk)) (impl_Peg_plus L a_0 a_1 b_0 b_1) := by
 intro a_0 a_1 b_0 b_1
 unfold impl_Peg_plus
 conv => lhs; whnf
 exact t_ret (by first | rfl | simp only [ml] <;> rfl)


noncomputable def impl_bezout_l0 (L : Nat) : Nat → Int → Int → Int → Int → Int → Int → Option (Int × Int × Int)
  | 0, _, _, _, _, _, _ => none
  | m + 1, v0, v1, v7, v8, v9, v10 => bif !ieq v1 0 then (bif ieq v1 0 then (none) else (impl_bezout_l0 L m v1 (wr IntKind.i64 (isub v0 (wr IntKind.i64 (imul (wr IntKind.i64 (iquo v0 v1)) v1)))) v9 v10 (wr IntKind.i64 (isub v7 (wr IntKind.i64 (imul (wr IntKind.i64 (iquo v0 v1)) v9)))) (wr IntKind.i64 (isub v8 (wr IntKind.i64 (imul (wr IntKind.i64 (iquo v0 v1)) v10)))))) else (some ((v0, v7, v8)))


noncomputable def impl_bezout (L : Nat) (a : Int) (b : Int) : Option (Int × Int × Int) := impl_bezout_l0 L L a b 1 0 0 1


def impl_bezout_ok (L : Nat) (C : CF) : Prop := ∀ (a : Int) (b : Int), C 256 ([.int .i64 a, .int .i64 b]) ([]) = Option.map (fun r : Int × Int × Int => ((.tup [.int .i64 (r.1), .int .i64 (r.2.1), .int .i64 (r.2.2)], []) : AV × List Blk)) (impl_bezout L a b)


theorem impl_bezout_run (L : Nat) (C : CF) : ∀ (a : Int) (b : Int), run T C sh (keep 256) L Try.f256 ([.int .i64 a, .int .i64 b]) ([]) = Option.map (fun r : Int × Int × Int => ((.tup [.int .i64 (r.1), .int .i64 (r.2.1), .int .i64 (r.2.2)], []) : AV × List Blk)) (impl_bezout L a b) := by
 intro a b
 unfold impl_bezout
 conv => lhs; whnf
 refine t_loop (fun (⟨v0, v1, v7, v8, v9, v10⟩ : Int × Int × Int × Int × Int × Int) => (AV.int IntKind.i64 v0 :: AV.int IntKind.i64 v1 :: topA 5 (AV.int IntKind.i64 v7 :: AV.int IntKind.i64 v8 :: AV.int IntKind.i64 v9 :: AV.int IntKind.i64 v10 :: tops 27), [])) (fun m (⟨v0, v1, v7, v8, v9, v10⟩ : Int × Int × Int × Int × Int × Int) => impl_bezout_l0 L m v0 v1 v7 v8 v9 v10) (fun _ => rfl) (fun m s rec hrec => ?_) L ((a, b, 1, 0, 0, 1)) ?_ ?_
 rotate_left
 ·first | rfl | simp only [ml] <;> rfl
 ·first | rfl | simp only [ml] <;> rfl
 obtain ⟨v0, v1, v7, v8, v9, v10⟩ := s
 show _ = Option.map _ (impl_bezout_l0 L (m + 1) v0 v1 v7 v8 v9 v10)
 rw [impl_bezout_l0.eq_2]
 conv => lhs; whnf
 refine t_cond ?_ ?_
 ·conv => lhs; whnf
  refine t_cond ?_ ?_
  ·conv => lhs; whnf
   exact t_none
  ·conv => lhs; whnf
   exact hrec ((v1, wr IntKind.i64 (isub v0 (wr IntKind.i64 (imul (wr IntKind.i64 (iquo v0 v1)) v1))), v9, v10, wr IntKind.i64 (isub v7 (wr IntKind.i64 (imul (wr IntKind.i64 (iquo v0 v1)) v9))), wr IntKind.i64 (isub v8 (wr IntKind.i64 (imul (wr IntKind.i64 (iquo v0 v1)) v10))))) _ _ (by first | rfl | simp only [ml] <;> rfl) (by first | rfl | simp only [ml] <;> rfl)
 ·conv => lhs; whnf
  exact t_ret (by first | rfl | simp only [ml] <;> rfl)


noncomputable def impl_Move_bring (L : Nat) (a_0 : Int) (a_1 : Int) (a_2 : Int) (a_3 : Int) (a_4 : Int) (a_5 : Int) (b_0 : Int) (b_1 : Int) : Option (Int × Int) := some ((wr IntKind.i64 (iadd (wr IntKind.i64 (iadd (wr IntKind.i64 (imul a_0 b_0)) (wr IntKind.i64 (imul a_1 b_1)))) a_4), wr IntKind.i64 (iadd (wr IntKind.i64 (iadd (wr IntKind.i64 (imul a_2 b_0)) (wr IntKind.i64 (imul a_3 b_1)))) a_5)))


def impl_Move_bring_ok (L : Nat) (C : CF) : Prop := ∀ (a_0 : Int) (a_1 : Int) (a_2 : Int) (a_3 : Int) (a_4 : Int) (a_5 : Int) (b_0 : Int) (b_1 : Int), C 182 ([.agg [.int .i64 a_0, .int .i64 a_1, .int .i64 a_2, .int .i64 a_3, .int .i64 a_4, .int .i64 a_5], .agg [.int .i64 b_0, .int .i64 b_1]]) ([]) = Option.map (fun r : Int × Int => ((.agg [.int .i64 (r.1), .int .i64 (r.2)], []) : AV × List Blk)) (impl_Move_bring L a_0 a_1 a_2 a_3 a_4 a_5 b_0 b_1)


theorem impl_Move_bring_run (L : Nat) (C : CF) : ∀ (a_0 : Int) (a_1 : Int) (a_2 : Int) (a_3 : Int) (a_4 : Int) (a_5 : Int) (b_0 : Int) (b_1 : Int), run T C sh (keep 182) L Try.f182 ([.agg [.int .i64 a_0, .int .i64 a_1, .int .i64 a_2, .int .i64 a_3, .int .i64 a_4, .int .i64 a_5], .agg [.int .i64 b_0, .int .i64 b_1]]) ([]) = Option.map (fun r : Int × Int => ((.agg [.int .i64 (r.1), .int .i64 (r.2)], []) : AV × List Blk)) (impl_Move_bring L a_0 a_1 a_2 a_3 a_4 a_5 b_0 b_1) := by
 intro a_0 a_1 a_2 a_3 a_4 a_5 b_0 b_1
 unfold impl_Move_bring
 conv => lhs; whnf
 exact t_ret (by first | rfl | simp only [ml] <;> rfl)


noncomputable def impl_frame_l0 (L : Nat) (a : List Pt) (r : Int × Int) (r1 : Int × Int × Int) (r3 : Int × Int) : Nat → Int → (List Pt) → Option ((List Pt))
  | 0, _, _ => none
  | m + 1, v113, w1 => bif ilt v113 (ilen (List.map ep a)) then (gbind (lget a v113) fun p4 => gbind (lget a 0) fun p5 => gbind (impl_Peg_less L (Pt.x p4) (Pt.y p4) (Pt.x p5) (Pt.y p5)) fun r4 => gbind (impl_Move_bring L (wr IntKind.i64 (iadd (wr IntKind.i64 (isub 0 (Prod.fst (Prod.snd r1)))) (wr IntKind.i64 (imul (wr IntKind.i64 (iquo (wr IntKind.i64 (isub (irem (wr IntKind.i64 (iadd (irem (Prod.fst r3) (wr IntKind.i64 (isub 0 (Prod.snd r3)))) (wr IntKind.i64 (isub 0 (Prod.snd r3))))) (wr IntKind.i64 (isub 0 (Prod.snd r3)))) (Prod.fst r3))) (wr IntKind.i64 (isub 0 (Prod.snd r3))))) (wr IntKind.i64 (isub 0 (wr IntKind.i64 (iquo (wr IntKind.i64 (isub 0 (Prod.snd r))) (wr IntKind.i64 (isub 0 (Prod.fst r1))))))))))) (wr IntKind.i64 (iadd (wr IntKind.i64 (isub 0 (Prod.snd (Prod.snd r1)))) (wr IntKind.i64 (imul (wr IntKind.i64 (iquo (wr IntKind.i64 (isub (irem (wr IntKind.i64 (iadd (irem (Prod.fst r3) (wr IntKind.i64 (isub 0 (Prod.snd r3)))) (wr IntKind.i64 (isub 0 (Prod.snd r3))))) (wr IntKind.i64 (isub 0 (Prod.snd r3)))) (Prod.fst r3))) (wr IntKind.i64 (isub 0 (Prod.snd r3))))) (wr IntKind.i64 (isub 0 (wr IntKind.i64 (iquo (Prod.fst r) (wr IntKind.i64 (isub 0 (Prod.fst r1))))))))))) (wr IntKind.i64 (isub 0 (wr IntKind.i64 (iquo (wr IntKind.i64 (isub 0 (Prod.snd r))) (wr IntKind.i64 (isub 0 (Prod.fst r1))))))) (wr IntKind.i64 (isub 0 (wr IntKind.i64 (iquo (Prod.fst r) (wr IntKind.i64 (isub 0 (Prod.fst r1))))))) 0 0 (Prod.fst r4) (Prod.snd r4)) fun r5 => bif fits (iadd (ilen (List.map ep w1)) (ilen [AV.agg [AV.int IntKind.i64 (Prod.fst r5), AV.int IntKind.i64 (Prod.snd r5)]])) 16 then (impl_frame_l0 L a r r1 r3 m (wr IntKind.i64 (iadd v113 1)) (lcat w1 ({ x := Prod.fst r5, y := Prod.snd r5 } :: []))) else (none)) else (some w1)


noncomputable def impl_frame_l1 (L : Nat) (a : List Pt) (r : Int × Int) (r1 : Int × Int × Int) (r3 : Int × Int) : Nat → Int → (List Pt) → Option ((List Pt))
  | 0, _, _ => none
  | m1 + 1, v1131, w11 => bif ilt v1131 (ilen (List.map ep a)) then (gbind (lget a v1131) fun p6 => gbind (lget a 0) fun p7 => gbind (impl_Peg_less L (Pt.x p6) (Pt.y p6) (Pt.x p7) (Pt.y p7)) fun r6 => gbind (impl_Move_bring L (wr IntKind.i64 (iadd (wr IntKind.i64 (isub 0 (Prod.fst (Prod.snd r1)))) (wr IntKind.i64 (imul (wr IntKind.i64 (iquo (wr IntKind.i64 (isub (irem (wr IntKind.i64 (iadd (irem (Prod.fst r3) (Prod.snd r3)) (Prod.snd r3))) (Prod.snd r3)) (Prod.fst r3))) (Prod.snd r3))) (wr IntKind.i64 (iquo (wr IntKind.i64 (isub 0 (Prod.snd r))) (wr IntKind.i64 (isub 0 (Prod.fst r1))))))))) (wr IntKind.i64 (iadd (wr IntKind.i64 (isub 0 (Prod.snd (Prod.snd r1)))) (wr IntKind.i64 (imul (wr IntKind.i64 (iquo (wr IntKind.i64 (isub (irem (wr IntKind.i64 (iadd (irem (Prod.fst r3) (Prod.snd r3)) (Prod.snd r3))) (Prod.snd r3)) (Prod.fst r3))) (Prod.snd r3))) (wr IntKind.i64 (iquo (Prod.fst r) (wr IntKind.i64 (isub 0 (Prod.fst r1))))))))) (wr IntKind.i64 (iquo (wr IntKind.i64 (isub 0 (Prod.snd r))) (wr IntKind.i64 (isub 0 (Prod.fst r1))))) (wr IntKind.i64 (iquo (Prod.fst r) (wr IntKind.i64 (isub 0 (Prod.fst r1))))) 0 0 (Prod.fst r6) (Prod.snd r6)) fun r7 => bif fits (iadd (ilen (List.map ep w11)) (ilen [AV.agg [AV.int IntKind.i64 (Prod.fst r7), AV.int IntKind.i64 (Prod.snd r7)]])) 16 then (impl_frame_l1 L a r r1 r3 m1 (wr IntKind.i64 (iadd v1131 1)) (lcat w11 ({ x := Prod.fst r7, y := Prod.snd r7 } :: []))) else (none)) else (some w11)


noncomputable def impl_frame_l2 (L : Nat) (a : List Pt) (r : Int × Int) (r1 : Int × Int × Int) (r9 : Int × Int) : Nat → Int → (List Pt) → Option ((List Pt))
  | 0, _, _ => none
  | m2 + 1, v1132, w12 => bif ilt v1132 (ilen (List.map ep a)) then (gbind (lget a v1132) fun p10 => gbind (lget a 0) fun p11 => gbind (impl_Peg_less L (Pt.x p10) (Pt.y p10) (Pt.x p11) (Pt.y p11)) fun r10 => gbind (impl_Move_bring L (wr IntKind.i64 (iadd (Prod.fst (Prod.snd r1)) (wr IntKind.i64 (imul (wr IntKind.i64 (iquo (wr IntKind.i64 (isub (irem (wr IntKind.i64 (iadd (irem (Prod.fst r9) (wr IntKind.i64 (isub 0 (Prod.snd r9)))) (wr IntKind.i64 (isub 0 (Prod.snd r9))))) (wr IntKind.i64 (isub 0 (Prod.snd r9)))) (Prod.fst r9))) (wr IntKind.i64 (isub 0 (Prod.snd r9))))) (wr IntKind.i64 (isub 0 (wr IntKind.i64 (iquo (wr IntKind.i64 (isub 0 (Prod.snd r))) (Prod.fst r1))))))))) (wr IntKind.i64 (iadd (Prod.snd (Prod.snd r1)) (wr IntKind.i64 (imul (wr IntKind.i64 (iquo (wr IntKind.i64 (isub (irem (wr IntKind.i64 (iadd (irem (Prod.fst r9) (wr IntKind.i64 (isub 0 (Prod.snd r9)))) (wr IntKind.i64 (isub 0 (Prod.snd r9))))) (wr IntKind.i64 (isub 0 (Prod.snd r9)))) (Prod.fst r9))) (wr IntKind.i64 (isub 0 (Prod.snd r9))))) (wr IntKind.i64 (isub 0 (wr IntKind.i64 (iquo (Prod.fst r) (Prod.fst r1))))))))) (wr IntKind.i64 (isub 0 (wr IntKind.i64 (iquo (wr IntKind.i64 (isub 0 (Prod.snd r))) (Prod.fst r1))))) (wr IntKind.i64 (isub 0 (wr IntKind.i64 (iquo (Prod.fst r) (Prod.fst r1))))) 0 0 (Prod.fst r10) (Prod.snd r10)) fun r11 => bif fits (iadd (ilen (List.map ep w12)) (ilen [AV.agg [AV.int IntKind.i64 (Prod.fst r11), AV.int IntKind.i64 (Prod.snd r11)]])) 16 then (impl_frame_l2 L a r r1 r9 m2 (wr IntKind.i64 (iadd v1132 1)) (lcat w12 ({ x := Prod.fst r11, y := Prod.snd r11 } :: []))) else (none)) else (some w12)


noncomputable def impl_frame_l3 (L : Nat) (a : List Pt) (r : Int × Int) (r1 : Int × Int × Int) (r9 : Int × Int) : Nat → Int → (List Pt) → Option ((List Pt))
  | 0, _, _ => none
  | m3 + 1, v1133, w13 => bif ilt v1133 (ilen (List.map ep a)) then (gbind (lget a v1133) fun p12 => gbind (lget a 0) fun p13 => gbind (impl_Peg_less L (Pt.x p12) (Pt.y p12) (Pt.x p13) (Pt.y p13)) fun r12 => gbind (impl_Move_bring L (wr IntKind.i64 (iadd (Prod.fst (Prod.snd r1)) (wr IntKind.i64 (imul (wr IntKind.i64 (iquo (wr IntKind.i64 (isub (irem (wr IntKind.i64 (iadd (irem (Prod.fst r9) (Prod.snd r9)) (Prod.snd r9))) (Prod.snd r9)) (Prod.fst r9))) (Prod.snd r9))) (wr IntKind.i64 (iquo (wr IntKind.i64 (isub 0 (Prod.snd r))) (Prod.fst r1))))))) (wr IntKind.i64 (iadd (Prod.snd (Prod.snd r1)) (wr IntKind.i64 (imul (wr IntKind.i64 (iquo (wr IntKind.i64 (isub (irem (wr IntKind.i64 (iadd (irem (Prod.fst r9) (Prod.snd r9)) (Prod.snd r9))) (Prod.snd r9)) (Prod.fst r9))) (Prod.snd r9))) (wr IntKind.i64 (iquo (Prod.fst r) (Prod.fst r1))))))) (wr IntKind.i64 (iquo (wr IntKind.i64 (isub 0 (Prod.snd r))) (Prod.fst r1))) (wr IntKind.i64 (iquo (Prod.fst r) (Prod.fst r1))) 0 0 (Prod.fst r12) (Prod.snd r12)) fun r13 => bif fits (iadd (ilen (List.map ep w13)) (ilen [AV.agg [AV.int IntKind.i64 (Prod.fst r13), AV.int IntKind.i64 (Prod.snd r13)]])) 16 then (impl_frame_l3 L a r r1 r9 m3 (wr IntKind.i64 (iadd v1133 1)) (lcat w13 ({ x := Prod.fst r13, y := Prod.snd r13 } :: []))) else (none)) else (some w13)


noncomputable def impl_frame (L : Nat) (a : List Pt) : Option ((List Pt)) := gbind (lget a 1) fun p => gbind (lget a 0) fun p1 => gbind (impl_Peg_less L (Pt.x p) (Pt.y p) (Pt.x p1) (Pt.y p1)) fun r => gbind (impl_bezout L (Prod.fst r) (Prod.snd r)) fun r1 => bif ilt (Prod.fst r1) 0 then (bif ieq (wr IntKind.i64 (isub 0 (Prod.fst r1))) 0 then (none) else (bif ieq (wr IntKind.i64 (isub 0 (Prod.fst r1))) 0 then (none) else (gbind (lget a 2) fun p2 => gbind (lget a 0) fun p3 => gbind (impl_Peg_less L (Pt.x p2) (Pt.y p2) (Pt.x p3) (Pt.y p3)) fun r2 => gbind (impl_Move_bring L (wr IntKind.i64 (isub 0 (Prod.fst (Prod.snd r1)))) (wr IntKind.i64 (isub 0 (Prod.snd (Prod.snd r1)))) (wr IntKind.i64 (iquo (wr IntKind.i64 (isub 0 (Prod.snd r))) (wr IntKind.i64 (isub 0 (Prod.fst r1))))) (wr IntKind.i64 (iquo (Prod.fst r) (wr IntKind.i64 (isub 0 (Prod.fst r1))))) 0 0 (Prod.fst r2) (Prod.snd r2)) fun r3 => bif ilt (Prod.snd r3) 0 then (bif ieq (wr IntKind.i64 (isub 0 (Prod.snd r3))) 0 then (none) else (bif ieq (wr IntKind.i64 (isub 0 (Prod.snd r3))) 0 then (none) else (bif ieq (wr IntKind.i64 (isub 0 (Prod.snd r3))) 0 then (none) else (bif ile 0 0 && ile 0 (ilen (List.map ep a)) && fits (ilen (List.map ep a)) 16 then (impl_frame_l0 L a r r1 r3 L 0 (lrep 0 ({ x := 0, y := 0 }))) else (none))))) else (bif ieq (Prod.snd r3) 0 then (none) else (bif ieq (Prod.snd r3) 0 then (none) else (bif ieq (Prod.snd r3) 0 then (none) else (bif ile 0 0 && ile 0 (ilen (List.map ep a)) && fits (ilen (List.map ep a)) 16 then (impl_frame_l1 L a r r1 r3 L 0 (lrep 0 ({ x := 0, y := 0 }))) else (none)))))))) else (bif ieq (Prod.fst r1) 0 then (none) else (bif ieq (Prod.fst r1) 0 then (none) else (gbind (lget a 2) fun p8 => gbind (lget a 0) fun p9 => gbind (impl_Peg_less L (Pt.x p8) (Pt.y p8) (Pt.x p9) (Pt.y p9)) fun r8 => gbind (impl_Move_bring L (Prod.fst (Prod.snd r1)) (Prod.snd (Prod.snd r1)) (wr IntKind.i64 (iquo (wr IntKind.i64 (isub 0 (Prod.snd r))) (Prod.fst r1))) (wr IntKind.i64 (iquo (Prod.fst r) (Prod.fst r1))) 0 0 (Prod.fst r8) (Prod.snd r8)) fun r9 => bif ilt (Prod.snd r9) 0 then (bif ieq (wr IntKind.i64 (isub 0 (Prod.snd r9))) 0 then (none) else (bif ieq (wr IntKind.i64 (isub 0 (Prod.snd r9))) 0 then (none) else (bif ieq (wr IntKind.i64 (isub 0 (Prod.snd r9))) 0 then (none) else (bif ile 0 0 && ile 0 (ilen (List.map ep a)) && fits (ilen (List.map ep a)) 16 then (impl_frame_l2 L a r r1 r9 L 0 (lrep 0 ({ x := 0, y := 0 }))) else (none))))) else (bif ieq (Prod.snd r9) 0 then (none) else (bif ieq (Prod.snd r9) 0 then (none) else (bif ieq (Prod.snd r9) 0 then (none) else (bif ile 0 0 && ile 0 (ilen (List.map ep a)) && fits (ilen (List.map ep a)) 16 then (impl_frame_l3 L a r r1 r9 L 0 (lrep 0 ({ x := 0, y := 0 }))) else (none))))))))


def impl_frame_ok (L : Nat) (C : CF) : Prop := ∀ (oa : Bool) (ca : Bool) (x_a : List AV) (a : List Pt) (_ : x_a = List.map ep a), C 233 ([.lst oa ca 2 x_a]) ([]) = Option.map (fun r : (List Pt) => ((.frs 2 (List.map ep r), []) : AV × List Blk)) (impl_frame L a)


theorem impl_frame_run (L : Nat) (C : CF) (h_impl_Peg_less : impl_Peg_less_ok L C) (h_impl_bezout : impl_bezout_ok L C) (h_impl_Move_bring : impl_Move_bring_ok L C) : ∀ (oa : Bool) (ca : Bool) (x_a : List AV) (a : List Pt) (_ : x_a = List.map ep a), run T C sh (keep 233) L Try.f233 ([.lst oa ca 2 x_a]) ([]) = Option.map (fun r : (List Pt) => ((.frs 2 (List.map ep r), []) : AV × List Blk)) (impl_frame L a) := by
 intro oa ca x_a a hx_a
 subst hx_a
 unfold impl_frame
 conv => lhs; whnf
 refine t_get (en := ep) (l := a) (by first | rfl | simp only [ml] <;> rfl) fun p => ?_
 conv => lhs; whnf
 refine t_get (en := ep) (l := a) (by first | rfl | simp only [ml] <;> rfl) fun p1 => ?_
 conv => lhs; whnf
 refine t_call (h_impl_Peg_less (Pt.x p) (Pt.y p) (Pt.x p1) (Pt.y p1)) fun r => ?_
 conv => lhs; whnf
 refine t_call (h_impl_bezout (Prod.fst r) (Prod.snd r)) fun r1 => ?_
 conv => lhs; whnf
 refine t_cond ?_ ?_
 ·conv => lhs; whnf
  refine t_cond ?_ ?_
  ·conv => lhs; whnf
   exact t_none
  ·conv => lhs; whnf
   refine t_cond ?_ ?_
   ·conv => lhs; whnf
    exact t_none
   ·conv => lhs; whnf
    refine t_get (en := ep) (l := a) (by first | rfl | simp only [ml] <;> rfl) fun p2 => ?_
    conv => lhs; whnf
    refine t_get (en := ep) (l := a) (by first | rfl | simp only [ml] <;> rfl) fun p3 => ?_
    conv => lhs; whnf
    refine t_call (h_impl_Peg_less (Pt.x p2) (Pt.y p2) (Pt.x p3) (Pt.y p3)) fun r2 => ?_
    conv => lhs; whnf
    refine t_call (h_impl_Move_bring (wr IntKind.i64 (isub 0 (Prod.fst (Prod.snd r1)))) (wr IntKind.i64 (isub 0 (Prod.snd (Prod.snd r1)))) (wr IntKind.i64 (iquo (wr IntKind.i64 (isub 0 (Prod.snd r))) (wr IntKind.i64 (isub 0 (Prod.fst r1))))) (wr IntKind.i64 (iquo (Prod.fst r) (wr IntKind.i64 (isub 0 (Prod.fst r1))))) 0 0 (Prod.fst r2) (Prod.snd r2)) fun r3 => ?_
    conv => lhs; whnf
    refine t_cond ?_ ?_
    ·conv => lhs; whnf
     refine t_cond ?_ ?_
     ·conv => lhs; whnf
      exact t_none
     ·conv => lhs; whnf
      refine t_cond ?_ ?_
      ·conv => lhs; whnf
       exact t_none
      ·conv => lhs; whnf
       refine t_cond ?_ ?_
       ·conv => lhs; whnf
        exact t_none
       ·conv => lhs; whnf
        refine t_cond ?_ ?_
        ·conv => lhs; whnf
         refine t_loop (fun (⟨v113, w1⟩ : Int × (List Pt)) => (AV.lst oa ca 2 (List.map ep a) :: topA 6 (AV.ptr 0 0 0 6 :: topA 3 (AV.own 1 2 none false :: topA 99 (AV.lst oa ca 2 (List.map ep a) :: AV.int IntKind.i64 (ilen (List.map ep a)) :: AV.int IntKind.i64 v113 :: tops 15))), [Blk.box (AV.agg [AV.int IntKind.i64 (wr IntKind.i64 (iadd (wr IntKind.i64 (isub 0 (Prod.fst (Prod.snd r1)))) (wr IntKind.i64 (imul (wr IntKind.i64 (iquo (wr IntKind.i64 (isub (irem (wr IntKind.i64 (iadd (irem (Prod.fst r3) (wr IntKind.i64 (isub 0 (Prod.snd r3)))) (wr IntKind.i64 (isub 0 (Prod.snd r3))))) (wr IntKind.i64 (isub 0 (Prod.snd r3)))) (Prod.fst r3))) (wr IntKind.i64 (isub 0 (Prod.snd r3))))) (wr IntKind.i64 (isub 0 (wr IntKind.i64 (iquo (wr IntKind.i64 (isub 0 (Prod.snd r))) (wr IntKind.i64 (isub 0 (Prod.fst r1))))))))))), AV.int IntKind.i64 (wr IntKind.i64 (iadd (wr IntKind.i64 (isub 0 (Prod.snd (Prod.snd r1)))) (wr IntKind.i64 (imul (wr IntKind.i64 (iquo (wr IntKind.i64 (isub (irem (wr IntKind.i64 (iadd (irem (Prod.fst r3) (wr IntKind.i64 (isub 0 (Prod.snd r3)))) (wr IntKind.i64 (isub 0 (Prod.snd r3))))) (wr IntKind.i64 (isub 0 (Prod.snd r3)))) (Prod.fst r3))) (wr IntKind.i64 (isub 0 (Prod.snd r3))))) (wr IntKind.i64 (isub 0 (wr IntKind.i64 (iquo (Prod.fst r) (wr IntKind.i64 (isub 0 (Prod.fst r1))))))))))), AV.int IntKind.i64 (wr IntKind.i64 (isub 0 (wr IntKind.i64 (iquo (wr IntKind.i64 (isub 0 (Prod.snd r))) (wr IntKind.i64 (isub 0 (Prod.fst r1))))))), AV.int IntKind.i64 (wr IntKind.i64 (isub 0 (wr IntKind.i64 (iquo (Prod.fst r) (wr IntKind.i64 (isub 0 (Prod.fst r1))))))), AV.int IntKind.i64 0, AV.int IntKind.i64 0]), Blk.rows Mode.live 2 (List.map ep w1)])) (fun m (⟨v113, w1⟩ : Int × (List Pt)) => impl_frame_l0 L a r r1 r3 m v113 w1) (fun _ => rfl) (fun m s rec hrec => ?_) L ((0, lrep 0 ({ x := 0, y := 0 }))) ?_ ?_
         rotate_left
         ·first | rfl | simp only [ml] <;> rfl
         ·first | rfl | simp only [ml] <;> rfl
         obtain ⟨v113, w1⟩ := s
         show _ = Option.map _ (impl_frame_l0 L a r r1 r3 (m + 1) v113 w1)
         rw [impl_frame_l0.eq_2]
         conv => lhs; whnf
         refine t_cond ?_ ?_
         ·conv => lhs; whnf
          refine t_get (en := ep) (l := a) (by first | rfl | simp only [ml] <;> rfl) fun p4 => ?_
          conv => lhs; whnf
          refine t_get (en := ep) (l := a) (by first | rfl | simp only [ml] <;> rfl) fun p5 => ?_
          conv => lhs; whnf
          refine t_call (h_impl_Peg_less (Pt.x p4) (Pt.y p4) (Pt.x p5) (Pt.y p5)) fun r4 => ?_
          conv => lhs; whnf
          refine t_call (h_impl_Move_bring (wr IntKind.i64 (iadd (wr IntKind.i64 (isub 0 (Prod.fst (Prod.snd r1)))) (wr IntKind.i64 (imul (wr IntKind.i64 (iquo (wr IntKind.i64 (isub (irem (wr IntKind.i64 (iadd (irem (Prod.fst r3) (wr IntKind.i64 (isub 0 (Prod.snd r3)))) (wr IntKind.i64 (isub 0 (Prod.snd r3))))) (wr IntKind.i64 (isub 0 (Prod.snd r3)))) (Prod.fst r3))) (wr IntKind.i64 (isub 0 (Prod.snd r3))))) (wr IntKind.i64 (isub 0 (wr IntKind.i64 (iquo (wr IntKind.i64 (isub 0 (Prod.snd r))) (wr IntKind.i64 (isub 0 (Prod.fst r1))))))))))) (wr IntKind.i64 (iadd (wr IntKind.i64 (isub 0 (Prod.snd (Prod.snd r1)))) (wr IntKind.i64 (imul (wr IntKind.i64 (iquo (wr IntKind.i64 (isub (irem (wr IntKind.i64 (iadd (irem (Prod.fst r3) (wr IntKind.i64 (isub 0 (Prod.snd r3)))) (wr IntKind.i64 (isub 0 (Prod.snd r3))))) (wr IntKind.i64 (isub 0 (Prod.snd r3)))) (Prod.fst r3))) (wr IntKind.i64 (isub 0 (Prod.snd r3))))) (wr IntKind.i64 (isub 0 (wr IntKind.i64 (iquo (Prod.fst r) (wr IntKind.i64 (isub 0 (Prod.fst r1))))))))))) (wr IntKind.i64 (isub 0 (wr IntKind.i64 (iquo (wr IntKind.i64 (isub 0 (Prod.snd r))) (wr IntKind.i64 (isub 0 (Prod.fst r1))))))) (wr IntKind.i64 (isub 0 (wr IntKind.i64 (iquo (Prod.fst r) (wr IntKind.i64 (isub 0 (Prod.fst r1))))))) 0 0 (Prod.fst r4) (Prod.snd r4)) fun r5 => ?_
          conv => lhs; whnf
          refine t_cond ?_ ?_
          ·conv => lhs; whnf
           exact hrec ((wr IntKind.i64 (iadd v113 1), lcat w1 ({ x := Prod.fst r5, y := Prod.snd r5 } :: []))) _ _ (by first | rfl | simp only [ml] <;> rfl) (by first | rfl | simp only [ml] <;> rfl)
          ·conv => lhs; whnf
           exact t_none
         ·conv => lhs; whnf
          exact t_ret (by first | rfl | simp only [ml] <;> rfl)
        ·conv => lhs; whnf
         exact t_none
    ·conv => lhs; whnf
     refine t_cond ?_ ?_
     ·conv => lhs; whnf
      exact t_none
     ·conv => lhs; whnf
      refine t_cond ?_ ?_
      ·conv => lhs; whnf
       exact t_none
      ·conv => lhs; whnf
       refine t_cond ?_ ?_
       ·conv => lhs; whnf
        exact t_none
       ·conv => lhs; whnf
        refine t_cond ?_ ?_
        ·conv => lhs; whnf
         refine t_loop (fun (⟨v1131, w11⟩ : Int × (List Pt)) => (AV.lst oa ca 2 (List.map ep a) :: topA 6 (AV.ptr 0 0 0 6 :: topA 3 (AV.own 1 2 none false :: topA 99 (AV.lst oa ca 2 (List.map ep a) :: AV.int IntKind.i64 (ilen (List.map ep a)) :: AV.int IntKind.i64 v1131 :: tops 15))), [Blk.box (AV.agg [AV.int IntKind.i64 (wr IntKind.i64 (iadd (wr IntKind.i64 (isub 0 (Prod.fst (Prod.snd r1)))) (wr IntKind.i64 (imul (wr IntKind.i64 (iquo (wr IntKind.i64 (isub (irem (wr IntKind.i64 (iadd (irem (Prod.fst r3) (Prod.snd r3)) (Prod.snd r3))) (Prod.snd r3)) (Prod.fst r3))) (Prod.snd r3))) (wr IntKind.i64 (iquo (wr IntKind.i64 (isub 0 (Prod.snd r))) (wr IntKind.i64 (isub 0 (Prod.fst r1))))))))), AV.int IntKind.i64 (wr IntKind.i64 (iadd (wr IntKind.i64 (isub 0 (Prod.snd (Prod.snd r1)))) (wr IntKind.i64 (imul (wr IntKind.i64 (iquo (wr IntKind.i64 (isub (irem (wr IntKind.i64 (iadd (irem (Prod.fst r3) (Prod.snd r3)) (Prod.snd r3))) (Prod.snd r3)) (Prod.fst r3))) (Prod.snd r3))) (wr IntKind.i64 (iquo (Prod.fst r) (wr IntKind.i64 (isub 0 (Prod.fst r1))))))))), AV.int IntKind.i64 (wr IntKind.i64 (iquo (wr IntKind.i64 (isub 0 (Prod.snd r))) (wr IntKind.i64 (isub 0 (Prod.fst r1))))), AV.int IntKind.i64 (wr IntKind.i64 (iquo (Prod.fst r) (wr IntKind.i64 (isub 0 (Prod.fst r1))))), AV.int IntKind.i64 0, AV.int IntKind.i64 0]), Blk.rows Mode.live 2 (List.map ep w11)])) (fun m1 (⟨v1131, w11⟩ : Int × (List Pt)) => impl_frame_l1 L a r r1 r3 m1 v1131 w11) (fun _ => rfl) (fun m1 s1 rec1 hrec1 => ?_) L ((0, lrep 0 ({ x := 0, y := 0 }))) ?_ ?_
         rotate_left
         ·first | rfl | simp only [ml] <;> rfl
         ·first | rfl | simp only [ml] <;> rfl
         obtain ⟨v1131, w11⟩ := s1
         show _ = Option.map _ (impl_frame_l1 L a r r1 r3 (m1 + 1) v1131 w11)
         rw [impl_frame_l1.eq_2]
         conv => lhs; whnf
         refine t_cond ?_ ?_
         ·conv => lhs; whnf
          refine t_get (en := ep) (l := a) (by first | rfl | simp only [ml] <;> rfl) fun p6 => ?_
          conv => lhs; whnf
          refine t_get (en := ep) (l := a) (by first | rfl | simp only [ml] <;> rfl) fun p7 => ?_
          conv => lhs; whnf
          refine t_call (h_impl_Peg_less (Pt.x p6) (Pt.y p6) (Pt.x p7) (Pt.y p7)) fun r6 => ?_
          conv => lhs; whnf
          refine t_call (h_impl_Move_bring (wr IntKind.i64 (iadd (wr IntKind.i64 (isub 0 (Prod.fst (Prod.snd r1)))) (wr IntKind.i64 (imul (wr IntKind.i64 (iquo (wr IntKind.i64 (isub (irem (wr IntKind.i64 (iadd (irem (Prod.fst r3) (Prod.snd r3)) (Prod.snd r3))) (Prod.snd r3)) (Prod.fst r3))) (Prod.snd r3))) (wr IntKind.i64 (iquo (wr IntKind.i64 (isub 0 (Prod.snd r))) (wr IntKind.i64 (isub 0 (Prod.fst r1))))))))) (wr IntKind.i64 (iadd (wr IntKind.i64 (isub 0 (Prod.snd (Prod.snd r1)))) (wr IntKind.i64 (imul (wr IntKind.i64 (iquo (wr IntKind.i64 (isub (irem (wr IntKind.i64 (iadd (irem (Prod.fst r3) (Prod.snd r3)) (Prod.snd r3))) (Prod.snd r3)) (Prod.fst r3))) (Prod.snd r3))) (wr IntKind.i64 (iquo (Prod.fst r) (wr IntKind.i64 (isub 0 (Prod.fst r1))))))))) (wr IntKind.i64 (iquo (wr IntKind.i64 (isub 0 (Prod.snd r))) (wr IntKind.i64 (isub 0 (Prod.fst r1))))) (wr IntKind.i64 (iquo (Prod.fst r) (wr IntKind.i64 (isub 0 (Prod.fst r1))))) 0 0 (Prod.fst r6) (Prod.snd r6)) fun r7 => ?_
          conv => lhs; whnf
          refine t_cond ?_ ?_
          ·conv => lhs; whnf
           exact hrec1 ((wr IntKind.i64 (iadd v1131 1), lcat w11 ({ x := Prod.fst r7, y := Prod.snd r7 } :: []))) _ _ (by first | rfl | simp only [ml] <;> rfl) (by first | rfl | simp only [ml] <;> rfl)
          ·conv => lhs; whnf
           exact t_none
         ·conv => lhs; whnf
          exact t_ret (by first | rfl | simp only [ml] <;> rfl)
        ·conv => lhs; whnf
         exact t_none
 ·conv => lhs; whnf
  refine t_cond ?_ ?_
  ·conv => lhs; whnf
   exact t_none
  ·conv => lhs; whnf
   refine t_cond ?_ ?_
   ·conv => lhs; whnf
    exact t_none
   ·conv => lhs; whnf
    refine t_get (en := ep) (l := a) (by first | rfl | simp only [ml] <;> rfl) fun p8 => ?_
    conv => lhs; whnf
    refine t_get (en := ep) (l := a) (by first | rfl | simp only [ml] <;> rfl) fun p9 => ?_
    conv => lhs; whnf
    refine t_call (h_impl_Peg_less (Pt.x p8) (Pt.y p8) (Pt.x p9) (Pt.y p9)) fun r8 => ?_
    conv => lhs; whnf
    refine t_call (h_impl_Move_bring (Prod.fst (Prod.snd r1)) (Prod.snd (Prod.snd r1)) (wr IntKind.i64 (iquo (wr IntKind.i64 (isub 0 (Prod.snd r))) (Prod.fst r1))) (wr IntKind.i64 (iquo (Prod.fst r) (Prod.fst r1))) 0 0 (Prod.fst r8) (Prod.snd r8)) fun r9 => ?_
    conv => lhs; whnf
    refine t_cond ?_ ?_
    ·conv => lhs; whnf
     refine t_cond ?_ ?_
     ·conv => lhs; whnf
      exact t_none
     ·conv => lhs; whnf
      refine t_cond ?_ ?_
      ·conv => lhs; whnf
       exact t_none
      ·conv => lhs; whnf
       refine t_cond ?_ ?_
       ·conv => lhs; whnf
        exact t_none
       ·conv => lhs; whnf
        refine t_cond ?_ ?_
        ·conv => lhs; whnf
         refine t_loop (fun (⟨v1132, w12⟩ : Int × (List Pt)) => (AV.lst oa ca 2 (List.map ep a) :: topA 6 (AV.ptr 0 0 0 6 :: topA 3 (AV.own 1 2 none false :: topA 99 (AV.lst oa ca 2 (List.map ep a) :: AV.int IntKind.i64 (ilen (List.map ep a)) :: AV.int IntKind.i64 v1132 :: tops 15))), [Blk.box (AV.agg [AV.int IntKind.i64 (wr IntKind.i64 (iadd (Prod.fst (Prod.snd r1)) (wr IntKind.i64 (imul (wr IntKind.i64 (iquo (wr IntKind.i64 (isub (irem (wr IntKind.i64 (iadd (irem (Prod.fst r9) (wr IntKind.i64 (isub 0 (Prod.snd r9)))) (wr IntKind.i64 (isub 0 (Prod.snd r9))))) (wr IntKind.i64 (isub 0 (Prod.snd r9)))) (Prod.fst r9))) (wr IntKind.i64 (isub 0 (Prod.snd r9))))) (wr IntKind.i64 (isub 0 (wr IntKind.i64 (iquo (wr IntKind.i64 (isub 0 (Prod.snd r))) (Prod.fst r1))))))))), AV.int IntKind.i64 (wr IntKind.i64 (iadd (Prod.snd (Prod.snd r1)) (wr IntKind.i64 (imul (wr IntKind.i64 (iquo (wr IntKind.i64 (isub (irem (wr IntKind.i64 (iadd (irem (Prod.fst r9) (wr IntKind.i64 (isub 0 (Prod.snd r9)))) (wr IntKind.i64 (isub 0 (Prod.snd r9))))) (wr IntKind.i64 (isub 0 (Prod.snd r9)))) (Prod.fst r9))) (wr IntKind.i64 (isub 0 (Prod.snd r9))))) (wr IntKind.i64 (isub 0 (wr IntKind.i64 (iquo (Prod.fst r) (Prod.fst r1))))))))), AV.int IntKind.i64 (wr IntKind.i64 (isub 0 (wr IntKind.i64 (iquo (wr IntKind.i64 (isub 0 (Prod.snd r))) (Prod.fst r1))))), AV.int IntKind.i64 (wr IntKind.i64 (isub 0 (wr IntKind.i64 (iquo (Prod.fst r) (Prod.fst r1))))), AV.int IntKind.i64 0, AV.int IntKind.i64 0]), Blk.rows Mode.live 2 (List.map ep w12)])) (fun m2 (⟨v1132, w12⟩ : Int × (List Pt)) => impl_frame_l2 L a r r1 r9 m2 v1132 w12) (fun _ => rfl) (fun m2 s2 rec2 hrec2 => ?_) L ((0, lrep 0 ({ x := 0, y := 0 }))) ?_ ?_
         rotate_left
         ·first | rfl | simp only [ml] <;> rfl
         ·first | rfl | simp only [ml] <;> rfl
         obtain ⟨v1132, w12⟩ := s2
         show _ = Option.map _ (impl_frame_l2 L a r r1 r9 (m2 + 1) v1132 w12)
         rw [impl_frame_l2.eq_2]
         conv => lhs; whnf
         refine t_cond ?_ ?_
         ·conv => lhs; whnf
          refine t_get (en := ep) (l := a) (by first | rfl | simp only [ml] <;> rfl) fun p10 => ?_
          conv => lhs; whnf
          refine t_get (en := ep) (l := a) (by first | rfl | simp only [ml] <;> rfl) fun p11 => ?_
          conv => lhs; whnf
          refine t_call (h_impl_Peg_less (Pt.x p10) (Pt.y p10) (Pt.x p11) (Pt.y p11)) fun r10 => ?_
          conv => lhs; whnf
          refine t_call (h_impl_Move_bring (wr IntKind.i64 (iadd (Prod.fst (Prod.snd r1)) (wr IntKind.i64 (imul (wr IntKind.i64 (iquo (wr IntKind.i64 (isub (irem (wr IntKind.i64 (iadd (irem (Prod.fst r9) (wr IntKind.i64 (isub 0 (Prod.snd r9)))) (wr IntKind.i64 (isub 0 (Prod.snd r9))))) (wr IntKind.i64 (isub 0 (Prod.snd r9)))) (Prod.fst r9))) (wr IntKind.i64 (isub 0 (Prod.snd r9))))) (wr IntKind.i64 (isub 0 (wr IntKind.i64 (iquo (wr IntKind.i64 (isub 0 (Prod.snd r))) (Prod.fst r1))))))))) (wr IntKind.i64 (iadd (Prod.snd (Prod.snd r1)) (wr IntKind.i64 (imul (wr IntKind.i64 (iquo (wr IntKind.i64 (isub (irem (wr IntKind.i64 (iadd (irem (Prod.fst r9) (wr IntKind.i64 (isub 0 (Prod.snd r9)))) (wr IntKind.i64 (isub 0 (Prod.snd r9))))) (wr IntKind.i64 (isub 0 (Prod.snd r9)))) (Prod.fst r9))) (wr IntKind.i64 (isub 0 (Prod.snd r9))))) (wr IntKind.i64 (isub 0 (wr IntKind.i64 (iquo (Prod.fst r) (Prod.fst r1))))))))) (wr IntKind.i64 (isub 0 (wr IntKind.i64 (iquo (wr IntKind.i64 (isub 0 (Prod.snd r))) (Prod.fst r1))))) (wr IntKind.i64 (isub 0 (wr IntKind.i64 (iquo (Prod.fst r) (Prod.fst r1))))) 0 0 (Prod.fst r10) (Prod.snd r10)) fun r11 => ?_
          conv => lhs; whnf
          refine t_cond ?_ ?_
          ·conv => lhs; whnf
           exact hrec2 ((wr IntKind.i64 (iadd v1132 1), lcat w12 ({ x := Prod.fst r11, y := Prod.snd r11 } :: []))) _ _ (by first | rfl | simp only [ml] <;> rfl) (by first | rfl | simp only [ml] <;> rfl)
          ·conv => lhs; whnf
           exact t_none
         ·conv => lhs; whnf
          exact t_ret (by first | rfl | simp only [ml] <;> rfl)
        ·conv => lhs; whnf
         exact t_none
    ·conv => lhs; whnf
     refine t_cond ?_ ?_
     ·conv => lhs; whnf
      exact t_none
     ·conv => lhs; whnf
      refine t_cond ?_ ?_
      ·conv => lhs; whnf
       exact t_none
      ·conv => lhs; whnf
       refine t_cond ?_ ?_
       ·conv => lhs; whnf
        exact t_none
       ·conv => lhs; whnf
        refine t_cond ?_ ?_
        ·conv => lhs; whnf
         refine t_loop (fun (⟨v1133, w13⟩ : Int × (List Pt)) => (AV.lst oa ca 2 (List.map ep a) :: topA 6 (AV.ptr 0 0 0 6 :: topA 3 (AV.own 1 2 none false :: topA 99 (AV.lst oa ca 2 (List.map ep a) :: AV.int IntKind.i64 (ilen (List.map ep a)) :: AV.int IntKind.i64 v1133 :: tops 15))), [Blk.box (AV.agg [AV.int IntKind.i64 (wr IntKind.i64 (iadd (Prod.fst (Prod.snd r1)) (wr IntKind.i64 (imul (wr IntKind.i64 (iquo (wr IntKind.i64 (isub (irem (wr IntKind.i64 (iadd (irem (Prod.fst r9) (Prod.snd r9)) (Prod.snd r9))) (Prod.snd r9)) (Prod.fst r9))) (Prod.snd r9))) (wr IntKind.i64 (iquo (wr IntKind.i64 (isub 0 (Prod.snd r))) (Prod.fst r1))))))), AV.int IntKind.i64 (wr IntKind.i64 (iadd (Prod.snd (Prod.snd r1)) (wr IntKind.i64 (imul (wr IntKind.i64 (iquo (wr IntKind.i64 (isub (irem (wr IntKind.i64 (iadd (irem (Prod.fst r9) (Prod.snd r9)) (Prod.snd r9))) (Prod.snd r9)) (Prod.fst r9))) (Prod.snd r9))) (wr IntKind.i64 (iquo (Prod.fst r) (Prod.fst r1))))))), AV.int IntKind.i64 (wr IntKind.i64 (iquo (wr IntKind.i64 (isub 0 (Prod.snd r))) (Prod.fst r1))), AV.int IntKind.i64 (wr IntKind.i64 (iquo (Prod.fst r) (Prod.fst r1))), AV.int IntKind.i64 0, AV.int IntKind.i64 0]), Blk.rows Mode.live 2 (List.map ep w13)])) (fun m3 (⟨v1133, w13⟩ : Int × (List Pt)) => impl_frame_l3 L a r r1 r9 m3 v1133 w13) (fun _ => rfl) (fun m3 s3 rec3 hrec3 => ?_) L ((0, lrep 0 ({ x := 0, y := 0 }))) ?_ ?_
         rotate_left
         ·first | rfl | simp only [ml] <;> rfl
         ·first | rfl | simp only [ml] <;> rfl
         obtain ⟨v1133, w13⟩ := s3
         show _ = Option.map _ (impl_frame_l3 L a r r1 r9 (m3 + 1) v1133 w13)
         rw [impl_frame_l3.eq_2]
         conv => lhs; whnf
         refine t_cond ?_ ?_
         ·conv => lhs; whnf
          refine t_get (en := ep) (l := a) (by first | rfl | simp only [ml] <;> rfl) fun p12 => ?_
          conv => lhs; whnf
          refine t_get (en := ep) (l := a) (by first | rfl | simp only [ml] <;> rfl) fun p13 => ?_
          conv => lhs; whnf
          refine t_call (h_impl_Peg_less (Pt.x p12) (Pt.y p12) (Pt.x p13) (Pt.y p13)) fun r12 => ?_
          conv => lhs; whnf
          refine t_call (h_impl_Move_bring (wr IntKind.i64 (iadd (Prod.fst (Prod.snd r1)) (wr IntKind.i64 (imul (wr IntKind.i64 (iquo (wr IntKind.i64 (isub (irem (wr IntKind.i64 (iadd (irem (Prod.fst r9) (Prod.snd r9)) (Prod.snd r9))) (Prod.snd r9)) (Prod.fst r9))) (Prod.snd r9))) (wr IntKind.i64 (iquo (wr IntKind.i64 (isub 0 (Prod.snd r))) (Prod.fst r1))))))) (wr IntKind.i64 (iadd (Prod.snd (Prod.snd r1)) (wr IntKind.i64 (imul (wr IntKind.i64 (iquo (wr IntKind.i64 (isub (irem (wr IntKind.i64 (iadd (irem (Prod.fst r9) (Prod.snd r9)) (Prod.snd r9))) (Prod.snd r9)) (Prod.fst r9))) (Prod.snd r9))) (wr IntKind.i64 (iquo (Prod.fst r) (Prod.fst r1))))))) (wr IntKind.i64 (iquo (wr IntKind.i64 (isub 0 (Prod.snd r))) (Prod.fst r1))) (wr IntKind.i64 (iquo (Prod.fst r) (Prod.fst r1))) 0 0 (Prod.fst r12) (Prod.snd r12)) fun r13 => ?_
          conv => lhs; whnf
          refine t_cond ?_ ?_
          ·conv => lhs; whnf
           exact hrec3 ((wr IntKind.i64 (iadd v1133 1), lcat w13 ({ x := Prod.fst r13, y := Prod.snd r13 } :: []))) _ _ (by first | rfl | simp only [ml] <;> rfl) (by first | rfl | simp only [ml] <;> rfl)
          ·conv => lhs; whnf
           exact t_none
         ·conv => lhs; whnf
          exact t_ret (by first | rfl | simp only [ml] <;> rfl)
        ·conv => lhs; whnf
         exact t_none


noncomputable def spec_trSquare (L : Nat) (a_0 : Int) (a_1 : Int) (b_0 : Int) (b_1 : Int) : Option (Int) := some (wr IntKind.i64 (iadd (wr IntKind.i64 (imul (wr IntKind.i64 (isub a_0 b_0)) (wr IntKind.i64 (isub a_0 b_0)))) (wr IntKind.i64 (imul (wr IntKind.i64 (isub a_1 b_1)) (wr IntKind.i64 (isub a_1 b_1))))))


def spec_trSquare_ok (L : Nat) (C : CF) : Prop := ∀ (a_0 : Int) (a_1 : Int) (b_0 : Int) (b_1 : Int), C 210 ([.agg [.int .i64 a_0, .int .i64 a_1], .agg [.int .i64 b_0, .int .i64 b_1]]) ([]) = Option.map (fun r : Int => ((.int .i64 r, []) : AV × List Blk)) (spec_trSquare L a_0 a_1 b_0 b_1)


theorem spec_trSquare_run (L : Nat) (C : CF) : ∀ (a_0 : Int) (a_1 : Int) (b_0 : Int) (b_1 : Int), run T C sh (keep 210) L Try.f210 ([.agg [.int .i64 a_0, .int .i64 a_1], .agg [.int .i64 b_0, .int .i64 b_1]]) ([]) = Option.map (fun r : Int => ((.int .i64 r, []) : AV × List Blk)) (spec_trSquare L a_0 a_1 b_0 b_1) := by
 intro a_0 a_1 b_0 b_1
 unfold spec_trSquare
 conv => lhs; whnf
 exact t_ret (by first | rfl | simp only [ml] <;> rfl)


noncomputable def impl_Peg_square (L : Nat) (a_0 : Int) (a_1 : Int) : Option (Int) := some (wr IntKind.i64 (iadd (wr IntKind.i64 (imul a_0 a_0)) (wr IntKind.i64 (imul a_1 a_1))))


def impl_Peg_square_ok (L : Nat) (C : CF) : Prop := ∀ (a_0 : Int) (a_1 : Int), C 200 ([.agg [.int .i64 a_0, .int .i64 a_1]]) ([]) = Option.map (fun r : Int => ((.int .i64 r, []) : AV × List Blk)) (impl_Peg_square L a_0 a_1)


theorem impl_Peg_square_run (L : Nat) (C : CF) : ∀ (a_0 : Int) (a_1 : Int), run T C sh (keep 200) L Try.f200 ([.agg [.int .i64 a_0, .int .i64 a_1]]) ([]) = Option.map (fun r : Int => ((.int .i64 r, []) : AV × List Blk)) (impl_Peg_square L a_0 a_1) := by
 intro a_0 a_1
 unfold impl_Peg_square
 conv => lhs; whnf
 exact t_ret (by first | rfl | simp only [ml] <;> rfl)


noncomputable def spec_l1Least (L : Nat) (a : Int) (b : Int) : Option (Int) := bif ilt a b then (some a) else (some b)


def spec_l1Least_ok (L : Nat) (C : CF) : Prop := ∀ (a : Int) (b : Int), C 201 ([.int .i64 a, .int .i64 b]) ([]) = Option.map (fun r : Int => ((.int .i64 r, []) : AV × List Blk)) (spec_l1Least L a b)


theorem spec_l1Least_run (L : Nat) (C : CF) : ∀ (a : Int) (b : Int), run T C sh (keep 201) L Try.f201 ([.int .i64 a, .int .i64 b]) ([]) = Option.map (fun r : Int => ((.int .i64 r, []) : AV × List Blk)) (spec_l1Least L a b) := by
 intro a b
 unfold spec_l1Least
 conv => lhs; whnf
 refine t_cond ?_ ?_
 ·conv => lhs; whnf
  exact t_ret (by first | rfl | simp only [ml] <;> rfl)
 ·conv => lhs; whnf
  exact t_ret (by first | rfl | simp only [ml] <;> rfl)


noncomputable def laws_big (L : Nat) (a : List Int) (b : List Int) : Option (Bool) := bif ilt 1048576 (ilen (List.map eU a)) then (some true) else (some (ilt (wr IntKind.i64 (isub 1048576 (ilen (List.map eU a)))) (ilen (List.map eU b))))


def laws_big_ok (L : Nat) (C : CF) : Prop := ∀ (oa : Bool) (ca : Bool) (x_a : List AV) (a : List Int) (_ : x_a = List.map eU a) (ob : Bool) (cb : Bool) (x_b : List AV) (b : List Int) (_ : x_b = List.map eU b), C 15 ([.lst oa ca 1 x_a, .lst ob cb 1 x_b]) ([]) = Option.map (fun r : Bool => ((.bool r, []) : AV × List Blk)) (laws_big L a b)


theorem laws_big_run (L : Nat) (C : CF) : ∀ (oa : Bool) (ca : Bool) (x_a : List AV) (a : List Int) (_ : x_a = List.map eU a) (ob : Bool) (cb : Bool) (x_b : List AV) (b : List Int) (_ : x_b = List.map eU b), run T C sh (keep 15) L Try.f15 ([.lst oa ca 1 x_a, .lst ob cb 1 x_b]) ([]) = Option.map (fun r : Bool => ((.bool r, []) : AV × List Blk)) (laws_big L a b) := by
 intro oa ca x_a a hx_a ob cb x_b b hx_b
 subst hx_a
 subst hx_b
 unfold laws_big
 conv => lhs; whnf
 refine t_cond ?_ ?_
 ·conv => lhs; whnf
  exact t_ret (by first | rfl | simp only [ml] <;> rfl)
 ·conv => lhs; whnf
  exact t_ret (by first | rfl | simp only [ml] <;> rfl)


noncomputable def spec_l1Cur_next (L : Nat) (a_0 : List Int) (a_1 : Int) (a_2 : Int) : Option (Int × Int × Int) := bif ilt a_1 (ilen (List.map eU a_0)) then (gbind (lget a_0 a_1) fun p => bif ile (wr IntKind.i64 (iadd a_1 1)) (ilen (List.map eU a_0)) then (some ((wr IntKind.i64 p, wr IntKind.i64 (iadd a_1 1), wr IntKind.u64 (iadd (wr IntKind.u64 (iadd (wr IntKind.u64 (imul a_2 6364136223846793005)) (wr IntKind.u64 (wr IntKind.i64 p)))) 1442695040888963407)))) else (bif ilt 40 0 then (none) else (some ((wr IntKind.i64 (iand IntKind.u64 (ishr IntKind.u64 (wr IntKind.u64 (iadd (wr IntKind.u64 (iadd (wr IntKind.u64 (imul a_2 6364136223846793005)) (wr IntKind.u64 (wr IntKind.i64 p)))) 1442695040888963407)) 40) 255), wr IntKind.i64 (iadd a_1 1), wr IntKind.u64 (iadd (wr IntKind.u64 (iadd (wr IntKind.u64 (imul a_2 6364136223846793005)) (wr IntKind.u64 (wr IntKind.i64 p)))) 1442695040888963407)))))) else (bif ile (wr IntKind.i64 (iadd a_1 1)) (ilen (List.map eU a_0)) then (some ((0, wr IntKind.i64 (iadd a_1 1), wr IntKind.u64 (iadd (wr IntKind.u64 (iadd (wr IntKind.u64 (imul a_2 6364136223846793005)) (wr IntKind.u64 0))) 1442695040888963407)))) else (bif ilt 40 0 then (none) else (some ((wr IntKind.i64 (iand IntKind.u64 (ishr IntKind.u64 (wr IntKind.u64 (iadd (wr IntKind.u64 (iadd (wr IntKind.u64 (imul a_2 6364136223846793005)) (wr IntKind.u64 0))) 1442695040888963407)) 40) 255), wr IntKind.i64 (iadd a_1 1), wr IntKind.u64 (iadd (wr IntKind.u64 (iadd (wr IntKind.u64 (imul a_2 6364136223846793005)) (wr IntKind.u64 0))) 1442695040888963407))))))


def spec_l1Cur_next_ok (L : Nat) (C : CF) : Prop := ∀ (oa_0 : Bool) (ca_0 : Bool) (x_a_0 : List AV) (a_0 : List Int) (_ : x_a_0 = List.map eU a_0) (a_1 : Int) (a_2 : Int), C 222 ([.ptr 0 0 0 3]) ([.box (.agg [.lst oa_0 ca_0 1 x_a_0, .int .i64 a_1, .int .u64 a_2])]) = Option.map (fun r : Int × Int × Int => ((.int .i64 (r.1), [.box (.agg [.lst oa_0 ca_0 1 x_a_0, .int .i64 (r.2.1), .int .u64 (r.2.2)])]) : AV × List Blk)) (spec_l1Cur_next L a_0 a_1 a_2)


theorem spec_l1Cur_next_run (L : Nat) (C : CF) : ∀ (oa_0 : Bool) (ca_0 : Bool) (x_a_0 : List AV) (a_0 : List Int) (_ : x_a_0 = List.map eU a_0) (a_1 : Int) (a_2 : Int), run T C sh (keep 222) L Try.f222 ([.ptr 0 0 0 3]) ([.box (.agg [.lst oa_0 ca_0 1 x_a_0, .int .i64 a_1, .int .u64 a_2])]) = Option.map (fun r : Int × Int × Int => ((.int .i64 (r.1), [.box (.agg [.lst oa_0 ca_0 1 x_a_0, .int .i64 (r.2.1), .int .u64 (r.2.2)])]) : AV × List Blk)) (spec_l1Cur_next L a_0 a_1 a_2) := by
 intro oa_0 ca_0 x_a_0 a_0 hx_a_0 a_1 a_2
 subst hx_a_0
 unfold spec_l1Cur_next
 conv => lhs; whnf
 refine t_cond ?_ ?_
 ·conv => lhs; whnf
  refine t_get (en := eU) (l := a_0) (by first | rfl | simp only [ml] <;> rfl) fun p => ?_
  conv => lhs; whnf
  refine t_cond ?_ ?_
  ·conv => lhs; whnf
   exact t_ret (by first | rfl | simp only [ml] <;> rfl)
  ·conv => lhs; whnf
   refine t_cond ?_ ?_
   ·conv => lhs; whnf
    exact t_none
   ·conv => lhs; whnf
    exact t_ret (by first | rfl | simp only [ml] <;> rfl)
 ·conv => lhs; whnf
  refine t_cond ?_ ?_
  ·conv => lhs; whnf
   exact t_ret (by first | rfl | simp only [ml] <;> rfl)
  ·conv => lhs; whnf
   refine t_cond ?_ ?_
   ·conv => lhs; whnf
    exact t_none
   ·conv => lhs; whnf
    exact t_ret (by first | rfl | simp only [ml] <;> rfl)


noncomputable def spec_l1Cur_pick (L : Nat) (a_0 : List Int) (a_1 : Int) (a_2 : Int) (b : Int) : Option (Int × Int × Int) := bif ile b 1 then (some ((0, a_1, a_2))) else (gbind (spec_l1Cur_next L a_0 a_1 a_2) fun r => bif ilt 200 b then (gbind (spec_l1Cur_next L a_0 (Prod.fst (Prod.snd r)) (Prod.snd (Prod.snd r))) fun r1 => bif ieq b 0 then (none) else (some ((irem (wr IntKind.i64 (iadd (wr IntKind.i64 (imul (Prod.fst r) 256)) (Prod.fst r1))) b, Prod.fst (Prod.snd r1), Prod.snd (Prod.snd r1))))) else (bif ieq b 0 then (none) else (some ((irem (Prod.fst r) b, Prod.fst (Prod.snd r), Prod.snd (Prod.snd r))))))


def spec_l1Cur_pick_ok (L : Nat) (C : CF) : Prop := ∀ (oa_0 : Bool) (ca_0 : Bool) (x_a_0 : List AV) (a_0 : List Int) (_ : x_a_0 = List.map eU a_0) (a_1 : Int) (a_2 : Int) (b : Int), C 140 ([.ptr 0 0 0 3, .int .i64 b]) ([.box (.agg [.lst oa_0 ca_0 1 x_a_0, .int .i64 a_1, .int .u64 a_2])]) = Option.map (fun r : Int × Int × Int => ((.int .i64 (r.1), [.box (.agg [.lst oa_0 ca_0 1 x_a_0, .int .i64 (r.2.1), .int .u64 (r.2.2)])]) : AV × List Blk)) (spec_l1Cur_pick L a_0 a_1 a_2 b)


theorem spec_l1Cur_pick_run (L : Nat) (C : CF) (h_spec_l1Cur_next : spec_l1Cur_next_ok L C) : ∀ (oa_0 : Bool) (ca_0 : Bool) (x_a_0 : List AV) (a_0 : List Int) (_ : x_a_0 = List.map eU a_0) (a_1 : Int) (a_2 : Int) (b : Int), run T C sh (keep 140) L Try.f140 ([.ptr 0 0 0 3, .int .i64 b]) ([.box (.agg [.lst oa_0 ca_0 1 x_a_0, .int .i64 a_1, .int .u64 a_2])]) = Option.map (fun r : Int × Int × Int => ((.int .i64 (r.1), [.box (.agg [.lst oa_0 ca_0 1 x_a_0, .int .i64 (r.2.1), .int .u64 (r.2.2)])]) : AV × List Blk)) (spec_l1Cur_pick L a_0 a_1 a_2 b) := by
 intro oa_0 ca_0 x_a_0 a_0 hx_a_0 a_1 a_2 b
 subst hx_a_0
 unfold spec_l1Cur_pick
 conv => lhs; whnf
 refine t_cond ?_ ?_
 ·conv => lhs; whnf
  exact t_ret (by first | rfl | simp only [ml] <;> rfl)
 ·conv => lhs; whnf
  refine t_call (h_spec_l1Cur_next _ _ _ a_0 (by first | rfl | simp only [ml] <;> rfl) a_1 a_2) fun r => ?_
  conv => lhs; whnf
  refine t_cond ?_ ?_
  ·conv => lhs; whnf
   refine t_call (h_spec_l1Cur_next _ _ _ a_0 (by first | rfl | simp only [ml] <;> rfl) (Prod.fst (Prod.snd r)) (Prod.snd (Prod.snd r))) fun r1 => ?_
   conv => lhs; whnf
   refine t_cond ?_ ?_
   ·conv => lhs; whnf
    exact t_none
   ·conv => lhs; whnf
    exact t_ret (by first | rfl | simp only [ml] <;> rfl)
  ·conv => lhs; whnf
   refine t_cond ?_ ?_
   ·conv => lhs; whnf
    exact t_none
   ·conv => lhs; whnf
    exact t_ret (by first | rfl | simp only [ml] <;> rfl)


noncomputable def spec_l1Cur_among_v2 (L : Nat) (b0_0 : List Int) (b0_1 : Int) (b0_2 : Int) (w1 : List Int) : Option (Int × Int × Int × (List Int)) := gbind (spec_l1Cur_pick L b0_0 b0_1 b0_2 (ilen (List.map eI w1))) fun r => bif ile 0 (Prod.fst r) && ilt (Prod.fst r) (ilen (List.map eI w1)) then (gbind (lget w1 (Prod.fst r)) fun p => some ((p, Prod.fst (Prod.snd r), Prod.snd (Prod.snd r), w1))) else (none)


def spec_l1Cur_among_v2_ok (L : Nat) (C : CF) : Prop := ∀ (ob0_0 : Bool) (cb0_0 : Bool) (x_b0_0 : List AV) (b0_0 : List Int) (_ : x_b0_0 = List.map eU b0_0) (b0_1 : Int) (b0_2 : Int) (x_w1 : List AV) (w1 : List Int) (_ : x_w1 = List.map eI w1), C 144 ([(.ptr 0 0 0 3), (.own 1 1 none false)]) ([.box (.agg [(.lst ob0_0 cb0_0 1 x_b0_0), (.int .i64 b0_1), (.int .u64 b0_2)]), .rows .live 1 x_w1]) = Option.map (fun r : Int × Int × Int × (List Int) => ((.int .i64 (r.1), [.box (.agg [(.lst ob0_0 cb0_0 1 x_b0_0), (.int .i64 (r.2.1)), (.int .u64 (r.2.2.1))]), .rows .live 1 (List.map eI (r.2.2.2))]) : AV × List Blk)) (spec_l1Cur_among_v2 L b0_0 b0_1 b0_2 w1)


theorem spec_l1Cur_among_v2_run (L : Nat) (C : CF) (h_spec_l1Cur_pick : spec_l1Cur_pick_ok L C) : ∀ (ob0_0 : Bool) (cb0_0 : Bool) (x_b0_0 : List AV) (b0_0 : List Int) (_ : x_b0_0 = List.map eU b0_0) (b0_1 : Int) (b0_2 : Int) (x_w1 : List AV) (w1 : List Int) (_ : x_w1 = List.map eI w1), run T C sh (keep 144) L Try.f144 ([(.ptr 0 0 0 3), (.own 1 1 none false)]) ([.box (.agg [(.lst ob0_0 cb0_0 1 x_b0_0), (.int .i64 b0_1), (.int .u64 b0_2)]), .rows .live 1 x_w1]) = Option.map (fun r : Int × Int × Int × (List Int) => ((.int .i64 (r.1), [.box (.agg [(.lst ob0_0 cb0_0 1 x_b0_0), (.int .i64 (r.2.1)), (.int .u64 (r.2.2.1))]), .rows .live 1 (List.map eI (r.2.2.2))]) : AV × List Blk)) (spec_l1Cur_among_v2 L b0_0 b0_1 b0_2 w1) := by
 intro ob0_0 cb0_0 x_b0_0 b0_0 hx_b0_0 b0_1 b0_2 x_w1 w1 hx_w1
 subst hx_b0_0
 subst hx_w1
 unfold spec_l1Cur_among_v2
 conv => lhs; whnf
 refine t_call (h_spec_l1Cur_pick _ _ _ b0_0 (by first | rfl | simp only [ml] <;> rfl) b0_1 b0_2 (ilen (List.map eI w1))) fun r => ?_
 conv => lhs; whnf
 refine t_cond ?_ ?_
 ·conv => lhs; whnf
  refine t_get (en := eI) (l := w1) (by first | rfl | simp only [ml] <;> rfl) fun p => ?_
  conv => lhs; whnf
  exact t_ret (by first | rfl | simp only [ml] <;> rfl)
 ·conv => lhs; whnf
  exact t_none


noncomputable def spec_l1Cur_surePeg (L : Nat) (a_0 : List Int) (a_1 : Int) (a_2 : Int) (b : Int) : Option (Int × Int × Int × Int) := gbind (spec_l1Cur_pick L a_0 a_1 a_2 (wr IntKind.i64 (iadd (wr IntKind.i64 (imul 2 b)) 1))) fun r => gbind (spec_l1Cur_pick L a_0 (Prod.fst (Prod.snd r)) (Prod.snd (Prod.snd r)) (wr IntKind.i64 (iadd (wr IntKind.i64 (imul 2 b)) 1))) fun r1 => some ((wr IntKind.i64 (isub (Prod.fst r) b), wr IntKind.i64 (isub (Prod.fst r1) b), Prod.fst (Prod.snd r1), Prod.snd (Prod.snd r1)))


def spec_l1Cur_surePeg_ok (L : Nat) (C : CF) : Prop := ∀ (oa_0 : Bool) (ca_0 : Bool) (x_a_0 : List AV) (a_0 : List Int) (_ : x_a_0 = List.map eU a_0) (a_1 : Int) (a_2 : Int) (b : Int), C 143 ([.ptr 0 0 0 3, .int .i64 b]) ([.box (.agg [.lst oa_0 ca_0 1 x_a_0, .int .i64 a_1, .int .u64 a_2])]) = Option.map (fun r : Int × Int × Int × Int => ((.agg [.int .i64 (r.1), .int .i64 (r.2.1)], [.box (.agg [.lst oa_0 ca_0 1 x_a_0, .int .i64 (r.2.2.1), .int .u64 (r.2.2.2)])]) : AV × List Blk)) (spec_l1Cur_surePeg L a_0 a_1 a_2 b)


theorem spec_l1Cur_surePeg_run (L : Nat) (C : CF) (h_spec_l1Cur_pick : spec_l1Cur_pick_ok L C) : ∀ (oa_0 : Bool) (ca_0 : Bool) (x_a_0 : List AV) (a_0 : List Int) (_ : x_a_0 = List.map eU a_0) (a_1 : Int) (a_2 : Int) (b : Int), run T C sh (keep 143) L Try.f143 ([.ptr 0 0 0 3, .int .i64 b]) ([.box (.agg [.lst oa_0 ca_0 1 x_a_0, .int .i64 a_1, .int .u64 a_2])]) = Option.map (fun r : Int × Int × Int × Int => ((.agg [.int .i64 (r.1), .int .i64 (r.2.1)], [.box (.agg [.lst oa_0 ca_0 1 x_a_0, .int .i64 (r.2.2.1), .int .u64 (r.2.2.2)])]) : AV × List Blk)) (spec_l1Cur_surePeg L a_0 a_1 a_2 b) := by
 intro oa_0 ca_0 x_a_0 a_0 hx_a_0 a_1 a_2 b
 subst hx_a_0
 unfold spec_l1Cur_surePeg
 conv => lhs; whnf
 refine t_call (h_spec_l1Cur_pick _ _ _ a_0 (by first | rfl | simp only [ml] <;> rfl) a_1 a_2 (wr IntKind.i64 (iadd (wr IntKind.i64 (imul 2 b)) 1))) fun r => ?_
 conv => lhs; whnf
 refine t_call (h_spec_l1Cur_pick _ _ _ a_0 (by first | rfl | simp only [ml] <;> rfl) (Prod.fst (Prod.snd r)) (Prod.snd (Prod.snd r)) (wr IntKind.i64 (iadd (wr IntKind.i64 (imul 2 b)) 1))) fun r1 => ?_
 conv => lhs; whnf
 exact t_ret (by first | rfl | simp only [ml] <;> rfl)


noncomputable def spec_l1Cur_one (L : Nat) (a_0 : List Int) (a_1 : Int) (a_2 : Int) (b : Int) : Option (Bool × Int × Int) := gbind (spec_l1Cur_pick L a_0 a_1 a_2 b) fun r => some ((ieq (Prod.fst r) 0, Prod.fst (Prod.snd r), Prod.snd (Prod.snd r)))


def spec_l1Cur_one_ok (L : Nat) (C : CF) : Prop := ∀ (oa_0 : Bool) (ca_0 : Bool) (x_a_0 : List AV) (a_0 : List Int) (_ : x_a_0 = List.map eU a_0) (a_1 : Int) (a_2 : Int) (b : Int), C 138 ([.ptr 0 0 0 3, .int .i64 b]) ([.box (.agg [.lst oa_0 ca_0 1 x_a_0, .int .i64 a_1, .int .u64 a_2])]) = Option.map (fun r : Bool × Int × Int => ((.bool (r.1), [.box (.agg [.lst oa_0 ca_0 1 x_a_0, .int .i64 (r.2.1), .int .u64 (r.2.2)])]) : AV × List Blk)) (spec_l1Cur_one L a_0 a_1 a_2 b)


theorem spec_l1Cur_one_run (L : Nat) (C : CF) (h_spec_l1Cur_pick : spec_l1Cur_pick_ok L C) : ∀ (oa_0 : Bool) (ca_0 : Bool) (x_a_0 : List AV) (a_0 : List Int) (_ : x_a_0 = List.map eU a_0) (a_1 : Int) (a_2 : Int) (b : Int), run T C sh (keep 138) L Try.f138 ([.ptr 0 0 0 3, .int .i64 b]) ([.box (.agg [.lst oa_0 ca_0 1 x_a_0, .int .i64 a_1, .int .u64 a_2])]) = Option.map (fun r : Bool × Int × Int => ((.bool (r.1), [.box (.agg [.lst oa_0 ca_0 1 x_a_0, .int .i64 (r.2.1), .int .u64 (r.2.2)])]) : AV × List Blk)) (spec_l1Cur_one L a_0 a_1 a_2 b) := by
 intro oa_0 ca_0 x_a_0 a_0 hx_a_0 a_1 a_2 b
 subst hx_a_0
 unfold spec_l1Cur_one
 conv => lhs; whnf
 refine t_call (h_spec_l1Cur_pick _ _ _ a_0 (by first | rfl | simp only [ml] <;> rfl) a_1 a_2 b) fun r => ?_
 conv => lhs; whnf
 exact t_ret (by first | rfl | simp only [ml] <;> rfl)


noncomputable def spec_l1Cur_surePolygon_l0 (L : Nat) (a_0 : List Int) (b : Int) : Nat → Int → Int → Int → (List Pt) → Option ((List Pt) × Int × Int)
  | 0, _, _, _, _ => none
  | m + 1, v8, b0_1, b0_2, w1 => bif ilt 0 v8 then (gbind (spec_l1Cur_pick L a_0 b0_1 b0_2 (ilen (List.map ep w1))) fun r4 => bif ile 0 (wr IntKind.i64 (iadd 1 (Prod.fst r4))) && ile (wr IntKind.i64 (iadd 1 (Prod.fst r4))) (ilen (List.map ep w1)) then (bif fits (iadd (ilen ([] : List AV)) (ilen (lsub (List.map ep w1) 0 (iadd 0 (wr IntKind.i64 (iadd 1 (Prod.fst r4))))))) 16 then (gbind (spec_l1Cur_surePeg L a_0 (Prod.fst (Prod.snd r4)) (Prod.snd (Prod.snd r4)) b) fun r5 => bif fits (iadd (ilen (lcat [] (lsub (List.map ep w1) 0 (iadd 0 (wr IntKind.i64 (iadd 1 (Prod.fst r4))))))) (ilen [AV.agg [AV.int IntKind.i64 (Prod.fst r5), AV.int IntKind.i64 (Prod.fst (Prod.snd r5))]])) 16 then (bif ile 0 (wr IntKind.i64 (iadd 1 (Prod.fst r4))) && ile (wr IntKind.i64 (iadd 1 (Prod.fst r4))) (ilen (List.map ep w1)) then (bif fits (iadd (ilen (lcat (lcat [] (lsub (List.map ep w1) 0 (iadd 0 (wr IntKind.i64 (iadd 1 (Prod.fst r4)))))) [AV.agg [AV.int IntKind.i64 (Prod.fst r5), AV.int IntKind.i64 (Prod.fst (Prod.snd r5))]])) (ilen (lsub (List.map ep w1) (wr IntKind.i64 (iadd 1 (Prod.fst r4))) (iadd (wr IntKind.i64 (iadd 1 (Prod.fst r4))) (isub (ilen (List.map ep w1)) (wr IntKind.i64 (iadd 1 (Prod.fst r4)))))))) 16 then (gbind (spec_pgGood L (lcat (lcat (lcat [] (lsub w1 0 (iadd 0 (wr IntKind.i64 (iadd 1 (Prod.fst r4)))))) ({ x := Prod.fst r5, y := Prod.fst (Prod.snd r5) } :: [])) (lsub w1 (wr IntKind.i64 (iadd 1 (Prod.fst r4))) (iadd (wr IntKind.i64 (iadd 1 (Prod.fst r4))) (isub (ilen (List.map ep w1)) (wr IntKind.i64 (iadd 1 (Prod.fst r4)))))))) fun r6 => bif r6 then (spec_l1Cur_surePolygon_l0 L a_0 b m (wr IntKind.i64 (isub v8 1)) (Prod.fst (Prod.snd (Prod.snd r5))) (Prod.snd (Prod.snd (Prod.snd r5))) (lcat (lcat (lcat [] (lsub w1 0 (iadd 0 (wr IntKind.i64 (iadd 1 (Prod.fst r4)))))) ({ x := Prod.fst r5, y := Prod.fst (Prod.snd r5) } :: [])) (lsub w1 (wr IntKind.i64 (iadd 1 (Prod.fst r4))) (iadd (wr IntKind.i64 (iadd 1 (Prod.fst r4))) (isub (ilen (List.map ep w1)) (wr IntKind.i64 (iadd 1 (Prod.fst r4)))))))) else (spec_l1Cur_surePolygon_l0 L a_0 b m (wr IntKind.i64 (isub v8 1)) (Prod.fst (Prod.snd (Prod.snd r5))) (Prod.snd (Prod.snd (Prod.snd r5))) w1)) else (none)) else (none)) else (none)) else (none)) else (none)) else (gbind (spec_l1Cur_one L a_0 b0_1 b0_2 3) fun r7 => bif Prod.fst r7 then (gbind (spec_pgBack L w1) fun r8 => some ((r8, Prod.fst (Prod.snd r7), Prod.snd (Prod.snd r7)))) else (some ((w1, Prod.fst (Prod.snd r7), Prod.snd (Prod.snd r7)))))


noncomputable def spec_l1Cur_surePolygon (L : Nat) (a_0 : List Int) (a_1 : Int) (a_2 : Int) (b : Int) (c : Int) : Option ((List Pt) × Int × Int) := gbind (spec_l1Cur_pick L a_0 a_1 a_2 b) fun r => gbind (spec_l1Cur_pick L a_0 (Prod.fst (Prod.snd r)) (Prod.snd (Prod.snd r)) (wr IntKind.i64 (iadd b 1))) fun r1 => gbind (spec_l1Cur_pick L a_0 (Prod.fst (Prod.snd r1)) (Prod.snd (Prod.snd r1)) b) fun r2 => gbind (spec_l1Cur_pick L a_0 (Prod.fst (Prod.snd r2)) (Prod.snd (Prod.snd r2)) (wr IntKind.i64 (isub c 1))) fun r3 => spec_l1Cur_surePolygon_l0 L a_0 b L (Prod.fst r3) (Prod.fst (Prod.snd r3)) (Prod.snd (Prod.snd r3)) ({ x := 0, y := 0 } :: ({ x := wr IntKind.i64 (iadd 1 (Prod.fst r)), y := 0 } :: ({ x := Prod.fst r1, y := wr IntKind.i64 (iadd 1 (Prod.fst r2)) } :: [])))


def spec_l1Cur_surePolygon_ok (L : Nat) (C : CF) : Prop := ∀ (oa_0 : Bool) (ca_0 : Bool) (x_a_0 : List AV) (a_0 : List Int) (_ : x_a_0 = List.map eU a_0) (a_1 : Int) (a_2 : Int) (b : Int) (c : Int), C 240 ([.ptr 0 0 0 3, .int .i64 b, .int .i64 c]) ([.box (.agg [.lst oa_0 ca_0 1 x_a_0, .int .i64 a_1, .int .u64 a_2])]) = Option.map (fun r : (List Pt) × Int × Int => ((.frs 2 (List.map ep (r.1)), [.box (.agg [.lst oa_0 ca_0 1 x_a_0, .int .i64 (r.2.1), .int .u64 (r.2.2)])]) : AV × List Blk)) (spec_l1Cur_surePolygon L a_0 a_1 a_2 b c)


theorem spec_l1Cur_surePolygon_run (L : Nat) (C : CF) (h_spec_pgGood : spec_pgGood_ok L C) (h_spec_pgBack : spec_pgBack_ok L C) (h_spec_l1Cur_pick : spec_l1Cur_pick_ok L C) (h_spec_l1Cur_surePeg : spec_l1Cur_surePeg_ok L C) (h_spec_l1Cur_one : spec_l1Cur_one_ok L C) : ∀ (oa_0 : Bool) (ca_0 : Bool) (x_a_0 : List AV) (a_0 : List Int) (_ : x_a_0 = List.map eU a_0) (a_1 : Int) (a_2 : Int) (b : Int) (c : Int), run T C sh (keep 240) L Try.f240 ([.ptr 0 0 0 3, .int .i64 b, .int .i64 c]) ([.box (.agg [.lst oa_0 ca_0 1 x_a_0, .int .i64 a_1, .int .u64 a_2])]) = Option.map (fun r : (List Pt) × Int × Int => ((.frs 2 (List.map ep (r.1)), [.box (.agg [.lst oa_0 ca_0 1 x_a_0, .int .i64 (r.2.1), .int .u64 (r.2.2)])]) : AV × List Blk)) (spec_l1Cur_surePolygon L a_0 a_1 a_2 b c) := by
 intro oa_0 ca_0 x_a_0 a_0 hx_a_0 a_1 a_2 b c
 subst hx_a_0
 unfold spec_l1Cur_surePolygon
 conv => lhs; whnf
 refine t_call (h_spec_l1Cur_pick _ _ _ a_0 (by first | rfl | simp only [ml] <;> rfl) a_1 a_2 b) fun r => ?_
 conv => lhs; whnf
 refine t_call (h_spec_l1Cur_pick _ _ _ a_0 (by first | rfl | simp only [ml] <;> rfl) (Prod.fst (Prod.snd r)) (Prod.snd (Prod.snd r)) (wr IntKind.i64 (iadd b 1))) fun r1 => ?_
 conv => lhs; whnf
 refine t_call (h_spec_l1Cur_pick _ _ _ a_0 (by first | rfl | simp only [ml] <;> rfl) (Prod.fst (Prod.snd r1)) (Prod.snd (Prod.snd r1)) b) fun r2 => ?_
 conv => lhs; whnf
 refine t_call (h_spec_l1Cur_pick _ _ _ a_0 (by first | rfl | simp only [ml] <;> rfl) (Prod.fst (Prod.snd r2)) (Prod.snd (Prod.snd r2)) (wr IntKind.i64 (isub c 1))) fun r3 => ?_
 conv => lhs; whnf
 refine t_loop (fun (⟨v8, b0_1, b0_2, w1⟩ : Int × Int × Int × (List Pt)) => (AV.ptr 0 0 0 3 :: AV.int IntKind.i64 b :: topA 5 (AV.own 1 2 none false :: AV.int IntKind.i64 v8 :: tops 54), [Blk.box (AV.agg [AV.lst oa_0 ca_0 1 (List.map eU a_0), AV.int IntKind.i64 b0_1, AV.int IntKind.u64 b0_2]), Blk.rows Mode.live 2 (List.map ep w1)])) (fun m (⟨v8, b0_1, b0_2, w1⟩ : Int × Int × Int × (List Pt)) => spec_l1Cur_surePolygon_l0 L a_0 b m v8 b0_1 b0_2 w1) (fun _ => rfl) (fun m s rec hrec => ?_) L ((Prod.fst r3, Prod.fst (Prod.snd r3), Prod.snd (Prod.snd r3), { x := 0, y := 0 } :: ({ x := wr IntKind.i64 (iadd 1 (Prod.fst r)), y := 0 } :: ({ x := Prod.fst r1, y := wr IntKind.i64 (iadd 1 (Prod.fst r2)) } :: [])))) ?_ ?_
 rotate_left
 ·first | rfl | simp only [ml] <;> rfl
 ·first | rfl | simp only [ml] <;> rfl
 obtain ⟨v8, b0_1, b0_2, w1⟩ := s
 show _ = Option.map _ (spec_l1Cur_surePolygon_l0 L a_0 b (m + 1) v8 b0_1 b0_2 w1)
 rw [spec_l1Cur_surePolygon_l0.eq_2]
 conv => lhs; whnf
 refine t_cond ?_ ?_
 ·conv => lhs; whnf
  refine t_call (h_spec_l1Cur_pick _ _ _ a_0 (by first | rfl | simp only [ml] <;> rfl) b0_1 b0_2 (ilen (List.map ep w1))) fun r4 => ?_
  conv => lhs; whnf
  refine t_cond ?_ ?_
  ·conv => lhs; whnf
   refine t_cond ?_ ?_
   ·conv => lhs; whnf
    refine t_call (h_spec_l1Cur_surePeg _ _ _ a_0 (by first | rfl | simp only [ml] <;> rfl) (Prod.fst (Prod.snd r4)) (Prod.snd (Prod.snd r4)) b) fun r5 => ?_
    conv => lhs; whnf
    refine t_cond ?_ ?_
    ·conv => lhs; whnf
     refine t_cond ?_ ?_
     ·conv => lhs; whnf
      refine t_cond ?_ ?_
      ·conv => lhs; whnf
       refine t_call (h_spec_pgGood _ _ _ (lcat (lcat (lcat [] (lsub w1 0 (iadd 0 (wr IntKind.i64 (iadd 1 (Prod.fst r4)))))) ({ x := Prod.fst r5, y := Prod.fst (Prod.snd r5) } :: [])) (lsub w1 (wr IntKind.i64 (iadd 1 (Prod.fst r4))) (iadd (wr IntKind.i64 (iadd 1 (Prod.fst r4))) (isub (ilen (List.map ep w1)) (wr IntKind.i64 (iadd 1 (Prod.fst r4))))))) (by first | rfl | simp only [ml] <;> rfl)) fun r6 => ?_
       conv => lhs; whnf
       refine t_cond ?_ ?_
       ·conv => lhs; whnf
        exact hrec ((wr IntKind.i64 (isub v8 1), Prod.fst (Prod.snd (Prod.snd r5)), Prod.snd (Prod.snd (Prod.snd r5)), lcat (lcat (lcat [] (lsub w1 0 (iadd 0 (wr IntKind.i64 (iadd 1 (Prod.fst r4)))))) ({ x := Prod.fst r5, y := Prod.fst (Prod.snd r5) } :: [])) (lsub w1 (wr IntKind.i64 (iadd 1 (Prod.fst r4))) (iadd (wr IntKind.i64 (iadd 1 (Prod.fst r4))) (isub (ilen (List.map ep w1)) (wr IntKind.i64 (iadd 1 (Prod.fst r4)))))))) _ _ (by first | rfl | simp only [ml] <;> rfl) (by first | rfl | simp only [ml] <;> rfl)
       ·conv => lhs; whnf
        exact hrec ((wr IntKind.i64 (isub v8 1), Prod.fst (Prod.snd (Prod.snd r5)), Prod.snd (Prod.snd (Prod.snd r5)), w1)) _ _ (by first | rfl | simp only [ml] <;> rfl) (by first | rfl | simp only [ml] <;> rfl)
      ·conv => lhs; whnf
       exact t_none
     ·conv => lhs; whnf
      exact t_none
    ·conv => lhs; whnf
     exact t_none
   ·conv => lhs; whnf
    exact t_none
  ·conv => lhs; whnf
   exact t_none
 ·conv => lhs; whnf
  refine t_call (h_spec_l1Cur_one _ _ _ a_0 (by first | rfl | simp only [ml] <;> rfl) b0_1 b0_2 3) fun r7 => ?_
  conv => lhs; whnf
  refine t_cond ?_ ?_
  ·conv => lhs; whnf
   refine t_call (h_spec_pgBack _ _ _ w1 (by first | rfl | simp only [ml] <;> rfl)) fun r8 => ?_
   conv => lhs; whnf
   exact t_ret (by first | rfl | simp only [ml] <;> rfl)
  ·conv => lhs; whnf
   exact t_ret (by first | rfl | simp only [ml] <;> rfl)


noncomputable def spec_l1Cur_peg (L : Nat) (a_0 : List Int) (a_1 : Int) (a_2 : Int) : Option (Int × Int × Int × Int) := gbind (spec_l1Cur_one L a_0 a_1 a_2 12) fun r => bif Prod.fst r then (gbind (spec_l1Cur_among_v2 L a_0 (Prod.fst (Prod.snd r)) (Prod.snd (Prod.snd r)) (0 :: (40 :: (-40 :: (41 :: (4611686018427387904 :: [])))))) fun r1 => gbind (spec_l1Cur_among_v2 L a_0 (Prod.fst (Prod.snd r1)) (Prod.fst (Prod.snd (Prod.snd r1))) (0 :: (1 :: (40 :: (-41 :: (-9223372036854775808 :: [])))))) fun r2 => some ((Prod.fst r1, Prod.fst r2, Prod.fst (Prod.snd r2), Prod.fst (Prod.snd (Prod.snd r2))))) else (gbind (spec_l1Cur_surePeg L a_0 (Prod.fst (Prod.snd r)) (Prod.snd (Prod.snd r)) 6) fun r3 => some ((Prod.fst r3, Prod.fst (Prod.snd r3), Prod.fst (Prod.snd (Prod.snd r3)), Prod.snd (Prod.snd (Prod.snd r3)))))


def spec_l1Cur_peg_ok (L : Nat) (C : CF) : Prop := ∀ (oa_0 : Bool) (ca_0 : Bool) (x_a_0 : List AV) (a_0 : List Int) (_ : x_a_0 = List.map eU a_0) (a_1 : Int) (a_2 : Int), C 141 ([.ptr 0 0 0 3]) ([.box (.agg [.lst oa_0 ca_0 1 x_a_0, .int .i64 a_1, .int .u64 a_2])]) = Option.map (fun r : Int × Int × Int × Int => ((.agg [.int .i64 (r.1), .int .i64 (r.2.1)], [.box (.agg [.lst oa_0 ca_0 1 x_a_0, .int .i64 (r.2.2.1), .int .u64 (r.2.2.2)])]) : AV × List Blk)) (spec_l1Cur_peg L a_0 a_1 a_2)


theorem spec_l1Cur_peg_run (L : Nat) (C : CF) (h_spec_l1Cur_among_v2 : spec_l1Cur_among_v2_ok L C) (h_spec_l1Cur_surePeg : spec_l1Cur_surePeg_ok L C) (h_spec_l1Cur_one : spec_l1Cur_one_ok L C) : ∀ (oa_0 : Bool) (ca_0 : Bool) (x_a_0 : List AV) (a_0 : List Int) (_ : x_a_0 = List.map eU a_0) (a_1 : Int) (a_2 : Int), run T C sh (keep 141) L Try.f141 ([.ptr 0 0 0 3]) ([.box (.agg [.lst oa_0 ca_0 1 x_a_0, .int .i64 a_1, .int .u64 a_2])]) = Option.map (fun r : Int × Int × Int × Int => ((.agg [.int .i64 (r.1), .int .i64 (r.2.1)], [.box (.agg [.lst oa_0 ca_0 1 x_a_0, .int .i64 (r.2.2.1), .int .u64 (r.2.2.2)])]) : AV × List Blk)) (spec_l1Cur_peg L a_0 a_1 a_2) := by
 intro oa_0 ca_0 x_a_0 a_0 hx_a_0 a_1 a_2
 subst hx_a_0
 unfold spec_l1Cur_peg
 conv => lhs; whnf
 refine t_call (h_spec_l1Cur_one _ _ _ a_0 (by first | rfl | simp only [ml] <;> rfl) a_1 a_2 12) fun r => ?_
 conv => lhs; whnf
 refine t_cond ?_ ?_
 ·conv => lhs; whnf
  refine t_call (h_spec_l1Cur_among_v2 _ _ _ a_0 (by first | rfl | simp only [ml] <;> rfl) (Prod.fst (Prod.snd r)) (Prod.snd (Prod.snd r)) _ (0 :: (40 :: (-40 :: (41 :: (4611686018427387904 :: []))))) (by first | rfl | simp only [ml] <;> rfl)) fun r1 => ?_
  conv => lhs; whnf
  refine t_call (h_spec_l1Cur_among_v2 _ _ _ a_0 (by first | rfl | simp only [ml] <;> rfl) (Prod.fst (Prod.snd r1)) (Prod.fst (Prod.snd (Prod.snd r1))) _ (0 :: (1 :: (40 :: (-41 :: (-9223372036854775808 :: []))))) (by first | rfl | simp only [ml] <;> rfl)) fun r2 => ?_
  conv => lhs; whnf
  exact t_ret (by first | rfl | simp only [ml] <;> rfl)
 ·conv => lhs; whnf
  refine t_call (h_spec_l1Cur_surePeg _ _ _ a_0 (by first | rfl | simp only [ml] <;> rfl) (Prod.fst (Prod.snd r)) (Prod.snd (Prod.snd r)) 6) fun r3 => ?_
  conv => lhs; whnf
  exact t_ret (by first | rfl | simp only [ml] <;> rfl)


noncomputable def spec_l1Cur_polygon (L : Nat) (a_0 : List Int) (a_1 : Int) (a_2 : Int) (b : Int) : Option ((List Pt) × Int × Int) := gbind (spec_l1Cur_surePolygon L a_0 a_1 a_2 b 8) fun r => gbind (spec_l1Cur_pick L a_0 (Prod.fst (Prod.snd r)) (Prod.snd (Prod.snd r)) 16) fun r1 => bif ieq (Prod.fst r1) 0 then (gbind (spec_l1Cur_pick L a_0 (Prod.fst (Prod.snd r1)) (Prod.snd (Prod.snd r1)) (ilen (List.map ep (Prod.fst r)))) fun r2 => gbind (spec_l1Cur_peg L a_0 (Prod.fst (Prod.snd r2)) (Prod.snd (Prod.snd r2))) fun r3 => bif ile 0 (Prod.fst r2) && ilt (Prod.fst r2) (ilen (List.map ep (Prod.fst r))) then (gbind (lget (Prod.fst r) (Prod.fst r2)) fun p => some ((lset (Prod.fst r) (Prod.fst r2) ({ x := Prod.fst r3, y := Prod.fst (Prod.snd r3) }), Prod.fst (Prod.snd (Prod.snd r3)), Prod.snd (Prod.snd (Prod.snd r3))))) else (none)) else (bif ieq (Prod.fst r1) 1 then (gbind (spec_l1Cur_pick L a_0 (Prod.fst (Prod.snd r1)) (Prod.snd (Prod.snd r1)) 3) fun r4 => bif ile 0 (Prod.fst r4) && ile (Prod.fst r4) (ilen (List.map ep (Prod.fst r))) then (some ((lsub (Prod.fst r) 0 (iadd 0 (Prod.fst r4)), Prod.fst (Prod.snd r4), Prod.snd (Prod.snd r4)))) else (none)) else (bif ieq (Prod.fst r1) 2 then (some (({ x := -40, y := -40 } :: ({ x := 40, y := -40 } :: ({ x := 40, y := 40 } :: ({ x := -40, y := 40 } :: []))), Prod.fst (Prod.snd r1), Prod.snd (Prod.snd r1)))) else (some ((Prod.fst r, Prod.fst (Prod.snd r1), Prod.snd (Prod.snd r1))))))


def spec_l1Cur_polygon_ok (L : Nat) (C : CF) : Prop := ∀ (oa_0 : Bool) (ca_0 : Bool) (x_a_0 : List AV) (a_0 : List Int) (_ : x_a_0 = List.map eU a_0) (a_1 : Int) (a_2 : Int) (b : Int), C 178 ([.ptr 0 0 0 3, .int .i64 b]) ([.box (.agg [.lst oa_0 ca_0 1 x_a_0, .int .i64 a_1, .int .u64 a_2])]) = Option.map (fun r : (List Pt) × Int × Int => ((.frs 2 (List.map ep (r.1)), [.box (.agg [.lst oa_0 ca_0 1 x_a_0, .int .i64 (r.2.1), .int .u64 (r.2.2)])]) : AV × List Blk)) (spec_l1Cur_polygon L a_0 a_1 a_2 b)


theorem spec_l1Cur_polygon_run (L : Nat) (C : CF) (h_spec_l1Cur_pick : spec_l1Cur_pick_ok L C) (h_spec_l1Cur_surePolygon : spec_l1Cur_surePolygon_ok L C) (h_spec_l1Cur_peg : spec_l1Cur_peg_ok L C) : ∀ (oa_0 : Bool) (ca_0 : Bool) (x_a_0 : List AV) (a_0 : List Int) (_ : x_a_0 = List.map eU a_0) (a_1 : Int) (a_2 : Int) (b : Int), run T C sh (keep 178) L Try.f178 ([.ptr 0 0 0 3, .int .i64 b]) ([.box (.agg [.lst oa_0 ca_0 1 x_a_0, .int .i64 a_1, .int .u64 a_2])]) = Option.map (fun r : (List Pt) × Int × Int => ((.frs 2 (List.map ep (r.1)), [.box (.agg [.lst oa_0 ca_0 1 x_a_0, .int .i64 (r.2.1), .int .u64 (r.2.2)])]) : AV × List Blk)) (spec_l1Cur_polygon L a_0 a_1 a_2 b) := by
 intro oa_0 ca_0 x_a_0 a_0 hx_a_0 a_1 a_2 b
 subst hx_a_0
 unfold spec_l1Cur_polygon
 conv => lhs; whnf
 refine t_call (h_spec_l1Cur_surePolygon _ _ _ a_0 (by first | rfl | simp only [ml] <;> rfl) a_1 a_2 b 8) fun r => ?_
 conv => lhs; whnf
 refine t_call (h_spec_l1Cur_pick _ _ _ a_0 (by first | rfl | simp only [ml] <;> rfl) (Prod.fst (Prod.snd r)) (Prod.snd (Prod.snd r)) 16) fun r1 => ?_
 conv => lhs; whnf
 refine t_cond ?_ ?_
 ·conv => lhs; whnf
  refine t_call (h_spec_l1Cur_pick _ _ _ a_0 (by first | rfl | simp only [ml] <;> rfl) (Prod.fst (Prod.snd r1)) (Prod.snd (Prod.snd r1)) (ilen (List.map ep (Prod.fst r)))) fun r2 => ?_
  conv => lhs; whnf
  refine t_call (h_spec_l1Cur_peg _ _ _ a_0 (by first | rfl | simp only [ml] <;> rfl) (Prod.fst (Prod.snd r2)) (Prod.snd (Prod.snd r2))) fun r3 => ?_
  conv => lhs; whnf
  refine t_cond ?_ ?_
  ·conv => lhs; whnf
   refine t_get (en := ep) (l := Prod.fst r) (by first | rfl | simp only [ml] <;> rfl) fun p => ?_
   conv => lhs; whnf
   exact t_ret (by first | rfl | simp only [ml] <;> rfl)
  ·conv => lhs; whnf
   exact t_none
 ·conv => lhs; whnf
  refine t_cond ?_ ?_
  ·conv => lhs; whnf
   refine t_call (h_spec_l1Cur_pick _ _ _ a_0 (by first | rfl | simp only [ml] <;> rfl) (Prod.fst (Prod.snd r1)) (Prod.snd (Prod.snd r1)) 3) fun r4 => ?_
   conv => lhs; whnf
   refine t_cond ?_ ?_
   ·conv => lhs; whnf
    exact t_ret (by first | rfl | simp only [ml] <;> rfl)
   ·conv => lhs; whnf
    exact t_none
  ·conv => lhs; whnf
   refine t_cond ?_ ?_
   ·conv => lhs; whnf
    exact t_ret (by first | rfl | simp only [ml] <;> rfl)
   ·conv => lhs; whnf
    exact t_ret (by first | rfl | simp only [ml] <;> rfl)


noncomputable def impl_GrowThree_1_v2 (L : Nat) (a_0 : Int) (a_1 : Int) (b : List Pt) (c : Int) : Option (Int × Int) := gbind (lget b 0) fun p => gbind (impl_Peg_less L a_0 a_1 (Pt.x p) (Pt.y p)) fun r => gbind (lget b 0) fun p1 => gbind (impl_Peg_plus L (Pt.x p1) (Pt.y p1) (wr IntKind.i64 (imul c (Prod.fst r))) (wr IntKind.i64 (imul c (Prod.snd r)))) fun r1 => some ((Prod.fst r1, Prod.snd r1))


def impl_GrowThree_1_v2_ok (L : Nat) (C : CF) : Prop := ∀ (a_0 : Int) (a_1 : Int) (ob : Bool) (cb : Bool) (x_b : List AV) (b : List Pt) (_ : x_b = List.map ep b) (c : Int), C 203 ([(.agg [(.int .i64 a_0), (.int .i64 a_1)]), (.at (.lst ob cb 2 x_b) 0), (.at (.int .i64 c) 0)]) ([]) = Option.map (fun r : Int × Int => ((.agg [.int .i64 (r.1), .int .i64 (r.2)], []) : AV × List Blk)) (impl_GrowThree_1_v2 L a_0 a_1 b c)


theorem impl_GrowThree_1_v2_run (L : Nat) (C : CF) (h_impl_Peg_less : impl_Peg_less_ok L C) (h_impl_Peg_plus : impl_Peg_plus_ok L C) : ∀ (a_0 : Int) (a_1 : Int) (ob : Bool) (cb : Bool) (x_b : List AV) (b : List Pt) (_ : x_b = List.map ep b) (c : Int), run T C sh (keep 203) L Try.f203 ([(.agg [(.int .i64 a_0), (.int .i64 a_1)]), (.at (.lst ob cb 2 x_b) 0), (.at (.int .i64 c) 0)]) ([]) = Option.map (fun r : Int × Int => ((.agg [.int .i64 (r.1), .int .i64 (r.2)], []) : AV × List Blk)) (impl_GrowThree_1_v2 L a_0 a_1 b c) := by
 intro a_0 a_1 ob cb x_b b hx_b c
 subst hx_b
 unfold impl_GrowThree_1_v2
 conv => lhs; whnf
 refine t_get (en := ep) (l := b) (by first | rfl | simp only [ml] <;> rfl) fun p => ?_
 conv => lhs; whnf
 refine t_call (h_impl_Peg_less a_0 a_1 (Pt.x p) (Pt.y p)) fun r => ?_
 conv => lhs; whnf
 refine t_get (en := ep) (l := b) (by first | rfl | simp only [ml] <;> rfl) fun p1 => ?_
 conv => lhs; whnf
 refine t_call (h_impl_Peg_plus (Pt.x p1) (Pt.y p1) (wr IntKind.i64 (imul c (Prod.fst r))) (wr IntKind.i64 (imul c (Prod.snd r)))) fun r1 => ?_
 conv => lhs; whnf
 exact t_ret (by first | rfl | simp only [ml] <;> rfl)


noncomputable def impl_changed_impl_GrowThree_1_l0 (L : Nat) (a : List Pt) (b_c0 : List Pt) (b_c1 : Int) : Nat → Int → (List Pt) → Option ((List Pt) × Bool)
  | 0, _, _ => none
  | m + 1, v15, w0 => bif ilt v15 (ilen (List.map ep a)) then (gbind (lget a v15) fun p => gbind (impl_GrowThree_1_v2 L (Pt.x p) (Pt.y p) b_c0 b_c1) fun r1 => bif fits (iadd (ilen (List.map ep w0)) (ilen [AV.agg [AV.int IntKind.i64 (Prod.fst r1), AV.int IntKind.i64 (Prod.snd r1)]])) 16 then (impl_changed_impl_GrowThree_1_l0 L a b_c0 b_c1 m (wr IntKind.i64 (iadd v15 1)) (lcat w0 ({ x := Prod.fst r1, y := Prod.snd r1 } :: []))) else (none)) else (gbind (impl_arePegs L w0) fun r2 => bif !r2 then (some (([], false))) else (some ((w0, true))))


noncomputable def impl_changed_impl_GrowThree_1 (L : Nat) (a : List Pt) (b_c0 : List Pt) (b_c1 : Int) : Option ((List Pt) × Bool) := gbind (impl_IsPolygon L a) fun r => bif !r then (some (([], false))) else (impl_changed_impl_GrowThree_1_l0 L a b_c0 b_c1 L 0 [])


def impl_changed_impl_GrowThree_1_ok (L : Nat) (C : CF) : Prop := ∀ (oa : Bool) (ca : Bool) (x_a : List AV) (a : List Pt) (_ : x_a = List.map ep a) (ob_c0 : Bool) (cb_c0 : Bool) (x_b_c0 : List AV) (b_c0 : List Pt) (_ : x_b_c0 = List.map ep b_c0) (b_c1 : Int), C 181 ([(.lst oa ca 2 x_a), (.fn 203 [] [(.at (.lst ob_c0 cb_c0 2 x_b_c0) 0), (.at (.int .i64 b_c1) 0)])]) ([]) = Option.map (fun r : (List Pt) × Bool => ((.tup [.frs 2 (List.map ep (r.1)), .bool (r.2)], []) : AV × List Blk)) (impl_changed_impl_GrowThree_1 L a b_c0 b_c1)


theorem impl_changed_impl_GrowThree_1_run (L : Nat) (C : CF) (h_impl_arePegs : impl_arePegs_ok L C) (h_impl_IsPolygon : impl_IsPolygon_ok L C) (h_impl_GrowThree_1_v2 : impl_GrowThree_1_v2_ok L C) : ∀ (oa : Bool) (ca : Bool) (x_a : List AV) (a : List Pt) (_ : x_a = List.map ep a) (ob_c0 : Bool) (cb_c0 : Bool) (x_b_c0 : List AV) (b_c0 : List Pt) (_ : x_b_c0 = List.map ep b_c0) (b_c1 : Int), run T C sh (keep 181) L Try.f181 ([(.lst oa ca 2 x_a), (.fn 203 [] [(.at (.lst ob_c0 cb_c0 2 x_b_c0) 0), (.at (.int .i64 b_c1) 0)])]) ([]) = Option.map (fun r : (List Pt) × Bool => ((.tup [.frs 2 (List.map ep (r.1)), .bool (r.2)], []) : AV × List Blk)) (impl_changed_impl_GrowThree_1 L a b_c0 b_c1) := by
 intro oa ca x_a a hx_a ob_c0 cb_c0 x_b_c0 b_c0 hx_b_c0 b_c1
 subst hx_a
 subst hx_b_c0
 unfold impl_changed_impl_GrowThree_1
 conv => lhs; whnf
 refine t_call (h_impl_IsPolygon _ _ _ a (by first | rfl | simp only [ml] <;> rfl)) fun r => ?_
 conv => lhs; whnf
 refine t_cond ?_ ?_
 ·conv => lhs; whnf
  exact t_ret (by first | rfl | simp only [ml] <;> rfl)
 ·conv => lhs; whnf
  refine t_loop (fun (⟨v15, w0⟩ : Int × (List Pt)) => (AV.top :: AV.fn 203 [] [AV.at (AV.lst ob_c0 cb_c0 2 (List.map ep b_c0)) 0, AV.at (AV.int IntKind.i64 b_c1) 0] :: topA 4 (AV.own 0 2 none false :: topA 6 (AV.lst oa ca 2 (List.map ep a) :: AV.int IntKind.i64 (ilen (List.map ep a)) :: AV.int IntKind.i64 v15 :: tops 14)), [Blk.rows Mode.live 2 (List.map ep w0)])) (fun m (⟨v15, w0⟩ : Int × (List Pt)) => impl_changed_impl_GrowThree_1_l0 L a b_c0 b_c1 m v15 w0) (fun _ => rfl) (fun m s rec hrec => ?_) L ((0, [])) ?_ ?_
  rotate_left
  ·first | rfl | simp only [ml] <;> rfl
  ·first | rfl | simp only [ml] <;> rfl
  obtain ⟨v15, w0⟩ := s
  show _ = Option.map _ (impl_changed_impl_GrowThree_1_l0 L a b_c0 b_c1 (m + 1) v15 w0)
  rw [impl_changed_impl_GrowThree_1_l0.eq_2]
  conv => lhs; whnf
  refine t_cond ?_ ?_
  ·conv => lhs; whnf
   refine t_get (en := ep) (l := a) (by first | rfl | simp only [ml] <;> rfl) fun p => ?_
   conv => lhs; whnf
   refine t_call (h_impl_GrowThree_1_v2 (Pt.x p) (Pt.y p) _ _ _ b_c0 (by first | rfl | simp only [ml] <;> rfl) b_c1) fun r1 => ?_
   conv => lhs; whnf
   refine t_cond ?_ ?_
   ·conv => lhs; whnf
    exact hrec ((wr IntKind.i64 (iadd v15 1), lcat w0 ({ x := Prod.fst r1, y := Prod.snd r1 } :: []))) _ _ (by first | rfl | simp only [ml] <;> rfl) (by first | rfl | simp only [ml] <;> rfl)
   ·conv => lhs; whnf
    exact t_none
  ·conv => lhs; whnf
   refine t_call (h_impl_arePegs _ _ _ w0 (by first | rfl | simp only [ml] <;> rfl)) fun r2 => ?_
   conv => lhs; whnf
   refine t_cond ?_ ?_
   ·conv => lhs; whnf
    exact t_ret (by first | rfl | simp only [ml] <;> rfl)
   ·conv => lhs; whnf
    exact t_ret (by first | rfl | simp only [ml] <;> rfl)


noncomputable def spec_pgMap_l0 (L : Nat) (a : List Pt) (b : Int) (c : Int) (d : Int) (e : Int) (f : Int) (g : Int) : Nat → Int → (List Pt) → Option ((List Pt) × Bool)
  | 0, _, _ => none
  | m + 1, v22, w0 => bif ilt v22 (ilen (List.map ep a)) then (gbind (lget a v22) fun p => gbind (spec_pgIs L (wr IntKind.i64 (iadd (wr IntKind.i64 (iadd (wr IntKind.i64 (imul b (Pt.x p))) (wr IntKind.i64 (imul c (Pt.y p))))) f)) (wr IntKind.i64 (iadd (wr IntKind.i64 (iadd (wr IntKind.i64 (imul d (Pt.x p))) (wr IntKind.i64 (imul e (Pt.y p))))) g))) fun r => bif !r then (some (([], false))) else (bif fits (iadd (ilen (List.map ep w0)) (ilen [AV.agg [AV.int IntKind.i64 (wr IntKind.i64 (iadd (wr IntKind.i64 (iadd (wr IntKind.i64 (imul b (Pt.x p))) (wr IntKind.i64 (imul c (Pt.y p))))) f)), AV.int IntKind.i64 (wr IntKind.i64 (iadd (wr IntKind.i64 (iadd (wr IntKind.i64 (imul d (Pt.x p))) (wr IntKind.i64 (imul e (Pt.y p))))) g))]])) 16 then (spec_pgMap_l0 L a b c d e f g m (wr IntKind.i64 (iadd v22 1)) (lcat w0 ({ x := wr IntKind.i64 (iadd (wr IntKind.i64 (iadd (wr IntKind.i64 (imul b (Pt.x p))) (wr IntKind.i64 (imul c (Pt.y p))))) f), y := wr IntKind.i64 (iadd (wr IntKind.i64 (iadd (wr IntKind.i64 (imul d (Pt.x p))) (wr IntKind.i64 (imul e (Pt.y p))))) g) } :: []))) else (none))) else (some ((w0, true)))


noncomputable def spec_pgMap (L : Nat) (a : List Pt) (b : Int) (c : Int) (d : Int) (e : Int) (f : Int) (g : Int) : Option ((List Pt) × Bool) := spec_pgMap_l0 L a b c d e f g L 0 []


def spec_pgMap_ok (L : Nat) (C : CF) : Prop := ∀ (oa : Bool) (ca : Bool) (x_a : List AV) (a : List Pt) (_ : x_a = List.map ep a) (b : Int) (c : Int) (d : Int) (e : Int) (f : Int) (g : Int), C 184 ([.lst oa ca 2 x_a, .int .i64 b, .int .i64 c, .int .i64 d, .int .i64 e, .int .i64 f, .int .i64 g]) ([]) = Option.map (fun r : (List Pt) × Bool => ((.tup [.frs 2 (List.map ep (r.1)), .bool (r.2)], []) : AV × List Blk)) (spec_pgMap L a b c d e f g)


theorem spec_pgMap_run (L : Nat) (C : CF) (h_spec_pgIs : spec_pgIs_ok L C) : ∀ (oa : Bool) (ca : Bool) (x_a : List AV) (a : List Pt) (_ : x_a = List.map ep a) (b : Int) (c : Int) (d : Int) (e : Int) (f : Int) (g : Int), run T C sh (keep 184) L Try.f184 ([.lst oa ca 2 x_a, .int .i64 b, .int .i64 c, .int .i64 d, .int .i64 e, .int .i64 f, .int .i64 g]) ([]) = Option.map (fun r : (List Pt) × Bool => ((.tup [.frs 2 (List.map ep (r.1)), .bool (r.2)], []) : AV × List Blk)) (spec_pgMap L a b c d e f g) := by
 intro oa ca x_a a hx_a b c d e f g
 subst hx_a
 unfold spec_pgMap
 conv => lhs; whnf
 refine t_loop (fun (⟨v22, w0⟩ : Int × (List Pt)) => (AV.top :: AV.int IntKind.i64 b :: AV.int IntKind.i64 c :: AV.int IntKind.i64 d :: AV.int IntKind.i64 e :: AV.int IntKind.i64 f :: AV.int IntKind.i64 g :: topA 9 (AV.own 0 2 none false :: topA 3 (AV.lst oa ca 2 (List.map ep a) :: AV.int IntKind.i64 (ilen (List.map ep a)) :: AV.int IntKind.i64 v22 :: tops 35)), [Blk.rows Mode.live 2 (List.map ep w0)])) (fun m (⟨v22, w0⟩ : Int × (List Pt)) => spec_pgMap_l0 L a b c d e f g m v22 w0) (fun _ => rfl) (fun m s rec hrec => ?_) L ((0, [])) ?_ ?_
 rotate_left
 ·first | rfl | simp only [ml] <;> rfl
 ·first | rfl | simp only [ml] <;> rfl
 obtain ⟨v22, w0⟩ := s
 show _ = Option.map _ (spec_pgMap_l0 L a b c d e f g (m + 1) v22 w0)
 rw [spec_pgMap_l0.eq_2]
 conv => lhs; whnf
 refine t_cond ?_ ?_
 ·conv => lhs; whnf
  refine t_get (en := ep) (l := a) (by first | rfl | simp only [ml] <;> rfl) fun p => ?_
  conv => lhs; whnf
  refine t_call (h_spec_pgIs (wr IntKind.i64 (iadd (wr IntKind.i64 (iadd (wr IntKind.i64 (imul b (Pt.x p))) (wr IntKind.i64 (imul c (Pt.y p))))) f)) (wr IntKind.i64 (iadd (wr IntKind.i64 (iadd (wr IntKind.i64 (imul d (Pt.x p))) (wr IntKind.i64 (imul e (Pt.y p))))) g))) fun r => ?_
  conv => lhs; whnf
  refine t_cond ?_ ?_
  ·conv => lhs; whnf
   exact t_ret (by first | rfl | simp only [ml] <;> rfl)
  ·conv => lhs; whnf
   refine t_cond ?_ ?_
   ·conv => lhs; whnf
    exact hrec ((wr IntKind.i64 (iadd v22 1), lcat w0 ({ x := wr IntKind.i64 (iadd (wr IntKind.i64 (iadd (wr IntKind.i64 (imul b (Pt.x p))) (wr IntKind.i64 (imul c (Pt.y p))))) f), y := wr IntKind.i64 (iadd (wr IntKind.i64 (iadd (wr IntKind.i64 (imul d (Pt.x p))) (wr IntKind.i64 (imul e (Pt.y p))))) g) } :: []))) _ _ (by first | rfl | simp only [ml] <;> rfl) (by first | rfl | simp only [ml] <;> rfl)
   ·conv => lhs; whnf
    exact t_none
 ·conv => lhs; whnf
  exact t_ret (by first | rfl | simp only [ml] <;> rfl)


noncomputable def laws_zPegs_l0 (L : Nat) (a : List Pt) (b : List Pt) : Nat → Int → Option Bool
  | 0, _ => none
  | m + 1, v13 => bif ilt v13 (ilen (List.map ep a)) then (gbind (lget a v13) fun p => gbind (lget b v13) fun p1 => bif !(ieq (Pt.x p) (Pt.x p1) && ieq (Pt.y p) (Pt.y p1)) then (some false) else (laws_zPegs_l0 L a b m (wr IntKind.i64 (iadd v13 1)))) else (some true)


noncomputable def laws_zPegs (L : Nat) (a : List Pt) (b : List Pt) : Option (Bool) := bif !ieq (ilen (List.map ep a)) (ilen (List.map ep b)) then (some false) else (laws_zPegs_l0 L a b L 0)


def laws_zPegs_ok (L : Nat) (C : CF) : Prop := ∀ (oa : Bool) (ca : Bool) (x_a : List AV) (a : List Pt) (_ : x_a = List.map ep a) (ob : Bool) (cb : Bool) (x_b : List AV) (b : List Pt) (_ : x_b = List.map ep b), C 55 ([.lst oa ca 2 x_a, .lst ob cb 2 x_b]) ([]) = Option.map (fun r : Bool => ((.bool r, []) : AV × List Blk)) (laws_zPegs L a b)


theorem laws_zPegs_run (L : Nat) (C : CF) : ∀ (oa : Bool) (ca : Bool) (x_a : List AV) (a : List Pt) (_ : x_a = List.map ep a) (ob : Bool) (cb : Bool) (x_b : List AV) (b : List Pt) (_ : x_b = List.map ep b), run T C sh (keep 55) L Try.f55 ([.lst oa ca 2 x_a, .lst ob cb 2 x_b]) ([]) = Option.map (fun r : Bool => ((.bool r, []) : AV × List Blk)) (laws_zPegs L a b) := by
 intro oa ca x_a a hx_a ob cb x_b b hx_b
 subst hx_a
 subst hx_b
 unfold laws_zPegs
 conv => lhs; whnf
 refine t_cond ?_ ?_
 ·conv => lhs; whnf
  exact t_ret (by first | rfl | simp only [ml] <;> rfl)
 ·conv => lhs; whnf
  refine t_loop (fun (v13 : Int) => (AV.lst oa ca 2 (List.map ep a) :: AV.lst ob cb 2 (List.map ep b) :: topA 10 (AV.int IntKind.i64 (ilen (List.map ep a)) :: AV.int IntKind.i64 v13 :: tops 12), [])) (fun m (v13 : Int) => laws_zPegs_l0 L a b m v13) (fun _ => rfl) (fun m v13 rec hrec => ?_) L 0 ?_ ?_
  rotate_left
  ·first | rfl | simp only [ml] <;> rfl
  ·first | rfl | simp only [ml] <;> rfl
  show _ = Option.map _ (laws_zPegs_l0 L a b (m + 1) v13)
  rw [laws_zPegs_l0.eq_2]
  conv => lhs; whnf
  refine t_cond ?_ ?_
  ·conv => lhs; whnf
   refine t_get (en := ep) (l := a) (by first | rfl | simp only [ml] <;> rfl) fun p => ?_
   conv => lhs; whnf
   refine t_get (en := ep) (l := b) (by first | rfl | simp only [ml] <;> rfl) fun p1 => ?_
   conv => lhs; whnf
   refine t_cond ?_ ?_
   ·conv => lhs; whnf
    exact t_ret (by first | rfl | simp only [ml] <;> rfl)
   ·conv => lhs; whnf
    exact hrec (wr IntKind.i64 (iadd v13 1)) _ _ (by first | rfl | simp only [ml] <;> rfl) (by first | rfl | simp only [ml] <;> rfl)
  ·conv => lhs; whnf
   exact t_ret (by first | rfl | simp only [ml] <;> rfl)


noncomputable def impl_TwiceArea (L : Nat) (a : List Pt) : Option (Int × Bool) := gbind (impl_IsPolygon L a) fun r => bif !r then (some ((0, false))) else (gbind (impl_twice L a) fun r1 => some ((r1, true)))


def impl_TwiceArea_ok (L : Nat) (C : CF) : Prop := ∀ (oa : Bool) (ca : Bool) (x_a : List AV) (a : List Pt) (_ : x_a = List.map ep a), C 20 ([.lst oa ca 2 x_a]) ([]) = Option.map (fun r : Int × Bool => ((.tup [.int .i64 (r.1), .bool (r.2)], []) : AV × List Blk)) (impl_TwiceArea L a)


theorem impl_TwiceArea_run (L : Nat) (C : CF) (h_impl_IsPolygon : impl_IsPolygon_ok L C) (h_impl_twice : impl_twice_ok L C) : ∀ (oa : Bool) (ca : Bool) (x_a : List AV) (a : List Pt) (_ : x_a = List.map ep a), run T C sh (keep 20) L Try.f20 ([.lst oa ca 2 x_a]) ([]) = Option.map (fun r : Int × Bool => ((.tup [.int .i64 (r.1), .bool (r.2)], []) : AV × List Blk)) (impl_TwiceArea L a) := by
 intro oa ca x_a a hx_a
 subst hx_a
 unfold impl_TwiceArea
 conv => lhs; whnf
 refine t_call (h_impl_IsPolygon _ _ _ a (by first | rfl | simp only [ml] <;> rfl)) fun r => ?_
 conv => lhs; whnf
 refine t_cond ?_ ?_
 ·conv => lhs; whnf
  exact t_ret (by first | rfl | simp only [ml] <;> rfl)
 ·conv => lhs; whnf
  refine t_call (h_impl_twice _ _ _ a (by first | rfl | simp only [ml] <;> rfl)) fun r1 => ?_
  conv => lhs; whnf
  exact t_ret (by first | rfl | simp only [ml] <;> rfl)


noncomputable def spec_mvPeg (L : Nat) (a_0 : Int) (a_1 : Int) (a_2 : Int) (a_3 : Int) (a_4 : Int) (a_5 : Int) (b_0 : Int) (b_1 : Int) : Option (Int × Int) := some ((wr IntKind.i64 (iadd (wr IntKind.i64 (iadd (wr IntKind.i64 (imul a_0 b_0)) (wr IntKind.i64 (imul a_1 b_1)))) a_4), wr IntKind.i64 (iadd (wr IntKind.i64 (iadd (wr IntKind.i64 (imul a_2 b_0)) (wr IntKind.i64 (imul a_3 b_1)))) a_5)))


def spec_mvPeg_ok (L : Nat) (C : CF) : Prop := ∀ (a_0 : Int) (a_1 : Int) (a_2 : Int) (a_3 : Int) (a_4 : Int) (a_5 : Int) (b_0 : Int) (b_1 : Int), C 188 ([.agg [.int .i64 a_0, .int .i64 a_1, .int .i64 a_2, .int .i64 a_3, .int .i64 a_4, .int .i64 a_5], .agg [.int .i64 b_0, .int .i64 b_1]]) ([]) = Option.map (fun r : Int × Int => ((.agg [.int .i64 (r.1), .int .i64 (r.2)], []) : AV × List Blk)) (spec_mvPeg L a_0 a_1 a_2 a_3 a_4 a_5 b_0 b_1)


theorem spec_mvPeg_run (L : Nat) (C : CF) : ∀ (a_0 : Int) (a_1 : Int) (a_2 : Int) (a_3 : Int) (a_4 : Int) (a_5 : Int) (b_0 : Int) (b_1 : Int), run T C sh (keep 188) L Try.f188 ([.agg [.int .i64 a_0, .int .i64 a_1, .int .i64 a_2, .int .i64 a_3, .int .i64 a_4, .int .i64 a_5], .agg [.int .i64 b_0, .int .i64 b_1]]) ([]) = Option.map (fun r : Int × Int => ((.agg [.int .i64 (r.1), .int .i64 (r.2)], []) : AV × List Blk)) (spec_mvPeg L a_0 a_1 a_2 a_3 a_4 a_5 b_0 b_1) := by
 intro a_0 a_1 a_2 a_3 a_4 a_5 b_0 b_1
 unfold spec_mvPeg
 conv => lhs; whnf
 exact t_ret (by first | rfl | simp only [ml] <;> rfl)


noncomputable def spec_l1Cur_three_l0 (L : Nat) (r3 : Int × Int × Int × Int) (r4 : Int × Int × Int × Int) (r5 : Int × Int × Int × Int) (r6 : Bool × Int × Int) : Nat → Int → (List Pt) → Option ((List Pt) × Int × Int)
  | 0, _, _ => none
  | m + 1, v37, w1 => bif ilt v37 (ilen [AV.agg [AV.int IntKind.i64 (Prod.fst r3), AV.int IntKind.i64 (Prod.fst (Prod.snd r3))], AV.agg [AV.int IntKind.i64 (Prod.fst r4), AV.int IntKind.i64 (Prod.fst (Prod.snd r4))], AV.agg [AV.int IntKind.i64 (Prod.fst r5), AV.int IntKind.i64 (Prod.fst (Prod.snd r5))]]) then (bif ile 0 v37 && ilt v37 (ilen (List.map ep w1)) then (gbind (lget w1 v37) fun p => bif ile 0 v37 && ilt v37 (ilen (List.map ep w1)) then (gbind (lget w1 v37) fun p1 => spec_l1Cur_three_l0 L r3 r4 r5 r6 m (wr IntKind.i64 (iadd v37 1)) (lset w1 v37 ({ x := wr IntKind.i64 (imul 2 (Pt.x p)), y := wr IntKind.i64 (imul 2 (Pt.y p)) }))) else (none)) else (none)) else (some ((w1, Prod.fst (Prod.snd r6), Prod.snd (Prod.snd r6))))


noncomputable def spec_l1Cur_three (L : Nat) (a_0 : List Int) (a_1 : Int) (a_2 : Int) (b : Int) : Option ((List Pt) × Int × Int) := gbind (spec_l1Cur_pick L a_0 a_1 a_2 12) fun r => bif ieq (Prod.fst r) 0 then (gbind (spec_l1Cur_polygon L a_0 (Prod.fst (Prod.snd r)) (Prod.snd (Prod.snd r)) 4) fun r1 => some ((Prod.fst r1, Prod.fst (Prod.snd r1), Prod.snd (Prod.snd r1)))) else (bif ieq (Prod.fst r) 1 then (gbind (spec_l1Cur_pick L a_0 (Prod.fst (Prod.snd r)) (Prod.snd (Prod.snd r)) 3) fun r2 => some (({ x := -40, y := -40 } :: ({ x := 40, y := -39 } :: ({ x := wr IntKind.i64 (isub (Prod.fst r2) 1), y := 40 } :: [])), Prod.fst (Prod.snd r2), Prod.snd (Prod.snd r2)))) else (gbind (spec_l1Cur_surePeg L a_0 (Prod.fst (Prod.snd r)) (Prod.snd (Prod.snd r)) b) fun r3 => gbind (spec_l1Cur_surePeg L a_0 (Prod.fst (Prod.snd (Prod.snd r3))) (Prod.snd (Prod.snd (Prod.snd r3))) b) fun r4 => gbind (spec_l1Cur_surePeg L a_0 (Prod.fst (Prod.snd (Prod.snd r4))) (Prod.snd (Prod.snd (Prod.snd r4))) b) fun r5 => gbind (spec_l1Cur_one L a_0 (Prod.fst (Prod.snd (Prod.snd r5))) (Prod.snd (Prod.snd (Prod.snd r5))) 3) fun r6 => bif Prod.fst r6 then (spec_l1Cur_three_l0 L r3 r4 r5 r6 L 0 ({ x := Prod.fst r3, y := Prod.fst (Prod.snd r3) } :: ({ x := Prod.fst r4, y := Prod.fst (Prod.snd r4) } :: ({ x := Prod.fst r5, y := Prod.fst (Prod.snd r5) } :: [])))) else (some (({ x := Prod.fst r3, y := Prod.fst (Prod.snd r3) } :: ({ x := Prod.fst r4, y := Prod.fst (Prod.snd r4) } :: ({ x := Prod.fst r5, y := Prod.fst (Prod.snd r5) } :: [])), Prod.fst (Prod.snd r6), Prod.snd (Prod.snd r6))))))


def spec_l1Cur_three_ok (L : Nat) (C : CF) : Prop := ∀ (oa_0 : Bool) (ca_0 : Bool) (x_a_0 : List AV) (a_0 : List Int) (_ : x_a_0 = List.map eU a_0) (a_1 : Int) (a_2 : Int) (b : Int), C 137 ([.ptr 0 0 0 3, .int .i64 b]) ([.box (.agg [.lst oa_0 ca_0 1 x_a_0, .int .i64 a_1, .int .u64 a_2])]) = Option.map (fun r : (List Pt) × Int × Int => ((.frs 2 (List.map ep (r.1)), [.box (.agg [.lst oa_0 ca_0 1 x_a_0, .int .i64 (r.2.1), .int .u64 (r.2.2)])]) : AV × List Blk)) (spec_l1Cur_three L a_0 a_1 a_2 b)


theorem spec_l1Cur_three_run (L : Nat) (C : CF) (h_spec_l1Cur_pick : spec_l1Cur_pick_ok L C) (h_spec_l1Cur_surePeg : spec_l1Cur_surePeg_ok L C) (h_spec_l1Cur_one : spec_l1Cur_one_ok L C) (h_spec_l1Cur_polygon : spec_l1Cur_polygon_ok L C) : ∀ (oa_0 : Bool) (ca_0 : Bool) (x_a_0 : List AV) (a_0 : List Int) (_ : x_a_0 = List.map eU a_0) (a_1 : Int) (a_2 : Int) (b : Int), run T C sh (keep 137) L Try.f137 ([.ptr 0 0 0 3, .int .i64 b]) ([.box (.agg [.lst oa_0 ca_0 1 x_a_0, .int .i64 a_1, .int .u64 a_2])]) = Option.map (fun r : (List Pt) × Int × Int => ((.frs 2 (List.map ep (r.1)), [.box (.agg [.lst oa_0 ca_0 1 x_a_0, .int .i64 (r.2.1), .int .u64 (r.2.2)])]) : AV × List Blk)) (spec_l1Cur_three L a_0 a_1 a_2 b) := by
 intro oa_0 ca_0 x_a_0 a_0 hx_a_0 a_1 a_2 b
 subst hx_a_0
 unfold spec_l1Cur_three
 conv => lhs; whnf
 refine t_call (h_spec_l1Cur_pick _ _ _ a_0 (by first | rfl | simp only [ml] <;> rfl) a_1 a_2 12) fun r => ?_
 conv => lhs; whnf
 refine t_cond ?_ ?_
 ·conv => lhs; whnf
  refine t_call (h_spec_l1Cur_polygon _ _ _ a_0 (by first | rfl | simp only [ml] <;> rfl) (Prod.fst (Prod.snd r)) (Prod.snd (Prod.snd r)) 4) fun r1 => ?_
  conv => lhs; whnf
  exact t_ret (by first | rfl | simp only [ml] <;> rfl)
 ·conv => lhs; whnf
  refine t_cond ?_ ?_
  ·conv => lhs; whnf
   refine t_call (h_spec_l1Cur_pick _ _ _ a_0 (by first | rfl | simp only [ml] <;> rfl) (Prod.fst (Prod.snd r)) (Prod.snd (Prod.snd r)) 3) fun r2 => ?_
   conv => lhs; whnf
   exact t_ret (by first | rfl | simp only [ml] <;> rfl)
  ·conv => lhs; whnf
   refine t_call (h_spec_l1Cur_surePeg _ _ _ a_0 (by first | rfl | simp only [ml] <;> rfl) (Prod.fst (Prod.snd r)) (Prod.snd (Prod.snd r)) b) fun r3 => ?_
   conv => lhs; whnf
   refine t_call (h_spec_l1Cur_surePeg _ _ _ a_0 (by first | rfl | simp only [ml] <;> rfl) (Prod.fst (Prod.snd (Prod.snd r3))) (Prod.snd (Prod.snd (Prod.snd r3))) b) fun r4 => ?_
   conv => lhs; whnf
   refine t_call (h_spec_l1Cur_surePeg _ _ _ a_0 (by first | rfl | simp only [ml] <;> rfl) (Prod.fst (Prod.snd (Prod.snd r4))) (Prod.snd (Prod.snd (Prod.snd r4))) b) fun r5 => ?_
   conv => lhs; whnf
   refine t_call (h_spec_l1Cur_one _ _ _ a_0 (by first | rfl | simp only [ml] <;> rfl) (Prod.fst (Prod.snd (Prod.snd r5))) (Prod.snd (Prod.snd (Prod.snd r5))) 3) fun r6 => ?_
   conv => lhs; whnf
   refine t_cond ?_ ?_
   ·conv => lhs; whnf
    refine t_loop (fun (⟨v37, w1⟩ : Int × (List Pt)) => (topA 5 (AV.own 1 2 none false :: topA 29 (AV.own 1 2 none false :: AV.int IntKind.i64 (ilen [AV.agg [AV.int IntKind.i64 (Prod.fst r3), AV.int IntKind.i64 (Prod.fst (Prod.snd r3))], AV.agg [AV.int IntKind.i64 (Prod.fst r4), AV.int IntKind.i64 (Prod.fst (Prod.snd r4))], AV.agg [AV.int IntKind.i64 (Prod.fst r5), AV.int IntKind.i64 (Prod.fst (Prod.snd r5))]]) :: AV.int IntKind.i64 v37 :: tops 16)), [Blk.box (AV.agg [AV.lst oa_0 ca_0 1 (List.map eU a_0), AV.int IntKind.i64 (Prod.fst (Prod.snd r6)), AV.int IntKind.u64 (Prod.snd (Prod.snd r6))]), Blk.rows Mode.live 2 (List.map ep w1)])) (fun m (⟨v37, w1⟩ : Int × (List Pt)) => spec_l1Cur_three_l0 L r3 r4 r5 r6 m v37 w1) (fun _ => rfl) (fun m s rec hrec => ?_) L ((0, { x := Prod.fst r3, y := Prod.fst (Prod.snd r3) } :: ({ x := Prod.fst r4, y := Prod.fst (Prod.snd r4) } :: ({ x := Prod.fst r5, y := Prod.fst (Prod.snd r5) } :: [])))) ?_ ?_
    rotate_left
    ·first | rfl | simp only [ml] <;> rfl
    ·first | rfl | simp only [ml] <;> rfl
    obtain ⟨v37, w1⟩ := s
    show _ = Option.map _ (spec_l1Cur_three_l0 L r3 r4 r5 r6 (m + 1) v37 w1)
    rw [spec_l1Cur_three_l0.eq_2]
    conv => lhs; whnf
    refine t_cond ?_ ?_
    ·conv => lhs; whnf
     refine t_cond ?_ ?_
     ·conv => lhs; whnf
      refine t_get (en := ep) (l := w1) (by first | rfl | simp only [ml] <;> rfl) fun p => ?_
      conv => lhs; whnf
      refine t_cond ?_ ?_
      ·conv => lhs; whnf
       refine t_get (en := ep) (l := w1) (by first | rfl | simp only [ml] <;> rfl) fun p1 => ?_
       conv => lhs; whnf
       exact hrec ((wr IntKind.i64 (iadd v37 1), lset w1 v37 ({ x := wr IntKind.i64 (imul 2 (Pt.x p)), y := wr IntKind.i64 (imul 2 (Pt.y p)) }))) _ _ (by first | rfl | simp only [ml] <;> rfl) (by first | rfl | simp only [ml] <;> rfl)
      ·conv => lhs; whnf
       exact t_none
     ·conv => lhs; whnf
      exact t_none
    ·conv => lhs; whnf
     exact t_ret (by first | rfl | simp only [ml] <;> rfl)
   ·conv => lhs; whnf
    exact t_ret (by first | rfl | simp only [ml] <;> rfl)


noncomputable def spec_DrawInCircle (L : Nat) (a : List Int) : Option ((List Pt) × Int × Int) := gbind (spec_l1Cur_three L a 0 0 3) fun r => bif ieq (ilen (List.map ep (Prod.fst r))) 3 then (gbind (spec_l1Cur_one L a (Prod.fst (Prod.snd r)) (Prod.snd (Prod.snd r)) 4) fun r1 => bif Prod.fst r1 then (gbind (spec_l1Cur_pick L a (Prod.fst (Prod.snd r1)) (Prod.snd (Prod.snd r1)) 3) fun r2 => bif ile 0 (Prod.fst r2) && ilt (Prod.fst r2) (ilen (List.map ep (Prod.fst r))) then (gbind (lget (Prod.fst r) (Prod.fst r2)) fun p => some ((Prod.fst r, Pt.x p, Pt.y p))) else (none)) else (gbind (spec_l1Cur_peg L a (Prod.fst (Prod.snd r1)) (Prod.snd (Prod.snd r1))) fun r3 => some ((Prod.fst r, Prod.fst r3, Prod.fst (Prod.snd r3))))) else (gbind (spec_l1Cur_peg L a (Prod.fst (Prod.snd r)) (Prod.snd (Prod.snd r))) fun r4 => some ((Prod.fst r, Prod.fst r4, Prod.fst (Prod.snd r4))))


def spec_DrawInCircle_ok (L : Nat) (C : CF) : Prop := ∀ (oa : Bool) (ca : Bool) (x_a : List AV) (a : List Int) (_ : x_a = List.map eU a), C 108 ([.lst oa ca 1 x_a]) ([]) = Option.map (fun r : (List Pt) × Int × Int => ((.tup [.frs 2 (List.map ep (r.1)), .agg [.int .i64 (r.2.1), .int .i64 (r.2.2)]], []) : AV × List Blk)) (spec_DrawInCircle L a)


theorem spec_DrawInCircle_run (L : Nat) (C : CF) (h_spec_l1Cur_pick : spec_l1Cur_pick_ok L C) (h_spec_l1Cur_one : spec_l1Cur_one_ok L C) (h_spec_l1Cur_peg : spec_l1Cur_peg_ok L C) (h_spec_l1Cur_three : spec_l1Cur_three_ok L C) : ∀ (oa : Bool) (ca : Bool) (x_a : List AV) (a : List Int) (_ : x_a = List.map eU a), run T C sh (keep 108) L Try.f108 ([.lst oa ca 1 x_a]) ([]) = Option.map (fun r : (List Pt) × Int × Int => ((.tup [.frs 2 (List.map ep (r.1)), .agg [.int .i64 (r.2.1), .int .i64 (r.2.2)]], []) : AV × List Blk)) (spec_DrawInCircle L a) := by
 intro oa ca x_a a hx_a
 subst hx_a
 unfold spec_DrawInCircle
 conv => lhs; whnf
 refine t_call (h_spec_l1Cur_three _ _ _ a (by first | rfl | simp only [ml] <;> rfl) 0 0 3) fun r => ?_
 conv => lhs; whnf
 refine t_cond ?_ ?_
 ·conv => lhs; whnf
  refine t_call (h_spec_l1Cur_one _ _ _ a (by first | rfl | simp only [ml] <;> rfl) (Prod.fst (Prod.snd r)) (Prod.snd (Prod.snd r)) 4) fun r1 => ?_
  conv => lhs; whnf
  refine t_cond ?_ ?_
  ·conv => lhs; whnf
   refine t_call (h_spec_l1Cur_pick _ _ _ a (by first | rfl | simp only [ml] <;> rfl) (Prod.fst (Prod.snd r1)) (Prod.snd (Prod.snd r1)) 3) fun r2 => ?_
   conv => lhs; whnf
   refine t_cond ?_ ?_
   ·conv => lhs; whnf
    refine t_get (en := ep) (l := Prod.fst r) (by first | rfl | simp only [ml] <;> rfl) fun p => ?_
    conv => lhs; whnf
    exact t_ret (by first | rfl | simp only [ml] <;> rfl)
   ·conv => lhs; whnf
    exact t_none
  ·conv => lhs; whnf
   refine t_call (h_spec_l1Cur_peg _ _ _ a (by first | rfl | simp only [ml] <;> rfl) (Prod.fst (Prod.snd r1)) (Prod.snd (Prod.snd r1))) fun r3 => ?_
   conv => lhs; whnf
   exact t_ret (by first | rfl | simp only [ml] <;> rfl)
 ·conv => lhs; whnf
  refine t_call (h_spec_l1Cur_peg _ _ _ a (by first | rfl | simp only [ml] <;> rfl) (Prod.fst (Prod.snd r)) (Prod.snd (Prod.snd r))) fun r4 => ?_
  conv => lhs; whnf
  exact t_ret (by first | rfl | simp only [ml] <;> rfl)


noncomputable def spec_DrawPartsOfPeg (L : Nat) (a : List Int) : Option ((List Pt) × Int × Int) := gbind (spec_DrawInCircle L a) fun r => some ((Prod.fst r, Prod.fst (Prod.snd r), Prod.snd (Prod.snd r)))


def spec_DrawPartsOfPeg_ok (L : Nat) (C : CF) : Prop := ∀ (oa : Bool) (ca : Bool) (x_a : List AV) (a : List Int) (_ : x_a = List.map eU a), C 16 ([.lst oa ca 1 x_a]) ([]) = Option.map (fun r : (List Pt) × Int × Int => ((.tup [.frs 2 (List.map ep (r.1)), .agg [.int .i64 (r.2.1), .int .i64 (r.2.2)]], []) : AV × List Blk)) (spec_DrawPartsOfPeg L a)


theorem spec_DrawPartsOfPeg_run (L : Nat) (C : CF) (h_spec_DrawInCircle : spec_DrawInCircle_ok L C) : ∀ (oa : Bool) (ca : Bool) (x_a : List AV) (a : List Int) (_ : x_a = List.map eU a), run T C sh (keep 16) L Try.f16 ([.lst oa ca 1 x_a]) ([]) = Option.map (fun r : (List Pt) × Int × Int => ((.tup [.frs 2 (List.map ep (r.1)), .agg [.int .i64 (r.2.1), .int .i64 (r.2.2)]], []) : AV × List Blk)) (spec_DrawPartsOfPeg L a) := by
 intro oa ca x_a a hx_a
 subst hx_a
 unfold spec_DrawPartsOfPeg
 conv => lhs; whnf
 refine t_call (h_spec_DrawInCircle _ _ _ a (by first | rfl | simp only [ml] <;> rfl)) fun r => ?_
 conv => lhs; whnf
 exact t_ret (by first | rfl | simp only [ml] <;> rfl)


noncomputable def impl_isThree (L : Nat) (a : List Pt) : Option (Bool) := bif ieq (ilen (List.map ep a)) 3 then (gbind (impl_IsPolygon L a) fun r => some r) else (some false)


def impl_isThree_ok (L : Nat) (C : CF) : Prop := ∀ (oa : Bool) (ca : Bool) (x_a : List AV) (a : List Pt) (_ : x_a = List.map ep a), C 127 ([.lst oa ca 2 x_a]) ([]) = Option.map (fun r : Bool => ((.bool r, []) : AV × List Blk)) (impl_isThree L a)


theorem impl_isThree_run (L : Nat) (C : CF) (h_impl_IsPolygon : impl_IsPolygon_ok L C) : ∀ (oa : Bool) (ca : Bool) (x_a : List AV) (a : List Pt) (_ : x_a = List.map ep a), run T C sh (keep 127) L Try.f127 ([.lst oa ca 2 x_a]) ([]) = Option.map (fun r : Bool => ((.bool r, []) : AV × List Blk)) (impl_isThree L a) := by
 intro oa ca x_a a hx_a
 subst hx_a
 unfold impl_isThree
 conv => lhs; whnf
 refine t_cond ?_ ?_
 ·conv => lhs; whnf
  refine t_call (h_impl_IsPolygon _ _ _ a (by first | rfl | simp only [ml] <;> rfl)) fun r => ?_
  conv => lhs; whnf
  exact t_ret (by first | rfl | simp only [ml] <;> rfl)
 ·conv => lhs; whnf
  exact t_ret (by first | rfl | simp only [ml] <;> rfl)


noncomputable def spec_trThree (L : Nat) (a : List Pt) : Option (Bool) := bif ieq (ilen (List.map ep a)) 3 then (gbind (spec_pgGood L a) fun r => some r) else (some false)


def spec_trThree_ok (L : Nat) (C : CF) : Prop := ∀ (oa : Bool) (ca : Bool) (x_a : List AV) (a : List Pt) (_ : x_a = List.map ep a), C 130 ([.lst oa ca 2 x_a]) ([]) = Option.map (fun r : Bool => ((.bool r, []) : AV × List Blk)) (spec_trThree L a)


theorem spec_trThree_run (L : Nat) (C : CF) (h_spec_pgGood : spec_pgGood_ok L C) : ∀ (oa : Bool) (ca : Bool) (x_a : List AV) (a : List Pt) (_ : x_a = List.map ep a), run T C sh (keep 130) L Try.f130 ([.lst oa ca 2 x_a]) ([]) = Option.map (fun r : Bool => ((.bool r, []) : AV × List Blk)) (spec_trThree L a) := by
 intro oa ca x_a a hx_a
 subst hx_a
 unfold spec_trThree
 conv => lhs; whnf
 refine t_cond ?_ ?_
 ·conv => lhs; whnf
  refine t_call (h_spec_pgGood _ _ _ a (by first | rfl | simp only [ml] <;> rfl)) fun r => ?_
  conv => lhs; whnf
  exact t_ret (by first | rfl | simp only [ml] <;> rfl)
 ·conv => lhs; whnf
  exact t_ret (by first | rfl | simp only [ml] <;> rfl)


noncomputable def laws_zSame_l0 (L : Nat) (a : List Int) (b : List Int) : Nat → Int → Option Bool
  | 0, _ => none
  | m + 1, v13 => bif ilt v13 (ilen (List.map eI a)) then (gbind (lget a v13) fun p => gbind (lget b v13) fun p1 => bif !ieq p p1 then (some false) else (laws_zSame_l0 L a b m (wr IntKind.i64 (iadd v13 1)))) else (some true)


noncomputable def laws_zSame (L : Nat) (a : List Int) (b : List Int) : Option (Bool) := bif !ieq (ilen (List.map eI a)) (ilen (List.map eI b)) then (some false) else (laws_zSame_l0 L a b L 0)


def laws_zSame_ok (L : Nat) (C : CF) : Prop := ∀ (oa : Bool) (ca : Bool) (x_a : List AV) (a : List Int) (_ : x_a = List.map eI a) (ob : Bool) (cb : Bool) (x_b : List AV) (b : List Int) (_ : x_b = List.map eI b), C 19 ([.lst oa ca 1 x_a, .lst ob cb 1 x_b]) ([]) = Option.map (fun r : Bool => ((.bool r, []) : AV × List Blk)) (laws_zSame L a b)


theorem laws_zSame_run (L : Nat) (C : CF) : ∀ (oa : Bool) (ca : Bool) (x_a : List AV) (a : List Int) (_ : x_a = List.map eI a) (ob : Bool) (cb : Bool) (x_b : List AV) (b : List Int) (_ : x_b = List.map eI b), run T C sh (keep 19) L Try.f19 ([.lst oa ca 1 x_a, .lst ob cb 1 x_b]) ([]) = Option.map (fun r : Bool => ((.bool r, []) : AV × List Blk)) (laws_zSame L a b) := by
 intro oa ca x_a a hx_a ob cb x_b b hx_b
 subst hx_a
 subst hx_b
 unfold laws_zSame
 conv => lhs; whnf
 refine t_cond ?_ ?_
 ·conv => lhs; whnf
  exact t_ret (by first | rfl | simp only [ml] <;> rfl)
 ·conv => lhs; whnf
  refine t_loop (fun (v13 : Int) => (AV.lst oa ca 1 (List.map eI a) :: AV.lst ob cb 1 (List.map eI b) :: topA 10 (AV.int IntKind.i64 (ilen (List.map eI a)) :: AV.int IntKind.i64 v13 :: tops 12), [])) (fun m (v13 : Int) => laws_zSame_l0 L a b m v13) (fun _ => rfl) (fun m v13 rec hrec => ?_) L 0 ?_ ?_
  rotate_left
  ·first | rfl | simp only [ml] <;> rfl
  ·first | rfl | simp only [ml] <;> rfl
  show _ = Option.map _ (laws_zSame_l0 L a b (m + 1) v13)
  rw [laws_zSame_l0.eq_2]
  conv => lhs; whnf
  refine t_cond ?_ ?_
  ·conv => lhs; whnf
   refine t_get (en := eI) (l := a) (by first | rfl | simp only [ml] <;> rfl) fun p => ?_
   conv => lhs; whnf
   refine t_get (en := eI) (l := b) (by first | rfl | simp only [ml] <;> rfl) fun p1 => ?_
   conv => lhs; whnf
   refine t_cond ?_ ?_
   ·conv => lhs; whnf
    exact t_ret (by first | rfl | simp only [ml] <;> rfl)
   ·conv => lhs; whnf
    exact hrec (wr IntKind.i64 (iadd v13 1)) _ _ (by first | rfl | simp only [ml] <;> rfl) (by first | rfl | simp only [ml] <;> rfl)
  ·conv => lhs; whnf
   exact t_ret (by first | rfl | simp only [ml] <;> rfl)


noncomputable def spec_DrawSidesOfThree (L : Nat) (a : List Int) : Option ((List Pt)) := gbind (spec_l1Cur_three L a 0 0 5) fun r => some (Prod.fst r)


def spec_DrawSidesOfThree_ok (L : Nat) (C : CF) : Prop := ∀ (oa : Bool) (ca : Bool) (x_a : List AV) (a : List Int) (_ : x_a = List.map eU a), C 84 ([.lst oa ca 1 x_a]) ([]) = Option.map (fun r : (List Pt) => ((.frs 2 (List.map ep r), []) : AV × List Blk)) (spec_DrawSidesOfThree L a)


theorem spec_DrawSidesOfThree_run (L : Nat) (C : CF) (h_spec_l1Cur_three : spec_l1Cur_three_ok L C) : ∀ (oa : Bool) (ca : Bool) (x_a : List AV) (a : List Int) (_ : x_a = List.map eU a), run T C sh (keep 84) L Try.f84 ([.lst oa ca 1 x_a]) ([]) = Option.map (fun r : (List Pt) => ((.frs 2 (List.map ep r), []) : AV × List Blk)) (spec_DrawSidesOfThree L a) := by
 intro oa ca x_a a hx_a
 subst hx_a
 unfold spec_DrawSidesOfThree
 conv => lhs; whnf
 refine t_call (h_spec_l1Cur_three _ _ _ a (by first | rfl | simp only [ml] <;> rfl) 0 0 5) fun r => ?_
 conv => lhs; whnf
 exact t_ret (by first | rfl | simp only [ml] <;> rfl)


noncomputable def impl_sides (L : Nat) (a : List Pt) : Option ((List Int)) := gbind (lget a 1) fun p => gbind (lget a 2) fun p1 => gbind (impl_Peg_less L (Pt.x p) (Pt.y p) (Pt.x p1) (Pt.y p1)) fun r => gbind (impl_Peg_square L (Prod.fst r) (Prod.snd r)) fun r1 => gbind (lget a 2) fun p2 => gbind (lget a 0) fun p3 => gbind (impl_Peg_less L (Pt.x p2) (Pt.y p2) (Pt.x p3) (Pt.y p3)) fun r2 => gbind (impl_Peg_square L (Prod.fst r2) (Prod.snd r2)) fun r3 => gbind (lget a 0) fun p4 => gbind (lget a 1) fun p5 => gbind (impl_Peg_less L (Pt.x p4) (Pt.y p4) (Pt.x p5) (Pt.y p5)) fun r4 => gbind (impl_Peg_square L (Prod.fst r4) (Prod.snd r4)) fun r5 => some (r1 :: (r3 :: (r5 :: [])))


def impl_sides_ok (L : Nat) (C : CF) : Prop := ∀ (oa : Bool) (ca : Bool) (x_a : List AV) (a : List Pt) (_ : x_a = List.map ep a), C 192 ([.lst oa ca 2 x_a]) ([]) = Option.map (fun r : (List Int) => ((.frs 1 (List.map eI r), []) : AV × List Blk)) (impl_sides L a)


theorem impl_sides_run (L : Nat) (C : CF) (h_impl_Peg_less : impl_Peg_less_ok L C) (h_impl_Peg_square : impl_Peg_square_ok L C) : ∀ (oa : Bool) (ca : Bool) (x_a : List AV) (a : List Pt) (_ : x_a = List.map ep a), run T C sh (keep 192) L Try.f192 ([.lst oa ca 2 x_a]) ([]) = Option.map (fun r : (List Int) => ((.frs 1 (List.map eI r), []) : AV × List Blk)) (impl_sides L a) := by
 intro oa ca x_a a hx_a
 subst hx_a
 unfold impl_sides
 conv => lhs; whnf
 refine t_get (en := ep) (l := a) (by first | rfl | simp only [ml] <;> rfl) fun p => ?_
 conv => lhs; whnf
 refine t_get (en := ep) (l := a) (by first | rfl | simp only [ml] <;> rfl) fun p1 => ?_
 conv => lhs; whnf
 refine t_call (h_impl_Peg_less (Pt.x p) (Pt.y p) (Pt.x p1) (Pt.y p1)) fun r => ?_
 conv => lhs; whnf
 refine t_call (h_impl_Peg_square (Prod.fst r) (Prod.snd r)) fun r1 => ?_
 conv => lhs; whnf
 refine t_get (en := ep) (l := a) (by first | rfl | simp only [ml] <;> rfl) fun p2 => ?_
 conv => lhs; whnf
 refine t_get (en := ep) (l := a) (by first | rfl | simp only [ml] <;> rfl) fun p3 => ?_
 conv => lhs; whnf
 refine t_call (h_impl_Peg_less (Pt.x p2) (Pt.y p2) (Pt.x p3) (Pt.y p3)) fun r2 => ?_
 conv => lhs; whnf
 refine t_call (h_impl_Peg_square (Prod.fst r2) (Prod.snd r2)) fun r3 => ?_
 conv => lhs; whnf
 refine t_get (en := ep) (l := a) (by first | rfl | simp only [ml] <;> rfl) fun p4 => ?_
 conv => lhs; whnf
 refine t_get (en := ep) (l := a) (by first | rfl | simp only [ml] <;> rfl) fun p5 => ?_
 conv => lhs; whnf
 refine t_call (h_impl_Peg_less (Pt.x p4) (Pt.y p4) (Pt.x p5) (Pt.y p5)) fun r4 => ?_
 conv => lhs; whnf
 refine t_call (h_impl_Peg_square (Prod.fst r4) (Prod.snd r4)) fun r5 => ?_
 conv => lhs; whnf
 exact t_ret (by first | rfl | simp only [ml] <;> rfl)


noncomputable def impl_SidesOfThree (L : Nat) (a : List Pt) : Option ((List Int) × Bool) := gbind (impl_isThree L a) fun r => bif !r then (some (([], false))) else (gbind (impl_sides L a) fun r1 => some ((r1, true)))


def impl_SidesOfThree_ok (L : Nat) (C : CF) : Prop := ∀ (oa : Bool) (ca : Bool) (x_a : List AV) (a : List Pt) (_ : x_a = List.map ep a), C 85 ([.lst oa ca 2 x_a]) ([]) = Option.map (fun r : (List Int) × Bool => ((.tup [.frs 1 (List.map eI (r.1)), .bool (r.2)], []) : AV × List Blk)) (impl_SidesOfThree L a)


theorem impl_SidesOfThree_run (L : Nat) (C : CF) (h_impl_isThree : impl_isThree_ok L C) (h_impl_sides : impl_sides_ok L C) : ∀ (oa : Bool) (ca : Bool) (x_a : List AV) (a : List Pt) (_ : x_a = List.map ep a), run T C sh (keep 85) L Try.f85 ([.lst oa ca 2 x_a]) ([]) = Option.map (fun r : (List Int) × Bool => ((.tup [.frs 1 (List.map eI (r.1)), .bool (r.2)], []) : AV × List Blk)) (impl_SidesOfThree L a) := by
 intro oa ca x_a a hx_a
 subst hx_a
 unfold impl_SidesOfThree
 conv => lhs; whnf
 refine t_call (h_impl_isThree _ _ _ a (by first | rfl | simp only [ml] <;> rfl)) fun r => ?_
 conv => lhs; whnf
 refine t_cond ?_ ?_
 ·conv => lhs; whnf
  exact t_ret (by first | rfl | simp only [ml] <;> rfl)
 ·conv => lhs; whnf
  refine t_call (h_impl_sides _ _ _ a (by first | rfl | simp only [ml] <;> rfl)) fun r1 => ?_
  conv => lhs; whnf
  exact t_ret (by first | rfl | simp only [ml] <;> rfl)


noncomputable def spec_trSides (L : Nat) (a : List Pt) : Option ((List Int)) := gbind (lget a 1) fun p => gbind (lget a 2) fun p1 => gbind (spec_trSquare L (Pt.x p) (Pt.y p) (Pt.x p1) (Pt.y p1)) fun r => gbind (lget a 2) fun p2 => gbind (lget a 0) fun p3 => gbind (spec_trSquare L (Pt.x p2) (Pt.y p2) (Pt.x p3) (Pt.y p3)) fun r1 => gbind (lget a 0) fun p4 => gbind (lget a 1) fun p5 => gbind (spec_trSquare L (Pt.x p4) (Pt.y p4) (Pt.x p5) (Pt.y p5)) fun r2 => some (r :: (r1 :: (r2 :: [])))


def spec_trSides_ok (L : Nat) (C : CF) : Prop := ∀ (oa : Bool) (ca : Bool) (x_a : List AV) (a : List Pt) (_ : x_a = List.map ep a), C 193 ([.lst oa ca 2 x_a]) ([]) = Option.map (fun r : (List Int) => ((.frs 1 (List.map eI r), []) : AV × List Blk)) (spec_trSides L a)


theorem spec_trSides_run (L : Nat) (C : CF) (h_spec_trSquare : spec_trSquare_ok L C) : ∀ (oa : Bool) (ca : Bool) (x_a : List AV) (a : List Pt) (_ : x_a = List.map ep a), run T C sh (keep 193) L Try.f193 ([.lst oa ca 2 x_a]) ([]) = Option.map (fun r : (List Int) => ((.frs 1 (List.map eI r), []) : AV × List Blk)) (spec_trSides L a) := by
 intro oa ca x_a a hx_a
 subst hx_a
 unfold spec_trSides
 conv => lhs; whnf
 refine t_get (en := ep) (l := a) (by first | rfl | simp only [ml] <;> rfl) fun p => ?_
 conv => lhs; whnf
 refine t_get (en := ep) (l := a) (by first | rfl | simp only [ml] <;> rfl) fun p1 => ?_
 conv => lhs; whnf
 refine t_call (h_spec_trSquare (Pt.x p) (Pt.y p) (Pt.x p1) (Pt.y p1)) fun r => ?_
 conv => lhs; whnf
 refine t_get (en := ep) (l := a) (by first | rfl | simp only [ml] <;> rfl) fun p2 => ?_
 conv => lhs; whnf
 refine t_get (en := ep) (l := a) (by first | rfl | simp only [ml] <;> rfl) fun p3 => ?_
 conv => lhs; whnf
 refine t_call (h_spec_trSquare (Pt.x p2) (Pt.y p2) (Pt.x p3) (Pt.y p3)) fun r1 => ?_
 conv => lhs; whnf
 refine t_get (en := ep) (l := a) (by first | rfl | simp only [ml] <;> rfl) fun p4 => ?_
 conv => lhs; whnf
 refine t_get (en := ep) (l := a) (by first | rfl | simp only [ml] <;> rfl) fun p5 => ?_
 conv => lhs; whnf
 refine t_call (h_spec_trSquare (Pt.x p4) (Pt.y p4) (Pt.x p5) (Pt.y p5)) fun r2 => ?_
 conv => lhs; whnf
 exact t_ret (by first | rfl | simp only [ml] <;> rfl)


noncomputable def spec_SidesOfThree (L : Nat) (a : List Pt) : Option ((List Int) × Bool) := gbind (spec_trThree L a) fun r => bif !r then (some (([], false))) else (gbind (spec_trSides L a) fun r1 => some ((r1, true)))


def spec_SidesOfThree_ok (L : Nat) (C : CF) : Prop := ∀ (oa : Bool) (ca : Bool) (x_a : List AV) (a : List Pt) (_ : x_a = List.map ep a), C 86 ([.lst oa ca 2 x_a]) ([]) = Option.map (fun r : (List Int) × Bool => ((.tup [.frs 1 (List.map eI (r.1)), .bool (r.2)], []) : AV × List Blk)) (spec_SidesOfThree L a)


theorem spec_SidesOfThree_run (L : Nat) (C : CF) (h_spec_trThree : spec_trThree_ok L C) (h_spec_trSides : spec_trSides_ok L C) : ∀ (oa : Bool) (ca : Bool) (x_a : List AV) (a : List Pt) (_ : x_a = List.map ep a), run T C sh (keep 86) L Try.f86 ([.lst oa ca 2 x_a]) ([]) = Option.map (fun r : (List Int) × Bool => ((.tup [.frs 1 (List.map eI (r.1)), .bool (r.2)], []) : AV × List Blk)) (spec_SidesOfThree L a) := by
 intro oa ca x_a a hx_a
 subst hx_a
 unfold spec_SidesOfThree
 conv => lhs; whnf
 refine t_call (h_spec_trThree _ _ _ a (by first | rfl | simp only [ml] <;> rfl)) fun r => ?_
 conv => lhs; whnf
 refine t_cond ?_ ?_
 ·conv => lhs; whnf
  exact t_ret (by first | rfl | simp only [ml] <;> rfl)
 ·conv => lhs; whnf
  refine t_call (h_spec_trSides _ _ _ a (by first | rfl | simp only [ml] <;> rfl)) fun r1 => ?_
  conv => lhs; whnf
  exact t_ret (by first | rfl | simp only [ml] <;> rfl)


noncomputable def impl_HeightsOfThree_l0 (L : Nat) (r1 : Int) (r2 : List Int) : Nat → Int → (List (List Int)) → Option ((List (List Int)) × Bool)
  | 0, _, _ => none
  | m + 1, v18, w0 => bif ilt v18 (ilen (List.map eI r2)) then (bif ile 0 v18 && ilt v18 (ilen (List.map eI r2)) then (gbind (lget r2 v18) fun p => gbind (impl_divisor L (wr IntKind.i64 (imul r1 r1)) p) fun r3 => bif ieq r3 0 then (none) else (bif ieq r3 0 then (none) else (bif fits (iadd (ilen (List.map eLI w0)) (ilen [AV.lst false false 1 [AV.int IntKind.i64 (wr IntKind.i64 (iquo (wr IntKind.i64 (imul r1 r1)) r3)), AV.int IntKind.i64 (wr IntKind.i64 (iquo p r3))]])) 24 then (impl_HeightsOfThree_l0 L r1 r2 m (wr IntKind.i64 (iadd v18 1)) (lcat w0 ((wr IntKind.i64 (iquo (wr IntKind.i64 (imul r1 r1)) r3) :: (wr IntKind.i64 (iquo p r3) :: [])) :: []))) else (none)))) else (none)) else (some ((w0, true)))


noncomputable def impl_HeightsOfThree (L : Nat) (a : List Pt) : Option ((List (List Int)) × Bool) := gbind (impl_isThree L a) fun r => bif !r then (some (([], false))) else (gbind (impl_twice L a) fun r1 => gbind (impl_sides L a) fun r2 => impl_HeightsOfThree_l0 L r1 r2 L 0 [])


def impl_HeightsOfThree_ok (L : Nat) (C : CF) : Prop := ∀ (oa : Bool) (ca : Bool) (x_a : List AV) (a : List Pt) (_ : x_a = List.map ep a), C 87 ([.lst oa ca 2 x_a]) ([]) = Option.map (fun r : (List (List Int)) × Bool => ((.tup [.frs 1 (List.map eLI (r.1)), .bool (r.2)], []) : AV × List Blk)) (impl_HeightsOfThree L a)


theorem impl_HeightsOfThree_run (L : Nat) (C : CF) (h_impl_twice : impl_twice_ok L C) (h_impl_divisor : impl_divisor_ok L C) (h_impl_isThree : impl_isThree_ok L C) (h_impl_sides : impl_sides_ok L C) : ∀ (oa : Bool) (ca : Bool) (x_a : List AV) (a : List Pt) (_ : x_a = List.map ep a), run T C sh (keep 87) L Try.f87 ([.lst oa ca 2 x_a]) ([]) = Option.map (fun r : (List (List Int)) × Bool => ((.tup [.frs 1 (List.map eLI (r.1)), .bool (r.2)], []) : AV × List Blk)) (impl_HeightsOfThree L a) := by
 intro oa ca x_a a hx_a
 subst hx_a
 unfold impl_HeightsOfThree
 conv => lhs; whnf
 refine t_call (h_impl_isThree _ _ _ a (by first | rfl | simp only [ml] <;> rfl)) fun r => ?_
 conv => lhs; whnf
 refine t_cond ?_ ?_
 ·conv => lhs; whnf
  exact t_ret (by first | rfl | simp only [ml] <;> rfl)
 ·conv => lhs; whnf
  refine t_call (h_impl_twice _ _ _ a (by first | rfl | simp only [ml] <;> rfl)) fun r1 => ?_
  conv => lhs; whnf
  refine t_call (h_impl_sides _ _ _ a (by first | rfl | simp only [ml] <;> rfl)) fun r2 => ?_
  conv => lhs; whnf
  refine t_loop (fun (⟨v18, w0⟩ : Int × (List (List Int))) => (topA 4 (AV.own 0 1 none false :: AV.int IntKind.i64 r1 :: topA 10 (AV.own 1 1 none false :: AV.int IntKind.i64 (ilen (List.map eI r2)) :: AV.int IntKind.i64 v18 :: tops 22)), [Blk.rows Mode.live 1 (List.map eLI w0), Blk.rows Mode.live 1 (List.map eI r2)])) (fun m (⟨v18, w0⟩ : Int × (List (List Int))) => impl_HeightsOfThree_l0 L r1 r2 m v18 w0) (fun _ => rfl) (fun m s rec hrec => ?_) L ((0, [])) ?_ ?_
  rotate_left
  ·first | rfl | simp only [ml] <;> rfl
  ·first | rfl | simp only [ml] <;> rfl
  obtain ⟨v18, w0⟩ := s
  show _ = Option.map _ (impl_HeightsOfThree_l0 L r1 r2 (m + 1) v18 w0)
  rw [impl_HeightsOfThree_l0.eq_2]
  conv => lhs; whnf
  refine t_cond ?_ ?_
  ·conv => lhs; whnf
   refine t_cond ?_ ?_
   ·conv => lhs; whnf
    refine t_get (en := eI) (l := r2) (by first | rfl | simp only [ml] <;> rfl) fun p => ?_
    conv => lhs; whnf
    refine t_call (h_impl_divisor (wr IntKind.i64 (imul r1 r1)) p) fun r3 => ?_
    conv => lhs; whnf
    refine t_cond ?_ ?_
    ·conv => lhs; whnf
     exact t_none
    ·conv => lhs; whnf
     refine t_cond ?_ ?_
     ·conv => lhs; whnf
      exact t_none
     ·conv => lhs; whnf
      refine t_cond ?_ ?_
      ·conv => lhs; whnf
       exact hrec ((wr IntKind.i64 (iadd v18 1), lcat w0 ((wr IntKind.i64 (iquo (wr IntKind.i64 (imul r1 r1)) r3) :: (wr IntKind.i64 (iquo p r3) :: [])) :: []))) _ _ (by first | rfl | simp only [ml] <;> rfl) (by first | rfl | simp only [ml] <;> rfl)
      ·conv => lhs; whnf
       exact t_none
   ·conv => lhs; whnf
    exact t_none
  ·conv => lhs; whnf
   exact t_ret (by first | rfl | simp only [ml] <;> rfl)


noncomputable def spec_HeightsOfThree_l0 (L : Nat) (r1 : Int) (r2 : List Int) : Nat → Int → (List (List Int)) → Option ((List (List Int)) × Bool)
  | 0, _, _ => none
  | m + 1, v17, w0 => bif ilt v17 (ilen (List.map eI r2)) then (bif ile 0 v17 && ilt v17 (ilen (List.map eI r2)) then (gbind (lget r2 v17) fun p => gbind (spec_pgCommon L (wr IntKind.i64 (imul r1 r1)) p) fun r3 => bif ieq r3 0 then (none) else (bif ieq r3 0 then (none) else (bif fits (iadd (ilen (List.map eLI w0)) (ilen [AV.lst false false 1 [AV.int IntKind.i64 (wr IntKind.i64 (iquo (wr IntKind.i64 (imul r1 r1)) r3)), AV.int IntKind.i64 (wr IntKind.i64 (iquo p r3))]])) 24 then (spec_HeightsOfThree_l0 L r1 r2 m (wr IntKind.i64 (iadd v17 1)) (lcat w0 ((wr IntKind.i64 (iquo (wr IntKind.i64 (imul r1 r1)) r3) :: (wr IntKind.i64 (iquo p r3) :: [])) :: []))) else (none)))) else (none)) else (some ((w0, true)))


noncomputable def spec_HeightsOfThree (L : Nat) (a : List Pt) : Option ((List (List Int)) × Bool) := gbind (spec_trThree L a) fun r => bif !r then (some (([], false))) else (gbind (spec_pgArea L a) fun r1 => gbind (spec_trSides L a) fun r2 => spec_HeightsOfThree_l0 L r1 r2 L 0 [])


def spec_HeightsOfThree_ok (L : Nat) (C : CF) : Prop := ∀ (oa : Bool) (ca : Bool) (x_a : List AV) (a : List Pt) (_ : x_a = List.map ep a), C 88 ([.lst oa ca 2 x_a]) ([]) = Option.map (fun r : (List (List Int)) × Bool => ((.tup [.frs 1 (List.map eLI (r.1)), .bool (r.2)], []) : AV × List Blk)) (spec_HeightsOfThree L a)


theorem spec_HeightsOfThree_run (L : Nat) (C : CF) (h_spec_pgArea : spec_pgArea_ok L C) (h_spec_pgCommon : spec_pgCommon_ok L C) (h_spec_trThree : spec_trThree_ok L C) (h_spec_trSides : spec_trSides_ok L C) : ∀ (oa : Bool) (ca : Bool) (x_a : List AV) (a : List Pt) (_ : x_a = List.map ep a), run T C sh (keep 88) L Try.f88 ([.lst oa ca 2 x_a]) ([]) = Option.map (fun r : (List (List Int)) × Bool => ((.tup [.frs 1 (List.map eLI (r.1)), .bool (r.2)], []) : AV × List Blk)) (spec_HeightsOfThree L a) := by
 intro oa ca x_a a hx_a
 subst hx_a
 unfold spec_HeightsOfThree
 conv => lhs; whnf
 refine t_call (h_spec_trThree _ _ _ a (by first | rfl | simp only [ml] <;> rfl)) fun r => ?_
 conv => lhs; whnf
 refine t_cond ?_ ?_
 ·conv => lhs; whnf
  exact t_ret (by first | rfl | simp only [ml] <;> rfl)
 ·conv => lhs; whnf
  refine t_call (h_spec_pgArea _ _ _ a (by first | rfl | simp only [ml] <;> rfl)) fun r1 => ?_
  conv => lhs; whnf
  refine t_call (h_spec_trSides _ _ _ a (by first | rfl | simp only [ml] <;> rfl)) fun r2 => ?_
  conv => lhs; whnf
  refine t_loop (fun (⟨v17, w0⟩ : Int × (List (List Int))) => (topA 4 (AV.int IntKind.i64 r1 :: AV.own 0 1 none false :: topA 9 (AV.own 1 1 none false :: AV.int IntKind.i64 (ilen (List.map eI r2)) :: AV.int IntKind.i64 v17 :: tops 22)), [Blk.rows Mode.live 1 (List.map eLI w0), Blk.rows Mode.live 1 (List.map eI r2)])) (fun m (⟨v17, w0⟩ : Int × (List (List Int))) => spec_HeightsOfThree_l0 L r1 r2 m v17 w0) (fun _ => rfl) (fun m s rec hrec => ?_) L ((0, [])) ?_ ?_
  rotate_left
  ·first | rfl | simp only [ml] <;> rfl
  ·first | rfl | simp only [ml] <;> rfl
  obtain ⟨v17, w0⟩ := s
  show _ = Option.map _ (spec_HeightsOfThree_l0 L r1 r2 (m + 1) v17 w0)
  rw [spec_HeightsOfThree_l0.eq_2]
  conv => lhs; whnf
  refine t_cond ?_ ?_
  ·conv => lhs; whnf
   refine t_cond ?_ ?_
   ·conv => lhs; whnf
    refine t_get (en := eI) (l := r2) (by first | rfl | simp only [ml] <;> rfl) fun p => ?_
    conv => lhs; whnf
    refine t_call (h_spec_pgCommon (wr IntKind.i64 (imul r1 r1)) p) fun r3 => ?_
    conv => lhs; whnf
    refine t_cond ?_ ?_
    ·conv => lhs; whnf
     exact t_none
    ·conv => lhs; whnf
     refine t_cond ?_ ?_
     ·conv => lhs; whnf
      exact t_none
     ·conv => lhs; whnf
      refine t_cond ?_ ?_
      ·conv => lhs; whnf
       exact hrec ((wr IntKind.i64 (iadd v17 1), lcat w0 ((wr IntKind.i64 (iquo (wr IntKind.i64 (imul r1 r1)) r3) :: (wr IntKind.i64 (iquo p r3) :: [])) :: []))) _ _ (by first | rfl | simp only [ml] <;> rfl) (by first | rfl | simp only [ml] <;> rfl)
      ·conv => lhs; whnf
       exact t_none
   ·conv => lhs; whnf
    exact t_none
  ·conv => lhs; whnf
   exact t_ret (by first | rfl | simp only [ml] <;> rfl)


noncomputable def impl_AngleKind (L : Nat) (a : List Pt) : Option (Int × Bool) := gbind (impl_isThree L a) fun r => bif !r then (some ((0, false))) else (gbind (impl_sides L a) fun r1 => bif ile 0 0 && ilt 0 (ilen (List.map eI r1)) then (gbind (lget r1 0) fun p => bif ile 0 1 && ilt 1 (ilen (List.map eI r1)) then (gbind (lget r1 1) fun p1 => bif ile 0 2 && ilt 2 (ilen (List.map eI r1)) then (gbind (lget r1 2) fun p2 => bif ile 0 0 && ilt 0 (ilen (List.map eI r1)) then (gbind (lget r1 0) fun p3 => bif ile 0 1 && ilt 1 (ilen (List.map eI r1)) then (gbind (lget r1 1) fun p4 => bif ile 0 2 && ilt 2 (ilen (List.map eI r1)) then (gbind (lget r1 2) fun p5 => gbind (impl_sign L (wr IntKind.i64 (isub (wr IntKind.i64 (iadd (wr IntKind.i64 (iadd p p1)) p2)) (wr IntKind.i64 (imul 2 (imax (imax p3 p4) p5)))))) fun r2 => some ((r2, true))) else (none)) else (none)) else (none)) else (none)) else (none)) else (none))


def impl_AngleKind_ok (L : Nat) (C : CF) : Prop := ∀ (oa : Bool) (ca : Bool) (x_a : List AV) (a : List Pt) (_ : x_a = List.map ep a), C 89 ([.lst oa ca 2 x_a]) ([]) = Option.map (fun r : Int × Bool => ((.tup [.int .i64 (r.1), .bool (r.2)], []) : AV × List Blk)) (impl_AngleKind L a)


theorem impl_AngleKind_run (L : Nat) (C : CF) (h_impl_sign : impl_sign_ok L C) (h_impl_isThree : impl_isThree_ok L C) (h_impl_sides : impl_sides_ok L C) : ∀ (oa : Bool) (ca : Bool) (x_a : List AV) (a : List Pt) (_ : x_a = List.map ep a), run T C sh (keep 89) L Try.f89 ([.lst oa ca 2 x_a]) ([]) = Option.map (fun r : Int × Bool => ((.tup [.int .i64 (r.1), .bool (r.2)], []) : AV × List Blk)) (impl_AngleKind L a) := by
 intro oa ca x_a a hx_a
 subst hx_a
 unfold impl_AngleKind
 conv => lhs; whnf
 refine t_call (h_impl_isThree _ _ _ a (by first | rfl | simp only [ml] <;> rfl)) fun r => ?_
 conv => lhs; whnf
 refine t_cond ?_ ?_
 ·conv => lhs; whnf
  exact t_ret (by first | rfl | simp only [ml] <;> rfl)
 ·conv => lhs; whnf
  refine t_call (h_impl_sides _ _ _ a (by first | rfl | simp only [ml] <;> rfl)) fun r1 => ?_
  conv => lhs; whnf
  refine t_cond ?_ ?_
  ·conv => lhs; whnf
   refine t_get (en := eI) (l := r1) (by first | rfl | simp only [ml] <;> rfl) fun p => ?_
   conv => lhs; whnf
   refine t_cond ?_ ?_
   ·conv => lhs; whnf
    refine t_get (en := eI) (l := r1) (by first | rfl | simp only [ml] <;> rfl) fun p1 => ?_
    conv => lhs; whnf
    refine t_cond ?_ ?_
    ·conv => lhs; whnf
     refine t_get (en := eI) (l := r1) (by first | rfl | simp only [ml] <;> rfl) fun p2 => ?_
     conv => lhs; whnf
     refine t_cond ?_ ?_
     ·conv => lhs; whnf
      refine t_get (en := eI) (l := r1) (by first | rfl | simp only [ml] <;> rfl) fun p3 => ?_
      conv => lhs; whnf
      refine t_cond ?_ ?_
      ·conv => lhs; whnf
       refine t_get (en := eI) (l := r1) (by first | rfl | simp only [ml] <;> rfl) fun p4 => ?_
       conv => lhs; whnf
       refine t_cond ?_ ?_
       ·conv => lhs; whnf
        refine t_get (en := eI) (l := r1) (by first | rfl | simp only [ml] <;> rfl) fun p5 => ?_
        conv => lhs; whnf
        refine t_call (h_impl_sign (wr IntKind.i64 (isub (wr IntKind.i64 (iadd (wr IntKind.i64 (iadd p p1)) p2)) (wr IntKind.i64 (imul 2 (imax (imax p3 p4) p5)))))) fun r2 => ?_
        conv => lhs; whnf
        exact t_ret (by first | rfl | simp only [ml] <;> rfl)
       ·conv => lhs; whnf
        exact t_none
      ·conv => lhs; whnf
       exact t_none
     ·conv => lhs; whnf
      exact t_none
    ·conv => lhs; whnf
     exact t_none
   ·conv => lhs; whnf
    exact t_none
  ·conv => lhs; whnf
   exact t_none


noncomputable def spec_AngleKind (L : Nat) (a : List Pt) : Option (Int × Bool) := gbind (spec_trThree L a) fun r => bif !r then (some ((0, false))) else (gbind (spec_trSides L a) fun r1 => bif ile 0 0 && ilt 0 (ilen (List.map eI r1)) then (gbind (lget r1 0) fun p => bif ile 0 1 && ilt 1 (ilen (List.map eI r1)) then (gbind (lget r1 1) fun p1 => bif ile 0 2 && ilt 2 (ilen (List.map eI r1)) then (gbind (lget r1 2) fun p2 => gbind (spec_l1Most L p1 p2) fun r2 => gbind (spec_l1Most L p r2) fun r3 => bif ile 0 0 && ilt 0 (ilen (List.map eI r1)) then (gbind (lget r1 0) fun p3 => bif ile 0 1 && ilt 1 (ilen (List.map eI r1)) then (gbind (lget r1 1) fun p4 => bif ile 0 2 && ilt 2 (ilen (List.map eI r1)) then (gbind (lget r1 2) fun p5 => gbind (spec_l1Sign L (wr IntKind.i64 (isub (wr IntKind.i64 (iadd (wr IntKind.i64 (iadd p3 p4)) p5)) (wr IntKind.i64 (imul 2 r3))))) fun r4 => some ((r4, true))) else (none)) else (none)) else (none)) else (none)) else (none)) else (none))


def spec_AngleKind_ok (L : Nat) (C : CF) : Prop := ∀ (oa : Bool) (ca : Bool) (x_a : List AV) (a : List Pt) (_ : x_a = List.map ep a), C 90 ([.lst oa ca 2 x_a]) ([]) = Option.map (fun r : Int × Bool => ((.tup [.int .i64 (r.1), .bool (r.2)], []) : AV × List Blk)) (spec_AngleKind L a)


theorem spec_AngleKind_run (L : Nat) (C : CF) (h_spec_l1Sign : spec_l1Sign_ok L C) (h_spec_l1Most : spec_l1Most_ok L C) (h_spec_trThree : spec_trThree_ok L C) (h_spec_trSides : spec_trSides_ok L C) : ∀ (oa : Bool) (ca : Bool) (x_a : List AV) (a : List Pt) (_ : x_a = List.map ep a), run T C sh (keep 90) L Try.f90 ([.lst oa ca 2 x_a]) ([]) = Option.map (fun r : Int × Bool => ((.tup [.int .i64 (r.1), .bool (r.2)], []) : AV × List Blk)) (spec_AngleKind L a) := by
 intro oa ca x_a a hx_a
 subst hx_a
 unfold spec_AngleKind
 conv => lhs; whnf
 refine t_call (h_spec_trThree _ _ _ a (by first | rfl | simp only [ml] <;> rfl)) fun r => ?_
 conv => lhs; whnf
 refine t_cond ?_ ?_
 ·conv => lhs; whnf
  exact t_ret (by first | rfl | simp only [ml] <;> rfl)
 ·conv => lhs; whnf
  refine t_call (h_spec_trSides _ _ _ a (by first | rfl | simp only [ml] <;> rfl)) fun r1 => ?_
  conv => lhs; whnf
  refine t_cond ?_ ?_
  ·conv => lhs; whnf
   refine t_get (en := eI) (l := r1) (by first | rfl | simp only [ml] <;> rfl) fun p => ?_
   conv => lhs; whnf
   refine t_cond ?_ ?_
   ·conv => lhs; whnf
    refine t_get (en := eI) (l := r1) (by first | rfl | simp only [ml] <;> rfl) fun p1 => ?_
    conv => lhs; whnf
    refine t_cond ?_ ?_
    ·conv => lhs; whnf
     refine t_get (en := eI) (l := r1) (by first | rfl | simp only [ml] <;> rfl) fun p2 => ?_
     conv => lhs; whnf
     refine t_call (h_spec_l1Most p1 p2) fun r2 => ?_
     conv => lhs; whnf
     refine t_call (h_spec_l1Most p r2) fun r3 => ?_
     conv => lhs; whnf
     refine t_cond ?_ ?_
     ·conv => lhs; whnf
      refine t_get (en := eI) (l := r1) (by first | rfl | simp only [ml] <;> rfl) fun p3 => ?_
      conv => lhs; whnf
      refine t_cond ?_ ?_
      ·conv => lhs; whnf
       refine t_get (en := eI) (l := r1) (by first | rfl | simp only [ml] <;> rfl) fun p4 => ?_
       conv => lhs; whnf
       refine t_cond ?_ ?_
       ·conv => lhs; whnf
        refine t_get (en := eI) (l := r1) (by first | rfl | simp only [ml] <;> rfl) fun p5 => ?_
        conv => lhs; whnf
        refine t_call (h_spec_l1Sign (wr IntKind.i64 (isub (wr IntKind.i64 (iadd (wr IntKind.i64 (iadd p3 p4)) p5)) (wr IntKind.i64 (imul 2 r3))))) fun r4 => ?_
        conv => lhs; whnf
        exact t_ret (by first | rfl | simp only [ml] <;> rfl)
       ·conv => lhs; whnf
        exact t_none
      ·conv => lhs; whnf
       exact t_none
     ·conv => lhs; whnf
      exact t_none
    ·conv => lhs; whnf
     exact t_none
   ·conv => lhs; whnf
    exact t_none
  ·conv => lhs; whnf
   exact t_none


noncomputable def impl_CircleOfThree_l0 (L : Nat) (a : List Pt) (r1 : Int) : Nat → Int → Int → Int → Option (Int × Int × Int × Bool)
  | 0, _, _, _ => none
  | m + 1, v6, v7, v21 => bif ilt v21 (ilen (List.map ep a)) then (gbind (lget a v21) fun p => gbind (impl_at L a (wr IntKind.i64 (iadd v21 1))) fun r2 => gbind (impl_at L a (wr IntKind.i64 (iadd v21 2))) fun r3 => gbind (impl_Peg_less L (Prod.fst r2) (Prod.snd r2) (Prod.fst r3) (Prod.snd r3)) fun r4 => gbind (impl_Peg_square L (Pt.x p) (Pt.y p)) fun r5 => gbind (impl_Peg_square L (Pt.x p) (Pt.y p)) fun r6 => impl_CircleOfThree_l0 L a r1 m (wr IntKind.i64 (iadd v6 (wr IntKind.i64 (imul r5 (Prod.snd r4))))) (wr IntKind.i64 (isub v7 (wr IntKind.i64 (imul r6 (Prod.fst r4))))) (wr IntKind.i64 (iadd v21 1))) else (gbind (impl_divisor L v6 v7) fun r7 => gbind (impl_divisor L r7 (wr IntKind.i64 (imul 2 r1))) fun r8 => gbind (impl_sign L (wr IntKind.i64 (imul 2 r1))) fun r9 => bif ieq (wr IntKind.i64 (imul r8 r9)) 0 then (none) else (bif ieq (wr IntKind.i64 (imul r8 r9)) 0 then (none) else (bif ieq (wr IntKind.i64 (imul r8 r9)) 0 then (none) else (some ((wr IntKind.i64 (iquo v6 (wr IntKind.i64 (imul r8 r9))), wr IntKind.i64 (iquo v7 (wr IntKind.i64 (imul r8 r9))), wr IntKind.i64 (iquo (wr IntKind.i64 (imul 2 r1)) (wr IntKind.i64 (imul r8 r9))), true))))))


noncomputable def impl_CircleOfThree (L : Nat) (a : List Pt) : Option (Int × Int × Int × Bool) := gbind (impl_isThree L a) fun r => bif !r then (some ((0, 0, 0, false))) else (gbind (impl_twice L a) fun r1 => impl_CircleOfThree_l0 L a r1 L 0 0 0)


def impl_CircleOfThree_ok (L : Nat) (C : CF) : Prop := ∀ (oa : Bool) (ca : Bool) (x_a : List AV) (a : List Pt) (_ : x_a = List.map ep a), C 91 ([.lst oa ca 2 x_a]) ([]) = Option.map (fun r : Int × Int × Int × Bool => ((.tup [.int .i64 (r.1), .int .i64 (r.2.1), .int .i64 (r.2.2.1), .bool (r.2.2.2)], []) : AV × List Blk)) (impl_CircleOfThree L a)


theorem impl_CircleOfThree_run (L : Nat) (C : CF) (h_impl_at : impl_at_ok L C) (h_impl_Peg_less : impl_Peg_less_ok L C) (h_impl_sign : impl_sign_ok L C) (h_impl_twice : impl_twice_ok L C) (h_impl_divisor : impl_divisor_ok L C) (h_impl_Peg_square : impl_Peg_square_ok L C) (h_impl_isThree : impl_isThree_ok L C) : ∀ (oa : Bool) (ca : Bool) (x_a : List AV) (a : List Pt) (_ : x_a = List.map ep a), run T C sh (keep 91) L Try.f91 ([.lst oa ca 2 x_a]) ([]) = Option.map (fun r : Int × Int × Int × Bool => ((.tup [.int .i64 (r.1), .int .i64 (r.2.1), .int .i64 (r.2.2.1), .bool (r.2.2.2)], []) : AV × List Blk)) (impl_CircleOfThree L a) := by
 intro oa ca x_a a hx_a
 subst hx_a
 unfold impl_CircleOfThree
 conv => lhs; whnf
 refine t_call (h_impl_isThree _ _ _ a (by first | rfl | simp only [ml] <;> rfl)) fun r => ?_
 conv => lhs; whnf
 refine t_cond ?_ ?_
 ·conv => lhs; whnf
  exact t_ret (by first | rfl | simp only [ml] <;> rfl)
 ·conv => lhs; whnf
  refine t_call (h_impl_twice _ _ _ a (by first | rfl | simp only [ml] <;> rfl)) fun r1 => ?_
  conv => lhs; whnf
  refine t_loop (fun (⟨v6, v7, v21⟩ : Int × Int × Int) => (AV.lst oa ca 2 (List.map ep a) :: topA 5 (AV.int IntKind.i64 v6 :: AV.int IntKind.i64 v7 :: AV.int IntKind.i64 (wr IntKind.i64 (imul 2 r1)) :: topA 10 (AV.lst oa ca 2 (List.map ep a) :: AV.int IntKind.i64 (ilen (List.map ep a)) :: AV.int IntKind.i64 v21 :: tops 45)), [])) (fun m (⟨v6, v7, v21⟩ : Int × Int × Int) => impl_CircleOfThree_l0 L a r1 m v6 v7 v21) (fun _ => rfl) (fun m s rec hrec => ?_) L ((0, 0, 0)) ?_ ?_
  rotate_left
  ·first | rfl | simp only [ml] <;> rfl
  ·first | rfl | simp only [ml] <;> rfl
  obtain ⟨v6, v7, v21⟩ := s
  show _ = Option.map _ (impl_CircleOfThree_l0 L a r1 (m + 1) v6 v7 v21)
  rw [impl_CircleOfThree_l0.eq_2]
  conv => lhs; whnf
  refine t_cond ?_ ?_
  ·conv => lhs; whnf
   refine t_get (en := ep) (l := a) (by first | rfl | simp only [ml] <;> rfl) fun p => ?_
   conv => lhs; whnf
   refine t_call (h_impl_at _ _ _ a (by first | rfl | simp only [ml] <;> rfl) (wr IntKind.i64 (iadd v21 1))) fun r2 => ?_
   conv => lhs; whnf
   refine t_call (h_impl_at _ _ _ a (by first | rfl | simp only [ml] <;> rfl) (wr IntKind.i64 (iadd v21 2))) fun r3 => ?_
   conv => lhs; whnf
   refine t_call (h_impl_Peg_less (Prod.fst r2) (Prod.snd r2) (Prod.fst r3) (Prod.snd r3)) fun r4 => ?_
   conv => lhs; whnf
   refine t_call (h_impl_Peg_square (Pt.x p) (Pt.y p)) fun r5 => ?_
   conv => lhs; whnf
   refine t_call (h_impl_Peg_square (Pt.x p) (Pt.y p)) fun r6 => ?_
   conv => lhs; whnf
   exact hrec ((wr IntKind.i64 (iadd v6 (wr IntKind.i64 (imul r5 (Prod.snd r4)))), wr IntKind.i64 (isub v7 (wr IntKind.i64 (imul r6 (Prod.fst r4)))), wr IntKind.i64 (iadd v21 1))) _ _ (by first | rfl | simp only [ml] <;> rfl) (by first | rfl | simp only [ml] <;> rfl)
  ·conv => lhs; whnf
   refine t_call (h_impl_divisor v6 v7) fun r7 => ?_
   conv => lhs; whnf
   refine t_call (h_impl_divisor r7 (wr IntKind.i64 (imul 2 r1))) fun r8 => ?_
   conv => lhs; whnf
   refine t_call (h_impl_sign (wr IntKind.i64 (imul 2 r1))) fun r9 => ?_
   conv => lhs; whnf
   refine t_cond ?_ ?_
   ·conv => lhs; whnf
    exact t_none
   ·conv => lhs; whnf
    refine t_cond ?_ ?_
    ·conv => lhs; whnf
     exact t_none
    ·conv => lhs; whnf
     refine t_cond ?_ ?_
     ·conv => lhs; whnf
      exact t_none
     ·conv => lhs; whnf
      exact t_ret (by first | rfl | simp only [ml] <;> rfl)


noncomputable def spec_CircleOfThree (L : Nat) (a : List Pt) : Option (Int × Int × Int × Bool) := gbind (spec_trThree L a) fun r => bif !r then (some ((0, 0, 0, false))) else (gbind (lget a 1) fun p => gbind (lget a 2) fun p1 => gbind (lget a 0) fun p2 => bif ilt (wr IntKind.i64 (imul 2 (wr IntKind.i64 (isub (wr IntKind.i64 (imul (wr IntKind.i64 (isub (Pt.x p) (Pt.x p2))) (wr IntKind.i64 (isub (Pt.y p1) (Pt.y p2))))) (wr IntKind.i64 (imul (wr IntKind.i64 (isub (Pt.y p) (Pt.y p2))) (wr IntKind.i64 (isub (Pt.x p1) (Pt.x p2))))))))) 0 then (gbind (spec_pgCommon L (wr IntKind.i64 (isub 0 (wr IntKind.i64 (iadd (wr IntKind.i64 (isub (wr IntKind.i64 (imul (wr IntKind.i64 (isub (Pt.y p1) (Pt.y p2))) (wr IntKind.i64 (iadd (wr IntKind.i64 (imul (wr IntKind.i64 (isub (Pt.x p) (Pt.x p2))) (wr IntKind.i64 (isub (Pt.x p) (Pt.x p2))))) (wr IntKind.i64 (imul (wr IntKind.i64 (isub (Pt.y p) (Pt.y p2))) (wr IntKind.i64 (isub (Pt.y p) (Pt.y p2))))))))) (wr IntKind.i64 (imul (wr IntKind.i64 (isub (Pt.y p) (Pt.y p2))) (wr IntKind.i64 (iadd (wr IntKind.i64 (imul (wr IntKind.i64 (isub (Pt.x p1) (Pt.x p2))) (wr IntKind.i64 (isub (Pt.x p1) (Pt.x p2))))) (wr IntKind.i64 (imul (wr IntKind.i64 (isub (Pt.y p1) (Pt.y p2))) (wr IntKind.i64 (isub (Pt.y p1) (Pt.y p2))))))))))) (wr IntKind.i64 (imul (Pt.x p2) (wr IntKind.i64 (imul 2 (wr IntKind.i64 (isub (wr IntKind.i64 (imul (wr IntKind.i64 (isub (Pt.x p) (Pt.x p2))) (wr IntKind.i64 (isub (Pt.y p1) (Pt.y p2))))) (wr IntKind.i64 (imul (wr IntKind.i64 (isub (Pt.y p) (Pt.y p2))) (wr IntKind.i64 (isub (Pt.x p1) (Pt.x p2))))))))))))))) (wr IntKind.i64 (isub 0 (wr IntKind.i64 (iadd (wr IntKind.i64 (isub (wr IntKind.i64 (imul (wr IntKind.i64 (isub (Pt.x p) (Pt.x p2))) (wr IntKind.i64 (iadd (wr IntKind.i64 (imul (wr IntKind.i64 (isub (Pt.x p1) (Pt.x p2))) (wr IntKind.i64 (isub (Pt.x p1) (Pt.x p2))))) (wr IntKind.i64 (imul (wr IntKind.i64 (isub (Pt.y p1) (Pt.y p2))) (wr IntKind.i64 (isub (Pt.y p1) (Pt.y p2))))))))) (wr IntKind.i64 (imul (wr IntKind.i64 (isub (Pt.x p1) (Pt.x p2))) (wr IntKind.i64 (iadd (wr IntKind.i64 (imul (wr IntKind.i64 (isub (Pt.x p) (Pt.x p2))) (wr IntKind.i64 (isub (Pt.x p) (Pt.x p2))))) (wr IntKind.i64 (imul (wr IntKind.i64 (isub (Pt.y p) (Pt.y p2))) (wr IntKind.i64 (isub (Pt.y p) (Pt.y p2))))))))))) (wr IntKind.i64 (imul (Pt.y p2) (wr IntKind.i64 (imul 2 (wr IntKind.i64 (isub (wr IntKind.i64 (imul (wr IntKind.i64 (isub (Pt.x p) (Pt.x p2))) (wr IntKind.i64 (isub (Pt.y p1) (Pt.y p2))))) (wr IntKind.i64 (imul (wr IntKind.i64 (isub (Pt.y p) (Pt.y p2))) (wr IntKind.i64 (isub (Pt.x p1) (Pt.x p2)))))))))))))))) fun r1 => gbind (spec_pgCommon L r1 (wr IntKind.i64 (isub 0 (wr IntKind.i64 (imul 2 (wr IntKind.i64 (isub (wr IntKind.i64 (imul (wr IntKind.i64 (isub (Pt.x p) (Pt.x p2))) (wr IntKind.i64 (isub (Pt.y p1) (Pt.y p2))))) (wr IntKind.i64 (imul (wr IntKind.i64 (isub (Pt.y p) (Pt.y p2))) (wr IntKind.i64 (isub (Pt.x p1) (Pt.x p2)))))))))))) fun r2 => bif ieq r2 0 then (none) else (bif ieq r2 0 then (none) else (bif ieq r2 0 then (none) else (some ((wr IntKind.i64 (iquo (wr IntKind.i64 (isub 0 (wr IntKind.i64 (iadd (wr IntKind.i64 (isub (wr IntKind.i64 (imul (wr IntKind.i64 (isub (Pt.y p1) (Pt.y p2))) (wr IntKind.i64 (iadd (wr IntKind.i64 (imul (wr IntKind.i64 (isub (Pt.x p) (Pt.x p2))) (wr IntKind.i64 (isub (Pt.x p) (Pt.x p2))))) (wr IntKind.i64 (imul (wr IntKind.i64 (isub (Pt.y p) (Pt.y p2))) (wr IntKind.i64 (isub (Pt.y p) (Pt.y p2))))))))) (wr IntKind.i64 (imul (wr IntKind.i64 (isub (Pt.y p) (Pt.y p2))) (wr IntKind.i64 (iadd (wr IntKind.i64 (imul (wr IntKind.i64 (isub (Pt.x p1) (Pt.x p2))) (wr IntKind.i64 (isub (Pt.x p1) (Pt.x p2))))) (wr IntKind.i64 (imul (wr IntKind.i64 (isub (Pt.y p1) (Pt.y p2))) (wr IntKind.i64 (isub (Pt.y p1) (Pt.y p2))))))))))) (wr IntKind.i64 (imul (Pt.x p2) (wr IntKind.i64 (imul 2 (wr IntKind.i64 (isub (wr IntKind.i64 (imul (wr IntKind.i64 (isub (Pt.x p) (Pt.x p2))) (wr IntKind.i64 (isub (Pt.y p1) (Pt.y p2))))) (wr IntKind.i64 (imul (wr IntKind.i64 (isub (Pt.y p) (Pt.y p2))) (wr IntKind.i64 (isub (Pt.x p1) (Pt.x p2))))))))))))))) r2), wr IntKind.i64 (iquo (wr IntKind.i64 (isub 0 (wr IntKind.i64 (iadd (wr IntKind.i64 (isub (wr IntKind.i64 (imul (wr IntKind.i64 (isub (Pt.x p) (Pt.x p2))) (wr IntKind.i64 (iadd (wr IntKind.i64 (imul (wr IntKind.i64 (isub (Pt.x p1) (Pt.x p2))) (wr IntKind.i64 (isub (Pt.x p1) (Pt.x p2))))) (wr IntKind.i64 (imul (wr IntKind.i64 (isub (Pt.y p1) (Pt.y p2))) (wr IntKind.i64 (isub (Pt.y p1) (Pt.y p2))))))))) (wr IntKind.i64 (imul (wr IntKind.i64 (isub (Pt.x p1) (Pt.x p2))) (wr IntKind.i64 (iadd (wr IntKind.i64 (imul (wr IntKind.i64 (isub (Pt.x p) (Pt.x p2))) (wr IntKind.i64 (isub (Pt.x p) (Pt.x p2))))) (wr IntKind.i64 (imul (wr IntKind.i64 (isub (Pt.y p) (Pt.y p2))) (wr IntKind.i64 (isub (Pt.y p) (Pt.y p2))))))))))) (wr IntKind.i64 (imul (Pt.y p2) (wr IntKind.i64 (imul 2 (wr IntKind.i64 (isub (wr IntKind.i64 (imul (wr IntKind.i64 (isub (Pt.x p) (Pt.x p2))) (wr IntKind.i64 (isub (Pt.y p1) (Pt.y p2))))) (wr IntKind.i64 (imul (wr IntKind.i64 (isub (Pt.y p) (Pt.y p2))) (wr IntKind.i64 (isub (Pt.x p1) (Pt.x p2))))))))))))))) r2), wr IntKind.i64 (iquo (wr IntKind.i64 (isub 0 (wr IntKind.i64 (imul 2 (wr IntKind.i64 (isub (wr IntKind.i64 (imul (wr IntKind.i64 (isub (Pt.x p) (Pt.x p2))) (wr IntKind.i64 (isub (Pt.y p1) (Pt.y p2))))) (wr IntKind.i64 (imul (wr IntKind.i64 (isub (Pt.y p) (Pt.y p2))) (wr IntKind.i64 (isub (Pt.x p1) (Pt.x p2))))))))))) r2), true)))))) else (gbind (spec_pgCommon L (wr IntKind.i64 (iadd (wr IntKind.i64 (isub (wr IntKind.i64 (imul (wr IntKind.i64 (isub (Pt.y p1) (Pt.y p2))) (wr IntKind.i64 (iadd (wr IntKind.i64 (imul (wr IntKind.i64 (isub (Pt.x p) (Pt.x p2))) (wr IntKind.i64 (isub (Pt.x p) (Pt.x p2))))) (wr IntKind.i64 (imul (wr IntKind.i64 (isub (Pt.y p) (Pt.y p2))) (wr IntKind.i64 (isub (Pt.y p) (Pt.y p2))))))))) (wr IntKind.i64 (imul (wr IntKind.i64 (isub (Pt.y p) (Pt.y p2))) (wr IntKind.i64 (iadd (wr IntKind.i64 (imul (wr IntKind.i64 (isub (Pt.x p1) (Pt.x p2))) (wr IntKind.i64 (isub (Pt.x p1) (Pt.x p2))))) (wr IntKind.i64 (imul (wr IntKind.i64 (isub (Pt.y p1) (Pt.y p2))) (wr IntKind.i64 (isub (Pt.y p1) (Pt.y p2))))))))))) (wr IntKind.i64 (imul (Pt.x p2) (wr IntKind.i64 (imul 2 (wr IntKind.i64 (isub (wr IntKind.i64 (imul (wr IntKind.i64 (isub (Pt.x p) (Pt.x p2))) (wr IntKind.i64 (isub (Pt.y p1) (Pt.y p2))))) (wr IntKind.i64 (imul (wr IntKind.i64 (isub (Pt.y p) (Pt.y p2))) (wr IntKind.i64 (isub (Pt.x p1) (Pt.x p2))))))))))))) (wr IntKind.i64 (iadd (wr IntKind.i64 (isub (wr IntKind.i64 (imul (wr IntKind.i64 (isub (Pt.x p) (Pt.x p2))) (wr IntKind.i64 (iadd (wr IntKind.i64 (imul (wr IntKind.i64 (isub (Pt.x p1) (Pt.x p2))) (wr IntKind.i64 (isub (Pt.x p1) (Pt.x p2))))) (wr IntKind.i64 (imul (wr IntKind.i64 (isub (Pt.y p1) (Pt.y p2))) (wr IntKind.i64 (isub (Pt.y p1) (Pt.y p2))))))))) (wr IntKind.i64 (imul (wr IntKind.i64 (isub (Pt.x p1) (Pt.x p2))) (wr IntKind.i64 (iadd (wr IntKind.i64 (imul (wr IntKind.i64 (isub (Pt.x p) (Pt.x p2))) (wr IntKind.i64 (isub (Pt.x p) (Pt.x p2))))) (wr IntKind.i64 (imul (wr IntKind.i64 (isub (Pt.y p) (Pt.y p2))) (wr IntKind.i64 (isub (Pt.y p) (Pt.y p2))))))))))) (wr IntKind.i64 (imul (Pt.y p2) (wr IntKind.i64 (imul 2 (wr IntKind.i64 (isub (wr IntKind.i64 (imul (wr IntKind.i64 (isub (Pt.x p) (Pt.x p2))) (wr IntKind.i64 (isub (Pt.y p1) (Pt.y p2))))) (wr IntKind.i64 (imul (wr IntKind.i64 (isub (Pt.y p) (Pt.y p2))) (wr IntKind.i64 (isub (Pt.x p1) (Pt.x p2)))))))))))))) fun r3 => gbind (spec_pgCommon L r3 (wr IntKind.i64 (imul 2 (wr IntKind.i64 (isub (wr IntKind.i64 (imul (wr IntKind.i64 (isub (Pt.x p) (Pt.x p2))) (wr IntKind.i64 (isub (Pt.y p1) (Pt.y p2))))) (wr IntKind.i64 (imul (wr IntKind.i64 (isub (Pt.y p) (Pt.y p2))) (wr IntKind.i64 (isub (Pt.x p1) (Pt.x p2)))))))))) fun r4 => bif ieq r4 0 then (none) else (bif ieq r4 0 then (none) else (bif ieq r4 0 then (none) else (some ((wr IntKind.i64 (iquo (wr IntKind.i64 (iadd (wr IntKind.i64 (isub (wr IntKind.i64 (imul (wr IntKind.i64 (isub (Pt.y p1) (Pt.y p2))) (wr IntKind.i64 (iadd (wr IntKind.i64 (imul (wr IntKind.i64 (isub (Pt.x p) (Pt.x p2))) (wr IntKind.i64 (isub (Pt.x p) (Pt.x p2))))) (wr IntKind.i64 (imul (wr IntKind.i64 (isub (Pt.y p) (Pt.y p2))) (wr IntKind.i64 (isub (Pt.y p) (Pt.y p2))))))))) (wr IntKind.i64 (imul (wr IntKind.i64 (isub (Pt.y p) (Pt.y p2))) (wr IntKind.i64 (iadd (wr IntKind.i64 (imul (wr IntKind.i64 (isub (Pt.x p1) (Pt.x p2))) (wr IntKind.i64 (isub (Pt.x p1) (Pt.x p2))))) (wr IntKind.i64 (imul (wr IntKind.i64 (isub (Pt.y p1) (Pt.y p2))) (wr IntKind.i64 (isub (Pt.y p1) (Pt.y p2))))))))))) (wr IntKind.i64 (imul (Pt.x p2) (wr IntKind.i64 (imul 2 (wr IntKind.i64 (isub (wr IntKind.i64 (imul (wr IntKind.i64 (isub (Pt.x p) (Pt.x p2))) (wr IntKind.i64 (isub (Pt.y p1) (Pt.y p2))))) (wr IntKind.i64 (imul (wr IntKind.i64 (isub (Pt.y p) (Pt.y p2))) (wr IntKind.i64 (isub (Pt.x p1) (Pt.x p2))))))))))))) r4), wr IntKind.i64 (iquo (wr IntKind.i64 (iadd (wr IntKind.i64 (isub (wr IntKind.i64 (imul (wr IntKind.i64 (isub (Pt.x p) (Pt.x p2))) (wr IntKind.i64 (iadd (wr IntKind.i64 (imul (wr IntKind.i64 (isub (Pt.x p1) (Pt.x p2))) (wr IntKind.i64 (isub (Pt.x p1) (Pt.x p2))))) (wr IntKind.i64 (imul (wr IntKind.i64 (isub (Pt.y p1) (Pt.y p2))) (wr IntKind.i64 (isub (Pt.y p1) (Pt.y p2))))))))) (wr IntKind.i64 (imul (wr IntKind.i64 (isub (Pt.x p1) (Pt.x p2))) (wr IntKind.i64 (iadd (wr IntKind.i64 (imul (wr IntKind.i64 (isub (Pt.x p) (Pt.x p2))) (wr IntKind.i64 (isub (Pt.x p) (Pt.x p2))))) (wr IntKind.i64 (imul (wr IntKind.i64 (isub (Pt.y p) (Pt.y p2))) (wr IntKind.i64 (isub (Pt.y p) (Pt.y p2))))))))))) (wr IntKind.i64 (imul (Pt.y p2) (wr IntKind.i64 (imul 2 (wr IntKind.i64 (isub (wr IntKind.i64 (imul (wr IntKind.i64 (isub (Pt.x p) (Pt.x p2))) (wr IntKind.i64 (isub (Pt.y p1) (Pt.y p2))))) (wr IntKind.i64 (imul (wr IntKind.i64 (isub (Pt.y p) (Pt.y p2))) (wr IntKind.i64 (isub (Pt.x p1) (Pt.x p2))))))))))))) r4), wr IntKind.i64 (iquo (wr IntKind.i64 (imul 2 (wr IntKind.i64 (isub (wr IntKind.i64 (imul (wr IntKind.i64 (isub (Pt.x p) (Pt.x p2))) (wr IntKind.i64 (isub (Pt.y p1) (Pt.y p2))))) (wr IntKind.i64 (imul (wr IntKind.i64 (isub (Pt.y p) (Pt.y p2))) (wr IntKind.i64 (isub (Pt.x p1) (Pt.x p2))))))))) r4), true)))))))


def spec_CircleOfThree_ok (L : Nat) (C : CF) : Prop := ∀ (oa : Bool) (ca : Bool) (x_a : List AV) (a : List Pt) (_ : x_a = List.map ep a), C 92 ([.lst oa ca 2 x_a]) ([]) = Option.map (fun r : Int × Int × Int × Bool => ((.tup [.int .i64 (r.1), .int .i64 (r.2.1), .int .i64 (r.2.2.1), .bool (r.2.2.2)], []) : AV × List Blk)) (spec_CircleOfThree L a)


theorem spec_CircleOfThree_run (L : Nat) (C : CF) (h_spec_pgCommon : spec_pgCommon_ok L C) (h_spec_trThree : spec_trThree_ok L C) : ∀ (oa : Bool) (ca : Bool) (x_a : List AV) (a : List Pt) (_ : x_a = List.map ep a), run T C sh (keep 92) L Try.f92 ([.lst oa ca 2 x_a]) ([]) = Option.map (fun r : Int × Int × Int × Bool => ((.tup [.int .i64 (r.1), .int .i64 (r.2.1), .int .i64 (r.2.2.1), .bool (r.2.2.2)], []) : AV × List Blk)) (spec_CircleOfThree L a) := by
 intro oa ca x_a a hx_a
 subst hx_a
 unfold spec_CircleOfThree
 conv => lhs; whnf
 refine t_call (h_spec_trThree _ _ _ a (by first | rfl | simp only [ml] <;> rfl)) fun r => ?_
 conv => lhs; whnf
 refine t_cond ?_ ?_
 ·conv => lhs; whnf
  exact t_ret (by first | rfl | simp only [ml] <;> rfl)
 ·conv => lhs; whnf
  refine t_get (en := ep) (l := a) (by first | rfl | simp only [ml] <;> rfl) fun p => ?_
  conv => lhs; whnf
  refine t_get (en := ep) (l := a) (by first | rfl | simp only [ml] <;> rfl) fun p1 => ?_
  conv => lhs; whnf
  refine t_get (en := ep) (l := a) (by first | rfl | simp only [ml] <;> rfl) fun p2 => ?_
  conv => lhs; whnf
  refine t_cond ?_ ?_
  ·conv => lhs; whnf
   refine t_call (h_spec_pgCommon (wr IntKind.i64 (isub 0 (wr IntKind.i64 (iadd (wr IntKind.i64 (isub (wr IntKind.i64 (imul (wr IntKind.i64 (isub (Pt.y p1) (Pt.y p2))) (wr IntKind.i64 (iadd (wr IntKind.i64 (imul (wr IntKind.i64 (isub (Pt.x p) (Pt.x p2))) (wr IntKind.i64 (isub (Pt.x p) (Pt.x p2))))) (wr IntKind.i64 (imul (wr IntKind.i64 (isub (Pt.y p) (Pt.y p2))) (wr IntKind.i64 (isub (Pt.y p) (Pt.y p2))))))))) (wr IntKind.i64 (imul (wr IntKind.i64 (isub (Pt.y p) (Pt.y p2))) (wr IntKind.i64 (iadd (wr IntKind.i64 (imul (wr IntKind.i64 (isub (Pt.x p1) (Pt.x p2))) (wr IntKind.i64 (isub (Pt.x p1) (Pt.x p2))))) (wr IntKind.i64 (imul (wr IntKind.i64 (isub (Pt.y p1) (Pt.y p2))) (wr IntKind.i64 (isub (Pt.y p1) (Pt.y p2))))))))))) (wr IntKind.i64 (imul (Pt.x p2) (wr IntKind.i64 (imul 2 (wr IntKind.i64 (isub (wr IntKind.i64 (imul (wr IntKind.i64 (isub (Pt.x p) (Pt.x p2))) (wr IntKind.i64 (isub (Pt.y p1) (Pt.y p2))))) (wr IntKind.i64 (imul (wr IntKind.i64 (isub (Pt.y p) (Pt.y p2))) (wr IntKind.i64 (isub (Pt.x p1) (Pt.x p2))))))))))))))) (wr IntKind.i64 (isub 0 (wr IntKind.i64 (iadd (wr IntKind.i64 (isub (wr IntKind.i64 (imul (wr IntKind.i64 (isub (Pt.x p) (Pt.x p2))) (wr IntKind.i64 (iadd (wr IntKind.i64 (imul (wr IntKind.i64 (isub (Pt.x p1) (Pt.x p2))) (wr IntKind.i64 (isub (Pt.x p1) (Pt.x p2))))) (wr IntKind.i64 (imul (wr IntKind.i64 (isub (Pt.y p1) (Pt.y p2))) (wr IntKind.i64 (isub (Pt.y p1) (Pt.y p2))))))))) (wr IntKind.i64 (imul (wr IntKind.i64 (isub (Pt.x p1) (Pt.x p2))) (wr IntKind.i64 (iadd (wr IntKind.i64 (imul (wr IntKind.i64 (isub (Pt.x p) (Pt.x p2))) (wr IntKind.i64 (isub (Pt.x p) (Pt.x p2))))) (wr IntKind.i64 (imul (wr IntKind.i64 (isub (Pt.y p) (Pt.y p2))) (wr IntKind.i64 (isub (Pt.y p) (Pt.y p2))))))))))) (wr IntKind.i64 (imul (Pt.y p2) (wr IntKind.i64 (imul 2 (wr IntKind.i64 (isub (wr IntKind.i64 (imul (wr IntKind.i64 (isub (Pt.x p) (Pt.x p2))) (wr IntKind.i64 (isub (Pt.y p1) (Pt.y p2))))) (wr IntKind.i64 (imul (wr IntKind.i64 (isub (Pt.y p) (Pt.y p2))) (wr IntKind.i64 (isub (Pt.x p1) (Pt.x p2)))))))))))))))) fun r1 => ?_
   conv => lhs; whnf
   refine t_call (h_spec_pgCommon r1 (wr IntKind.i64 (isub 0 (wr IntKind.i64 (imul 2 (wr IntKind.i64 (isub (wr IntKind.i64 (imul (wr IntKind.i64 (isub (Pt.x p) (Pt.x p2))) (wr IntKind.i64 (isub (Pt.y p1) (Pt.y p2))))) (wr IntKind.i64 (imul (wr IntKind.i64 (isub (Pt.y p) (Pt.y p2))) (wr IntKind.i64 (isub (Pt.x p1) (Pt.x p2)))))))))))) fun r2 => ?_
   conv => lhs; whnf
   refine t_cond ?_ ?_
   ·conv => lhs; whnf
    exact t_none
   ·conv => lhs; whnf
    refine t_cond ?_ ?_
    ·conv => lhs; whnf
     exact t_none
    ·conv => lhs; whnf
     refine t_cond ?_ ?_
     ·conv => lhs; whnf
      exact t_none
     ·conv => lhs; whnf
      exact t_ret (by first | rfl | simp only [ml] <;> rfl)
  ·conv => lhs; whnf
   refine t_call (h_spec_pgCommon (wr IntKind.i64 (iadd (wr IntKind.i64 (isub (wr IntKind.i64 (imul (wr IntKind.i64 (isub (Pt.y p1) (Pt.y p2))) (wr IntKind.i64 (iadd (wr IntKind.i64 (imul (wr IntKind.i64 (isub (Pt.x p) (Pt.x p2))) (wr IntKind.i64 (isub (Pt.x p) (Pt.x p2))))) (wr IntKind.i64 (imul (wr IntKind.i64 (isub (Pt.y p) (Pt.y p2))) (wr IntKind.i64 (isub (Pt.y p) (Pt.y p2))))))))) (wr IntKind.i64 (imul (wr IntKind.i64 (isub (Pt.y p) (Pt.y p2))) (wr IntKind.i64 (iadd (wr IntKind.i64 (imul (wr IntKind.i64 (isub (Pt.x p1) (Pt.x p2))) (wr IntKind.i64 (isub (Pt.x p1) (Pt.x p2))))) (wr IntKind.i64 (imul (wr IntKind.i64 (isub (Pt.y p1) (Pt.y p2))) (wr IntKind.i64 (isub (Pt.y p1) (Pt.y p2))))))))))) (wr IntKind.i64 (imul (Pt.x p2) (wr IntKind.i64 (imul 2 (wr IntKind.i64 (isub (wr IntKind.i64 (imul (wr IntKind.i64 (isub (Pt.x p) (Pt.x p2))) (wr IntKind.i64 (isub (Pt.y p1) (Pt.y p2))))) (wr IntKind.i64 (imul (wr IntKind.i64 (isub (Pt.y p) (Pt.y p2))) (wr IntKind.i64 (isub (Pt.x p1) (Pt.x p2))))))))))))) (wr IntKind.i64 (iadd (wr IntKind.i64 (isub (wr IntKind.i64 (imul (wr IntKind.i64 (isub (Pt.x p) (Pt.x p2))) (wr IntKind.i64 (iadd (wr IntKind.i64 (imul (wr IntKind.i64 (isub (Pt.x p1) (Pt.x p2))) (wr IntKind.i64 (isub (Pt.x p1) (Pt.x p2))))) (wr IntKind.i64 (imul (wr IntKind.i64 (isub (Pt.y p1) (Pt.y p2))) (wr IntKind.i64 (isub (Pt.y p1) (Pt.y p2))))))))) (wr IntKind.i64 (imul (wr IntKind.i64 (isub (Pt.x p1) (Pt.x p2))) (wr IntKind.i64 (iadd (wr IntKind.i64 (imul (wr IntKind.i64 (isub (Pt.x p) (Pt.x p2))) (wr IntKind.i64 (isub (Pt.x p) (Pt.x p2))))) (wr IntKind.i64 (imul (wr IntKind.i64 (isub (Pt.y p) (Pt.y p2))) (wr IntKind.i64 (isub (Pt.y p) (Pt.y p2))))))))))) (wr IntKind.i64 (imul (Pt.y p2) (wr IntKind.i64 (imul 2 (wr IntKind.i64 (isub (wr IntKind.i64 (imul (wr IntKind.i64 (isub (Pt.x p) (Pt.x p2))) (wr IntKind.i64 (isub (Pt.y p1) (Pt.y p2))))) (wr IntKind.i64 (imul (wr IntKind.i64 (isub (Pt.y p) (Pt.y p2))) (wr IntKind.i64 (isub (Pt.x p1) (Pt.x p2)))))))))))))) fun r3 => ?_
   conv => lhs; whnf
   refine t_call (h_spec_pgCommon r3 (wr IntKind.i64 (imul 2 (wr IntKind.i64 (isub (wr IntKind.i64 (imul (wr IntKind.i64 (isub (Pt.x p) (Pt.x p2))) (wr IntKind.i64 (isub (Pt.y p1) (Pt.y p2))))) (wr IntKind.i64 (imul (wr IntKind.i64 (isub (Pt.y p) (Pt.y p2))) (wr IntKind.i64 (isub (Pt.x p1) (Pt.x p2)))))))))) fun r4 => ?_
   conv => lhs; whnf
   refine t_cond ?_ ?_
   ·conv => lhs; whnf
    exact t_none
   ·conv => lhs; whnf
    refine t_cond ?_ ?_
    ·conv => lhs; whnf
     exact t_none
    ·conv => lhs; whnf
     refine t_cond ?_ ?_
     ·conv => lhs; whnf
      exact t_none
     ·conv => lhs; whnf
      exact t_ret (by first | rfl | simp only [ml] <;> rfl)


noncomputable def impl_ThriceCentre (L : Nat) (a : List Pt) : Option (Int × Int × Bool) := gbind (impl_isThree L a) fun r => bif !r then (some ((0, 0, false))) else (gbind (lget a 0) fun p => gbind (lget a 1) fun p1 => gbind (impl_Peg_plus L (Pt.x p) (Pt.y p) (Pt.x p1) (Pt.y p1)) fun r1 => gbind (lget a 2) fun p2 => gbind (impl_Peg_plus L (Prod.fst r1) (Prod.snd r1) (Pt.x p2) (Pt.y p2)) fun r2 => some ((Prod.fst r2, Prod.snd r2, true)))


def impl_ThriceCentre_ok (L : Nat) (C : CF) : Prop := ∀ (oa : Bool) (ca : Bool) (x_a : List AV) (a : List Pt) (_ : x_a = List.map ep a), C 93 ([.lst oa ca 2 x_a]) ([]) = Option.map (fun r : Int × Int × Bool => ((.tup [.int .i64 (r.1), .int .i64 (r.2.1), .bool (r.2.2)], []) : AV × List Blk)) (impl_ThriceCentre L a)


theorem impl_ThriceCentre_run (L : Nat) (C : CF) (h_impl_Peg_plus : impl_Peg_plus_ok L C) (h_impl_isThree : impl_isThree_ok L C) : ∀ (oa : Bool) (ca : Bool) (x_a : List AV) (a : List Pt) (_ : x_a = List.map ep a), run T C sh (keep 93) L Try.f93 ([.lst oa ca 2 x_a]) ([]) = Option.map (fun r : Int × Int × Bool => ((.tup [.int .i64 (r.1), .int .i64 (r.2.1), .bool (r.2.2)], []) : AV × List Blk)) (impl_ThriceCentre L a) := by
 intro oa ca x_a a hx_a
 subst hx_a
 unfold impl_ThriceCentre
 conv => lhs; whnf
 refine t_call (h_impl_isThree _ _ _ a (by first | rfl | simp only [ml] <;> rfl)) fun r => ?_
 conv => lhs; whnf
 refine t_cond ?_ ?_
 ·conv => lhs; whnf
  exact t_ret (by first | rfl | simp only [ml] <;> rfl)
 ·conv => lhs; whnf
  refine t_get (en := ep) (l := a) (by first | rfl | simp only [ml] <;> rfl) fun p => ?_
  conv => lhs; whnf
  refine t_get (en := ep) (l := a) (by first | rfl | simp only [ml] <;> rfl) fun p1 => ?_
  conv => lhs; whnf
  refine t_call (h_impl_Peg_plus (Pt.x p) (Pt.y p) (Pt.x p1) (Pt.y p1)) fun r1 => ?_
  conv => lhs; whnf
  refine t_get (en := ep) (l := a) (by first | rfl | simp only [ml] <;> rfl) fun p2 => ?_
  conv => lhs; whnf
  refine t_call (h_impl_Peg_plus (Prod.fst r1) (Prod.snd r1) (Pt.x p2) (Pt.y p2)) fun r2 => ?_
  conv => lhs; whnf
  exact t_ret (by first | rfl | simp only [ml] <;> rfl)


noncomputable def spec_ThriceCentre (L : Nat) (a : List Pt) : Option (Int × Int × Bool) := gbind (spec_trThree L a) fun r => bif !r then (some ((0, 0, false))) else (gbind (lget a 0) fun p => gbind (lget a 1) fun p1 => gbind (lget a 2) fun p2 => gbind (lget a 0) fun p3 => gbind (lget a 1) fun p4 => gbind (lget a 2) fun p5 => some ((wr IntKind.i64 (iadd (wr IntKind.i64 (iadd (Pt.x p) (Pt.x p1))) (Pt.x p2)), wr IntKind.i64 (iadd (wr IntKind.i64 (iadd (Pt.y p3) (Pt.y p4))) (Pt.y p5)), true)))


def spec_ThriceCentre_ok (L : Nat) (C : CF) : Prop := ∀ (oa : Bool) (ca : Bool) (x_a : List AV) (a : List Pt) (_ : x_a = List.map ep a), C 94 ([.lst oa ca 2 x_a]) ([]) = Option.map (fun r : Int × Int × Bool => ((.tup [.int .i64 (r.1), .int .i64 (r.2.1), .bool (r.2.2)], []) : AV × List Blk)) (spec_ThriceCentre L a)


theorem spec_ThriceCentre_run (L : Nat) (C : CF) (h_spec_trThree : spec_trThree_ok L C) : ∀ (oa : Bool) (ca : Bool) (x_a : List AV) (a : List Pt) (_ : x_a = List.map ep a), run T C sh (keep 94) L Try.f94 ([.lst oa ca 2 x_a]) ([]) = Option.map (fun r : Int × Int × Bool => ((.tup [.int .i64 (r.1), .int .i64 (r.2.1), .bool (r.2.2)], []) : AV × List Blk)) (spec_ThriceCentre L a) := by
 intro oa ca x_a a hx_a
 subst hx_a
 unfold spec_ThriceCentre
 conv => lhs; whnf
 refine t_call (h_spec_trThree _ _ _ a (by first | rfl | simp only [ml] <;> rfl)) fun r => ?_
 conv => lhs; whnf
 refine t_cond ?_ ?_
 ·conv => lhs; whnf
  exact t_ret (by first | rfl | simp only [ml] <;> rfl)
 ·conv => lhs; whnf
  refine t_get (en := ep) (l := a) (by first | rfl | simp only [ml] <;> rfl) fun p => ?_
  conv => lhs; whnf
  refine t_get (en := ep) (l := a) (by first | rfl | simp only [ml] <;> rfl) fun p1 => ?_
  conv => lhs; whnf
  refine t_get (en := ep) (l := a) (by first | rfl | simp only [ml] <;> rfl) fun p2 => ?_
  conv => lhs; whnf
  refine t_get (en := ep) (l := a) (by first | rfl | simp only [ml] <;> rfl) fun p3 => ?_
  conv => lhs; whnf
  refine t_get (en := ep) (l := a) (by first | rfl | simp only [ml] <;> rfl) fun p4 => ?_
  conv => lhs; whnf
  refine t_get (en := ep) (l := a) (by first | rfl | simp only [ml] <;> rfl) fun p5 => ?_
  conv => lhs; whnf
  exact t_ret (by first | rfl | simp only [ml] <;> rfl)


noncomputable def impl_HasCentrePeg (L : Nat) (a : List Pt) : Option (Bool × Bool) := gbind (impl_ThriceCentre L a) fun r => bif Prod.snd (Prod.snd r) then (bif ieq 3 0 then (none) else (bif ieq (irem (Prod.fst r) 3) 0 then (bif ieq 3 0 then (none) else (some ((ieq (irem (Prod.fst (Prod.snd r)) 3) 0, Prod.snd (Prod.snd r))))) else (some ((false, Prod.snd (Prod.snd r)))))) else (some ((false, Prod.snd (Prod.snd r))))


def impl_HasCentrePeg_ok (L : Nat) (C : CF) : Prop := ∀ (oa : Bool) (ca : Bool) (x_a : List AV) (a : List Pt) (_ : x_a = List.map ep a), C 95 ([.lst oa ca 2 x_a]) ([]) = Option.map (fun r : Bool × Bool => ((.tup [.bool (r.1), .bool (r.2)], []) : AV × List Blk)) (impl_HasCentrePeg L a)


theorem impl_HasCentrePeg_run (L : Nat) (C : CF) (h_impl_ThriceCentre : impl_ThriceCentre_ok L C) : ∀ (oa : Bool) (ca : Bool) (x_a : List AV) (a : List Pt) (_ : x_a = List.map ep a), run T C sh (keep 95) L Try.f95 ([.lst oa ca 2 x_a]) ([]) = Option.map (fun r : Bool × Bool => ((.tup [.bool (r.1), .bool (r.2)], []) : AV × List Blk)) (impl_HasCentrePeg L a) := by
 intro oa ca x_a a hx_a
 subst hx_a
 unfold impl_HasCentrePeg
 conv => lhs; whnf
 refine t_call (h_impl_ThriceCentre _ _ _ a (by first | rfl | simp only [ml] <;> rfl)) fun r => ?_
 conv => lhs; whnf
 refine t_cond ?_ ?_
 ·conv => lhs; whnf
  refine t_cond ?_ ?_
  ·conv => lhs; whnf
   exact t_none
  ·conv => lhs; whnf
   refine t_cond ?_ ?_
   ·conv => lhs; whnf
    refine t_cond ?_ ?_
    ·conv => lhs; whnf
     exact t_none
    ·conv => lhs; whnf
     exact t_ret (by first | rfl | simp only [ml] <;> rfl)
   ·conv => lhs; whnf
    exact t_ret (by first | rfl | simp only [ml] <;> rfl)
 ·conv => lhs; whnf
  exact t_ret (by first | rfl | simp only [ml] <;> rfl)


noncomputable def spec_HasCentrePeg (L : Nat) (a : List Pt) : Option (Bool × Bool) := gbind (spec_ThriceCentre L a) fun r => bif Prod.snd (Prod.snd r) then (bif ieq 3 0 then (none) else (bif ieq (irem (Prod.fst r) 3) 0 then (bif ieq 3 0 then (none) else (some ((ieq (irem (Prod.fst (Prod.snd r)) 3) 0, Prod.snd (Prod.snd r))))) else (some ((false, Prod.snd (Prod.snd r)))))) else (some ((false, Prod.snd (Prod.snd r))))


def spec_HasCentrePeg_ok (L : Nat) (C : CF) : Prop := ∀ (oa : Bool) (ca : Bool) (x_a : List AV) (a : List Pt) (_ : x_a = List.map ep a), C 96 ([.lst oa ca 2 x_a]) ([]) = Option.map (fun r : Bool × Bool => ((.tup [.bool (r.1), .bool (r.2)], []) : AV × List Blk)) (spec_HasCentrePeg L a)


theorem spec_HasCentrePeg_run (L : Nat) (C : CF) (h_spec_ThriceCentre : spec_ThriceCentre_ok L C) : ∀ (oa : Bool) (ca : Bool) (x_a : List AV) (a : List Pt) (_ : x_a = List.map ep a), run T C sh (keep 96) L Try.f96 ([.lst oa ca 2 x_a]) ([]) = Option.map (fun r : Bool × Bool => ((.tup [.bool (r.1), .bool (r.2)], []) : AV × List Blk)) (spec_HasCentrePeg L a) := by
 intro oa ca x_a a hx_a
 subst hx_a
 unfold spec_HasCentrePeg
 conv => lhs; whnf
 refine t_call (h_spec_ThriceCentre _ _ _ a (by first | rfl | simp only [ml] <;> rfl)) fun r => ?_
 conv => lhs; whnf
 refine t_cond ?_ ?_
 ·conv => lhs; whnf
  refine t_cond ?_ ?_
  ·conv => lhs; whnf
   exact t_none
  ·conv => lhs; whnf
   refine t_cond ?_ ?_
   ·conv => lhs; whnf
    refine t_cond ?_ ?_
    ·conv => lhs; whnf
     exact t_none
    ·conv => lhs; whnf
     exact t_ret (by first | rfl | simp only [ml] <;> rfl)
   ·conv => lhs; whnf
    exact t_ret (by first | rfl | simp only [ml] <;> rfl)
 ·conv => lhs; whnf
  exact t_ret (by first | rfl | simp only [ml] <;> rfl)


noncomputable def impl_MiddleThree_l0 (L : Nat) (a : List Pt) : Nat → Int → (List Pt) → Option ((List Pt) × Bool)
  | 0, _, _ => none
  | m + 1, v13, w0 => bif ilt v13 (ilen (List.map ep a)) then (gbind (impl_at L a (wr IntKind.i64 (iadd v13 1))) fun r1 => gbind (impl_at L a (wr IntKind.i64 (iadd v13 2))) fun r2 => gbind (impl_Peg_plus L (Prod.fst r1) (Prod.snd r1) (Prod.fst r2) (Prod.snd r2)) fun r3 => bif ieq 2 0 then (none) else (bif !ieq (irem (Prod.fst r3) 2) 0 then (some (([], false))) else (bif ieq 2 0 then (none) else (bif !ieq (irem (Prod.snd r3) 2) 0 then (some (([], false))) else (bif ieq 2 0 then (none) else (bif ieq 2 0 then (none) else (bif fits (iadd (ilen (List.map ep w0)) (ilen [AV.agg [AV.int IntKind.i64 (wr IntKind.i64 (iquo (Prod.fst r3) 2)), AV.int IntKind.i64 (wr IntKind.i64 (iquo (Prod.snd r3) 2))]])) 16 then (impl_MiddleThree_l0 L a m (wr IntKind.i64 (iadd v13 1)) (lcat w0 ({ x := wr IntKind.i64 (iquo (Prod.fst r3) 2), y := wr IntKind.i64 (iquo (Prod.snd r3) 2) } :: []))) else (none)))))))) else (some ((w0, true)))


noncomputable def impl_MiddleThree (L : Nat) (a : List Pt) : Option ((List Pt) × Bool) := gbind (impl_isThree L a) fun r => bif !r then (some (([], false))) else (impl_MiddleThree_l0 L a L 0 [])


def impl_MiddleThree_ok (L : Nat) (C : CF) : Prop := ∀ (oa : Bool) (ca : Bool) (x_a : List AV) (a : List Pt) (_ : x_a = List.map ep a), C 97 ([.lst oa ca 2 x_a]) ([]) = Option.map (fun r : (List Pt) × Bool => ((.tup [.frs 2 (List.map ep (r.1)), .bool (r.2)], []) : AV × List Blk)) (impl_MiddleThree L a)


theorem impl_MiddleThree_run (L : Nat) (C : CF) (h_impl_at : impl_at_ok L C) (h_impl_Peg_plus : impl_Peg_plus_ok L C) (h_impl_isThree : impl_isThree_ok L C) : ∀ (oa : Bool) (ca : Bool) (x_a : List AV) (a : List Pt) (_ : x_a = List.map ep a), run T C sh (keep 97) L Try.f97 ([.lst oa ca 2 x_a]) ([]) = Option.map (fun r : (List Pt) × Bool => ((.tup [.frs 2 (List.map ep (r.1)), .bool (r.2)], []) : AV × List Blk)) (impl_MiddleThree L a) := by
 intro oa ca x_a a hx_a
 subst hx_a
 unfold impl_MiddleThree
 conv => lhs; whnf
 refine t_call (h_impl_isThree _ _ _ a (by first | rfl | simp only [ml] <;> rfl)) fun r => ?_
 conv => lhs; whnf
 refine t_cond ?_ ?_
 ·conv => lhs; whnf
  exact t_ret (by first | rfl | simp only [ml] <;> rfl)
 ·conv => lhs; whnf
  refine t_loop (fun (⟨v13, w0⟩ : Int × (List Pt)) => (AV.lst oa ca 2 (List.map ep a) :: topA 3 (AV.own 0 2 none false :: topA 7 (AV.int IntKind.i64 (ilen (List.map ep a)) :: AV.int IntKind.i64 v13 :: tops 33)), [Blk.rows Mode.live 2 (List.map ep w0)])) (fun m (⟨v13, w0⟩ : Int × (List Pt)) => impl_MiddleThree_l0 L a m v13 w0) (fun _ => rfl) (fun m s rec hrec => ?_) L ((0, [])) ?_ ?_
  rotate_left
  ·first | rfl | simp only [ml] <;> rfl
  ·first | rfl | simp only [ml] <;> rfl
  obtain ⟨v13, w0⟩ := s
  show _ = Option.map _ (impl_MiddleThree_l0 L a (m + 1) v13 w0)
  rw [impl_MiddleThree_l0.eq_2]
  conv => lhs; whnf
  refine t_cond ?_ ?_
  ·conv => lhs; whnf
   refine t_call (h_impl_at _ _ _ a (by first | rfl | simp only [ml] <;> rfl) (wr IntKind.i64 (iadd v13 1))) fun r1 => ?_
   conv => lhs; whnf
   refine t_call (h_impl_at _ _ _ a (by first | rfl | simp only [ml] <;> rfl) (wr IntKind.i64 (iadd v13 2))) fun r2 => ?_
   conv => lhs; whnf
   refine t_call (h_impl_Peg_plus (Prod.fst r1) (Prod.snd r1) (Prod.fst r2) (Prod.snd r2)) fun r3 => ?_
   conv => lhs; whnf
   refine t_cond ?_ ?_
   ·conv => lhs; whnf
    exact t_none
   ·conv => lhs; whnf
    refine t_cond ?_ ?_
    ·conv => lhs; whnf
     exact t_ret (by first | rfl | simp only [ml] <;> rfl)
    ·conv => lhs; whnf
     refine t_cond ?_ ?_
     ·conv => lhs; whnf
      exact t_none
     ·conv => lhs; whnf
      refine t_cond ?_ ?_
      ·conv => lhs; whnf
       exact t_ret (by first | rfl | simp only [ml] <;> rfl)
      ·conv => lhs; whnf
       refine t_cond ?_ ?_
       ·conv => lhs; whnf
        exact t_none
       ·conv => lhs; whnf
        refine t_cond ?_ ?_
        ·conv => lhs; whnf
         exact t_none
        ·conv => lhs; whnf
         refine t_cond ?_ ?_
         ·conv => lhs; whnf
          exact hrec ((wr IntKind.i64 (iadd v13 1), lcat w0 ({ x := wr IntKind.i64 (iquo (Prod.fst r3) 2), y := wr IntKind.i64 (iquo (Prod.snd r3) 2) } :: []))) _ _ (by first | rfl | simp only [ml] <;> rfl) (by first | rfl | simp only [ml] <;> rfl)
         ·conv => lhs; whnf
          exact t_none
  ·conv => lhs; whnf
   exact t_ret (by first | rfl | simp only [ml] <;> rfl)


noncomputable def spec_MiddleThree_l0 (L : Nat) (a : List Pt) : Nat → Int → (List Pt) → Option ((List Pt) × Bool)
  | 0, _, _ => none
  | m + 1, v13, w0 => bif ilt v13 (ilen (List.map ep a)) then (bif ieq 3 0 then (none) else (gbind (lget a (irem (wr IntKind.i64 (iadd v13 2)) 3)) fun p => bif ieq 3 0 then (none) else (gbind (lget a (irem (wr IntKind.i64 (iadd v13 1)) 3)) fun p1 => bif ieq 2 0 then (none) else (bif !ieq (irem (wr IntKind.i64 (iadd (Pt.x p1) (Pt.x p))) 2) 0 then (some (([], false))) else (bif ieq 2 0 then (none) else (bif !ieq (irem (wr IntKind.i64 (iadd (Pt.y p1) (Pt.y p))) 2) 0 then (some (([], false))) else (bif ieq 2 0 then (none) else (bif ieq 2 0 then (none) else (bif fits (iadd (ilen (List.map ep w0)) (ilen [AV.agg [AV.int IntKind.i64 (wr IntKind.i64 (iquo (wr IntKind.i64 (iadd (Pt.x p1) (Pt.x p))) 2)), AV.int IntKind.i64 (wr IntKind.i64 (iquo (wr IntKind.i64 (iadd (Pt.y p1) (Pt.y p))) 2))]])) 16 then (spec_MiddleThree_l0 L a m (wr IntKind.i64 (iadd v13 1)) (lcat w0 ({ x := wr IntKind.i64 (iquo (wr IntKind.i64 (iadd (Pt.x p1) (Pt.x p))) 2), y := wr IntKind.i64 (iquo (wr IntKind.i64 (iadd (Pt.y p1) (Pt.y p))) 2) } :: []))) else (none)))))))))) else (some ((w0, true)))


noncomputable def spec_MiddleThree (L : Nat) (a : List Pt) : Option ((List Pt) × Bool) := gbind (spec_trThree L a) fun r => bif !r then (some (([], false))) else (spec_MiddleThree_l0 L a L 0 [])


def spec_MiddleThree_ok (L : Nat) (C : CF) : Prop := ∀ (oa : Bool) (ca : Bool) (x_a : List AV) (a : List Pt) (_ : x_a = List.map ep a), C 98 ([.lst oa ca 2 x_a]) ([]) = Option.map (fun r : (List Pt) × Bool => ((.tup [.frs 2 (List.map ep (r.1)), .bool (r.2)], []) : AV × List Blk)) (spec_MiddleThree L a)


theorem spec_MiddleThree_run (L : Nat) (C : CF) (h_spec_trThree : spec_trThree_ok L C) : ∀ (oa : Bool) (ca : Bool) (x_a : List AV) (a : List Pt) (_ : x_a = List.map ep a), run T C sh (keep 98) L Try.f98 ([.lst oa ca 2 x_a]) ([]) = Option.map (fun r : (List Pt) × Bool => ((.tup [.frs 2 (List.map ep (r.1)), .bool (r.2)], []) : AV × List Blk)) (spec_MiddleThree L a) := by
 intro oa ca x_a a hx_a
 subst hx_a
 unfold spec_MiddleThree
 conv => lhs; whnf
 refine t_call (h_spec_trThree _ _ _ a (by first | rfl | simp only [ml] <;> rfl)) fun r => ?_
 conv => lhs; whnf
 refine t_cond ?_ ?_
 ·conv => lhs; whnf
  exact t_ret (by first | rfl | simp only [ml] <;> rfl)
 ·conv => lhs; whnf
  refine t_loop (fun (⟨v13, w0⟩ : Int × (List Pt)) => (AV.lst oa ca 2 (List.map ep a) :: topA 3 (AV.own 0 2 none false :: topA 7 (AV.int IntKind.i64 (ilen (List.map ep a)) :: AV.int IntKind.i64 v13 :: tops 48)), [Blk.rows Mode.live 2 (List.map ep w0)])) (fun m (⟨v13, w0⟩ : Int × (List Pt)) => spec_MiddleThree_l0 L a m v13 w0) (fun _ => rfl) (fun m s rec hrec => ?_) L ((0, [])) ?_ ?_
  rotate_left
  ·first | rfl | simp only [ml] <;> rfl
  ·first | rfl | simp only [ml] <;> rfl
  obtain ⟨v13, w0⟩ := s
  show _ = Option.map _ (spec_MiddleThree_l0 L a (m + 1) v13 w0)
  rw [spec_MiddleThree_l0.eq_2]
  conv => lhs; whnf
  refine t_cond ?_ ?_
  ·conv => lhs; whnf
   refine t_cond ?_ ?_
   ·conv => lhs; whnf
    exact t_none
   ·conv => lhs; whnf
    refine t_get (en := ep) (l := a) (by first | rfl | simp only [ml] <;> rfl) fun p => ?_
    conv => lhs; whnf
    refine t_cond ?_ ?_
    ·conv => lhs; whnf
     exact t_none
    ·conv => lhs; whnf
     refine t_get (en := ep) (l := a) (by first | rfl | simp only [ml] <;> rfl) fun p1 => ?_
     conv => lhs; whnf
     refine t_cond ?_ ?_
     ·conv => lhs; whnf
      exact t_none
     ·conv => lhs; whnf
      refine t_cond ?_ ?_
      ·conv => lhs; whnf
       exact t_ret (by first | rfl | simp only [ml] <;> rfl)
      ·conv => lhs; whnf
       refine t_cond ?_ ?_
       ·conv => lhs; whnf
        exact t_none
       ·conv => lhs; whnf
        refine t_cond ?_ ?_
        ·conv => lhs; whnf
         exact t_ret (by first | rfl | simp only [ml] <;> rfl)
        ·conv => lhs; whnf
         refine t_cond ?_ ?_
         ·conv => lhs; whnf
          exact t_none
         ·conv => lhs; whnf
          refine t_cond ?_ ?_
          ·conv => lhs; whnf
           exact t_none
          ·conv => lhs; whnf
           refine t_cond ?_ ?_
           ·conv => lhs; whnf
            exact hrec ((wr IntKind.i64 (iadd v13 1), lcat w0 ({ x := wr IntKind.i64 (iquo (wr IntKind.i64 (iadd (Pt.x p1) (Pt.x p))) 2), y := wr IntKind.i64 (iquo (wr IntKind.i64 (iadd (Pt.y p1) (Pt.y p))) 2) } :: []))) _ _ (by first | rfl | simp only [ml] <;> rfl) (by first | rfl | simp only [ml] <;> rfl)
           ·conv => lhs; whnf
            exact t_none
  ·conv => lhs; whnf
   exact t_ret (by first | rfl | simp only [ml] <;> rfl)


noncomputable def impl_box_l0 (L : Nat) (a : List Pt) : Nat → Int → Int → Int → Int → Int → Option (Int × Int × Int × Int)
  | 0, _, _, _, _, _ => none
  | m + 1, v16, b2_0, b2_1, b3_0, b3_1 => bif ilt v16 (ilen (List.map ep a)) then (gbind (lget a v16) fun p2 => impl_box_l0 L a m (wr IntKind.i64 (iadd v16 1)) (imin b2_0 (Pt.x p2)) (imin b2_1 (Pt.y p2)) (imax b3_0 (Pt.x p2)) (imax b3_1 (Pt.y p2))) else (some ((b2_0, b2_1, b3_0, b3_1)))


noncomputable def impl_box (L : Nat) (a : List Pt) : Option (Int × Int × Int × Int) := gbind (lget a 0) fun p => gbind (lget a 0) fun p1 => impl_box_l0 L a L 0 (Pt.x p1) (Pt.y p1) (Pt.x p) (Pt.y p)


def impl_box_ok (L : Nat) (C : CF) : Prop := ∀ (oa : Bool) (ca : Bool) (x_a : List AV) (a : List Pt) (_ : x_a = List.map ep a), C 163 ([.lst oa ca 2 x_a]) ([]) = Option.map (fun r : Int × Int × Int × Int => ((.tup [.agg [.int .i64 (r.1), .int .i64 (r.2.1)], .agg [.int .i64 (r.2.2.1), .int .i64 (r.2.2.2)]], []) : AV × List Blk)) (impl_box L a)


theorem impl_box_run (L : Nat) (C : CF) : ∀ (oa : Bool) (ca : Bool) (x_a : List AV) (a : List Pt) (_ : x_a = List.map ep a), run T C sh (keep 163) L Try.f163 ([.lst oa ca 2 x_a]) ([]) = Option.map (fun r : Int × Int × Int × Int => ((.tup [.agg [.int .i64 (r.1), .int .i64 (r.2.1)], .agg [.int .i64 (r.2.2.1), .int .i64 (r.2.2.2)]], []) : AV × List Blk)) (impl_box L a) := by
 intro oa ca x_a a hx_a
 subst hx_a
 unfold impl_box
 conv => lhs; whnf
 refine t_get (en := ep) (l := a) (by first | rfl | simp only [ml] <;> rfl) fun p => ?_
 conv => lhs; whnf
 refine t_get (en := ep) (l := a) (by first | rfl | simp only [ml] <;> rfl) fun p1 => ?_
 conv => lhs; whnf
 refine t_loop (fun (⟨v16, b2_0, b2_1, b3_0, b3_1⟩ : Int × Int × Int × Int × Int) => (topA 2 (AV.ptr 0 0 0 2 :: AV.ptr 1 0 0 2 :: AV.ptr 2 0 0 2 :: AV.ptr 3 0 0 2 :: topA 8 (AV.lst oa ca 2 (List.map ep a) :: AV.int IntKind.i64 (ilen (List.map ep a)) :: AV.int IntKind.i64 v16 :: tops 28)), [Blk.box (AV.agg [AV.int IntKind.i64 0, AV.int IntKind.i64 0]), Blk.box (AV.agg [AV.int IntKind.i64 0, AV.int IntKind.i64 0]), Blk.box (AV.agg [AV.int IntKind.i64 b2_0, AV.int IntKind.i64 b2_1]), Blk.box (AV.agg [AV.int IntKind.i64 b3_0, AV.int IntKind.i64 b3_1])])) (fun m (⟨v16, b2_0, b2_1, b3_0, b3_1⟩ : Int × Int × Int × Int × Int) => impl_box_l0 L a m v16 b2_0 b2_1 b3_0 b3_1) (fun _ => rfl) (fun m s rec hrec => ?_) L ((0, Pt.x p1, Pt.y p1, Pt.x p, Pt.y p)) ?_ ?_
 rotate_left
 ·first | rfl | simp only [ml] <;> rfl
 ·first | rfl | simp only [ml] <;> rfl
 obtain ⟨v16, b2_0, b2_1, b3_0, b3_1⟩ := s
 show _ = Option.map _ (impl_box_l0 L a (m + 1) v16 b2_0 b2_1 b3_0 b3_1)
 rw [impl_box_l0.eq_2]
 conv => lhs; whnf
 refine t_cond ?_ ?_
 ·conv => lhs; whnf
  refine t_get (en := ep) (l := a) (by first | rfl | simp only [ml] <;> rfl) fun p2 => ?_
  conv => lhs; whnf
  exact hrec ((wr IntKind.i64 (iadd v16 1), imin b2_0 (Pt.x p2), imin b2_1 (Pt.y p2), imax b3_0 (Pt.x p2), imax b3_1 (Pt.y p2))) _ _ (by first | rfl | simp only [ml] <;> rfl) (by first | rfl | simp only [ml] <;> rfl)
 ·conv => lhs; whnf
  exact t_ret (by first | rfl | simp only [ml] <;> rfl)


noncomputable def impl_BoxOfThree (L : Nat) (a : List Pt) : Option (Int × Int × Int × Int × Bool) := gbind (impl_isThree L a) fun r => bif !r then (some ((0, 0, 0, 0, false))) else (gbind (impl_box L a) fun r1 => some ((Prod.fst r1, Prod.fst (Prod.snd r1), Prod.fst (Prod.snd (Prod.snd r1)), Prod.snd (Prod.snd (Prod.snd r1)), true)))


def impl_BoxOfThree_ok (L : Nat) (C : CF) : Prop := ∀ (oa : Bool) (ca : Bool) (x_a : List AV) (a : List Pt) (_ : x_a = List.map ep a), C 99 ([.lst oa ca 2 x_a]) ([]) = Option.map (fun r : Int × Int × Int × Int × Bool => ((.tup [.agg [.int .i64 (r.1), .int .i64 (r.2.1)], .agg [.int .i64 (r.2.2.1), .int .i64 (r.2.2.2.1)], .bool (r.2.2.2.2)], []) : AV × List Blk)) (impl_BoxOfThree L a)


theorem impl_BoxOfThree_run (L : Nat) (C : CF) (h_impl_isThree : impl_isThree_ok L C) (h_impl_box : impl_box_ok L C) : ∀ (oa : Bool) (ca : Bool) (x_a : List AV) (a : List Pt) (_ : x_a = List.map ep a), run T C sh (keep 99) L Try.f99 ([.lst oa ca 2 x_a]) ([]) = Option.map (fun r : Int × Int × Int × Int × Bool => ((.tup [.agg [.int .i64 (r.1), .int .i64 (r.2.1)], .agg [.int .i64 (r.2.2.1), .int .i64 (r.2.2.2.1)], .bool (r.2.2.2.2)], []) : AV × List Blk)) (impl_BoxOfThree L a) := by
 intro oa ca x_a a hx_a
 subst hx_a
 unfold impl_BoxOfThree
 conv => lhs; whnf
 refine t_call (h_impl_isThree _ _ _ a (by first | rfl | simp only [ml] <;> rfl)) fun r => ?_
 conv => lhs; whnf
 refine t_cond ?_ ?_
 ·conv => lhs; whnf
  exact t_ret (by first | rfl | simp only [ml] <;> rfl)
 ·conv => lhs; whnf
  refine t_call (h_impl_box _ _ _ a (by first | rfl | simp only [ml] <;> rfl)) fun r1 => ?_
  conv => lhs; whnf
  exact t_ret (by first | rfl | simp only [ml] <;> rfl)


noncomputable def spec_BoxOfThree_l0 (L : Nat) (a : List Pt) : Nat → Int → Int → Int → Int → Int → Option (Int × Int × Int × Int × Bool)
  | 0, _, _, _, _, _ => none
  | m + 1, v22, b2_0, b2_1, b3_0, b3_1 => bif ilt v22 (ilen (List.map ep a)) then (gbind (lget a v22) fun p2 => gbind (spec_l1Least L b2_0 (Pt.x p2)) fun r1 => gbind (spec_l1Least L b2_1 (Pt.y p2)) fun r2 => gbind (spec_l1Most L b3_0 (Pt.x p2)) fun r3 => gbind (spec_l1Most L b3_1 (Pt.y p2)) fun r4 => spec_BoxOfThree_l0 L a m (wr IntKind.i64 (iadd v22 1)) r1 r2 r3 r4) else (some ((b2_0, b2_1, b3_0, b3_1, true)))


noncomputable def spec_BoxOfThree (L : Nat) (a : List Pt) : Option (Int × Int × Int × Int × Bool) := gbind (spec_trThree L a) fun r => bif !r then (some ((0, 0, 0, 0, false))) else (gbind (lget a 0) fun p => gbind (lget a 0) fun p1 => spec_BoxOfThree_l0 L a L 0 (Pt.x p1) (Pt.y p1) (Pt.x p) (Pt.y p))


def spec_BoxOfThree_ok (L : Nat) (C : CF) : Prop := ∀ (oa : Bool) (ca : Bool) (x_a : List AV) (a : List Pt) (_ : x_a = List.map ep a), C 100 ([.lst oa ca 2 x_a]) ([]) = Option.map (fun r : Int × Int × Int × Int × Bool => ((.tup [.agg [.int .i64 (r.1), .int .i64 (r.2.1)], .agg [.int .i64 (r.2.2.1), .int .i64 (r.2.2.2.1)], .bool (r.2.2.2.2)], []) : AV × List Blk)) (spec_BoxOfThree L a)


theorem spec_BoxOfThree_run (L : Nat) (C : CF) (h_spec_l1Most : spec_l1Most_ok L C) (h_spec_l1Least : spec_l1Least_ok L C) (h_spec_trThree : spec_trThree_ok L C) : ∀ (oa : Bool) (ca : Bool) (x_a : List AV) (a : List Pt) (_ : x_a = List.map ep a), run T C sh (keep 100) L Try.f100 ([.lst oa ca 2 x_a]) ([]) = Option.map (fun r : Int × Int × Int × Int × Bool => ((.tup [.agg [.int .i64 (r.1), .int .i64 (r.2.1)], .agg [.int .i64 (r.2.2.1), .int .i64 (r.2.2.2.1)], .bool (r.2.2.2.2)], []) : AV × List Blk)) (spec_BoxOfThree L a) := by
 intro oa ca x_a a hx_a
 subst hx_a
 unfold spec_BoxOfThree
 conv => lhs; whnf
 refine t_call (h_spec_trThree _ _ _ a (by first | rfl | simp only [ml] <;> rfl)) fun r => ?_
 conv => lhs; whnf
 refine t_cond ?_ ?_
 ·conv => lhs; whnf
  exact t_ret (by first | rfl | simp only [ml] <;> rfl)
 ·conv => lhs; whnf
  refine t_get (en := ep) (l := a) (by first | rfl | simp only [ml] <;> rfl) fun p => ?_
  conv => lhs; whnf
  refine t_get (en := ep) (l := a) (by first | rfl | simp only [ml] <;> rfl) fun p1 => ?_
  conv => lhs; whnf
  refine t_loop (fun (⟨v22, b2_0, b2_1, b3_0, b3_1⟩ : Int × Int × Int × Int × Int) => (topA 2 (AV.ptr 0 0 0 2 :: AV.ptr 1 0 0 2 :: AV.top :: AV.ptr 2 0 0 2 :: AV.ptr 3 0 0 2 :: topA 13 (AV.lst oa ca 2 (List.map ep a) :: AV.int IntKind.i64 (ilen (List.map ep a)) :: AV.int IntKind.i64 v22 :: tops 28)), [Blk.box (AV.agg [AV.int IntKind.i64 0, AV.int IntKind.i64 0]), Blk.box (AV.agg [AV.int IntKind.i64 0, AV.int IntKind.i64 0]), Blk.box (AV.agg [AV.int IntKind.i64 b2_0, AV.int IntKind.i64 b2_1]), Blk.box (AV.agg [AV.int IntKind.i64 b3_0, AV.int IntKind.i64 b3_1])])) (fun m (⟨v22, b2_0, b2_1, b3_0, b3_1⟩ : Int × Int × Int × Int × Int) => spec_BoxOfThree_l0 L a m v22 b2_0 b2_1 b3_0 b3_1) (fun _ => rfl) (fun m s rec hrec => ?_) L ((0, Pt.x p1, Pt.y p1, Pt.x p, Pt.y p)) ?_ ?_
  rotate_left
  ·first | rfl | simp only [ml] <;> rfl
  ·first | rfl | simp only [ml] <;> rfl
  obtain ⟨v22, b2_0, b2_1, b3_0, b3_1⟩ := s
  show _ = Option.map _ (spec_BoxOfThree_l0 L a (m + 1) v22 b2_0 b2_1 b3_0 b3_1)
  rw [spec_BoxOfThree_l0.eq_2]
  conv => lhs; whnf
  refine t_cond ?_ ?_
  ·conv => lhs; whnf
   refine t_get (en := ep) (l := a) (by first | rfl | simp only [ml] <;> rfl) fun p2 => ?_
   conv => lhs; whnf
   refine t_call (h_spec_l1Least b2_0 (Pt.x p2)) fun r1 => ?_
   conv => lhs; whnf
   refine t_call (h_spec_l1Least b2_1 (Pt.y p2)) fun r2 => ?_
   conv => lhs; whnf
   refine t_call (h_spec_l1Most b3_0 (Pt.x p2)) fun r3 => ?_
   conv => lhs; whnf
   refine t_call (h_spec_l1Most b3_1 (Pt.y p2)) fun r4 => ?_
   conv => lhs; whnf
   exact hrec ((wr IntKind.i64 (iadd v22 1), r1, r2, r3, r4)) _ _ (by first | rfl | simp only [ml] <;> rfl) (by first | rfl | simp only [ml] <;> rfl)
  ·conv => lhs; whnf
   exact t_ret (by first | rfl | simp only [ml] <;> rfl)


noncomputable def laws_zRows_l0 (L : Nat) (a : List (List Int)) (b : List (List Int)) : Nat → Int → Option Bool
  | 0, _ => none
  | m + 1, v13 => bif ilt v13 (ilen (List.map eLI a)) then (gbind (lget a v13) fun p => gbind (lget b v13) fun p1 => gbind (laws_zSame L p p1) fun r => bif !r then (some false) else (laws_zRows_l0 L a b m (wr IntKind.i64 (iadd v13 1)))) else (some true)


noncomputable def laws_zRows (L : Nat) (a : List (List Int)) (b : List (List Int)) : Option (Bool) := bif !ieq (ilen (List.map eLI a)) (ilen (List.map eLI b)) then (some false) else (laws_zRows_l0 L a b L 0)


def laws_zRows_ok (L : Nat) (C : CF) : Prop := ∀ (oa : Bool) (ca : Bool) (x_a : List AV) (a : List (List Int)) (_ : x_a = List.map eLI a) (ob : Bool) (cb : Bool) (x_b : List AV) (b : List (List Int)) (_ : x_b = List.map eLI b), C 101 ([.lst oa ca 1 x_a, .lst ob cb 1 x_b]) ([]) = Option.map (fun r : Bool => ((.bool r, []) : AV × List Blk)) (laws_zRows L a b)


theorem laws_zRows_run (L : Nat) (C : CF) (h_laws_zSame : laws_zSame_ok L C) : ∀ (oa : Bool) (ca : Bool) (x_a : List AV) (a : List (List Int)) (_ : x_a = List.map eLI a) (ob : Bool) (cb : Bool) (x_b : List AV) (b : List (List Int)) (_ : x_b = List.map eLI b), run T C sh (keep 101) L Try.f101 ([.lst oa ca 1 x_a, .lst ob cb 1 x_b]) ([]) = Option.map (fun r : Bool => ((.bool r, []) : AV × List Blk)) (laws_zRows L a b) := by
 intro oa ca x_a a hx_a ob cb x_b b hx_b
 subst hx_a
 subst hx_b
 unfold laws_zRows
 conv => lhs; whnf
 refine t_cond ?_ ?_
 ·conv => lhs; whnf
  exact t_ret (by first | rfl | simp only [ml] <;> rfl)
 ·conv => lhs; whnf
  refine t_loop (fun (v13 : Int) => (AV.lst oa ca 1 (List.map eLI a) :: AV.lst ob cb 1 (List.map eLI b) :: topA 10 (AV.int IntKind.i64 (ilen (List.map eLI a)) :: AV.int IntKind.i64 v13 :: tops 13), [])) (fun m (v13 : Int) => laws_zRows_l0 L a b m v13) (fun _ => rfl) (fun m v13 rec hrec => ?_) L 0 ?_ ?_
  rotate_left
  ·first | rfl | simp only [ml] <;> rfl
  ·first | rfl | simp only [ml] <;> rfl
  show _ = Option.map _ (laws_zRows_l0 L a b (m + 1) v13)
  rw [laws_zRows_l0.eq_2]
  conv => lhs; whnf
  refine t_cond ?_ ?_
  ·conv => lhs; whnf
   refine t_get (en := eLI) (l := a) (by first | rfl | simp only [ml] <;> rfl) fun p => ?_
   conv => lhs; whnf
   refine t_get (en := eLI) (l := b) (by first | rfl | simp only [ml] <;> rfl) fun p1 => ?_
   conv => lhs; whnf
   refine t_call (h_laws_zSame _ _ _ p (by first | rfl | simp only [ml] <;> rfl) _ _ _ p1 (by first | rfl | simp only [ml] <;> rfl)) fun r => ?_
   conv => lhs; whnf
   refine t_cond ?_ ?_
   ·conv => lhs; whnf
    exact t_ret (by first | rfl | simp only [ml] <;> rfl)
   ·conv => lhs; whnf
    exact hrec (wr IntKind.i64 (iadd v13 1)) _ _ (by first | rfl | simp only [ml] <;> rfl) (by first | rfl | simp only [ml] <;> rfl)
  ·conv => lhs; whnf
   exact t_ret (by first | rfl | simp only [ml] <;> rfl)


noncomputable def impl_InCircle_l0 (L : Nat) (a : List Pt) (b_0 : Int) (b_1 : Int) : Nat → Int → Int → Option (Int × Bool)
  | 0, _, _ => none
  | m + 1, v6, v21 => bif ilt v21 (ilen (List.map ep a)) then (gbind (lget a v21) fun p => gbind (impl_Peg_less L (Pt.x p) (Pt.y p) b_0 b_1) fun r2 => gbind (impl_at L a (wr IntKind.i64 (iadd v21 1))) fun r3 => gbind (impl_Peg_less L (Prod.fst r3) (Prod.snd r3) b_0 b_1) fun r4 => gbind (impl_at L a (wr IntKind.i64 (iadd v21 2))) fun r5 => gbind (impl_Peg_less L (Prod.fst r5) (Prod.snd r5) b_0 b_1) fun r6 => gbind (impl_Peg_square L (Prod.fst r2) (Prod.snd r2)) fun r7 => gbind (impl_cross L (Prod.fst r4) (Prod.snd r4) (Prod.fst r6) (Prod.snd r6)) fun r8 => impl_InCircle_l0 L a b_0 b_1 m (wr IntKind.i64 (iadd v6 (wr IntKind.i64 (imul r7 r8)))) (wr IntKind.i64 (iadd v21 1))) else (gbind (impl_sign L v6) fun r9 => gbind (impl_twice L a) fun r10 => gbind (impl_sign L r10) fun r11 => some ((wr IntKind.i64 (imul r9 r11), true)))


noncomputable def impl_InCircle (L : Nat) (a : List Pt) (b_0 : Int) (b_1 : Int) : Option (Int × Bool) := gbind (impl_isThree L a) fun r => bif !r then (some ((0, false))) else (gbind (impl_IsPeg L b_0 b_1) fun r1 => bif !r1 then (some ((0, false))) else (impl_InCircle_l0 L a b_0 b_1 L 0 0))


def impl_InCircle_ok (L : Nat) (C : CF) : Prop := ∀ (oa : Bool) (ca : Bool) (x_a : List AV) (a : List Pt) (_ : x_a = List.map ep a) (b_0 : Int) (b_1 : Int), C 102 ([.lst oa ca 2 x_a, .agg [.int .i64 b_0, .int .i64 b_1]]) ([]) = Option.map (fun r : Int × Bool => ((.tup [.int .i64 (r.1), .bool (r.2)], []) : AV × List Blk)) (impl_InCircle L a b_0 b_1)


theorem impl_InCircle_run (L : Nat) (C : CF) (h_impl_IsPeg : impl_IsPeg_ok L C) (h_impl_at : impl_at_ok L C) (h_impl_Peg_less : impl_Peg_less_ok L C) (h_impl_cross : impl_cross_ok L C) (h_impl_sign : impl_sign_ok L C) (h_impl_twice : impl_twice_ok L C) (h_impl_Peg_square : impl_Peg_square_ok L C) (h_impl_isThree : impl_isThree_ok L C) : ∀ (oa : Bool) (ca : Bool) (x_a : List AV) (a : List Pt) (_ : x_a = List.map ep a) (b_0 : Int) (b_1 : Int), run T C sh (keep 102) L Try.f102 ([.lst oa ca 2 x_a, .agg [.int .i64 b_0, .int .i64 b_1]]) ([]) = Option.map (fun r : Int × Bool => ((.tup [.int .i64 (r.1), .bool (r.2)], []) : AV × List Blk)) (impl_InCircle L a b_0 b_1) := by
 intro oa ca x_a a hx_a b_0 b_1
 subst hx_a
 unfold impl_InCircle
 conv => lhs; whnf
 refine t_call (h_impl_isThree _ _ _ a (by first | rfl | simp only [ml] <;> rfl)) fun r => ?_
 conv => lhs; whnf
 refine t_cond ?_ ?_
 ·conv => lhs; whnf
  exact t_ret (by first | rfl | simp only [ml] <;> rfl)
 ·conv => lhs; whnf
  refine t_call (h_impl_IsPeg b_0 b_1) fun r1 => ?_
  conv => lhs; whnf
  refine t_cond ?_ ?_
  ·conv => lhs; whnf
   exact t_ret (by first | rfl | simp only [ml] <;> rfl)
  ·conv => lhs; whnf
   refine t_loop (fun (⟨v6, v21⟩ : Int × Int) => (AV.lst oa ca 2 (List.map ep a) :: topA 2 (AV.ptr 0 0 0 2 :: topA 2 (AV.int IntKind.i64 v6 :: topA 13 (AV.int IntKind.i64 (ilen (List.map ep a)) :: AV.int IntKind.i64 v21 :: tops 35))), [Blk.box (AV.agg [AV.int IntKind.i64 b_0, AV.int IntKind.i64 b_1])])) (fun m (⟨v6, v21⟩ : Int × Int) => impl_InCircle_l0 L a b_0 b_1 m v6 v21) (fun _ => rfl) (fun m s rec hrec => ?_) L ((0, 0)) ?_ ?_
   rotate_left
   ·first | rfl | simp only [ml] <;> rfl
   ·first | rfl | simp only [ml] <;> rfl
   obtain ⟨v6, v21⟩ := s
   show _ = Option.map _ (impl_InCircle_l0 L a b_0 b_1 (m + 1) v6 v21)
   rw [impl_InCircle_l0.eq_2]
   conv => lhs; whnf
   refine t_cond ?_ ?_
   ·conv => lhs; whnf
    refine t_get (en := ep) (l := a) (by first | rfl | simp only [ml] <;> rfl) fun p => ?_
    conv => lhs; whnf
    refine t_call (h_impl_Peg_less (Pt.x p) (Pt.y p) b_0 b_1) fun r2 => ?_
    conv => lhs; whnf
    refine t_call (h_impl_at _ _ _ a (by first | rfl | simp only [ml] <;> rfl) (wr IntKind.i64 (iadd v21 1))) fun r3 => ?_
    conv => lhs; whnf
    refine t_call (h_impl_Peg_less (Prod.fst r3) (Prod.snd r3) b_0 b_1) fun r4 => ?_
    conv => lhs; whnf
    refine t_call (h_impl_at _ _ _ a (by first | rfl | simp only [ml] <;> rfl) (wr IntKind.i64 (iadd v21 2))) fun r5 => ?_
    conv => lhs; whnf
    refine t_call (h_impl_Peg_less (Prod.fst r5) (Prod.snd r5) b_0 b_1) fun r6 => ?_
    conv => lhs; whnf
    refine t_call (h_impl_Peg_square (Prod.fst r2) (Prod.snd r2)) fun r7 => ?_
    conv => lhs; whnf
    refine t_call (h_impl_cross (Prod.fst r4) (Prod.snd r4) (Prod.fst r6) (Prod.snd r6)) fun r8 => ?_
    conv => lhs; whnf
    exact hrec ((wr IntKind.i64 (iadd v6 (wr IntKind.i64 (imul r7 r8))), wr IntKind.i64 (iadd v21 1))) _ _ (by first | rfl | simp only [ml] <;> rfl) (by first | rfl | simp only [ml] <;> rfl)
   ·conv => lhs; whnf
    refine t_call (h_impl_sign v6) fun r9 => ?_
    conv => lhs; whnf
    refine t_call (h_impl_twice _ _ _ a (by first | rfl | simp only [ml] <;> rfl)) fun r10 => ?_
    conv => lhs; whnf
    refine t_call (h_impl_sign r10) fun r11 => ?_
    conv => lhs; whnf
    exact t_ret (by first | rfl | simp only [ml] <;> rfl)


noncomputable def spec_DrawGrowThree (L : Nat) (a : List Int) : Option ((List Pt) × Int) := gbind (spec_l1Cur_three L a 0 0 4) fun r => gbind (spec_l1Cur_among_v2 L a (Prod.fst (Prod.snd r)) (Prod.snd (Prod.snd r)) (1 :: (2 :: (3 :: (5 :: (20 :: (21 :: (0 :: (-1 :: []))))))))) fun r1 => some ((Prod.fst r, Prod.fst r1))


def spec_DrawGrowThree_ok (L : Nat) (C : CF) : Prop := ∀ (oa : Bool) (ca : Bool) (x_a : List AV) (a : List Int) (_ : x_a = List.map eU a), C 103 ([.lst oa ca 1 x_a]) ([]) = Option.map (fun r : (List Pt) × Int => ((.tup [.frs 2 (List.map ep (r.1)), .int .i64 (r.2)], []) : AV × List Blk)) (spec_DrawGrowThree L a)


theorem spec_DrawGrowThree_run (L : Nat) (C : CF) (h_spec_l1Cur_among_v2 : spec_l1Cur_among_v2_ok L C) (h_spec_l1Cur_three : spec_l1Cur_three_ok L C) : ∀ (oa : Bool) (ca : Bool) (x_a : List AV) (a : List Int) (_ : x_a = List.map eU a), run T C sh (keep 103) L Try.f103 ([.lst oa ca 1 x_a]) ([]) = Option.map (fun r : (List Pt) × Int => ((.tup [.frs 2 (List.map ep (r.1)), .int .i64 (r.2)], []) : AV × List Blk)) (spec_DrawGrowThree L a) := by
 intro oa ca x_a a hx_a
 subst hx_a
 unfold spec_DrawGrowThree
 conv => lhs; whnf
 refine t_call (h_spec_l1Cur_three _ _ _ a (by first | rfl | simp only [ml] <;> rfl) 0 0 4) fun r => ?_
 conv => lhs; whnf
 refine t_call (h_spec_l1Cur_among_v2 _ _ _ a (by first | rfl | simp only [ml] <;> rfl) (Prod.fst (Prod.snd r)) (Prod.snd (Prod.snd r)) _ (1 :: (2 :: (3 :: (5 :: (20 :: (21 :: (0 :: (-1 :: [])))))))) (by first | rfl | simp only [ml] <;> rfl)) fun r1 => ?_
 conv => lhs; whnf
 exact t_ret (by first | rfl | simp only [ml] <;> rfl)


noncomputable def impl_GrowThree (L : Nat) (a : List Pt) (b : Int) : Option ((List Pt) × Bool) := gbind (impl_isThree L a) fun r => bif !r then (some (([], false))) else (gbind (impl_within L b 1 20) fun r1 => bif !r1 then (some (([], false))) else (gbind (impl_changed_impl_GrowThree_1 L a a b) fun r2 => some ((Prod.fst r2, Prod.snd r2))))


def impl_GrowThree_ok (L : Nat) (C : CF) : Prop := ∀ (oa : Bool) (ca : Bool) (x_a : List AV) (a : List Pt) (_ : x_a = List.map ep a) (b : Int), C 104 ([.lst oa ca 2 x_a, .int .i64 b]) ([]) = Option.map (fun r : (List Pt) × Bool => ((.tup [.frs 2 (List.map ep (r.1)), .bool (r.2)], []) : AV × List Blk)) (impl_GrowThree L a b)


theorem impl_GrowThree_run (L : Nat) (C : CF) (h_impl_within : impl_within_ok L C) (h_impl_changed_impl_GrowThree_1 : impl_changed_impl_GrowThree_1_ok L C) (h_impl_isThree : impl_isThree_ok L C) : ∀ (oa : Bool) (ca : Bool) (x_a : List AV) (a : List Pt) (_ : x_a = List.map ep a) (b : Int), run T C sh (keep 104) L Try.f104 ([.lst oa ca 2 x_a, .int .i64 b]) ([]) = Option.map (fun r : (List Pt) × Bool => ((.tup [.frs 2 (List.map ep (r.1)), .bool (r.2)], []) : AV × List Blk)) (impl_GrowThree L a b) := by
 intro oa ca x_a a hx_a b
 subst hx_a
 unfold impl_GrowThree
 conv => lhs; whnf
 refine t_call (h_impl_isThree _ _ _ a (by first | rfl | simp only [ml] <;> rfl)) fun r => ?_
 conv => lhs; whnf
 refine t_cond ?_ ?_
 ·conv => lhs; whnf
  exact t_ret (by first | rfl | simp only [ml] <;> rfl)
 ·conv => lhs; whnf
  refine t_call (h_impl_within b 1 20) fun r1 => ?_
  conv => lhs; whnf
  refine t_cond ?_ ?_
  ·conv => lhs; whnf
   exact t_ret (by first | rfl | simp only [ml] <;> rfl)
  ·conv => lhs; whnf
   refine t_call (h_impl_changed_impl_GrowThree_1 _ _ _ a (by first | rfl | simp only [ml] <;> rfl) _ _ _ a (by first | rfl | simp only [ml] <;> rfl) b) fun r2 => ?_
   conv => lhs; whnf
   exact t_ret (by first | rfl | simp only [ml] <;> rfl)


noncomputable def spec_GrowThree (L : Nat) (a : List Pt) (b : Int) : Option ((List Pt) × Bool) := gbind (spec_trThree L a) fun r => bif !r then (some (([], false))) else (gbind (spec_l1In L b 1 20) fun r1 => bif !r1 then (some (([], false))) else (gbind (lget a 0) fun p => gbind (lget a 0) fun p1 => gbind (spec_pgMap L a b 0 0 b (wr IntKind.i64 (imul (wr IntKind.i64 (isub 1 b)) (Pt.x p))) (wr IntKind.i64 (imul (wr IntKind.i64 (isub 1 b)) (Pt.y p1)))) fun r2 => some ((Prod.fst r2, Prod.snd r2))))


def spec_GrowThree_ok (L : Nat) (C : CF) : Prop := ∀ (oa : Bool) (ca : Bool) (x_a : List AV) (a : List Pt) (_ : x_a = List.map ep a) (b : Int), C 105 ([.lst oa ca 2 x_a, .int .i64 b]) ([]) = Option.map (fun r : (List Pt) × Bool => ((.tup [.frs 2 (List.map ep (r.1)), .bool (r.2)], []) : AV × List Blk)) (spec_GrowThree L a b)


theorem spec_GrowThree_run (L : Nat) (C : CF) (h_spec_l1In : spec_l1In_ok L C) (h_spec_pgMap : spec_pgMap_ok L C) (h_spec_trThree : spec_trThree_ok L C) : ∀ (oa : Bool) (ca : Bool) (x_a : List AV) (a : List Pt) (_ : x_a = List.map ep a) (b : Int), run T C sh (keep 105) L Try.f105 ([.lst oa ca 2 x_a, .int .i64 b]) ([]) = Option.map (fun r : (List Pt) × Bool => ((.tup [.frs 2 (List.map ep (r.1)), .bool (r.2)], []) : AV × List Blk)) (spec_GrowThree L a b) := by
 intro oa ca x_a a hx_a b
 subst hx_a
 unfold spec_GrowThree
 conv => lhs; whnf
 refine t_call (h_spec_trThree _ _ _ a (by first | rfl | simp only [ml] <;> rfl)) fun r => ?_
 conv => lhs; whnf
 refine t_cond ?_ ?_
 ·conv => lhs; whnf
  exact t_ret (by first | rfl | simp only [ml] <;> rfl)
 ·conv => lhs; whnf
  refine t_call (h_spec_l1In b 1 20) fun r1 => ?_
  conv => lhs; whnf
  refine t_cond ?_ ?_
  ·conv => lhs; whnf
   exact t_ret (by first | rfl | simp only [ml] <;> rfl)
  ·conv => lhs; whnf
   refine t_get (en := ep) (l := a) (by first | rfl | simp only [ml] <;> rfl) fun p => ?_
   conv => lhs; whnf
   refine t_get (en := ep) (l := a) (by first | rfl | simp only [ml] <;> rfl) fun p1 => ?_
   conv => lhs; whnf
   refine t_call (h_spec_pgMap _ _ _ a (by first | rfl | simp only [ml] <;> rfl) b 0 0 b (wr IntKind.i64 (imul (wr IntKind.i64 (isub 1 b)) (Pt.x p))) (wr IntKind.i64 (imul (wr IntKind.i64 (isub 1 b)) (Pt.y p1)))) fun r2 => ?_
   conv => lhs; whnf
   exact t_ret (by first | rfl | simp only [ml] <;> rfl)


noncomputable def impl_PegsOfGrown (L : Nat) (a : List Pt) (b : Int) : Option (Int × Bool) := gbind (impl_isThree L a) fun r => bif !r then (some ((0, false))) else (gbind (impl_within L b 0 20) fun r1 => bif !r1 then (some ((0, false))) else (gbind (impl_twice L a) fun r2 => gbind (impl_size L r2) fun r3 => gbind (impl_around L a) fun r4 => bif ieq 2 0 then (none) else (some ((wr IntKind.i64 (iquo (wr IntKind.i64 (iadd (wr IntKind.i64 (iadd (wr IntKind.i64 (imul (wr IntKind.i64 (imul b b)) r3)) (wr IntKind.i64 (imul b r4)))) 2)) 2), true)))))


def impl_PegsOfGrown_ok (L : Nat) (C : CF) : Prop := ∀ (oa : Bool) (ca : Bool) (x_a : List AV) (a : List Pt) (_ : x_a = List.map ep a) (b : Int), C 106 ([.lst oa ca 2 x_a, .int .i64 b]) ([]) = Option.map (fun r : Int × Bool => ((.tup [.int .i64 (r.1), .bool (r.2)], []) : AV × List Blk)) (impl_PegsOfGrown L a b)


theorem impl_PegsOfGrown_run (L : Nat) (C : CF) (h_impl_within : impl_within_ok L C) (h_impl_twice : impl_twice_ok L C) (h_impl_size : impl_size_ok L C) (h_impl_around : impl_around_ok L C) (h_impl_isThree : impl_isThree_ok L C) : ∀ (oa : Bool) (ca : Bool) (x_a : List AV) (a : List Pt) (_ : x_a = List.map ep a) (b : Int), run T C sh (keep 106) L Try.f106 ([.lst oa ca 2 x_a, .int .i64 b]) ([]) = Option.map (fun r : Int × Bool => ((.tup [.int .i64 (r.1), .bool (r.2)], []) : AV × List Blk)) (impl_PegsOfGrown L a b) := by
 intro oa ca x_a a hx_a b
 subst hx_a
 unfold impl_PegsOfGrown
 conv => lhs; whnf
 refine t_call (h_impl_isThree _ _ _ a (by first | rfl | simp only [ml] <;> rfl)) fun r => ?_
 conv => lhs; whnf
 refine t_cond ?_ ?_
 ·conv => lhs; whnf
  exact t_ret (by first | rfl | simp only [ml] <;> rfl)
 ·conv => lhs; whnf
  refine t_call (h_impl_within b 0 20) fun r1 => ?_
  conv => lhs; whnf
  refine t_cond ?_ ?_
  ·conv => lhs; whnf
   exact t_ret (by first | rfl | simp only [ml] <;> rfl)
  ·conv => lhs; whnf
   refine t_call (h_impl_twice _ _ _ a (by first | rfl | simp only [ml] <;> rfl)) fun r2 => ?_
   conv => lhs; whnf
   refine t_call (h_impl_size r2) fun r3 => ?_
   conv => lhs; whnf
   refine t_call (h_impl_around _ _ _ a (by first | rfl | simp only [ml] <;> rfl)) fun r4 => ?_
   conv => lhs; whnf
   refine t_cond ?_ ?_
   ·conv => lhs; whnf
    exact t_none
   ·conv => lhs; whnf
    exact t_ret (by first | rfl | simp only [ml] <;> rfl)


noncomputable def spec_PegsOfGrown (L : Nat) (a : List Pt) (b : Int) : Option (Int × Bool) := gbind (spec_trThree L a) fun r => bif !r then (some ((0, false))) else (gbind (spec_l1In L b 0 20) fun r1 => bif !r1 then (some ((0, false))) else (gbind (spec_pgArea L a) fun r2 => gbind (spec_l1Abs L r2) fun r3 => gbind (spec_pgRound L a) fun r4 => bif ieq 2 0 then (none) else (some ((wr IntKind.i64 (iquo (wr IntKind.i64 (iadd (wr IntKind.i64 (iadd (wr IntKind.i64 (imul (wr IntKind.i64 (imul b b)) r3)) (wr IntKind.i64 (imul b r4)))) 2)) 2), true)))))


def spec_PegsOfGrown_ok (L : Nat) (C : CF) : Prop := ∀ (oa : Bool) (ca : Bool) (x_a : List AV) (a : List Pt) (_ : x_a = List.map ep a) (b : Int), C 107 ([.lst oa ca 2 x_a, .int .i64 b]) ([]) = Option.map (fun r : Int × Bool => ((.tup [.int .i64 (r.1), .bool (r.2)], []) : AV × List Blk)) (spec_PegsOfGrown L a b)


theorem spec_PegsOfGrown_run (L : Nat) (C : CF) (h_spec_l1In : spec_l1In_ok L C) (h_spec_pgArea : spec_pgArea_ok L C) (h_spec_l1Abs : spec_l1Abs_ok L C) (h_spec_pgRound : spec_pgRound_ok L C) (h_spec_trThree : spec_trThree_ok L C) : ∀ (oa : Bool) (ca : Bool) (x_a : List AV) (a : List Pt) (_ : x_a = List.map ep a) (b : Int), run T C sh (keep 107) L Try.f107 ([.lst oa ca 2 x_a, .int .i64 b]) ([]) = Option.map (fun r : Int × Bool => ((.tup [.int .i64 (r.1), .bool (r.2)], []) : AV × List Blk)) (spec_PegsOfGrown L a b) := by
 intro oa ca x_a a hx_a b
 subst hx_a
 unfold spec_PegsOfGrown
 conv => lhs; whnf
 refine t_call (h_spec_trThree _ _ _ a (by first | rfl | simp only [ml] <;> rfl)) fun r => ?_
 conv => lhs; whnf
 refine t_cond ?_ ?_
 ·conv => lhs; whnf
  exact t_ret (by first | rfl | simp only [ml] <;> rfl)
 ·conv => lhs; whnf
  refine t_call (h_spec_l1In b 0 20) fun r1 => ?_
  conv => lhs; whnf
  refine t_cond ?_ ?_
  ·conv => lhs; whnf
   exact t_ret (by first | rfl | simp only [ml] <;> rfl)
  ·conv => lhs; whnf
   refine t_call (h_spec_pgArea _ _ _ a (by first | rfl | simp only [ml] <;> rfl)) fun r2 => ?_
   conv => lhs; whnf
   refine t_call (h_spec_l1Abs r2) fun r3 => ?_
   conv => lhs; whnf
   refine t_call (h_spec_pgRound _ _ _ a (by first | rfl | simp only [ml] <;> rfl)) fun r4 => ?_
   conv => lhs; whnf
   refine t_cond ?_ ?_
   ·conv => lhs; whnf
    exact t_none
   ·conv => lhs; whnf
    exact t_ret (by first | rfl | simp only [ml] <;> rfl)



end Go.AM
