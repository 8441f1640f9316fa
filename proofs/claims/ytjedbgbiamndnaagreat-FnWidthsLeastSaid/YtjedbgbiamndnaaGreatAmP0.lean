import Derived.Test.YtjedbgbiamndnaaGreatAmSeat
set_option linter.unusedVariables false
set_option linter.unusedSimpArgs false
set_option linter.unnecessarySimpa false
set_option linter.deprecated false
set_option linter.unusedSectionVars false
open Go Go.AM Go.Proofs
namespace Go.AM
set_option maxRecDepth 400000
set_option maxHeartbeats 40000000
noncomputable def laws_big (L : Nat) (a : List Int) (b : List Int) : Option (Bool) := bif ilt 1048576 (ilen (List.map eU a)) then (some true) else (some (ilt (wr .i64 (isub 1048576 (ilen (List.map eU a)))) (ilen (List.map eU b))))
def laws_big_ok (L : Nat) (C : CF) : Prop := ∀ (oa : Bool) (ca : Bool) (x_a : List AV) (a : List Int) (_ : x_a = List.map eU a) (ob : Bool) (cb : Bool) (x_b : List AV) (b : List Int) (_ : x_b = List.map eU b), C 4 ([.lst oa ca 1 x_a, .lst ob cb 1 x_b]) ([]) = Option.map (fun r : Bool => ((.bool r, []) : AV × List Blk)) (laws_big L a b)
theorem laws_big_run (L : Nat) (C : CF) : laws_big_ok L (fun _ => run T C sh (keep 4) L Tryz.f4) := by
 intro oa ca x_a a hx_a ob cb x_b b hx_b
 subst hx_a
 subst hx_b
 unfold laws_big
 conv=>lhs;whnf
 refine t_cond ?_ ?_
 ·conv=>lhs;whnf
  exact t_ret (by rfl)
 ·conv=>lhs;whnf
  exact t_ret (by rfl)
noncomputable def spec_l1Cur_next (L : Nat) (a_0 : List Int) (a_1 : Int) (a_2 : Int) : Option (Int × Int × Int) := bif ilt a_1 (ilen (List.map eU a_0)) then (gbind (lget a_0 a_1) fun p => bif ile (wr .i64 (iadd a_1 1)) (ilen (List.map eU a_0)) then (some ((wr .i64 p, wr .i64 (iadd a_1 1), wr IntKind.u64 (iadd (wr IntKind.u64 (iadd (wr IntKind.u64 (imul a_2 6364136223846793005)) (wr IntKind.u64 (wr .i64 p)))) 1442695040888963407)))) else (bif ilt 40 0 then (none) else (some ((wr .i64 (iand IntKind.u64 (ishr IntKind.u64 (wr IntKind.u64 (iadd (wr IntKind.u64 (iadd (wr IntKind.u64 (imul a_2 6364136223846793005)) (wr IntKind.u64 (wr .i64 p)))) 1442695040888963407)) 40) 255), wr .i64 (iadd a_1 1), wr IntKind.u64 (iadd (wr IntKind.u64 (iadd (wr IntKind.u64 (imul a_2 6364136223846793005)) (wr IntKind.u64 (wr .i64 p)))) 1442695040888963407)))))) else (bif ile (wr .i64 (iadd a_1 1)) (ilen (List.map eU a_0)) then (some ((0, wr .i64 (iadd a_1 1), wr IntKind.u64 (iadd (wr IntKind.u64 (iadd (wr IntKind.u64 (imul a_2 6364136223846793005)) (wr IntKind.u64 0))) 1442695040888963407)))) else (bif ilt 40 0 then (none) else (some ((wr .i64 (iand IntKind.u64 (ishr IntKind.u64 (wr IntKind.u64 (iadd (wr IntKind.u64 (iadd (wr IntKind.u64 (imul a_2 6364136223846793005)) (wr IntKind.u64 0))) 1442695040888963407)) 40) 255), wr .i64 (iadd a_1 1), wr IntKind.u64 (iadd (wr IntKind.u64 (iadd (wr IntKind.u64 (imul a_2 6364136223846793005)) (wr IntKind.u64 0))) 1442695040888963407))))))
def spec_l1Cur_next_ok (L : Nat) (C : CF) : Prop := ∀ (oa_0 : Bool) (ca_0 : Bool) (x_a_0 : List AV) (a_0 : List Int) (_ : x_a_0 = List.map eU a_0) (a_1 : Int) (a_2 : Int), C 93 ([.ptr 0 0 0 3]) ([.box (.agg [.lst oa_0 ca_0 1 x_a_0, .int .i64 a_1, .int .u64 a_2])]) = Option.map (fun r : Int × Int × Int => ((.int .i64 (r.1), [.box (.agg [.lst oa_0 ca_0 1 x_a_0, .int .i64 (r.2.1), .int .u64 (r.2.2)])]) : AV × List Blk)) (spec_l1Cur_next L a_0 a_1 a_2)
theorem spec_l1Cur_next_run (L : Nat) (C : CF) : spec_l1Cur_next_ok L (fun _ => run T C sh (keep 93) L Tryz.f93) := by
 intro oa_0 ca_0 x_a_0 a_0 hx_a_0 a_1 a_2
 subst hx_a_0
 unfold spec_l1Cur_next
 conv=>lhs;whnf
 refine t_cond ?_ ?_
 ·conv=>lhs;whnf
  refine t_get (en := eU) (l := a_0) (by rfl) fun p => ?_
  conv=>lhs;whnf
  refine t_cond ?_ ?_
  ·conv=>lhs;whnf
   exact t_ret (by rfl)
  ·conv=>lhs;whnf
   refine t_cond ?_ ?_
   ·conv=>lhs;whnf
    exact t_none
   ·conv=>lhs;whnf
    exact t_ret (by rfl)
 ·conv=>lhs;whnf
  refine t_cond ?_ ?_
  ·conv=>lhs;whnf
   exact t_ret (by rfl)
  ·conv=>lhs;whnf
   refine t_cond ?_ ?_
   ·conv=>lhs;whnf
    exact t_none
   ·conv=>lhs;whnf
    exact t_ret (by rfl)
noncomputable def spec_l1Cur_pick (L : Nat) (a_0 : List Int) (a_1 : Int) (a_2 : Int) (b : Int) : Option (Int × Int × Int) := bif ile b 1 then (some ((0, a_1, a_2))) else (gbind (spec_l1Cur_next L a_0 a_1 a_2) fun r => bif ilt 200 b then (gbind (spec_l1Cur_next L a_0 r.2.1 r.2.2) fun r1 => bif ieq b 0 then (none) else (some ((irem (wr .i64 (iadd (wr .i64 (imul r.1 256)) r1.1)) b, r1.2.1, r1.2.2)))) else (bif ieq b 0 then (none) else (some ((irem r.1 b, r.2.1, r.2.2)))))
def spec_l1Cur_pick_ok (L : Nat) (C : CF) : Prop := ∀ (oa_0 : Bool) (ca_0 : Bool) (x_a_0 : List AV) (a_0 : List Int) (_ : x_a_0 = List.map eU a_0) (a_1 : Int) (a_2 : Int) (b : Int), C 60 ([.ptr 0 0 0 3, .int .i64 b]) ([.box (.agg [.lst oa_0 ca_0 1 x_a_0, .int .i64 a_1, .int .u64 a_2])]) = Option.map (fun r : Int × Int × Int => ((.int .i64 (r.1), [.box (.agg [.lst oa_0 ca_0 1 x_a_0, .int .i64 (r.2.1), .int .u64 (r.2.2)])]) : AV × List Blk)) (spec_l1Cur_pick L a_0 a_1 a_2 b)
theorem spec_l1Cur_pick_run (L : Nat) (C : CF) (h_spec_l1Cur_next : spec_l1Cur_next_ok L C) : spec_l1Cur_pick_ok L (fun _ => run T C sh (keep 60) L Tryz.f60) := by
 intro oa_0 ca_0 x_a_0 a_0 hx_a_0 a_1 a_2 b
 subst hx_a_0
 unfold spec_l1Cur_pick
 conv=>lhs;whnf
 refine t_cond ?_ ?_
 ·conv=>lhs;whnf
  exact t_ret (by rfl)
 ·conv=>lhs;whnf
  refine t_call (h_spec_l1Cur_next _ _ _ a_0 (by rfl) a_1 a_2) fun r => ?_
  conv=>lhs;whnf
  refine t_cond ?_ ?_
  ·conv=>lhs;whnf
   refine t_call (h_spec_l1Cur_next _ _ _ a_0 (by rfl) r.2.1 r.2.2) fun r1 => ?_
   conv=>lhs;whnf
   refine t_cond ?_ ?_
   ·conv=>lhs;whnf
    exact t_none
   ·conv=>lhs;whnf
    exact t_ret (by rfl)
  ·conv=>lhs;whnf
   refine t_cond ?_ ?_
   ·conv=>lhs;whnf
    exact t_none
   ·conv=>lhs;whnf
    exact t_ret (by rfl)
noncomputable def spec_l1Cur_one (L : Nat) (a_0 : List Int) (a_1 : Int) (a_2 : Int) (b : Int) : Option (Bool × Int × Int) := gbind (spec_l1Cur_pick L a_0 a_1 a_2 b) fun r => some ((ieq r.1 0, r.2.1, r.2.2))
def spec_l1Cur_one_ok (L : Nat) (C : CF) : Prop := ∀ (oa_0 : Bool) (ca_0 : Bool) (x_a_0 : List AV) (a_0 : List Int) (_ : x_a_0 = List.map eU a_0) (a_1 : Int) (a_2 : Int) (b : Int), C 29 ([.ptr 0 0 0 3, .int .i64 b]) ([.box (.agg [.lst oa_0 ca_0 1 x_a_0, .int .i64 a_1, .int .u64 a_2])]) = Option.map (fun r : Bool × Int × Int => ((.bool (r.1), [.box (.agg [.lst oa_0 ca_0 1 x_a_0, .int .i64 (r.2.1), .int .u64 (r.2.2)])]) : AV × List Blk)) (spec_l1Cur_one L a_0 a_1 a_2 b)
theorem spec_l1Cur_one_run (L : Nat) (C : CF) (h_spec_l1Cur_pick : spec_l1Cur_pick_ok L C) : spec_l1Cur_one_ok L (fun _ => run T C sh (keep 29) L Tryz.f29) := by
 intro oa_0 ca_0 x_a_0 a_0 hx_a_0 a_1 a_2 b
 subst hx_a_0
 unfold spec_l1Cur_one
 conv=>lhs;whnf
 refine t_call (h_spec_l1Cur_pick _ _ _ a_0 (by rfl) a_1 a_2 b) fun r => ?_
 conv=>lhs;whnf
 exact t_ret (by rfl)
noncomputable def spec_l1Cur_surePeg (L : Nat) (a_0 : List Int) (a_1 : Int) (a_2 : Int) (b : Int) : Option (Int × Int × Int × Int) := gbind (spec_l1Cur_pick L a_0 a_1 a_2 (wr .i64 (iadd (wr .i64 (imul 2 b)) 1))) fun r => gbind (spec_l1Cur_pick L a_0 r.2.1 r.2.2 (wr .i64 (iadd (wr .i64 (imul 2 b)) 1))) fun r1 => some ((wr .i64 (isub r.1 b), wr .i64 (isub r1.1 b), r1.2.1, r1.2.2))
def spec_l1Cur_surePeg_ok (L : Nat) (C : CF) : Prop := ∀ (oa_0 : Bool) (ca_0 : Bool) (x_a_0 : List AV) (a_0 : List Int) (_ : x_a_0 = List.map eU a_0) (a_1 : Int) (a_2 : Int) (b : Int), C 61 ([.ptr 0 0 0 3, .int .i64 b]) ([.box (.agg [.lst oa_0 ca_0 1 x_a_0, .int .i64 a_1, .int .u64 a_2])]) = Option.map (fun r : Int × Int × Int × Int => ((.agg [.int .i64 (r.1), .int .i64 (r.2.1)], [.box (.agg [.lst oa_0 ca_0 1 x_a_0, .int .i64 (r.2.2.1), .int .u64 (r.2.2.2)])]) : AV × List Blk)) (spec_l1Cur_surePeg L a_0 a_1 a_2 b)
theorem spec_l1Cur_surePeg_run (L : Nat) (C : CF) (h_spec_l1Cur_pick : spec_l1Cur_pick_ok L C) : spec_l1Cur_surePeg_ok L (fun _ => run T C sh (keep 61) L Tryz.f61) := by
 intro oa_0 ca_0 x_a_0 a_0 hx_a_0 a_1 a_2 b
 subst hx_a_0
 unfold spec_l1Cur_surePeg
 conv=>lhs;whnf
 refine t_call (h_spec_l1Cur_pick _ _ _ a_0 (by rfl) a_1 a_2 (wr .i64 (iadd (wr .i64 (imul 2 b)) 1))) fun r => ?_
 conv=>lhs;whnf
 refine t_call (h_spec_l1Cur_pick _ _ _ a_0 (by rfl) r.2.1 r.2.2 (wr .i64 (iadd (wr .i64 (imul 2 b)) 1))) fun r1 => ?_
 conv=>lhs;whnf
 exact t_ret (by rfl)
noncomputable def spec_l1In (L : Nat) (a : Int) (b : Int) (c : Int) : Option (Bool) := bif ile b a then (some (ile a c)) else (some false)
def spec_l1In_ok (L : Nat) (C : CF) : Prop := ∀ (a : Int) (b : Int) (c : Int), C 59 ([.int .i64 a, .int .i64 b, .int .i64 c]) ([]) = Option.map (fun r : Bool => ((.bool r, []) : AV × List Blk)) (spec_l1In L a b c)
theorem spec_l1In_run (L : Nat) (C : CF) : spec_l1In_ok L (fun _ => run T C sh (keep 59) L Tryz.f59) := by
 intro a b c
 unfold spec_l1In
 conv=>lhs;whnf
 refine t_cond ?_ ?_
 ·conv=>lhs;whnf
  exact t_ret (by rfl)
 ·conv=>lhs;whnf
  exact t_ret (by rfl)
noncomputable def spec_pgIs (L : Nat) (a_0 : Int) (a_1 : Int) : Option (Bool) := gbind (spec_l1In L a_0 (-40) 40) fun r => bif r then (gbind (spec_l1In L a_1 (-40) 40) fun r1 => some r1) else (some false)
def spec_pgIs_ok (L : Nat) (C : CF) : Prop := ∀ (a_0 : Int) (a_1 : Int), C 71 ([.agg [.int .i64 a_0, .int .i64 a_1]]) ([]) = Option.map (fun r : Bool => ((.bool r, []) : AV × List Blk)) (spec_pgIs L a_0 a_1)
theorem spec_pgIs_run (L : Nat) (C : CF) (h_spec_l1In : spec_l1In_ok L C) : spec_pgIs_ok L (fun _ => run T C sh (keep 71) L Tryz.f71) := by
 intro a_0 a_1
 unfold spec_pgIs
 conv=>lhs;whnf
 refine t_call (h_spec_l1In a_0 (-40) 40) fun r => ?_
 conv=>lhs;whnf
 refine t_cond ?_ ?_
 ·conv=>lhs;whnf
  refine t_call (h_spec_l1In a_1 (-40) 40) fun r1 => ?_
  conv=>lhs;whnf
  exact t_ret (by rfl)
 ·conv=>lhs;whnf
  exact t_ret (by rfl)
noncomputable def spec_pgTurn (L : Nat) (a_0 : Int) (a_1 : Int) (b_0 : Int) (b_1 : Int) (c_0 : Int) (c_1 : Int) : Option (Int) := some (wr .i64 (isub (wr .i64 (imul (wr .i64 (isub b_0 a_0)) (wr .i64 (isub c_1 a_1)))) (wr .i64 (imul (wr .i64 (isub b_1 a_1)) (wr .i64 (isub c_0 a_0))))))
def spec_pgTurn_ok (L : Nat) (C : CF) : Prop := ∀ (a_0 : Int) (a_1 : Int) (b_0 : Int) (b_1 : Int) (c_0 : Int) (c_1 : Int), C 72 ([.agg [.int .i64 a_0, .int .i64 a_1], .agg [.int .i64 b_0, .int .i64 b_1], .agg [.int .i64 c_0, .int .i64 c_1]]) ([]) = Option.map (fun r : Int => ((.int .i64 r, []) : AV × List Blk)) (spec_pgTurn L a_0 a_1 b_0 b_1 c_0 c_1)
theorem spec_pgTurn_run (L : Nat) (C : CF) : spec_pgTurn_ok L (fun _ => run T C sh (keep 72) L Tryz.f72) := by
 intro a_0 a_1 b_0 b_1 c_0 c_1
 unfold spec_pgTurn
 conv=>lhs;whnf
 exact t_ret (by rfl)
noncomputable def spec_pgOn (L : Nat) (a_0 : Int) (a_1 : Int) (b_0 : Int) (b_1 : Int) (c_0 : Int) (c_1 : Int) : Option (Bool) := gbind (spec_pgTurn L a_0 a_1 b_0 b_1 c_0 c_1) fun r => bif ieq r 0 then (bif ile (wr .i64 (imul (wr .i64 (isub a_0 c_0)) (wr .i64 (isub b_0 c_0)))) 0 then (some (ile (wr .i64 (imul (wr .i64 (isub a_1 c_1)) (wr .i64 (isub b_1 c_1)))) 0)) else (some false)) else (some false)
def spec_pgOn_ok (L : Nat) (C : CF) : Prop := ∀ (a_0 : Int) (a_1 : Int) (b_0 : Int) (b_1 : Int) (c_0 : Int) (c_1 : Int), C 101 ([.agg [.int .i64 a_0, .int .i64 a_1], .agg [.int .i64 b_0, .int .i64 b_1], .agg [.int .i64 c_0, .int .i64 c_1]]) ([]) = Option.map (fun r : Bool => ((.bool r, []) : AV × List Blk)) (spec_pgOn L a_0 a_1 b_0 b_1 c_0 c_1)
theorem spec_pgOn_run (L : Nat) (C : CF) (h_spec_pgTurn : spec_pgTurn_ok L C) : spec_pgOn_ok L (fun _ => run T C sh (keep 101) L Tryz.f101) := by
 intro a_0 a_1 b_0 b_1 c_0 c_1
 unfold spec_pgOn
 conv=>lhs;whnf
 refine t_call (h_spec_pgTurn a_0 a_1 b_0 b_1 c_0 c_1) fun r => ?_
 conv=>lhs;whnf
 refine t_cond ?_ ?_
 ·conv=>lhs;whnf
  refine t_cond ?_ ?_
  ·conv=>lhs;whnf
   exact t_ret (by rfl)
  ·conv=>lhs;whnf
   exact t_ret (by rfl)
 ·conv=>lhs;whnf
  exact t_ret (by rfl)
noncomputable def spec_l1Sign (L : Nat) (a : Int) : Option (Int) := bif ilt 0 a then (some 1) else (bif ilt a 0 then (some (-1)) else (some 0))
def spec_l1Sign_ok (L : Nat) (C : CF) : Prop := ∀ (a : Int), C 102 ([.int .i64 a]) ([]) = Option.map (fun r : Int => ((.int .i64 r, []) : AV × List Blk)) (spec_l1Sign L a)
theorem spec_l1Sign_run (L : Nat) (C : CF) : spec_l1Sign_ok L (fun _ => run T C sh (keep 102) L Tryz.f102) := by
 intro a
 unfold spec_l1Sign
 conv=>lhs;whnf
 refine t_cond ?_ ?_
 ·conv=>lhs;whnf
  exact t_ret (by rfl)
 ·conv=>lhs;whnf
  refine t_cond ?_ ?_
  ·conv=>lhs;whnf
   exact t_ret (by rfl)
  ·conv=>lhs;whnf
   exact t_ret (by rfl)
noncomputable def spec_pgMeet (L : Nat) (a_0 : Int) (a_1 : Int) (b_0 : Int) (b_1 : Int) (c_0 : Int) (c_1 : Int) (d_0 : Int) (d_1 : Int) : Option (Bool) := gbind (spec_pgOn L a_0 a_1 b_0 b_1 c_0 c_1) fun r => bif r then (some true) else (gbind (spec_pgOn L a_0 a_1 b_0 b_1 d_0 d_1) fun r1 => bif r1 then (some true) else (gbind (spec_pgOn L c_0 c_1 d_0 d_1 a_0 a_1) fun r2 => bif r2 then (some true) else (gbind (spec_pgOn L c_0 c_1 d_0 d_1 b_0 b_1) fun r3 => bif r3 then (some true) else (gbind (spec_pgTurn L a_0 a_1 b_0 b_1 c_0 c_1) fun r4 => gbind (spec_l1Sign L r4) fun r5 => gbind (spec_pgTurn L a_0 a_1 b_0 b_1 d_0 d_1) fun r6 => gbind (spec_l1Sign L r6) fun r7 => bif ilt (wr .i64 (imul r5 r7)) 0 then (gbind (spec_pgTurn L c_0 c_1 d_0 d_1 a_0 a_1) fun r8 => gbind (spec_l1Sign L r8) fun r9 => gbind (spec_pgTurn L c_0 c_1 d_0 d_1 b_0 b_1) fun r10 => gbind (spec_l1Sign L r10) fun r11 => some (ilt (wr .i64 (imul r9 r11)) 0)) else (some false)))))
def spec_pgMeet_ok (L : Nat) (C : CF) : Prop := ∀ (a_0 : Int) (a_1 : Int) (b_0 : Int) (b_1 : Int) (c_0 : Int) (c_1 : Int) (d_0 : Int) (d_1 : Int), C 73 ([.agg [.int .i64 a_0, .int .i64 a_1], .agg [.int .i64 b_0, .int .i64 b_1], .agg [.int .i64 c_0, .int .i64 c_1], .agg [.int .i64 d_0, .int .i64 d_1]]) ([]) = Option.map (fun r : Bool => ((.bool r, []) : AV × List Blk)) (spec_pgMeet L a_0 a_1 b_0 b_1 c_0 c_1 d_0 d_1)
theorem spec_pgMeet_run (L : Nat) (C : CF) (h_spec_pgTurn : spec_pgTurn_ok L C) (h_spec_pgOn : spec_pgOn_ok L C) (h_spec_l1Sign : spec_l1Sign_ok L C) : spec_pgMeet_ok L (fun _ => run T C sh (keep 73) L Tryz.f73) := by
 intro a_0 a_1 b_0 b_1 c_0 c_1 d_0 d_1
 unfold spec_pgMeet
 conv=>lhs;whnf
 refine t_call (h_spec_pgOn a_0 a_1 b_0 b_1 c_0 c_1) fun r => ?_
 conv=>lhs;whnf
 refine t_cond ?_ ?_
 ·conv=>lhs;whnf
  exact t_ret (by rfl)
 ·conv=>lhs;whnf
  refine t_call (h_spec_pgOn a_0 a_1 b_0 b_1 d_0 d_1) fun r1 => ?_
  conv=>lhs;whnf
  refine t_cond ?_ ?_
  ·conv=>lhs;whnf
   exact t_ret (by rfl)
  ·conv=>lhs;whnf
   refine t_call (h_spec_pgOn c_0 c_1 d_0 d_1 a_0 a_1) fun r2 => ?_
   conv=>lhs;whnf
   refine t_cond ?_ ?_
   ·conv=>lhs;whnf
    exact t_ret (by rfl)
   ·conv=>lhs;whnf
    refine t_call (h_spec_pgOn c_0 c_1 d_0 d_1 b_0 b_1) fun r3 => ?_
    conv=>lhs;whnf
    refine t_cond ?_ ?_
    ·conv=>lhs;whnf
     exact t_ret (by rfl)
    ·conv=>lhs;whnf
     refine t_call (h_spec_pgTurn a_0 a_1 b_0 b_1 c_0 c_1) fun r4 => ?_
     conv=>lhs;whnf
     refine t_call (h_spec_l1Sign r4) fun r5 => ?_
     conv=>lhs;whnf
     refine t_call (h_spec_pgTurn a_0 a_1 b_0 b_1 d_0 d_1) fun r6 => ?_
     conv=>lhs;whnf
     refine t_call (h_spec_l1Sign r6) fun r7 => ?_
     conv=>lhs;whnf
     refine t_cond ?_ ?_
     ·conv=>lhs;whnf
      refine t_call (h_spec_pgTurn c_0 c_1 d_0 d_1 a_0 a_1) fun r8 => ?_
      conv=>lhs;whnf
      refine t_call (h_spec_l1Sign r8) fun r9 => ?_
      conv=>lhs;whnf
      refine t_call (h_spec_pgTurn c_0 c_1 d_0 d_1 b_0 b_1) fun r10 => ?_
      conv=>lhs;whnf
      refine t_call (h_spec_l1Sign r10) fun r11 => ?_
      conv=>lhs;whnf
      exact t_ret (by rfl)
     ·conv=>lhs;whnf
      exact t_ret (by rfl)
noncomputable def spec_pgGood_l1 (L : Nat) (κ0 : (List Pt) → Int → (List Pt) → Int → Int → Option Bool) (v0 : List Pt) (v3 : Int) (v17 : List Pt) (v18 : Int) (v19 : Int) (p : Pt) : Nat → Int → Option Bool
  | 0, _ => none
  | m1 + 1, v31 => bif ilt v31 (ilen (lsub (List.map ep v0) 0 v19)) then (gbind (lget (lsub v0 0 v19) v31) fun p1 => bif ieq p.x p1.x && ieq p.y p1.y then (some false) else (spec_pgGood_l1 L κ0 v0 v3 v17 v18 v19 p m1 (wr .i64 (iadd v31 1)))) else (κ0 v0 v3 v17 v18 (wr .i64 (iadd v19 1)))
noncomputable def spec_pgGood_l3 (L : Nat) (κ1 : (List Pt) → Int → (List Pt) → Int → Int → Option Bool) (v01 : List Pt) (v32 : Int) (v40 : List Pt) (v41 : Int) (v42 : Int) (p2 : Pt) (p3 : Pt) : Nat → Int → Option Bool
  | 0, _ => none
  | m3 + 1, v11 => bif ilt v11 v32 then (bif ilt (wr .i64 (isub v11 v42)) (wr .i64 (isub v32 1)) then (gbind (lget v01 v11) fun p5 => bif ieq v32 0 then (none) else (gbind (lget v01 (irem (wr .i64 (iadd v11 1)) v32)) fun p6 => gbind (spec_pgMeet L p2.x p2.y p3.x p3.y p5.x p5.y p6.x p6.y) fun r3 => bif r3 then (some false) else (spec_pgGood_l3 L κ1 v01 v32 v40 v41 v42 p2 p3 m3 (wr .i64 (iadd v11 1))))) else (κ1 v01 v32 v40 v41 (wr .i64 (iadd v42 1)))) else (κ1 v01 v32 v40 v41 (wr .i64 (iadd v42 1)))
noncomputable def spec_pgGood_l2 (L : Nat) : Nat → (List Pt) → Int → (List Pt) → Int → Int → Option Bool
  | 0, _, _, _, _, _ => none
  | m2 + 1, v01, v32, v40, v41, v42 => bif ilt v42 v41 then (gbind (lget v40 v42) fun p2 => bif ieq v32 0 then (none) else (gbind (lget v01 (irem (wr .i64 (iadd v42 1)) v32)) fun p3 => bif ieq v32 0 then (none) else (gbind (lget v01 (irem (wr .i64 (iadd v42 2)) v32)) fun p4 => gbind (spec_pgTurn L p2.x p2.y p3.x p3.y p4.x p4.y) fun r2 => bif ieq r2 0 then (some false) else (spec_pgGood_l3 L (spec_pgGood_l2 L m2) v01 v32 v40 v41 v42 p2 p3 L (wr .i64 (iadd v42 2)))))) else (some true)
noncomputable def spec_pgGood_l0 (L : Nat) : Nat → (List Pt) → Int → (List Pt) → Int → Int → Option Bool
  | 0, _, _, _, _, _ => none
  | m + 1, v0, v3, v17, v18, v19 => bif ilt v19 v18 then (gbind (lget v17 v19) fun p => gbind (spec_pgIs L p.x p.y) fun r1 => bif !r1 then (some false) else (bif ile 0 v19 && ile v19 (ilen (List.map ep v0)) then (spec_pgGood_l1 L (spec_pgGood_l0 L m) v0 v3 v17 v18 v19 p L 0) else (none))) else (spec_pgGood_l2 L L v0 v3 v0 (ilen (List.map ep v0)) 0)
noncomputable def spec_pgGood (L : Nat) (a : List Pt) : Option (Bool) := gbind (spec_l1In L (ilen (List.map ep a)) 3 10) fun r => bif !r then (some false) else (spec_pgGood_l0 L L a (ilen (List.map ep a)) a (ilen (List.map ep a)) 0)
def spec_pgGood_ok (L : Nat) (C : CF) : Prop := ∀ (oa : Bool) (ca : Bool) (x_a : List AV) (a : List Pt) (_ : x_a = List.map ep a), C 34 ([.lst oa ca 2 x_a]) ([]) = Option.map (fun r : Bool => ((.bool r, []) : AV × List Blk)) (spec_pgGood L a)
theorem spec_pgGood_run (L : Nat) (C : CF) (h_spec_l1In : spec_l1In_ok L C) (h_spec_pgIs : spec_pgIs_ok L C) (h_spec_pgTurn : spec_pgTurn_ok L C) (h_spec_pgMeet : spec_pgMeet_ok L C) : spec_pgGood_ok L (fun _ => run T C sh (keep 34) L Tryz.f34) := by
 intro oa ca x_a a hx_a
 subst hx_a
 unfold spec_pgGood
 conv=>lhs;whnf
 refine t_call (h_spec_l1In (ilen (List.map ep a)) 3 10) fun r => ?_
 conv=>lhs;whnf
 refine t_cond ?_ ?_
 ·conv=>lhs;whnf
  exact t_ret (by rfl)
 ·conv=>lhs;whnf
  refine t_loop (fun (⟨v0, v3, v17, v18, v19⟩ : (List Pt) × Int × (List Pt) × Int × Int) => (AV.lst oa ca 2 (List.map ep v0) :: topA 2 (AV.int .i64 v3 :: topA 13 (AV.lst oa ca 2 (List.map ep v17) :: AV.int .i64 v18 :: AV.int .i64 v19 :: tops 75)), [])) (fun m (⟨v0, v3, v17, v18, v19⟩ : (List Pt) × Int × (List Pt) × Int × Int) => spec_pgGood_l0 L m v0 v3 v17 v18 v19) (fun _ => rfl) (fun m s rec hrec => ?_) L ((a, ilen (List.map ep a), a, ilen (List.map ep a), 0)) ?_ ?_
  rotate_left
  ·rfl
  ·rfl
  obtain ⟨v0, v3, v17, v18, v19⟩ := s
  show _ = Option.map _ (spec_pgGood_l0 L (m + 1) v0 v3 v17 v18 v19)
  rw [spec_pgGood_l0.eq_2]
  conv=>lhs;whnf
  refine t_cond ?_ ?_
  ·conv=>lhs;whnf
   refine t_get (en := ep) (l := v17) (by rfl) fun p => ?_
   conv=>lhs;whnf
   refine t_call (h_spec_pgIs p.x p.y) fun r1 => ?_
   conv=>lhs;whnf
   refine t_cond ?_ ?_
   ·conv=>lhs;whnf
    exact t_ret (by rfl)
   ·conv=>lhs;whnf
    refine t_cond ?_ ?_
    ·conv=>lhs;whnf
     refine t_loop (fun (v31 : Int) => (AV.lst oa ca 2 (List.map ep v0) :: topA 2 (AV.int .i64 v3 :: AV.top :: AV.ptr 0 0 0 2 :: topA 11 (AV.lst oa ca 2 (List.map ep v17) :: AV.int .i64 v18 :: AV.int .i64 v19 :: topA 9 (AV.lst oa false 2 (lsub (List.map ep v0) 0 v19) :: AV.int .i64 (ilen (lsub (List.map ep v0) 0 v19)) :: AV.int .i64 v31 :: tops 63))), [Blk.box (AV.agg [AV.int .i64 p.x, AV.int .i64 p.y])])) (fun m1 (v31 : Int) => spec_pgGood_l1 L (spec_pgGood_l0 L m) v0 v3 v17 v18 v19 p m1 v31) (fun _ => rfl) (fun m1 v31 rec1 hrec1 => ?_) L 0 ?_ ?_
     rotate_left
     ·rfl
     ·rfl
     show _ = Option.map _ (spec_pgGood_l1 L (spec_pgGood_l0 L m) v0 v3 v17 v18 v19 p (m1 + 1) v31)
     rw [spec_pgGood_l1.eq_2]
     conv=>lhs;whnf
     refine t_cond ?_ ?_
     ·conv=>lhs;whnf
      refine t_get (en := ep) (l := lsub v0 0 v19) (by first | rfl | simp only [ml] <;> rfl) fun p1 => ?_
      conv=>lhs;whnf
      refine t_cond ?_ ?_
      ·conv=>lhs;whnf
       exact t_ret (by rfl)
      ·conv=>lhs;whnf
       exact hrec1 (wr .i64 (iadd v31 1)) _ _ (by rfl) (by rfl)
     ·conv=>lhs;whnf
      exact hrec ((v0, v3, v17, v18, wr .i64 (iadd v19 1))) _ _ (by rfl) (by rfl)
    ·conv=>lhs;whnf
     exact t_none
  ·conv=>lhs;whnf
   refine t_loop (fun (⟨v01, v32, v40, v41, v42⟩ : (List Pt) × Int × (List Pt) × Int × Int) => (AV.lst oa ca 2 (List.map ep v01) :: topA 2 (AV.int .i64 v32 :: topA 36 (AV.lst oa ca 2 (List.map ep v40) :: AV.int .i64 v41 :: AV.int .i64 v42 :: tops 52)), [])) (fun m2 (⟨v01, v32, v40, v41, v42⟩ : (List Pt) × Int × (List Pt) × Int × Int) => spec_pgGood_l2 L m2 v01 v32 v40 v41 v42) (fun _ => rfl) (fun m2 s2 rec2 hrec2 => ?_) L ((v0, v3, v0, ilen (List.map ep v0), 0)) ?_ ?_
   rotate_left
   ·rfl
   ·rfl
   obtain ⟨v01, v32, v40, v41, v42⟩ := s2
   show _ = Option.map _ (spec_pgGood_l2 L (m2 + 1) v01 v32 v40 v41 v42)
   rw [spec_pgGood_l2.eq_2]
   conv=>lhs;whnf
   refine t_cond ?_ ?_
   ·conv=>lhs;whnf
    refine t_get (en := ep) (l := v40) (by rfl) fun p2 => ?_
    conv=>lhs;whnf
    refine t_cond ?_ ?_
    ·conv=>lhs;whnf
     exact t_none
    ·conv=>lhs;whnf
     refine t_get (en := ep) (l := v01) (by rfl) fun p3 => ?_
     conv=>lhs;whnf
     refine t_cond ?_ ?_
     ·conv=>lhs;whnf
      exact t_none
     ·conv=>lhs;whnf
      refine t_get (en := ep) (l := v01) (by rfl) fun p4 => ?_
      conv=>lhs;whnf
      refine t_call (h_spec_pgTurn p2.x p2.y p3.x p3.y p4.x p4.y) fun r2 => ?_
      conv=>lhs;whnf
      refine t_cond ?_ ?_
      ·conv=>lhs;whnf
       exact t_ret (by rfl)
      ·conv=>lhs;whnf
       refine t_loop (fun (v11 : Int) => (AV.lst oa ca 2 (List.map ep v01) :: topA 2 (AV.int .i64 v32 :: topA 4 (AV.int .i64 v42 :: AV.ptr 0 0 0 2 :: AV.ptr 1 0 0 2 :: AV.int .i64 v11 :: topA 28 (AV.lst oa ca 2 (List.map ep v40) :: AV.int .i64 v41 :: AV.int .i64 v42 :: tops 52))), [Blk.box (AV.agg [AV.int .i64 p2.x, AV.int .i64 p2.y]), Blk.box (AV.agg [AV.int .i64 p3.x, AV.int .i64 p3.y])])) (fun m3 (v11 : Int) => spec_pgGood_l3 L (spec_pgGood_l2 L m2) v01 v32 v40 v41 v42 p2 p3 m3 v11) (fun _ => rfl) (fun m3 v11 rec3 hrec3 => ?_) L (wr .i64 (iadd v42 2)) ?_ ?_
       rotate_left
       ·rfl
       ·rfl
       show _ = Option.map _ (spec_pgGood_l3 L (spec_pgGood_l2 L m2) v01 v32 v40 v41 v42 p2 p3 (m3 + 1) v11)
       rw [spec_pgGood_l3.eq_2]
       conv=>lhs;whnf
       refine t_cond ?_ ?_
       ·conv=>lhs;whnf
        refine t_cond ?_ ?_
        ·conv=>lhs;whnf
         refine t_get (en := ep) (l := v01) (by rfl) fun p5 => ?_
         conv=>lhs;whnf
         refine t_cond ?_ ?_
         ·conv=>lhs;whnf
          exact t_none
         ·conv=>lhs;whnf
          refine t_get (en := ep) (l := v01) (by rfl) fun p6 => ?_
          conv=>lhs;whnf
          refine t_call (h_spec_pgMeet p2.x p2.y p3.x p3.y p5.x p5.y p6.x p6.y) fun r3 => ?_
          conv=>lhs;whnf
          refine t_cond ?_ ?_
          ·conv=>lhs;whnf
           exact t_ret (by rfl)
          ·conv=>lhs;whnf
           exact hrec3 (wr .i64 (iadd v11 1)) _ _ (by rfl) (by rfl)
        ·conv=>lhs;whnf
         exact hrec2 ((v01, v32, v40, v41, wr .i64 (iadd v42 1))) _ _ (by rfl) (by rfl)
       ·conv=>lhs;whnf
        exact hrec2 ((v01, v32, v40, v41, wr .i64 (iadd v42 1))) _ _ (by rfl) (by rfl)
   ·conv=>lhs;whnf
    exact t_ret (by rfl)
noncomputable def spec_pgBack_l0 (L : Nat) (a : List Pt) : Nat → Int → (List Pt) → Option ((List Pt))
  | 0, _, _ => none
  | m + 1, v4, w0 => bif ilt 0 v4 then (gbind (lget a v4) fun p1 => bif fits (iadd (ilen (List.map ep w0)) (ilen [AV.agg [AV.int .i64 p1.x, AV.int .i64 p1.y]])) 16 then (spec_pgBack_l0 L a m (wr .i64 (isub v4 1)) (lcat w0 (p1 :: []))) else (none)) else (some w0)
noncomputable def spec_pgBack (L : Nat) (a : List Pt) : Option ((List Pt)) := gbind (lget a 0) fun p => spec_pgBack_l0 L a L (wr .i64 (isub (ilen (List.map ep a)) 1)) (p :: [])
def spec_pgBack_ok (L : Nat) (C : CF) : Prop := ∀ (oa : Bool) (ca : Bool) (x_a : List AV) (a : List Pt) (_ : x_a = List.map ep a), C 94 ([.lst oa ca 2 x_a]) ([]) = Option.map (fun r : (List Pt) => ((.frs 2 (List.map ep r), []) : AV × List Blk)) (spec_pgBack L a)
theorem spec_pgBack_run (L : Nat) (C : CF) : spec_pgBack_ok L (fun _ => run T C sh (keep 94) L Tryz.f94) := by
 intro oa ca x_a a hx_a
 subst hx_a
 unfold spec_pgBack
 conv=>lhs;whnf
 refine t_get (en := ep) (l := a) (by rfl) fun p => ?_
 conv=>lhs;whnf
 refine t_loop (fun (⟨v4, w0⟩ : Int × (List Pt)) => (AV.lst oa ca 2 (List.map ep a) :: topA 2 (AV.own 0 2 none false :: AV.int .i64 v4 :: tops 19), [Blk.rows Mode.live 2 (List.map ep w0)])) (fun m (⟨v4, w0⟩ : Int × (List Pt)) => spec_pgBack_l0 L a m v4 w0) (fun _ => rfl) (fun m s rec hrec => ?_) L ((wr .i64 (isub (ilen (List.map ep a)) 1), p :: [])) ?_ ?_
 rotate_left
 ·rfl
 ·rfl
 obtain ⟨v4, w0⟩ := s
 show _ = Option.map _ (spec_pgBack_l0 L a (m + 1) v4 w0)
 rw [spec_pgBack_l0.eq_2]
 conv=>lhs;whnf
 refine t_cond ?_ ?_
 ·conv=>lhs;whnf
  refine t_get (en := ep) (l := a) (by rfl) fun p1 => ?_
  conv=>lhs;whnf
  refine t_cond ?_ ?_
  ·conv=>lhs;whnf
   exact hrec ((wr .i64 (isub v4 1), lcat w0 (p1 :: []))) _ _ (by rfl) (by first | rfl | simp only [ml] <;> rfl)
  ·conv=>lhs;whnf
   exact t_none
 ·conv=>lhs;whnf
  exact t_ret (by rfl)
noncomputable def spec_l1Cur_surePolygon_l0 (L : Nat) (a_0 : List Int) (b : Int) : Nat → Int → Int → Int → (List Pt) → Option ((List Pt) × Int × Int)
  | 0, _, _, _, _ => none
  | m + 1, v8, b0_1, b0_2, w1 => bif ilt 0 v8 then (gbind (spec_l1Cur_pick L a_0 b0_1 b0_2 (ilen (List.map ep w1))) fun r4 => bif ile 0 (wr .i64 (iadd 1 r4.1)) && ile (wr .i64 (iadd 1 r4.1)) (ilen (List.map ep w1)) then (bif fits (iadd (ilen ([] : List AV)) (ilen (lsub (List.map ep w1) 0 (iadd 0 (wr .i64 (iadd 1 r4.1)))))) 16 then (gbind (spec_l1Cur_surePeg L a_0 r4.2.1 r4.2.2 b) fun r5 => bif fits (iadd (ilen (lcat [] (lsub (List.map ep w1) 0 (iadd 0 (wr .i64 (iadd 1 r4.1)))))) (ilen [AV.agg [AV.int .i64 r5.1, AV.int .i64 r5.2.1]])) 16 then (bif ile 0 (wr .i64 (iadd 1 r4.1)) && ile (wr .i64 (iadd 1 r4.1)) (ilen (List.map ep w1)) then (bif fits (iadd (ilen (lcat (lcat [] (lsub (List.map ep w1) 0 (iadd 0 (wr .i64 (iadd 1 r4.1))))) [AV.agg [AV.int .i64 r5.1, AV.int .i64 r5.2.1]])) (ilen (lsub (List.map ep w1) (wr .i64 (iadd 1 r4.1)) (iadd (wr .i64 (iadd 1 r4.1)) (isub (ilen (List.map ep w1)) (wr .i64 (iadd 1 r4.1))))))) 16 then (gbind (spec_pgGood L (lcat (lcat (lcat [] (lsub w1 0 (iadd 0 (wr .i64 (iadd 1 r4.1))))) ({ x := r5.1, y := r5.2.1 } :: [])) (lsub w1 (wr .i64 (iadd 1 r4.1)) (iadd (wr .i64 (iadd 1 r4.1)) (isub (ilen (List.map ep w1)) (wr .i64 (iadd 1 r4.1))))))) fun r6 => bif r6 then (spec_l1Cur_surePolygon_l0 L a_0 b m (wr .i64 (isub v8 1)) r5.2.2.1 r5.2.2.2 (lcat (lcat (lcat [] (lsub w1 0 (iadd 0 (wr .i64 (iadd 1 r4.1))))) ({ x := r5.1, y := r5.2.1 } :: [])) (lsub w1 (wr .i64 (iadd 1 r4.1)) (iadd (wr .i64 (iadd 1 r4.1)) (isub (ilen (List.map ep w1)) (wr .i64 (iadd 1 r4.1))))))) else (spec_l1Cur_surePolygon_l0 L a_0 b m (wr .i64 (isub v8 1)) r5.2.2.1 r5.2.2.2 w1)) else (none)) else (none)) else (none)) else (none)) else (none)) else (gbind (spec_l1Cur_one L a_0 b0_1 b0_2 3) fun r7 => bif r7.1 then (gbind (spec_pgBack L w1) fun r8 => some ((r8, r7.2.1, r7.2.2))) else (some ((w1, r7.2.1, r7.2.2))))
noncomputable def spec_l1Cur_surePolygon (L : Nat) (a_0 : List Int) (a_1 : Int) (a_2 : Int) (b : Int) (c : Int) : Option ((List Pt) × Int × Int) := gbind (spec_l1Cur_pick L a_0 a_1 a_2 b) fun r => gbind (spec_l1Cur_pick L a_0 r.2.1 r.2.2 (wr .i64 (iadd b 1))) fun r1 => gbind (spec_l1Cur_pick L a_0 r1.2.1 r1.2.2 b) fun r2 => gbind (spec_l1Cur_pick L a_0 r2.2.1 r2.2.2 (wr .i64 (isub c 1))) fun r3 => spec_l1Cur_surePolygon_l0 L a_0 b L r3.1 r3.2.1 r3.2.2 ({ x := 0, y := 0 } :: ({ x := wr .i64 (iadd 1 r.1), y := 0 } :: ({ x := r1.1, y := wr .i64 (iadd 1 r2.1) } :: [])))
def spec_l1Cur_surePolygon_ok (L : Nat) (C : CF) : Prop := ∀ (oa_0 : Bool) (ca_0 : Bool) (x_a_0 : List AV) (a_0 : List Int) (_ : x_a_0 = List.map eU a_0) (a_1 : Int) (a_2 : Int) (b : Int) (c : Int), C 62 ([.ptr 0 0 0 3, .int .i64 b, .int .i64 c]) ([.box (.agg [.lst oa_0 ca_0 1 x_a_0, .int .i64 a_1, .int .u64 a_2])]) = Option.map (fun r : (List Pt) × Int × Int => ((.frs 2 (List.map ep (r.1)), [.box (.agg [.lst oa_0 ca_0 1 x_a_0, .int .i64 (r.2.1), .int .u64 (r.2.2)])]) : AV × List Blk)) (spec_l1Cur_surePolygon L a_0 a_1 a_2 b c)
theorem spec_l1Cur_surePolygon_run (L : Nat) (C : CF) (h_spec_l1Cur_pick : spec_l1Cur_pick_ok L C) (h_spec_l1Cur_one : spec_l1Cur_one_ok L C) (h_spec_l1Cur_surePeg : spec_l1Cur_surePeg_ok L C) (h_spec_pgGood : spec_pgGood_ok L C) (h_spec_pgBack : spec_pgBack_ok L C) : spec_l1Cur_surePolygon_ok L (fun _ => run T C sh (keep 62) L Tryz.f62) := by
 intro oa_0 ca_0 x_a_0 a_0 hx_a_0 a_1 a_2 b c
 subst hx_a_0
 unfold spec_l1Cur_surePolygon
 conv=>lhs;whnf
 refine t_call (h_spec_l1Cur_pick _ _ _ a_0 (by rfl) a_1 a_2 b) fun r => ?_
 conv=>lhs;whnf
 refine t_call (h_spec_l1Cur_pick _ _ _ a_0 (by rfl) r.2.1 r.2.2 (wr .i64 (iadd b 1))) fun r1 => ?_
 conv=>lhs;whnf
 refine t_call (h_spec_l1Cur_pick _ _ _ a_0 (by rfl) r1.2.1 r1.2.2 b) fun r2 => ?_
 conv=>lhs;whnf
 refine t_call (h_spec_l1Cur_pick _ _ _ a_0 (by rfl) r2.2.1 r2.2.2 (wr .i64 (isub c 1))) fun r3 => ?_
 conv=>lhs;whnf
 refine t_loop (fun (⟨v8, b0_1, b0_2, w1⟩ : Int × Int × Int × (List Pt)) => (AV.ptr 0 0 0 3 :: AV.int .i64 b :: topA 5 (AV.own 1 2 none false :: AV.int .i64 v8 :: tops 54), [Blk.box (AV.agg [AV.lst oa_0 ca_0 1 (List.map eU a_0), AV.int .i64 b0_1, AV.int IntKind.u64 b0_2]), Blk.rows Mode.live 2 (List.map ep w1)])) (fun m (⟨v8, b0_1, b0_2, w1⟩ : Int × Int × Int × (List Pt)) => spec_l1Cur_surePolygon_l0 L a_0 b m v8 b0_1 b0_2 w1) (fun _ => rfl) (fun m s rec hrec => ?_) L ((r3.1, r3.2.1, r3.2.2, { x := 0, y := 0 } :: ({ x := wr .i64 (iadd 1 r.1), y := 0 } :: ({ x := r1.1, y := wr .i64 (iadd 1 r2.1) } :: [])))) ?_ ?_
 rotate_left
 ·rfl
 ·rfl
 obtain ⟨v8, b0_1, b0_2, w1⟩ := s
 show _ = Option.map _ (spec_l1Cur_surePolygon_l0 L a_0 b (m + 1) v8 b0_1 b0_2 w1)
 rw [spec_l1Cur_surePolygon_l0.eq_2]
 conv=>lhs;whnf
 refine t_cond ?_ ?_
 ·conv=>lhs;whnf
  refine t_call (h_spec_l1Cur_pick _ _ _ a_0 (by rfl) b0_1 b0_2 (ilen (List.map ep w1))) fun r4 => ?_
  conv=>lhs;whnf
  refine t_cond ?_ ?_
  ·conv=>lhs;whnf
   refine t_cond ?_ ?_
   ·conv=>lhs;whnf
    refine t_call (h_spec_l1Cur_surePeg _ _ _ a_0 (by rfl) r4.2.1 r4.2.2 b) fun r5 => ?_
    conv=>lhs;whnf
    refine t_cond ?_ ?_
    ·conv=>lhs;whnf
     refine t_cond ?_ ?_
     ·conv=>lhs;whnf
      refine t_cond ?_ ?_
      ·conv=>lhs;whnf
       refine t_call (h_spec_pgGood _ _ _ (lcat (lcat (lcat [] (lsub w1 0 (iadd 0 (wr .i64 (iadd 1 r4.1))))) ({ x := r5.1, y := r5.2.1 } :: [])) (lsub w1 (wr .i64 (iadd 1 r4.1)) (iadd (wr .i64 (iadd 1 r4.1)) (isub (ilen (List.map ep w1)) (wr .i64 (iadd 1 r4.1)))))) (by first | rfl | simp only [ml] <;> rfl)) fun r6 => ?_
       conv=>lhs;whnf
       refine t_cond ?_ ?_
       ·conv=>lhs;whnf
        exact hrec ((wr .i64 (isub v8 1), r5.2.2.1, r5.2.2.2, lcat (lcat (lcat [] (lsub w1 0 (iadd 0 (wr .i64 (iadd 1 r4.1))))) ({ x := r5.1, y := r5.2.1 } :: [])) (lsub w1 (wr .i64 (iadd 1 r4.1)) (iadd (wr .i64 (iadd 1 r4.1)) (isub (ilen (List.map ep w1)) (wr .i64 (iadd 1 r4.1))))))) _ _ (by rfl) (by first | rfl | simp only [ml] <;> rfl)
       ·conv=>lhs;whnf
        exact hrec ((wr .i64 (isub v8 1), r5.2.2.1, r5.2.2.2, w1)) _ _ (by rfl) (by rfl)
      ·conv=>lhs;whnf
       exact t_none
     ·conv=>lhs;whnf
      exact t_none
    ·conv=>lhs;whnf
     exact t_none
   ·conv=>lhs;whnf
    exact t_none
  ·conv=>lhs;whnf
   exact t_none
 ·conv=>lhs;whnf
  refine t_call (h_spec_l1Cur_one _ _ _ a_0 (by rfl) b0_1 b0_2 3) fun r7 => ?_
  conv=>lhs;whnf
  refine t_cond ?_ ?_
  ·conv=>lhs;whnf
   refine t_call (h_spec_pgBack _ _ _ w1 (by rfl)) fun r8 => ?_
   conv=>lhs;whnf
   exact t_ret (by rfl)
  ·conv=>lhs;whnf
   exact t_ret (by rfl)
noncomputable def spec_l1Cur_among_v2 (L : Nat) (b0_0 : List Int) (b0_1 : Int) (b0_2 : Int) (w1 : List Int) : Option (Int × Int × Int × (List Int)) := gbind (spec_l1Cur_pick L b0_0 b0_1 b0_2 (ilen (List.map eI w1))) fun r => bif ile 0 r.1 && ilt r.1 (ilen (List.map eI w1)) then (gbind (lget w1 r.1) fun p => some ((p, r.2.1, r.2.2, w1))) else (none)
def spec_l1Cur_among_v2_ok (L : Nat) (C : CF) : Prop := ∀ (ob0_0 : Bool) (cb0_0 : Bool) (x_b0_0 : List AV) (b0_0 : List Int) (_ : x_b0_0 = List.map eU b0_0) (b0_1 : Int) (b0_2 : Int) (x_w1 : List AV) (w1 : List Int) (_ : x_w1 = List.map eI w1), C 58 ([(.ptr 0 0 0 3), (.own 1 1 none false)]) ([.box (.agg [(.lst ob0_0 cb0_0 1 x_b0_0), (.int .i64 b0_1), (.int .u64 b0_2)]), .rows .live 1 x_w1]) = Option.map (fun r : Int × Int × Int × (List Int) => ((.int .i64 (r.1), [.box (.agg [(.lst ob0_0 cb0_0 1 x_b0_0), (.int .i64 (r.2.1)), (.int .u64 (r.2.2.1))]), .rows .live 1 (List.map eI (r.2.2.2))]) : AV × List Blk)) (spec_l1Cur_among_v2 L b0_0 b0_1 b0_2 w1)
theorem spec_l1Cur_among_v2_run (L : Nat) (C : CF) (h_spec_l1Cur_pick : spec_l1Cur_pick_ok L C) : spec_l1Cur_among_v2_ok L (fun _ => run T C sh (keep 58) L Tryz.f58) := by
 intro ob0_0 cb0_0 x_b0_0 b0_0 hx_b0_0 b0_1 b0_2 x_w1 w1 hx_w1
 subst hx_b0_0
 subst hx_w1
 unfold spec_l1Cur_among_v2
 conv=>lhs;whnf
 refine t_call (h_spec_l1Cur_pick _ _ _ b0_0 (by rfl) b0_1 b0_2 (ilen (List.map eI w1))) fun r => ?_
 conv=>lhs;whnf
 refine t_cond ?_ ?_
 ·conv=>lhs;whnf
  refine t_get (en := eI) (l := w1) (by rfl) fun p => ?_
  conv=>lhs;whnf
  exact t_ret (by rfl)
 ·conv=>lhs;whnf
  exact t_none
noncomputable def spec_l1Cur_peg (L : Nat) (a_0 : List Int) (a_1 : Int) (a_2 : Int) : Option (Int × Int × Int × Int) := gbind (spec_l1Cur_one L a_0 a_1 a_2 12) fun r => bif r.1 then (gbind (spec_l1Cur_among_v2 L a_0 r.2.1 r.2.2 (0 :: (40 :: (-40 :: (41 :: (4611686018427387904 :: [])))))) fun r1 => gbind (spec_l1Cur_among_v2 L a_0 r1.2.1 r1.2.2.1 (0 :: (1 :: (40 :: (-41 :: (-9223372036854775808 :: [])))))) fun r2 => some ((r1.1, r2.1, r2.2.1, r2.2.2.1))) else (gbind (spec_l1Cur_surePeg L a_0 r.2.1 r.2.2 6) fun r3 => some ((r3.1, r3.2.1, r3.2.2.1, r3.2.2.2)))
def spec_l1Cur_peg_ok (L : Nat) (C : CF) : Prop := ∀ (oa_0 : Bool) (ca_0 : Bool) (x_a_0 : List AV) (a_0 : List Int) (_ : x_a_0 = List.map eU a_0) (a_1 : Int) (a_2 : Int), C 63 ([.ptr 0 0 0 3]) ([.box (.agg [.lst oa_0 ca_0 1 x_a_0, .int .i64 a_1, .int .u64 a_2])]) = Option.map (fun r : Int × Int × Int × Int => ((.agg [.int .i64 (r.1), .int .i64 (r.2.1)], [.box (.agg [.lst oa_0 ca_0 1 x_a_0, .int .i64 (r.2.2.1), .int .u64 (r.2.2.2)])]) : AV × List Blk)) (spec_l1Cur_peg L a_0 a_1 a_2)
theorem spec_l1Cur_peg_run (L : Nat) (C : CF) (h_spec_l1Cur_one : spec_l1Cur_one_ok L C) (h_spec_l1Cur_surePeg : spec_l1Cur_surePeg_ok L C) (h_spec_l1Cur_among_v2 : spec_l1Cur_among_v2_ok L C) : spec_l1Cur_peg_ok L (fun _ => run T C sh (keep 63) L Tryz.f63) := by
 intro oa_0 ca_0 x_a_0 a_0 hx_a_0 a_1 a_2
 subst hx_a_0
 unfold spec_l1Cur_peg
 conv=>lhs;whnf
 refine t_call (h_spec_l1Cur_one _ _ _ a_0 (by rfl) a_1 a_2 12) fun r => ?_
 conv=>lhs;whnf
 refine t_cond ?_ ?_
 ·conv=>lhs;whnf
  refine t_call (h_spec_l1Cur_among_v2 _ _ _ a_0 (by rfl) r.2.1 r.2.2 _ (0 :: (40 :: (-40 :: (41 :: (4611686018427387904 :: []))))) (by rfl)) fun r1 => ?_
  conv=>lhs;whnf
  refine t_call (h_spec_l1Cur_among_v2 _ _ _ a_0 (by rfl) r1.2.1 r1.2.2.1 _ (0 :: (1 :: (40 :: (-41 :: (-9223372036854775808 :: []))))) (by rfl)) fun r2 => ?_
  conv=>lhs;whnf
  exact t_ret (by rfl)
 ·conv=>lhs;whnf
  refine t_call (h_spec_l1Cur_surePeg _ _ _ a_0 (by rfl) r.2.1 r.2.2 6) fun r3 => ?_
  conv=>lhs;whnf
  exact t_ret (by rfl)
noncomputable def spec_l1Cur_polygon (L : Nat) (a_0 : List Int) (a_1 : Int) (a_2 : Int) (b : Int) : Option ((List Pt) × Int × Int) := gbind (spec_l1Cur_surePolygon L a_0 a_1 a_2 b 8) fun r => gbind (spec_l1Cur_pick L a_0 r.2.1 r.2.2 16) fun r1 => bif ieq r1.1 0 then (gbind (spec_l1Cur_pick L a_0 r1.2.1 r1.2.2 (ilen (List.map ep r.1))) fun r2 => gbind (spec_l1Cur_peg L a_0 r2.2.1 r2.2.2) fun r3 => bif ile 0 r2.1 && ilt r2.1 (ilen (List.map ep r.1)) then (gbind (lget r.1 r2.1) fun p => some ((lset r.1 r2.1 ({ x := r3.1, y := r3.2.1 }), r3.2.2.1, r3.2.2.2))) else (none)) else (bif ieq r1.1 1 then (gbind (spec_l1Cur_pick L a_0 r1.2.1 r1.2.2 3) fun r4 => bif ile 0 r4.1 && ile r4.1 (ilen (List.map ep r.1)) then (some ((lsub r.1 0 (iadd 0 r4.1), r4.2.1, r4.2.2))) else (none)) else (bif ieq r1.1 2 then (some (({ x := -40, y := -40 } :: ({ x := 40, y := -40 } :: ({ x := 40, y := 40 } :: ({ x := -40, y := 40 } :: []))), r1.2.1, r1.2.2))) else (some ((r.1, r1.2.1, r1.2.2)))))
def spec_l1Cur_polygon_ok (L : Nat) (C : CF) : Prop := ∀ (oa_0 : Bool) (ca_0 : Bool) (x_a_0 : List AV) (a_0 : List Int) (_ : x_a_0 = List.map eU a_0) (a_1 : Int) (a_2 : Int) (b : Int), C 31 ([.ptr 0 0 0 3, .int .i64 b]) ([.box (.agg [.lst oa_0 ca_0 1 x_a_0, .int .i64 a_1, .int .u64 a_2])]) = Option.map (fun r : (List Pt) × Int × Int => ((.frs 2 (List.map ep (r.1)), [.box (.agg [.lst oa_0 ca_0 1 x_a_0, .int .i64 (r.2.1), .int .u64 (r.2.2)])]) : AV × List Blk)) (spec_l1Cur_polygon L a_0 a_1 a_2 b)
theorem spec_l1Cur_polygon_run (L : Nat) (C : CF) (h_spec_l1Cur_pick : spec_l1Cur_pick_ok L C) (h_spec_l1Cur_surePolygon : spec_l1Cur_surePolygon_ok L C) (h_spec_l1Cur_peg : spec_l1Cur_peg_ok L C) : spec_l1Cur_polygon_ok L (fun _ => run T C sh (keep 31) L Tryz.f31) := by
 intro oa_0 ca_0 x_a_0 a_0 hx_a_0 a_1 a_2 b
 subst hx_a_0
 unfold spec_l1Cur_polygon
 conv=>lhs;whnf
 refine t_call (h_spec_l1Cur_surePolygon _ _ _ a_0 (by rfl) a_1 a_2 b 8) fun r => ?_
 conv=>lhs;whnf
 refine t_call (h_spec_l1Cur_pick _ _ _ a_0 (by rfl) r.2.1 r.2.2 16) fun r1 => ?_
 conv=>lhs;whnf
 refine t_cond ?_ ?_
 ·conv=>lhs;whnf
  refine t_call (h_spec_l1Cur_pick _ _ _ a_0 (by rfl) r1.2.1 r1.2.2 (ilen (List.map ep r.1))) fun r2 => ?_
  conv=>lhs;whnf
  refine t_call (h_spec_l1Cur_peg _ _ _ a_0 (by rfl) r2.2.1 r2.2.2) fun r3 => ?_
  conv=>lhs;whnf
  refine t_cond ?_ ?_
  ·conv=>lhs;whnf
   refine t_get (en := ep) (l := r.1) (by rfl) fun p => ?_
   conv=>lhs;whnf
   exact t_ret (by first | rfl | simp only [ml] <;> rfl)
  ·conv=>lhs;whnf
   exact t_none
 ·conv=>lhs;whnf
  refine t_cond ?_ ?_
  ·conv=>lhs;whnf
   refine t_call (h_spec_l1Cur_pick _ _ _ a_0 (by rfl) r1.2.1 r1.2.2 3) fun r4 => ?_
   conv=>lhs;whnf
   refine t_cond ?_ ?_
   ·conv=>lhs;whnf
    exact t_ret (by first | rfl | simp only [ml] <;> rfl)
   ·conv=>lhs;whnf
    exact t_none
  ·conv=>lhs;whnf
   refine t_cond ?_ ?_
   ·conv=>lhs;whnf
    exact t_ret (by rfl)
   ·conv=>lhs;whnf
    exact t_ret (by rfl)
noncomputable def spec_l1Cur_three_l0 (L : Nat) (r3 : Int × Int × Int × Int) (r4 : Int × Int × Int × Int) (r5 : Int × Int × Int × Int) (r6 : Bool × Int × Int) : Nat → Int → (List Pt) → Option ((List Pt) × Int × Int)
  | 0, _, _ => none
  | m + 1, v37, w1 => bif ilt v37 (ilen [AV.agg [AV.int .i64 r3.1, AV.int .i64 r3.2.1], AV.agg [AV.int .i64 r4.1, AV.int .i64 r4.2.1], AV.agg [AV.int .i64 r5.1, AV.int .i64 r5.2.1]]) then (bif ile 0 v37 && ilt v37 (ilen (List.map ep w1)) then (gbind (lget w1 v37) fun p => bif ile 0 v37 && ilt v37 (ilen (List.map ep w1)) then (gbind (lget w1 v37) fun p1 => spec_l1Cur_three_l0 L r3 r4 r5 r6 m (wr .i64 (iadd v37 1)) (lset w1 v37 ({ x := wr .i64 (imul 2 p.x), y := wr .i64 (imul 2 p.y) }))) else (none)) else (none)) else (some ((w1, r6.2.1, r6.2.2)))
noncomputable def spec_l1Cur_three (L : Nat) (a_0 : List Int) (a_1 : Int) (a_2 : Int) (b : Int) : Option ((List Pt) × Int × Int) := gbind (spec_l1Cur_pick L a_0 a_1 a_2 12) fun r => bif ieq r.1 0 then (gbind (spec_l1Cur_polygon L a_0 r.2.1 r.2.2 4) fun r1 => some ((r1.1, r1.2.1, r1.2.2))) else (bif ieq r.1 1 then (gbind (spec_l1Cur_pick L a_0 r.2.1 r.2.2 3) fun r2 => some (({ x := -40, y := -40 } :: ({ x := 40, y := -39 } :: ({ x := wr .i64 (isub r2.1 1), y := 40 } :: [])), r2.2.1, r2.2.2))) else (gbind (spec_l1Cur_surePeg L a_0 r.2.1 r.2.2 b) fun r3 => gbind (spec_l1Cur_surePeg L a_0 r3.2.2.1 r3.2.2.2 b) fun r4 => gbind (spec_l1Cur_surePeg L a_0 r4.2.2.1 r4.2.2.2 b) fun r5 => gbind (spec_l1Cur_one L a_0 r5.2.2.1 r5.2.2.2 3) fun r6 => bif r6.1 then (spec_l1Cur_three_l0 L r3 r4 r5 r6 L 0 ({ x := r3.1, y := r3.2.1 } :: ({ x := r4.1, y := r4.2.1 } :: ({ x := r5.1, y := r5.2.1 } :: [])))) else (some (({ x := r3.1, y := r3.2.1 } :: ({ x := r4.1, y := r4.2.1 } :: ({ x := r5.1, y := r5.2.1 } :: [])), r6.2.1, r6.2.2)))))
def spec_l1Cur_three_ok (L : Nat) (C : CF) : Prop := ∀ (oa_0 : Bool) (ca_0 : Bool) (x_a_0 : List AV) (a_0 : List Int) (_ : x_a_0 = List.map eU a_0) (a_1 : Int) (a_2 : Int) (b : Int), C 30 ([.ptr 0 0 0 3, .int .i64 b]) ([.box (.agg [.lst oa_0 ca_0 1 x_a_0, .int .i64 a_1, .int .u64 a_2])]) = Option.map (fun r : (List Pt) × Int × Int => ((.frs 2 (List.map ep (r.1)), [.box (.agg [.lst oa_0 ca_0 1 x_a_0, .int .i64 (r.2.1), .int .u64 (r.2.2)])]) : AV × List Blk)) (spec_l1Cur_three L a_0 a_1 a_2 b)
theorem spec_l1Cur_three_run (L : Nat) (C : CF) (h_spec_l1Cur_pick : spec_l1Cur_pick_ok L C) (h_spec_l1Cur_one : spec_l1Cur_one_ok L C) (h_spec_l1Cur_surePeg : spec_l1Cur_surePeg_ok L C) (h_spec_l1Cur_polygon : spec_l1Cur_polygon_ok L C) : spec_l1Cur_three_ok L (fun _ => run T C sh (keep 30) L Tryz.f30) := by
 intro oa_0 ca_0 x_a_0 a_0 hx_a_0 a_1 a_2 b
 subst hx_a_0
 unfold spec_l1Cur_three
 conv=>lhs;whnf
 refine t_call (h_spec_l1Cur_pick _ _ _ a_0 (by rfl) a_1 a_2 12) fun r => ?_
 conv=>lhs;whnf
 refine t_cond ?_ ?_
 ·conv=>lhs;whnf
  refine t_call (h_spec_l1Cur_polygon _ _ _ a_0 (by rfl) r.2.1 r.2.2 4) fun r1 => ?_
  conv=>lhs;whnf
  exact t_ret (by rfl)
 ·conv=>lhs;whnf
  refine t_cond ?_ ?_
  ·conv=>lhs;whnf
   refine t_call (h_spec_l1Cur_pick _ _ _ a_0 (by rfl) r.2.1 r.2.2 3) fun r2 => ?_
   conv=>lhs;whnf
   exact t_ret (by rfl)
  ·conv=>lhs;whnf
   refine t_call (h_spec_l1Cur_surePeg _ _ _ a_0 (by rfl) r.2.1 r.2.2 b) fun r3 => ?_
   conv=>lhs;whnf
   refine t_call (h_spec_l1Cur_surePeg _ _ _ a_0 (by rfl) r3.2.2.1 r3.2.2.2 b) fun r4 => ?_
   conv=>lhs;whnf
   refine t_call (h_spec_l1Cur_surePeg _ _ _ a_0 (by rfl) r4.2.2.1 r4.2.2.2 b) fun r5 => ?_
   conv=>lhs;whnf
   refine t_call (h_spec_l1Cur_one _ _ _ a_0 (by rfl) r5.2.2.1 r5.2.2.2 3) fun r6 => ?_
   conv=>lhs;whnf
   refine t_cond ?_ ?_
   ·conv=>lhs;whnf
    refine t_loop (fun (⟨v37, w1⟩ : Int × (List Pt)) => (topA 5 (AV.own 1 2 none false :: topA 29 (AV.own 1 2 none false :: AV.int .i64 (ilen [AV.agg [AV.int .i64 r3.1, AV.int .i64 r3.2.1], AV.agg [AV.int .i64 r4.1, AV.int .i64 r4.2.1], AV.agg [AV.int .i64 r5.1, AV.int .i64 r5.2.1]]) :: AV.int .i64 v37 :: tops 16)), [Blk.box (AV.agg [AV.lst oa_0 ca_0 1 (List.map eU a_0), AV.int .i64 r6.2.1, AV.int IntKind.u64 r6.2.2]), Blk.rows Mode.live 2 (List.map ep w1)])) (fun m (⟨v37, w1⟩ : Int × (List Pt)) => spec_l1Cur_three_l0 L r3 r4 r5 r6 m v37 w1) (fun _ => rfl) (fun m s rec hrec => ?_) L ((0, { x := r3.1, y := r3.2.1 } :: ({ x := r4.1, y := r4.2.1 } :: ({ x := r5.1, y := r5.2.1 } :: [])))) ?_ ?_
    rotate_left
    ·rfl
    ·rfl
    obtain ⟨v37, w1⟩ := s
    show _ = Option.map _ (spec_l1Cur_three_l0 L r3 r4 r5 r6 (m + 1) v37 w1)
    rw [spec_l1Cur_three_l0.eq_2]
    conv=>lhs;whnf
    refine t_cond ?_ ?_
    ·conv=>lhs;whnf
     refine t_cond ?_ ?_
     ·conv=>lhs;whnf
      refine t_get (en := ep) (l := w1) (by rfl) fun p => ?_
      conv=>lhs;whnf
      refine t_cond ?_ ?_
      ·conv=>lhs;whnf
       refine t_get (en := ep) (l := w1) (by rfl) fun p1 => ?_
       conv=>lhs;whnf
       exact hrec ((wr .i64 (iadd v37 1), lset w1 v37 ({ x := wr .i64 (imul 2 p.x), y := wr .i64 (imul 2 p.y) }))) _ _ (by rfl) (by first | rfl | simp only [ml] <;> rfl)
      ·conv=>lhs;whnf
       exact t_none
     ·conv=>lhs;whnf
      exact t_none
    ·conv=>lhs;whnf
     exact t_ret (by rfl)
   ·conv=>lhs;whnf
    exact t_ret (by rfl)
noncomputable def spec_DrawLeastWidth (L : Nat) (a : List Int) : Option ((List Pt)) := gbind (spec_l1Cur_one L a 0 0 3) fun r => bif r.1 then (gbind (spec_l1Cur_three L a r.2.1 r.2.2 6) fun r1 => some r1.1) else (gbind (spec_l1Cur_polygon L a r.2.1 r.2.2 5) fun r2 => some r2.1)
def spec_DrawLeastWidth_ok (L : Nat) (C : CF) : Prop := ∀ (oa : Bool) (ca : Bool) (x_a : List AV) (a : List Int) (_ : x_a = List.map eU a), C 5 ([.lst oa ca 1 x_a]) ([]) = Option.map (fun r : (List Pt) => ((.frs 2 (List.map ep r), []) : AV × List Blk)) (spec_DrawLeastWidth L a)
theorem spec_DrawLeastWidth_run (L : Nat) (C : CF) (h_spec_l1Cur_one : spec_l1Cur_one_ok L C) (h_spec_l1Cur_polygon : spec_l1Cur_polygon_ok L C) (h_spec_l1Cur_three : spec_l1Cur_three_ok L C) : spec_DrawLeastWidth_ok L (fun _ => run T C sh (keep 5) L Tryz.f5) := by
 intro oa ca x_a a hx_a
 subst hx_a
 unfold spec_DrawLeastWidth
 conv=>lhs;whnf
 refine t_call (h_spec_l1Cur_one _ _ _ a (by rfl) 0 0 3) fun r => ?_
 conv=>lhs;whnf
 refine t_cond ?_ ?_
 ·conv=>lhs;whnf
  refine t_call (h_spec_l1Cur_three _ _ _ a (by rfl) r.2.1 r.2.2 6) fun r1 => ?_
  conv=>lhs;whnf
  exact t_ret (by rfl)
 ·conv=>lhs;whnf
  refine t_call (h_spec_l1Cur_polygon _ _ _ a (by rfl) r.2.1 r.2.2 5) fun r2 => ?_
  conv=>lhs;whnf
  exact t_ret (by rfl)
noncomputable def impl_within (L : Nat) (a : Int) (b : Int) (c : Int) : Option (Bool) := bif ile b a then (some (ile a c)) else (some false)
def impl_within_ok (L : Nat) (C : CF) : Prop := ∀ (a : Int) (b : Int) (c : Int), C 43 ([.int .i64 a, .int .i64 b, .int .i64 c]) ([]) = Option.map (fun r : Bool => ((.bool r, []) : AV × List Blk)) (impl_within L a b c)
theorem impl_within_run (L : Nat) (C : CF) : impl_within_ok L (fun _ => run T C sh (keep 43) L Tryz.f43) := by
 intro a b c
 unfold impl_within
 conv=>lhs;whnf
 refine t_cond ?_ ?_
 ·conv=>lhs;whnf
  exact t_ret (by rfl)
 ·conv=>lhs;whnf
  exact t_ret (by rfl)
noncomputable def impl_IsPeg (L : Nat) (a_0 : Int) (a_1 : Int) : Option (Bool) := gbind (impl_within L a_0 (-40) 40) fun r => bif r then (gbind (impl_within L a_1 (-40) 40) fun r1 => some r1) else (some false)
def impl_IsPeg_ok (L : Nat) (C : CF) : Prop := ∀ (a_0 : Int) (a_1 : Int), C 97 ([.agg [.int .i64 a_0, .int .i64 a_1]]) ([]) = Option.map (fun r : Bool => ((.bool r, []) : AV × List Blk)) (impl_IsPeg L a_0 a_1)
theorem impl_IsPeg_run (L : Nat) (C : CF) (h_impl_within : impl_within_ok L C) : impl_IsPeg_ok L (fun _ => run T C sh (keep 97) L Tryz.f97) := by
 intro a_0 a_1
 unfold impl_IsPeg
 conv=>lhs;whnf
 refine t_call (h_impl_within a_0 (-40) 40) fun r => ?_
 conv=>lhs;whnf
 refine t_cond ?_ ?_
 ·conv=>lhs;whnf
  refine t_call (h_impl_within a_1 (-40) 40) fun r1 => ?_
  conv=>lhs;whnf
  exact t_ret (by rfl)
 ·conv=>lhs;whnf
  exact t_ret (by rfl)
noncomputable def impl_arePegs_1 (L : Nat) (a_0 : Int) (a_1 : Int) : Option (Bool) := gbind (impl_IsPeg L a_0 a_1) fun r => some (!r)
def impl_arePegs_1_ok (L : Nat) (C : CF) : Prop := ∀ (a_0 : Int) (a_1 : Int), C 96 ([.agg [.int .i64 a_0, .int .i64 a_1]]) ([]) = Option.map (fun r : Bool => ((.bool r, []) : AV × List Blk)) (impl_arePegs_1 L a_0 a_1)
theorem impl_arePegs_1_run (L : Nat) (C : CF) (h_impl_IsPeg : impl_IsPeg_ok L C) : impl_arePegs_1_ok L (fun _ => run T C sh (keep 96) L Tryz.f96) := by
 intro a_0 a_1
 unfold impl_arePegs_1
 conv=>lhs;whnf
 refine t_call (h_impl_IsPeg a_0 a_1) fun r => ?_
 conv=>lhs;whnf
 exact t_ret (by rfl)
noncomputable def impl_value (L : Nat) (a_0 : Int) (a_1 : Int) (b_0 : Int) (b_1 : Int) : Option (Int) := some (wr .i64 (iadd (wr .i64 (imul a_0 b_0)) (wr .i64 (imul a_1 b_1))))
def impl_value_ok (L : Nat) (C : CF) : Prop := ∀ (a_0 : Int) (a_1 : Int) (b_0 : Int) (b_1 : Int), C 49 ([.agg [.int .i64 a_0, .int .i64 a_1], .agg [.int .i64 b_0, .int .i64 b_1]]) ([]) = Option.map (fun r : Int => ((.int .i64 r, []) : AV × List Blk)) (impl_value L a_0 a_1 b_0 b_1)
theorem impl_value_run (L : Nat) (C : CF) : impl_value_ok L (fun _ => run T C sh (keep 49) L Tryz.f49) := by
 intro a_0 a_1 b_0 b_1
 unfold impl_value
 conv=>lhs;whnf
 exact t_ret (by rfl)
noncomputable def impl_extent_l0 (L : Nat) (a : List Pt) (b_0 : Int) (b_1 : Int) : Nat → Int → Int → Int → Option (Int × Int)
  | 0, _, _, _ => none
  | m + 1, v6, v7, v18 => bif ilt v18 (ilen (List.map ep a)) then (gbind (lget a v18) fun p1 => gbind (impl_value L b_0 b_1 p1.x p1.y) fun r1 => gbind (impl_value L b_0 b_1 p1.x p1.y) fun r2 => impl_extent_l0 L a b_0 b_1 m (imin v6 r1) (imax v7 r2) (wr .i64 (iadd v18 1))) else (some ((v6, v7)))
noncomputable def impl_extent (L : Nat) (a : List Pt) (b_0 : Int) (b_1 : Int) : Option (Int × Int) := gbind (lget a 0) fun p => gbind (impl_value L b_0 b_1 p.x p.y) fun r => impl_extent_l0 L a b_0 b_1 L r r 0
def impl_extent_ok (L : Nat) (C : CF) : Prop := ∀ (oa : Bool) (ca : Bool) (x_a : List AV) (a : List Pt) (_ : x_a = List.map ep a) (b_0 : Int) (b_1 : Int), C 46 ([.lst oa ca 2 x_a, .agg [.int .i64 b_0, .int .i64 b_1]]) ([]) = Option.map (fun r : Int × Int => ((.tup [.int .i64 (r.1), .int .i64 (r.2)], []) : AV × List Blk)) (impl_extent L a b_0 b_1)
theorem impl_extent_run (L : Nat) (C : CF) (h_impl_value : impl_value_ok L C) : impl_extent_ok L (fun _ => run T C sh (keep 46) L Tryz.f46) := by
 intro oa ca x_a a hx_a b_0 b_1
 subst hx_a
 unfold impl_extent
 conv=>lhs;whnf
 refine t_get (en := ep) (l := a) (by rfl) fun p => ?_
 conv=>lhs;whnf
 refine t_call (h_impl_value b_0 b_1 p.x p.y) fun r => ?_
 conv=>lhs;whnf
 refine t_loop (fun (⟨v6, v7, v18⟩ : Int × Int × Int) => (topA 3 (AV.ptr 0 0 0 2 :: topA 2 (AV.int .i64 v6 :: AV.int .i64 v7 :: topA 8 (AV.lst oa ca 2 (List.map ep a) :: AV.int .i64 (ilen (List.map ep a)) :: AV.int .i64 v18 :: tops 16))), [Blk.box (AV.agg [AV.int .i64 b_0, AV.int .i64 b_1])])) (fun m (⟨v6, v7, v18⟩ : Int × Int × Int) => impl_extent_l0 L a b_0 b_1 m v6 v7 v18) (fun _ => rfl) (fun m s rec hrec => ?_) L ((r, r, 0)) ?_ ?_
 rotate_left
 ·rfl
 ·rfl
 obtain ⟨v6, v7, v18⟩ := s
 show _ = Option.map _ (impl_extent_l0 L a b_0 b_1 (m + 1) v6 v7 v18)
 rw [impl_extent_l0.eq_2]
 conv=>lhs;whnf
 refine t_cond ?_ ?_
 ·conv=>lhs;whnf
  refine t_get (en := ep) (l := a) (by rfl) fun p1 => ?_
  conv=>lhs;whnf
  refine t_call (h_impl_value b_0 b_1 p1.x p1.y) fun r1 => ?_
  conv=>lhs;whnf
  refine t_call (h_impl_value b_0 b_1 p1.x p1.y) fun r2 => ?_
  conv=>lhs;whnf
  exact hrec ((imin v6 r1, imax v7 r2, wr .i64 (iadd v18 1))) _ _ (by rfl) (by rfl)
 ·conv=>lhs;whnf
  exact t_ret (by rfl)
noncomputable def impl_width (L : Nat) (a : List Pt) (b_0 : Int) (b_1 : Int) : Option (Int) := gbind (impl_extent L a b_0 b_1) fun r => some (wr .i64 (isub r.2 r.1))
def impl_width_ok (L : Nat) (C : CF) : Prop := ∀ (oa : Bool) (ca : Bool) (x_a : List AV) (a : List Pt) (_ : x_a = List.map ep a) (b_0 : Int) (b_1 : Int), C 42 ([.lst oa ca 2 x_a, .agg [.int .i64 b_0, .int .i64 b_1]]) ([]) = Option.map (fun r : Int => ((.int .i64 r, []) : AV × List Blk)) (impl_width L a b_0 b_1)
theorem impl_width_run (L : Nat) (C : CF) (h_impl_extent : impl_extent_ok L C) : impl_width_ok L (fun _ => run T C sh (keep 42) L Tryz.f42) := by
 intro oa ca x_a a hx_a b_0 b_1
 subst hx_a
 unfold impl_width
 conv=>lhs;whnf
 refine t_call (h_impl_extent _ _ _ a (by rfl) b_0 b_1) fun r => ?_
 conv=>lhs;whnf
 exact t_ret (by rfl)
noncomputable def impl_least_1_v2 (L : Nat) (a_0 : Int) (a_1 : Int) (b : List Pt) (c : Int) : Option (Bool) := gbind (impl_width L b a_0 a_1) fun r => some (ilt c r)
def impl_least_1_v2_ok (L : Nat) (C : CF) : Prop := ∀ (a_0 : Int) (a_1 : Int) (ob : Bool) (cb : Bool) (x_b : List AV) (b : List Pt) (_ : x_b = List.map ep b) (c : Int), C 70 ([(.agg [(.int .i64 a_0), (.int .i64 a_1)]), (.at (.lst ob cb 2 x_b) 0), (.at (.int .i64 c) 0)]) ([]) = Option.map (fun r : Bool => ((.bool r, []) : AV × List Blk)) (impl_least_1_v2 L a_0 a_1 b c)
theorem impl_least_1_v2_run (L : Nat) (C : CF) (h_impl_width : impl_width_ok L C) : impl_least_1_v2_ok L (fun _ => run T C sh (keep 70) L Tryz.f70) := by
 intro a_0 a_1 ob cb x_b b hx_b c
 subst hx_b
 unfold impl_least_1_v2
 conv=>lhs;whnf
 refine t_call (h_impl_width _ _ _ b (by rfl) a_0 a_1) fun r => ?_
 conv=>lhs;whnf
 exact t_ret (by rfl)
noncomputable def slices_IndexFunc_impl_Peg_impl_Peg_arePegs_l0 (L : Nat) (a : List Pt) : Nat → Int → Option Int
  | 0, _ => none
  | m + 1, v8 => bif ilt v8 (ilen (List.map ep a)) then (gbind (lget a v8) fun p => gbind (impl_arePegs_1 L p.x p.y) fun r => bif r then (some v8) else (slices_IndexFunc_impl_Peg_impl_Peg_arePegs_l0 L a m (wr .i64 (iadd v8 1)))) else (some (-1))
noncomputable def slices_IndexFunc_impl_Peg_impl_Peg_arePegs (L : Nat) (a : List Pt) : Option (Int) := slices_IndexFunc_impl_Peg_impl_Peg_arePegs_l0 L a L 0
def slices_IndexFunc_impl_Peg_impl_Peg_arePegs_ok (L : Nat) (C : CF) : Prop := ∀ (o1 : Bool) (c1 : Bool) (x_a : List AV) (a : List Pt) (_ : x_a = List.map ep a), C 100 ([.lst o1 c1 2 x_a, .fn 96 [] []]) ([]) = Option.map (fun r : Int => ((.int .i64 r, []) : AV × List Blk)) (slices_IndexFunc_impl_Peg_impl_Peg_arePegs L a)
theorem slices_IndexFunc_impl_Peg_impl_Peg_arePegs_run (L : Nat) (C : CF) (h_impl_arePegs_1 : impl_arePegs_1_ok L C) : slices_IndexFunc_impl_Peg_impl_Peg_arePegs_ok L (fun _ => run T C sh (keep 100) L Tryz.f100) := by
 intro o1 c1 x_a a hx_a
 subst hx_a
 unfold slices_IndexFunc_impl_Peg_impl_Peg_arePegs
 conv=>lhs;whnf
 refine t_loop (fun (v8 : Int) => (AV.lst o1 c1 2 (List.map ep a) :: AV.fn 96 [] [] :: topA 5 (AV.int .i64 (ilen (List.map ep a)) :: AV.int .i64 v8 :: tops 10), [])) (fun m (v8 : Int) => slices_IndexFunc_impl_Peg_impl_Peg_arePegs_l0 L a m v8) (fun _ => rfl) (fun m v8 rec hrec => ?_) L 0 ?_ ?_
 rotate_left
 ·rfl
 ·rfl
 show _ = Option.map _ (slices_IndexFunc_impl_Peg_impl_Peg_arePegs_l0 L a (m + 1) v8)
 rw [slices_IndexFunc_impl_Peg_impl_Peg_arePegs_l0.eq_2]
 conv=>lhs;whnf
 refine t_cond ?_ ?_
 ·conv=>lhs;whnf
  refine t_get (en := ep) (l := a) (by rfl) fun p => ?_
  conv=>lhs;whnf
  refine t_call (h_impl_arePegs_1 p.x p.y) fun r => ?_
  conv=>lhs;whnf
  refine t_cond ?_ ?_
  ·conv=>lhs;whnf
   exact t_ret (by rfl)
  ·conv=>lhs;whnf
   exact hrec (wr .i64 (iadd v8 1)) _ _ (by rfl) (by rfl)
 ·conv=>lhs;whnf
  exact t_ret (by rfl)
noncomputable def slices_IndexFunc_impl_Peg_impl_Peg_impl_least_1_l0 (L : Nat) (a : List Pt) (b_c0 : List Pt) (b_c1 : Int) : Nat → Int → Option Int
  | 0, _ => none
  | m + 1, v8 => bif ilt v8 (ilen (List.map ep a)) then (gbind (lget a v8) fun p => gbind (impl_least_1_v2 L p.x p.y b_c0 b_c1) fun r => bif r then (some v8) else (slices_IndexFunc_impl_Peg_impl_Peg_impl_least_1_l0 L a b_c0 b_c1 m (wr .i64 (iadd v8 1)))) else (some (-1))
noncomputable def slices_IndexFunc_impl_Peg_impl_Peg_impl_least_1 (L : Nat) (a : List Pt) (b_c0 : List Pt) (b_c1 : Int) : Option (Int) := slices_IndexFunc_impl_Peg_impl_Peg_impl_least_1_l0 L a b_c0 b_c1 L 0
def slices_IndexFunc_impl_Peg_impl_Peg_impl_least_1_ok (L : Nat) (C : CF) : Prop := ∀ (x_a : List AV) (a : List Pt) (_ : x_a = List.map ep a) (ob_c0 : Bool) (cb_c0 : Bool) (x_b_c0 : List AV) (b_c0 : List Pt) (_ : x_b_c0 = List.map ep b_c0) (b_c1 : Int), C 100 ([(.lst true false 2 x_a), (.fn 70 [] [(.at (.lst ob_c0 cb_c0 2 x_b_c0) 0), (.at (.int .i64 b_c1) 0)])]) ([]) = Option.map (fun r : Int => ((.int .i64 r, []) : AV × List Blk)) (slices_IndexFunc_impl_Peg_impl_Peg_impl_least_1 L a b_c0 b_c1)
theorem slices_IndexFunc_impl_Peg_impl_Peg_impl_least_1_run (L : Nat) (C : CF) (h_impl_least_1_v2 : impl_least_1_v2_ok L C) : slices_IndexFunc_impl_Peg_impl_Peg_impl_least_1_ok L (fun _ => run T C sh (keep 100) L Tryz.f100) := by
 intro x_a a hx_a ob_c0 cb_c0 x_b_c0 b_c0 hx_b_c0 b_c1
 subst hx_a
 subst hx_b_c0
 unfold slices_IndexFunc_impl_Peg_impl_Peg_impl_least_1
 conv=>lhs;whnf
 refine t_loop (fun (v8 : Int) => (AV.lst true false 2 (List.map ep a) :: AV.fn 70 [] [AV.at (AV.lst ob_c0 cb_c0 2 (List.map ep b_c0)) 0, AV.at (AV.int .i64 b_c1) 0] :: topA 5 (AV.int .i64 (ilen (List.map ep a)) :: AV.int .i64 v8 :: tops 10), [])) (fun m (v8 : Int) => slices_IndexFunc_impl_Peg_impl_Peg_impl_least_1_l0 L a b_c0 b_c1 m v8) (fun _ => rfl) (fun m v8 rec hrec => ?_) L 0 ?_ ?_
 rotate_left
 ·rfl
 ·rfl
 show _ = Option.map _ (slices_IndexFunc_impl_Peg_impl_Peg_impl_least_1_l0 L a b_c0 b_c1 (m + 1) v8)
 rw [slices_IndexFunc_impl_Peg_impl_Peg_impl_least_1_l0.eq_2]
 conv=>lhs;whnf
 refine t_cond ?_ ?_
 ·conv=>lhs;whnf
  refine t_get (en := ep) (l := a) (by rfl) fun p => ?_
  conv=>lhs;whnf
  refine t_call (h_impl_least_1_v2 p.x p.y _ _ _ b_c0 (by rfl) b_c1) fun r => ?_
  conv=>lhs;whnf
  refine t_cond ?_ ?_
  ·conv=>lhs;whnf
   exact t_ret (by rfl)
  ·conv=>lhs;whnf
   exact hrec (wr .i64 (iadd v8 1)) _ _ (by rfl) (by rfl)
 ·conv=>lhs;whnf
  exact t_ret (by rfl)
noncomputable def slices_ContainsFunc_impl_Peg_impl_Peg_arePegs (L : Nat) (a : List Pt) : Option (Bool) := gbind (slices_IndexFunc_impl_Peg_impl_Peg_arePegs L a) fun r => some (ile 0 r)
def slices_ContainsFunc_impl_Peg_impl_Peg_arePegs_ok (L : Nat) (C : CF) : Prop := ∀ (o1 : Bool) (c1 : Bool) (x_a : List AV) (a : List Pt) (_ : x_a = List.map ep a), C 95 ([.lst o1 c1 2 x_a, .fn 96 [] []]) ([]) = Option.map (fun r : Bool => ((.bool r, []) : AV × List Blk)) (slices_ContainsFunc_impl_Peg_impl_Peg_arePegs L a)
theorem slices_ContainsFunc_impl_Peg_impl_Peg_arePegs_run (L : Nat) (C : CF) (h_slices_IndexFunc_impl_Peg_impl_Peg_arePegs : slices_IndexFunc_impl_Peg_impl_Peg_arePegs_ok L C) : slices_ContainsFunc_impl_Peg_impl_Peg_arePegs_ok L (fun _ => run T C sh (keep 95) L Tryz.f95) := by
 intro o1 c1 x_a a hx_a
 subst hx_a
 unfold slices_ContainsFunc_impl_Peg_impl_Peg_arePegs
 conv=>lhs;whnf
 refine t_call (h_slices_IndexFunc_impl_Peg_impl_Peg_arePegs _ _ _ a (by rfl)) fun r => ?_
 conv=>lhs;whnf
 exact t_ret (by rfl)
noncomputable def impl_arePegs (L : Nat) (a : List Pt) : Option (Bool) := gbind (slices_ContainsFunc_impl_Peg_impl_Peg_arePegs L a) fun r => some (!r)
def impl_arePegs_ok (L : Nat) (C : CF) : Prop := ∀ (oa : Bool) (ca : Bool) (x_a : List AV) (a : List Pt) (_ : x_a = List.map ep a), C 64 ([.lst oa ca 2 x_a]) ([]) = Option.map (fun r : Bool => ((.bool r, []) : AV × List Blk)) (impl_arePegs L a)
theorem impl_arePegs_run (L : Nat) (C : CF) (h_slices_ContainsFunc_impl_Peg_impl_Peg_arePegs : slices_ContainsFunc_impl_Peg_impl_Peg_arePegs_ok L C) : impl_arePegs_ok L (fun _ => run T C sh (keep 64) L Tryz.f64) := by
 intro oa ca x_a a hx_a
 subst hx_a
 unfold impl_arePegs
 conv=>lhs;whnf
 refine t_call (h_slices_ContainsFunc_impl_Peg_impl_Peg_arePegs _ _ _ a (by rfl)) fun r => ?_
 conv=>lhs;whnf
 exact t_ret (by rfl)
noncomputable def slices_Index_impl_Peg_impl_Peg_l0 (L : Nat) (a : List Pt) (b_0 : Int) (b_1 : Int) : Nat → Int → Option Int
  | 0, _ => none
  | m + 1, v8 => bif ilt v8 (ilen (List.map ep a)) then (gbind (lget a v8) fun p => bif ieq b_0 p.x && ieq b_1 p.y then (some v8) else (slices_Index_impl_Peg_impl_Peg_l0 L a b_0 b_1 m (wr .i64 (iadd v8 1)))) else (some (-1))
noncomputable def slices_Index_impl_Peg_impl_Peg (L : Nat) (a : List Pt) (b_0 : Int) (b_1 : Int) : Option (Int) := slices_Index_impl_Peg_impl_Peg_l0 L a b_0 b_1 L 0
def slices_Index_impl_Peg_impl_Peg_ok (L : Nat) (C : CF) : Prop := ∀ (oa : Bool) (ca : Bool) (x_a : List AV) (a : List Pt) (_ : x_a = List.map ep a) (b_0 : Int) (b_1 : Int), C 98 ([.lst oa ca 2 x_a, .agg [.int .i64 b_0, .int .i64 b_1]]) ([]) = Option.map (fun r : Int => ((.int .i64 r, []) : AV × List Blk)) (slices_Index_impl_Peg_impl_Peg L a b_0 b_1)
theorem slices_Index_impl_Peg_impl_Peg_run (L : Nat) (C : CF) : slices_Index_impl_Peg_impl_Peg_ok L (fun _ => run T C sh (keep 98) L Tryz.f98) := by
 intro oa ca x_a a hx_a b_0 b_1
 subst hx_a
 unfold slices_Index_impl_Peg_impl_Peg
 conv=>lhs;whnf
 refine t_loop (fun (v8 : Int) => (AV.lst oa ca 2 (List.map ep a) :: topA 2 (AV.ptr 0 0 0 2 :: topA 3 (AV.int .i64 (ilen (List.map ep a)) :: AV.int .i64 v8 :: tops 10)), [Blk.box (AV.agg [AV.int .i64 b_0, AV.int .i64 b_1])])) (fun m (v8 : Int) => slices_Index_impl_Peg_impl_Peg_l0 L a b_0 b_1 m v8) (fun _ => rfl) (fun m v8 rec hrec => ?_) L 0 ?_ ?_
 rotate_left
 ·rfl
 ·rfl
 show _ = Option.map _ (slices_Index_impl_Peg_impl_Peg_l0 L a b_0 b_1 (m + 1) v8)
 rw [slices_Index_impl_Peg_impl_Peg_l0.eq_2]
 conv=>lhs;whnf
 refine t_cond ?_ ?_
 ·conv=>lhs;whnf
  refine t_get (en := ep) (l := a) (by rfl) fun p => ?_
  conv=>lhs;whnf
  refine t_cond ?_ ?_
  ·conv=>lhs;whnf
   exact t_ret (by rfl)
  ·conv=>lhs;whnf
   exact hrec (wr .i64 (iadd v8 1)) _ _ (by rfl) (by rfl)
 ·conv=>lhs;whnf
  exact t_ret (by rfl)
noncomputable def slices_Contains_impl_Peg_impl_Peg (L : Nat) (a : List Pt) (b_0 : Int) (b_1 : Int) : Option (Bool) := gbind (slices_Index_impl_Peg_impl_Peg L a b_0 b_1) fun r => some (ile 0 r)
def slices_Contains_impl_Peg_impl_Peg_ok (L : Nat) (C : CF) : Prop := ∀ (oa : Bool) (ca : Bool) (x_a : List AV) (a : List Pt) (_ : x_a = List.map ep a) (b_0 : Int) (b_1 : Int), C 65 ([.lst oa ca 2 x_a, .agg [.int .i64 b_0, .int .i64 b_1]]) ([]) = Option.map (fun r : Bool => ((.bool r, []) : AV × List Blk)) (slices_Contains_impl_Peg_impl_Peg L a b_0 b_1)
theorem slices_Contains_impl_Peg_impl_Peg_run (L : Nat) (C : CF) (h_slices_Index_impl_Peg_impl_Peg : slices_Index_impl_Peg_impl_Peg_ok L C) : slices_Contains_impl_Peg_impl_Peg_ok L (fun _ => run T C sh (keep 65) L Tryz.f65) := by
 intro oa ca x_a a hx_a b_0 b_1
 subst hx_a
 unfold slices_Contains_impl_Peg_impl_Peg
 conv=>lhs;whnf
 refine t_call (h_slices_Index_impl_Peg_impl_Peg _ _ _ a (by rfl) b_0 b_1) fun r => ?_
 conv=>lhs;whnf
 exact t_ret (by rfl)
noncomputable def impl_at (L : Nat) (a : List Pt) (b : Int) : Option (Int × Int) := bif ieq (ilen (List.map ep a)) 0 then (none) else (bif ieq (ilen (List.map ep a)) 0 then (none) else (gbind (lget a (irem (wr .i64 (iadd (irem b (ilen (List.map ep a))) (ilen (List.map ep a)))) (ilen (List.map ep a)))) fun p => some ((p.x, p.y))))
def impl_at_ok (L : Nat) (C : CF) : Prop := ∀ (oa : Bool) (ca : Bool) (x_a : List AV) (a : List Pt) (_ : x_a = List.map ep a) (b : Int), C 67 ([.lst oa ca 2 x_a, .int .i64 b]) ([]) = Option.map (fun r : Int × Int => ((.agg [.int .i64 (r.1), .int .i64 (r.2)], []) : AV × List Blk)) (impl_at L a b)
theorem impl_at_run (L : Nat) (C : CF) : impl_at_ok L (fun _ => run T C sh (keep 67) L Tryz.f67) := by
 intro oa ca x_a a hx_a b
 subst hx_a
 unfold impl_at
 conv=>lhs;whnf
 refine t_cond ?_ ?_
 ·conv=>lhs;whnf
  exact t_none
 ·conv=>lhs;whnf
  refine t_cond ?_ ?_
  ·conv=>lhs;whnf
   exact t_none
  ·conv=>lhs;whnf
   refine t_get (en := ep) (l := a) (by rfl) fun p => ?_
   conv=>lhs;whnf
   exact t_ret (by rfl)
noncomputable def impl_Peg_less (L : Nat) (a_0 : Int) (a_1 : Int) (b_0 : Int) (b_1 : Int) : Option (Int × Int) := some ((wr .i64 (isub a_0 b_0), wr .i64 (isub a_1 b_1)))
def impl_Peg_less_ok (L : Nat) (C : CF) : Prop := ∀ (a_0 : Int) (a_1 : Int) (b_0 : Int) (b_1 : Int), C 82 ([.agg [.int .i64 a_0, .int .i64 a_1], .agg [.int .i64 b_0, .int .i64 b_1]]) ([]) = Option.map (fun r : Int × Int => ((.agg [.int .i64 (r.1), .int .i64 (r.2)], []) : AV × List Blk)) (impl_Peg_less L a_0 a_1 b_0 b_1)
theorem impl_Peg_less_run (L : Nat) (C : CF) : impl_Peg_less_ok L (fun _ => run T C sh (keep 82) L Tryz.f82) := by
 intro a_0 a_1 b_0 b_1
 unfold impl_Peg_less
 conv=>lhs;whnf
 exact t_ret (by rfl)
noncomputable def impl_cross (L : Nat) (a_0 : Int) (a_1 : Int) (b_0 : Int) (b_1 : Int) : Option (Int) := some (wr .i64 (isub (wr .i64 (imul a_0 b_1)) (wr .i64 (imul a_1 b_0))))
def impl_cross_ok (L : Nat) (C : CF) : Prop := ∀ (a_0 : Int) (a_1 : Int) (b_0 : Int) (b_1 : Int), C 83 ([.agg [.int .i64 a_0, .int .i64 a_1], .agg [.int .i64 b_0, .int .i64 b_1]]) ([]) = Option.map (fun r : Int => ((.int .i64 r, []) : AV × List Blk)) (impl_cross L a_0 a_1 b_0 b_1)
theorem impl_cross_run (L : Nat) (C : CF) : impl_cross_ok L (fun _ => run T C sh (keep 83) L Tryz.f83) := by
 intro a_0 a_1 b_0 b_1
 unfold impl_cross
 conv=>lhs;whnf
 exact t_ret (by rfl)
noncomputable def impl_turn (L : Nat) (a_0 : Int) (a_1 : Int) (b_0 : Int) (b_1 : Int) (c_0 : Int) (c_1 : Int) : Option (Int) := gbind (impl_Peg_less L b_0 b_1 a_0 a_1) fun r => gbind (impl_Peg_less L c_0 c_1 a_0 a_1) fun r1 => gbind (impl_cross L r.1 r.2 r1.1 r1.2) fun r2 => some r2
def impl_turn_ok (L : Nat) (C : CF) : Prop := ∀ (a_0 : Int) (a_1 : Int) (b_0 : Int) (b_1 : Int) (c_0 : Int) (c_1 : Int), C 66 ([.agg [.int .i64 a_0, .int .i64 a_1], .agg [.int .i64 b_0, .int .i64 b_1], .agg [.int .i64 c_0, .int .i64 c_1]]) ([]) = Option.map (fun r : Int => ((.int .i64 r, []) : AV × List Blk)) (impl_turn L a_0 a_1 b_0 b_1 c_0 c_1)
theorem impl_turn_run (L : Nat) (C : CF) (h_impl_Peg_less : impl_Peg_less_ok L C) (h_impl_cross : impl_cross_ok L C) : impl_turn_ok L (fun _ => run T C sh (keep 66) L Tryz.f66) := by
 intro a_0 a_1 b_0 b_1 c_0 c_1
 unfold impl_turn
 conv=>lhs;whnf
 refine t_call (h_impl_Peg_less b_0 b_1 a_0 a_1) fun r => ?_
 conv=>lhs;whnf
 refine t_call (h_impl_Peg_less c_0 c_1 a_0 a_1) fun r1 => ?_
 conv=>lhs;whnf
 refine t_call (h_impl_cross r.1 r.2 r1.1 r1.2) fun r2 => ?_
 conv=>lhs;whnf
 exact t_ret (by rfl)
noncomputable def impl_sign (L : Nat) (a : Int) : Option (Int) := some (imin 1 (imax (-1) a))
def impl_sign_ok (L : Nat) (C : CF) : Prop := ∀ (a : Int), C 99 ([.int .i64 a]) ([]) = Option.map (fun r : Int => ((.int .i64 r, []) : AV × List Blk)) (impl_sign L a)
theorem impl_sign_run (L : Nat) (C : CF) : impl_sign_ok L (fun _ => run T C sh (keep 99) L Tryz.f99) := by
 intro a
 unfold impl_sign
 conv=>lhs;whnf
 exact t_ret (by rfl)
noncomputable def impl_isOn (L : Nat) (a_0 : Int) (a_1 : Int) (b_0 : Int) (b_1 : Int) (c_0 : Int) (c_1 : Int) : Option (Bool) := gbind (impl_turn L a_0 a_1 b_0 b_1 c_0 c_1) fun r => bif ieq r 0 then (gbind (impl_within L c_0 (imin a_0 b_0) (imax a_0 b_0)) fun r1 => bif r1 then (gbind (impl_within L c_1 (imin a_1 b_1) (imax a_1 b_1)) fun r2 => some r2) else (some false)) else (some false)
def impl_isOn_ok (L : Nat) (C : CF) : Prop := ∀ (a_0 : Int) (a_1 : Int) (b_0 : Int) (b_1 : Int) (c_0 : Int) (c_1 : Int), C 86 ([.agg [.int .i64 a_0, .int .i64 a_1], .agg [.int .i64 b_0, .int .i64 b_1], .agg [.int .i64 c_0, .int .i64 c_1]]) ([]) = Option.map (fun r : Bool => ((.bool r, []) : AV × List Blk)) (impl_isOn L a_0 a_1 b_0 b_1 c_0 c_1)
theorem impl_isOn_run (L : Nat) (C : CF) (h_impl_within : impl_within_ok L C) (h_impl_turn : impl_turn_ok L C) : impl_isOn_ok L (fun _ => run T C sh (keep 86) L Tryz.f86) := by
 intro a_0 a_1 b_0 b_1 c_0 c_1
 unfold impl_isOn
 conv=>lhs;whnf
 refine t_call (h_impl_turn a_0 a_1 b_0 b_1 c_0 c_1) fun r => ?_
 conv=>lhs;whnf
 refine t_cond ?_ ?_
 ·conv=>lhs;whnf
  refine t_call (h_impl_within c_0 (imin a_0 b_0) (imax a_0 b_0)) fun r1 => ?_
  conv=>lhs;whnf
  refine t_cond ?_ ?_
  ·conv=>lhs;whnf
   refine t_call (h_impl_within c_1 (imin a_1 b_1) (imax a_1 b_1)) fun r2 => ?_
   conv=>lhs;whnf
   exact t_ret (by rfl)
  ·conv=>lhs;whnf
   exact t_ret (by rfl)
 ·conv=>lhs;whnf
  exact t_ret (by rfl)
noncomputable def impl_meet (L : Nat) (a_0 : Int) (a_1 : Int) (b_0 : Int) (b_1 : Int) (c_0 : Int) (c_1 : Int) (d_0 : Int) (d_1 : Int) : Option (Bool) := gbind (impl_turn L a_0 a_1 b_0 b_1 c_0 c_1) fun r => gbind (impl_sign L r) fun r1 => gbind (impl_turn L a_0 a_1 b_0 b_1 d_0 d_1) fun r2 => gbind (impl_sign L r2) fun r3 => bif ilt (wr .i64 (imul r1 r3)) 0 then (gbind (impl_turn L c_0 c_1 d_0 d_1 a_0 a_1) fun r4 => gbind (impl_sign L r4) fun r5 => gbind (impl_turn L c_0 c_1 d_0 d_1 b_0 b_1) fun r6 => gbind (impl_sign L r6) fun r7 => bif ilt (wr .i64 (imul r5 r7)) 0 then (some true) else (gbind (impl_isOn L a_0 a_1 b_0 b_1 c_0 c_1) fun r8 => bif r8 then (some true) else (gbind (impl_isOn L a_0 a_1 b_0 b_1 d_0 d_1) fun r9 => bif r9 then (some true) else (gbind (impl_isOn L c_0 c_1 d_0 d_1 a_0 a_1) fun r10 => bif r10 then (some true) else (gbind (impl_isOn L c_0 c_1 d_0 d_1 b_0 b_1) fun r11 => some r11))))) else (gbind (impl_isOn L a_0 a_1 b_0 b_1 c_0 c_1) fun r12 => bif r12 then (some true) else (gbind (impl_isOn L a_0 a_1 b_0 b_1 d_0 d_1) fun r13 => bif r13 then (some true) else (gbind (impl_isOn L c_0 c_1 d_0 d_1 a_0 a_1) fun r14 => bif r14 then (some true) else (gbind (impl_isOn L c_0 c_1 d_0 d_1 b_0 b_1) fun r15 => some r15))))
def impl_meet_ok (L : Nat) (C : CF) : Prop := ∀ (a_0 : Int) (a_1 : Int) (b_0 : Int) (b_1 : Int) (c_0 : Int) (c_1 : Int) (d_0 : Int) (d_1 : Int), C 68 ([.agg [.int .i64 a_0, .int .i64 a_1], .agg [.int .i64 b_0, .int .i64 b_1], .agg [.int .i64 c_0, .int .i64 c_1], .agg [.int .i64 d_0, .int .i64 d_1]]) ([]) = Option.map (fun r : Bool => ((.bool r, []) : AV × List Blk)) (impl_meet L a_0 a_1 b_0 b_1 c_0 c_1 d_0 d_1)
theorem impl_meet_run (L : Nat) (C : CF) (h_impl_turn : impl_turn_ok L C) (h_impl_sign : impl_sign_ok L C) (h_impl_isOn : impl_isOn_ok L C) : impl_meet_ok L (fun _ => run T C sh (keep 68) L Tryz.f68) := by
 intro a_0 a_1 b_0 b_1 c_0 c_1 d_0 d_1
 unfold impl_meet
 conv=>lhs;whnf
 refine t_call (h_impl_turn a_0 a_1 b_0 b_1 c_0 c_1) fun r => ?_
 conv=>lhs;whnf
 refine t_call (h_impl_sign r) fun r1 => ?_
 conv=>lhs;whnf
 refine t_call (h_impl_turn a_0 a_1 b_0 b_1 d_0 d_1) fun r2 => ?_
 conv=>lhs;whnf
 refine t_call (h_impl_sign r2) fun r3 => ?_
 conv=>lhs;whnf
 refine t_cond ?_ ?_
 ·conv=>lhs;whnf
  refine t_call (h_impl_turn c_0 c_1 d_0 d_1 a_0 a_1) fun r4 => ?_
  conv=>lhs;whnf
  refine t_call (h_impl_sign r4) fun r5 => ?_
  conv=>lhs;whnf
  refine t_call (h_impl_turn c_0 c_1 d_0 d_1 b_0 b_1) fun r6 => ?_
  conv=>lhs;whnf
  refine t_call (h_impl_sign r6) fun r7 => ?_
  conv=>lhs;whnf
  refine t_cond ?_ ?_
  ·conv=>lhs;whnf
   exact t_ret (by rfl)
  ·conv=>lhs;whnf
   refine t_call (h_impl_isOn a_0 a_1 b_0 b_1 c_0 c_1) fun r8 => ?_
   conv=>lhs;whnf
   refine t_cond ?_ ?_
   ·conv=>lhs;whnf
    exact t_ret (by rfl)
   ·conv=>lhs;whnf
    refine t_call (h_impl_isOn a_0 a_1 b_0 b_1 d_0 d_1) fun r9 => ?_
    conv=>lhs;whnf
    refine t_cond ?_ ?_
    ·conv=>lhs;whnf
     exact t_ret (by rfl)
    ·conv=>lhs;whnf
     refine t_call (h_impl_isOn c_0 c_1 d_0 d_1 a_0 a_1) fun r10 => ?_
     conv=>lhs;whnf
     refine t_cond ?_ ?_
     ·conv=>lhs;whnf
      exact t_ret (by rfl)
     ·conv=>lhs;whnf
      refine t_call (h_impl_isOn c_0 c_1 d_0 d_1 b_0 b_1) fun r11 => ?_
      conv=>lhs;whnf
      exact t_ret (by rfl)
 ·conv=>lhs;whnf
  refine t_call (h_impl_isOn a_0 a_1 b_0 b_1 c_0 c_1) fun r12 => ?_
  conv=>lhs;whnf
  refine t_cond ?_ ?_
  ·conv=>lhs;whnf
   exact t_ret (by rfl)
  ·conv=>lhs;whnf
   refine t_call (h_impl_isOn a_0 a_1 b_0 b_1 d_0 d_1) fun r13 => ?_
   conv=>lhs;whnf
   refine t_cond ?_ ?_
   ·conv=>lhs;whnf
    exact t_ret (by rfl)
   ·conv=>lhs;whnf
    refine t_call (h_impl_isOn c_0 c_1 d_0 d_1 a_0 a_1) fun r14 => ?_
    conv=>lhs;whnf
    refine t_cond ?_ ?_
    ·conv=>lhs;whnf
     exact t_ret (by rfl)
    ·conv=>lhs;whnf
     refine t_call (h_impl_isOn c_0 c_1 d_0 d_1 b_0 b_1) fun r15 => ?_
     conv=>lhs;whnf
     exact t_ret (by rfl)
noncomputable def impl_IsPolygon_l1 (L : Nat) (κ0 : (List Pt) → Int → (List Pt) → Int → Int → Option Bool) (v0 : List Pt) (v3 : Int) (v17 : List Pt) (v18 : Int) (v19 : Int) (p : Pt) : Nat → Int → Option Bool
  | 0, _ => none
  | m1 + 1, v43 => bif ilt v43 v19 then (bif ieq (wr .i64 (iadd v43 1)) v19 then (impl_IsPolygon_l1 L κ0 v0 v3 v17 v18 v19 p m1 (wr .i64 (iadd v43 1))) else (bif ieq (wr .i64 (iadd v19 1)) v3 then (bif ieq v43 0 then (impl_IsPolygon_l1 L κ0 v0 v3 v17 v18 v19 p m1 (wr .i64 (iadd v43 1))) else (gbind (lget v0 v43) fun p1 => gbind (lget v0 (wr .i64 (iadd v43 1))) fun p2 => gbind (impl_at L v0 (wr .i64 (iadd v19 1))) fun r6 => gbind (impl_meet L p1.x p1.y p2.x p2.y p.x p.y r6.1 r6.2) fun r7 => bif r7 then (some false) else (impl_IsPolygon_l1 L κ0 v0 v3 v17 v18 v19 p m1 (wr .i64 (iadd v43 1))))) else (gbind (lget v0 v43) fun p3 => gbind (lget v0 (wr .i64 (iadd v43 1))) fun p4 => gbind (impl_at L v0 (wr .i64 (iadd v19 1))) fun r8 => gbind (impl_meet L p3.x p3.y p4.x p4.y p.x p.y r8.1 r8.2) fun r9 => bif r9 then (some false) else (impl_IsPolygon_l1 L κ0 v0 v3 v17 v18 v19 p m1 (wr .i64 (iadd v43 1)))))) else (κ0 v0 v3 v17 v18 (wr .i64 (iadd v19 1)))
noncomputable def impl_IsPolygon_l0 (L : Nat) : Nat → (List Pt) → Int → (List Pt) → Int → Int → Option Bool
  | 0, _, _, _, _, _ => none
  | m + 1, v0, v3, v17, v18, v19 => bif ilt v19 v18 then (gbind (lget v17 v19) fun p => bif ile 0 v19 && ile v19 (ilen (List.map ep v0)) then (gbind (slices_Contains_impl_Peg_impl_Peg L (lsub v0 0 v19) p.x p.y) fun r2 => bif r2 then (some false) else (gbind (impl_at L v0 (wr .i64 (isub v19 1))) fun r3 => gbind (impl_at L v0 (wr .i64 (iadd v19 1))) fun r4 => gbind (impl_turn L r3.1 r3.2 p.x p.y r4.1 r4.2) fun r5 => bif ieq r5 0 then (some false) else (impl_IsPolygon_l1 L (impl_IsPolygon_l0 L m) v0 v3 v17 v18 v19 p L 0))) else (none)) else (some true)
noncomputable def impl_IsPolygon (L : Nat) (a : List Pt) : Option (Bool) := gbind (impl_within L (ilen (List.map ep a)) 3 10) fun r => bif !r then (some false) else (gbind (impl_arePegs L a) fun r1 => bif !r1 then (some false) else (impl_IsPolygon_l0 L L a (ilen (List.map ep a)) a (ilen (List.map ep a)) 0))
def impl_IsPolygon_ok (L : Nat) (C : CF) : Prop := ∀ (oa : Bool) (ca : Bool) (x_a : List AV) (a : List Pt) (_ : x_a = List.map ep a), C 32 ([.lst oa ca 2 x_a]) ([]) = Option.map (fun r : Bool => ((.bool r, []) : AV × List Blk)) (impl_IsPolygon L a)
theorem impl_IsPolygon_run (L : Nat) (C : CF) (h_impl_within : impl_within_ok L C) (h_impl_arePegs : impl_arePegs_ok L C) (h_slices_Contains_impl_Peg_impl_Peg : slices_Contains_impl_Peg_impl_Peg_ok L C) (h_impl_at : impl_at_ok L C) (h_impl_turn : impl_turn_ok L C) (h_impl_meet : impl_meet_ok L C) : impl_IsPolygon_ok L (fun _ => run T C sh (keep 32) L Tryz.f32) := by
 intro oa ca x_a a hx_a
 subst hx_a
 unfold impl_IsPolygon
 conv=>lhs;whnf
 refine t_call (h_impl_within (ilen (List.map ep a)) 3 10) fun r => ?_
 conv=>lhs;whnf
 refine t_cond ?_ ?_
 ·conv=>lhs;whnf
  exact t_ret (by rfl)
 ·conv=>lhs;whnf
  refine t_call (h_impl_arePegs _ _ _ a (by rfl)) fun r1 => ?_
  conv=>lhs;whnf
  refine t_cond ?_ ?_
  ·conv=>lhs;whnf
   exact t_ret (by rfl)
  ·conv=>lhs;whnf
   refine t_loop (fun (⟨v0, v3, v17, v18, v19⟩ : (List Pt) × Int × (List Pt) × Int × Int) => (AV.lst oa ca 2 (List.map ep v0) :: topA 2 (AV.int .i64 v3 :: topA 13 (AV.lst oa ca 2 (List.map ep v17) :: AV.int .i64 v18 :: AV.int .i64 v19 :: tops 57)), [])) (fun m (⟨v0, v3, v17, v18, v19⟩ : (List Pt) × Int × (List Pt) × Int × Int) => impl_IsPolygon_l0 L m v0 v3 v17 v18 v19) (fun _ => rfl) (fun m s rec hrec => ?_) L ((a, ilen (List.map ep a), a, ilen (List.map ep a), 0)) ?_ ?_
   rotate_left
   ·rfl
   ·rfl
   obtain ⟨v0, v3, v17, v18, v19⟩ := s
   show _ = Option.map _ (impl_IsPolygon_l0 L (m + 1) v0 v3 v17 v18 v19)
   rw [impl_IsPolygon_l0.eq_2]
   conv=>lhs;whnf
   refine t_cond ?_ ?_
   ·conv=>lhs;whnf
    refine t_get (en := ep) (l := v17) (by rfl) fun p => ?_
    conv=>lhs;whnf
    refine t_cond ?_ ?_
    ·conv=>lhs;whnf
     refine t_call (h_slices_Contains_impl_Peg_impl_Peg _ _ _ (lsub v0 0 v19) (by first | rfl | simp only [ml] <;> rfl) p.x p.y) fun r2 => ?_
     conv=>lhs;whnf
     refine t_cond ?_ ?_
     ·conv=>lhs;whnf
      exact t_ret (by rfl)
     ·conv=>lhs;whnf
      refine t_call (h_impl_at _ _ _ v0 (by rfl) (wr .i64 (isub v19 1))) fun r3 => ?_
      conv=>lhs;whnf
      refine t_call (h_impl_at _ _ _ v0 (by rfl) (wr .i64 (iadd v19 1))) fun r4 => ?_
      conv=>lhs;whnf
      refine t_call (h_impl_turn r3.1 r3.2 p.x p.y r4.1 r4.2) fun r5 => ?_
      conv=>lhs;whnf
      refine t_cond ?_ ?_
      ·conv=>lhs;whnf
       exact t_ret (by rfl)
      ·conv=>lhs;whnf
       refine t_loop (fun (v43 : Int) => (AV.lst oa ca 2 (List.map ep v0) :: topA 2 (AV.int .i64 v3 :: AV.int .i64 v19 :: AV.ptr 0 0 0 2 :: topA 11 (AV.lst oa ca 2 (List.map ep v17) :: AV.int .i64 v18 :: AV.int .i64 v19 :: topA 22 (AV.int .i64 v19 :: AV.int .i64 v43 :: tops 33))), [Blk.box (AV.agg [AV.int .i64 p.x, AV.int .i64 p.y])])) (fun m1 (v43 : Int) => impl_IsPolygon_l1 L (impl_IsPolygon_l0 L m) v0 v3 v17 v18 v19 p m1 v43) (fun _ => rfl) (fun m1 v43 rec1 hrec1 => ?_) L 0 ?_ ?_
       rotate_left
       ·rfl
       ·rfl
       show _ = Option.map _ (impl_IsPolygon_l1 L (impl_IsPolygon_l0 L m) v0 v3 v17 v18 v19 p (m1 + 1) v43)
       rw [impl_IsPolygon_l1.eq_2]
       conv=>lhs;whnf
       refine t_cond ?_ ?_
       ·conv=>lhs;whnf
        refine t_cond ?_ ?_
        ·conv=>lhs;whnf
         exact hrec1 (wr .i64 (iadd v43 1)) _ _ (by rfl) (by rfl)
        ·conv=>lhs;whnf
         refine t_cond ?_ ?_
         ·conv=>lhs;whnf
          refine t_cond ?_ ?_
          ·conv=>lhs;whnf
           exact hrec1 (wr .i64 (iadd v43 1)) _ _ (by rfl) (by rfl)
          ·conv=>lhs;whnf
           refine t_get (en := ep) (l := v0) (by rfl) fun p1 => ?_
           conv=>lhs;whnf
           refine t_get (en := ep) (l := v0) (by rfl) fun p2 => ?_
           conv=>lhs;whnf
           refine t_call (h_impl_at _ _ _ v0 (by rfl) (wr .i64 (iadd v19 1))) fun r6 => ?_
           conv=>lhs;whnf
           refine t_call (h_impl_meet p1.x p1.y p2.x p2.y p.x p.y r6.1 r6.2) fun r7 => ?_
           conv=>lhs;whnf
           refine t_cond ?_ ?_
           ·conv=>lhs;whnf
            exact t_ret (by rfl)
           ·conv=>lhs;whnf
            exact hrec1 (wr .i64 (iadd v43 1)) _ _ (by rfl) (by rfl)
         ·conv=>lhs;whnf
          refine t_get (en := ep) (l := v0) (by rfl) fun p3 => ?_
          conv=>lhs;whnf
          refine t_get (en := ep) (l := v0) (by rfl) fun p4 => ?_
          conv=>lhs;whnf
          refine t_call (h_impl_at _ _ _ v0 (by rfl) (wr .i64 (iadd v19 1))) fun r8 => ?_
          conv=>lhs;whnf
          refine t_call (h_impl_meet p3.x p3.y p4.x p4.y p.x p.y r8.1 r8.2) fun r9 => ?_
          conv=>lhs;whnf
          refine t_cond ?_ ?_
          ·conv=>lhs;whnf
           exact t_ret (by rfl)
          ·conv=>lhs;whnf
           exact hrec1 (wr .i64 (iadd v43 1)) _ _ (by rfl) (by rfl)
       ·conv=>lhs;whnf
        exact hrec ((v0, v3, v17, v18, wr .i64 (iadd v19 1))) _ _ (by rfl) (by rfl)
    ·conv=>lhs;whnf
     exact t_none
   ·conv=>lhs;whnf
    exact t_ret (by rfl)
noncomputable def impl_size (L : Nat) (a : Int) : Option (Int) := some (imax a (wr .i64 (isub 0 a)))
def impl_size_ok (L : Nat) (C : CF) : Prop := ∀ (a : Int), C 75 ([.int .i64 a]) ([]) = Option.map (fun r : Int => ((.int .i64 r, []) : AV × List Blk)) (impl_size L a)
theorem impl_size_run (L : Nat) (C : CF) : impl_size_ok L (fun _ => run T C sh (keep 75) L Tryz.f75) := by
 intro a
 unfold impl_size
 conv=>lhs;whnf
 exact t_ret (by rfl)
noncomputable def impl_divisor_l0 (L : Nat) : Nat → Int → Int → Option Int
  | 0, _, _ => none
  | m + 1, v0, v1 => bif !ieq v1 0 then (bif ieq v1 0 then (none) else (impl_divisor_l0 L m v1 (irem v0 v1))) else (gbind (impl_size L v0) fun r => some r)
noncomputable def impl_divisor (L : Nat) (a : Int) (b : Int) : Option (Int) := impl_divisor_l0 L L a b
def impl_divisor_ok (L : Nat) (C : CF) : Prop := ∀ (a : Int) (b : Int), C 84 ([.int .i64 a, .int .i64 b]) ([]) = Option.map (fun r : Int => ((.int .i64 r, []) : AV × List Blk)) (impl_divisor L a b)
theorem impl_divisor_run (L : Nat) (C : CF) (h_impl_size : impl_size_ok L C) : impl_divisor_ok L (fun _ => run T C sh (keep 84) L Tryz.f84) := by
 intro a b
 unfold impl_divisor
 conv=>lhs;whnf
 refine t_loop (fun (⟨v0, v1⟩ : Int × Int) => (AV.int .i64 v0 :: AV.int .i64 v1 :: tops 11, [])) (fun m (⟨v0, v1⟩ : Int × Int) => impl_divisor_l0 L m v0 v1) (fun _ => rfl) (fun m s rec hrec => ?_) L ((a, b)) ?_ ?_
 rotate_left
 ·rfl
 ·rfl
 obtain ⟨v0, v1⟩ := s
 show _ = Option.map _ (impl_divisor_l0 L (m + 1) v0 v1)
 rw [impl_divisor_l0.eq_2]
 conv=>lhs;whnf
 refine t_cond ?_ ?_
 ·conv=>lhs;whnf
  refine t_cond ?_ ?_
  ·conv=>lhs;whnf
   exact t_none
  ·conv=>lhs;whnf
   exact hrec ((v1, irem v0 v1)) _ _ (by rfl) (by rfl)
 ·conv=>lhs;whnf
  refine t_call (h_impl_size v0) fun r => ?_
  conv=>lhs;whnf
  exact t_ret (by rfl)
noncomputable def slices_Clone_impl_Peg_impl_Peg (L : Nat) (a : List Pt) : Option ((List Pt)) := bif ieq (ilen (List.map ep a)) 0 then (osame (fun r : (List Pt) => ((.frs 2 (List.map ep r), []) : AV × List Blk)) (some []) (bif fits (iadd (ilen ([] : List AV)) (ilen (List.map ep a))) 16 then (some (lcat [] a)) else (none))) else (bif fits (iadd (ilen ([] : List AV)) (ilen (List.map ep a))) 16 then (some (lcat [] a)) else (none))
def slices_Clone_impl_Peg_impl_Peg_ok (L : Nat) (C : CF) : Prop := ∀ (oa : Bool) (ca : Bool) (x_a : List AV) (a : List Pt) (_ : x_a = List.map ep a), C 89 ([.lst oa ca 2 x_a]) ([]) = Option.map (fun r : (List Pt) => ((.frs 2 (List.map ep r), []) : AV × List Blk)) (slices_Clone_impl_Peg_impl_Peg L a)
theorem slices_Clone_impl_Peg_impl_Peg_run (L : Nat) (C : CF) : slices_Clone_impl_Peg_impl_Peg_ok L (fun _ => run T C sh (keep 89) L Tryz.f89) := by
 intro oa ca x_a a hx_a
 subst hx_a
 unfold slices_Clone_impl_Peg_impl_Peg
 conv=>lhs;whnf
 refine t_cond ?_ ?_
 ·conv=>lhs;whnf
  refine t_same ?_ ?_
  ·conv=>lhs;whnf
   exact t_ret (by rfl)
  ·conv=>lhs;whnf
   refine t_cond ?_ ?_
   ·conv=>lhs;whnf
    exact t_ret (by first | rfl | simp only [ml] <;> rfl)
   ·conv=>lhs;whnf
    exact t_none
 ·conv=>lhs;whnf
  refine t_cond ?_ ?_
  ·conv=>lhs;whnf
   exact t_ret (by first | rfl | simp only [ml] <;> rfl)
  ·conv=>lhs;whnf
   exact t_none
noncomputable def cmp_isNaN_int (L : Nat) (a : Int) : Option (Bool) := some (!ieq a a)
def cmp_isNaN_int_ok (L : Nat) (C : CF) : Prop := ∀ (a : Int), C 117 ([.int .i64 a]) ([]) = Option.map (fun r : Bool => ((.bool r, []) : AV × List Blk)) (cmp_isNaN_int L a)
theorem cmp_isNaN_int_run (L : Nat) (C : CF) : cmp_isNaN_int_ok L (fun _ => run T C sh (keep 117) L Tryz.f117) := by
 intro a
 unfold cmp_isNaN_int
 conv=>lhs;whnf
 exact t_ret (by rfl)
noncomputable def cmp_Compare_int (L : Nat) (a : Int) (b : Int) : Option (Int) := gbind (cmp_isNaN_int L a) fun r => gbind (cmp_isNaN_int L b) fun r1 => bif r then (bif r1 then (some 0) else (some (-1))) else (bif r1 then (some 1) else (bif ilt a b then (some (-1)) else (bif ilt b a then (some 1) else (some 0))))
def cmp_Compare_int_ok (L : Nat) (C : CF) : Prop := ∀ (a : Int) (b : Int), C 106 ([.int .i64 a, .int .i64 b]) ([]) = Option.map (fun r : Int => ((.int .i64 r, []) : AV × List Blk)) (cmp_Compare_int L a b)
theorem cmp_Compare_int_run (L : Nat) (C : CF) (h_cmp_isNaN_int : cmp_isNaN_int_ok L C) : cmp_Compare_int_ok L (fun _ => run T C sh (keep 106) L Tryz.f106) := by
 intro a b
 unfold cmp_Compare_int
 conv=>lhs;whnf
 refine t_call (h_cmp_isNaN_int a) fun r => ?_
 conv=>lhs;whnf
 refine t_call (h_cmp_isNaN_int b) fun r1 => ?_
 conv=>lhs;whnf
 refine t_cond ?_ ?_
 ·conv=>lhs;whnf
  refine t_cond ?_ ?_
  ·conv=>lhs;whnf
   exact t_ret (by rfl)
  ·conv=>lhs;whnf
   exact t_ret (by rfl)
 ·conv=>lhs;whnf
  refine t_cond ?_ ?_
  ·conv=>lhs;whnf
   exact t_ret (by rfl)
  ·conv=>lhs;whnf
   refine t_cond ?_ ?_
   ·conv=>lhs;whnf
    exact t_ret (by rfl)
   ·conv=>lhs;whnf
    refine t_cond ?_ ?_
    ·conv=>lhs;whnf
     exact t_ret (by rfl)
    ·conv=>lhs;whnf
     exact t_ret (by rfl)
noncomputable def cmp_Or_int_l0 (L : Nat) (a : List Int) : Nat → Int → Option Int
  | 0, _ => none
  | m + 1, v8 => bif ilt v8 (ilen (List.map eI a)) then (gbind (lget a v8) fun p => bif !ieq p 0 then (some p) else (cmp_Or_int_l0 L a m (wr .i64 (iadd v8 1)))) else (some 0)
noncomputable def cmp_Or_int (L : Nat) (a : List Int) : Option (Int) := cmp_Or_int_l0 L a L 0
def cmp_Or_int_ok (L : Nat) (C : CF) : Prop := ∀ (oa : Bool) (ca : Bool) (x_a : List AV) (a : List Int) (_ : x_a = List.map eI a), C 105 ([.lst oa ca 1 x_a]) ([]) = Option.map (fun r : Int => ((.int .i64 r, []) : AV × List Blk)) (cmp_Or_int L a)
theorem cmp_Or_int_run (L : Nat) (C : CF) : cmp_Or_int_ok L (fun _ => run T C sh (keep 105) L Tryz.f105) := by
 intro oa ca x_a a hx_a
 subst hx_a
 unfold cmp_Or_int
 conv=>lhs;whnf
 refine t_loop (fun (v8 : Int) => (topA 3 (AV.int .i64 0 :: topA 2 (AV.lst oa ca 1 (List.map eI a) :: AV.int .i64 (ilen (List.map eI a)) :: AV.int .i64 v8 :: tops 9)), [])) (fun m (v8 : Int) => cmp_Or_int_l0 L a m v8) (fun _ => rfl) (fun m v8 rec hrec => ?_) L 0 ?_ ?_
 rotate_left
 ·rfl
 ·rfl
 show _ = Option.map _ (cmp_Or_int_l0 L a (m + 1) v8)
 rw [cmp_Or_int_l0.eq_2]
 conv=>lhs;whnf
 refine t_cond ?_ ?_
 ·conv=>lhs;whnf
  refine t_get (en := eI) (l := a) (by rfl) fun p => ?_
  conv=>lhs;whnf
  refine t_cond ?_ ?_
  ·conv=>lhs;whnf
   exact t_ret (by rfl)
  ·conv=>lhs;whnf
   exact hrec (wr .i64 (iadd v8 1)) _ _ (by rfl) (by rfl)
 ·conv=>lhs;whnf
  exact t_ret (by rfl)
noncomputable def impl_comparePegs (L : Nat) (a_0 : Int) (a_1 : Int) (b_0 : Int) (b_1 : Int) : Option (Int) := gbind (cmp_Compare_int L a_0 b_0) fun r => gbind (cmp_Compare_int L a_1 b_1) fun r1 => gbind (cmp_Or_int L (r :: (r1 :: []))) fun r2 => some r2
def impl_comparePegs_ok (L : Nat) (C : CF) : Prop := ∀ (a_0 : Int) (a_1 : Int) (b_0 : Int) (b_1 : Int), C 91 ([.agg [.int .i64 a_0, .int .i64 a_1], .agg [.int .i64 b_0, .int .i64 b_1]]) ([]) = Option.map (fun r : Int => ((.int .i64 r, []) : AV × List Blk)) (impl_comparePegs L a_0 a_1 b_0 b_1)
theorem impl_comparePegs_run (L : Nat) (C : CF) (h_cmp_Compare_int : cmp_Compare_int_ok L C) (h_cmp_Or_int : cmp_Or_int_ok L C) : impl_comparePegs_ok L (fun _ => run T C sh (keep 91) L Tryz.f91) := by
 intro a_0 a_1 b_0 b_1
 unfold impl_comparePegs
 conv=>lhs;whnf
 refine t_call (h_cmp_Compare_int a_0 b_0) fun r => ?_
 conv=>lhs;whnf
 refine t_call (h_cmp_Compare_int a_1 b_1) fun r1 => ?_
 conv=>lhs;whnf
 refine t_call (h_cmp_Or_int _ _ _ (r :: (r1 :: [])) (by rfl)) fun r2 => ?_
 conv=>lhs;whnf
 exact t_ret (by rfl)
-- EXT slices_SortFunc_impl_Peg_impl_Peg
noncomputable def slices_SortFunc_impl_Peg_impl_Peg (L : Nat) (a : List Pt) : Option (List Pt) := sortP a
def slices_SortFunc_impl_Peg_impl_Peg_ok (L : Nat) (C : CF) : Prop := ∀ (c1 : Bool) (x_a : List AV) (a : List Pt) (_ : x_a = List.map ep a), C 90 ([.own 0 2 none c1, .fn 91 [] []]) ([.rows .live 2 x_a]) = Option.map (fun r : (List Pt) => ((.tup [], [.rows .live 2 (List.map ep r)]) : AV × List Blk)) (slices_SortFunc_impl_Peg_impl_Peg L a)
noncomputable def impl_sorted (L : Nat) (a : List Pt) : Option ((List Pt)) := gbind (slices_Clone_impl_Peg_impl_Peg L a) fun r => gbind (slices_SortFunc_impl_Peg_impl_Peg L r) fun r1 => some r1
def impl_sorted_ok (L : Nat) (C : CF) : Prop := ∀ (oa : Bool) (ca : Bool) (x_a : List AV) (a : List Pt) (_ : x_a = List.map ep a), C 54 ([.lst oa ca 2 x_a]) ([]) = Option.map (fun r : (List Pt) => ((.frs 2 (List.map ep r), []) : AV × List Blk)) (impl_sorted L a)
theorem impl_sorted_run (L : Nat) (C : CF) (h_slices_Clone_impl_Peg_impl_Peg : slices_Clone_impl_Peg_impl_Peg_ok L C) (h_slices_SortFunc_impl_Peg_impl_Peg : slices_SortFunc_impl_Peg_impl_Peg_ok L C) : impl_sorted_ok L (fun _ => run T C sh (keep 54) L Tryz.f54) := by
 intro oa ca x_a a hx_a
 subst hx_a
 unfold impl_sorted
 conv=>lhs;whnf
 refine t_call (h_slices_Clone_impl_Peg_impl_Peg _ _ _ a (by rfl)) fun r => ?_
 conv=>lhs;whnf
 refine t_call (h_slices_SortFunc_impl_Peg_impl_Peg _ _ r (by rfl)) fun r1 => ?_
 conv=>lhs;whnf
 exact t_ret (by rfl)
noncomputable def impl_directions_l1 (L : Nat) (κ0 : (List Pt) → Int → Int → Int → (List Pt) → Int → Int → Int → Int → Option ((List Pt))) (v0 : List Pt) (v1 : Int) (v8 : Int) (v9 : Int) (b1_0 : Int) (b1_1 : Int) (b2_0 : Int) (b2_1 : Int) : Nat → Int → (List Pt) → Option ((List Pt))
  | 0, _, _ => none
  | m1 + 1, v10, w01 => bif ile v10 v1 then (bif ieq v8 0 then (none) else (bif !ieq (irem (wr .i64 (isub (wr .i64 (imul v9 b2_1)) (wr .i64 (imul v10 b1_1)))) v8) 0 then (impl_directions_l1 L κ0 v0 v1 v8 v9 b1_0 b1_1 b2_0 b2_1 m1 (wr .i64 (iadd v10 1)) w01) else (bif ieq v8 0 then (none) else (bif !ieq (irem (wr .i64 (isub (wr .i64 (imul v10 b1_0)) (wr .i64 (imul v9 b2_0)))) v8) 0 then (impl_directions_l1 L κ0 v0 v1 v8 v9 b1_0 b1_1 b2_0 b2_1 m1 (wr .i64 (iadd v10 1)) w01) else (bif ieq v8 0 then (none) else (bif ieq v8 0 then (none) else (gbind (impl_divisor L (wr .i64 (iquo (wr .i64 (isub (wr .i64 (imul v9 b2_1)) (wr .i64 (imul v10 b1_1)))) v8)) (wr .i64 (iquo (wr .i64 (isub (wr .i64 (imul v10 b1_0)) (wr .i64 (imul v9 b2_0)))) v8))) fun r3 => bif ieq r3 1 then (bif ilt 0 (wr .i64 (iquo (wr .i64 (isub (wr .i64 (imul v9 b2_1)) (wr .i64 (imul v10 b1_1)))) v8)) then (gbind (impl_width L v0 (wr .i64 (iquo (wr .i64 (isub (wr .i64 (imul v9 b2_1)) (wr .i64 (imul v10 b1_1)))) v8)) (wr .i64 (iquo (wr .i64 (isub (wr .i64 (imul v10 b1_0)) (wr .i64 (imul v9 b2_0)))) v8))) fun r4 => bif ile r4 v1 then (bif fits (iadd (ilen (List.map ep w01)) (ilen [AV.agg [AV.int .i64 (wr .i64 (iquo (wr .i64 (isub (wr .i64 (imul v9 b2_1)) (wr .i64 (imul v10 b1_1)))) v8)), AV.int .i64 (wr .i64 (iquo (wr .i64 (isub (wr .i64 (imul v10 b1_0)) (wr .i64 (imul v9 b2_0)))) v8))]])) 16 then (impl_directions_l1 L κ0 v0 v1 v8 v9 b1_0 b1_1 b2_0 b2_1 m1 (wr .i64 (iadd v10 1)) (lcat w01 ({ x := wr .i64 (iquo (wr .i64 (isub (wr .i64 (imul v9 b2_1)) (wr .i64 (imul v10 b1_1)))) v8), y := wr .i64 (iquo (wr .i64 (isub (wr .i64 (imul v10 b1_0)) (wr .i64 (imul v9 b2_0)))) v8) } :: []))) else (none)) else (impl_directions_l1 L κ0 v0 v1 v8 v9 b1_0 b1_1 b2_0 b2_1 m1 (wr .i64 (iadd v10 1)) w01)) else (bif ieq (wr .i64 (iquo (wr .i64 (isub (wr .i64 (imul v9 b2_1)) (wr .i64 (imul v10 b1_1)))) v8)) 0 then (bif ieq (wr .i64 (iquo (wr .i64 (isub (wr .i64 (imul v10 b1_0)) (wr .i64 (imul v9 b2_0)))) v8)) 1 then (gbind (impl_width L v0 (wr .i64 (iquo (wr .i64 (isub (wr .i64 (imul v9 b2_1)) (wr .i64 (imul v10 b1_1)))) v8)) (wr .i64 (iquo (wr .i64 (isub (wr .i64 (imul v10 b1_0)) (wr .i64 (imul v9 b2_0)))) v8))) fun r5 => bif ile r5 v1 then (bif fits (iadd (ilen (List.map ep w01)) (ilen [AV.agg [AV.int .i64 (wr .i64 (iquo (wr .i64 (isub (wr .i64 (imul v9 b2_1)) (wr .i64 (imul v10 b1_1)))) v8)), AV.int .i64 (wr .i64 (iquo (wr .i64 (isub (wr .i64 (imul v10 b1_0)) (wr .i64 (imul v9 b2_0)))) v8))]])) 16 then (impl_directions_l1 L κ0 v0 v1 v8 v9 b1_0 b1_1 b2_0 b2_1 m1 (wr .i64 (iadd v10 1)) (lcat w01 ({ x := wr .i64 (iquo (wr .i64 (isub (wr .i64 (imul v9 b2_1)) (wr .i64 (imul v10 b1_1)))) v8), y := wr .i64 (iquo (wr .i64 (isub (wr .i64 (imul v10 b1_0)) (wr .i64 (imul v9 b2_0)))) v8) } :: []))) else (none)) else (impl_directions_l1 L κ0 v0 v1 v8 v9 b1_0 b1_1 b2_0 b2_1 m1 (wr .i64 (iadd v10 1)) w01)) else (impl_directions_l1 L κ0 v0 v1 v8 v9 b1_0 b1_1 b2_0 b2_1 m1 (wr .i64 (iadd v10 1)) w01)) else (impl_directions_l1 L κ0 v0 v1 v8 v9 b1_0 b1_1 b2_0 b2_1 m1 (wr .i64 (iadd v10 1)) w01))) else (impl_directions_l1 L κ0 v0 v1 v8 v9 b1_0 b1_1 b2_0 b2_1 m1 (wr .i64 (iadd v10 1)) w01)))))))) else (κ0 v0 v1 v8 (wr .i64 (iadd v9 1)) w01 b1_0 b1_1 b2_0 b2_1)
noncomputable def impl_directions_l0 (L : Nat) : Nat → (List Pt) → Int → Int → Int → (List Pt) → Int → Int → Int → Int → Option ((List Pt))
  | 0, _, _, _, _, _, _, _, _, _ => none
  | m + 1, v0, v1, v8, v9, w0, b1_0, b1_1, b2_0, b2_1 => bif ile v9 v1 then (impl_directions_l1 L (impl_directions_l0 L m) v0 v1 v8 v9 b1_0 b1_1 b2_0 b2_1 L (wr .i64 (isub 0 v1)) w0) else (gbind (impl_sorted L w0) fun r6 => some r6)
noncomputable def impl_directions (L : Nat) (a : List Pt) (b : Int) : Option ((List Pt)) := gbind (lget a 1) fun p => gbind (lget a 0) fun p1 => gbind (impl_Peg_less L p.x p.y p1.x p1.y) fun r => gbind (lget a 2) fun p2 => gbind (lget a 0) fun p3 => gbind (impl_Peg_less L p2.x p2.y p3.x p3.y) fun r1 => gbind (impl_cross L r.1 r.2 r1.1 r1.2) fun r2 => impl_directions_l0 L L a b r2 (wr .i64 (isub 0 b)) [] r.1 r.2 r1.1 r1.2
def impl_directions_ok (L : Nat) (C : CF) : Prop := ∀ (oa : Bool) (ca : Bool) (x_a : List AV) (a : List Pt) (_ : x_a = List.map ep a) (b : Int), C 44 ([.lst oa ca 2 x_a, .int .i64 b]) ([]) = Option.map (fun r : (List Pt) => ((.frs 2 (List.map ep r), []) : AV × List Blk)) (impl_directions L a b)
theorem impl_directions_run (L : Nat) (C : CF) (h_impl_width : impl_width_ok L C) (h_impl_Peg_less : impl_Peg_less_ok L C) (h_impl_cross : impl_cross_ok L C) (h_impl_divisor : impl_divisor_ok L C) (h_impl_sorted : impl_sorted_ok L C) : impl_directions_ok L (fun _ => run T C sh (keep 44) L Tryz.f44) := by
 intro oa ca x_a a hx_a b
 subst hx_a
 unfold impl_directions
 conv=>lhs;whnf
 refine t_get (en := ep) (l := a) (by rfl) fun p => ?_
 conv=>lhs;whnf
 refine t_get (en := ep) (l := a) (by rfl) fun p1 => ?_
 conv=>lhs;whnf
 refine t_call (h_impl_Peg_less p.x p.y p1.x p1.y) fun r => ?_
 conv=>lhs;whnf
 refine t_get (en := ep) (l := a) (by rfl) fun p2 => ?_
 conv=>lhs;whnf
 refine t_get (en := ep) (l := a) (by rfl) fun p3 => ?_
 conv=>lhs;whnf
 refine t_call (h_impl_Peg_less p2.x p2.y p3.x p3.y) fun r1 => ?_
 conv=>lhs;whnf
 refine t_call (h_impl_cross r.1 r.2 r1.1 r1.2) fun r2 => ?_
 conv=>lhs;whnf
 refine t_loop (fun (⟨v0, v1, v8, v9, w0, b1_0, b1_1, b2_0, b2_1⟩ : (List Pt) × Int × Int × Int × (List Pt) × Int × Int × Int × Int) => (AV.lst oa ca 2 (List.map ep v0) :: AV.int .i64 v1 :: topA 3 (AV.own 0 2 none false :: AV.ptr 1 0 0 2 :: AV.ptr 2 0 0 2 :: AV.int .i64 v8 :: AV.int .i64 v9 :: tops 105), [Blk.rows Mode.live 2 (List.map ep w0), Blk.box (AV.agg [AV.int .i64 b1_0, AV.int .i64 b1_1]), Blk.box (AV.agg [AV.int .i64 b2_0, AV.int .i64 b2_1])])) (fun m (⟨v0, v1, v8, v9, w0, b1_0, b1_1, b2_0, b2_1⟩ : (List Pt) × Int × Int × Int × (List Pt) × Int × Int × Int × Int) => impl_directions_l0 L m v0 v1 v8 v9 w0 b1_0 b1_1 b2_0 b2_1) (fun _ => rfl) (fun m s rec hrec => ?_) L ((a, b, r2, wr .i64 (isub 0 b), [], r.1, r.2, r1.1, r1.2)) ?_ ?_
 rotate_left
 ·rfl
 ·rfl
 obtain ⟨v0, v1, v8, v9, w0, b1_0, b1_1, b2_0, b2_1⟩ := s
 show _ = Option.map _ (impl_directions_l0 L (m + 1) v0 v1 v8 v9 w0 b1_0 b1_1 b2_0 b2_1)
 rw [impl_directions_l0.eq_2]
 conv=>lhs;whnf
 refine t_cond ?_ ?_
 ·conv=>lhs;whnf
  refine t_loop (fun (⟨v10, w01⟩ : Int × (List Pt)) => (AV.lst oa ca 2 (List.map ep v0) :: AV.int .i64 v1 :: topA 3 (AV.own 0 2 none false :: AV.ptr 1 0 0 2 :: AV.ptr 2 0 0 2 :: AV.int .i64 v8 :: AV.int .i64 v9 :: AV.int .i64 v10 :: tops 104), [Blk.rows Mode.live 2 (List.map ep w01), Blk.box (AV.agg [AV.int .i64 b1_0, AV.int .i64 b1_1]), Blk.box (AV.agg [AV.int .i64 b2_0, AV.int .i64 b2_1])])) (fun m1 (⟨v10, w01⟩ : Int × (List Pt)) => impl_directions_l1 L (impl_directions_l0 L m) v0 v1 v8 v9 b1_0 b1_1 b2_0 b2_1 m1 v10 w01) (fun _ => rfl) (fun m1 s1 rec1 hrec1 => ?_) L ((wr .i64 (isub 0 v1), w0)) ?_ ?_
  rotate_left
  ·rfl
  ·rfl
  obtain ⟨v10, w01⟩ := s1
  show _ = Option.map _ (impl_directions_l1 L (impl_directions_l0 L m) v0 v1 v8 v9 b1_0 b1_1 b2_0 b2_1 (m1 + 1) v10 w01)
  rw [impl_directions_l1.eq_2]
  conv=>lhs;whnf
  refine t_cond ?_ ?_
  ·conv=>lhs;whnf
   refine t_cond ?_ ?_
   ·conv=>lhs;whnf
    exact t_none
   ·conv=>lhs;whnf
    refine t_cond ?_ ?_
    ·conv=>lhs;whnf
     exact hrec1 ((wr .i64 (iadd v10 1), w01)) _ _ (by rfl) (by rfl)
    ·conv=>lhs;whnf
     refine t_cond ?_ ?_
     ·conv=>lhs;whnf
      exact t_none
     ·conv=>lhs;whnf
      refine t_cond ?_ ?_
      ·conv=>lhs;whnf
       exact hrec1 ((wr .i64 (iadd v10 1), w01)) _ _ (by rfl) (by rfl)
      ·conv=>lhs;whnf
       refine t_cond ?_ ?_
       ·conv=>lhs;whnf
        exact t_none
       ·conv=>lhs;whnf
        refine t_cond ?_ ?_
        ·conv=>lhs;whnf
         exact t_none
        ·conv=>lhs;whnf
         refine t_call (h_impl_divisor (wr .i64 (iquo (wr .i64 (isub (wr .i64 (imul v9 b2_1)) (wr .i64 (imul v10 b1_1)))) v8)) (wr .i64 (iquo (wr .i64 (isub (wr .i64 (imul v10 b1_0)) (wr .i64 (imul v9 b2_0)))) v8))) fun r3 => ?_
         conv=>lhs;whnf
         refine t_cond ?_ ?_
         ·conv=>lhs;whnf
          refine t_cond ?_ ?_
          ·conv=>lhs;whnf
           refine t_call (h_impl_width _ _ _ v0 (by rfl) (wr .i64 (iquo (wr .i64 (isub (wr .i64 (imul v9 b2_1)) (wr .i64 (imul v10 b1_1)))) v8)) (wr .i64 (iquo (wr .i64 (isub (wr .i64 (imul v10 b1_0)) (wr .i64 (imul v9 b2_0)))) v8))) fun r4 => ?_
           conv=>lhs;whnf
           refine t_cond ?_ ?_
           ·conv=>lhs;whnf
            refine t_cond ?_ ?_
            ·conv=>lhs;whnf
             exact hrec1 ((wr .i64 (iadd v10 1), lcat w01 ({ x := wr .i64 (iquo (wr .i64 (isub (wr .i64 (imul v9 b2_1)) (wr .i64 (imul v10 b1_1)))) v8), y := wr .i64 (iquo (wr .i64 (isub (wr .i64 (imul v10 b1_0)) (wr .i64 (imul v9 b2_0)))) v8) } :: []))) _ _ (by rfl) (by first | rfl | simp only [ml] <;> rfl)
            ·conv=>lhs;whnf
             exact t_none
           ·conv=>lhs;whnf
            exact hrec1 ((wr .i64 (iadd v10 1), w01)) _ _ (by rfl) (by rfl)
          ·conv=>lhs;whnf
           refine t_cond ?_ ?_
           ·conv=>lhs;whnf
            refine t_cond ?_ ?_
            ·conv=>lhs;whnf
             refine t_call (h_impl_width _ _ _ v0 (by rfl) (wr .i64 (iquo (wr .i64 (isub (wr .i64 (imul v9 b2_1)) (wr .i64 (imul v10 b1_1)))) v8)) (wr .i64 (iquo (wr .i64 (isub (wr .i64 (imul v10 b1_0)) (wr .i64 (imul v9 b2_0)))) v8))) fun r5 => ?_
             conv=>lhs;whnf
             refine t_cond ?_ ?_
             ·conv=>lhs;whnf
              refine t_cond ?_ ?_
              ·conv=>lhs;whnf
               exact hrec1 ((wr .i64 (iadd v10 1), lcat w01 ({ x := wr .i64 (iquo (wr .i64 (isub (wr .i64 (imul v9 b2_1)) (wr .i64 (imul v10 b1_1)))) v8), y := wr .i64 (iquo (wr .i64 (isub (wr .i64 (imul v10 b1_0)) (wr .i64 (imul v9 b2_0)))) v8) } :: []))) _ _ (by rfl) (by first | rfl | simp only [ml] <;> rfl)
              ·conv=>lhs;whnf
               exact t_none
             ·conv=>lhs;whnf
              exact hrec1 ((wr .i64 (iadd v10 1), w01)) _ _ (by rfl) (by rfl)
            ·conv=>lhs;whnf
             exact hrec1 ((wr .i64 (iadd v10 1), w01)) _ _ (by rfl) (by rfl)
           ·conv=>lhs;whnf
            exact hrec1 ((wr .i64 (iadd v10 1), w01)) _ _ (by rfl) (by rfl)
         ·conv=>lhs;whnf
          exact hrec1 ((wr .i64 (iadd v10 1), w01)) _ _ (by rfl) (by rfl)
  ·conv=>lhs;whnf
   exact hrec ((v0, v1, v8, wr .i64 (iadd v9 1), w01, b1_0, b1_1, b2_0, b2_1)) _ _ (by rfl) (by rfl)
 ·conv=>lhs;whnf
  refine t_call (h_impl_sorted _ _ _ w0 (by rfl)) fun r6 => ?_
  conv=>lhs;whnf
  exact t_ret (by rfl)
noncomputable def slices_DeleteFunc_impl_Peg_impl_Peg_least_l0 (L : Nat) (b : List Pt) (n : Int) : Nat → Int → Int → (List Pt) → Option (Int × (List Pt))
  | 0, _, _, _ => none
  | m + 1, v5, v6, w0 => bif ilt v6 (ilen (List.map ep w0)) then (bif ile 0 v6 && ilt v6 (ilen (List.map ep w0)) then (gbind (lget w0 v6) fun p => gbind (impl_least_1_v2 L p.x p.y b n) fun r1 => bif !r1 then (bif ile 0 v5 && ilt v5 (ilen (List.map ep w0)) then (gbind (lget w0 v5) fun p1 => slices_DeleteFunc_impl_Peg_impl_Peg_least_l0 L b n m (wr .i64 (iadd v5 1)) (wr .i64 (iadd v6 1)) (lset w0 v5 p)) else (none)) else (slices_DeleteFunc_impl_Peg_impl_Peg_least_l0 L b n m v5 (wr .i64 (iadd v6 1)) w0)) else (none)) else (bif ile 0 v5 && ile v5 (ilen (List.map ep w0)) then (bif ile 0 v5 && ile v5 (ilen (lcat (lcat (lsub (List.map ep w0) 0 v5) (lrep (isub (ilen (List.map ep w0)) v5) (AV.agg [AV.int .i64 0, AV.int .i64 0]))) (lsub (List.map ep w0) (iadd v5 (isub (ilen (List.map ep w0)) v5)) (ilen (List.map ep w0))))) then (some ((v5, lcat (lcat (lsub w0 0 v5) (lrep (isub (ilen (List.map ep w0)) v5) ({ x := 0, y := 0 }))) (lsub w0 (iadd v5 (isub (ilen (List.map ep w0)) v5)) (ilen (List.map ep w0)))))) else (none)) else (none))
noncomputable def slices_DeleteFunc_impl_Peg_impl_Peg_least (L : Nat) (b : List Pt) (n : Int) (a : List Pt) : Option (Int × (List Pt)) := gbind (slices_IndexFunc_impl_Peg_impl_Peg_impl_least_1 L a b n) fun r => bif ieq r (-1) then (some ((ilen (List.map ep a), a))) else (slices_DeleteFunc_impl_Peg_impl_Peg_least_l0 L b n L r (wr .i64 (iadd r 1)) a)
def slices_DeleteFunc_impl_Peg_impl_Peg_least_ok (L : Nat) (C : CF) : Prop := ∀ (ob : Bool) (cb : Bool) (x_b : List AV) (b : List Pt) (_ : x_b = List.map ep b) (n : Int) (x_a : List AV) (a : List Pt) (_ : x_a = List.map ep a), C 69 ([.own 0 2 none false, .fn 70 [] [.ptr 1 0 0 1, .ptr 2 0 0 1]]) ([.rows .live 2 x_a, .box (.lst ob cb 2 x_b), .box (.int .i64 n)]) = Option.map (fun r : Int × (List Pt) => ((.own 0 2 (some (0, (r.1))) false, [.rows .live 2 (List.map ep (r.2)), .box (.lst ob cb 2 x_b), .box (.int .i64 n)]) : AV × List Blk)) (slices_DeleteFunc_impl_Peg_impl_Peg_least L b n a)
theorem slices_DeleteFunc_impl_Peg_impl_Peg_least_run (L : Nat) (C : CF) (h_impl_least_1_v2 : impl_least_1_v2_ok L C) (h_slices_IndexFunc_impl_Peg_impl_Peg_impl_least_1 : slices_IndexFunc_impl_Peg_impl_Peg_impl_least_1_ok L C) : slices_DeleteFunc_impl_Peg_impl_Peg_least_ok L (fun _ => run T C sh (keep 69) L Tryz.f69) := by
 intro ob cb x_b b hx_b n x_a a hx_a
 subst hx_b
 subst hx_a
 unfold slices_DeleteFunc_impl_Peg_impl_Peg_least
 conv=>lhs;whnf
 refine t_call (h_slices_IndexFunc_impl_Peg_impl_Peg_impl_least_1 _ a (by rfl) _ _ _ b (by rfl) n) fun r => ?_
 conv=>lhs;whnf
 refine t_cond ?_ ?_
 ·conv=>lhs;whnf
  exact t_ret (by rfl)
 ·conv=>lhs;whnf
  refine t_loop (fun (⟨v5, v6, w0⟩ : Int × Int × (List Pt)) => (AV.own 0 2 none false :: AV.fn 70 [] [AV.ptr 1 0 0 1, AV.ptr 2 0 0 1] :: topA 3 (AV.int .i64 v5 :: AV.int .i64 v6 :: tops 35), [Blk.rows Mode.live 2 (List.map ep w0), Blk.box (AV.lst ob cb 2 (List.map ep b)), Blk.box (AV.int .i64 n)])) (fun m (⟨v5, v6, w0⟩ : Int × Int × (List Pt)) => slices_DeleteFunc_impl_Peg_impl_Peg_least_l0 L b n m v5 v6 w0) (fun _ => rfl) (fun m s rec hrec => ?_) L ((r, wr .i64 (iadd r 1), a)) ?_ ?_
  rotate_left
  ·rfl
  ·rfl
  obtain ⟨v5, v6, w0⟩ := s
  show _ = Option.map _ (slices_DeleteFunc_impl_Peg_impl_Peg_least_l0 L b n (m + 1) v5 v6 w0)
  rw [slices_DeleteFunc_impl_Peg_impl_Peg_least_l0.eq_2]
  conv=>lhs;whnf
  refine t_cond ?_ ?_
  ·conv=>lhs;whnf
   refine t_cond ?_ ?_
   ·conv=>lhs;whnf
    refine t_get (en := ep) (l := w0) (by rfl) fun p => ?_
    conv=>lhs;whnf
    refine t_call (h_impl_least_1_v2 p.x p.y _ _ _ b (by rfl) n) fun r1 => ?_
    conv=>lhs;whnf
    refine t_cond ?_ ?_
    ·conv=>lhs;whnf
     refine t_cond ?_ ?_
     ·conv=>lhs;whnf
      refine t_get (en := ep) (l := w0) (by rfl) fun p1 => ?_
      conv=>lhs;whnf
      exact hrec ((wr .i64 (iadd v5 1), wr .i64 (iadd v6 1), lset w0 v5 p)) _ _ (by rfl) (by first | rfl | simp only [ml] <;> rfl)
     ·conv=>lhs;whnf
      exact t_none
    ·conv=>lhs;whnf
     exact hrec ((v5, wr .i64 (iadd v6 1), w0)) _ _ (by rfl) (by rfl)
   ·conv=>lhs;whnf
    exact t_none
  ·conv=>lhs;whnf
   refine t_cond ?_ ?_
   ·conv=>lhs;whnf
    refine t_cond ?_ ?_
    ·conv=>lhs;whnf
     exact t_ret (by first | rfl | simp only [ml] <;> rfl)
    ·conv=>lhs;whnf
     exact t_none
   ·conv=>lhs;whnf
    exact t_none
noncomputable def impl_least_l0 (L : Nat) (a : List Pt) (r2 : List Pt) : Nat → Int → Int → Option ((List Pt) × Int)
  | 0, _, _ => none
  | m + 1, v24, b2 => bif ilt v24 (ilen (List.map ep r2)) then (bif ile 0 v24 && ilt v24 (ilen (List.map ep r2)) then (gbind (lget r2 v24) fun p1 => gbind (impl_width L a p1.x p1.y) fun r4 => impl_least_l0 L a r2 m (wr .i64 (iadd v24 1)) (imin b2 r4)) else (none)) else (osame (fun r : (List Pt) × Int => ((.tup [.frs 2 (List.map ep (r.1)), .int .i64 (r.2)], []) : AV × List Blk)) (osame (fun r : (List Pt) × Int => ((.tup [.frs 2 (List.map ep (r.1)), .int .i64 (r.2)], []) : AV × List Blk)) (osame (fun r : (List Pt) × Int => ((.tup [.frs 2 (List.map ep (r.1)), .int .i64 (r.2)], []) : AV × List Blk)) (gbind (slices_DeleteFunc_impl_Peg_impl_Peg_least L a b2 r2) fun r5 => osame (fun r : (List Pt) × Int => ((.tup [.frs 2 (List.map ep (r.1)), .int .i64 (r.2)], []) : AV × List Blk)) (some ((lsub r5.2 0 (iadd 0 r5.1), b2))) (some ((lsub r5.2 0 (iadd 0 r5.1), b2)))) (gbind (slices_DeleteFunc_impl_Peg_impl_Peg_least L a b2 r2) fun r6 => some ((lsub r6.2 0 (iadd 0 r6.1), b2)))) (gbind (slices_DeleteFunc_impl_Peg_impl_Peg_least L a b2 r2) fun r7 => some ((lsub r7.2 0 (iadd 0 r7.1), b2)))) (osame (fun r : (List Pt) × Int => ((.tup [.frs 2 (List.map ep (r.1)), .int .i64 (r.2)], []) : AV × List Blk)) (osame (fun r : (List Pt) × Int => ((.tup [.frs 2 (List.map ep (r.1)), .int .i64 (r.2)], []) : AV × List Blk)) (osame (fun r : (List Pt) × Int => ((.tup [.frs 2 (List.map ep (r.1)), .int .i64 (r.2)], []) : AV × List Blk)) (gbind (slices_DeleteFunc_impl_Peg_impl_Peg_least L a b2 r2) fun r8 => osame (fun r : (List Pt) × Int => ((.tup [.frs 2 (List.map ep (r.1)), .int .i64 (r.2)], []) : AV × List Blk)) (some ((lsub r8.2 0 (iadd 0 r8.1), b2))) (some ((lsub r8.2 0 (iadd 0 r8.1), b2)))) (gbind (slices_DeleteFunc_impl_Peg_impl_Peg_least L a b2 r2) fun r9 => some ((lsub r9.2 0 (iadd 0 r9.1), b2)))) (gbind (slices_DeleteFunc_impl_Peg_impl_Peg_least L a b2 r2) fun r10 => some ((lsub r10.2 0 (iadd 0 r10.1), b2)))) (osame (fun r : (List Pt) × Int => ((.tup [.frs 2 (List.map ep (r.1)), .int .i64 (r.2)], []) : AV × List Blk)) (gbind (slices_DeleteFunc_impl_Peg_impl_Peg_least L a b2 r2) fun r11 => some ((lsub r11.2 0 (iadd 0 r11.1), b2))) (gbind (slices_DeleteFunc_impl_Peg_impl_Peg_least L a b2 r2) fun r12 => some ((lsub r12.2 0 (iadd 0 r12.1), b2))))))
noncomputable def impl_least (L : Nat) (a : List Pt) : Option ((List Pt) × Int) := gbind (impl_width L a 1 0) fun r => gbind (impl_width L a 0 1) fun r1 => gbind (impl_directions L a (imin r r1)) fun r2 => bif ile 0 0 && ilt 0 (ilen (List.map ep r2)) then (gbind (lget r2 0) fun p => gbind (impl_width L a p.x p.y) fun r3 => impl_least_l0 L a r2 L 0 r3) else (none)
def impl_least_ok (L : Nat) (C : CF) : Prop := ∀ (oa : Bool) (ca : Bool) (x_a : List AV) (a : List Pt) (_ : x_a = List.map ep a), C 33 ([.lst oa ca 2 x_a]) ([]) = Option.map (fun r : (List Pt) × Int => ((.tup [.frs 2 (List.map ep (r.1)), .int .i64 (r.2)], []) : AV × List Blk)) (impl_least L a)
theorem impl_least_run (L : Nat) (C : CF) (h_impl_width : impl_width_ok L C) (h_impl_directions : impl_directions_ok L C) (h_slices_DeleteFunc_impl_Peg_impl_Peg_least : slices_DeleteFunc_impl_Peg_impl_Peg_least_ok L C) : impl_least_ok L (fun _ => run T C sh (keep 33) L Tryz.f33) := by
 intro oa ca x_a a hx_a
 subst hx_a
 unfold impl_least
 conv=>lhs;whnf
 refine t_call (h_impl_width _ _ _ a (by rfl) 1 0) fun r => ?_
 conv=>lhs;whnf
 refine t_call (h_impl_width _ _ _ a (by rfl) 0 1) fun r1 => ?_
 conv=>lhs;whnf
 refine t_call (h_impl_directions _ _ _ a (by rfl) (imin r r1)) fun r2 => ?_
 conv=>lhs;whnf
 refine t_cond ?_ ?_
 ·conv=>lhs;whnf
  refine t_get (en := ep) (l := r2) (by rfl) fun p => ?_
  conv=>lhs;whnf
  refine t_call (h_impl_width _ _ _ a (by rfl) p.x p.y) fun r3 => ?_
  conv=>lhs;whnf
  refine t_loop (fun (⟨v24, b2⟩ : Int × Int) => (AV.top :: AV.ptr 0 0 0 1 :: topA 2 (AV.own 1 2 none false :: AV.ptr 2 0 0 1 :: topA 16 (AV.own 1 2 none false :: AV.int .i64 (ilen (List.map ep r2)) :: AV.int .i64 v24 :: tops 13)), [Blk.box (AV.lst oa ca 2 (List.map ep a)), Blk.rows Mode.live 2 (List.map ep r2), Blk.box (AV.int .i64 b2)])) (fun m (⟨v24, b2⟩ : Int × Int) => impl_least_l0 L a r2 m v24 b2) (fun _ => rfl) (fun m s rec hrec => ?_) L ((0, r3)) ?_ ?_
  rotate_left
  ·rfl
  ·rfl
  obtain ⟨v24, b2⟩ := s
  show _ = Option.map _ (impl_least_l0 L a r2 (m + 1) v24 b2)
  rw [impl_least_l0.eq_2]
  conv=>lhs;whnf
  refine t_cond ?_ ?_
  ·conv=>lhs;whnf
   refine t_cond ?_ ?_
   ·conv=>lhs;whnf
    refine t_get (en := ep) (l := r2) (by rfl) fun p1 => ?_
    conv=>lhs;whnf
    refine t_call (h_impl_width _ _ _ a (by rfl) p1.x p1.y) fun r4 => ?_
    conv=>lhs;whnf
    exact hrec ((wr .i64 (iadd v24 1), imin b2 r4)) _ _ (by rfl) (by rfl)
   ·conv=>lhs;whnf
    exact t_none
  ·conv=>lhs;whnf
   refine t_same ?_ ?_
   ·conv=>lhs;whnf
    refine t_same ?_ ?_
    ·conv=>lhs;whnf
     refine t_same ?_ ?_
     ·conv=>lhs;whnf
      refine t_call (h_slices_DeleteFunc_impl_Peg_impl_Peg_least _ _ _ a (by rfl) b2 _ r2 (by rfl)) fun r5 => ?_
      conv=>lhs;whnf
      refine t_same ?_ ?_
      ·conv=>lhs;whnf
       exact t_ret (by first | rfl | simp only [ml] <;> rfl)
      ·conv=>lhs;whnf
       exact t_ret (by first | rfl | simp only [ml] <;> rfl)
     ·conv=>lhs;whnf
      refine t_call (h_slices_DeleteFunc_impl_Peg_impl_Peg_least _ _ _ a (by rfl) b2 _ r2 (by rfl)) fun r6 => ?_
      conv=>lhs;whnf
      exact t_ret (by first | rfl | simp only [ml] <;> rfl)
    ·conv=>lhs;whnf
     refine t_call (h_slices_DeleteFunc_impl_Peg_impl_Peg_least _ _ _ a (by rfl) b2 _ r2 (by rfl)) fun r7 => ?_
     conv=>lhs;whnf
     exact t_ret (by first | rfl | simp only [ml] <;> rfl)
   ·conv=>lhs;whnf
    refine t_same ?_ ?_
    ·conv=>lhs;whnf
     refine t_same ?_ ?_
     ·conv=>lhs;whnf
      refine t_same ?_ ?_
      ·conv=>lhs;whnf
       refine t_call (h_slices_DeleteFunc_impl_Peg_impl_Peg_least _ _ _ a (by rfl) b2 _ r2 (by rfl)) fun r8 => ?_
       conv=>lhs;whnf
       refine t_same ?_ ?_
       ·conv=>lhs;whnf
        exact t_ret (by first | rfl | simp only [ml] <;> rfl)
       ·conv=>lhs;whnf
        exact t_ret (by first | rfl | simp only [ml] <;> rfl)
      ·conv=>lhs;whnf
       refine t_call (h_slices_DeleteFunc_impl_Peg_impl_Peg_least _ _ _ a (by rfl) b2 _ r2 (by rfl)) fun r9 => ?_
       conv=>lhs;whnf
       exact t_ret (by first | rfl | simp only [ml] <;> rfl)
     ·conv=>lhs;whnf
      refine t_call (h_slices_DeleteFunc_impl_Peg_impl_Peg_least _ _ _ a (by rfl) b2 _ r2 (by rfl)) fun r10 => ?_
      conv=>lhs;whnf
      exact t_ret (by first | rfl | simp only [ml] <;> rfl)
    ·conv=>lhs;whnf
     refine t_same ?_ ?_
     ·conv=>lhs;whnf
      refine t_call (h_slices_DeleteFunc_impl_Peg_impl_Peg_least _ _ _ a (by rfl) b2 _ r2 (by rfl)) fun r11 => ?_
      conv=>lhs;whnf
      exact t_ret (by first | rfl | simp only [ml] <;> rfl)
     ·conv=>lhs;whnf
      refine t_call (h_slices_DeleteFunc_impl_Peg_impl_Peg_least _ _ _ a (by rfl) b2 _ r2 (by rfl)) fun r12 => ?_
      conv=>lhs;whnf
      exact t_ret (by first | rfl | simp only [ml] <;> rfl)
 ·conv=>lhs;whnf
  exact t_none
noncomputable def impl_LeastWidth (L : Nat) (a : List Pt) : Option (Int × Bool) := gbind (impl_IsPolygon L a) fun r => bif !r then (some ((0, false))) else (gbind (impl_least L a) fun r1 => some ((r1.2, true)))
def impl_LeastWidth_ok (L : Nat) (C : CF) : Prop := ∀ (oa : Bool) (ca : Bool) (x_a : List AV) (a : List Pt) (_ : x_a = List.map ep a), C 6 ([.lst oa ca 2 x_a]) ([]) = Option.map (fun r : Int × Bool => ((.tup [.int .i64 (r.1), .bool (r.2)], []) : AV × List Blk)) (impl_LeastWidth L a)
theorem impl_LeastWidth_run (L : Nat) (C : CF) (h_impl_IsPolygon : impl_IsPolygon_ok L C) (h_impl_least : impl_least_ok L C) : impl_LeastWidth_ok L (fun _ => run T C sh (keep 6) L Tryz.f6) := by
 intro oa ca x_a a hx_a
 subst hx_a
 unfold impl_LeastWidth
 conv=>lhs;whnf
 refine t_call (h_impl_IsPolygon _ _ _ a (by rfl)) fun r => ?_
 conv=>lhs;whnf
 refine t_cond ?_ ?_
 ·conv=>lhs;whnf
  exact t_ret (by rfl)
 ·conv=>lhs;whnf
  refine t_call (h_impl_least _ _ _ a (by rfl)) fun r1 => ?_
  conv=>lhs;whnf
  exact t_ret (by rfl)
noncomputable def spec_l1Most (L : Nat) (a : Int) (b : Int) : Option (Int) := bif ilt b a then (some a) else (some b)
def spec_l1Most_ok (L : Nat) (C : CF) : Prop := ∀ (a : Int) (b : Int), C 53 ([.int .i64 a, .int .i64 b]) ([]) = Option.map (fun r : Int => ((.int .i64 r, []) : AV × List Blk)) (spec_l1Most L a b)
theorem spec_l1Most_run (L : Nat) (C : CF) : spec_l1Most_ok L (fun _ => run T C sh (keep 53) L Tryz.f53) := by
 intro a b
 unfold spec_l1Most
 conv=>lhs;whnf
 refine t_cond ?_ ?_
 ·conv=>lhs;whnf
  exact t_ret (by rfl)
 ·conv=>lhs;whnf
  exact t_ret (by rfl)
noncomputable def spec_l1Abs (L : Nat) (a : Int) : Option (Int) := gbind (spec_l1Most L a (wr .i64 (isub 0 a))) fun r => some r
def spec_l1Abs_ok (L : Nat) (C : CF) : Prop := ∀ (a : Int), C 78 ([.int .i64 a]) ([]) = Option.map (fun r : Int => ((.int .i64 r, []) : AV × List Blk)) (spec_l1Abs L a)
theorem spec_l1Abs_run (L : Nat) (C : CF) (h_spec_l1Most : spec_l1Most_ok L C) : spec_l1Abs_ok L (fun _ => run T C sh (keep 78) L Tryz.f78) := by
 intro a
 unfold spec_l1Abs
 conv=>lhs;whnf
 refine t_call (h_spec_l1Most a (wr .i64 (isub 0 a))) fun r => ?_
 conv=>lhs;whnf
 exact t_ret (by rfl)
noncomputable def spec_pgCommon_l0 (L : Nat) : Nat → Int → Int → Option Int
  | 0, _, _ => none
  | m + 1, v0, v1 => bif ilt 0 v1 then (bif ieq v1 0 then (none) else (spec_pgCommon_l0 L m v1 (irem v0 v1))) else (some v0)
noncomputable def spec_pgCommon (L : Nat) (a : Int) (b : Int) : Option (Int) := gbind (spec_l1Abs L a) fun r => gbind (spec_l1Abs L b) fun r1 => spec_pgCommon_l0 L L r r1
def spec_pgCommon_ok (L : Nat) (C : CF) : Prop := ∀ (a : Int) (b : Int), C 74 ([.int .i64 a, .int .i64 b]) ([]) = Option.map (fun r : Int => ((.int .i64 r, []) : AV × List Blk)) (spec_pgCommon L a b)
theorem spec_pgCommon_run (L : Nat) (C : CF) (h_spec_l1Abs : spec_l1Abs_ok L C) : spec_pgCommon_ok L (fun _ => run T C sh (keep 74) L Tryz.f74) := by
 intro a b
 unfold spec_pgCommon
 conv=>lhs;whnf
 refine t_call (h_spec_l1Abs a) fun r => ?_
 conv=>lhs;whnf
 refine t_call (h_spec_l1Abs b) fun r1 => ?_
 conv=>lhs;whnf
 refine t_loop (fun (⟨v0, v1⟩ : Int × Int) => (AV.int .i64 v0 :: AV.int .i64 v1 :: tops 14, [])) (fun m (⟨v0, v1⟩ : Int × Int) => spec_pgCommon_l0 L m v0 v1) (fun _ => rfl) (fun m s rec hrec => ?_) L ((r, r1)) ?_ ?_
 rotate_left
 ·rfl
 ·rfl
 obtain ⟨v0, v1⟩ := s
 show _ = Option.map _ (spec_pgCommon_l0 L (m + 1) v0 v1)
 rw [spec_pgCommon_l0.eq_2]
 conv=>lhs;whnf
 refine t_cond ?_ ?_
 ·conv=>lhs;whnf
  refine t_cond ?_ ?_
  ·conv=>lhs;whnf
   exact t_none
  ·conv=>lhs;whnf
   exact hrec ((v1, irem v0 v1)) _ _ (by rfl) (by rfl)
 ·conv=>lhs;whnf
  exact t_ret (by rfl)
noncomputable def spec_l1Least (L : Nat) (a : Int) (b : Int) : Option (Int) := bif ilt a b then (some a) else (some b)
def spec_l1Least_ok (L : Nat) (C : CF) : Prop := ∀ (a : Int) (b : Int), C 92 ([.int .i64 a, .int .i64 b]) ([]) = Option.map (fun r : Int => ((.int .i64 r, []) : AV × List Blk)) (spec_l1Least L a b)
theorem spec_l1Least_run (L : Nat) (C : CF) : spec_l1Least_ok L (fun _ => run T C sh (keep 92) L Tryz.f92) := by
 intro a b
 unfold spec_l1Least
 conv=>lhs;whnf
 refine t_cond ?_ ?_
 ·conv=>lhs;whnf
  exact t_ret (by rfl)
 ·conv=>lhs;whnf
  exact t_ret (by rfl)
noncomputable def spec_wiRange_l0 (L : Nat) (a : List Pt) (b : Int) (c : Int) : Nat → Int → Int → Int → Option (Int × Int)
  | 0, _, _, _ => none
  | m + 1, v8, v9, v29 => bif ilt v29 (ilen (List.map ep a)) then (gbind (lget a v29) fun p2 => gbind (spec_l1Least L v8 (wr .i64 (iadd (wr .i64 (imul b p2.x)) (wr .i64 (imul c p2.y))))) fun r => gbind (spec_l1Most L v9 (wr .i64 (iadd (wr .i64 (imul b p2.x)) (wr .i64 (imul c p2.y))))) fun r1 => spec_wiRange_l0 L a b c m r r1 (wr .i64 (iadd v29 1))) else (some ((v8, v9)))
noncomputable def spec_wiRange (L : Nat) (a : List Pt) (b : Int) (c : Int) : Option (Int × Int) := gbind (lget a 0) fun p => gbind (lget a 0) fun p1 => spec_wiRange_l0 L a b c L (wr .i64 (iadd (wr .i64 (imul b p.x)) (wr .i64 (imul c p1.y)))) (wr .i64 (iadd (wr .i64 (imul b p.x)) (wr .i64 (imul c p1.y)))) 0
def spec_wiRange_ok (L : Nat) (C : CF) : Prop := ∀ (oa : Bool) (ca : Bool) (x_a : List AV) (a : List Pt) (_ : x_a = List.map ep a) (b : Int) (c : Int), C 55 ([.lst oa ca 2 x_a, .int .i64 b, .int .i64 c]) ([]) = Option.map (fun r : Int × Int => ((.tup [.int .i64 (r.1), .int .i64 (r.2)], []) : AV × List Blk)) (spec_wiRange L a b c)
theorem spec_wiRange_run (L : Nat) (C : CF) (h_spec_l1Most : spec_l1Most_ok L C) (h_spec_l1Least : spec_l1Least_ok L C) : spec_wiRange_ok L (fun _ => run T C sh (keep 55) L Tryz.f55) := by
 intro oa ca x_a a hx_a b c
 subst hx_a
 unfold spec_wiRange
 conv=>lhs;whnf
 refine t_get (en := ep) (l := a) (by rfl) fun p => ?_
 conv=>lhs;whnf
 refine t_get (en := ep) (l := a) (by rfl) fun p1 => ?_
 conv=>lhs;whnf
 refine t_loop (fun (⟨v8, v9, v29⟩ : Int × Int × Int) => (AV.top :: AV.int .i64 b :: AV.int .i64 c :: topA 5 (AV.int .i64 v8 :: AV.int .i64 v9 :: topA 17 (AV.lst oa ca 2 (List.map ep a) :: AV.int .i64 (ilen (List.map ep a)) :: AV.int .i64 v29 :: tops 21)), [])) (fun m (⟨v8, v9, v29⟩ : Int × Int × Int) => spec_wiRange_l0 L a b c m v8 v9 v29) (fun _ => rfl) (fun m s rec hrec => ?_) L ((wr .i64 (iadd (wr .i64 (imul b p.x)) (wr .i64 (imul c p1.y))), wr .i64 (iadd (wr .i64 (imul b p.x)) (wr .i64 (imul c p1.y))), 0)) ?_ ?_
 rotate_left
 ·rfl
 ·rfl
 obtain ⟨v8, v9, v29⟩ := s
 show _ = Option.map _ (spec_wiRange_l0 L a b c (m + 1) v8 v9 v29)
 rw [spec_wiRange_l0.eq_2]
 conv=>lhs;whnf
 refine t_cond ?_ ?_
 ·conv=>lhs;whnf
  refine t_get (en := ep) (l := a) (by rfl) fun p2 => ?_
  conv=>lhs;whnf
  refine t_call (h_spec_l1Least v8 (wr .i64 (iadd (wr .i64 (imul b p2.x)) (wr .i64 (imul c p2.y))))) fun r => ?_
  conv=>lhs;whnf
  refine t_call (h_spec_l1Most v9 (wr .i64 (iadd (wr .i64 (imul b p2.x)) (wr .i64 (imul c p2.y))))) fun r1 => ?_
  conv=>lhs;whnf
  exact hrec ((r, r1, wr .i64 (iadd v29 1))) _ _ (by rfl) (by rfl)
 ·conv=>lhs;whnf
  exact t_ret (by rfl)
noncomputable def spec_wiWidth (L : Nat) (a : List Pt) (b : Int) (c : Int) : Option (Int) := gbind (spec_wiRange L a b c) fun r => some (wr .i64 (isub r.2 r.1))
def spec_wiWidth_ok (L : Nat) (C : CF) : Prop := ∀ (oa : Bool) (ca : Bool) (x_a : List AV) (a : List Pt) (_ : x_a = List.map ep a) (b : Int) (c : Int), C 57 ([.lst oa ca 2 x_a, .int .i64 b, .int .i64 c]) ([]) = Option.map (fun r : Int => ((.int .i64 r, []) : AV × List Blk)) (spec_wiWidth L a b c)
theorem spec_wiWidth_run (L : Nat) (C : CF) (h_spec_wiRange : spec_wiRange_ok L C) : spec_wiWidth_ok L (fun _ => run T C sh (keep 57) L Tryz.f57) := by
 intro oa ca x_a a hx_a b c
 subst hx_a
 unfold spec_wiWidth
 conv=>lhs;whnf
 refine t_call (h_spec_wiRange _ _ _ a (by rfl) b c) fun r => ?_
 conv=>lhs;whnf
 exact t_ret (by rfl)
noncomputable def spec_wiAll_l2 (L : Nat) (κ1 : (List Pt) → Int → Int → (List (List Int)) → Int → Int → Int → Int → Int → Int → Option ((List (List Int)))) (v01 : List Pt) (v11 : Int) (v71 : Int) (v81 : List (List Int)) (v91 : Int) (v10 : Int) (b0_01 : Int) (b0_11 : Int) (b1_01 : Int) (b1_11 : Int) : Nat → Int → Option ((List (List Int)))
  | 0, _ => none
  | m2 + 1, v15 => bif ilt 0 v15 then (gbind (lget v81 (wr .i64 (isub v15 1))) fun p8 => gbind (lget p8 0) fun p9 => bif ilt (wr .i64 (iquo (wr .i64 (isub (wr .i64 (imul v91 b1_11)) (wr .i64 (imul v10 b0_11)))) v71)) p9 then (spec_wiAll_l2 L κ1 v01 v11 v71 v81 v91 v10 b0_01 b0_11 b1_01 b1_11 m2 (wr .i64 (isub v15 1))) else (gbind (lget v81 (wr .i64 (isub v15 1))) fun p10 => gbind (lget p10 0) fun p11 => bif ieq (wr .i64 (iquo (wr .i64 (isub (wr .i64 (imul v91 b1_11)) (wr .i64 (imul v10 b0_11)))) v71)) p11 then (gbind (lget v81 (wr .i64 (isub v15 1))) fun p12 => gbind (lget p12 1) fun p13 => bif ilt (wr .i64 (iquo (wr .i64 (isub (wr .i64 (imul v10 b0_01)) (wr .i64 (imul v91 b1_01)))) v71)) p13 then (spec_wiAll_l2 L κ1 v01 v11 v71 v81 v91 v10 b0_01 b0_11 b1_01 b1_11 m2 (wr .i64 (isub v15 1))) else (bif ile 0 v15 && ile v15 (ilen (List.map eLI v81)) then (bif fits (iadd (ilen ([] : List AV)) (ilen (lsub (List.map eLI v81) 0 v15))) 24 then (bif fits (iadd (ilen (lcat [] (lsub (List.map eLI v81) 0 v15))) (ilen [AV.lst false false 1 [AV.int .i64 (wr .i64 (iquo (wr .i64 (isub (wr .i64 (imul v91 b1_11)) (wr .i64 (imul v10 b0_11)))) v71)), AV.int .i64 (wr .i64 (iquo (wr .i64 (isub (wr .i64 (imul v10 b0_01)) (wr .i64 (imul v91 b1_01)))) v71))]])) 24 then (bif ile 0 v15 && ile v15 (ilen (List.map eLI v81)) then (bif fits (iadd (ilen (lcat (lcat [] (lsub (List.map eLI v81) 0 v15)) [AV.lst false false 1 [AV.int .i64 (wr .i64 (iquo (wr .i64 (isub (wr .i64 (imul v91 b1_11)) (wr .i64 (imul v10 b0_11)))) v71)), AV.int .i64 (wr .i64 (iquo (wr .i64 (isub (wr .i64 (imul v10 b0_01)) (wr .i64 (imul v91 b1_01)))) v71))]])) (ilen (lsub (List.map eLI v81) v15 (ilen (List.map eLI v81))))) 24 then (κ1 v01 v11 v71 (lcat (lcat (lcat [] (lsub v81 0 v15)) ((wr .i64 (iquo (wr .i64 (isub (wr .i64 (imul v91 b1_11)) (wr .i64 (imul v10 b0_11)))) v71) :: (wr .i64 (iquo (wr .i64 (isub (wr .i64 (imul v10 b0_01)) (wr .i64 (imul v91 b1_01)))) v71) :: [])) :: [])) (lsub v81 v15 (ilen (List.map eLI v81)))) v91 (wr .i64 (iadd v10 1)) b0_01 b0_11 b1_01 b1_11) else (none)) else (none)) else (none)) else (none)) else (none))) else (bif ile 0 v15 && ile v15 (ilen (List.map eLI v81)) then (bif fits (iadd (ilen ([] : List AV)) (ilen (lsub (List.map eLI v81) 0 v15))) 24 then (bif fits (iadd (ilen (lcat [] (lsub (List.map eLI v81) 0 v15))) (ilen [AV.lst false false 1 [AV.int .i64 (wr .i64 (iquo (wr .i64 (isub (wr .i64 (imul v91 b1_11)) (wr .i64 (imul v10 b0_11)))) v71)), AV.int .i64 (wr .i64 (iquo (wr .i64 (isub (wr .i64 (imul v10 b0_01)) (wr .i64 (imul v91 b1_01)))) v71))]])) 24 then (bif ile 0 v15 && ile v15 (ilen (List.map eLI v81)) then (bif fits (iadd (ilen (lcat (lcat [] (lsub (List.map eLI v81) 0 v15)) [AV.lst false false 1 [AV.int .i64 (wr .i64 (iquo (wr .i64 (isub (wr .i64 (imul v91 b1_11)) (wr .i64 (imul v10 b0_11)))) v71)), AV.int .i64 (wr .i64 (iquo (wr .i64 (isub (wr .i64 (imul v10 b0_01)) (wr .i64 (imul v91 b1_01)))) v71))]])) (ilen (lsub (List.map eLI v81) v15 (ilen (List.map eLI v81))))) 24 then (κ1 v01 v11 v71 (lcat (lcat (lcat [] (lsub v81 0 v15)) ((wr .i64 (iquo (wr .i64 (isub (wr .i64 (imul v91 b1_11)) (wr .i64 (imul v10 b0_11)))) v71) :: (wr .i64 (iquo (wr .i64 (isub (wr .i64 (imul v10 b0_01)) (wr .i64 (imul v91 b1_01)))) v71) :: [])) :: [])) (lsub v81 v15 (ilen (List.map eLI v81)))) v91 (wr .i64 (iadd v10 1)) b0_01 b0_11 b1_01 b1_11) else (none)) else (none)) else (none)) else (none)) else (none)))) else (bif ile 0 v15 && ile v15 (ilen (List.map eLI v81)) then (bif fits (iadd (ilen ([] : List AV)) (ilen (lsub (List.map eLI v81) 0 v15))) 24 then (bif fits (iadd (ilen (lcat [] (lsub (List.map eLI v81) 0 v15))) (ilen [AV.lst false false 1 [AV.int .i64 (wr .i64 (iquo (wr .i64 (isub (wr .i64 (imul v91 b1_11)) (wr .i64 (imul v10 b0_11)))) v71)), AV.int .i64 (wr .i64 (iquo (wr .i64 (isub (wr .i64 (imul v10 b0_01)) (wr .i64 (imul v91 b1_01)))) v71))]])) 24 then (bif ile 0 v15 && ile v15 (ilen (List.map eLI v81)) then (bif fits (iadd (ilen (lcat (lcat [] (lsub (List.map eLI v81) 0 v15)) [AV.lst false false 1 [AV.int .i64 (wr .i64 (iquo (wr .i64 (isub (wr .i64 (imul v91 b1_11)) (wr .i64 (imul v10 b0_11)))) v71)), AV.int .i64 (wr .i64 (iquo (wr .i64 (isub (wr .i64 (imul v10 b0_01)) (wr .i64 (imul v91 b1_01)))) v71))]])) (ilen (lsub (List.map eLI v81) v15 (ilen (List.map eLI v81))))) 24 then (κ1 v01 v11 v71 (lcat (lcat (lcat [] (lsub v81 0 v15)) ((wr .i64 (iquo (wr .i64 (isub (wr .i64 (imul v91 b1_11)) (wr .i64 (imul v10 b0_11)))) v71) :: (wr .i64 (iquo (wr .i64 (isub (wr .i64 (imul v10 b0_01)) (wr .i64 (imul v91 b1_01)))) v71) :: [])) :: [])) (lsub v81 v15 (ilen (List.map eLI v81)))) v91 (wr .i64 (iadd v10 1)) b0_01 b0_11 b1_01 b1_11) else (none)) else (none)) else (none)) else (none)) else (none))
noncomputable def spec_wiAll_l3 (L : Nat) (κ1 : (List Pt) → Int → Int → (List (List Int)) → Int → Int → Int → Int → Int → Int → Option ((List (List Int)))) (v01 : List Pt) (v11 : Int) (v71 : Int) (v81 : List (List Int)) (v91 : Int) (v10 : Int) (b0_01 : Int) (b0_11 : Int) (b1_01 : Int) (b1_11 : Int) : Nat → Int → Option ((List (List Int)))
  | 0, _ => none
  | m3 + 1, v151 => bif ilt 0 v151 then (gbind (lget v81 (wr .i64 (isub v151 1))) fun p14 => gbind (lget p14 0) fun p15 => bif ilt (wr .i64 (iquo (wr .i64 (isub (wr .i64 (imul v91 b1_11)) (wr .i64 (imul v10 b0_11)))) v71)) p15 then (spec_wiAll_l3 L κ1 v01 v11 v71 v81 v91 v10 b0_01 b0_11 b1_01 b1_11 m3 (wr .i64 (isub v151 1))) else (gbind (lget v81 (wr .i64 (isub v151 1))) fun p16 => gbind (lget p16 0) fun p17 => bif ieq (wr .i64 (iquo (wr .i64 (isub (wr .i64 (imul v91 b1_11)) (wr .i64 (imul v10 b0_11)))) v71)) p17 then (gbind (lget v81 (wr .i64 (isub v151 1))) fun p18 => gbind (lget p18 1) fun p19 => bif ilt (wr .i64 (iquo (wr .i64 (isub (wr .i64 (imul v10 b0_01)) (wr .i64 (imul v91 b1_01)))) v71)) p19 then (spec_wiAll_l3 L κ1 v01 v11 v71 v81 v91 v10 b0_01 b0_11 b1_01 b1_11 m3 (wr .i64 (isub v151 1))) else (bif ile 0 v151 && ile v151 (ilen (List.map eLI v81)) then (bif fits (iadd (ilen ([] : List AV)) (ilen (lsub (List.map eLI v81) 0 v151))) 24 then (bif fits (iadd (ilen (lcat [] (lsub (List.map eLI v81) 0 v151))) (ilen [AV.lst false false 1 [AV.int .i64 (wr .i64 (iquo (wr .i64 (isub (wr .i64 (imul v91 b1_11)) (wr .i64 (imul v10 b0_11)))) v71)), AV.int .i64 (wr .i64 (iquo (wr .i64 (isub (wr .i64 (imul v10 b0_01)) (wr .i64 (imul v91 b1_01)))) v71))]])) 24 then (bif ile 0 v151 && ile v151 (ilen (List.map eLI v81)) then (bif fits (iadd (ilen (lcat (lcat [] (lsub (List.map eLI v81) 0 v151)) [AV.lst false false 1 [AV.int .i64 (wr .i64 (iquo (wr .i64 (isub (wr .i64 (imul v91 b1_11)) (wr .i64 (imul v10 b0_11)))) v71)), AV.int .i64 (wr .i64 (iquo (wr .i64 (isub (wr .i64 (imul v10 b0_01)) (wr .i64 (imul v91 b1_01)))) v71))]])) (ilen (lsub (List.map eLI v81) v151 (ilen (List.map eLI v81))))) 24 then (κ1 v01 v11 v71 (lcat (lcat (lcat [] (lsub v81 0 v151)) ((wr .i64 (iquo (wr .i64 (isub (wr .i64 (imul v91 b1_11)) (wr .i64 (imul v10 b0_11)))) v71) :: (wr .i64 (iquo (wr .i64 (isub (wr .i64 (imul v10 b0_01)) (wr .i64 (imul v91 b1_01)))) v71) :: [])) :: [])) (lsub v81 v151 (ilen (List.map eLI v81)))) v91 (wr .i64 (iadd v10 1)) b0_01 b0_11 b1_01 b1_11) else (none)) else (none)) else (none)) else (none)) else (none))) else (bif ile 0 v151 && ile v151 (ilen (List.map eLI v81)) then (bif fits (iadd (ilen ([] : List AV)) (ilen (lsub (List.map eLI v81) 0 v151))) 24 then (bif fits (iadd (ilen (lcat [] (lsub (List.map eLI v81) 0 v151))) (ilen [AV.lst false false 1 [AV.int .i64 (wr .i64 (iquo (wr .i64 (isub (wr .i64 (imul v91 b1_11)) (wr .i64 (imul v10 b0_11)))) v71)), AV.int .i64 (wr .i64 (iquo (wr .i64 (isub (wr .i64 (imul v10 b0_01)) (wr .i64 (imul v91 b1_01)))) v71))]])) 24 then (bif ile 0 v151 && ile v151 (ilen (List.map eLI v81)) then (bif fits (iadd (ilen (lcat (lcat [] (lsub (List.map eLI v81) 0 v151)) [AV.lst false false 1 [AV.int .i64 (wr .i64 (iquo (wr .i64 (isub (wr .i64 (imul v91 b1_11)) (wr .i64 (imul v10 b0_11)))) v71)), AV.int .i64 (wr .i64 (iquo (wr .i64 (isub (wr .i64 (imul v10 b0_01)) (wr .i64 (imul v91 b1_01)))) v71))]])) (ilen (lsub (List.map eLI v81) v151 (ilen (List.map eLI v81))))) 24 then (κ1 v01 v11 v71 (lcat (lcat (lcat [] (lsub v81 0 v151)) ((wr .i64 (iquo (wr .i64 (isub (wr .i64 (imul v91 b1_11)) (wr .i64 (imul v10 b0_11)))) v71) :: (wr .i64 (iquo (wr .i64 (isub (wr .i64 (imul v10 b0_01)) (wr .i64 (imul v91 b1_01)))) v71) :: [])) :: [])) (lsub v81 v151 (ilen (List.map eLI v81)))) v91 (wr .i64 (iadd v10 1)) b0_01 b0_11 b1_01 b1_11) else (none)) else (none)) else (none)) else (none)) else (none)))) else (bif ile 0 v151 && ile v151 (ilen (List.map eLI v81)) then (bif fits (iadd (ilen ([] : List AV)) (ilen (lsub (List.map eLI v81) 0 v151))) 24 then (bif fits (iadd (ilen (lcat [] (lsub (List.map eLI v81) 0 v151))) (ilen [AV.lst false false 1 [AV.int .i64 (wr .i64 (iquo (wr .i64 (isub (wr .i64 (imul v91 b1_11)) (wr .i64 (imul v10 b0_11)))) v71)), AV.int .i64 (wr .i64 (iquo (wr .i64 (isub (wr .i64 (imul v10 b0_01)) (wr .i64 (imul v91 b1_01)))) v71))]])) 24 then (bif ile 0 v151 && ile v151 (ilen (List.map eLI v81)) then (bif fits (iadd (ilen (lcat (lcat [] (lsub (List.map eLI v81) 0 v151)) [AV.lst false false 1 [AV.int .i64 (wr .i64 (iquo (wr .i64 (isub (wr .i64 (imul v91 b1_11)) (wr .i64 (imul v10 b0_11)))) v71)), AV.int .i64 (wr .i64 (iquo (wr .i64 (isub (wr .i64 (imul v10 b0_01)) (wr .i64 (imul v91 b1_01)))) v71))]])) (ilen (lsub (List.map eLI v81) v151 (ilen (List.map eLI v81))))) 24 then (κ1 v01 v11 v71 (lcat (lcat (lcat [] (lsub v81 0 v151)) ((wr .i64 (iquo (wr .i64 (isub (wr .i64 (imul v91 b1_11)) (wr .i64 (imul v10 b0_11)))) v71) :: (wr .i64 (iquo (wr .i64 (isub (wr .i64 (imul v10 b0_01)) (wr .i64 (imul v91 b1_01)))) v71) :: [])) :: [])) (lsub v81 v151 (ilen (List.map eLI v81)))) v91 (wr .i64 (iadd v10 1)) b0_01 b0_11 b1_01 b1_11) else (none)) else (none)) else (none)) else (none)) else (none))
noncomputable def spec_wiAll_l1 (L : Nat) (κ0 : (List Pt) → Int → Int → (List (List Int)) → Int → Int → Int → Int → Int → Option ((List (List Int)))) : Nat → (List Pt) → Int → Int → (List (List Int)) → Int → Int → Int → Int → Int → Int → Option ((List (List Int)))
  | 0, _, _, _, _, _, _, _, _, _, _ => none
  | m1 + 1, v01, v11, v71, v81, v91, v10, b0_01, b0_11, b1_01, b1_11 => bif ile v10 v11 then (bif ieq v71 0 then (none) else (bif !ieq (irem (wr .i64 (isub (wr .i64 (imul v91 b1_11)) (wr .i64 (imul v10 b0_11)))) v71) 0 then (spec_wiAll_l1 L κ0 m1 v01 v11 v71 v81 v91 (wr .i64 (iadd v10 1)) b0_01 b0_11 b1_01 b1_11) else (bif ieq v71 0 then (none) else (bif !ieq (irem (wr .i64 (isub (wr .i64 (imul v10 b0_01)) (wr .i64 (imul v91 b1_01)))) v71) 0 then (spec_wiAll_l1 L κ0 m1 v01 v11 v71 v81 v91 (wr .i64 (iadd v10 1)) b0_01 b0_11 b1_01 b1_11) else (bif ieq v71 0 then (none) else (bif ieq v71 0 then (none) else (bif ilt (wr .i64 (iquo (wr .i64 (isub (wr .i64 (imul v91 b1_11)) (wr .i64 (imul v10 b0_11)))) v71)) 0 then (spec_wiAll_l1 L κ0 m1 v01 v11 v71 v81 v91 (wr .i64 (iadd v10 1)) b0_01 b0_11 b1_01 b1_11) else (bif ieq (wr .i64 (iquo (wr .i64 (isub (wr .i64 (imul v91 b1_11)) (wr .i64 (imul v10 b0_11)))) v71)) 0 then (bif ilt (wr .i64 (iquo (wr .i64 (isub (wr .i64 (imul v10 b0_01)) (wr .i64 (imul v91 b1_01)))) v71)) 1 then (spec_wiAll_l1 L κ0 m1 v01 v11 v71 v81 v91 (wr .i64 (iadd v10 1)) b0_01 b0_11 b1_01 b1_11) else (gbind (spec_pgCommon L (wr .i64 (iquo (wr .i64 (isub (wr .i64 (imul v91 b1_11)) (wr .i64 (imul v10 b0_11)))) v71)) (wr .i64 (iquo (wr .i64 (isub (wr .i64 (imul v10 b0_01)) (wr .i64 (imul v91 b1_01)))) v71))) fun r => bif !ieq r 1 then (spec_wiAll_l1 L κ0 m1 v01 v11 v71 v81 v91 (wr .i64 (iadd v10 1)) b0_01 b0_11 b1_01 b1_11) else (gbind (spec_wiWidth L v01 (wr .i64 (iquo (wr .i64 (isub (wr .i64 (imul v91 b1_11)) (wr .i64 (imul v10 b0_11)))) v71)) (wr .i64 (iquo (wr .i64 (isub (wr .i64 (imul v10 b0_01)) (wr .i64 (imul v91 b1_01)))) v71))) fun r1 => bif ilt v11 r1 then (spec_wiAll_l1 L κ0 m1 v01 v11 v71 v81 v91 (wr .i64 (iadd v10 1)) b0_01 b0_11 b1_01 b1_11) else (spec_wiAll_l2 L (spec_wiAll_l1 L κ0 m1) v01 v11 v71 v81 v91 v10 b0_01 b0_11 b1_01 b1_11 L (ilen (List.map eLI v81)))))) else (gbind (spec_pgCommon L (wr .i64 (iquo (wr .i64 (isub (wr .i64 (imul v91 b1_11)) (wr .i64 (imul v10 b0_11)))) v71)) (wr .i64 (iquo (wr .i64 (isub (wr .i64 (imul v10 b0_01)) (wr .i64 (imul v91 b1_01)))) v71))) fun r2 => bif !ieq r2 1 then (spec_wiAll_l1 L κ0 m1 v01 v11 v71 v81 v91 (wr .i64 (iadd v10 1)) b0_01 b0_11 b1_01 b1_11) else (gbind (spec_wiWidth L v01 (wr .i64 (iquo (wr .i64 (isub (wr .i64 (imul v91 b1_11)) (wr .i64 (imul v10 b0_11)))) v71)) (wr .i64 (iquo (wr .i64 (isub (wr .i64 (imul v10 b0_01)) (wr .i64 (imul v91 b1_01)))) v71))) fun r3 => bif ilt v11 r3 then (spec_wiAll_l1 L κ0 m1 v01 v11 v71 v81 v91 (wr .i64 (iadd v10 1)) b0_01 b0_11 b1_01 b1_11) else (spec_wiAll_l3 L (spec_wiAll_l1 L κ0 m1) v01 v11 v71 v81 v91 v10 b0_01 b0_11 b1_01 b1_11 L (ilen (List.map eLI v81))))))))))))) else (κ0 v01 v11 v71 v81 (wr .i64 (iadd v91 1)) b0_01 b0_11 b1_01 b1_11)
noncomputable def spec_wiAll_l0 (L : Nat) : Nat → (List Pt) → Int → Int → (List (List Int)) → Int → Int → Int → Int → Int → Option ((List (List Int)))
  | 0, _, _, _, _, _, _, _, _, _ => none
  | m + 1, v0, v1, v7, v8, v9, b0_0, b0_1, b1_0, b1_1 => bif ile v9 v1 then (spec_wiAll_l1 L (spec_wiAll_l0 L m) L v0 v1 v7 v8 v9 (wr .i64 (isub 0 v1)) b0_0 b0_1 b1_0 b1_1) else (some v8)
noncomputable def spec_wiAll (L : Nat) (a : List Pt) (b : Int) : Option ((List (List Int))) := gbind (lget a 1) fun p => gbind (lget a 0) fun p1 => gbind (lget a 1) fun p2 => gbind (lget a 0) fun p3 => gbind (lget a 2) fun p4 => gbind (lget a 0) fun p5 => gbind (lget a 2) fun p6 => gbind (lget a 0) fun p7 => spec_wiAll_l0 L L a b (wr .i64 (isub (wr .i64 (imul (wr .i64 (isub p.x p1.x)) (wr .i64 (isub p6.y p7.y)))) (wr .i64 (imul (wr .i64 (isub p2.y p3.y)) (wr .i64 (isub p4.x p5.x)))))) [] (wr .i64 (isub 0 b)) (wr .i64 (isub p.x p1.x)) (wr .i64 (isub p2.y p3.y)) (wr .i64 (isub p4.x p5.x)) (wr .i64 (isub p6.y p7.y))
def spec_wiAll_ok (L : Nat) (C : CF) : Prop := ∀ (oa : Bool) (ca : Bool) (x_a : List AV) (a : List Pt) (_ : x_a = List.map ep a) (b : Int), C 36 ([.lst oa ca 2 x_a, .int .i64 b]) ([]) = Option.map (fun r : (List (List Int)) => ((.lst false false 1 (List.map eLI r), []) : AV × List Blk)) (spec_wiAll L a b)
theorem spec_wiAll_run (L : Nat) (C : CF) (h_spec_pgCommon : spec_pgCommon_ok L C) (h_spec_wiWidth : spec_wiWidth_ok L C) : spec_wiAll_ok L (fun _ => run T C sh (keep 36) L Tryz.f36) := by
 intro oa ca x_a a hx_a b
 subst hx_a
 unfold spec_wiAll
 conv=>lhs;whnf
 refine t_get (en := ep) (l := a) (by rfl) fun p => ?_
 conv=>lhs;whnf
 refine t_get (en := ep) (l := a) (by rfl) fun p1 => ?_
 conv=>lhs;whnf
 refine t_get (en := ep) (l := a) (by rfl) fun p2 => ?_
 conv=>lhs;whnf
 refine t_get (en := ep) (l := a) (by rfl) fun p3 => ?_
 conv=>lhs;whnf
 refine t_get (en := ep) (l := a) (by rfl) fun p4 => ?_
 conv=>lhs;whnf
 refine t_get (en := ep) (l := a) (by rfl) fun p5 => ?_
 conv=>lhs;whnf
 refine t_get (en := ep) (l := a) (by rfl) fun p6 => ?_
 conv=>lhs;whnf
 refine t_get (en := ep) (l := a) (by rfl) fun p7 => ?_
 conv=>lhs;whnf
 refine t_loop (fun (⟨v0, v1, v7, v8, v9, b0_0, b0_1, b1_0, b1_1⟩ : (List Pt) × Int × Int × (List (List Int)) × Int × Int × Int × Int × Int) => (AV.lst oa ca 2 (List.map ep v0) :: AV.int .i64 v1 :: topA 3 (AV.ptr 0 0 0 2 :: AV.ptr 1 0 0 2 :: AV.int .i64 v7 :: AV.lst false false 1 (List.map eLI v8) :: AV.int .i64 v9 :: tops 183), [Blk.box (AV.agg [AV.int .i64 b0_0, AV.int .i64 b0_1]), Blk.box (AV.agg [AV.int .i64 b1_0, AV.int .i64 b1_1])])) (fun m (⟨v0, v1, v7, v8, v9, b0_0, b0_1, b1_0, b1_1⟩ : (List Pt) × Int × Int × (List (List Int)) × Int × Int × Int × Int × Int) => spec_wiAll_l0 L m v0 v1 v7 v8 v9 b0_0 b0_1 b1_0 b1_1) (fun _ => rfl) (fun m s rec hrec => ?_) L ((a, b, wr .i64 (isub (wr .i64 (imul (wr .i64 (isub p.x p1.x)) (wr .i64 (isub p6.y p7.y)))) (wr .i64 (imul (wr .i64 (isub p2.y p3.y)) (wr .i64 (isub p4.x p5.x))))), [], wr .i64 (isub 0 b), wr .i64 (isub p.x p1.x), wr .i64 (isub p2.y p3.y), wr .i64 (isub p4.x p5.x), wr .i64 (isub p6.y p7.y))) ?_ ?_
 rotate_left
 ·rfl
 ·rfl
 obtain ⟨v0, v1, v7, v8, v9, b0_0, b0_1, b1_0, b1_1⟩ := s
 show _ = Option.map _ (spec_wiAll_l0 L (m + 1) v0 v1 v7 v8 v9 b0_0 b0_1 b1_0 b1_1)
 rw [spec_wiAll_l0.eq_2]
 conv=>lhs;whnf
 refine t_cond ?_ ?_
 ·conv=>lhs;whnf
  refine t_loop (fun (⟨v01, v11, v71, v81, v91, v10, b0_01, b0_11, b1_01, b1_11⟩ : (List Pt) × Int × Int × (List (List Int)) × Int × Int × Int × Int × Int × Int) => (AV.lst oa ca 2 (List.map ep v01) :: AV.int .i64 v11 :: topA 3 (AV.ptr 0 0 0 2 :: AV.ptr 1 0 0 2 :: AV.int .i64 v71 :: AV.lst false false 1 (List.map eLI v81) :: AV.int .i64 v91 :: AV.int .i64 v10 :: tops 182), [Blk.box (AV.agg [AV.int .i64 b0_01, AV.int .i64 b0_11]), Blk.box (AV.agg [AV.int .i64 b1_01, AV.int .i64 b1_11])])) (fun m1 (⟨v01, v11, v71, v81, v91, v10, b0_01, b0_11, b1_01, b1_11⟩ : (List Pt) × Int × Int × (List (List Int)) × Int × Int × Int × Int × Int × Int) => spec_wiAll_l1 L (spec_wiAll_l0 L m) m1 v01 v11 v71 v81 v91 v10 b0_01 b0_11 b1_01 b1_11) (fun _ => rfl) (fun m1 s1 rec1 hrec1 => ?_) L ((v0, v1, v7, v8, v9, wr .i64 (isub 0 v1), b0_0, b0_1, b1_0, b1_1)) ?_ ?_
  rotate_left
  ·rfl
  ·rfl
  obtain ⟨v01, v11, v71, v81, v91, v10, b0_01, b0_11, b1_01, b1_11⟩ := s1
  show _ = Option.map _ (spec_wiAll_l1 L (spec_wiAll_l0 L m) (m1 + 1) v01 v11 v71 v81 v91 v10 b0_01 b0_11 b1_01 b1_11)
  rw [spec_wiAll_l1.eq_2]
  conv=>lhs;whnf
  refine t_cond ?_ ?_
  ·conv=>lhs;whnf
   refine t_cond ?_ ?_
   ·conv=>lhs;whnf
    exact t_none
   ·conv=>lhs;whnf
    refine t_cond ?_ ?_
    ·conv=>lhs;whnf
     exact hrec1 ((v01, v11, v71, v81, v91, wr .i64 (iadd v10 1), b0_01, b0_11, b1_01, b1_11)) _ _ (by rfl) (by rfl)
    ·conv=>lhs;whnf
     refine t_cond ?_ ?_
     ·conv=>lhs;whnf
      exact t_none
     ·conv=>lhs;whnf
      refine t_cond ?_ ?_
      ·conv=>lhs;whnf
       exact hrec1 ((v01, v11, v71, v81, v91, wr .i64 (iadd v10 1), b0_01, b0_11, b1_01, b1_11)) _ _ (by rfl) (by rfl)
      ·conv=>lhs;whnf
       refine t_cond ?_ ?_
       ·conv=>lhs;whnf
        exact t_none
       ·conv=>lhs;whnf
        refine t_cond ?_ ?_
        ·conv=>lhs;whnf
         exact t_none
        ·conv=>lhs;whnf
         refine t_cond ?_ ?_
         ·conv=>lhs;whnf
          exact hrec1 ((v01, v11, v71, v81, v91, wr .i64 (iadd v10 1), b0_01, b0_11, b1_01, b1_11)) _ _ (by rfl) (by rfl)
         ·conv=>lhs;whnf
          refine t_cond ?_ ?_
          ·conv=>lhs;whnf
           refine t_cond ?_ ?_
           ·conv=>lhs;whnf
            exact hrec1 ((v01, v11, v71, v81, v91, wr .i64 (iadd v10 1), b0_01, b0_11, b1_01, b1_11)) _ _ (by rfl) (by rfl)
           ·conv=>lhs;whnf
            refine t_call (h_spec_pgCommon (wr .i64 (iquo (wr .i64 (isub (wr .i64 (imul v91 b1_11)) (wr .i64 (imul v10 b0_11)))) v71)) (wr .i64 (iquo (wr .i64 (isub (wr .i64 (imul v10 b0_01)) (wr .i64 (imul v91 b1_01)))) v71))) fun r => ?_
            conv=>lhs;whnf
            refine t_cond ?_ ?_
            ·conv=>lhs;whnf
             exact hrec1 ((v01, v11, v71, v81, v91, wr .i64 (iadd v10 1), b0_01, b0_11, b1_01, b1_11)) _ _ (by rfl) (by rfl)
            ·conv=>lhs;whnf
             refine t_call (h_spec_wiWidth _ _ _ v01 (by rfl) (wr .i64 (iquo (wr .i64 (isub (wr .i64 (imul v91 b1_11)) (wr .i64 (imul v10 b0_11)))) v71)) (wr .i64 (iquo (wr .i64 (isub (wr .i64 (imul v10 b0_01)) (wr .i64 (imul v91 b1_01)))) v71))) fun r1 => ?_
             conv=>lhs;whnf
             refine t_cond ?_ ?_
             ·conv=>lhs;whnf
              exact hrec1 ((v01, v11, v71, v81, v91, wr .i64 (iadd v10 1), b0_01, b0_11, b1_01, b1_11)) _ _ (by rfl) (by rfl)
             ·conv=>lhs;whnf
              refine t_loop (fun (v15 : Int) => (AV.lst oa ca 2 (List.map ep v01) :: AV.int .i64 v11 :: topA 3 (AV.ptr 0 0 0 2 :: AV.ptr 1 0 0 2 :: AV.int .i64 v71 :: AV.lst false false 1 (List.map eLI v81) :: AV.int .i64 v91 :: AV.int .i64 v10 :: topA 2 (AV.int .i64 (wr .i64 (iquo (wr .i64 (isub (wr .i64 (imul v91 b1_11)) (wr .i64 (imul v10 b0_11)))) v71)) :: AV.int .i64 (wr .i64 (iquo (wr .i64 (isub (wr .i64 (imul v10 b0_01)) (wr .i64 (imul v91 b1_01)))) v71)) :: AV.int .i64 v15 :: tops 177)), [Blk.box (AV.agg [AV.int .i64 b0_01, AV.int .i64 b0_11]), Blk.box (AV.agg [AV.int .i64 b1_01, AV.int .i64 b1_11])])) (fun m2 (v15 : Int) => spec_wiAll_l2 L (spec_wiAll_l1 L (spec_wiAll_l0 L m) m1) v01 v11 v71 v81 v91 v10 b0_01 b0_11 b1_01 b1_11 m2 v15) (fun _ => rfl) (fun m2 v15 rec2 hrec2 => ?_) L (ilen (List.map eLI v81)) ?_ ?_
              rotate_left
              ·rfl
              ·rfl
              show _ = Option.map _ (spec_wiAll_l2 L (spec_wiAll_l1 L (spec_wiAll_l0 L m) m1) v01 v11 v71 v81 v91 v10 b0_01 b0_11 b1_01 b1_11 (m2 + 1) v15)
              rw [spec_wiAll_l2.eq_2]
              conv=>lhs;whnf
              refine t_cond ?_ ?_
              ·conv=>lhs;whnf
               refine t_get (en := eLI) (l := v81) (by rfl) fun p8 => ?_
               conv=>lhs;whnf
               refine t_get (en := eI) (l := p8) (by rfl) fun p9 => ?_
               conv=>lhs;whnf
               refine t_cond ?_ ?_
               ·conv=>lhs;whnf
                exact hrec2 (wr .i64 (isub v15 1)) _ _ (by rfl) (by rfl)
               ·conv=>lhs;whnf
                refine t_get (en := eLI) (l := v81) (by rfl) fun p10 => ?_
                conv=>lhs;whnf
                refine t_get (en := eI) (l := p10) (by rfl) fun p11 => ?_
                conv=>lhs;whnf
                refine t_cond ?_ ?_
                ·conv=>lhs;whnf
                 refine t_get (en := eLI) (l := v81) (by rfl) fun p12 => ?_
                 conv=>lhs;whnf
                 refine t_get (en := eI) (l := p12) (by rfl) fun p13 => ?_
                 conv=>lhs;whnf
                 refine t_cond ?_ ?_
                 ·conv=>lhs;whnf
                  exact hrec2 (wr .i64 (isub v15 1)) _ _ (by rfl) (by rfl)
                 ·conv=>lhs;whnf
                  refine t_cond ?_ ?_
                  ·conv=>lhs;whnf
                   refine t_cond ?_ ?_
                   ·conv=>lhs;whnf
                    refine t_cond ?_ ?_
                    ·conv=>lhs;whnf
                     refine t_cond ?_ ?_
                     ·conv=>lhs;whnf
                      refine t_cond ?_ ?_
                      ·conv=>lhs;whnf
                       exact hrec1 ((v01, v11, v71, lcat (lcat (lcat [] (lsub v81 0 v15)) ((wr .i64 (iquo (wr .i64 (isub (wr .i64 (imul v91 b1_11)) (wr .i64 (imul v10 b0_11)))) v71) :: (wr .i64 (iquo (wr .i64 (isub (wr .i64 (imul v10 b0_01)) (wr .i64 (imul v91 b1_01)))) v71) :: [])) :: [])) (lsub v81 v15 (ilen (List.map eLI v81))), v91, wr .i64 (iadd v10 1), b0_01, b0_11, b1_01, b1_11)) _ _ (by first | rfl | simp only [ml] <;> rfl) (by rfl)
                      ·conv=>lhs;whnf
                       exact t_none
                     ·conv=>lhs;whnf
                      exact t_none
                    ·conv=>lhs;whnf
                     exact t_none
                   ·conv=>lhs;whnf
                    exact t_none
                  ·conv=>lhs;whnf
                   exact t_none
                ·conv=>lhs;whnf
                 refine t_cond ?_ ?_
                 ·conv=>lhs;whnf
                  refine t_cond ?_ ?_
                  ·conv=>lhs;whnf
                   refine t_cond ?_ ?_
                   ·conv=>lhs;whnf
                    refine t_cond ?_ ?_
                    ·conv=>lhs;whnf
                     refine t_cond ?_ ?_
                     ·conv=>lhs;whnf
                      exact hrec1 ((v01, v11, v71, lcat (lcat (lcat [] (lsub v81 0 v15)) ((wr .i64 (iquo (wr .i64 (isub (wr .i64 (imul v91 b1_11)) (wr .i64 (imul v10 b0_11)))) v71) :: (wr .i64 (iquo (wr .i64 (isub (wr .i64 (imul v10 b0_01)) (wr .i64 (imul v91 b1_01)))) v71) :: [])) :: [])) (lsub v81 v15 (ilen (List.map eLI v81))), v91, wr .i64 (iadd v10 1), b0_01, b0_11, b1_01, b1_11)) _ _ (by first | rfl | simp only [ml] <;> rfl) (by rfl)
                     ·conv=>lhs;whnf
                      exact t_none
                    ·conv=>lhs;whnf
                     exact t_none
                   ·conv=>lhs;whnf
                    exact t_none
                  ·conv=>lhs;whnf
                   exact t_none
                 ·conv=>lhs;whnf
                  exact t_none
              ·conv=>lhs;whnf
               refine t_cond ?_ ?_
               ·conv=>lhs;whnf
                refine t_cond ?_ ?_
                ·conv=>lhs;whnf
                 refine t_cond ?_ ?_
                 ·conv=>lhs;whnf
                  refine t_cond ?_ ?_
                  ·conv=>lhs;whnf
                   refine t_cond ?_ ?_
                   ·conv=>lhs;whnf
                    exact hrec1 ((v01, v11, v71, lcat (lcat (lcat [] (lsub v81 0 v15)) ((wr .i64 (iquo (wr .i64 (isub (wr .i64 (imul v91 b1_11)) (wr .i64 (imul v10 b0_11)))) v71) :: (wr .i64 (iquo (wr .i64 (isub (wr .i64 (imul v10 b0_01)) (wr .i64 (imul v91 b1_01)))) v71) :: [])) :: [])) (lsub v81 v15 (ilen (List.map eLI v81))), v91, wr .i64 (iadd v10 1), b0_01, b0_11, b1_01, b1_11)) _ _ (by first | rfl | simp only [ml] <;> rfl) (by rfl)
                   ·conv=>lhs;whnf
                    exact t_none
                  ·conv=>lhs;whnf
                   exact t_none
                 ·conv=>lhs;whnf
                  exact t_none
                ·conv=>lhs;whnf
                 exact t_none
               ·conv=>lhs;whnf
                exact t_none
          ·conv=>lhs;whnf
           refine t_call (h_spec_pgCommon (wr .i64 (iquo (wr .i64 (isub (wr .i64 (imul v91 b1_11)) (wr .i64 (imul v10 b0_11)))) v71)) (wr .i64 (iquo (wr .i64 (isub (wr .i64 (imul v10 b0_01)) (wr .i64 (imul v91 b1_01)))) v71))) fun r2 => ?_
           conv=>lhs;whnf
           refine t_cond ?_ ?_
           ·conv=>lhs;whnf
            exact hrec1 ((v01, v11, v71, v81, v91, wr .i64 (iadd v10 1), b0_01, b0_11, b1_01, b1_11)) _ _ (by rfl) (by rfl)
           ·conv=>lhs;whnf
            refine t_call (h_spec_wiWidth _ _ _ v01 (by rfl) (wr .i64 (iquo (wr .i64 (isub (wr .i64 (imul v91 b1_11)) (wr .i64 (imul v10 b0_11)))) v71)) (wr .i64 (iquo (wr .i64 (isub (wr .i64 (imul v10 b0_01)) (wr .i64 (imul v91 b1_01)))) v71))) fun r3 => ?_
            conv=>lhs;whnf
            refine t_cond ?_ ?_
            ·conv=>lhs;whnf
             exact hrec1 ((v01, v11, v71, v81, v91, wr .i64 (iadd v10 1), b0_01, b0_11, b1_01, b1_11)) _ _ (by rfl) (by rfl)
            ·conv=>lhs;whnf
             refine t_loop (fun (v151 : Int) => (AV.lst oa ca 2 (List.map ep v01) :: AV.int .i64 v11 :: topA 3 (AV.ptr 0 0 0 2 :: AV.ptr 1 0 0 2 :: AV.int .i64 v71 :: AV.lst false false 1 (List.map eLI v81) :: AV.int .i64 v91 :: AV.int .i64 v10 :: topA 2 (AV.int .i64 (wr .i64 (iquo (wr .i64 (isub (wr .i64 (imul v91 b1_11)) (wr .i64 (imul v10 b0_11)))) v71)) :: AV.int .i64 (wr .i64 (iquo (wr .i64 (isub (wr .i64 (imul v10 b0_01)) (wr .i64 (imul v91 b1_01)))) v71)) :: AV.int .i64 v151 :: tops 177)), [Blk.box (AV.agg [AV.int .i64 b0_01, AV.int .i64 b0_11]), Blk.box (AV.agg [AV.int .i64 b1_01, AV.int .i64 b1_11])])) (fun m3 (v151 : Int) => spec_wiAll_l3 L (spec_wiAll_l1 L (spec_wiAll_l0 L m) m1) v01 v11 v71 v81 v91 v10 b0_01 b0_11 b1_01 b1_11 m3 v151) (fun _ => rfl) (fun m3 v151 rec3 hrec3 => ?_) L (ilen (List.map eLI v81)) ?_ ?_
             rotate_left
             ·rfl
             ·rfl
             show _ = Option.map _ (spec_wiAll_l3 L (spec_wiAll_l1 L (spec_wiAll_l0 L m) m1) v01 v11 v71 v81 v91 v10 b0_01 b0_11 b1_01 b1_11 (m3 + 1) v151)
             rw [spec_wiAll_l3.eq_2]
             conv=>lhs;whnf
             refine t_cond ?_ ?_
             ·conv=>lhs;whnf
              refine t_get (en := eLI) (l := v81) (by rfl) fun p14 => ?_
              conv=>lhs;whnf
              refine t_get (en := eI) (l := p14) (by rfl) fun p15 => ?_
              conv=>lhs;whnf
              refine t_cond ?_ ?_
              ·conv=>lhs;whnf
               exact hrec3 (wr .i64 (isub v151 1)) _ _ (by rfl) (by rfl)
              ·conv=>lhs;whnf
               refine t_get (en := eLI) (l := v81) (by rfl) fun p16 => ?_
               conv=>lhs;whnf
               refine t_get (en := eI) (l := p16) (by rfl) fun p17 => ?_
               conv=>lhs;whnf
               refine t_cond ?_ ?_
               ·conv=>lhs;whnf
                refine t_get (en := eLI) (l := v81) (by rfl) fun p18 => ?_
                conv=>lhs;whnf
                refine t_get (en := eI) (l := p18) (by rfl) fun p19 => ?_
                conv=>lhs;whnf
                refine t_cond ?_ ?_
                ·conv=>lhs;whnf
                 exact hrec3 (wr .i64 (isub v151 1)) _ _ (by rfl) (by rfl)
                ·conv=>lhs;whnf
                 refine t_cond ?_ ?_
                 ·conv=>lhs;whnf
                  refine t_cond ?_ ?_
                  ·conv=>lhs;whnf
                   refine t_cond ?_ ?_
                   ·conv=>lhs;whnf
                    refine t_cond ?_ ?_
                    ·conv=>lhs;whnf
                     refine t_cond ?_ ?_
                     ·conv=>lhs;whnf
                      exact hrec1 ((v01, v11, v71, lcat (lcat (lcat [] (lsub v81 0 v151)) ((wr .i64 (iquo (wr .i64 (isub (wr .i64 (imul v91 b1_11)) (wr .i64 (imul v10 b0_11)))) v71) :: (wr .i64 (iquo (wr .i64 (isub (wr .i64 (imul v10 b0_01)) (wr .i64 (imul v91 b1_01)))) v71) :: [])) :: [])) (lsub v81 v151 (ilen (List.map eLI v81))), v91, wr .i64 (iadd v10 1), b0_01, b0_11, b1_01, b1_11)) _ _ (by first | rfl | simp only [ml] <;> rfl) (by rfl)
                     ·conv=>lhs;whnf
                      exact t_none
                    ·conv=>lhs;whnf
                     exact t_none
                   ·conv=>lhs;whnf
                    exact t_none
                  ·conv=>lhs;whnf
                   exact t_none
                 ·conv=>lhs;whnf
                  exact t_none
               ·conv=>lhs;whnf
                refine t_cond ?_ ?_
                ·conv=>lhs;whnf
                 refine t_cond ?_ ?_
                 ·conv=>lhs;whnf
                  refine t_cond ?_ ?_
                  ·conv=>lhs;whnf
                   refine t_cond ?_ ?_
                   ·conv=>lhs;whnf
                    refine t_cond ?_ ?_
                    ·conv=>lhs;whnf
                     exact hrec1 ((v01, v11, v71, lcat (lcat (lcat [] (lsub v81 0 v151)) ((wr .i64 (iquo (wr .i64 (isub (wr .i64 (imul v91 b1_11)) (wr .i64 (imul v10 b0_11)))) v71) :: (wr .i64 (iquo (wr .i64 (isub (wr .i64 (imul v10 b0_01)) (wr .i64 (imul v91 b1_01)))) v71) :: [])) :: [])) (lsub v81 v151 (ilen (List.map eLI v81))), v91, wr .i64 (iadd v10 1), b0_01, b0_11, b1_01, b1_11)) _ _ (by first | rfl | simp only [ml] <;> rfl) (by rfl)
                    ·conv=>lhs;whnf
                     exact t_none
                   ·conv=>lhs;whnf
                    exact t_none
                  ·conv=>lhs;whnf
                   exact t_none
                 ·conv=>lhs;whnf
                  exact t_none
                ·conv=>lhs;whnf
                 exact t_none
             ·conv=>lhs;whnf
              refine t_cond ?_ ?_
              ·conv=>lhs;whnf
               refine t_cond ?_ ?_
               ·conv=>lhs;whnf
                refine t_cond ?_ ?_
                ·conv=>lhs;whnf
                 refine t_cond ?_ ?_
                 ·conv=>lhs;whnf
                  refine t_cond ?_ ?_
                  ·conv=>lhs;whnf
                   exact hrec1 ((v01, v11, v71, lcat (lcat (lcat [] (lsub v81 0 v151)) ((wr .i64 (iquo (wr .i64 (isub (wr .i64 (imul v91 b1_11)) (wr .i64 (imul v10 b0_11)))) v71) :: (wr .i64 (iquo (wr .i64 (isub (wr .i64 (imul v10 b0_01)) (wr .i64 (imul v91 b1_01)))) v71) :: [])) :: [])) (lsub v81 v151 (ilen (List.map eLI v81))), v91, wr .i64 (iadd v10 1), b0_01, b0_11, b1_01, b1_11)) _ _ (by first | rfl | simp only [ml] <;> rfl) (by rfl)
                  ·conv=>lhs;whnf
                   exact t_none
                 ·conv=>lhs;whnf
                  exact t_none
                ·conv=>lhs;whnf
                 exact t_none
               ·conv=>lhs;whnf
                exact t_none
              ·conv=>lhs;whnf
               exact t_none
  ·conv=>lhs;whnf
   exact hrec ((v01, v11, v71, v81, wr .i64 (iadd v91 1), b0_01, b0_11, b1_01, b1_11)) _ _ (by rfl) (by rfl)
 ·conv=>lhs;whnf
  exact t_ret (by rfl)
noncomputable def spec_wiLeast_l0 (L : Nat) (a : List Pt) : Nat → Int → Option (Int × (List (List Int)))
  | 0, _ => none
  | m + 1, v4 => gbind (spec_wiAll L a v4) fun r => bif ilt 0 (ilen (List.map eLI r)) then (some ((v4, r))) else (spec_wiLeast_l0 L a m (wr .i64 (iadd v4 1)))
noncomputable def spec_wiLeast (L : Nat) (a : List Pt) : Option (Int × (List (List Int))) := spec_wiLeast_l0 L a L 1
def spec_wiLeast_ok (L : Nat) (C : CF) : Prop := ∀ (oa : Bool) (ca : Bool) (x_a : List AV) (a : List Pt) (_ : x_a = List.map ep a), C 35 ([.lst oa ca 2 x_a]) ([]) = Option.map (fun r : Int × (List (List Int)) => ((.tup [.int .i64 (r.1), .lst false false 1 (List.map eLI (r.2))], []) : AV × List Blk)) (spec_wiLeast L a)
theorem spec_wiLeast_run (L : Nat) (C : CF) (h_spec_wiAll : spec_wiAll_ok L C) : spec_wiLeast_ok L (fun _ => run T C sh (keep 35) L Tryz.f35) := by
 intro oa ca x_a a hx_a
 subst hx_a
 unfold spec_wiLeast
 conv=>lhs;whnf
 refine t_loop (fun (v4 : Int) => (AV.lst oa ca 2 (List.map ep a) :: topA 3 (AV.int .i64 v4 :: tops 11), [])) (fun m (v4 : Int) => spec_wiLeast_l0 L a m v4) (fun _ => rfl) (fun m v4 rec hrec => ?_) L 1 ?_ ?_
 rotate_left
 ·rfl
 ·rfl
 show _ = Option.map _ (spec_wiLeast_l0 L a (m + 1) v4)
 rw [spec_wiLeast_l0.eq_2]
 conv=>lhs;whnf
 refine t_call (h_spec_wiAll _ _ _ a (by rfl) v4) fun r => ?_
 conv=>lhs;whnf
 refine t_cond ?_ ?_
 ·conv=>lhs;whnf
  exact t_ret (by rfl)
 ·conv=>lhs;whnf
  exact hrec (wr .i64 (iadd v4 1)) _ _ (by rfl) (by rfl)
noncomputable def spec_LeastWidth (L : Nat) (a : List Pt) : Option (Int × Bool) := gbind (spec_pgGood L a) fun r => bif !r then (some ((0, false))) else (gbind (spec_wiLeast L a) fun r1 => some ((r1.1, true)))
def spec_LeastWidth_ok (L : Nat) (C : CF) : Prop := ∀ (oa : Bool) (ca : Bool) (x_a : List AV) (a : List Pt) (_ : x_a = List.map ep a), C 7 ([.lst oa ca 2 x_a]) ([]) = Option.map (fun r : Int × Bool => ((.tup [.int .i64 (r.1), .bool (r.2)], []) : AV × List Blk)) (spec_LeastWidth L a)
theorem spec_LeastWidth_run (L : Nat) (C : CF) (h_spec_pgGood : spec_pgGood_ok L C) (h_spec_wiLeast : spec_wiLeast_ok L C) : spec_LeastWidth_ok L (fun _ => run T C sh (keep 7) L Tryz.f7) := by
 intro oa ca x_a a hx_a
 subst hx_a
 unfold spec_LeastWidth
 conv=>lhs;whnf
 refine t_call (h_spec_pgGood _ _ _ a (by rfl)) fun r => ?_
 conv=>lhs;whnf
 refine t_cond ?_ ?_
 ·conv=>lhs;whnf
  exact t_ret (by rfl)
 ·conv=>lhs;whnf
  refine t_call (h_spec_wiLeast _ _ _ a (by rfl)) fun r1 => ?_
  conv=>lhs;whnf
  exact t_ret (by rfl)
noncomputable def impl_DirectionsOfWidth_l0 (L : Nat) (r1 : List Pt × Int) : Nat → Int → (List (List Int)) → Option ((List (List Int)) × Bool)
  | 0, _, _ => none
  | m + 1, v20, w0 => bif ilt v20 (ilen (List.map ep r1.1)) then (bif ile 0 v20 && ilt v20 (ilen (List.map ep r1.1)) then (gbind (lget r1.1 v20) fun p => bif fits (iadd (ilen (List.map eLI w0)) (ilen [AV.lst false false 1 [AV.int .i64 p.x, AV.int .i64 p.y]])) 24 then (impl_DirectionsOfWidth_l0 L r1 m (wr .i64 (iadd v20 1)) (lcat w0 ((p.x :: (p.y :: [])) :: []))) else (none)) else (none)) else (some ((w0, true)))
noncomputable def impl_DirectionsOfWidth (L : Nat) (a : List Pt) : Option ((List (List Int)) × Bool) := gbind (impl_IsPolygon L a) fun r => bif !r then (some (([], false))) else (gbind (impl_least L a) fun r1 => impl_DirectionsOfWidth_l0 L r1 L 0 [])
def impl_DirectionsOfWidth_ok (L : Nat) (C : CF) : Prop := ∀ (oa : Bool) (ca : Bool) (x_a : List AV) (a : List Pt) (_ : x_a = List.map ep a), C 8 ([.lst oa ca 2 x_a]) ([]) = Option.map (fun r : (List (List Int)) × Bool => ((.tup [.frs 1 (List.map eLI (r.1)), .bool (r.2)], []) : AV × List Blk)) (impl_DirectionsOfWidth L a)
theorem impl_DirectionsOfWidth_run (L : Nat) (C : CF) (h_impl_IsPolygon : impl_IsPolygon_ok L C) (h_impl_least : impl_least_ok L C) : impl_DirectionsOfWidth_ok L (fun _ => run T C sh (keep 8) L Tryz.f8) := by
 intro oa ca x_a a hx_a
 subst hx_a
 unfold impl_DirectionsOfWidth
 conv=>lhs;whnf
 refine t_call (h_impl_IsPolygon _ _ _ a (by rfl)) fun r => ?_
 conv=>lhs;whnf
 refine t_cond ?_ ?_
 ·conv=>lhs;whnf
  exact t_ret (by rfl)
 ·conv=>lhs;whnf
  refine t_call (h_impl_least _ _ _ a (by rfl)) fun r1 => ?_
  conv=>lhs;whnf
  refine t_loop (fun (⟨v20, w0⟩ : Int × (List (List Int))) => (topA 6 (AV.own 0 1 none false :: topA 11 (AV.own 1 2 none false :: AV.int .i64 (ilen (List.map ep r1.1)) :: AV.int .i64 v20 :: tops 13)), [Blk.rows Mode.live 1 (List.map eLI w0), Blk.rows Mode.live 2 (List.map ep r1.1)])) (fun m (⟨v20, w0⟩ : Int × (List (List Int))) => impl_DirectionsOfWidth_l0 L r1 m v20 w0) (fun _ => rfl) (fun m s rec hrec => ?_) L ((0, [])) ?_ ?_
  rotate_left
  ·rfl
  ·rfl
  obtain ⟨v20, w0⟩ := s
  show _ = Option.map _ (impl_DirectionsOfWidth_l0 L r1 (m + 1) v20 w0)
  rw [impl_DirectionsOfWidth_l0.eq_2]
  conv=>lhs;whnf
  refine t_cond ?_ ?_
  ·conv=>lhs;whnf
   refine t_cond ?_ ?_
   ·conv=>lhs;whnf
    refine t_get (en := ep) (l := r1.1) (by rfl) fun p => ?_
    conv=>lhs;whnf
    refine t_cond ?_ ?_
    ·conv=>lhs;whnf
     exact hrec ((wr .i64 (iadd v20 1), lcat w0 ((p.x :: (p.y :: [])) :: []))) _ _ (by rfl) (by first | rfl | simp only [ml] <;> rfl)
    ·conv=>lhs;whnf
     exact t_none
   ·conv=>lhs;whnf
    exact t_none
  ·conv=>lhs;whnf
   exact t_ret (by rfl)
noncomputable def spec_DirectionsOfWidth (L : Nat) (a : List Pt) : Option ((List (List Int)) × Bool) := gbind (spec_pgGood L a) fun r => bif !r then (some (([], false))) else (gbind (spec_wiLeast L a) fun r1 => some ((r1.2, true)))
def spec_DirectionsOfWidth_ok (L : Nat) (C : CF) : Prop := ∀ (oa : Bool) (ca : Bool) (x_a : List AV) (a : List Pt) (_ : x_a = List.map ep a), C 9 ([.lst oa ca 2 x_a]) ([]) = Option.map (fun r : (List (List Int)) × Bool => ((.tup [.lst false false 1 (List.map eLI (r.1)), .bool (r.2)], []) : AV × List Blk)) (spec_DirectionsOfWidth L a)
theorem spec_DirectionsOfWidth_run (L : Nat) (C : CF) (h_spec_pgGood : spec_pgGood_ok L C) (h_spec_wiLeast : spec_wiLeast_ok L C) : spec_DirectionsOfWidth_ok L (fun _ => run T C sh (keep 9) L Tryz.f9) := by
 intro oa ca x_a a hx_a
 subst hx_a
 unfold spec_DirectionsOfWidth
 conv=>lhs;whnf
 refine t_call (h_spec_pgGood _ _ _ a (by rfl)) fun r => ?_
 conv=>lhs;whnf
 refine t_cond ?_ ?_
 ·conv=>lhs;whnf
  exact t_ret (by rfl)
 ·conv=>lhs;whnf
  refine t_call (h_spec_wiLeast _ _ _ a (by rfl)) fun r1 => ?_
  conv=>lhs;whnf
  exact t_ret (by rfl)
noncomputable def impl_IsThin (L : Nat) (a : List Pt) : Option (Bool × Bool) := gbind (impl_LeastWidth L a) fun r => some ((ieq r.1 1, r.2))
def impl_IsThin_ok (L : Nat) (C : CF) : Prop := ∀ (oa : Bool) (ca : Bool) (x_a : List AV) (a : List Pt) (_ : x_a = List.map ep a), C 10 ([.lst oa ca 2 x_a]) ([]) = Option.map (fun r : Bool × Bool => ((.tup [.bool (r.1), .bool (r.2)], []) : AV × List Blk)) (impl_IsThin L a)
theorem impl_IsThin_run (L : Nat) (C : CF) (h_impl_LeastWidth : impl_LeastWidth_ok L C) : impl_IsThin_ok L (fun _ => run T C sh (keep 10) L Tryz.f10) := by
 intro oa ca x_a a hx_a
 subst hx_a
 unfold impl_IsThin
 conv=>lhs;whnf
 refine t_call (h_impl_LeastWidth _ _ _ a (by rfl)) fun r => ?_
 conv=>lhs;whnf
 exact t_ret (by rfl)
noncomputable def spec_IsThin (L : Nat) (a : List Pt) : Option (Bool × Bool) := gbind (spec_pgGood L a) fun r => bif !r then (some ((false, false))) else (gbind (spec_wiAll L a 1) fun r1 => some ((ilt 0 (ilen (List.map eLI r1)), true)))
def spec_IsThin_ok (L : Nat) (C : CF) : Prop := ∀ (oa : Bool) (ca : Bool) (x_a : List AV) (a : List Pt) (_ : x_a = List.map ep a), C 11 ([.lst oa ca 2 x_a]) ([]) = Option.map (fun r : Bool × Bool => ((.tup [.bool (r.1), .bool (r.2)], []) : AV × List Blk)) (spec_IsThin L a)
theorem spec_IsThin_run (L : Nat) (C : CF) (h_spec_pgGood : spec_pgGood_ok L C) (h_spec_wiAll : spec_wiAll_ok L C) : spec_IsThin_ok L (fun _ => run T C sh (keep 11) L Tryz.f11) := by
 intro oa ca x_a a hx_a
 subst hx_a
 unfold spec_IsThin
 conv=>lhs;whnf
 refine t_call (h_spec_pgGood _ _ _ a (by rfl)) fun r => ?_
 conv=>lhs;whnf
 refine t_cond ?_ ?_
 ·conv=>lhs;whnf
  exact t_ret (by rfl)
 ·conv=>lhs;whnf
  refine t_call (h_spec_wiAll _ _ _ a (by rfl) 1) fun r1 => ?_
  conv=>lhs;whnf
  exact t_ret (by rfl)
noncomputable def impl_twice_l0 (L : Nat) (a : List Pt) : Nat → Int → Int → Option Int
  | 0, _, _ => none
  | m + 1, v3, v8 => bif ilt v8 (ilen (List.map ep a)) then (gbind (lget a v8) fun p => gbind (impl_at L a (wr .i64 (iadd v8 1))) fun r => gbind (impl_cross L p.x p.y r.1 r.2) fun r1 => impl_twice_l0 L a m (wr .i64 (iadd v3 r1)) (wr .i64 (iadd v8 1))) else (some v3)
noncomputable def impl_twice (L : Nat) (a : List Pt) : Option (Int) := impl_twice_l0 L a L 0 0
def impl_twice_ok (L : Nat) (C : CF) : Prop := ∀ (oa : Bool) (ca : Bool) (x_a : List AV) (a : List Pt) (_ : x_a = List.map ep a), C 76 ([.lst oa ca 2 x_a]) ([]) = Option.map (fun r : Int => ((.int .i64 r, []) : AV × List Blk)) (impl_twice L a)
theorem impl_twice_run (L : Nat) (C : CF) (h_impl_at : impl_at_ok L C) (h_impl_cross : impl_cross_ok L C) : impl_twice_ok L (fun _ => run T C sh (keep 76) L Tryz.f76) := by
 intro oa ca x_a a hx_a
 subst hx_a
 unfold impl_twice
 conv=>lhs;whnf
 refine t_loop (fun (⟨v3, v8⟩ : Int × Int) => (AV.lst oa ca 2 (List.map ep a) :: topA 2 (AV.int .i64 v3 :: topA 2 (AV.lst oa ca 2 (List.map ep a) :: AV.int .i64 (ilen (List.map ep a)) :: AV.int .i64 v8 :: tops 14)), [])) (fun m (⟨v3, v8⟩ : Int × Int) => impl_twice_l0 L a m v3 v8) (fun _ => rfl) (fun m s rec hrec => ?_) L ((0, 0)) ?_ ?_
 rotate_left
 ·rfl
 ·rfl
 obtain ⟨v3, v8⟩ := s
 show _ = Option.map _ (impl_twice_l0 L a (m + 1) v3 v8)
 rw [impl_twice_l0.eq_2]
 conv=>lhs;whnf
 refine t_cond ?_ ?_
 ·conv=>lhs;whnf
  refine t_get (en := ep) (l := a) (by rfl) fun p => ?_
  conv=>lhs;whnf
  refine t_call (h_impl_at _ _ _ a (by rfl) (wr .i64 (iadd v8 1))) fun r => ?_
  conv=>lhs;whnf
  refine t_call (h_impl_cross p.x p.y r.1 r.2) fun r1 => ?_
  conv=>lhs;whnf
  exact hrec ((wr .i64 (iadd v3 r1), wr .i64 (iadd v8 1))) _ _ (by rfl) (by rfl)
 ·conv=>lhs;whnf
  exact t_ret (by rfl)
noncomputable def impl_steps (L : Nat) (a_0 : Int) (a_1 : Int) (b_0 : Int) (b_1 : Int) : Option (Int) := gbind (impl_divisor L (wr .i64 (isub a_0 b_0)) (wr .i64 (isub a_1 b_1))) fun r => some r
def impl_steps_ok (L : Nat) (C : CF) : Prop := ∀ (a_0 : Int) (a_1 : Int) (b_0 : Int) (b_1 : Int), C 77 ([.agg [.int .i64 a_0, .int .i64 a_1], .agg [.int .i64 b_0, .int .i64 b_1]]) ([]) = Option.map (fun r : Int => ((.int .i64 r, []) : AV × List Blk)) (impl_steps L a_0 a_1 b_0 b_1)
theorem impl_steps_run (L : Nat) (C : CF) (h_impl_divisor : impl_divisor_ok L C) : impl_steps_ok L (fun _ => run T C sh (keep 77) L Tryz.f77) := by
 intro a_0 a_1 b_0 b_1
 unfold impl_steps
 conv=>lhs;whnf
 refine t_call (h_impl_divisor (wr .i64 (isub a_0 b_0)) (wr .i64 (isub a_1 b_1))) fun r => ?_
 conv=>lhs;whnf
 exact t_ret (by rfl)
noncomputable def impl_around_l0 (L : Nat) (a : List Pt) : Nat → Int → Int → Option Int
  | 0, _, _ => none
  | m + 1, v3, v8 => bif ilt v8 (ilen (List.map ep a)) then (gbind (lget a v8) fun p => gbind (impl_at L a (wr .i64 (iadd v8 1))) fun r => gbind (impl_steps L p.x p.y r.1 r.2) fun r1 => impl_around_l0 L a m (wr .i64 (iadd v3 r1)) (wr .i64 (iadd v8 1))) else (some v3)
noncomputable def impl_around (L : Nat) (a : List Pt) : Option (Int) := impl_around_l0 L a L 0 0
def impl_around_ok (L : Nat) (C : CF) : Prop := ∀ (oa : Bool) (ca : Bool) (x_a : List AV) (a : List Pt) (_ : x_a = List.map ep a), C 38 ([.lst oa ca 2 x_a]) ([]) = Option.map (fun r : Int => ((.int .i64 r, []) : AV × List Blk)) (impl_around L a)
theorem impl_around_run (L : Nat) (C : CF) (h_impl_at : impl_at_ok L C) (h_impl_steps : impl_steps_ok L C) : impl_around_ok L (fun _ => run T C sh (keep 38) L Tryz.f38) := by
 intro oa ca x_a a hx_a
 subst hx_a
 unfold impl_around
 conv=>lhs;whnf
 refine t_loop (fun (⟨v3, v8⟩ : Int × Int) => (AV.lst oa ca 2 (List.map ep a) :: topA 2 (AV.int .i64 v3 :: topA 2 (AV.lst oa ca 2 (List.map ep a) :: AV.int .i64 (ilen (List.map ep a)) :: AV.int .i64 v8 :: tops 14)), [])) (fun m (⟨v3, v8⟩ : Int × Int) => impl_around_l0 L a m v3 v8) (fun _ => rfl) (fun m s rec hrec => ?_) L ((0, 0)) ?_ ?_
 rotate_left
 ·rfl
 ·rfl
 obtain ⟨v3, v8⟩ := s
 show _ = Option.map _ (impl_around_l0 L a (m + 1) v3 v8)
 rw [impl_around_l0.eq_2]
 conv=>lhs;whnf
 refine t_cond ?_ ?_
 ·conv=>lhs;whnf
  refine t_get (en := ep) (l := a) (by rfl) fun p => ?_
  conv=>lhs;whnf
  refine t_call (h_impl_at _ _ _ a (by rfl) (wr .i64 (iadd v8 1))) fun r => ?_
  conv=>lhs;whnf
  refine t_call (h_impl_steps p.x p.y r.1 r.2) fun r1 => ?_
  conv=>lhs;whnf
  exact hrec ((wr .i64 (iadd v3 r1), wr .i64 (iadd v8 1))) _ _ (by rfl) (by rfl)
 ·conv=>lhs;whnf
  exact t_ret (by rfl)
noncomputable def impl_inner (L : Nat) (a : List Pt) : Option (Int) := gbind (impl_twice L a) fun r => gbind (impl_size L r) fun r1 => gbind (impl_around L a) fun r2 => bif ieq 2 0 then (none) else (some (wr .i64 (iquo (wr .i64 (isub (wr .i64 (iadd r1 2)) r2)) 2)))
def impl_inner_ok (L : Nat) (C : CF) : Prop := ∀ (oa : Bool) (ca : Bool) (x_a : List AV) (a : List Pt) (_ : x_a = List.map ep a), C 37 ([.lst oa ca 2 x_a]) ([]) = Option.map (fun r : Int => ((.int .i64 r, []) : AV × List Blk)) (impl_inner L a)
theorem impl_inner_run (L : Nat) (C : CF) (h_impl_size : impl_size_ok L C) (h_impl_twice : impl_twice_ok L C) (h_impl_around : impl_around_ok L C) : impl_inner_ok L (fun _ => run T C sh (keep 37) L Tryz.f37) := by
 intro oa ca x_a a hx_a
 subst hx_a
 unfold impl_inner
 conv=>lhs;whnf
 refine t_call (h_impl_twice _ _ _ a (by rfl)) fun r => ?_
 conv=>lhs;whnf
 refine t_call (h_impl_size r) fun r1 => ?_
 conv=>lhs;whnf
 refine t_call (h_impl_around _ _ _ a (by rfl)) fun r2 => ?_
 conv=>lhs;whnf
 refine t_cond ?_ ?_
 ·conv=>lhs;whnf
  exact t_none
 ·conv=>lhs;whnf
  exact t_ret (by rfl)
noncomputable def impl_PegsInAll (L : Nat) (a : List Pt) : Option (Int × Bool) := gbind (impl_IsPolygon L a) fun r => bif !r then (some ((0, false))) else (gbind (impl_inner L a) fun r1 => gbind (impl_around L a) fun r2 => some ((wr .i64 (iadd r1 r2), true)))
def impl_PegsInAll_ok (L : Nat) (C : CF) : Prop := ∀ (oa : Bool) (ca : Bool) (x_a : List AV) (a : List Pt) (_ : x_a = List.map ep a), C 12 ([.lst oa ca 2 x_a]) ([]) = Option.map (fun r : Int × Bool => ((.tup [.int .i64 (r.1), .bool (r.2)], []) : AV × List Blk)) (impl_PegsInAll L a)
theorem impl_PegsInAll_run (L : Nat) (C : CF) (h_impl_IsPolygon : impl_IsPolygon_ok L C) (h_impl_around : impl_around_ok L C) (h_impl_inner : impl_inner_ok L C) : impl_PegsInAll_ok L (fun _ => run T C sh (keep 12) L Tryz.f12) := by
 intro oa ca x_a a hx_a
 subst hx_a
 unfold impl_PegsInAll
 conv=>lhs;whnf
 refine t_call (h_impl_IsPolygon _ _ _ a (by rfl)) fun r => ?_
 conv=>lhs;whnf
 refine t_cond ?_ ?_
 ·conv=>lhs;whnf
  exact t_ret (by rfl)
 ·conv=>lhs;whnf
  refine t_call (h_impl_inner _ _ _ a (by rfl)) fun r1 => ?_
  conv=>lhs;whnf
  refine t_call (h_impl_around _ _ _ a (by rfl)) fun r2 => ?_
  conv=>lhs;whnf
  exact t_ret (by rfl)
noncomputable def spec_pgArea_l0 (L : Nat) (a : List Pt) : Nat → Int → Int → Option Int
  | 0, _, _ => none
  | m + 1, v3, v4 => bif ilt v4 (ilen (List.map ep a)) then (gbind (lget a 0) fun p => gbind (lget a (wr .i64 (isub v4 1))) fun p1 => gbind (lget a v4) fun p2 => gbind (spec_pgTurn L p.x p.y p1.x p1.y p2.x p2.y) fun r => spec_pgArea_l0 L a m (wr .i64 (iadd v3 r)) (wr .i64 (iadd v4 1))) else (some v3)
noncomputable def spec_pgArea (L : Nat) (a : List Pt) : Option (Int) := spec_pgArea_l0 L a L 0 2
def spec_pgArea_ok (L : Nat) (C : CF) : Prop := ∀ (oa : Bool) (ca : Bool) (x_a : List AV) (a : List Pt) (_ : x_a = List.map ep a), C 79 ([.lst oa ca 2 x_a]) ([]) = Option.map (fun r : Int => ((.int .i64 r, []) : AV × List Blk)) (spec_pgArea L a)
theorem spec_pgArea_run (L : Nat) (C : CF) (h_spec_pgTurn : spec_pgTurn_ok L C) : spec_pgArea_ok L (fun _ => run T C sh (keep 79) L Tryz.f79) := by
 intro oa ca x_a a hx_a
 subst hx_a
 unfold spec_pgArea
 conv=>lhs;whnf
 refine t_loop (fun (⟨v3, v4⟩ : Int × Int) => (AV.lst oa ca 2 (List.map ep a) :: topA 2 (AV.int .i64 v3 :: AV.int .i64 v4 :: tops 22), [])) (fun m (⟨v3, v4⟩ : Int × Int) => spec_pgArea_l0 L a m v3 v4) (fun _ => rfl) (fun m s rec hrec => ?_) L ((0, 2)) ?_ ?_
 rotate_left
 ·rfl
 ·rfl
 obtain ⟨v3, v4⟩ := s
 show _ = Option.map _ (spec_pgArea_l0 L a (m + 1) v3 v4)
 rw [spec_pgArea_l0.eq_2]
 conv=>lhs;whnf
 refine t_cond ?_ ?_
 ·conv=>lhs;whnf
  refine t_get (en := ep) (l := a) (by rfl) fun p => ?_
  conv=>lhs;whnf
  refine t_get (en := ep) (l := a) (by rfl) fun p1 => ?_
  conv=>lhs;whnf
  refine t_get (en := ep) (l := a) (by rfl) fun p2 => ?_
  conv=>lhs;whnf
  refine t_call (h_spec_pgTurn p.x p.y p1.x p1.y p2.x p2.y) fun r => ?_
  conv=>lhs;whnf
  exact hrec ((wr .i64 (iadd v3 r), wr .i64 (iadd v4 1))) _ _ (by rfl) (by rfl)
 ·conv=>lhs;whnf
  exact t_ret (by rfl)
noncomputable def spec_pgStep (L : Nat) (a_0 : Int) (a_1 : Int) (b_0 : Int) (b_1 : Int) : Option (Int) := gbind (spec_pgCommon L (wr .i64 (isub a_0 b_0)) (wr .i64 (isub a_1 b_1))) fun r => some r
def spec_pgStep_ok (L : Nat) (C : CF) : Prop := ∀ (a_0 : Int) (a_1 : Int) (b_0 : Int) (b_1 : Int), C 80 ([.agg [.int .i64 a_0, .int .i64 a_1], .agg [.int .i64 b_0, .int .i64 b_1]]) ([]) = Option.map (fun r : Int => ((.int .i64 r, []) : AV × List Blk)) (spec_pgStep L a_0 a_1 b_0 b_1)
theorem spec_pgStep_run (L : Nat) (C : CF) (h_spec_pgCommon : spec_pgCommon_ok L C) : spec_pgStep_ok L (fun _ => run T C sh (keep 80) L Tryz.f80) := by
 intro a_0 a_1 b_0 b_1
 unfold spec_pgStep
 conv=>lhs;whnf
 refine t_call (h_spec_pgCommon (wr .i64 (isub a_0 b_0)) (wr .i64 (isub a_1 b_1))) fun r => ?_
 conv=>lhs;whnf
 exact t_ret (by rfl)
noncomputable def spec_pgRound_l0 (L : Nat) (a : List Pt) : Nat → Int → Int → Option Int
  | 0, _, _ => none
  | m + 1, v3, v8 => bif ilt v8 (ilen (List.map ep a)) then (gbind (lget a v8) fun p => bif ieq (ilen (List.map ep a)) 0 then (none) else (gbind (lget a (irem (wr .i64 (iadd v8 1)) (ilen (List.map ep a)))) fun p1 => gbind (spec_pgStep L p.x p.y p1.x p1.y) fun r => spec_pgRound_l0 L a m (wr .i64 (iadd v3 r)) (wr .i64 (iadd v8 1)))) else (some v3)
noncomputable def spec_pgRound (L : Nat) (a : List Pt) : Option (Int) := spec_pgRound_l0 L a L 0 0
def spec_pgRound_ok (L : Nat) (C : CF) : Prop := ∀ (oa : Bool) (ca : Bool) (x_a : List AV) (a : List Pt) (_ : x_a = List.map ep a), C 40 ([.lst oa ca 2 x_a]) ([]) = Option.map (fun r : Int => ((.int .i64 r, []) : AV × List Blk)) (spec_pgRound L a)
theorem spec_pgRound_run (L : Nat) (C : CF) (h_spec_pgStep : spec_pgStep_ok L C) : spec_pgRound_ok L (fun _ => run T C sh (keep 40) L Tryz.f40) := by
 intro oa ca x_a a hx_a
 subst hx_a
 unfold spec_pgRound
 conv=>lhs;whnf
 refine t_loop (fun (⟨v3, v8⟩ : Int × Int) => (AV.lst oa ca 2 (List.map ep a) :: topA 2 (AV.int .i64 v3 :: topA 2 (AV.lst oa ca 2 (List.map ep a) :: AV.int .i64 (ilen (List.map ep a)) :: AV.int .i64 v8 :: tops 18)), [])) (fun m (⟨v3, v8⟩ : Int × Int) => spec_pgRound_l0 L a m v3 v8) (fun _ => rfl) (fun m s rec hrec => ?_) L ((0, 0)) ?_ ?_
 rotate_left
 ·rfl
 ·rfl
 obtain ⟨v3, v8⟩ := s
 show _ = Option.map _ (spec_pgRound_l0 L a (m + 1) v3 v8)
 rw [spec_pgRound_l0.eq_2]
 conv=>lhs;whnf
 refine t_cond ?_ ?_
 ·conv=>lhs;whnf
  refine t_get (en := ep) (l := a) (by rfl) fun p => ?_
  conv=>lhs;whnf
  refine t_cond ?_ ?_
  ·conv=>lhs;whnf
   exact t_none
  ·conv=>lhs;whnf
   refine t_get (en := ep) (l := a) (by rfl) fun p1 => ?_
   conv=>lhs;whnf
   refine t_call (h_spec_pgStep p.x p.y p1.x p1.y) fun r => ?_
   conv=>lhs;whnf
   exact hrec ((wr .i64 (iadd v3 r), wr .i64 (iadd v8 1))) _ _ (by rfl) (by rfl)
 ·conv=>lhs;whnf
  exact t_ret (by rfl)
noncomputable def spec_pgInside (L : Nat) (a : List Pt) : Option (Int) := gbind (spec_pgArea L a) fun r => gbind (spec_l1Abs L r) fun r1 => gbind (spec_pgRound L a) fun r2 => bif ieq 2 0 then (none) else (some (wr .i64 (iquo (wr .i64 (isub (wr .i64 (iadd r1 2)) r2)) 2)))
def spec_pgInside_ok (L : Nat) (C : CF) : Prop := ∀ (oa : Bool) (ca : Bool) (x_a : List AV) (a : List Pt) (_ : x_a = List.map ep a), C 39 ([.lst oa ca 2 x_a]) ([]) = Option.map (fun r : Int => ((.int .i64 r, []) : AV × List Blk)) (spec_pgInside L a)
theorem spec_pgInside_run (L : Nat) (C : CF) (h_spec_l1Abs : spec_l1Abs_ok L C) (h_spec_pgArea : spec_pgArea_ok L C) (h_spec_pgRound : spec_pgRound_ok L C) : spec_pgInside_ok L (fun _ => run T C sh (keep 39) L Tryz.f39) := by
 intro oa ca x_a a hx_a
 subst hx_a
 unfold spec_pgInside
 conv=>lhs;whnf
 refine t_call (h_spec_pgArea _ _ _ a (by rfl)) fun r => ?_
 conv=>lhs;whnf
 refine t_call (h_spec_l1Abs r) fun r1 => ?_
 conv=>lhs;whnf
 refine t_call (h_spec_pgRound _ _ _ a (by rfl)) fun r2 => ?_
 conv=>lhs;whnf
 refine t_cond ?_ ?_
 ·conv=>lhs;whnf
  exact t_none
 ·conv=>lhs;whnf
  exact t_ret (by rfl)
noncomputable def spec_PegsInAll (L : Nat) (a : List Pt) : Option (Int × Bool) := gbind (spec_pgGood L a) fun r => bif !r then (some ((0, false))) else (gbind (spec_pgInside L a) fun r1 => gbind (spec_pgRound L a) fun r2 => some ((wr .i64 (iadd r1 r2), true)))
def spec_PegsInAll_ok (L : Nat) (C : CF) : Prop := ∀ (oa : Bool) (ca : Bool) (x_a : List AV) (a : List Pt) (_ : x_a = List.map ep a), C 13 ([.lst oa ca 2 x_a]) ([]) = Option.map (fun r : Int × Bool => ((.tup [.int .i64 (r.1), .bool (r.2)], []) : AV × List Blk)) (spec_PegsInAll L a)
theorem spec_PegsInAll_run (L : Nat) (C : CF) (h_spec_pgGood : spec_pgGood_ok L C) (h_spec_pgRound : spec_pgRound_ok L C) (h_spec_pgInside : spec_pgInside_ok L C) : spec_PegsInAll_ok L (fun _ => run T C sh (keep 13) L Tryz.f13) := by
 intro oa ca x_a a hx_a
 subst hx_a
 unfold spec_PegsInAll
 conv=>lhs;whnf
 refine t_call (h_spec_pgGood _ _ _ a (by rfl)) fun r => ?_
 conv=>lhs;whnf
 refine t_cond ?_ ?_
 ·conv=>lhs;whnf
  exact t_ret (by rfl)
 ·conv=>lhs;whnf
  refine t_call (h_spec_pgInside _ _ _ a (by rfl)) fun r1 => ?_
  conv=>lhs;whnf
  refine t_call (h_spec_pgRound _ _ _ a (by rfl)) fun r2 => ?_
  conv=>lhs;whnf
  exact t_ret (by rfl)
noncomputable def laws_zSame_l0 (L : Nat) (a : List Int) (b : List Int) : Nat → Int → Option Bool
  | 0, _ => none
  | m + 1, v13 => bif ilt v13 (ilen (List.map eI a)) then (gbind (lget a v13) fun p => gbind (lget b v13) fun p1 => bif !ieq p p1 then (some false) else (laws_zSame_l0 L a b m (wr .i64 (iadd v13 1)))) else (some true)
noncomputable def laws_zSame (L : Nat) (a : List Int) (b : List Int) : Option (Bool) := bif !ieq (ilen (List.map eI a)) (ilen (List.map eI b)) then (some false) else (laws_zSame_l0 L a b L 0)
def laws_zSame_ok (L : Nat) (C : CF) : Prop := ∀ (oa : Bool) (ca : Bool) (x_a : List AV) (a : List Int) (_ : x_a = List.map eI a) (ob : Bool) (cb : Bool) (x_b : List AV) (b : List Int) (_ : x_b = List.map eI b), C 27 ([.lst oa ca 1 x_a, .lst ob cb 1 x_b]) ([]) = Option.map (fun r : Bool => ((.bool r, []) : AV × List Blk)) (laws_zSame L a b)
theorem laws_zSame_run (L : Nat) (C : CF) : laws_zSame_ok L (fun _ => run T C sh (keep 27) L Tryz.f27) := by
 intro oa ca x_a a hx_a ob cb x_b b hx_b
 subst hx_a
 subst hx_b
 unfold laws_zSame
 conv=>lhs;whnf
 refine t_cond ?_ ?_
 ·conv=>lhs;whnf
  exact t_ret (by rfl)
 ·conv=>lhs;whnf
  refine t_loop (fun (v13 : Int) => (AV.lst oa ca 1 (List.map eI a) :: AV.lst ob cb 1 (List.map eI b) :: topA 10 (AV.int .i64 (ilen (List.map eI a)) :: AV.int .i64 v13 :: tops 12), [])) (fun m (v13 : Int) => laws_zSame_l0 L a b m v13) (fun _ => rfl) (fun m v13 rec hrec => ?_) L 0 ?_ ?_
  rotate_left
  ·rfl
  ·rfl
  show _ = Option.map _ (laws_zSame_l0 L a b (m + 1) v13)
  rw [laws_zSame_l0.eq_2]
  conv=>lhs;whnf
  refine t_cond ?_ ?_
  ·conv=>lhs;whnf
   refine t_get (en := eI) (l := a) (by rfl) fun p => ?_
   conv=>lhs;whnf
   refine t_get (en := eI) (l := b) (by rfl) fun p1 => ?_
   conv=>lhs;whnf
   refine t_cond ?_ ?_
   ·conv=>lhs;whnf
    exact t_ret (by rfl)
   ·conv=>lhs;whnf
    exact hrec (wr .i64 (iadd v13 1)) _ _ (by rfl) (by rfl)
  ·conv=>lhs;whnf
   exact t_ret (by rfl)
noncomputable def laws_zRows_l0 (L : Nat) (a : List (List Int)) (b : List (List Int)) : Nat → Int → Option Bool
  | 0, _ => none
  | m + 1, v13 => bif ilt v13 (ilen (List.map eLI a)) then (gbind (lget a v13) fun p => gbind (lget b v13) fun p1 => gbind (laws_zSame L p p1) fun r => bif !r then (some false) else (laws_zRows_l0 L a b m (wr .i64 (iadd v13 1)))) else (some true)
noncomputable def laws_zRows (L : Nat) (a : List (List Int)) (b : List (List Int)) : Option (Bool) := bif !ieq (ilen (List.map eLI a)) (ilen (List.map eLI b)) then (some false) else (laws_zRows_l0 L a b L 0)
def laws_zRows_ok (L : Nat) (C : CF) : Prop := ∀ (oa : Bool) (ca : Bool) (x_a : List AV) (a : List (List Int)) (_ : x_a = List.map eLI a) (ob : Bool) (cb : Bool) (x_b : List AV) (b : List (List Int)) (_ : x_b = List.map eLI b), C 14 ([.lst oa ca 1 x_a, .lst ob cb 1 x_b]) ([]) = Option.map (fun r : Bool => ((.bool r, []) : AV × List Blk)) (laws_zRows L a b)
theorem laws_zRows_run (L : Nat) (C : CF) (h_laws_zSame : laws_zSame_ok L C) : laws_zRows_ok L (fun _ => run T C sh (keep 14) L Tryz.f14) := by
 intro oa ca x_a a hx_a ob cb x_b b hx_b
 subst hx_a
 subst hx_b
 unfold laws_zRows
 conv=>lhs;whnf
 refine t_cond ?_ ?_
 ·conv=>lhs;whnf
  exact t_ret (by rfl)
 ·conv=>lhs;whnf
  refine t_loop (fun (v13 : Int) => (AV.lst oa ca 1 (List.map eLI a) :: AV.lst ob cb 1 (List.map eLI b) :: topA 10 (AV.int .i64 (ilen (List.map eLI a)) :: AV.int .i64 v13 :: tops 13), [])) (fun m (v13 : Int) => laws_zRows_l0 L a b m v13) (fun _ => rfl) (fun m v13 rec hrec => ?_) L 0 ?_ ?_
  rotate_left
  ·rfl
  ·rfl
  show _ = Option.map _ (laws_zRows_l0 L a b (m + 1) v13)
  rw [laws_zRows_l0.eq_2]
  conv=>lhs;whnf
  refine t_cond ?_ ?_
  ·conv=>lhs;whnf
   refine t_get (en := eLI) (l := a) (by rfl) fun p => ?_
   conv=>lhs;whnf
   refine t_get (en := eLI) (l := b) (by rfl) fun p1 => ?_
   conv=>lhs;whnf
   refine t_call (h_laws_zSame _ _ _ p (by rfl) _ _ _ p1 (by rfl)) fun r => ?_
   conv=>lhs;whnf
   refine t_cond ?_ ?_
   ·conv=>lhs;whnf
    exact t_ret (by rfl)
   ·conv=>lhs;whnf
    exact hrec (wr .i64 (iadd v13 1)) _ _ (by rfl) (by rfl)
  ·conv=>lhs;whnf
   exact t_ret (by rfl)
noncomputable def impl_isDirection (L : Nat) (a : Int) (b : Int) : Option (Bool) := gbind (impl_within L a (-200) 200) fun r => bif r then (gbind (impl_within L b (-200) 200) fun r1 => bif r1 then (gbind (impl_divisor L a b) fun r2 => some (ieq r2 1)) else (some false)) else (some false)
def impl_isDirection_ok (L : Nat) (C : CF) : Prop := ∀ (a : Int) (b : Int), C 81 ([.int .i64 a, .int .i64 b]) ([]) = Option.map (fun r : Bool => ((.bool r, []) : AV × List Blk)) (impl_isDirection L a b)
theorem impl_isDirection_run (L : Nat) (C : CF) (h_impl_within : impl_within_ok L C) (h_impl_divisor : impl_divisor_ok L C) : impl_isDirection_ok L (fun _ => run T C sh (keep 81) L Tryz.f81) := by
 intro a b
 unfold impl_isDirection
 conv=>lhs;whnf
 refine t_call (h_impl_within a (-200) 200) fun r => ?_
 conv=>lhs;whnf
 refine t_cond ?_ ?_
 ·conv=>lhs;whnf
  refine t_call (h_impl_within b (-200) 200) fun r1 => ?_
  conv=>lhs;whnf
  refine t_cond ?_ ?_
  ·conv=>lhs;whnf
   refine t_call (h_impl_divisor a b) fun r2 => ?_
   conv=>lhs;whnf
   exact t_ret (by rfl)
  ·conv=>lhs;whnf
   exact t_ret (by rfl)
 ·conv=>lhs;whnf
  exact t_ret (by rfl)
noncomputable def impl_isWide (L : Nat) (a : List Pt) (b : Int) (c : Int) : Option (Bool) := gbind (impl_IsPolygon L a) fun r => bif r then (gbind (impl_isDirection L b c) fun r1 => some r1) else (some false)
def impl_isWide_ok (L : Nat) (C : CF) : Prop := ∀ (oa : Bool) (ca : Bool) (x_a : List AV) (a : List Pt) (_ : x_a = List.map ep a) (b : Int) (c : Int), C 41 ([.lst oa ca 2 x_a, .int .i64 b, .int .i64 c]) ([]) = Option.map (fun r : Bool => ((.bool r, []) : AV × List Blk)) (impl_isWide L a b c)
theorem impl_isWide_run (L : Nat) (C : CF) (h_impl_IsPolygon : impl_IsPolygon_ok L C) (h_impl_isDirection : impl_isDirection_ok L C) : impl_isWide_ok L (fun _ => run T C sh (keep 41) L Tryz.f41) := by
 intro oa ca x_a a hx_a b c
 subst hx_a
 unfold impl_isWide
 conv=>lhs;whnf
 refine t_call (h_impl_IsPolygon _ _ _ a (by rfl)) fun r => ?_
 conv=>lhs;whnf
 refine t_cond ?_ ?_
 ·conv=>lhs;whnf
  refine t_call (h_impl_isDirection b c) fun r1 => ?_
  conv=>lhs;whnf
  exact t_ret (by rfl)
 ·conv=>lhs;whnf
  exact t_ret (by rfl)
noncomputable def impl_WidthIn (L : Nat) (a : List Pt) (b : Int) (c : Int) : Option (Int × Bool) := gbind (impl_isWide L a b c) fun r => bif !r then (some ((0, false))) else (gbind (impl_width L a b c) fun r1 => some ((r1, true)))
def impl_WidthIn_ok (L : Nat) (C : CF) : Prop := ∀ (oa : Bool) (ca : Bool) (x_a : List AV) (a : List Pt) (_ : x_a = List.map ep a) (b : Int) (c : Int), C 15 ([.lst oa ca 2 x_a, .int .i64 b, .int .i64 c]) ([]) = Option.map (fun r : Int × Bool => ((.tup [.int .i64 (r.1), .bool (r.2)], []) : AV × List Blk)) (impl_WidthIn L a b c)
theorem impl_WidthIn_run (L : Nat) (C : CF) (h_impl_width : impl_width_ok L C) (h_impl_isWide : impl_isWide_ok L C) : impl_WidthIn_ok L (fun _ => run T C sh (keep 15) L Tryz.f15) := by
 intro oa ca x_a a hx_a b c
 subst hx_a
 unfold impl_WidthIn
 conv=>lhs;whnf
 refine t_call (h_impl_isWide _ _ _ a (by rfl) b c) fun r => ?_
 conv=>lhs;whnf
 refine t_cond ?_ ?_
 ·conv=>lhs;whnf
  exact t_ret (by rfl)
 ·conv=>lhs;whnf
  refine t_call (h_impl_width _ _ _ a (by rfl) b c) fun r1 => ?_
  conv=>lhs;whnf
  exact t_ret (by rfl)
noncomputable def impl_CountDirections (L : Nat) (a : List Pt) (b : Int) : Option (Int × Bool) := gbind (impl_IsPolygon L a) fun r => bif !r then (some ((0, false))) else (gbind (impl_within L b 0 60) fun r1 => bif !r1 then (some ((0, false))) else (gbind (impl_directions L a b) fun r2 => some ((ilen (List.map ep r2), true))))
def impl_CountDirections_ok (L : Nat) (C : CF) : Prop := ∀ (oa : Bool) (ca : Bool) (x_a : List AV) (a : List Pt) (_ : x_a = List.map ep a) (b : Int), C 16 ([.lst oa ca 2 x_a, .int .i64 b]) ([]) = Option.map (fun r : Int × Bool => ((.tup [.int .i64 (r.1), .bool (r.2)], []) : AV × List Blk)) (impl_CountDirections L a b)
theorem impl_CountDirections_run (L : Nat) (C : CF) (h_impl_within : impl_within_ok L C) (h_impl_IsPolygon : impl_IsPolygon_ok L C) (h_impl_directions : impl_directions_ok L C) : impl_CountDirections_ok L (fun _ => run T C sh (keep 16) L Tryz.f16) := by
 intro oa ca x_a a hx_a b
 subst hx_a
 unfold impl_CountDirections
 conv=>lhs;whnf
 refine t_call (h_impl_IsPolygon _ _ _ a (by rfl)) fun r => ?_
 conv=>lhs;whnf
 refine t_cond ?_ ?_
 ·conv=>lhs;whnf
  exact t_ret (by rfl)
 ·conv=>lhs;whnf
  refine t_call (h_impl_within b 0 60) fun r1 => ?_
  conv=>lhs;whnf
  refine t_cond ?_ ?_
  ·conv=>lhs;whnf
   exact t_ret (by rfl)
  ·conv=>lhs;whnf
   refine t_call (h_impl_directions _ _ _ a (by rfl) b) fun r2 => ?_
   conv=>lhs;whnf
   exact t_ret (by rfl)
noncomputable def spec_l1Cur_direction (L : Nat) (a_0 : List Int) (a_1 : Int) (a_2 : Int) : Option (Int × Int × Int × Int) := gbind (spec_l1Cur_one L a_0 a_1 a_2 8) fun r => bif r.1 then (gbind (spec_l1Cur_among_v2 L a_0 r.2.1 r.2.2 (0 :: (2 :: (200 :: (201 :: (-9223372036854775808 :: [])))))) fun r1 => gbind (spec_l1Cur_among_v2 L a_0 r1.2.1 r1.2.2.1 (0 :: (1 :: (4 :: (-200 :: (4611686018427387904 :: [])))))) fun r2 => some ((r1.1, r2.1, r2.2.1, r2.2.2.1))) else (gbind (spec_l1Cur_pick L a_0 r.2.1 r.2.2 7) fun r3 => gbind (spec_l1Cur_pick L a_0 r3.2.1 r3.2.2 7) fun r4 => gbind (spec_pgCommon L (wr .i64 (isub r3.1 3)) (wr .i64 (isub r4.1 3))) fun r5 => bif ilt 1 r5 then (bif ieq r5 0 then (none) else (bif ieq r5 0 then (none) else (some ((wr .i64 (iquo (wr .i64 (isub r3.1 3)) r5), wr .i64 (iquo (wr .i64 (isub r4.1 3)) r5), r4.2.1, r4.2.2))))) else (some ((wr .i64 (isub r3.1 3), wr .i64 (isub r4.1 3), r4.2.1, r4.2.2))))
def spec_l1Cur_direction_ok (L : Nat) (C : CF) : Prop := ∀ (oa_0 : Bool) (ca_0 : Bool) (x_a_0 : List AV) (a_0 : List Int) (_ : x_a_0 = List.map eU a_0) (a_1 : Int) (a_2 : Int), C 85 ([.ptr 0 0 0 3]) ([.box (.agg [.lst oa_0 ca_0 1 x_a_0, .int .i64 a_1, .int .u64 a_2])]) = Option.map (fun r : Int × Int × Int × Int => ((.tup [.int .i64 (r.1), .int .i64 (r.2.1)], [.box (.agg [.lst oa_0 ca_0 1 x_a_0, .int .i64 (r.2.2.1), .int .u64 (r.2.2.2)])]) : AV × List Blk)) (spec_l1Cur_direction L a_0 a_1 a_2)
theorem spec_l1Cur_direction_run (L : Nat) (C : CF) (h_spec_l1Cur_pick : spec_l1Cur_pick_ok L C) (h_spec_l1Cur_one : spec_l1Cur_one_ok L C) (h_spec_l1Cur_among_v2 : spec_l1Cur_among_v2_ok L C) (h_spec_pgCommon : spec_pgCommon_ok L C) : spec_l1Cur_direction_ok L (fun _ => run T C sh (keep 85) L Tryz.f85) := by
 intro oa_0 ca_0 x_a_0 a_0 hx_a_0 a_1 a_2
 subst hx_a_0
 unfold spec_l1Cur_direction
 conv=>lhs;whnf
 refine t_call (h_spec_l1Cur_one _ _ _ a_0 (by rfl) a_1 a_2 8) fun r => ?_
 conv=>lhs;whnf
 refine t_cond ?_ ?_
 ·conv=>lhs;whnf
  refine t_call (h_spec_l1Cur_among_v2 _ _ _ a_0 (by rfl) r.2.1 r.2.2 _ (0 :: (2 :: (200 :: (201 :: (-9223372036854775808 :: []))))) (by rfl)) fun r1 => ?_
  conv=>lhs;whnf
  refine t_call (h_spec_l1Cur_among_v2 _ _ _ a_0 (by rfl) r1.2.1 r1.2.2.1 _ (0 :: (1 :: (4 :: (-200 :: (4611686018427387904 :: []))))) (by rfl)) fun r2 => ?_
  conv=>lhs;whnf
  exact t_ret (by rfl)
 ·conv=>lhs;whnf
  refine t_call (h_spec_l1Cur_pick _ _ _ a_0 (by rfl) r.2.1 r.2.2 7) fun r3 => ?_
  conv=>lhs;whnf
  refine t_call (h_spec_l1Cur_pick _ _ _ a_0 (by rfl) r3.2.1 r3.2.2 7) fun r4 => ?_
  conv=>lhs;whnf
  refine t_call (h_spec_pgCommon (wr .i64 (isub r3.1 3)) (wr .i64 (isub r4.1 3))) fun r5 => ?_
  conv=>lhs;whnf
  refine t_cond ?_ ?_
  ·conv=>lhs;whnf
   refine t_cond ?_ ?_
   ·conv=>lhs;whnf
    exact t_none
   ·conv=>lhs;whnf
    refine t_cond ?_ ?_
    ·conv=>lhs;whnf
     exact t_none
    ·conv=>lhs;whnf
     exact t_ret (by rfl)
  ·conv=>lhs;whnf
   exact t_ret (by rfl)
noncomputable def spec_DrawWidthIn (L : Nat) (a : List Int) : Option ((List Pt) × Int × Int) := gbind (spec_l1Cur_polygon L a 0 0 5) fun r => gbind (spec_l1Cur_direction L a r.2.1 r.2.2) fun r1 => some ((r.1, r1.1, r1.2.1))
def spec_DrawWidthIn_ok (L : Nat) (C : CF) : Prop := ∀ (oa : Bool) (ca : Bool) (x_a : List AV) (a : List Int) (_ : x_a = List.map eU a), C 45 ([.lst oa ca 1 x_a]) ([]) = Option.map (fun r : (List Pt) × Int × Int => ((.tup [.frs 2 (List.map ep (r.1)), .int .i64 (r.2.1), .int .i64 (r.2.2)], []) : AV × List Blk)) (spec_DrawWidthIn L a)
theorem spec_DrawWidthIn_run (L : Nat) (C : CF) (h_spec_l1Cur_polygon : spec_l1Cur_polygon_ok L C) (h_spec_l1Cur_direction : spec_l1Cur_direction_ok L C) : spec_DrawWidthIn_ok L (fun _ => run T C sh (keep 45) L Tryz.f45) := by
 intro oa ca x_a a hx_a
 subst hx_a
 unfold spec_DrawWidthIn
 conv=>lhs;whnf
 refine t_call (h_spec_l1Cur_polygon _ _ _ a (by rfl) 0 0 5) fun r => ?_
 conv=>lhs;whnf
 refine t_call (h_spec_l1Cur_direction _ _ _ a (by rfl) r.2.1 r.2.2) fun r1 => ?_
 conv=>lhs;whnf
 exact t_ret (by rfl)
noncomputable def spec_DrawPegsPerLine (L : Nat) (a : List Int) : Option ((List Pt) × Int × Int) := gbind (spec_DrawWidthIn L a) fun r => some ((r.1, r.2.1, r.2.2))
def spec_DrawPegsPerLine_ok (L : Nat) (C : CF) : Prop := ∀ (oa : Bool) (ca : Bool) (x_a : List AV) (a : List Int) (_ : x_a = List.map eU a), C 17 ([.lst oa ca 1 x_a]) ([]) = Option.map (fun r : (List Pt) × Int × Int => ((.tup [.frs 2 (List.map ep (r.1)), .int .i64 (r.2.1), .int .i64 (r.2.2)], []) : AV × List Blk)) (spec_DrawPegsPerLine L a)
theorem spec_DrawPegsPerLine_run (L : Nat) (C : CF) (h_spec_DrawWidthIn : spec_DrawWidthIn_ok L C) : spec_DrawPegsPerLine_ok L (fun _ => run T C sh (keep 17) L Tryz.f17) := by
 intro oa ca x_a a hx_a
 subst hx_a
 unfold spec_DrawPegsPerLine
 conv=>lhs;whnf
 refine t_call (h_spec_DrawWidthIn _ _ _ a (by rfl)) fun r => ?_
 conv=>lhs;whnf
 exact t_ret (by rfl)
noncomputable def impl_box_l0 (L : Nat) (a : List Pt) : Nat → Int → Int → Int → Int → Int → Option (Int × Int × Int × Int)
  | 0, _, _, _, _, _ => none
  | m + 1, v16, b2_0, b2_1, b3_0, b3_1 => bif ilt v16 (ilen (List.map ep a)) then (gbind (lget a v16) fun p2 => impl_box_l0 L a m (wr .i64 (iadd v16 1)) (imin b2_0 p2.x) (imin b2_1 p2.y) (imax b3_0 p2.x) (imax b3_1 p2.y)) else (some ((b2_0, b2_1, b3_0, b3_1)))
noncomputable def impl_box (L : Nat) (a : List Pt) : Option (Int × Int × Int × Int) := gbind (lget a 0) fun p => gbind (lget a 0) fun p1 => impl_box_l0 L a L 0 p1.x p1.y p.x p.y
def impl_box_ok (L : Nat) (C : CF) : Prop := ∀ (oa : Bool) (ca : Bool) (x_a : List AV) (a : List Pt) (_ : x_a = List.map ep a), C 47 ([.lst oa ca 2 x_a]) ([]) = Option.map (fun r : Int × Int × Int × Int => ((.tup [.agg [.int .i64 (r.1), .int .i64 (r.2.1)], .agg [.int .i64 (r.2.2.1), .int .i64 (r.2.2.2)]], []) : AV × List Blk)) (impl_box L a)
theorem impl_box_run (L : Nat) (C : CF) : impl_box_ok L (fun _ => run T C sh (keep 47) L Tryz.f47) := by
 intro oa ca x_a a hx_a
 subst hx_a
 unfold impl_box
 conv=>lhs;whnf
 refine t_get (en := ep) (l := a) (by rfl) fun p => ?_
 conv=>lhs;whnf
 refine t_get (en := ep) (l := a) (by rfl) fun p1 => ?_
 conv=>lhs;whnf
 refine t_loop (fun (⟨v16, b2_0, b2_1, b3_0, b3_1⟩ : Int × Int × Int × Int × Int) => (topA 2 (AV.ptr 0 0 0 2 :: AV.ptr 1 0 0 2 :: AV.ptr 2 0 0 2 :: AV.ptr 3 0 0 2 :: topA 8 (AV.lst oa ca 2 (List.map ep a) :: AV.int .i64 (ilen (List.map ep a)) :: AV.int .i64 v16 :: tops 28)), [Blk.box (AV.agg [AV.int .i64 0, AV.int .i64 0]), Blk.box (AV.agg [AV.int .i64 0, AV.int .i64 0]), Blk.box (AV.agg [AV.int .i64 b2_0, AV.int .i64 b2_1]), Blk.box (AV.agg [AV.int .i64 b3_0, AV.int .i64 b3_1])])) (fun m (⟨v16, b2_0, b2_1, b3_0, b3_1⟩ : Int × Int × Int × Int × Int) => impl_box_l0 L a m v16 b2_0 b2_1 b3_0 b3_1) (fun _ => rfl) (fun m s rec hrec => ?_) L ((0, p1.x, p1.y, p.x, p.y)) ?_ ?_
 rotate_left
 ·rfl
 ·rfl
 obtain ⟨v16, b2_0, b2_1, b3_0, b3_1⟩ := s
 show _ = Option.map _ (impl_box_l0 L a (m + 1) v16 b2_0 b2_1 b3_0 b3_1)
 rw [impl_box_l0.eq_2]
 conv=>lhs;whnf
 refine t_cond ?_ ?_
 ·conv=>lhs;whnf
  refine t_get (en := ep) (l := a) (by rfl) fun p2 => ?_
  conv=>lhs;whnf
  exact hrec ((wr .i64 (iadd v16 1), imin b2_0 p2.x, imin b2_1 p2.y, imax b3_0 p2.x, imax b3_1 p2.y)) _ _ (by rfl) (by rfl)
 ·conv=>lhs;whnf
  exact t_ret (by rfl)
noncomputable def impl_where_l0 (L : Nat) (a : List Pt) (b_0 : Int) (b_1 : Int) : Nat → Int → Int → Option Int
  | 0, _, _ => none
  | m + 1, v5, v11 => bif ilt v11 (ilen (List.map ep a)) then (gbind (lget a v11) fun p => gbind (impl_at L a (wr .i64 (iadd v11 1))) fun r => gbind (impl_isOn L p.x p.y r.1 r.2 b_0 b_1) fun r1 => bif r1 then (some 0) else (bif !beqb (ilt b_1 p.y) (ilt b_1 r.2) then (gbind (impl_turn L p.x p.y r.1 r.2 b_0 b_1) fun r2 => bif beqb (ilt 0 r2) (ilt p.y r.2) then (impl_where_l0 L a b_0 b_1 m (wr .i64 (isub 0 v5)) (wr .i64 (iadd v11 1))) else (impl_where_l0 L a b_0 b_1 m v5 (wr .i64 (iadd v11 1)))) else (impl_where_l0 L a b_0 b_1 m v5 (wr .i64 (iadd v11 1))))) else (some v5)
noncomputable def impl_where (L : Nat) (a : List Pt) (b_0 : Int) (b_1 : Int) : Option (Int) := impl_where_l0 L a b_0 b_1 L (-1) 0
def impl_where_ok (L : Nat) (C : CF) : Prop := ∀ (oa : Bool) (ca : Bool) (x_a : List AV) (a : List Pt) (_ : x_a = List.map ep a) (b_0 : Int) (b_1 : Int), C 48 ([.lst oa ca 2 x_a, .agg [.int .i64 b_0, .int .i64 b_1]]) ([]) = Option.map (fun r : Int => ((.int .i64 r, []) : AV × List Blk)) (impl_where L a b_0 b_1)
theorem impl_where_run (L : Nat) (C : CF) (h_impl_at : impl_at_ok L C) (h_impl_turn : impl_turn_ok L C) (h_impl_isOn : impl_isOn_ok L C) : impl_where_ok L (fun _ => run T C sh (keep 48) L Tryz.f48) := by
 intro oa ca x_a a hx_a b_0 b_1
 subst hx_a
 unfold impl_where
 conv=>lhs;whnf
 refine t_loop (fun (⟨v5, v11⟩ : Int × Int) => (AV.lst oa ca 2 (List.map ep a) :: topA 2 (AV.ptr 0 0 0 2 :: AV.top :: AV.int .i64 v5 :: topA 3 (AV.lst oa ca 2 (List.map ep a) :: AV.int .i64 (ilen (List.map ep a)) :: AV.int .i64 v11 :: tops 40)), [Blk.box (AV.agg [AV.int .i64 b_0, AV.int .i64 b_1])])) (fun m (⟨v5, v11⟩ : Int × Int) => impl_where_l0 L a b_0 b_1 m v5 v11) (fun _ => rfl) (fun m s rec hrec => ?_) L ((-1, 0)) ?_ ?_
 rotate_left
 ·rfl
 ·rfl
 obtain ⟨v5, v11⟩ := s
 show _ = Option.map _ (impl_where_l0 L a b_0 b_1 (m + 1) v5 v11)
 rw [impl_where_l0.eq_2]
 conv=>lhs;whnf
 refine t_cond ?_ ?_
 ·conv=>lhs;whnf
  refine t_get (en := ep) (l := a) (by rfl) fun p => ?_
  conv=>lhs;whnf
  refine t_call (h_impl_at _ _ _ a (by rfl) (wr .i64 (iadd v11 1))) fun r => ?_
  conv=>lhs;whnf
  refine t_call (h_impl_isOn p.x p.y r.1 r.2 b_0 b_1) fun r1 => ?_
  conv=>lhs;whnf
  refine t_cond ?_ ?_
  ·conv=>lhs;whnf
   exact t_ret (by rfl)
  ·conv=>lhs;whnf
   refine t_cond ?_ ?_
   ·conv=>lhs;whnf
    refine t_call (h_impl_turn p.x p.y r.1 r.2 b_0 b_1) fun r2 => ?_
    conv=>lhs;whnf
    refine t_cond ?_ ?_
    ·conv=>lhs;whnf
     exact hrec ((wr .i64 (isub 0 v5), wr .i64 (iadd v11 1))) _ _ (by rfl) (by rfl)
    ·conv=>lhs;whnf
     exact hrec ((v5, wr .i64 (iadd v11 1))) _ _ (by rfl) (by rfl)
   ·conv=>lhs;whnf
    exact hrec ((v5, wr .i64 (iadd v11 1))) _ _ (by rfl) (by rfl)
 ·conv=>lhs;whnf
  exact t_ret (by rfl)
noncomputable def impl_PegsPerLine_l1 (L : Nat) (κ0 : (List Pt) → Int → Int → Int → Int → (List Int) → Int → Int → Int → Int → Option ((List Int) × Bool)) (v0 : List Pt) (v9 : Int) (v14 : Int) (b0_0 : Int) (b0_1 : Int) (b2_0 : Int) (b2_1 : Int) (b3_0 : Int) (b3_1 : Int) : Nat → Int → (List Int) → Option ((List Int) × Bool)
  | 0, _, _ => none
  | m1 + 1, v15, w11 => bif ile v15 b3_1 then (gbind (impl_where L v0 v14 v15) fun r3 => bif ile 0 r3 then (gbind (impl_value L b0_0 b0_1 v14 v15) fun r4 => bif ile 0 (wr .i64 (isub r4 v9)) && ilt (wr .i64 (isub r4 v9)) (ilen (List.map eI w11)) then (gbind (lget w11 (wr .i64 (isub r4 v9))) fun p => bif ile 0 (wr .i64 (isub r4 v9)) && ilt (wr .i64 (isub r4 v9)) (ilen (List.map eI w11)) then (gbind (lget w11 (wr .i64 (isub r4 v9))) fun p1 => impl_PegsPerLine_l1 L κ0 v0 v9 v14 b0_0 b0_1 b2_0 b2_1 b3_0 b3_1 m1 (wr .i64 (iadd v15 1)) (lset w11 (wr .i64 (isub r4 v9)) (wr .i64 (iadd p 1)))) else (none)) else (none)) else (impl_PegsPerLine_l1 L κ0 v0 v9 v14 b0_0 b0_1 b2_0 b2_1 b3_0 b3_1 m1 (wr .i64 (iadd v15 1)) w11)) else (κ0 v0 v9 (wr .i64 (iadd v14 1)) b0_0 b0_1 w11 b2_0 b2_1 b3_0 b3_1)
noncomputable def impl_PegsPerLine_l0 (L : Nat) : Nat → (List Pt) → Int → Int → Int → Int → (List Int) → Int → Int → Int → Int → Option ((List Int) × Bool)
  | 0, _, _, _, _, _, _, _, _, _, _ => none
  | m + 1, v0, v9, v14, b0_0, b0_1, w1, b2_0, b2_1, b3_0, b3_1 => bif ile v14 b3_0 then (impl_PegsPerLine_l1 L (impl_PegsPerLine_l0 L m) v0 v9 v14 b0_0 b0_1 b2_0 b2_1 b3_0 b3_1 L b2_1 w1) else (some ((w1, true)))
noncomputable def impl_PegsPerLine (L : Nat) (a : List Pt) (b : Int) (c : Int) : Option ((List Int) × Bool) := gbind (impl_isWide L a b c) fun r => bif !r then (some (([], false))) else (gbind (impl_extent L a b c) fun r1 => bif ile 0 (wr .i64 (iadd (wr .i64 (isub r1.2 r1.1)) 1)) && ile (wr .i64 (iadd (wr .i64 (isub r1.2 r1.1)) 1)) (wr .i64 (iadd (wr .i64 (isub r1.2 r1.1)) 1)) && fits (wr .i64 (iadd (wr .i64 (isub r1.2 r1.1)) 1)) 8 then (gbind (impl_box L a) fun r2 => impl_PegsPerLine_l0 L L a r1.1 r2.1 b c (lrep (wr .i64 (iadd (wr .i64 (isub r1.2 r1.1)) 1)) 0) r2.1 r2.2.1 r2.2.2.1 r2.2.2.2) else (none))
def impl_PegsPerLine_ok (L : Nat) (C : CF) : Prop := ∀ (oa : Bool) (ca : Bool) (x_a : List AV) (a : List Pt) (_ : x_a = List.map ep a) (b : Int) (c : Int), C 18 ([.lst oa ca 2 x_a, .int .i64 b, .int .i64 c]) ([]) = Option.map (fun r : (List Int) × Bool => ((.tup [.frs 1 (List.map eI (r.1)), .bool (r.2)], []) : AV × List Blk)) (impl_PegsPerLine L a b c)
theorem impl_PegsPerLine_run (L : Nat) (C : CF) (h_impl_value : impl_value_ok L C) (h_impl_extent : impl_extent_ok L C) (h_impl_isWide : impl_isWide_ok L C) (h_impl_box : impl_box_ok L C) (h_impl_where : impl_where_ok L C) : impl_PegsPerLine_ok L (fun _ => run T C sh (keep 18) L Tryz.f18) := by
 intro oa ca x_a a hx_a b c
 subst hx_a
 unfold impl_PegsPerLine
 conv=>lhs;whnf
 refine t_call (h_impl_isWide _ _ _ a (by rfl) b c) fun r => ?_
 conv=>lhs;whnf
 refine t_cond ?_ ?_
 ·conv=>lhs;whnf
  exact t_ret (by rfl)
 ·conv=>lhs;whnf
  refine t_call (h_impl_extent _ _ _ a (by rfl) b c) fun r1 => ?_
  conv=>lhs;whnf
  refine t_cond ?_ ?_
  ·conv=>lhs;whnf
   refine t_call (h_impl_box _ _ _ a (by rfl)) fun r2 => ?_
   conv=>lhs;whnf
   refine t_loop (fun (⟨v0, v9, v14, b0_0, b0_1, w1, b2_0, b2_1, b3_0, b3_1⟩ : (List Pt) × Int × Int × Int × Int × (List Int) × Int × Int × Int × Int) => (AV.lst oa ca 2 (List.map ep v0) :: topA 7 (AV.ptr 0 0 0 2 :: AV.int .i64 v9 :: AV.top :: AV.own 1 1 none false :: AV.ptr 2 0 0 2 :: AV.ptr 3 0 0 2 :: AV.int .i64 v14 :: tops 60), [Blk.box (AV.agg [AV.int .i64 b0_0, AV.int .i64 b0_1]), Blk.rows Mode.live 1 (List.map eI w1), Blk.box (AV.agg [AV.int .i64 b2_0, AV.int .i64 b2_1]), Blk.box (AV.agg [AV.int .i64 b3_0, AV.int .i64 b3_1])])) (fun m (⟨v0, v9, v14, b0_0, b0_1, w1, b2_0, b2_1, b3_0, b3_1⟩ : (List Pt) × Int × Int × Int × Int × (List Int) × Int × Int × Int × Int) => impl_PegsPerLine_l0 L m v0 v9 v14 b0_0 b0_1 w1 b2_0 b2_1 b3_0 b3_1) (fun _ => rfl) (fun m s rec hrec => ?_) L ((a, r1.1, r2.1, b, c, lrep (wr .i64 (iadd (wr .i64 (isub r1.2 r1.1)) 1)) 0, r2.1, r2.2.1, r2.2.2.1, r2.2.2.2)) ?_ ?_
   rotate_left
   ·rfl
   ·first | rfl | simp only [ml] <;> rfl
   obtain ⟨v0, v9, v14, b0_0, b0_1, w1, b2_0, b2_1, b3_0, b3_1⟩ := s
   show _ = Option.map _ (impl_PegsPerLine_l0 L (m + 1) v0 v9 v14 b0_0 b0_1 w1 b2_0 b2_1 b3_0 b3_1)
   rw [impl_PegsPerLine_l0.eq_2]
   conv=>lhs;whnf
   refine t_cond ?_ ?_
   ·conv=>lhs;whnf
    refine t_loop (fun (⟨v15, w11⟩ : Int × (List Int)) => (AV.lst oa ca 2 (List.map ep v0) :: topA 7 (AV.ptr 0 0 0 2 :: AV.int .i64 v9 :: AV.top :: AV.own 1 1 none false :: AV.ptr 2 0 0 2 :: AV.ptr 3 0 0 2 :: AV.int .i64 v14 :: AV.int .i64 v15 :: tops 59), [Blk.box (AV.agg [AV.int .i64 b0_0, AV.int .i64 b0_1]), Blk.rows Mode.live 1 (List.map eI w11), Blk.box (AV.agg [AV.int .i64 b2_0, AV.int .i64 b2_1]), Blk.box (AV.agg [AV.int .i64 b3_0, AV.int .i64 b3_1])])) (fun m1 (⟨v15, w11⟩ : Int × (List Int)) => impl_PegsPerLine_l1 L (impl_PegsPerLine_l0 L m) v0 v9 v14 b0_0 b0_1 b2_0 b2_1 b3_0 b3_1 m1 v15 w11) (fun _ => rfl) (fun m1 s1 rec1 hrec1 => ?_) L ((b2_1, w1)) ?_ ?_
    rotate_left
    ·rfl
    ·rfl
    obtain ⟨v15, w11⟩ := s1
    show _ = Option.map _ (impl_PegsPerLine_l1 L (impl_PegsPerLine_l0 L m) v0 v9 v14 b0_0 b0_1 b2_0 b2_1 b3_0 b3_1 (m1 + 1) v15 w11)
    rw [impl_PegsPerLine_l1.eq_2]
    conv=>lhs;whnf
    refine t_cond ?_ ?_
    ·conv=>lhs;whnf
     refine t_call (h_impl_where _ _ _ v0 (by rfl) v14 v15) fun r3 => ?_
     conv=>lhs;whnf
     refine t_cond ?_ ?_
     ·conv=>lhs;whnf
      refine t_call (h_impl_value b0_0 b0_1 v14 v15) fun r4 => ?_
      conv=>lhs;whnf
      refine t_cond ?_ ?_
      ·conv=>lhs;whnf
       refine t_get (en := eI) (l := w11) (by rfl) fun p => ?_
       conv=>lhs;whnf
       refine t_cond ?_ ?_
       ·conv=>lhs;whnf
        refine t_get (en := eI) (l := w11) (by rfl) fun p1 => ?_
        conv=>lhs;whnf
        exact hrec1 ((wr .i64 (iadd v15 1), lset w11 (wr .i64 (isub r4 v9)) (wr .i64 (iadd p 1)))) _ _ (by rfl) (by first | rfl | simp only [ml] <;> rfl)
       ·conv=>lhs;whnf
        exact t_none
      ·conv=>lhs;whnf
       exact t_none
     ·conv=>lhs;whnf
      exact hrec1 ((wr .i64 (iadd v15 1), w11)) _ _ (by rfl) (by rfl)
    ·conv=>lhs;whnf
     exact hrec ((v0, v9, wr .i64 (iadd v14 1), b0_0, b0_1, w11, b2_0, b2_1, b3_0, b3_1)) _ _ (by rfl) (by rfl)
   ·conv=>lhs;whnf
    exact t_ret (by rfl)
  ·conv=>lhs;whnf
   exact t_none
noncomputable def spec_wiDirection (L : Nat) (a : Int) (b : Int) : Option (Bool) := gbind (spec_l1In L a (-200) 200) fun r => bif r then (gbind (spec_l1In L b (-200) 200) fun r1 => bif r1 then (gbind (spec_pgCommon L a b) fun r2 => some (ieq r2 1)) else (some false)) else (some false)
def spec_wiDirection_ok (L : Nat) (C : CF) : Prop := ∀ (a : Int) (b : Int), C 87 ([.int .i64 a, .int .i64 b]) ([]) = Option.map (fun r : Bool => ((.bool r, []) : AV × List Blk)) (spec_wiDirection L a b)
theorem spec_wiDirection_run (L : Nat) (C : CF) (h_spec_l1In : spec_l1In_ok L C) (h_spec_pgCommon : spec_pgCommon_ok L C) : spec_wiDirection_ok L (fun _ => run T C sh (keep 87) L Tryz.f87) := by
 intro a b
 unfold spec_wiDirection
 conv=>lhs;whnf
 refine t_call (h_spec_l1In a (-200) 200) fun r => ?_
 conv=>lhs;whnf
 refine t_cond ?_ ?_
 ·conv=>lhs;whnf
  refine t_call (h_spec_l1In b (-200) 200) fun r1 => ?_
  conv=>lhs;whnf
  refine t_cond ?_ ?_
  ·conv=>lhs;whnf
   refine t_call (h_spec_pgCommon a b) fun r2 => ?_
   conv=>lhs;whnf
   exact t_ret (by rfl)
  ·conv=>lhs;whnf
   exact t_ret (by rfl)
 ·conv=>lhs;whnf
  exact t_ret (by rfl)
noncomputable def spec_wiAsked (L : Nat) (a : List Pt) (b : Int) (c : Int) : Option (Bool) := gbind (spec_pgGood L a) fun r => bif r then (gbind (spec_wiDirection L b c) fun r1 => some r1) else (some false)
def spec_wiAsked_ok (L : Nat) (C : CF) : Prop := ∀ (oa : Bool) (ca : Bool) (x_a : List AV) (a : List Pt) (_ : x_a = List.map ep a) (b : Int) (c : Int), C 50 ([.lst oa ca 2 x_a, .int .i64 b, .int .i64 c]) ([]) = Option.map (fun r : Bool => ((.bool r, []) : AV × List Blk)) (spec_wiAsked L a b c)
theorem spec_wiAsked_run (L : Nat) (C : CF) (h_spec_pgGood : spec_pgGood_ok L C) (h_spec_wiDirection : spec_wiDirection_ok L C) : spec_wiAsked_ok L (fun _ => run T C sh (keep 50) L Tryz.f50) := by
 intro oa ca x_a a hx_a b c
 subst hx_a
 unfold spec_wiAsked
 conv=>lhs;whnf
 refine t_call (h_spec_pgGood _ _ _ a (by rfl)) fun r => ?_
 conv=>lhs;whnf
 refine t_cond ?_ ?_
 ·conv=>lhs;whnf
  refine t_call (h_spec_wiDirection b c) fun r1 => ?_
  conv=>lhs;whnf
  exact t_ret (by rfl)
 ·conv=>lhs;whnf
  exact t_ret (by rfl)
noncomputable def spec_pgWhere_l0 (L : Nat) (a : List Pt) (b_0 : Int) (b_1 : Int) : Nat → Bool → Int → Option Int
  | 0, _, _ => none
  | m + 1, v5, v13 => bif ilt v13 (ilen (List.map ep a)) then (gbind (lget a v13) fun p => bif ieq (ilen (List.map ep a)) 0 then (none) else (gbind (lget a (irem (wr .i64 (iadd v13 1)) (ilen (List.map ep a)))) fun p1 => gbind (spec_pgOn L p.x p.y p1.x p1.y b_0 b_1) fun r => bif r then (some 0) else (bif ilt p1.y p.y then (bif ile p1.y b_1 then (bif ilt b_1 p.y then (gbind (spec_pgTurn L p1.x p1.y p.x p.y b_0 b_1) fun r1 => bif ilt 0 r1 then (spec_pgWhere_l0 L a b_0 b_1 m (!v5) (wr .i64 (iadd v13 1))) else (spec_pgWhere_l0 L a b_0 b_1 m v5 (wr .i64 (iadd v13 1)))) else (spec_pgWhere_l0 L a b_0 b_1 m v5 (wr .i64 (iadd v13 1)))) else (spec_pgWhere_l0 L a b_0 b_1 m v5 (wr .i64 (iadd v13 1)))) else (bif ile p.y b_1 then (bif ilt b_1 p1.y then (gbind (spec_pgTurn L p.x p.y p1.x p1.y b_0 b_1) fun r2 => bif ilt 0 r2 then (spec_pgWhere_l0 L a b_0 b_1 m (!v5) (wr .i64 (iadd v13 1))) else (spec_pgWhere_l0 L a b_0 b_1 m v5 (wr .i64 (iadd v13 1)))) else (spec_pgWhere_l0 L a b_0 b_1 m v5 (wr .i64 (iadd v13 1)))) else (spec_pgWhere_l0 L a b_0 b_1 m v5 (wr .i64 (iadd v13 1))))))) else (bif v5 then (some 1) else (some (-1)))
noncomputable def spec_pgWhere (L : Nat) (a : List Pt) (b_0 : Int) (b_1 : Int) : Option (Int) := spec_pgWhere_l0 L a b_0 b_1 L false 0
def spec_pgWhere_ok (L : Nat) (C : CF) : Prop := ∀ (oa : Bool) (ca : Bool) (x_a : List AV) (a : List Pt) (_ : x_a = List.map ep a) (b_0 : Int) (b_1 : Int), C 88 ([.lst oa ca 2 x_a, .agg [.int .i64 b_0, .int .i64 b_1]]) ([]) = Option.map (fun r : Int => ((.int .i64 r, []) : AV × List Blk)) (spec_pgWhere L a b_0 b_1)
theorem spec_pgWhere_run (L : Nat) (C : CF) (h_spec_pgTurn : spec_pgTurn_ok L C) (h_spec_pgOn : spec_pgOn_ok L C) : spec_pgWhere_ok L (fun _ => run T C sh (keep 88) L Tryz.f88) := by
 intro oa ca x_a a hx_a b_0 b_1
 subst hx_a
 unfold spec_pgWhere
 conv=>lhs;whnf
 refine t_loop (fun (⟨v5, v13⟩ : Bool × Int) => (AV.lst oa ca 2 (List.map ep a) :: topA 2 (AV.ptr 0 0 0 2 :: AV.top :: AV.bool v5 :: topA 5 (AV.lst oa ca 2 (List.map ep a) :: AV.int .i64 (ilen (List.map ep a)) :: AV.int .i64 v13 :: tops 48)), [Blk.box (AV.agg [AV.int .i64 b_0, AV.int .i64 b_1])])) (fun m (⟨v5, v13⟩ : Bool × Int) => spec_pgWhere_l0 L a b_0 b_1 m v5 v13) (fun _ => rfl) (fun m s rec hrec => ?_) L ((false, 0)) ?_ ?_
 rotate_left
 ·rfl
 ·rfl
 obtain ⟨v5, v13⟩ := s
 show _ = Option.map _ (spec_pgWhere_l0 L a b_0 b_1 (m + 1) v5 v13)
 rw [spec_pgWhere_l0.eq_2]
 conv=>lhs;whnf
 refine t_cond ?_ ?_
 ·conv=>lhs;whnf
  refine t_get (en := ep) (l := a) (by rfl) fun p => ?_
  conv=>lhs;whnf
  refine t_cond ?_ ?_
  ·conv=>lhs;whnf
   exact t_none
  ·conv=>lhs;whnf
   refine t_get (en := ep) (l := a) (by rfl) fun p1 => ?_
   conv=>lhs;whnf
   refine t_call (h_spec_pgOn p.x p.y p1.x p1.y b_0 b_1) fun r => ?_
   conv=>lhs;whnf
   refine t_cond ?_ ?_
   ·conv=>lhs;whnf
    exact t_ret (by rfl)
   ·conv=>lhs;whnf
    refine t_cond ?_ ?_
    ·conv=>lhs;whnf
     refine t_cond ?_ ?_
     ·conv=>lhs;whnf
      refine t_cond ?_ ?_
      ·conv=>lhs;whnf
       refine t_call (h_spec_pgTurn p1.x p1.y p.x p.y b_0 b_1) fun r1 => ?_
       conv=>lhs;whnf
       refine t_cond ?_ ?_
       ·conv=>lhs;whnf
        exact hrec ((!v5, wr .i64 (iadd v13 1))) _ _ (by rfl) (by rfl)
       ·conv=>lhs;whnf
        exact hrec ((v5, wr .i64 (iadd v13 1))) _ _ (by rfl) (by rfl)
      ·conv=>lhs;whnf
       exact hrec ((v5, wr .i64 (iadd v13 1))) _ _ (by rfl) (by rfl)
     ·conv=>lhs;whnf
      exact hrec ((v5, wr .i64 (iadd v13 1))) _ _ (by rfl) (by rfl)
    ·conv=>lhs;whnf
     refine t_cond ?_ ?_
     ·conv=>lhs;whnf
      refine t_cond ?_ ?_
      ·conv=>lhs;whnf
       refine t_call (h_spec_pgTurn p.x p.y p1.x p1.y b_0 b_1) fun r2 => ?_
       conv=>lhs;whnf
       refine t_cond ?_ ?_
       ·conv=>lhs;whnf
        exact hrec ((!v5, wr .i64 (iadd v13 1))) _ _ (by rfl) (by rfl)
       ·conv=>lhs;whnf
        exact hrec ((v5, wr .i64 (iadd v13 1))) _ _ (by rfl) (by rfl)
      ·conv=>lhs;whnf
       exact hrec ((v5, wr .i64 (iadd v13 1))) _ _ (by rfl) (by rfl)
     ·conv=>lhs;whnf
      exact hrec ((v5, wr .i64 (iadd v13 1))) _ _ (by rfl) (by rfl)
 ·conv=>lhs;whnf
  refine t_cond ?_ ?_
  ·conv=>lhs;whnf
   exact t_ret (by rfl)
  ·conv=>lhs;whnf
   exact t_ret (by rfl)
noncomputable def spec_wiLines_l1 (L : Nat) (κ0 : (List Pt) → Int → Int → Int → Int → (List Int) → Option ((List Int))) (v0 : List Pt) (v1 : Int) (v2 : Int) (v7 : Int) (v10 : Int) : Nat → Int → (List Int) → Option ((List Int))
  | 0, _, _ => none
  | m1 + 1, v11, w01 => bif ile v11 40 then (gbind (spec_pgWhere L v0 v10 v11) fun r1 => bif ile 0 r1 then (bif ile 0 (wr .i64 (isub (wr .i64 (iadd (wr .i64 (imul v1 v10)) (wr .i64 (imul v2 v11)))) v7)) && ilt (wr .i64 (isub (wr .i64 (iadd (wr .i64 (imul v1 v10)) (wr .i64 (imul v2 v11)))) v7)) (ilen (List.map eI w01)) then (gbind (lget w01 (wr .i64 (isub (wr .i64 (iadd (wr .i64 (imul v1 v10)) (wr .i64 (imul v2 v11)))) v7))) fun p => bif ile 0 (wr .i64 (isub (wr .i64 (iadd (wr .i64 (imul v1 v10)) (wr .i64 (imul v2 v11)))) v7)) && ilt (wr .i64 (isub (wr .i64 (iadd (wr .i64 (imul v1 v10)) (wr .i64 (imul v2 v11)))) v7)) (ilen (List.map eI w01)) then (gbind (lget w01 (wr .i64 (isub (wr .i64 (iadd (wr .i64 (imul v1 v10)) (wr .i64 (imul v2 v11)))) v7))) fun p1 => spec_wiLines_l1 L κ0 v0 v1 v2 v7 v10 m1 (wr .i64 (iadd v11 1)) (lset w01 (wr .i64 (isub (wr .i64 (iadd (wr .i64 (imul v1 v10)) (wr .i64 (imul v2 v11)))) v7)) (wr .i64 (iadd p 1)))) else (none)) else (none)) else (spec_wiLines_l1 L κ0 v0 v1 v2 v7 v10 m1 (wr .i64 (iadd v11 1)) w01)) else (κ0 v0 v1 v2 v7 (wr .i64 (iadd v10 1)) w01)
noncomputable def spec_wiLines_l0 (L : Nat) : Nat → (List Pt) → Int → Int → Int → Int → (List Int) → Option ((List Int))
  | 0, _, _, _, _, _, _ => none
  | m + 1, v0, v1, v2, v7, v10, w0 => bif ile v10 40 then (spec_wiLines_l1 L (spec_wiLines_l0 L m) v0 v1 v2 v7 v10 L (-40) w0) else (some w0)
noncomputable def spec_wiLines (L : Nat) (a : List Pt) (b : Int) (c : Int) : Option ((List Int)) := gbind (spec_wiRange L a b c) fun r => bif ile 0 (wr .i64 (iadd (wr .i64 (isub r.2 r.1)) 1)) && ile (wr .i64 (iadd (wr .i64 (isub r.2 r.1)) 1)) (wr .i64 (iadd (wr .i64 (isub r.2 r.1)) 1)) && fits (wr .i64 (iadd (wr .i64 (isub r.2 r.1)) 1)) 8 then (spec_wiLines_l0 L L a b c r.1 (-40) (lrep (wr .i64 (iadd (wr .i64 (isub r.2 r.1)) 1)) 0)) else (none)
def spec_wiLines_ok (L : Nat) (C : CF) : Prop := ∀ (oa : Bool) (ca : Bool) (x_a : List AV) (a : List Pt) (_ : x_a = List.map ep a) (b : Int) (c : Int), C 51 ([.lst oa ca 2 x_a, .int .i64 b, .int .i64 c]) ([]) = Option.map (fun r : (List Int) => ((.frs 1 (List.map eI r), []) : AV × List Blk)) (spec_wiLines L a b c)
theorem spec_wiLines_run (L : Nat) (C : CF) (h_spec_wiRange : spec_wiRange_ok L C) (h_spec_pgWhere : spec_pgWhere_ok L C) : spec_wiLines_ok L (fun _ => run T C sh (keep 51) L Tryz.f51) := by
 intro oa ca x_a a hx_a b c
 subst hx_a
 unfold spec_wiLines
 conv=>lhs;whnf
 refine t_call (h_spec_wiRange _ _ _ a (by rfl) b c) fun r => ?_
 conv=>lhs;whnf
 refine t_cond ?_ ?_
 ·conv=>lhs;whnf
  refine t_loop (fun (⟨v0, v1, v2, v7, v10, w0⟩ : (List Pt) × Int × Int × Int × Int × (List Int)) => (AV.lst oa ca 2 (List.map ep v0) :: AV.int .i64 v1 :: AV.int .i64 v2 :: topA 4 (AV.int .i64 v7 :: AV.top :: AV.own 0 1 none false :: AV.int .i64 v10 :: tops 44), [Blk.rows Mode.live 1 (List.map eI w0)])) (fun m (⟨v0, v1, v2, v7, v10, w0⟩ : (List Pt) × Int × Int × Int × Int × (List Int)) => spec_wiLines_l0 L m v0 v1 v2 v7 v10 w0) (fun _ => rfl) (fun m s rec hrec => ?_) L ((a, b, c, r.1, -40, lrep (wr .i64 (iadd (wr .i64 (isub r.2 r.1)) 1)) 0)) ?_ ?_
  rotate_left
  ·rfl
  ·first | rfl | simp only [ml] <;> rfl
  obtain ⟨v0, v1, v2, v7, v10, w0⟩ := s
  show _ = Option.map _ (spec_wiLines_l0 L (m + 1) v0 v1 v2 v7 v10 w0)
  rw [spec_wiLines_l0.eq_2]
  conv=>lhs;whnf
  refine t_cond ?_ ?_
  ·conv=>lhs;whnf
   refine t_loop (fun (⟨v11, w01⟩ : Int × (List Int)) => (AV.lst oa ca 2 (List.map ep v0) :: AV.int .i64 v1 :: AV.int .i64 v2 :: topA 4 (AV.int .i64 v7 :: AV.top :: AV.own 0 1 none false :: AV.int .i64 v10 :: AV.int .i64 v11 :: tops 43), [Blk.rows Mode.live 1 (List.map eI w01)])) (fun m1 (⟨v11, w01⟩ : Int × (List Int)) => spec_wiLines_l1 L (spec_wiLines_l0 L m) v0 v1 v2 v7 v10 m1 v11 w01) (fun _ => rfl) (fun m1 s1 rec1 hrec1 => ?_) L ((-40, w0)) ?_ ?_
   rotate_left
   ·rfl
   ·rfl
   obtain ⟨v11, w01⟩ := s1
   show _ = Option.map _ (spec_wiLines_l1 L (spec_wiLines_l0 L m) v0 v1 v2 v7 v10 (m1 + 1) v11 w01)
   rw [spec_wiLines_l1.eq_2]
   conv=>lhs;whnf
   refine t_cond ?_ ?_
   ·conv=>lhs;whnf
    refine t_call (h_spec_pgWhere _ _ _ v0 (by rfl) v10 v11) fun r1 => ?_
    conv=>lhs;whnf
    refine t_cond ?_ ?_
    ·conv=>lhs;whnf
     refine t_cond ?_ ?_
     ·conv=>lhs;whnf
      refine t_get (en := eI) (l := w01) (by rfl) fun p => ?_
      conv=>lhs;whnf
      refine t_cond ?_ ?_
      ·conv=>lhs;whnf
       refine t_get (en := eI) (l := w01) (by rfl) fun p1 => ?_
       conv=>lhs;whnf
       exact hrec1 ((wr .i64 (iadd v11 1), lset w01 (wr .i64 (isub (wr .i64 (iadd (wr .i64 (imul v1 v10)) (wr .i64 (imul v2 v11)))) v7)) (wr .i64 (iadd p 1)))) _ _ (by rfl) (by first | rfl | simp only [ml] <;> rfl)
      ·conv=>lhs;whnf
       exact t_none
     ·conv=>lhs;whnf
      exact t_none
    ·conv=>lhs;whnf
     exact hrec1 ((wr .i64 (iadd v11 1), w01)) _ _ (by rfl) (by rfl)
   ·conv=>lhs;whnf
    exact hrec ((v0, v1, v2, v7, wr .i64 (iadd v10 1), w01)) _ _ (by rfl) (by rfl)
  ·conv=>lhs;whnf
   exact t_ret (by rfl)
 ·conv=>lhs;whnf
  exact t_none
noncomputable def spec_PegsPerLine (L : Nat) (a : List Pt) (b : Int) (c : Int) : Option ((List Int) × Bool) := gbind (spec_wiAsked L a b c) fun r => bif !r then (some (([], false))) else (gbind (spec_wiLines L a b c) fun r1 => some ((r1, true)))
def spec_PegsPerLine_ok (L : Nat) (C : CF) : Prop := ∀ (oa : Bool) (ca : Bool) (x_a : List AV) (a : List Pt) (_ : x_a = List.map ep a) (b : Int) (c : Int), C 19 ([.lst oa ca 2 x_a, .int .i64 b, .int .i64 c]) ([]) = Option.map (fun r : (List Int) × Bool => ((.tup [.frs 1 (List.map eI (r.1)), .bool (r.2)], []) : AV × List Blk)) (spec_PegsPerLine L a b c)
theorem spec_PegsPerLine_run (L : Nat) (C : CF) (h_spec_wiAsked : spec_wiAsked_ok L C) (h_spec_wiLines : spec_wiLines_ok L C) : spec_PegsPerLine_ok L (fun _ => run T C sh (keep 19) L Tryz.f19) := by
 intro oa ca x_a a hx_a b c
 subst hx_a
 unfold spec_PegsPerLine
 conv=>lhs;whnf
 refine t_call (h_spec_wiAsked _ _ _ a (by rfl) b c) fun r => ?_
 conv=>lhs;whnf
 refine t_cond ?_ ?_
 ·conv=>lhs;whnf
  exact t_ret (by rfl)
 ·conv=>lhs;whnf
  refine t_call (h_spec_wiLines _ _ _ a (by rfl) b c) fun r1 => ?_
  conv=>lhs;whnf
  exact t_ret (by rfl)
noncomputable def slices_Max_int_int_l0 (L : Nat) (a : List Int) : Nat → Int → Int → Option Int
  | 0, _, _ => none
  | m + 1, v3, v4 => bif ilt v4 (ilen (List.map eI a)) then (gbind (lget a v4) fun p1 => slices_Max_int_int_l0 L a m (imax v3 p1) (wr .i64 (iadd v4 1))) else (some v3)
noncomputable def slices_Max_int_int (L : Nat) (a : List Int) : Option (Int) := bif ilt (ilen (List.map eI a)) 1 then (none) else (gbind (lget a 0) fun p => slices_Max_int_int_l0 L a L p 1)
def slices_Max_int_int_ok (L : Nat) (C : CF) : Prop := ∀ (oa : Bool) (ca : Bool) (x_a : List AV) (a : List Int) (_ : x_a = List.map eI a), C 52 ([.lst oa ca 1 x_a]) ([]) = Option.map (fun r : Int => ((.int .i64 r, []) : AV × List Blk)) (slices_Max_int_int L a)
theorem slices_Max_int_int_run (L : Nat) (C : CF) : slices_Max_int_int_ok L (fun _ => run T C sh (keep 52) L Tryz.f52) := by
 intro oa ca x_a a hx_a
 subst hx_a
 unfold slices_Max_int_int
 conv=>lhs;whnf
 refine t_cond ?_ ?_
 ·conv=>lhs;whnf
  exact t_none
 ·conv=>lhs;whnf
  refine t_get (en := eI) (l := a) (by rfl) fun p => ?_
  conv=>lhs;whnf
  refine t_loop (fun (⟨v3, v4⟩ : Int × Int) => (AV.lst oa ca 1 (List.map eI a) :: topA 2 (AV.int .i64 v3 :: AV.int .i64 v4 :: tops 20), [])) (fun m (⟨v3, v4⟩ : Int × Int) => slices_Max_int_int_l0 L a m v3 v4) (fun _ => rfl) (fun m s rec hrec => ?_) L ((p, 1)) ?_ ?_
  rotate_left
  ·rfl
  ·rfl
  obtain ⟨v3, v4⟩ := s
  show _ = Option.map _ (slices_Max_int_int_l0 L a (m + 1) v3 v4)
  rw [slices_Max_int_int_l0.eq_2]
  conv=>lhs;whnf
  refine t_cond ?_ ?_
  ·conv=>lhs;whnf
   refine t_get (en := eI) (l := a) (by rfl) fun p1 => ?_
   conv=>lhs;whnf
   exact hrec ((imax v3 p1, wr .i64 (iadd v4 1))) _ _ (by rfl) (by rfl)
  ·conv=>lhs;whnf
   exact t_ret (by rfl)
noncomputable def impl_MostOnLine (L : Nat) (a : List Pt) (b : Int) (c : Int) : Option (Int × Bool) := gbind (impl_PegsPerLine L a b c) fun r => bif !r.2 then (some ((0, false))) else (gbind (slices_Max_int_int L r.1) fun r1 => some ((r1, true)))
def impl_MostOnLine_ok (L : Nat) (C : CF) : Prop := ∀ (oa : Bool) (ca : Bool) (x_a : List AV) (a : List Pt) (_ : x_a = List.map ep a) (b : Int) (c : Int), C 20 ([.lst oa ca 2 x_a, .int .i64 b, .int .i64 c]) ([]) = Option.map (fun r : Int × Bool => ((.tup [.int .i64 (r.1), .bool (r.2)], []) : AV × List Blk)) (impl_MostOnLine L a b c)
theorem impl_MostOnLine_run (L : Nat) (C : CF) (h_impl_PegsPerLine : impl_PegsPerLine_ok L C) (h_slices_Max_int_int : slices_Max_int_int_ok L C) : impl_MostOnLine_ok L (fun _ => run T C sh (keep 20) L Tryz.f20) := by
 intro oa ca x_a a hx_a b c
 subst hx_a
 unfold impl_MostOnLine
 conv=>lhs;whnf
 refine t_call (h_impl_PegsPerLine _ _ _ a (by rfl) b c) fun r => ?_
 conv=>lhs;whnf
 refine t_cond ?_ ?_
 ·conv=>lhs;whnf
  exact t_ret (by rfl)
 ·conv=>lhs;whnf
  refine t_call (h_slices_Max_int_int _ _ _ r.1 (by rfl)) fun r1 => ?_
  conv=>lhs;whnf
  exact t_ret (by rfl)
noncomputable def spec_MostOnLine_l0 (L : Nat) (r1 : List Int) : Nat → Int → Int → Option (Int × Bool)
  | 0, _, _ => none
  | m + 1, v8, v21 => bif ilt v21 (ilen (List.map eI r1)) then (bif ile 0 v21 && ilt v21 (ilen (List.map eI r1)) then (gbind (lget r1 v21) fun p => gbind (spec_l1Most L v8 p) fun r2 => spec_MostOnLine_l0 L r1 m r2 (wr .i64 (iadd v21 1))) else (none)) else (some ((v8, true)))
noncomputable def spec_MostOnLine (L : Nat) (a : List Pt) (b : Int) (c : Int) : Option (Int × Bool) := gbind (spec_wiAsked L a b c) fun r => bif !r then (some ((0, false))) else (gbind (spec_wiLines L a b c) fun r1 => spec_MostOnLine_l0 L r1 L 0 0)
def spec_MostOnLine_ok (L : Nat) (C : CF) : Prop := ∀ (oa : Bool) (ca : Bool) (x_a : List AV) (a : List Pt) (_ : x_a = List.map ep a) (b : Int) (c : Int), C 21 ([.lst oa ca 2 x_a, .int .i64 b, .int .i64 c]) ([]) = Option.map (fun r : Int × Bool => ((.tup [.int .i64 (r.1), .bool (r.2)], []) : AV × List Blk)) (spec_MostOnLine L a b c)
theorem spec_MostOnLine_run (L : Nat) (C : CF) (h_spec_l1Most : spec_l1Most_ok L C) (h_spec_wiAsked : spec_wiAsked_ok L C) (h_spec_wiLines : spec_wiLines_ok L C) : spec_MostOnLine_ok L (fun _ => run T C sh (keep 21) L Tryz.f21) := by
 intro oa ca x_a a hx_a b c
 subst hx_a
 unfold spec_MostOnLine
 conv=>lhs;whnf
 refine t_call (h_spec_wiAsked _ _ _ a (by rfl) b c) fun r => ?_
 conv=>lhs;whnf
 refine t_cond ?_ ?_
 ·conv=>lhs;whnf
  exact t_ret (by rfl)
 ·conv=>lhs;whnf
  refine t_call (h_spec_wiLines _ _ _ a (by rfl) b c) fun r1 => ?_
  conv=>lhs;whnf
  refine t_loop (fun (⟨v8, v21⟩ : Int × Int) => (topA 8 (AV.int .i64 v8 :: topA 10 (AV.own 0 1 none false :: AV.int .i64 (ilen (List.map eI r1)) :: AV.int .i64 v21 :: tops 8)), [Blk.rows Mode.live 1 (List.map eI r1)])) (fun m (⟨v8, v21⟩ : Int × Int) => spec_MostOnLine_l0 L r1 m v8 v21) (fun _ => rfl) (fun m s rec hrec => ?_) L ((0, 0)) ?_ ?_
  rotate_left
  ·rfl
  ·rfl
  obtain ⟨v8, v21⟩ := s
  show _ = Option.map _ (spec_MostOnLine_l0 L r1 (m + 1) v8 v21)
  rw [spec_MostOnLine_l0.eq_2]
  conv=>lhs;whnf
  refine t_cond ?_ ?_
  ·conv=>lhs;whnf
   refine t_cond ?_ ?_
   ·conv=>lhs;whnf
    refine t_get (en := eI) (l := r1) (by rfl) fun p => ?_
    conv=>lhs;whnf
    refine t_call (h_spec_l1Most v8 p) fun r2 => ?_
    conv=>lhs;whnf
    exact hrec ((r2, wr .i64 (iadd v21 1))) _ _ (by rfl) (by rfl)
   ·conv=>lhs;whnf
    exact t_none
  ·conv=>lhs;whnf
   exact t_ret (by rfl)
noncomputable def impl_SupportOf_l0 (L : Nat) (b : Int) (c : Int) (r1 : Int × Int) (r2 : List Pt) : Nat → Int → (List Pt) → Option ((List Pt) × Bool)
  | 0, _, _ => none
  | m + 1, v32, w1 => bif ilt v32 (ilen (List.map ep r2)) then (bif ile 0 v32 && ilt v32 (ilen (List.map ep r2)) then (gbind (lget r2 v32) fun p => gbind (impl_value L b c p.x p.y) fun r3 => bif ieq r3 r1.2 then (bif fits (iadd (ilen (List.map ep w1)) (ilen [AV.agg [AV.int .i64 p.x, AV.int .i64 p.y]])) 16 then (impl_SupportOf_l0 L b c r1 r2 m (wr .i64 (iadd v32 1)) (lcat w1 (p :: []))) else (none)) else (impl_SupportOf_l0 L b c r1 r2 m (wr .i64 (iadd v32 1)) w1)) else (none)) else (some ((w1, true)))
noncomputable def impl_SupportOf (L : Nat) (a : List Pt) (b : Int) (c : Int) : Option ((List Pt) × Bool) := gbind (impl_isWide L a b c) fun r => bif !r then (some (([], false))) else (gbind (impl_extent L a b c) fun r1 => gbind (impl_sorted L a) fun r2 => impl_SupportOf_l0 L b c r1 r2 L 0 [])
def impl_SupportOf_ok (L : Nat) (C : CF) : Prop := ∀ (oa : Bool) (ca : Bool) (x_a : List AV) (a : List Pt) (_ : x_a = List.map ep a) (b : Int) (c : Int), C 22 ([.lst oa ca 2 x_a, .int .i64 b, .int .i64 c]) ([]) = Option.map (fun r : (List Pt) × Bool => ((.tup [.frs 2 (List.map ep (r.1)), .bool (r.2)], []) : AV × List Blk)) (impl_SupportOf L a b c)
theorem impl_SupportOf_run (L : Nat) (C : CF) (h_impl_value : impl_value_ok L C) (h_impl_extent : impl_extent_ok L C) (h_impl_sorted : impl_sorted_ok L C) (h_impl_isWide : impl_isWide_ok L C) : impl_SupportOf_ok L (fun _ => run T C sh (keep 22) L Tryz.f22) := by
 intro oa ca x_a a hx_a b c
 subst hx_a
 unfold impl_SupportOf
 conv=>lhs;whnf
 refine t_call (h_impl_isWide _ _ _ a (by rfl) b c) fun r => ?_
 conv=>lhs;whnf
 refine t_cond ?_ ?_
 ·conv=>lhs;whnf
  exact t_ret (by rfl)
 ·conv=>lhs;whnf
  refine t_call (h_impl_extent _ _ _ a (by rfl) b c) fun r1 => ?_
  conv=>lhs;whnf
  refine t_call (h_impl_sorted _ _ _ a (by rfl)) fun r2 => ?_
  conv=>lhs;whnf
  refine t_loop (fun (⟨v32, w1⟩ : Int × (List Pt)) => (topA 8 (AV.ptr 0 0 0 2 :: AV.own 1 2 none false :: AV.top :: AV.int .i64 r1.2 :: topA 18 (AV.own 2 2 none false :: AV.int .i64 (ilen (List.map ep r2)) :: AV.int .i64 v32 :: tops 14)), [Blk.box (AV.agg [AV.int .i64 b, AV.int .i64 c]), Blk.rows Mode.live 2 (List.map ep w1), Blk.rows Mode.live 2 (List.map ep r2)])) (fun m (⟨v32, w1⟩ : Int × (List Pt)) => impl_SupportOf_l0 L b c r1 r2 m v32 w1) (fun _ => rfl) (fun m s rec hrec => ?_) L ((0, [])) ?_ ?_
  rotate_left
  ·rfl
  ·rfl
  obtain ⟨v32, w1⟩ := s
  show _ = Option.map _ (impl_SupportOf_l0 L b c r1 r2 (m + 1) v32 w1)
  rw [impl_SupportOf_l0.eq_2]
  conv=>lhs;whnf
  refine t_cond ?_ ?_
  ·conv=>lhs;whnf
   refine t_cond ?_ ?_
   ·conv=>lhs;whnf
    refine t_get (en := ep) (l := r2) (by rfl) fun p => ?_
    conv=>lhs;whnf
    refine t_call (h_impl_value b c p.x p.y) fun r3 => ?_
    conv=>lhs;whnf
    refine t_cond ?_ ?_
    ·conv=>lhs;whnf
     refine t_cond ?_ ?_
     ·conv=>lhs;whnf
      exact hrec ((wr .i64 (iadd v32 1), lcat w1 (p :: []))) _ _ (by rfl) (by first | rfl | simp only [ml] <;> rfl)
     ·conv=>lhs;whnf
      exact t_none
    ·conv=>lhs;whnf
     exact hrec ((wr .i64 (iadd v32 1), w1)) _ _ (by rfl) (by rfl)
   ·conv=>lhs;whnf
    exact t_none
  ·conv=>lhs;whnf
   exact t_ret (by rfl)
noncomputable def spec_pgLess (L : Nat) (a_0 : Int) (a_1 : Int) (b_0 : Int) (b_1 : Int) : Option (Bool) := bif ilt a_0 b_0 then (some true) else (bif ieq a_0 b_0 then (some (ilt a_1 b_1)) else (some false))
def spec_pgLess_ok (L : Nat) (C : CF) : Prop := ∀ (a_0 : Int) (a_1 : Int) (b_0 : Int) (b_1 : Int), C 56 ([.agg [.int .i64 a_0, .int .i64 a_1], .agg [.int .i64 b_0, .int .i64 b_1]]) ([]) = Option.map (fun r : Bool => ((.bool r, []) : AV × List Blk)) (spec_pgLess L a_0 a_1 b_0 b_1)
theorem spec_pgLess_run (L : Nat) (C : CF) : spec_pgLess_ok L (fun _ => run T C sh (keep 56) L Tryz.f56) := by
 intro a_0 a_1 b_0 b_1
 unfold spec_pgLess
 conv=>lhs;whnf
 refine t_cond ?_ ?_
 ·conv=>lhs;whnf
  exact t_ret (by rfl)
 ·conv=>lhs;whnf
  refine t_cond ?_ ?_
  ·conv=>lhs;whnf
   exact t_ret (by rfl)
  ·conv=>lhs;whnf
   exact t_ret (by rfl)
noncomputable def spec_SupportOf_l1 (L : Nat) (κ0 : Int → Int → Int → (List Pt) → (List Pt) → Int → Int → Option ((List Pt) × Bool)) (v1 : Int) (v2 : Int) (v9 : Int) (v10 : List Pt) (v27 : List Pt) (v28 : Int) (v29 : Int) (p : Pt) : Nat → Int → Option ((List Pt) × Bool)
  | 0, _ => none
  | m1 + 1, v13 => bif ilt 0 v13 then (gbind (lget v10 (wr .i64 (isub v13 1))) fun p1 => gbind (spec_pgLess L p.x p.y p1.x p1.y) fun r2 => bif r2 then (spec_SupportOf_l1 L κ0 v1 v2 v9 v10 v27 v28 v29 p m1 (wr .i64 (isub v13 1))) else (bif ile 0 v13 && ile v13 (ilen (List.map ep v10)) then (bif ieq (ilen (lsub (List.map ep v10) 0 v13)) 0 then (bif fits (ilen ([] : List AV)) 16 then (bif fits (iadd (ilen ([] : List AV)) (ilen [AV.agg [AV.int .i64 p.x, AV.int .i64 p.y]])) 16 then (bif ile 0 v13 && ile v13 (ilen (List.map ep v10)) then (bif fits (iadd (ilen (lcat [] [AV.agg [AV.int .i64 p.x, AV.int .i64 p.y]])) (ilen (lsub (List.map ep v10) v13 (ilen (List.map ep v10))))) 16 then (κ0 v1 v2 v9 (lcat (lcat [] (p :: [])) (lsub v10 v13 (ilen (List.map ep v10)))) v27 v28 (wr .i64 (iadd v29 1))) else (none)) else (none)) else (none)) else (none)) else (bif fits (iadd (ilen ([] : List AV)) (ilen (lsub (List.map ep v10) 0 v13))) 16 then (bif fits (iadd (ilen (lcat [] (lsub (List.map ep v10) 0 v13))) (ilen [AV.agg [AV.int .i64 p.x, AV.int .i64 p.y]])) 16 then (bif ile 0 v13 && ile v13 (ilen (List.map ep v10)) then (bif fits (iadd (ilen (lcat (lcat [] (lsub (List.map ep v10) 0 v13)) [AV.agg [AV.int .i64 p.x, AV.int .i64 p.y]])) (ilen (lsub (List.map ep v10) v13 (ilen (List.map ep v10))))) 16 then (κ0 v1 v2 v9 (lcat (lcat (lcat [] (lsub v10 0 v13)) (p :: [])) (lsub v10 v13 (ilen (List.map ep v10)))) v27 v28 (wr .i64 (iadd v29 1))) else (none)) else (none)) else (none)) else (none))) else (none))) else (bif ile 0 v13 && ile v13 (ilen (List.map ep v10)) then (bif ieq (ilen (lsub (List.map ep v10) 0 v13)) 0 then (bif fits (ilen ([] : List AV)) 16 then (bif fits (iadd (ilen ([] : List AV)) (ilen [AV.agg [AV.int .i64 p.x, AV.int .i64 p.y]])) 16 then (bif ile 0 v13 && ile v13 (ilen (List.map ep v10)) then (bif fits (iadd (ilen (lcat [] [AV.agg [AV.int .i64 p.x, AV.int .i64 p.y]])) (ilen (lsub (List.map ep v10) v13 (ilen (List.map ep v10))))) 16 then (κ0 v1 v2 v9 (lcat (lcat [] (p :: [])) (lsub v10 v13 (ilen (List.map ep v10)))) v27 v28 (wr .i64 (iadd v29 1))) else (none)) else (none)) else (none)) else (none)) else (bif fits (iadd (ilen ([] : List AV)) (ilen (lsub (List.map ep v10) 0 v13))) 16 then (bif fits (iadd (ilen (lcat [] (lsub (List.map ep v10) 0 v13))) (ilen [AV.agg [AV.int .i64 p.x, AV.int .i64 p.y]])) 16 then (bif ile 0 v13 && ile v13 (ilen (List.map ep v10)) then (bif fits (iadd (ilen (lcat (lcat [] (lsub (List.map ep v10) 0 v13)) [AV.agg [AV.int .i64 p.x, AV.int .i64 p.y]])) (ilen (lsub (List.map ep v10) v13 (ilen (List.map ep v10))))) 16 then (κ0 v1 v2 v9 (lcat (lcat (lcat [] (lsub v10 0 v13)) (p :: [])) (lsub v10 v13 (ilen (List.map ep v10)))) v27 v28 (wr .i64 (iadd v29 1))) else (none)) else (none)) else (none)) else (none))) else (none))
noncomputable def spec_SupportOf_l0 (L : Nat) : Nat → Int → Int → Int → (List Pt) → (List Pt) → Int → Int → Option ((List Pt) × Bool)
  | 0, _, _, _, _, _, _, _ => none
  | m + 1, v1, v2, v9, v10, v27, v28, v29 => bif ilt v29 v28 then (gbind (lget v27 v29) fun p => bif !ieq (wr .i64 (iadd (wr .i64 (imul v1 p.x)) (wr .i64 (imul v2 p.y)))) v9 then (spec_SupportOf_l0 L m v1 v2 v9 v10 v27 v28 (wr .i64 (iadd v29 1))) else (spec_SupportOf_l1 L (spec_SupportOf_l0 L m) v1 v2 v9 v10 v27 v28 v29 p L (ilen (List.map ep v10)))) else (some ((v10, true)))
noncomputable def spec_SupportOf (L : Nat) (a : List Pt) (b : Int) (c : Int) : Option ((List Pt) × Bool) := gbind (spec_wiAsked L a b c) fun r => bif !r then (some (([], false))) else (gbind (spec_wiRange L a b c) fun r1 => spec_SupportOf_l0 L L b c r1.2 [] a (ilen (List.map ep a)) 0)
def spec_SupportOf_ok (L : Nat) (C : CF) : Prop := ∀ (oa : Bool) (ca : Bool) (x_a : List AV) (a : List Pt) (_ : x_a = List.map ep a) (b : Int) (c : Int), C 23 ([.lst oa ca 2 x_a, .int .i64 b, .int .i64 c]) ([]) = Option.map (fun r : (List Pt) × Bool => ((.tup [.lst false false 2 (List.map ep (r.1)), .bool (r.2)], []) : AV × List Blk)) (spec_SupportOf L a b c)
theorem spec_SupportOf_run (L : Nat) (C : CF) (h_spec_wiRange : spec_wiRange_ok L C) (h_spec_wiAsked : spec_wiAsked_ok L C) (h_spec_pgLess : spec_pgLess_ok L C) : spec_SupportOf_ok L (fun _ => run T C sh (keep 23) L Tryz.f23) := by
 intro oa ca x_a a hx_a b c
 subst hx_a
 unfold spec_SupportOf
 conv=>lhs;whnf
 refine t_call (h_spec_wiAsked _ _ _ a (by rfl) b c) fun r => ?_
 conv=>lhs;whnf
 refine t_cond ?_ ?_
 ·conv=>lhs;whnf
  exact t_ret (by rfl)
 ·conv=>lhs;whnf
  refine t_call (h_spec_wiRange _ _ _ a (by rfl) b c) fun r1 => ?_
  conv=>lhs;whnf
  refine t_loop (fun (⟨v1, v2, v9, v10, v27, v28, v29⟩ : Int × Int × Int × (List Pt) × (List Pt) × Int × Int) => (AV.top :: AV.int .i64 v1 :: AV.int .i64 v2 :: topA 6 (AV.int .i64 v9 :: AV.lst false false 2 (List.map ep v10) :: topA 16 (AV.lst oa ca 2 (List.map ep v27) :: AV.int .i64 v28 :: AV.int .i64 v29 :: tops 44)), [])) (fun m (⟨v1, v2, v9, v10, v27, v28, v29⟩ : Int × Int × Int × (List Pt) × (List Pt) × Int × Int) => spec_SupportOf_l0 L m v1 v2 v9 v10 v27 v28 v29) (fun _ => rfl) (fun m s rec hrec => ?_) L ((b, c, r1.2, [], a, ilen (List.map ep a), 0)) ?_ ?_
  rotate_left
  ·rfl
  ·rfl
  obtain ⟨v1, v2, v9, v10, v27, v28, v29⟩ := s
  show _ = Option.map _ (spec_SupportOf_l0 L (m + 1) v1 v2 v9 v10 v27 v28 v29)
  rw [spec_SupportOf_l0.eq_2]
  conv=>lhs;whnf
  refine t_cond ?_ ?_
  ·conv=>lhs;whnf
   refine t_get (en := ep) (l := v27) (by rfl) fun p => ?_
   conv=>lhs;whnf
   refine t_cond ?_ ?_
   ·conv=>lhs;whnf
    exact hrec ((v1, v2, v9, v10, v27, v28, wr .i64 (iadd v29 1))) _ _ (by rfl) (by rfl)
   ·conv=>lhs;whnf
    refine t_loop (fun (v13 : Int) => (AV.top :: AV.int .i64 v1 :: AV.int .i64 v2 :: topA 6 (AV.int .i64 v9 :: AV.lst false false 2 (List.map ep v10) :: AV.top :: AV.ptr 0 0 0 2 :: AV.int .i64 v13 :: topA 13 (AV.lst oa ca 2 (List.map ep v27) :: AV.int .i64 v28 :: AV.int .i64 v29 :: tops 44)), [Blk.box (AV.agg [AV.int .i64 p.x, AV.int .i64 p.y])])) (fun m1 (v13 : Int) => spec_SupportOf_l1 L (spec_SupportOf_l0 L m) v1 v2 v9 v10 v27 v28 v29 p m1 v13) (fun _ => rfl) (fun m1 v13 rec1 hrec1 => ?_) L (ilen (List.map ep v10)) ?_ ?_
    rotate_left
    ·rfl
    ·rfl
    show _ = Option.map _ (spec_SupportOf_l1 L (spec_SupportOf_l0 L m) v1 v2 v9 v10 v27 v28 v29 p (m1 + 1) v13)
    rw [spec_SupportOf_l1.eq_2]
    conv=>lhs;whnf
    refine t_cond ?_ ?_
    ·conv=>lhs;whnf
     refine t_get (en := ep) (l := v10) (by rfl) fun p1 => ?_
     conv=>lhs;whnf
     refine t_call (h_spec_pgLess p.x p.y p1.x p1.y) fun r2 => ?_
     conv=>lhs;whnf
     refine t_cond ?_ ?_
     ·conv=>lhs;whnf
      exact hrec1 (wr .i64 (isub v13 1)) _ _ (by rfl) (by rfl)
     ·conv=>lhs;whnf
      refine t_cond ?_ ?_
      ·conv=>lhs;whnf
       refine t_cond ?_ ?_
       ·conv=>lhs;whnf
        refine t_cond ?_ ?_
        ·conv=>lhs;whnf
         refine t_cond ?_ ?_
         ·conv=>lhs;whnf
          refine t_cond ?_ ?_
          ·conv=>lhs;whnf
           refine t_cond ?_ ?_
           ·conv=>lhs;whnf
            exact hrec ((v1, v2, v9, lcat (lcat [] (p :: [])) (lsub v10 v13 (ilen (List.map ep v10))), v27, v28, wr .i64 (iadd v29 1))) _ _ (by first | rfl | simp only [ml] <;> rfl) (by rfl)
           ·conv=>lhs;whnf
            exact t_none
          ·conv=>lhs;whnf
           exact t_none
         ·conv=>lhs;whnf
          exact t_none
        ·conv=>lhs;whnf
         exact t_none
       ·conv=>lhs;whnf
        refine t_cond ?_ ?_
        ·conv=>lhs;whnf
         refine t_cond ?_ ?_
         ·conv=>lhs;whnf
          refine t_cond ?_ ?_
          ·conv=>lhs;whnf
           refine t_cond ?_ ?_
           ·conv=>lhs;whnf
            exact hrec ((v1, v2, v9, lcat (lcat (lcat [] (lsub v10 0 v13)) (p :: [])) (lsub v10 v13 (ilen (List.map ep v10))), v27, v28, wr .i64 (iadd v29 1))) _ _ (by first | rfl | simp only [ml] <;> rfl) (by rfl)
           ·conv=>lhs;whnf
            exact t_none
          ·conv=>lhs;whnf
           exact t_none
         ·conv=>lhs;whnf
          exact t_none
        ·conv=>lhs;whnf
         exact t_none
      ·conv=>lhs;whnf
       exact t_none
    ·conv=>lhs;whnf
     refine t_cond ?_ ?_
     ·conv=>lhs;whnf
      refine t_cond ?_ ?_
      ·conv=>lhs;whnf
       refine t_cond ?_ ?_
       ·conv=>lhs;whnf
        refine t_cond ?_ ?_
        ·conv=>lhs;whnf
         refine t_cond ?_ ?_
         ·conv=>lhs;whnf
          refine t_cond ?_ ?_
          ·conv=>lhs;whnf
           exact hrec ((v1, v2, v9, lcat (lcat [] (p :: [])) (lsub v10 v13 (ilen (List.map ep v10))), v27, v28, wr .i64 (iadd v29 1))) _ _ (by first | rfl | simp only [ml] <;> rfl) (by rfl)
          ·conv=>lhs;whnf
           exact t_none
         ·conv=>lhs;whnf
          exact t_none
        ·conv=>lhs;whnf
         exact t_none
       ·conv=>lhs;whnf
        exact t_none
      ·conv=>lhs;whnf
       refine t_cond ?_ ?_
       ·conv=>lhs;whnf
        refine t_cond ?_ ?_
        ·conv=>lhs;whnf
         refine t_cond ?_ ?_
         ·conv=>lhs;whnf
          refine t_cond ?_ ?_
          ·conv=>lhs;whnf
           exact hrec ((v1, v2, v9, lcat (lcat (lcat [] (lsub v10 0 v13)) (p :: [])) (lsub v10 v13 (ilen (List.map ep v10))), v27, v28, wr .i64 (iadd v29 1))) _ _ (by first | rfl | simp only [ml] <;> rfl) (by rfl)
          ·conv=>lhs;whnf
           exact t_none
         ·conv=>lhs;whnf
          exact t_none
        ·conv=>lhs;whnf
         exact t_none
       ·conv=>lhs;whnf
        exact t_none
     ·conv=>lhs;whnf
      exact t_none
  ·conv=>lhs;whnf
   exact t_ret (by rfl)
noncomputable def spec_WidthIn (L : Nat) (a : List Pt) (b : Int) (c : Int) : Option (Int × Bool) := gbind (spec_wiAsked L a b c) fun r => bif !r then (some ((0, false))) else (gbind (spec_wiWidth L a b c) fun r1 => some ((r1, true)))
def spec_WidthIn_ok (L : Nat) (C : CF) : Prop := ∀ (oa : Bool) (ca : Bool) (x_a : List AV) (a : List Pt) (_ : x_a = List.map ep a) (b : Int) (c : Int), C 24 ([.lst oa ca 2 x_a, .int .i64 b, .int .i64 c]) ([]) = Option.map (fun r : Int × Bool => ((.tup [.int .i64 (r.1), .bool (r.2)], []) : AV × List Blk)) (spec_WidthIn L a b c)
theorem spec_WidthIn_run (L : Nat) (C : CF) (h_spec_wiWidth : spec_wiWidth_ok L C) (h_spec_wiAsked : spec_wiAsked_ok L C) : spec_WidthIn_ok L (fun _ => run T C sh (keep 24) L Tryz.f24) := by
 intro oa ca x_a a hx_a b c
 subst hx_a
 unfold spec_WidthIn
 conv=>lhs;whnf
 refine t_call (h_spec_wiAsked _ _ _ a (by rfl) b c) fun r => ?_
 conv=>lhs;whnf
 refine t_cond ?_ ?_
 ·conv=>lhs;whnf
  exact t_ret (by rfl)
 ·conv=>lhs;whnf
  refine t_call (h_spec_wiWidth _ _ _ a (by rfl) b c) fun r1 => ?_
  conv=>lhs;whnf
  exact t_ret (by rfl)
noncomputable def spec_DrawCountDirections (L : Nat) (a : List Int) : Option ((List Pt) × Int) := gbind (spec_DrawLeastWidth L a) fun r => gbind (spec_l1Cur_among_v2 L a 0 0 (0 :: (1 :: (2 :: (3 :: (5 :: (20 :: (61 :: (-1 :: []))))))))) fun r1 => some ((r, r1.1))
def spec_DrawCountDirections_ok (L : Nat) (C : CF) : Prop := ∀ (oa : Bool) (ca : Bool) (x_a : List AV) (a : List Int) (_ : x_a = List.map eU a), C 25 ([.lst oa ca 1 x_a]) ([]) = Option.map (fun r : (List Pt) × Int => ((.tup [.frs 2 (List.map ep (r.1)), .int .i64 (r.2)], []) : AV × List Blk)) (spec_DrawCountDirections L a)
theorem spec_DrawCountDirections_run (L : Nat) (C : CF) (h_spec_l1Cur_among_v2 : spec_l1Cur_among_v2_ok L C) (h_spec_DrawLeastWidth : spec_DrawLeastWidth_ok L C) : spec_DrawCountDirections_ok L (fun _ => run T C sh (keep 25) L Tryz.f25) := by
 intro oa ca x_a a hx_a
 subst hx_a
 unfold spec_DrawCountDirections
 conv=>lhs;whnf
 refine t_call (h_spec_DrawLeastWidth _ _ _ a (by rfl)) fun r => ?_
 conv=>lhs;whnf
 refine t_call (h_spec_l1Cur_among_v2 _ _ _ a (by rfl) 0 0 _ (0 :: (1 :: (2 :: (3 :: (5 :: (20 :: (61 :: (-1 :: [])))))))) (by rfl)) fun r1 => ?_
 conv=>lhs;whnf
 exact t_ret (by rfl)
noncomputable def spec_CountDirections (L : Nat) (a : List Pt) (b : Int) : Option (Int × Bool) := gbind (spec_pgGood L a) fun r => bif !r then (some ((0, false))) else (gbind (spec_l1In L b 0 60) fun r1 => bif !r1 then (some ((0, false))) else (gbind (spec_wiAll L a b) fun r2 => some ((ilen (List.map eLI r2), true))))
def spec_CountDirections_ok (L : Nat) (C : CF) : Prop := ∀ (oa : Bool) (ca : Bool) (x_a : List AV) (a : List Pt) (_ : x_a = List.map ep a) (b : Int), C 26 ([.lst oa ca 2 x_a, .int .i64 b]) ([]) = Option.map (fun r : Int × Bool => ((.tup [.int .i64 (r.1), .bool (r.2)], []) : AV × List Blk)) (spec_CountDirections L a b)
theorem spec_CountDirections_run (L : Nat) (C : CF) (h_spec_l1In : spec_l1In_ok L C) (h_spec_pgGood : spec_pgGood_ok L C) (h_spec_wiAll : spec_wiAll_ok L C) : spec_CountDirections_ok L (fun _ => run T C sh (keep 26) L Tryz.f26) := by
 intro oa ca x_a a hx_a b
 subst hx_a
 unfold spec_CountDirections
 conv=>lhs;whnf
 refine t_call (h_spec_pgGood _ _ _ a (by rfl)) fun r => ?_
 conv=>lhs;whnf
 refine t_cond ?_ ?_
 ·conv=>lhs;whnf
  exact t_ret (by rfl)
 ·conv=>lhs;whnf
  refine t_call (h_spec_l1In b 0 60) fun r1 => ?_
  conv=>lhs;whnf
  refine t_cond ?_ ?_
  ·conv=>lhs;whnf
   exact t_ret (by rfl)
  ·conv=>lhs;whnf
   refine t_call (h_spec_wiAll _ _ _ a (by rfl) b) fun r2 => ?_
   conv=>lhs;whnf
   exact t_ret (by rfl)
noncomputable def laws_zPegs_l0 (L : Nat) (a : List Pt) (b : List Pt) : Nat → Int → Option Bool
  | 0, _ => none
  | m + 1, v13 => bif ilt v13 (ilen (List.map ep a)) then (gbind (lget a v13) fun p => gbind (lget b v13) fun p1 => bif !(ieq p.x p1.x && ieq p.y p1.y) then (some false) else (laws_zPegs_l0 L a b m (wr .i64 (iadd v13 1)))) else (some true)
noncomputable def laws_zPegs (L : Nat) (a : List Pt) (b : List Pt) : Option (Bool) := bif !ieq (ilen (List.map ep a)) (ilen (List.map ep b)) then (some false) else (laws_zPegs_l0 L a b L 0)
def laws_zPegs_ok (L : Nat) (C : CF) : Prop := ∀ (oa : Bool) (ca : Bool) (x_a : List AV) (a : List Pt) (_ : x_a = List.map ep a) (ob : Bool) (cb : Bool) (x_b : List AV) (b : List Pt) (_ : x_b = List.map ep b), C 28 ([.lst oa ca 2 x_a, .lst ob cb 2 x_b]) ([]) = Option.map (fun r : Bool => ((.bool r, []) : AV × List Blk)) (laws_zPegs L a b)
theorem laws_zPegs_run (L : Nat) (C : CF) : laws_zPegs_ok L (fun _ => run T C sh (keep 28) L Tryz.f28) := by
 intro oa ca x_a a hx_a ob cb x_b b hx_b
 subst hx_a
 subst hx_b
 unfold laws_zPegs
 conv=>lhs;whnf
 refine t_cond ?_ ?_
 ·conv=>lhs;whnf
  exact t_ret (by rfl)
 ·conv=>lhs;whnf
  refine t_loop (fun (v13 : Int) => (AV.lst oa ca 2 (List.map ep a) :: AV.lst ob cb 2 (List.map ep b) :: topA 10 (AV.int .i64 (ilen (List.map ep a)) :: AV.int .i64 v13 :: tops 12), [])) (fun m (v13 : Int) => laws_zPegs_l0 L a b m v13) (fun _ => rfl) (fun m v13 rec hrec => ?_) L 0 ?_ ?_
  rotate_left
  ·rfl
  ·rfl
  show _ = Option.map _ (laws_zPegs_l0 L a b (m + 1) v13)
  rw [laws_zPegs_l0.eq_2]
  conv=>lhs;whnf
  refine t_cond ?_ ?_
  ·conv=>lhs;whnf
   refine t_get (en := ep) (l := a) (by rfl) fun p => ?_
   conv=>lhs;whnf
   refine t_get (en := ep) (l := b) (by rfl) fun p1 => ?_
   conv=>lhs;whnf
   refine t_cond ?_ ?_
   ·conv=>lhs;whnf
    exact t_ret (by rfl)
   ·conv=>lhs;whnf
    exact hrec (wr .i64 (iadd v13 1)) _ _ (by rfl) (by rfl)
  ·conv=>lhs;whnf
   exact t_ret (by rfl)
end Go.AM
