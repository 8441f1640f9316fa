import Derived.Test.YtbakccgnbiegjaaGreatAmSeat
set_option linter.unusedVariables false
set_option linter.unusedSimpArgs false
set_option linter.unnecessarySimpa false
set_option linter.deprecated false
set_option linter.unusedSectionVars false
open Go Go.AM Go.Proofs
namespace Go.AM
set_option maxRecDepth 400000
set_option maxHeartbeats 40000000
noncomputable def laws_big (L : Nat) (a : List Int) (b : List Int) : Option (Bool) := bif ilt 1048576 (ilen (List.map eU a)) then (some true) else (some (ilt (wr .i64 (isub 1048576 (ilen (List.map eU a)))) (ilen (List.map eU b))))
def laws_big_ok (L : Nat) (C : CF) : Prop := ∀ (oa : Bool) (ca : Bool) (x_a : List AV) (a : List Int) (_ : x_a = List.map eU a) (ob : Bool) (cb : Bool) (x_b : List AV) (b : List Int) (_ : x_b = List.map eU b), C 6 ([.lst oa ca 1 x_a, .lst ob cb 1 x_b]) ([]) = Option.map (fun r : Bool => ((.bool r, []) : AV × List Blk)) (laws_big L a b)
theorem laws_big_run (L : Nat) (C : CF) : ∀ (oa : Bool) (ca : Bool) (x_a : List AV) (a : List Int) (_ : x_a = List.map eU a) (ob : Bool) (cb : Bool) (x_b : List AV) (b : List Int) (_ : x_b = List.map eU b), run T C sh (keep 6) L Tryz.f6 ([.lst oa ca 1 x_a, .lst ob cb 1 x_b]) ([]) = Option.map (fun r : Bool => ((.bool r, []) : AV × List Blk)) (laws_big L a b) := by
 intro oa ca x_a a hx_a ob cb x_b b hx_b
 subst hx_a
 subst hx_b
 unfold laws_big
 conv=>lhs;whnf
 refine t_cond ?_ ?_
 ·conv=>lhs;whnf
  exact t_ret (by rfl)
 ·conv=>lhs;whnf
  exact t_ret (by rfl)
noncomputable def spec_l1Cur_next (L : Nat) (a_0 : List Int) (a_1 : Int) (a_2 : Int) : Option (Int × Int × Int) := bif ilt a_1 (ilen (List.map eU a_0)) then (gbind (lget a_0 a_1) fun p => bif ile (wr .i64 (iadd a_1 1)) (ilen (List.map eU a_0)) then (some ((wr .i64 p, wr .i64 (iadd a_1 1), wr IntKind.u64 (iadd (wr IntKind.u64 (iadd (wr IntKind.u64 (imul a_2 6364136223846793005)) (wr IntKind.u64 (wr .i64 p)))) 1442695040888963407)))) else (bif ilt 40 0 then (none) else (some ((wr .i64 (iand IntKind.u64 (ishr IntKind.u64 (wr IntKind.u64 (iadd (wr IntKind.u64 (iadd (wr IntKind.u64 (imul a_2 6364136223846793005)) (wr IntKind.u64 (wr .i64 p)))) 1442695040888963407)) 40) 255), wr .i64 (iadd a_1 1), wr IntKind.u64 (iadd (wr IntKind.u64 (iadd (wr IntKind.u64 (imul a_2 6364136223846793005)) (wr IntKind.u64 (wr .i64 p)))) 1442695040888963407)))))) else (bif ile (wr .i64 (iadd a_1 1)) (ilen (List.map eU a_0)) then (some ((0, wr .i64 (iadd a_1 1), wr IntKind.u64 (iadd (wr IntKind.u64 (iadd (wr IntKind.u64 (imul a_2 6364136223846793005)) (wr IntKind.u64 0))) 1442695040888963407)))) else (bif ilt 40 0 then (none) else (some ((wr .i64 (iand IntKind.u64 (ishr IntKind.u64 (wr IntKind.u64 (iadd (wr IntKind.u64 (iadd (wr IntKind.u64 (imul a_2 6364136223846793005)) (wr IntKind.u64 0))) 1442695040888963407)) 40) 255), wr .i64 (iadd a_1 1), wr IntKind.u64 (iadd (wr IntKind.u64 (iadd (wr IntKind.u64 (imul a_2 6364136223846793005)) (wr IntKind.u64 0))) 1442695040888963407))))))
def spec_l1Cur_next_ok (L : Nat) (C : CF) : Prop := ∀ (oa_0 : Bool) (ca_0 : Bool) (x_a_0 : List AV) (a_0 : List Int) (_ : x_a_0 = List.map eU a_0) (a_1 : Int) (a_2 : Int), C 104 ([.ptr 0 0 0 3]) ([.box (.agg [.lst oa_0 ca_0 1 x_a_0, .int .i64 a_1, .int .u64 a_2])]) = Option.map (fun r : Int × Int × Int => ((.int .i64 (r.1), [.box (.agg [.lst oa_0 ca_0 1 x_a_0, .int .i64 (r.2.1), .int .u64 (r.2.2)])]) : AV × List Blk)) (spec_l1Cur_next L a_0 a_1 a_2)
theorem spec_l1Cur_next_run (L : Nat) (C : CF) : ∀ (oa_0 : Bool) (ca_0 : Bool) (x_a_0 : List AV) (a_0 : List Int) (_ : x_a_0 = List.map eU a_0) (a_1 : Int) (a_2 : Int), run T C sh (keep 104) L Tryz.f104 ([.ptr 0 0 0 3]) ([.box (.agg [.lst oa_0 ca_0 1 x_a_0, .int .i64 a_1, .int .u64 a_2])]) = Option.map (fun r : Int × Int × Int => ((.int .i64 (r.1), [.box (.agg [.lst oa_0 ca_0 1 x_a_0, .int .i64 (r.2.1), .int .u64 (r.2.2)])]) : AV × List Blk)) (spec_l1Cur_next L a_0 a_1 a_2) := by
 intro oa_0 ca_0 x_a_0 a_0 hx_a_0 a_1 a_2
 subst hx_a_0
 unfold spec_l1Cur_next
 conv=>lhs;whnf
 refine t_cond ?_ ?_
 ·conv=>lhs;whnf
  refine t_get (en := eU) (l := a_0) (by rfl) fun p => ?_
  conv=>lhs;whnf
  refine t_cond ?_ ?_
  ·conv=>lhs;whnf
   exact t_ret (by rfl)
  ·conv=>lhs;whnf
   refine t_cond ?_ ?_
   ·conv=>lhs;whnf
    exact t_none
   ·conv=>lhs;whnf
    exact t_ret (by rfl)
 ·conv=>lhs;whnf
  refine t_cond ?_ ?_
  ·conv=>lhs;whnf
   exact t_ret (by rfl)
  ·conv=>lhs;whnf
   refine t_cond ?_ ?_
   ·conv=>lhs;whnf
    exact t_none
   ·conv=>lhs;whnf
    exact t_ret (by rfl)
noncomputable def spec_l1Cur_pick (L : Nat) (a_0 : List Int) (a_1 : Int) (a_2 : Int) (b : Int) : Option (Int × Int × Int) := bif ile b 1 then (some ((0, a_1, a_2))) else (gbind (spec_l1Cur_next L a_0 a_1 a_2) fun r => bif ilt 200 b then (gbind (spec_l1Cur_next L a_0 r.2.1 r.2.2) fun r1 => bif ieq b 0 then (none) else (some ((irem (wr .i64 (iadd (wr .i64 (imul r.1 256)) r1.1)) b, r1.2.1, r1.2.2)))) else (bif ieq b 0 then (none) else (some ((irem r.1 b, r.2.1, r.2.2)))))
def spec_l1Cur_pick_ok (L : Nat) (C : CF) : Prop := ∀ (oa_0 : Bool) (ca_0 : Bool) (x_a_0 : List AV) (a_0 : List Int) (_ : x_a_0 = List.map eU a_0) (a_1 : Int) (a_2 : Int) (b : Int), C 63 ([.ptr 0 0 0 3, .int .i64 b]) ([.box (.agg [.lst oa_0 ca_0 1 x_a_0, .int .i64 a_1, .int .u64 a_2])]) = Option.map (fun r : Int × Int × Int => ((.int .i64 (r.1), [.box (.agg [.lst oa_0 ca_0 1 x_a_0, .int .i64 (r.2.1), .int .u64 (r.2.2)])]) : AV × List Blk)) (spec_l1Cur_pick L a_0 a_1 a_2 b)
theorem spec_l1Cur_pick_run (L : Nat) (C : CF) (h_spec_l1Cur_next : spec_l1Cur_next_ok L C) : ∀ (oa_0 : Bool) (ca_0 : Bool) (x_a_0 : List AV) (a_0 : List Int) (_ : x_a_0 = List.map eU a_0) (a_1 : Int) (a_2 : Int) (b : Int), run T C sh (keep 63) L Tryz.f63 ([.ptr 0 0 0 3, .int .i64 b]) ([.box (.agg [.lst oa_0 ca_0 1 x_a_0, .int .i64 a_1, .int .u64 a_2])]) = Option.map (fun r : Int × Int × Int => ((.int .i64 (r.1), [.box (.agg [.lst oa_0 ca_0 1 x_a_0, .int .i64 (r.2.1), .int .u64 (r.2.2)])]) : AV × List Blk)) (spec_l1Cur_pick L a_0 a_1 a_2 b) := by
 intro oa_0 ca_0 x_a_0 a_0 hx_a_0 a_1 a_2 b
 subst hx_a_0
 unfold spec_l1Cur_pick
 conv=>lhs;whnf
 refine t_cond ?_ ?_
 ·conv=>lhs;whnf
  exact t_ret (by rfl)
 ·conv=>lhs;whnf
  refine t_call (h_spec_l1Cur_next _ _ _ a_0 (by rfl) a_1 a_2) fun r => ?_
  conv=>lhs;whnf
  refine t_cond ?_ ?_
  ·conv=>lhs;whnf
   refine t_call (h_spec_l1Cur_next _ _ _ a_0 (by rfl) r.2.1 r.2.2) fun r1 => ?_
   conv=>lhs;whnf
   refine t_cond ?_ ?_
   ·conv=>lhs;whnf
    exact t_none
   ·conv=>lhs;whnf
    exact t_ret (by rfl)
  ·conv=>lhs;whnf
   refine t_cond ?_ ?_
   ·conv=>lhs;whnf
    exact t_none
   ·conv=>lhs;whnf
    exact t_ret (by rfl)
noncomputable def spec_l1Cur_one (L : Nat) (a_0 : List Int) (a_1 : Int) (a_2 : Int) (b : Int) : Option (Bool × Int × Int) := gbind (spec_l1Cur_pick L a_0 a_1 a_2 b) fun r => some ((ieq r.1 0, r.2.1, r.2.2))
def spec_l1Cur_one_ok (L : Nat) (C : CF) : Prop := ∀ (oa_0 : Bool) (ca_0 : Bool) (x_a_0 : List AV) (a_0 : List Int) (_ : x_a_0 = List.map eU a_0) (a_1 : Int) (a_2 : Int) (b : Int), C 46 ([.ptr 0 0 0 3, .int .i64 b]) ([.box (.agg [.lst oa_0 ca_0 1 x_a_0, .int .i64 a_1, .int .u64 a_2])]) = Option.map (fun r : Bool × Int × Int => ((.bool (r.1), [.box (.agg [.lst oa_0 ca_0 1 x_a_0, .int .i64 (r.2.1), .int .u64 (r.2.2)])]) : AV × List Blk)) (spec_l1Cur_one L a_0 a_1 a_2 b)
theorem spec_l1Cur_one_run (L : Nat) (C : CF) (h_spec_l1Cur_pick : spec_l1Cur_pick_ok L C) : ∀ (oa_0 : Bool) (ca_0 : Bool) (x_a_0 : List AV) (a_0 : List Int) (_ : x_a_0 = List.map eU a_0) (a_1 : Int) (a_2 : Int) (b : Int), run T C sh (keep 46) L Tryz.f46 ([.ptr 0 0 0 3, .int .i64 b]) ([.box (.agg [.lst oa_0 ca_0 1 x_a_0, .int .i64 a_1, .int .u64 a_2])]) = Option.map (fun r : Bool × Int × Int => ((.bool (r.1), [.box (.agg [.lst oa_0 ca_0 1 x_a_0, .int .i64 (r.2.1), .int .u64 (r.2.2)])]) : AV × List Blk)) (spec_l1Cur_one L a_0 a_1 a_2 b) := by
 intro oa_0 ca_0 x_a_0 a_0 hx_a_0 a_1 a_2 b
 subst hx_a_0
 unfold spec_l1Cur_one
 conv=>lhs;whnf
 refine t_call (h_spec_l1Cur_pick _ _ _ a_0 (by rfl) a_1 a_2 b) fun r => ?_
 conv=>lhs;whnf
 exact t_ret (by rfl)
noncomputable def spec_l1Cur_surePeg (L : Nat) (a_0 : List Int) (a_1 : Int) (a_2 : Int) (b : Int) : Option (Int × Int × Int × Int) := gbind (spec_l1Cur_pick L a_0 a_1 a_2 (wr .i64 (iadd (wr .i64 (imul 2 b)) 1))) fun r => gbind (spec_l1Cur_pick L a_0 r.2.1 r.2.2 (wr .i64 (iadd (wr .i64 (imul 2 b)) 1))) fun r1 => some ((wr .i64 (isub r.1 b), wr .i64 (isub r1.1 b), r1.2.1, r1.2.2))
def spec_l1Cur_surePeg_ok (L : Nat) (C : CF) : Prop := ∀ (oa_0 : Bool) (ca_0 : Bool) (x_a_0 : List AV) (a_0 : List Int) (_ : x_a_0 = List.map eU a_0) (a_1 : Int) (a_2 : Int) (b : Int), C 48 ([.ptr 0 0 0 3, .int .i64 b]) ([.box (.agg [.lst oa_0 ca_0 1 x_a_0, .int .i64 a_1, .int .u64 a_2])]) = Option.map (fun r : Int × Int × Int × Int => ((.agg [.int .i64 (r.1), .int .i64 (r.2.1)], [.box (.agg [.lst oa_0 ca_0 1 x_a_0, .int .i64 (r.2.2.1), .int .u64 (r.2.2.2)])]) : AV × List Blk)) (spec_l1Cur_surePeg L a_0 a_1 a_2 b)
theorem spec_l1Cur_surePeg_run (L : Nat) (C : CF) (h_spec_l1Cur_pick : spec_l1Cur_pick_ok L C) : ∀ (oa_0 : Bool) (ca_0 : Bool) (x_a_0 : List AV) (a_0 : List Int) (_ : x_a_0 = List.map eU a_0) (a_1 : Int) (a_2 : Int) (b : Int), run T C sh (keep 48) L Tryz.f48 ([.ptr 0 0 0 3, .int .i64 b]) ([.box (.agg [.lst oa_0 ca_0 1 x_a_0, .int .i64 a_1, .int .u64 a_2])]) = Option.map (fun r : Int × Int × Int × Int => ((.agg [.int .i64 (r.1), .int .i64 (r.2.1)], [.box (.agg [.lst oa_0 ca_0 1 x_a_0, .int .i64 (r.2.2.1), .int .u64 (r.2.2.2)])]) : AV × List Blk)) (spec_l1Cur_surePeg L a_0 a_1 a_2 b) := by
 intro oa_0 ca_0 x_a_0 a_0 hx_a_0 a_1 a_2 b
 subst hx_a_0
 unfold spec_l1Cur_surePeg
 conv=>lhs;whnf
 refine t_call (h_spec_l1Cur_pick _ _ _ a_0 (by rfl) a_1 a_2 (wr .i64 (iadd (wr .i64 (imul 2 b)) 1))) fun r => ?_
 conv=>lhs;whnf
 refine t_call (h_spec_l1Cur_pick _ _ _ a_0 (by rfl) r.2.1 r.2.2 (wr .i64 (iadd (wr .i64 (imul 2 b)) 1))) fun r1 => ?_
 conv=>lhs;whnf
 exact t_ret (by rfl)
noncomputable def spec_l1In (L : Nat) (a : Int) (b : Int) (c : Int) : Option (Bool) := bif ile b a then (some (ile a c)) else (some false)
def spec_l1In_ok (L : Nat) (C : CF) : Prop := ∀ (a : Int) (b : Int) (c : Int), C 61 ([.int .i64 a, .int .i64 b, .int .i64 c]) ([]) = Option.map (fun r : Bool => ((.bool r, []) : AV × List Blk)) (spec_l1In L a b c)
theorem spec_l1In_run (L : Nat) (C : CF) : ∀ (a : Int) (b : Int) (c : Int), run T C sh (keep 61) L Tryz.f61 ([.int .i64 a, .int .i64 b, .int .i64 c]) ([]) = Option.map (fun r : Bool => ((.bool r, []) : AV × List Blk)) (spec_l1In L a b c) := by
 intro a b c
 unfold spec_l1In
 conv=>lhs;whnf
 refine t_cond ?_ ?_
 ·conv=>lhs;whnf
  exact t_ret (by rfl)
 ·conv=>lhs;whnf
  exact t_ret (by rfl)
noncomputable def spec_pgIs (L : Nat) (a_0 : Int) (a_1 : Int) : Option (Bool) := gbind (spec_l1In L a_0 (-40) 40) fun r => bif r then (gbind (spec_l1In L a_1 (-40) 40) fun r1 => some r1) else (some false)
def spec_pgIs_ok (L : Nat) (C : CF) : Prop := ∀ (a_0 : Int) (a_1 : Int), C 82 ([.agg [.int .i64 a_0, .int .i64 a_1]]) ([]) = Option.map (fun r : Bool => ((.bool r, []) : AV × List Blk)) (spec_pgIs L a_0 a_1)
theorem spec_pgIs_run (L : Nat) (C : CF) (h_spec_l1In : spec_l1In_ok L C) : ∀ (a_0 : Int) (a_1 : Int), run T C sh (keep 82) L Tryz.f82 ([.agg [.int .i64 a_0, .int .i64 a_1]]) ([]) = Option.map (fun r : Bool => ((.bool r, []) : AV × List Blk)) (spec_pgIs L a_0 a_1) := by
 intro a_0 a_1
 unfold spec_pgIs
 conv=>lhs;whnf
 refine t_call (h_spec_l1In a_0 (-40) 40) fun r => ?_
 conv=>lhs;whnf
 refine t_cond ?_ ?_
 ·conv=>lhs;whnf
  refine t_call (h_spec_l1In a_1 (-40) 40) fun r1 => ?_
  conv=>lhs;whnf
  exact t_ret (by rfl)
 ·conv=>lhs;whnf
  exact t_ret (by rfl)
noncomputable def spec_pgTurn (L : Nat) (a_0 : Int) (a_1 : Int) (b_0 : Int) (b_1 : Int) (c_0 : Int) (c_1 : Int) : Option (Int) := some (wr .i64 (isub (wr .i64 (imul (wr .i64 (isub b_0 a_0)) (wr .i64 (isub c_1 a_1)))) (wr .i64 (imul (wr .i64 (isub b_1 a_1)) (wr .i64 (isub c_0 a_0))))))
def spec_pgTurn_ok (L : Nat) (C : CF) : Prop := ∀ (a_0 : Int) (a_1 : Int) (b_0 : Int) (b_1 : Int) (c_0 : Int) (c_1 : Int), C 107 ([.agg [.int .i64 a_0, .int .i64 a_1], .agg [.int .i64 b_0, .int .i64 b_1], .agg [.int .i64 c_0, .int .i64 c_1]]) ([]) = Option.map (fun r : Int => ((.int .i64 r, []) : AV × List Blk)) (spec_pgTurn L a_0 a_1 b_0 b_1 c_0 c_1)
theorem spec_pgTurn_run (L : Nat) (C : CF) : ∀ (a_0 : Int) (a_1 : Int) (b_0 : Int) (b_1 : Int) (c_0 : Int) (c_1 : Int), run T C sh (keep 107) L Tryz.f107 ([.agg [.int .i64 a_0, .int .i64 a_1], .agg [.int .i64 b_0, .int .i64 b_1], .agg [.int .i64 c_0, .int .i64 c_1]]) ([]) = Option.map (fun r : Int => ((.int .i64 r, []) : AV × List Blk)) (spec_pgTurn L a_0 a_1 b_0 b_1 c_0 c_1) := by
 intro a_0 a_1 b_0 b_1 c_0 c_1
 unfold spec_pgTurn
 conv=>lhs;whnf
 exact t_ret (by rfl)
noncomputable def spec_pgOn (L : Nat) (a_0 : Int) (a_1 : Int) (b_0 : Int) (b_1 : Int) (c_0 : Int) (c_1 : Int) : Option (Bool) := gbind (spec_pgTurn L a_0 a_1 b_0 b_1 c_0 c_1) fun r => bif ieq r 0 then (bif ile (wr .i64 (imul (wr .i64 (isub a_0 c_0)) (wr .i64 (isub b_0 c_0)))) 0 then (some (ile (wr .i64 (imul (wr .i64 (isub a_1 c_1)) (wr .i64 (isub b_1 c_1)))) 0)) else (some false)) else (some false)
def spec_pgOn_ok (L : Nat) (C : CF) : Prop := ∀ (a_0 : Int) (a_1 : Int) (b_0 : Int) (b_1 : Int) (c_0 : Int) (c_1 : Int), C 144 ([.agg [.int .i64 a_0, .int .i64 a_1], .agg [.int .i64 b_0, .int .i64 b_1], .agg [.int .i64 c_0, .int .i64 c_1]]) ([]) = Option.map (fun r : Bool => ((.bool r, []) : AV × List Blk)) (spec_pgOn L a_0 a_1 b_0 b_1 c_0 c_1)
theorem spec_pgOn_run (L : Nat) (C : CF) (h_spec_pgTurn : spec_pgTurn_ok L C) : ∀ (a_0 : Int) (a_1 : Int) (b_0 : Int) (b_1 : Int) (c_0 : Int) (c_1 : Int), run T C sh (keep 144) L Tryz.f144 ([.agg [.int .i64 a_0, .int .i64 a_1], .agg [.int .i64 b_0, .int .i64 b_1], .agg [.int .i64 c_0, .int .i64 c_1]]) ([]) = Option.map (fun r : Bool => ((.bool r, []) : AV × List Blk)) (spec_pgOn L a_0 a_1 b_0 b_1 c_0 c_1) := by
 intro a_0 a_1 b_0 b_1 c_0 c_1
 unfold spec_pgOn
 conv=>lhs;whnf
 refine t_call (h_spec_pgTurn a_0 a_1 b_0 b_1 c_0 c_1) fun r => ?_
 conv=>lhs;whnf
 refine t_cond ?_ ?_
 ·conv=>lhs;whnf
  refine t_cond ?_ ?_
  ·conv=>lhs;whnf
   exact t_ret (by rfl)
  ·conv=>lhs;whnf
   exact t_ret (by rfl)
 ·conv=>lhs;whnf
  exact t_ret (by rfl)
noncomputable def spec_l1Sign (L : Nat) (a : Int) : Option (Int) := bif ilt 0 a then (some 1) else (bif ilt a 0 then (some (-1)) else (some 0))
def spec_l1Sign_ok (L : Nat) (C : CF) : Prop := ∀ (a : Int), C 145 ([.int .i64 a]) ([]) = Option.map (fun r : Int => ((.int .i64 r, []) : AV × List Blk)) (spec_l1Sign L a)
theorem spec_l1Sign_run (L : Nat) (C : CF) : ∀ (a : Int), run T C sh (keep 145) L Tryz.f145 ([.int .i64 a]) ([]) = Option.map (fun r : Int => ((.int .i64 r, []) : AV × List Blk)) (spec_l1Sign L a) := by
 intro a
 unfold spec_l1Sign
 conv=>lhs;whnf
 refine t_cond ?_ ?_
 ·conv=>lhs;whnf
  exact t_ret (by rfl)
 ·conv=>lhs;whnf
  refine t_cond ?_ ?_
  ·conv=>lhs;whnf
   exact t_ret (by rfl)
  ·conv=>lhs;whnf
   exact t_ret (by rfl)
noncomputable def spec_pgMeet (L : Nat) (a_0 : Int) (a_1 : Int) (b_0 : Int) (b_1 : Int) (c_0 : Int) (c_1 : Int) (d_0 : Int) (d_1 : Int) : Option (Bool) := gbind (spec_pgOn L a_0 a_1 b_0 b_1 c_0 c_1) fun r => bif r then (some true) else (gbind (spec_pgOn L a_0 a_1 b_0 b_1 d_0 d_1) fun r1 => bif r1 then (some true) else (gbind (spec_pgOn L c_0 c_1 d_0 d_1 a_0 a_1) fun r2 => bif r2 then (some true) else (gbind (spec_pgOn L c_0 c_1 d_0 d_1 b_0 b_1) fun r3 => bif r3 then (some true) else (gbind (spec_pgTurn L a_0 a_1 b_0 b_1 c_0 c_1) fun r4 => gbind (spec_l1Sign L r4) fun r5 => gbind (spec_pgTurn L a_0 a_1 b_0 b_1 d_0 d_1) fun r6 => gbind (spec_l1Sign L r6) fun r7 => bif ilt (wr .i64 (imul r5 r7)) 0 then (gbind (spec_pgTurn L c_0 c_1 d_0 d_1 a_0 a_1) fun r8 => gbind (spec_l1Sign L r8) fun r9 => gbind (spec_pgTurn L c_0 c_1 d_0 d_1 b_0 b_1) fun r10 => gbind (spec_l1Sign L r10) fun r11 => some (ilt (wr .i64 (imul r9 r11)) 0)) else (some false)))))
def spec_pgMeet_ok (L : Nat) (C : CF) : Prop := ∀ (a_0 : Int) (a_1 : Int) (b_0 : Int) (b_1 : Int) (c_0 : Int) (c_1 : Int) (d_0 : Int) (d_1 : Int), C 108 ([.agg [.int .i64 a_0, .int .i64 a_1], .agg [.int .i64 b_0, .int .i64 b_1], .agg [.int .i64 c_0, .int .i64 c_1], .agg [.int .i64 d_0, .int .i64 d_1]]) ([]) = Option.map (fun r : Bool => ((.bool r, []) : AV × List Blk)) (spec_pgMeet L a_0 a_1 b_0 b_1 c_0 c_1 d_0 d_1)
theorem spec_pgMeet_run (L : Nat) (C : CF) (h_spec_pgTurn : spec_pgTurn_ok L C) (h_spec_pgOn : spec_pgOn_ok L C) (h_spec_l1Sign : spec_l1Sign_ok L C) : ∀ (a_0 : Int) (a_1 : Int) (b_0 : Int) (b_1 : Int) (c_0 : Int) (c_1 : Int) (d_0 : Int) (d_1 : Int), run T C sh (keep 108) L Tryz.f108 ([.agg [.int .i64 a_0, .int .i64 a_1], .agg [.int .i64 b_0, .int .i64 b_1], .agg [.int .i64 c_0, .int .i64 c_1], .agg [.int .i64 d_0, .int .i64 d_1]]) ([]) = Option.map (fun r : Bool => ((.bool r, []) : AV × List Blk)) (spec_pgMeet L a_0 a_1 b_0 b_1 c_0 c_1 d_0 d_1) := by
 intro a_0 a_1 b_0 b_1 c_0 c_1 d_0 d_1
 unfold spec_pgMeet
 conv=>lhs;whnf
 refine t_call (h_spec_pgOn a_0 a_1 b_0 b_1 c_0 c_1) fun r => ?_
 conv=>lhs;whnf
 refine t_cond ?_ ?_
 ·conv=>lhs;whnf
  exact t_ret (by rfl)
 ·conv=>lhs;whnf
  refine t_call (h_spec_pgOn a_0 a_1 b_0 b_1 d_0 d_1) fun r1 => ?_
  conv=>lhs;whnf
  refine t_cond ?_ ?_
  ·conv=>lhs;whnf
   exact t_ret (by rfl)
  ·conv=>lhs;whnf
   refine t_call (h_spec_pgOn c_0 c_1 d_0 d_1 a_0 a_1) fun r2 => ?_
   conv=>lhs;whnf
   refine t_cond ?_ ?_
   ·conv=>lhs;whnf
    exact t_ret (by rfl)
   ·conv=>lhs;whnf
    refine t_call (h_spec_pgOn c_0 c_1 d_0 d_1 b_0 b_1) fun r3 => ?_
    conv=>lhs;whnf
    refine t_cond ?_ ?_
    ·conv=>lhs;whnf
     exact t_ret (by rfl)
    ·conv=>lhs;whnf
     refine t_call (h_spec_pgTurn a_0 a_1 b_0 b_1 c_0 c_1) fun r4 => ?_
     conv=>lhs;whnf
     refine t_call (h_spec_l1Sign r4) fun r5 => ?_
     conv=>lhs;whnf
     refine t_call (h_spec_pgTurn a_0 a_1 b_0 b_1 d_0 d_1) fun r6 => ?_
     conv=>lhs;whnf
     refine t_call (h_spec_l1Sign r6) fun r7 => ?_
     conv=>lhs;whnf
     refine t_cond ?_ ?_
     ·conv=>lhs;whnf
      refine t_call (h_spec_pgTurn c_0 c_1 d_0 d_1 a_0 a_1) fun r8 => ?_
      conv=>lhs;whnf
      refine t_call (h_spec_l1Sign r8) fun r9 => ?_
      conv=>lhs;whnf
      refine t_call (h_spec_pgTurn c_0 c_1 d_0 d_1 b_0 b_1) fun r10 => ?_
      conv=>lhs;whnf
      refine t_call (h_spec_l1Sign r10) fun r11 => ?_
      conv=>lhs;whnf
      exact t_ret (by rfl)
     ·conv=>lhs;whnf
      exact t_ret (by rfl)
noncomputable def spec_pgGood_l1 (L : Nat) (κ0 : (List Pt) → Int → (List Pt) → Int → Int → Option Bool) (v0 : List Pt) (v3 : Int) (v17 : List Pt) (v18 : Int) (v19 : Int) (p : Pt) : Nat → Int → Option Bool
  | 0, _ => none
  | m1 + 1, v31 => bif ilt v31 (ilen (lsub (List.map ep v0) 0 v19)) then (gbind (lget (lsub v0 0 v19) v31) fun p1 => bif ieq p.x p1.x && ieq p.y p1.y then (some false) else (spec_pgGood_l1 L κ0 v0 v3 v17 v18 v19 p m1 (wr .i64 (iadd v31 1)))) else (κ0 v0 v3 v17 v18 (wr .i64 (iadd v19 1)))
noncomputable def spec_pgGood_l3 (L : Nat) (κ1 : (List Pt) → Int → (List Pt) → Int → Int → Option Bool) (v01 : List Pt) (v32 : Int) (v40 : List Pt) (v41 : Int) (v42 : Int) (p2 : Pt) (p3 : Pt) : Nat → Int → Option Bool
  | 0, _ => none
  | m3 + 1, v11 => bif ilt v11 v32 then (bif ilt (wr .i64 (isub v11 v42)) (wr .i64 (isub v32 1)) then (gbind (lget v01 v11) fun p5 => bif ieq v32 0 then (none) else (gbind (lget v01 (irem (wr .i64 (iadd v11 1)) v32)) fun p6 => gbind (spec_pgMeet L p2.x p2.y p3.x p3.y p5.x p5.y p6.x p6.y) fun r3 => bif r3 then (some false) else (spec_pgGood_l3 L κ1 v01 v32 v40 v41 v42 p2 p3 m3 (wr .i64 (iadd v11 1))))) else (κ1 v01 v32 v40 v41 (wr .i64 (iadd v42 1)))) else (κ1 v01 v32 v40 v41 (wr .i64 (iadd v42 1)))
noncomputable def spec_pgGood_l2 (L : Nat) : Nat → (List Pt) → Int → (List Pt) → Int → Int → Option Bool
  | 0, _, _, _, _, _ => none
  | m2 + 1, v01, v32, v40, v41, v42 => bif ilt v42 v41 then (gbind (lget v40 v42) fun p2 => bif ieq v32 0 then (none) else (gbind (lget v01 (irem (wr .i64 (iadd v42 1)) v32)) fun p3 => bif ieq v32 0 then (none) else (gbind (lget v01 (irem (wr .i64 (iadd v42 2)) v32)) fun p4 => gbind (spec_pgTurn L p2.x p2.y p3.x p3.y p4.x p4.y) fun r2 => bif ieq r2 0 then (some false) else (spec_pgGood_l3 L (spec_pgGood_l2 L m2) v01 v32 v40 v41 v42 p2 p3 L (wr .i64 (iadd v42 2)))))) else (some true)
noncomputable def spec_pgGood_l0 (L : Nat) : Nat → (List Pt) → Int → (List Pt) → Int → Int → Option Bool
  | 0, _, _, _, _, _ => none
  | m + 1, v0, v3, v17, v18, v19 => bif ilt v19 v18 then (gbind (lget v17 v19) fun p => gbind (spec_pgIs L p.x p.y) fun r1 => bif !r1 then (some false) else (bif ile 0 v19 && ile v19 (ilen (List.map ep v0)) then (spec_pgGood_l1 L (spec_pgGood_l0 L m) v0 v3 v17 v18 v19 p L 0) else (none))) else (spec_pgGood_l2 L L v0 v3 v0 (ilen (List.map ep v0)) 0)
noncomputable def spec_pgGood (L : Nat) (a : List Pt) : Option (Bool) := gbind (spec_l1In L (ilen (List.map ep a)) 3 10) fun r => bif !r then (some false) else (spec_pgGood_l0 L L a (ilen (List.map ep a)) a (ilen (List.map ep a)) 0)
def spec_pgGood_ok (L : Nat) (C : CF) : Prop := ∀ (oa : Bool) (ca : Bool) (x_a : List AV) (a : List Pt) (_ : x_a = List.map ep a), C 71 ([.lst oa ca 2 x_a]) ([]) = Option.map (fun r : Bool => ((.bool r, []) : AV × List Blk)) (spec_pgGood L a)
theorem spec_pgGood_run (L : Nat) (C : CF) (h_spec_l1In : spec_l1In_ok L C) (h_spec_pgIs : spec_pgIs_ok L C) (h_spec_pgTurn : spec_pgTurn_ok L C) (h_spec_pgMeet : spec_pgMeet_ok L C) : ∀ (oa : Bool) (ca : Bool) (x_a : List AV) (a : List Pt) (_ : x_a = List.map ep a), run T C sh (keep 71) L Tryz.f71 ([.lst oa ca 2 x_a]) ([]) = Option.map (fun r : Bool => ((.bool r, []) : AV × List Blk)) (spec_pgGood L a) := by
 intro oa ca x_a a hx_a
 subst hx_a
 unfold spec_pgGood
 conv=>lhs;whnf
 refine t_call (h_spec_l1In (ilen (List.map ep a)) 3 10) fun r => ?_
 conv=>lhs;whnf
 refine t_cond ?_ ?_
 ·conv=>lhs;whnf
  exact t_ret (by rfl)
 ·conv=>lhs;whnf
  refine t_loop (fun (⟨v0, v3, v17, v18, v19⟩ : (List Pt) × Int × (List Pt) × Int × Int) => (AV.lst oa ca 2 (List.map ep v0) :: topA 2 (AV.int .i64 v3 :: topA 13 (AV.lst oa ca 2 (List.map ep v17) :: AV.int .i64 v18 :: AV.int .i64 v19 :: tops 75)), [])) (fun m (⟨v0, v3, v17, v18, v19⟩ : (List Pt) × Int × (List Pt) × Int × Int) => spec_pgGood_l0 L m v0 v3 v17 v18 v19) (fun _ => rfl) (fun m s rec hrec => ?_) L ((a, ilen (List.map ep a), a, ilen (List.map ep a), 0)) ?_ ?_
  rotate_left
  ·rfl
  ·rfl
  obtain ⟨v0, v3, v17, v18, v19⟩ := s
  show _ = Option.map _ (spec_pgGood_l0 L (m + 1) v0 v3 v17 v18 v19)
  rw [spec_pgGood_l0.eq_2]
  conv=>lhs;whnf
  refine t_cond ?_ ?_
  ·conv=>lhs;whnf
   refine t_get (en := ep) (l := v17) (by rfl) fun p => ?_
   conv=>lhs;whnf
   refine t_call (h_spec_pgIs p.x p.y) fun r1 => ?_
   conv=>lhs;whnf
   refine t_cond ?_ ?_
   ·conv=>lhs;whnf
    exact t_ret (by rfl)
   ·conv=>lhs;whnf
    refine t_cond ?_ ?_
    ·conv=>lhs;whnf
     refine t_loop (fun (v31 : Int) => (AV.lst oa ca 2 (List.map ep v0) :: topA 2 (AV.int .i64 v3 :: AV.top :: AV.ptr 0 0 0 2 :: topA 11 (AV.lst oa ca 2 (List.map ep v17) :: AV.int .i64 v18 :: AV.int .i64 v19 :: topA 9 (AV.lst oa false 2 (lsub (List.map ep v0) 0 v19) :: AV.int .i64 (ilen (lsub (List.map ep v0) 0 v19)) :: AV.int .i64 v31 :: tops 63))), [Blk.box (AV.agg [AV.int .i64 p.x, AV.int .i64 p.y])])) (fun m1 (v31 : Int) => spec_pgGood_l1 L (spec_pgGood_l0 L m) v0 v3 v17 v18 v19 p m1 v31) (fun _ => rfl) (fun m1 v31 rec1 hrec1 => ?_) L 0 ?_ ?_
     rotate_left
     ·rfl
     ·rfl
     show _ = Option.map _ (spec_pgGood_l1 L (spec_pgGood_l0 L m) v0 v3 v17 v18 v19 p (m1 + 1) v31)
     rw [spec_pgGood_l1.eq_2]
     conv=>lhs;whnf
     refine t_cond ?_ ?_
     ·conv=>lhs;whnf
      refine t_get (en := ep) (l := lsub v0 0 v19) (by first | rfl | simp only [ml] <;> rfl) fun p1 => ?_
      conv=>lhs;whnf
      refine t_cond ?_ ?_
      ·conv=>lhs;whnf
       exact t_ret (by rfl)
      ·conv=>lhs;whnf
       exact hrec1 (wr .i64 (iadd v31 1)) _ _ (by rfl) (by rfl)
     ·conv=>lhs;whnf
      exact hrec ((v0, v3, v17, v18, wr .i64 (iadd v19 1))) _ _ (by rfl) (by rfl)
    ·conv=>lhs;whnf
     exact t_none
  ·conv=>lhs;whnf
   refine t_loop (fun (⟨v01, v32, v40, v41, v42⟩ : (List Pt) × Int × (List Pt) × Int × Int) => (AV.lst oa ca 2 (List.map ep v01) :: topA 2 (AV.int .i64 v32 :: topA 36 (AV.lst oa ca 2 (List.map ep v40) :: AV.int .i64 v41 :: AV.int .i64 v42 :: tops 52)), [])) (fun m2 (⟨v01, v32, v40, v41, v42⟩ : (List Pt) × Int × (List Pt) × Int × Int) => spec_pgGood_l2 L m2 v01 v32 v40 v41 v42) (fun _ => rfl) (fun m2 s2 rec2 hrec2 => ?_) L ((v0, v3, v0, ilen (List.map ep v0), 0)) ?_ ?_
   rotate_left
   ·rfl
   ·rfl
   obtain ⟨v01, v32, v40, v41, v42⟩ := s2
   show _ = Option.map _ (spec_pgGood_l2 L (m2 + 1) v01 v32 v40 v41 v42)
   rw [spec_pgGood_l2.eq_2]
   conv=>lhs;whnf
   refine t_cond ?_ ?_
   ·conv=>lhs;whnf
    refine t_get (en := ep) (l := v40) (by rfl) fun p2 => ?_
    conv=>lhs;whnf
    refine t_cond ?_ ?_
    ·conv=>lhs;whnf
     exact t_none
    ·conv=>lhs;whnf
     refine t_get (en := ep) (l := v01) (by rfl) fun p3 => ?_
     conv=>lhs;whnf
     refine t_cond ?_ ?_
     ·conv=>lhs;whnf
      exact t_none
     ·conv=>lhs;whnf
      refine t_get (en := ep) (l := v01) (by rfl) fun p4 => ?_
      conv=>lhs;whnf
      refine t_call (h_spec_pgTurn p2.x p2.y p3.x p3.y p4.x p4.y) fun r2 => ?_
      conv=>lhs;whnf
      refine t_cond ?_ ?_
      ·conv=>lhs;whnf
       exact t_ret (by rfl)
      ·conv=>lhs;whnf
       refine t_loop (fun (v11 : Int) => (AV.lst oa ca 2 (List.map ep v01) :: topA 2 (AV.int .i64 v32 :: topA 4 (AV.int .i64 v42 :: AV.ptr 0 0 0 2 :: AV.ptr 1 0 0 2 :: AV.int .i64 v11 :: topA 28 (AV.lst oa ca 2 (List.map ep v40) :: AV.int .i64 v41 :: AV.int .i64 v42 :: tops 52))), [Blk.box (AV.agg [AV.int .i64 p2.x, AV.int .i64 p2.y]), Blk.box (AV.agg [AV.int .i64 p3.x, AV.int .i64 p3.y])])) (fun m3 (v11 : Int) => spec_pgGood_l3 L (spec_pgGood_l2 L m2) v01 v32 v40 v41 v42 p2 p3 m3 v11) (fun _ => rfl) (fun m3 v11 rec3 hrec3 => ?_) L (wr .i64 (iadd v42 2)) ?_ ?_
       rotate_left
       ·rfl
       ·rfl
       show _ = Option.map _ (spec_pgGood_l3 L (spec_pgGood_l2 L m2) v01 v32 v40 v41 v42 p2 p3 (m3 + 1) v11)
       rw [spec_pgGood_l3.eq_2]
       conv=>lhs;whnf
       refine t_cond ?_ ?_
       ·conv=>lhs;whnf
        refine t_cond ?_ ?_
        ·conv=>lhs;whnf
         refine t_get (en := ep) (l := v01) (by rfl) fun p5 => ?_
         conv=>lhs;whnf
         refine t_cond ?_ ?_
         ·conv=>lhs;whnf
          exact t_none
         ·conv=>lhs;whnf
          refine t_get (en := ep) (l := v01) (by rfl) fun p6 => ?_
          conv=>lhs;whnf
          refine t_call (h_spec_pgMeet p2.x p2.y p3.x p3.y p5.x p5.y p6.x p6.y) fun r3 => ?_
          conv=>lhs;whnf
          refine t_cond ?_ ?_
          ·conv=>lhs;whnf
           exact t_ret (by rfl)
          ·conv=>lhs;whnf
           exact hrec3 (wr .i64 (iadd v11 1)) _ _ (by rfl) (by rfl)
        ·conv=>lhs;whnf
         exact hrec2 ((v01, v32, v40, v41, wr .i64 (iadd v42 1))) _ _ (by rfl) (by rfl)
       ·conv=>lhs;whnf
        exact hrec2 ((v01, v32, v40, v41, wr .i64 (iadd v42 1))) _ _ (by rfl) (by rfl)
   ·conv=>lhs;whnf
    exact t_ret (by rfl)
noncomputable def spec_pgBack_l0 (L : Nat) (a : List Pt) : Nat → Int → (List Pt) → Option ((List Pt))
  | 0, _, _ => none
  | m + 1, v4, w0 => bif ilt 0 v4 then (gbind (lget a v4) fun p1 => bif fits (iadd (ilen (List.map ep w0)) (ilen [AV.agg [AV.int .i64 p1.x, AV.int .i64 p1.y]])) 16 then (spec_pgBack_l0 L a m (wr .i64 (isub v4 1)) (lcat w0 (p1 :: []))) else (none)) else (some w0)
noncomputable def spec_pgBack (L : Nat) (a : List Pt) : Option ((List Pt)) := gbind (lget a 0) fun p => spec_pgBack_l0 L a L (wr .i64 (isub (ilen (List.map ep a)) 1)) (p :: [])
def spec_pgBack_ok (L : Nat) (C : CF) : Prop := ∀ (oa : Bool) (ca : Bool) (x_a : List AV) (a : List Pt) (_ : x_a = List.map ep a), C 70 ([.lst oa ca 2 x_a]) ([]) = Option.map (fun r : (List Pt) => ((.frs 2 (List.map ep r), []) : AV × List Blk)) (spec_pgBack L a)
theorem spec_pgBack_run (L : Nat) (C : CF) : ∀ (oa : Bool) (ca : Bool) (x_a : List AV) (a : List Pt) (_ : x_a = List.map ep a), run T C sh (keep 70) L Tryz.f70 ([.lst oa ca 2 x_a]) ([]) = Option.map (fun r : (List Pt) => ((.frs 2 (List.map ep r), []) : AV × List Blk)) (spec_pgBack L a) := by
 intro oa ca x_a a hx_a
 subst hx_a
 unfold spec_pgBack
 conv=>lhs;whnf
 refine t_get (en := ep) (l := a) (by rfl) fun p => ?_
 conv=>lhs;whnf
 refine t_loop (fun (⟨v4, w0⟩ : Int × (List Pt)) => (AV.lst oa ca 2 (List.map ep a) :: topA 2 (AV.own 0 2 none false :: AV.int .i64 v4 :: tops 19), [Blk.rows Mode.live 2 (List.map ep w0)])) (fun m (⟨v4, w0⟩ : Int × (List Pt)) => spec_pgBack_l0 L a m v4 w0) (fun _ => rfl) (fun m s rec hrec => ?_) L ((wr .i64 (isub (ilen (List.map ep a)) 1), p :: [])) ?_ ?_
 rotate_left
 ·rfl
 ·rfl
 obtain ⟨v4, w0⟩ := s
 show _ = Option.map _ (spec_pgBack_l0 L a (m + 1) v4 w0)
 rw [spec_pgBack_l0.eq_2]
 conv=>lhs;whnf
 refine t_cond ?_ ?_
 ·conv=>lhs;whnf
  refine t_get (en := ep) (l := a) (by rfl) fun p1 => ?_
  conv=>lhs;whnf
  refine t_cond ?_ ?_
  ·conv=>lhs;whnf
   exact hrec ((wr .i64 (isub v4 1), lcat w0 (p1 :: []))) _ _ (by rfl) (by first | rfl | simp only [ml] <;> rfl)
  ·conv=>lhs;whnf
   exact t_none
 ·conv=>lhs;whnf
  exact t_ret (by rfl)
noncomputable def spec_l1Cur_surePolygon_l0 (L : Nat) (a_0 : List Int) (b : Int) : Nat → Int → Int → Int → (List Pt) → Option ((List Pt) × Int × Int)
  | 0, _, _, _, _ => none
  | m + 1, v8, b0_1, b0_2, w1 => bif ilt 0 v8 then (gbind (spec_l1Cur_pick L a_0 b0_1 b0_2 (ilen (List.map ep w1))) fun r4 => bif ile 0 (wr .i64 (iadd 1 r4.1)) && ile (wr .i64 (iadd 1 r4.1)) (ilen (List.map ep w1)) then (bif fits (iadd (ilen ([] : List AV)) (ilen (lsub (List.map ep w1) 0 (iadd 0 (wr .i64 (iadd 1 r4.1)))))) 16 then (gbind (spec_l1Cur_surePeg L a_0 r4.2.1 r4.2.2 b) fun r5 => bif fits (iadd (ilen (lcat [] (lsub (List.map ep w1) 0 (iadd 0 (wr .i64 (iadd 1 r4.1)))))) (ilen [AV.agg [AV.int .i64 r5.1, AV.int .i64 r5.2.1]])) 16 then (bif ile 0 (wr .i64 (iadd 1 r4.1)) && ile (wr .i64 (iadd 1 r4.1)) (ilen (List.map ep w1)) then (bif fits (iadd (ilen (lcat (lcat [] (lsub (List.map ep w1) 0 (iadd 0 (wr .i64 (iadd 1 r4.1))))) [AV.agg [AV.int .i64 r5.1, AV.int .i64 r5.2.1]])) (ilen (lsub (List.map ep w1) (wr .i64 (iadd 1 r4.1)) (iadd (wr .i64 (iadd 1 r4.1)) (isub (ilen (List.map ep w1)) (wr .i64 (iadd 1 r4.1))))))) 16 then (gbind (spec_pgGood L (lcat (lcat (lcat [] (lsub w1 0 (iadd 0 (wr .i64 (iadd 1 r4.1))))) ({ x := r5.1, y := r5.2.1 } :: [])) (lsub w1 (wr .i64 (iadd 1 r4.1)) (iadd (wr .i64 (iadd 1 r4.1)) (isub (ilen (List.map ep w1)) (wr .i64 (iadd 1 r4.1))))))) fun r6 => bif r6 then (spec_l1Cur_surePolygon_l0 L a_0 b m (wr .i64 (isub v8 1)) r5.2.2.1 r5.2.2.2 (lcat (lcat (lcat [] (lsub w1 0 (iadd 0 (wr .i64 (iadd 1 r4.1))))) ({ x := r5.1, y := r5.2.1 } :: [])) (lsub w1 (wr .i64 (iadd 1 r4.1)) (iadd (wr .i64 (iadd 1 r4.1)) (isub (ilen (List.map ep w1)) (wr .i64 (iadd 1 r4.1))))))) else (spec_l1Cur_surePolygon_l0 L a_0 b m (wr .i64 (isub v8 1)) r5.2.2.1 r5.2.2.2 w1)) else (none)) else (none)) else (none)) else (none)) else (none)) else (gbind (spec_l1Cur_one L a_0 b0_1 b0_2 3) fun r7 => bif r7.1 then (gbind (spec_pgBack L w1) fun r8 => some ((r8, r7.2.1, r7.2.2))) else (some ((w1, r7.2.1, r7.2.2))))
noncomputable def spec_l1Cur_surePolygon (L : Nat) (a_0 : List Int) (a_1 : Int) (a_2 : Int) (b : Int) (c : Int) : Option ((List Pt) × Int × Int) := gbind (spec_l1Cur_pick L a_0 a_1 a_2 b) fun r => gbind (spec_l1Cur_pick L a_0 r.2.1 r.2.2 (wr .i64 (iadd b 1))) fun r1 => gbind (spec_l1Cur_pick L a_0 r1.2.1 r1.2.2 b) fun r2 => gbind (spec_l1Cur_pick L a_0 r2.2.1 r2.2.2 (wr .i64 (isub c 1))) fun r3 => spec_l1Cur_surePolygon_l0 L a_0 b L r3.1 r3.2.1 r3.2.2 ({ x := 0, y := 0 } :: ({ x := wr .i64 (iadd 1 r.1), y := 0 } :: ({ x := r1.1, y := wr .i64 (iadd 1 r2.1) } :: [])))
def spec_l1Cur_surePolygon_ok (L : Nat) (C : CF) : Prop := ∀ (oa_0 : Bool) (ca_0 : Bool) (x_a_0 : List AV) (a_0 : List Int) (_ : x_a_0 = List.map eU a_0) (a_1 : Int) (a_2 : Int) (b : Int) (c : Int), C 96 ([.ptr 0 0 0 3, .int .i64 b, .int .i64 c]) ([.box (.agg [.lst oa_0 ca_0 1 x_a_0, .int .i64 a_1, .int .u64 a_2])]) = Option.map (fun r : (List Pt) × Int × Int => ((.frs 2 (List.map ep (r.1)), [.box (.agg [.lst oa_0 ca_0 1 x_a_0, .int .i64 (r.2.1), .int .u64 (r.2.2)])]) : AV × List Blk)) (spec_l1Cur_surePolygon L a_0 a_1 a_2 b c)
theorem spec_l1Cur_surePolygon_run (L : Nat) (C : CF) (h_spec_l1Cur_pick : spec_l1Cur_pick_ok L C) (h_spec_l1Cur_one : spec_l1Cur_one_ok L C) (h_spec_l1Cur_surePeg : spec_l1Cur_surePeg_ok L C) (h_spec_pgGood : spec_pgGood_ok L C) (h_spec_pgBack : spec_pgBack_ok L C) : ∀ (oa_0 : Bool) (ca_0 : Bool) (x_a_0 : List AV) (a_0 : List Int) (_ : x_a_0 = List.map eU a_0) (a_1 : Int) (a_2 : Int) (b : Int) (c : Int), run T C sh (keep 96) L Tryz.f96 ([.ptr 0 0 0 3, .int .i64 b, .int .i64 c]) ([.box (.agg [.lst oa_0 ca_0 1 x_a_0, .int .i64 a_1, .int .u64 a_2])]) = Option.map (fun r : (List Pt) × Int × Int => ((.frs 2 (List.map ep (r.1)), [.box (.agg [.lst oa_0 ca_0 1 x_a_0, .int .i64 (r.2.1), .int .u64 (r.2.2)])]) : AV × List Blk)) (spec_l1Cur_surePolygon L a_0 a_1 a_2 b c) := by
 intro oa_0 ca_0 x_a_0 a_0 hx_a_0 a_1 a_2 b c
 subst hx_a_0
 unfold spec_l1Cur_surePolygon
 conv=>lhs;whnf
 refine t_call (h_spec_l1Cur_pick _ _ _ a_0 (by rfl) a_1 a_2 b) fun r => ?_
 conv=>lhs;whnf
 refine t_call (h_spec_l1Cur_pick _ _ _ a_0 (by rfl) r.2.1 r.2.2 (wr .i64 (iadd b 1))) fun r1 => ?_
 conv=>lhs;whnf
 refine t_call (h_spec_l1Cur_pick _ _ _ a_0 (by rfl) r1.2.1 r1.2.2 b) fun r2 => ?_
 conv=>lhs;whnf
 refine t_call (h_spec_l1Cur_pick _ _ _ a_0 (by rfl) r2.2.1 r2.2.2 (wr .i64 (isub c 1))) fun r3 => ?_
 conv=>lhs;whnf
 refine t_loop (fun (⟨v8, b0_1, b0_2, w1⟩ : Int × Int × Int × (List Pt)) => (AV.ptr 0 0 0 3 :: AV.int .i64 b :: topA 5 (AV.own 1 2 none false :: AV.int .i64 v8 :: tops 54), [Blk.box (AV.agg [AV.lst oa_0 ca_0 1 (List.map eU a_0), AV.int .i64 b0_1, AV.int IntKind.u64 b0_2]), Blk.rows Mode.live 2 (List.map ep w1)])) (fun m (⟨v8, b0_1, b0_2, w1⟩ : Int × Int × Int × (List Pt)) => spec_l1Cur_surePolygon_l0 L a_0 b m v8 b0_1 b0_2 w1) (fun _ => rfl) (fun m s rec hrec => ?_) L ((r3.1, r3.2.1, r3.2.2, { x := 0, y := 0 } :: ({ x := wr .i64 (iadd 1 r.1), y := 0 } :: ({ x := r1.1, y := wr .i64 (iadd 1 r2.1) } :: [])))) ?_ ?_
 rotate_left
 ·rfl
 ·rfl
 obtain ⟨v8, b0_1, b0_2, w1⟩ := s
 show _ = Option.map _ (spec_l1Cur_surePolygon_l0 L a_0 b (m + 1) v8 b0_1 b0_2 w1)
 rw [spec_l1Cur_surePolygon_l0.eq_2]
 conv=>lhs;whnf
 refine t_cond ?_ ?_
 ·conv=>lhs;whnf
  refine t_call (h_spec_l1Cur_pick _ _ _ a_0 (by rfl) b0_1 b0_2 (ilen (List.map ep w1))) fun r4 => ?_
  conv=>lhs;whnf
  refine t_cond ?_ ?_
  ·conv=>lhs;whnf
   refine t_cond ?_ ?_
   ·conv=>lhs;whnf
    refine t_call (h_spec_l1Cur_surePeg _ _ _ a_0 (by rfl) r4.2.1 r4.2.2 b) fun r5 => ?_
    conv=>lhs;whnf
    refine t_cond ?_ ?_
    ·conv=>lhs;whnf
     refine t_cond ?_ ?_
     ·conv=>lhs;whnf
      refine t_cond ?_ ?_
      ·conv=>lhs;whnf
       refine t_call (h_spec_pgGood _ _ _ (lcat (lcat (lcat [] (lsub w1 0 (iadd 0 (wr .i64 (iadd 1 r4.1))))) ({ x := r5.1, y := r5.2.1 } :: [])) (lsub w1 (wr .i64 (iadd 1 r4.1)) (iadd (wr .i64 (iadd 1 r4.1)) (isub (ilen (List.map ep w1)) (wr .i64 (iadd 1 r4.1)))))) (by first | rfl | simp only [ml] <;> rfl)) fun r6 => ?_
       conv=>lhs;whnf
       refine t_cond ?_ ?_
       ·conv=>lhs;whnf
        exact hrec ((wr .i64 (isub v8 1), r5.2.2.1, r5.2.2.2, lcat (lcat (lcat [] (lsub w1 0 (iadd 0 (wr .i64 (iadd 1 r4.1))))) ({ x := r5.1, y := r5.2.1 } :: [])) (lsub w1 (wr .i64 (iadd 1 r4.1)) (iadd (wr .i64 (iadd 1 r4.1)) (isub (ilen (List.map ep w1)) (wr .i64 (iadd 1 r4.1))))))) _ _ (by rfl) (by first | rfl | simp only [ml] <;> rfl)
       ·conv=>lhs;whnf
        exact hrec ((wr .i64 (isub v8 1), r5.2.2.1, r5.2.2.2, w1)) _ _ (by rfl) (by rfl)
      ·conv=>lhs;whnf
       exact t_none
     ·conv=>lhs;whnf
      exact t_none
    ·conv=>lhs;whnf
     exact t_none
   ·conv=>lhs;whnf
    exact t_none
  ·conv=>lhs;whnf
   exact t_none
 ·conv=>lhs;whnf
  refine t_call (h_spec_l1Cur_one _ _ _ a_0 (by rfl) b0_1 b0_2 3) fun r7 => ?_
  conv=>lhs;whnf
  refine t_cond ?_ ?_
  ·conv=>lhs;whnf
   refine t_call (h_spec_pgBack _ _ _ w1 (by rfl)) fun r8 => ?_
   conv=>lhs;whnf
   exact t_ret (by rfl)
  ·conv=>lhs;whnf
   exact t_ret (by rfl)
noncomputable def spec_l1Cur_among_v2 (L : Nat) (b0_0 : List Int) (b0_1 : Int) (b0_2 : Int) (w1 : List Int) : Option (Int × Int × Int × (List Int)) := gbind (spec_l1Cur_pick L b0_0 b0_1 b0_2 (ilen (List.map eI w1))) fun r => bif ile 0 r.1 && ilt r.1 (ilen (List.map eI w1)) then (gbind (lget w1 r.1) fun p => some ((p, r.2.1, r.2.2, w1))) else (none)
def spec_l1Cur_among_v2_ok (L : Nat) (C : CF) : Prop := ∀ (ob0_0 : Bool) (cb0_0 : Bool) (x_b0_0 : List AV) (b0_0 : List Int) (_ : x_b0_0 = List.map eU b0_0) (b0_1 : Int) (b0_2 : Int) (x_w1 : List AV) (w1 : List Int) (_ : x_w1 = List.map eI w1), C 60 ([(.ptr 0 0 0 3), (.own 1 1 none false)]) ([.box (.agg [(.lst ob0_0 cb0_0 1 x_b0_0), (.int .i64 b0_1), (.int .u64 b0_2)]), .rows .live 1 x_w1]) = Option.map (fun r : Int × Int × Int × (List Int) => ((.int .i64 (r.1), [.box (.agg [(.lst ob0_0 cb0_0 1 x_b0_0), (.int .i64 (r.2.1)), (.int .u64 (r.2.2.1))]), .rows .live 1 (List.map eI (r.2.2.2))]) : AV × List Blk)) (spec_l1Cur_among_v2 L b0_0 b0_1 b0_2 w1)
theorem spec_l1Cur_among_v2_run (L : Nat) (C : CF) (h_spec_l1Cur_pick : spec_l1Cur_pick_ok L C) : ∀ (ob0_0 : Bool) (cb0_0 : Bool) (x_b0_0 : List AV) (b0_0 : List Int) (_ : x_b0_0 = List.map eU b0_0) (b0_1 : Int) (b0_2 : Int) (x_w1 : List AV) (w1 : List Int) (_ : x_w1 = List.map eI w1), run T C sh (keep 60) L Tryz.f60 ([(.ptr 0 0 0 3), (.own 1 1 none false)]) ([.box (.agg [(.lst ob0_0 cb0_0 1 x_b0_0), (.int .i64 b0_1), (.int .u64 b0_2)]), .rows .live 1 x_w1]) = Option.map (fun r : Int × Int × Int × (List Int) => ((.int .i64 (r.1), [.box (.agg [(.lst ob0_0 cb0_0 1 x_b0_0), (.int .i64 (r.2.1)), (.int .u64 (r.2.2.1))]), .rows .live 1 (List.map eI (r.2.2.2))]) : AV × List Blk)) (spec_l1Cur_among_v2 L b0_0 b0_1 b0_2 w1) := by
 intro ob0_0 cb0_0 x_b0_0 b0_0 hx_b0_0 b0_1 b0_2 x_w1 w1 hx_w1
 subst hx_b0_0
 subst hx_w1
 unfold spec_l1Cur_among_v2
 conv=>lhs;whnf
 refine t_call (h_spec_l1Cur_pick _ _ _ b0_0 (by rfl) b0_1 b0_2 (ilen (List.map eI w1))) fun r => ?_
 conv=>lhs;whnf
 refine t_cond ?_ ?_
 ·conv=>lhs;whnf
  refine t_get (en := eI) (l := w1) (by rfl) fun p => ?_
  conv=>lhs;whnf
  exact t_ret (by rfl)
 ·conv=>lhs;whnf
  exact t_none
noncomputable def spec_l1Cur_peg (L : Nat) (a_0 : List Int) (a_1 : Int) (a_2 : Int) : Option (Int × Int × Int × Int) := gbind (spec_l1Cur_one L a_0 a_1 a_2 12) fun r => bif r.1 then (gbind (spec_l1Cur_among_v2 L a_0 r.2.1 r.2.2 (0 :: (40 :: (-40 :: (41 :: (4611686018427387904 :: [])))))) fun r1 => gbind (spec_l1Cur_among_v2 L a_0 r1.2.1 r1.2.2.1 (0 :: (1 :: (40 :: (-41 :: (-9223372036854775808 :: [])))))) fun r2 => some ((r1.1, r2.1, r2.2.1, r2.2.2.1))) else (gbind (spec_l1Cur_surePeg L a_0 r.2.1 r.2.2 6) fun r3 => some ((r3.1, r3.2.1, r3.2.2.1, r3.2.2.2)))
def spec_l1Cur_peg_ok (L : Nat) (C : CF) : Prop := ∀ (oa_0 : Bool) (ca_0 : Bool) (x_a_0 : List AV) (a_0 : List Int) (_ : x_a_0 = List.map eU a_0) (a_1 : Int) (a_2 : Int), C 97 ([.ptr 0 0 0 3]) ([.box (.agg [.lst oa_0 ca_0 1 x_a_0, .int .i64 a_1, .int .u64 a_2])]) = Option.map (fun r : Int × Int × Int × Int => ((.agg [.int .i64 (r.1), .int .i64 (r.2.1)], [.box (.agg [.lst oa_0 ca_0 1 x_a_0, .int .i64 (r.2.2.1), .int .u64 (r.2.2.2)])]) : AV × List Blk)) (spec_l1Cur_peg L a_0 a_1 a_2)
theorem spec_l1Cur_peg_run (L : Nat) (C : CF) (h_spec_l1Cur_one : spec_l1Cur_one_ok L C) (h_spec_l1Cur_surePeg : spec_l1Cur_surePeg_ok L C) (h_spec_l1Cur_among_v2 : spec_l1Cur_among_v2_ok L C) : ∀ (oa_0 : Bool) (ca_0 : Bool) (x_a_0 : List AV) (a_0 : List Int) (_ : x_a_0 = List.map eU a_0) (a_1 : Int) (a_2 : Int), run T C sh (keep 97) L Tryz.f97 ([.ptr 0 0 0 3]) ([.box (.agg [.lst oa_0 ca_0 1 x_a_0, .int .i64 a_1, .int .u64 a_2])]) = Option.map (fun r : Int × Int × Int × Int => ((.agg [.int .i64 (r.1), .int .i64 (r.2.1)], [.box (.agg [.lst oa_0 ca_0 1 x_a_0, .int .i64 (r.2.2.1), .int .u64 (r.2.2.2)])]) : AV × List Blk)) (spec_l1Cur_peg L a_0 a_1 a_2) := by
 intro oa_0 ca_0 x_a_0 a_0 hx_a_0 a_1 a_2
 subst hx_a_0
 unfold spec_l1Cur_peg
 conv=>lhs;whnf
 refine t_call (h_spec_l1Cur_one _ _ _ a_0 (by rfl) a_1 a_2 12) fun r => ?_
 conv=>lhs;whnf
 refine t_cond ?_ ?_
 ·conv=>lhs;whnf
  refine t_call (h_spec_l1Cur_among_v2 _ _ _ a_0 (by rfl) r.2.1 r.2.2 _ (0 :: (40 :: (-40 :: (41 :: (4611686018427387904 :: []))))) (by rfl)) fun r1 => ?_
  conv=>lhs;whnf
  refine t_call (h_spec_l1Cur_among_v2 _ _ _ a_0 (by rfl) r1.2.1 r1.2.2.1 _ (0 :: (1 :: (40 :: (-41 :: (-9223372036854775808 :: []))))) (by rfl)) fun r2 => ?_
  conv=>lhs;whnf
  exact t_ret (by rfl)
 ·conv=>lhs;whnf
  refine t_call (h_spec_l1Cur_surePeg _ _ _ a_0 (by rfl) r.2.1 r.2.2 6) fun r3 => ?_
  conv=>lhs;whnf
  exact t_ret (by rfl)
noncomputable def spec_l1Cur_polygon (L : Nat) (a_0 : List Int) (a_1 : Int) (a_2 : Int) (b : Int) : Option ((List Pt) × Int × Int) := gbind (spec_l1Cur_surePolygon L a_0 a_1 a_2 b 8) fun r => gbind (spec_l1Cur_pick L a_0 r.2.1 r.2.2 16) fun r1 => bif ieq r1.1 0 then (gbind (spec_l1Cur_pick L a_0 r1.2.1 r1.2.2 (ilen (List.map ep r.1))) fun r2 => gbind (spec_l1Cur_peg L a_0 r2.2.1 r2.2.2) fun r3 => bif ile 0 r2.1 && ilt r2.1 (ilen (List.map ep r.1)) then (gbind (lget r.1 r2.1) fun p => some ((lset r.1 r2.1 ({ x := r3.1, y := r3.2.1 }), r3.2.2.1, r3.2.2.2))) else (none)) else (bif ieq r1.1 1 then (gbind (spec_l1Cur_pick L a_0 r1.2.1 r1.2.2 3) fun r4 => bif ile 0 r4.1 && ile r4.1 (ilen (List.map ep r.1)) then (some ((lsub r.1 0 (iadd 0 r4.1), r4.2.1, r4.2.2))) else (none)) else (bif ieq r1.1 2 then (some (({ x := -40, y := -40 } :: ({ x := 40, y := -40 } :: ({ x := 40, y := 40 } :: ({ x := -40, y := 40 } :: []))), r1.2.1, r1.2.2))) else (some ((r.1, r1.2.1, r1.2.2)))))
def spec_l1Cur_polygon_ok (L : Nat) (C : CF) : Prop := ∀ (oa_0 : Bool) (ca_0 : Bool) (x_a_0 : List AV) (a_0 : List Int) (_ : x_a_0 = List.map eU a_0) (a_1 : Int) (a_2 : Int) (b : Int), C 47 ([.ptr 0 0 0 3, .int .i64 b]) ([.box (.agg [.lst oa_0 ca_0 1 x_a_0, .int .i64 a_1, .int .u64 a_2])]) = Option.map (fun r : (List Pt) × Int × Int => ((.frs 2 (List.map ep (r.1)), [.box (.agg [.lst oa_0 ca_0 1 x_a_0, .int .i64 (r.2.1), .int .u64 (r.2.2)])]) : AV × List Blk)) (spec_l1Cur_polygon L a_0 a_1 a_2 b)
theorem spec_l1Cur_polygon_run (L : Nat) (C : CF) (h_spec_l1Cur_pick : spec_l1Cur_pick_ok L C) (h_spec_l1Cur_surePolygon : spec_l1Cur_surePolygon_ok L C) (h_spec_l1Cur_peg : spec_l1Cur_peg_ok L C) : ∀ (oa_0 : Bool) (ca_0 : Bool) (x_a_0 : List AV) (a_0 : List Int) (_ : x_a_0 = List.map eU a_0) (a_1 : Int) (a_2 : Int) (b : Int), run T C sh (keep 47) L Tryz.f47 ([.ptr 0 0 0 3, .int .i64 b]) ([.box (.agg [.lst oa_0 ca_0 1 x_a_0, .int .i64 a_1, .int .u64 a_2])]) = Option.map (fun r : (List Pt) × Int × Int => ((.frs 2 (List.map ep (r.1)), [.box (.agg [.lst oa_0 ca_0 1 x_a_0, .int .i64 (r.2.1), .int .u64 (r.2.2)])]) : AV × List Blk)) (spec_l1Cur_polygon L a_0 a_1 a_2 b) := by
 intro oa_0 ca_0 x_a_0 a_0 hx_a_0 a_1 a_2 b
 subst hx_a_0
 unfold spec_l1Cur_polygon
 conv=>lhs;whnf
 refine t_call (h_spec_l1Cur_surePolygon _ _ _ a_0 (by rfl) a_1 a_2 b 8) fun r => ?_
 conv=>lhs;whnf
 refine t_call (h_spec_l1Cur_pick _ _ _ a_0 (by rfl) r.2.1 r.2.2 16) fun r1 => ?_
 conv=>lhs;whnf
 refine t_cond ?_ ?_
 ·conv=>lhs;whnf
  refine t_call (h_spec_l1Cur_pick _ _ _ a_0 (by rfl) r1.2.1 r1.2.2 (ilen (List.map ep r.1))) fun r2 => ?_
  conv=>lhs;whnf
  refine t_call (h_spec_l1Cur_peg _ _ _ a_0 (by rfl) r2.2.1 r2.2.2) fun r3 => ?_
  conv=>lhs;whnf
  refine t_cond ?_ ?_
  ·conv=>lhs;whnf
   refine t_get (en := ep) (l := r.1) (by rfl) fun p => ?_
   conv=>lhs;whnf
   exact t_ret (by first | rfl | simp only [ml] <;> rfl)
  ·conv=>lhs;whnf
   exact t_none
 ·conv=>lhs;whnf
  refine t_cond ?_ ?_
  ·conv=>lhs;whnf
   refine t_call (h_spec_l1Cur_pick _ _ _ a_0 (by rfl) r1.2.1 r1.2.2 3) fun r4 => ?_
   conv=>lhs;whnf
   refine t_cond ?_ ?_
   ·conv=>lhs;whnf
    exact t_ret (by first | rfl | simp only [ml] <;> rfl)
   ·conv=>lhs;whnf
    exact t_none
  ·conv=>lhs;whnf
   refine t_cond ?_ ?_
   ·conv=>lhs;whnf
    exact t_ret (by rfl)
   ·conv=>lhs;whnf
    exact t_ret (by rfl)
noncomputable def spec_DrawKindOfTriangle (L : Nat) (a : List Int) : Option ((List Pt)) := gbind (spec_l1Cur_one L a 0 0 8) fun r => bif r.1 then (gbind (spec_l1Cur_polygon L a r.2.1 r.2.2 4) fun r1 => some r1.1) else (gbind (spec_l1Cur_surePeg L a r.2.1 r.2.2 5) fun r2 => gbind (spec_l1Cur_surePeg L a r2.2.2.1 r2.2.2.2 5) fun r3 => gbind (spec_l1Cur_surePeg L a r3.2.2.1 r3.2.2.2 5) fun r4 => some ({ x := r2.1, y := r2.2.1 } :: ({ x := r3.1, y := r3.2.1 } :: ({ x := r4.1, y := r4.2.1 } :: []))))
def spec_DrawKindOfTriangle_ok (L : Nat) (C : CF) : Prop := ∀ (oa : Bool) (ca : Bool) (x_a : List AV) (a : List Int) (_ : x_a = List.map eU a), C 7 ([.lst oa ca 1 x_a]) ([]) = Option.map (fun r : (List Pt) => ((.frs 2 (List.map ep r), []) : AV × List Blk)) (spec_DrawKindOfTriangle L a)
theorem spec_DrawKindOfTriangle_run (L : Nat) (C : CF) (h_spec_l1Cur_one : spec_l1Cur_one_ok L C) (h_spec_l1Cur_surePeg : spec_l1Cur_surePeg_ok L C) (h_spec_l1Cur_polygon : spec_l1Cur_polygon_ok L C) : ∀ (oa : Bool) (ca : Bool) (x_a : List AV) (a : List Int) (_ : x_a = List.map eU a), run T C sh (keep 7) L Tryz.f7 ([.lst oa ca 1 x_a]) ([]) = Option.map (fun r : (List Pt) => ((.frs 2 (List.map ep r), []) : AV × List Blk)) (spec_DrawKindOfTriangle L a) := by
 intro oa ca x_a a hx_a
 subst hx_a
 unfold spec_DrawKindOfTriangle
 conv=>lhs;whnf
 refine t_call (h_spec_l1Cur_one _ _ _ a (by rfl) 0 0 8) fun r => ?_
 conv=>lhs;whnf
 refine t_cond ?_ ?_
 ·conv=>lhs;whnf
  refine t_call (h_spec_l1Cur_polygon _ _ _ a (by rfl) r.2.1 r.2.2 4) fun r1 => ?_
  conv=>lhs;whnf
  exact t_ret (by rfl)
 ·conv=>lhs;whnf
  refine t_call (h_spec_l1Cur_surePeg _ _ _ a (by rfl) r.2.1 r.2.2 5) fun r2 => ?_
  conv=>lhs;whnf
  refine t_call (h_spec_l1Cur_surePeg _ _ _ a (by rfl) r2.2.2.1 r2.2.2.2 5) fun r3 => ?_
  conv=>lhs;whnf
  refine t_call (h_spec_l1Cur_surePeg _ _ _ a (by rfl) r3.2.2.1 r3.2.2.2 5) fun r4 => ?_
  conv=>lhs;whnf
  exact t_ret (by rfl)
noncomputable def impl_within (L : Nat) (a : Int) (b : Int) (c : Int) : Option (Bool) := bif ile b a then (some (ile a c)) else (some false)
def impl_within_ok (L : Nat) (C : CF) : Prop := ∀ (a : Int) (b : Int) (c : Int), C 59 ([.int .i64 a, .int .i64 b, .int .i64 c]) ([]) = Option.map (fun r : Bool => ((.bool r, []) : AV × List Blk)) (impl_within L a b c)
theorem impl_within_run (L : Nat) (C : CF) : ∀ (a : Int) (b : Int) (c : Int), run T C sh (keep 59) L Tryz.f59 ([.int .i64 a, .int .i64 b, .int .i64 c]) ([]) = Option.map (fun r : Bool => ((.bool r, []) : AV × List Blk)) (impl_within L a b c) := by
 intro a b c
 unfold impl_within
 conv=>lhs;whnf
 refine t_cond ?_ ?_
 ·conv=>lhs;whnf
  exact t_ret (by rfl)
 ·conv=>lhs;whnf
  exact t_ret (by rfl)
noncomputable def impl_IsPeg (L : Nat) (a_0 : Int) (a_1 : Int) : Option (Bool) := gbind (impl_within L a_0 (-40) 40) fun r => bif r then (gbind (impl_within L a_1 (-40) 40) fun r1 => some r1) else (some false)
def impl_IsPeg_ok (L : Nat) (C : CF) : Prop := ∀ (a_0 : Int) (a_1 : Int), C 116 ([.agg [.int .i64 a_0, .int .i64 a_1]]) ([]) = Option.map (fun r : Bool => ((.bool r, []) : AV × List Blk)) (impl_IsPeg L a_0 a_1)
theorem impl_IsPeg_run (L : Nat) (C : CF) (h_impl_within : impl_within_ok L C) : ∀ (a_0 : Int) (a_1 : Int), run T C sh (keep 116) L Tryz.f116 ([.agg [.int .i64 a_0, .int .i64 a_1]]) ([]) = Option.map (fun r : Bool => ((.bool r, []) : AV × List Blk)) (impl_IsPeg L a_0 a_1) := by
 intro a_0 a_1
 unfold impl_IsPeg
 conv=>lhs;whnf
 refine t_call (h_impl_within a_0 (-40) 40) fun r => ?_
 conv=>lhs;whnf
 refine t_cond ?_ ?_
 ·conv=>lhs;whnf
  refine t_call (h_impl_within a_1 (-40) 40) fun r1 => ?_
  conv=>lhs;whnf
  exact t_ret (by rfl)
 ·conv=>lhs;whnf
  exact t_ret (by rfl)
noncomputable def impl_arePegs_1 (L : Nat) (a_0 : Int) (a_1 : Int) : Option (Bool) := gbind (impl_IsPeg L a_0 a_1) fun r => some (!r)
def impl_arePegs_1_ok (L : Nat) (C : CF) : Prop := ∀ (a_0 : Int) (a_1 : Int), C 115 ([.agg [.int .i64 a_0, .int .i64 a_1]]) ([]) = Option.map (fun r : Bool => ((.bool r, []) : AV × List Blk)) (impl_arePegs_1 L a_0 a_1)
theorem impl_arePegs_1_run (L : Nat) (C : CF) (h_impl_IsPeg : impl_IsPeg_ok L C) : ∀ (a_0 : Int) (a_1 : Int), run T C sh (keep 115) L Tryz.f115 ([.agg [.int .i64 a_0, .int .i64 a_1]]) ([]) = Option.map (fun r : Bool => ((.bool r, []) : AV × List Blk)) (impl_arePegs_1 L a_0 a_1) := by
 intro a_0 a_1
 unfold impl_arePegs_1
 conv=>lhs;whnf
 refine t_call (h_impl_IsPeg a_0 a_1) fun r => ?_
 conv=>lhs;whnf
 exact t_ret (by rfl)
noncomputable def slices_IndexFunc_impl_Peg_impl_Peg_arePegs_l0 (L : Nat) (a : List Pt) : Nat → Int → Option Int
  | 0, _ => none
  | m + 1, v8 => bif ilt v8 (ilen (List.map ep a)) then (gbind (lget a v8) fun p => gbind (impl_arePegs_1 L p.x p.y) fun r => bif r then (some v8) else (slices_IndexFunc_impl_Peg_impl_Peg_arePegs_l0 L a m (wr .i64 (iadd v8 1)))) else (some (-1))
noncomputable def slices_IndexFunc_impl_Peg_impl_Peg_arePegs (L : Nat) (a : List Pt) : Option (Int) := slices_IndexFunc_impl_Peg_impl_Peg_arePegs_l0 L a L 0
def slices_IndexFunc_impl_Peg_impl_Peg_arePegs_ok (L : Nat) (C : CF) : Prop := ∀ (o1 : Bool) (c1 : Bool) (x_a : List AV) (a : List Pt) (_ : x_a = List.map ep a), C 148 ([.lst o1 c1 2 x_a, .fn 115 [] []]) ([]) = Option.map (fun r : Int => ((.int .i64 r, []) : AV × List Blk)) (slices_IndexFunc_impl_Peg_impl_Peg_arePegs L a)
theorem slices_IndexFunc_impl_Peg_impl_Peg_arePegs_run (L : Nat) (C : CF) (h_impl_arePegs_1 : impl_arePegs_1_ok L C) : ∀ (o1 : Bool) (c1 : Bool) (x_a : List AV) (a : List Pt) (_ : x_a = List.map ep a), run T C sh (keep 148) L Tryz.f148 ([.lst o1 c1 2 x_a, .fn 115 [] []]) ([]) = Option.map (fun r : Int => ((.int .i64 r, []) : AV × List Blk)) (slices_IndexFunc_impl_Peg_impl_Peg_arePegs L a) := by
 intro o1 c1 x_a a hx_a
 subst hx_a
 unfold slices_IndexFunc_impl_Peg_impl_Peg_arePegs
 conv=>lhs;whnf
 refine t_loop (fun (v8 : Int) => (AV.lst o1 c1 2 (List.map ep a) :: AV.fn 115 [] [] :: topA 5 (AV.int .i64 (ilen (List.map ep a)) :: AV.int .i64 v8 :: tops 10), [])) (fun m (v8 : Int) => slices_IndexFunc_impl_Peg_impl_Peg_arePegs_l0 L a m v8) (fun _ => rfl) (fun m v8 rec hrec => ?_) L 0 ?_ ?_
 rotate_left
 ·rfl
 ·rfl
 show _ = Option.map _ (slices_IndexFunc_impl_Peg_impl_Peg_arePegs_l0 L a (m + 1) v8)
 rw [slices_IndexFunc_impl_Peg_impl_Peg_arePegs_l0.eq_2]
 conv=>lhs;whnf
 refine t_cond ?_ ?_
 ·conv=>lhs;whnf
  refine t_get (en := ep) (l := a) (by rfl) fun p => ?_
  conv=>lhs;whnf
  refine t_call (h_impl_arePegs_1 p.x p.y) fun r => ?_
  conv=>lhs;whnf
  refine t_cond ?_ ?_
  ·conv=>lhs;whnf
   exact t_ret (by rfl)
  ·conv=>lhs;whnf
   exact hrec (wr .i64 (iadd v8 1)) _ _ (by rfl) (by rfl)
 ·conv=>lhs;whnf
  exact t_ret (by rfl)
noncomputable def slices_ContainsFunc_impl_Peg_impl_Peg_arePegs (L : Nat) (a : List Pt) : Option (Bool) := gbind (slices_IndexFunc_impl_Peg_impl_Peg_arePegs L a) fun r => some (ile 0 r)
def slices_ContainsFunc_impl_Peg_impl_Peg_arePegs_ok (L : Nat) (C : CF) : Prop := ∀ (o1 : Bool) (c1 : Bool) (x_a : List AV) (a : List Pt) (_ : x_a = List.map ep a), C 114 ([.lst o1 c1 2 x_a, .fn 115 [] []]) ([]) = Option.map (fun r : Bool => ((.bool r, []) : AV × List Blk)) (slices_ContainsFunc_impl_Peg_impl_Peg_arePegs L a)
theorem slices_ContainsFunc_impl_Peg_impl_Peg_arePegs_run (L : Nat) (C : CF) (h_slices_IndexFunc_impl_Peg_impl_Peg_arePegs : slices_IndexFunc_impl_Peg_impl_Peg_arePegs_ok L C) : ∀ (o1 : Bool) (c1 : Bool) (x_a : List AV) (a : List Pt) (_ : x_a = List.map ep a), run T C sh (keep 114) L Tryz.f114 ([.lst o1 c1 2 x_a, .fn 115 [] []]) ([]) = Option.map (fun r : Bool => ((.bool r, []) : AV × List Blk)) (slices_ContainsFunc_impl_Peg_impl_Peg_arePegs L a) := by
 intro o1 c1 x_a a hx_a
 subst hx_a
 unfold slices_ContainsFunc_impl_Peg_impl_Peg_arePegs
 conv=>lhs;whnf
 refine t_call (h_slices_IndexFunc_impl_Peg_impl_Peg_arePegs _ _ _ a (by rfl)) fun r => ?_
 conv=>lhs;whnf
 exact t_ret (by rfl)
noncomputable def impl_arePegs (L : Nat) (a : List Pt) : Option (Bool) := gbind (slices_ContainsFunc_impl_Peg_impl_Peg_arePegs L a) fun r => some (!r)
def impl_arePegs_ok (L : Nat) (C : CF) : Prop := ∀ (oa : Bool) (ca : Bool) (x_a : List AV) (a : List Pt) (_ : x_a = List.map ep a), C 80 ([.lst oa ca 2 x_a]) ([]) = Option.map (fun r : Bool => ((.bool r, []) : AV × List Blk)) (impl_arePegs L a)
theorem impl_arePegs_run (L : Nat) (C : CF) (h_slices_ContainsFunc_impl_Peg_impl_Peg_arePegs : slices_ContainsFunc_impl_Peg_impl_Peg_arePegs_ok L C) : ∀ (oa : Bool) (ca : Bool) (x_a : List AV) (a : List Pt) (_ : x_a = List.map ep a), run T C sh (keep 80) L Tryz.f80 ([.lst oa ca 2 x_a]) ([]) = Option.map (fun r : Bool => ((.bool r, []) : AV × List Blk)) (impl_arePegs L a) := by
 intro oa ca x_a a hx_a
 subst hx_a
 unfold impl_arePegs
 conv=>lhs;whnf
 refine t_call (h_slices_ContainsFunc_impl_Peg_impl_Peg_arePegs _ _ _ a (by rfl)) fun r => ?_
 conv=>lhs;whnf
 exact t_ret (by rfl)
noncomputable def slices_Index_impl_Peg_impl_Peg_l0 (L : Nat) (a : List Pt) (b_0 : Int) (b_1 : Int) : Nat → Int → Option Int
  | 0, _ => none
  | m + 1, v8 => bif ilt v8 (ilen (List.map ep a)) then (gbind (lget a v8) fun p => bif ieq b_0 p.x && ieq b_1 p.y then (some v8) else (slices_Index_impl_Peg_impl_Peg_l0 L a b_0 b_1 m (wr .i64 (iadd v8 1)))) else (some (-1))
noncomputable def slices_Index_impl_Peg_impl_Peg (L : Nat) (a : List Pt) (b_0 : Int) (b_1 : Int) : Option (Int) := slices_Index_impl_Peg_impl_Peg_l0 L a b_0 b_1 L 0
def slices_Index_impl_Peg_impl_Peg_ok (L : Nat) (C : CF) : Prop := ∀ (oa : Bool) (ca : Bool) (x_a : List AV) (a : List Pt) (_ : x_a = List.map ep a) (b_0 : Int) (b_1 : Int), C 141 ([.lst oa ca 2 x_a, .agg [.int .i64 b_0, .int .i64 b_1]]) ([]) = Option.map (fun r : Int => ((.int .i64 r, []) : AV × List Blk)) (slices_Index_impl_Peg_impl_Peg L a b_0 b_1)
theorem slices_Index_impl_Peg_impl_Peg_run (L : Nat) (C : CF) : ∀ (oa : Bool) (ca : Bool) (x_a : List AV) (a : List Pt) (_ : x_a = List.map ep a) (b_0 : Int) (b_1 : Int), run T C sh (keep 141) L Tryz.f141 ([.lst oa ca 2 x_a, .agg [.int .i64 b_0, .int .i64 b_1]]) ([]) = Option.map (fun r : Int => ((.int .i64 r, []) : AV × List Blk)) (slices_Index_impl_Peg_impl_Peg L a b_0 b_1) := by
 intro oa ca x_a a hx_a b_0 b_1
 subst hx_a
 unfold slices_Index_impl_Peg_impl_Peg
 conv=>lhs;whnf
 refine t_loop (fun (v8 : Int) => (AV.lst oa ca 2 (List.map ep a) :: topA 2 (AV.ptr 0 0 0 2 :: topA 3 (AV.int .i64 (ilen (List.map ep a)) :: AV.int .i64 v8 :: tops 10)), [Blk.box (AV.agg [AV.int .i64 b_0, AV.int .i64 b_1])])) (fun m (v8 : Int) => slices_Index_impl_Peg_impl_Peg_l0 L a b_0 b_1 m v8) (fun _ => rfl) (fun m v8 rec hrec => ?_) L 0 ?_ ?_
 rotate_left
 ·rfl
 ·rfl
 show _ = Option.map _ (slices_Index_impl_Peg_impl_Peg_l0 L a b_0 b_1 (m + 1) v8)
 rw [slices_Index_impl_Peg_impl_Peg_l0.eq_2]
 conv=>lhs;whnf
 refine t_cond ?_ ?_
 ·conv=>lhs;whnf
  refine t_get (en := ep) (l := a) (by rfl) fun p => ?_
  conv=>lhs;whnf
  refine t_cond ?_ ?_
  ·conv=>lhs;whnf
   exact t_ret (by rfl)
  ·conv=>lhs;whnf
   exact hrec (wr .i64 (iadd v8 1)) _ _ (by rfl) (by rfl)
 ·conv=>lhs;whnf
  exact t_ret (by rfl)
noncomputable def slices_Contains_impl_Peg_impl_Peg (L : Nat) (a : List Pt) (b_0 : Int) (b_1 : Int) : Option (Bool) := gbind (slices_Index_impl_Peg_impl_Peg L a b_0 b_1) fun r => some (ile 0 r)
def slices_Contains_impl_Peg_impl_Peg_ok (L : Nat) (C : CF) : Prop := ∀ (oa : Bool) (ca : Bool) (x_a : List AV) (a : List Pt) (_ : x_a = List.map ep a) (b_0 : Int) (b_1 : Int), C 98 ([.lst oa ca 2 x_a, .agg [.int .i64 b_0, .int .i64 b_1]]) ([]) = Option.map (fun r : Bool => ((.bool r, []) : AV × List Blk)) (slices_Contains_impl_Peg_impl_Peg L a b_0 b_1)
theorem slices_Contains_impl_Peg_impl_Peg_run (L : Nat) (C : CF) (h_slices_Index_impl_Peg_impl_Peg : slices_Index_impl_Peg_impl_Peg_ok L C) : ∀ (oa : Bool) (ca : Bool) (x_a : List AV) (a : List Pt) (_ : x_a = List.map ep a) (b_0 : Int) (b_1 : Int), run T C sh (keep 98) L Tryz.f98 ([.lst oa ca 2 x_a, .agg [.int .i64 b_0, .int .i64 b_1]]) ([]) = Option.map (fun r : Bool => ((.bool r, []) : AV × List Blk)) (slices_Contains_impl_Peg_impl_Peg L a b_0 b_1) := by
 intro oa ca x_a a hx_a b_0 b_1
 subst hx_a
 unfold slices_Contains_impl_Peg_impl_Peg
 conv=>lhs;whnf
 refine t_call (h_slices_Index_impl_Peg_impl_Peg _ _ _ a (by rfl) b_0 b_1) fun r => ?_
 conv=>lhs;whnf
 exact t_ret (by rfl)
noncomputable def impl_at (L : Nat) (a : List Pt) (b : Int) : Option (Int × Int) := bif ieq (ilen (List.map ep a)) 0 then (none) else (bif ieq (ilen (List.map ep a)) 0 then (none) else (gbind (lget a (irem (wr .i64 (iadd (irem b (ilen (List.map ep a))) (ilen (List.map ep a)))) (ilen (List.map ep a)))) fun p => some ((p.x, p.y))))
def impl_at_ok (L : Nat) (C : CF) : Prop := ∀ (oa : Bool) (ca : Bool) (x_a : List AV) (a : List Pt) (_ : x_a = List.map ep a) (b : Int), C 100 ([.lst oa ca 2 x_a, .int .i64 b]) ([]) = Option.map (fun r : Int × Int => ((.agg [.int .i64 (r.1), .int .i64 (r.2)], []) : AV × List Blk)) (impl_at L a b)
theorem impl_at_run (L : Nat) (C : CF) : ∀ (oa : Bool) (ca : Bool) (x_a : List AV) (a : List Pt) (_ : x_a = List.map ep a) (b : Int), run T C sh (keep 100) L Tryz.f100 ([.lst oa ca 2 x_a, .int .i64 b]) ([]) = Option.map (fun r : Int × Int => ((.agg [.int .i64 (r.1), .int .i64 (r.2)], []) : AV × List Blk)) (impl_at L a b) := by
 intro oa ca x_a a hx_a b
 subst hx_a
 unfold impl_at
 conv=>lhs;whnf
 refine t_cond ?_ ?_
 ·conv=>lhs;whnf
  exact t_none
 ·conv=>lhs;whnf
  refine t_cond ?_ ?_
  ·conv=>lhs;whnf
   exact t_none
  ·conv=>lhs;whnf
   refine t_get (en := ep) (l := a) (by rfl) fun p => ?_
   conv=>lhs;whnf
   exact t_ret (by rfl)
noncomputable def impl_Peg_less (L : Nat) (a_0 : Int) (a_1 : Int) (b_0 : Int) (b_1 : Int) : Option (Int × Int) := some ((wr .i64 (isub a_0 b_0), wr .i64 (isub a_1 b_1)))
def impl_Peg_less_ok (L : Nat) (C : CF) : Prop := ∀ (a_0 : Int) (a_1 : Int) (b_0 : Int) (b_1 : Int), C 110 ([.agg [.int .i64 a_0, .int .i64 a_1], .agg [.int .i64 b_0, .int .i64 b_1]]) ([]) = Option.map (fun r : Int × Int => ((.agg [.int .i64 (r.1), .int .i64 (r.2)], []) : AV × List Blk)) (impl_Peg_less L a_0 a_1 b_0 b_1)
theorem impl_Peg_less_run (L : Nat) (C : CF) : ∀ (a_0 : Int) (a_1 : Int) (b_0 : Int) (b_1 : Int), run T C sh (keep 110) L Tryz.f110 ([.agg [.int .i64 a_0, .int .i64 a_1], .agg [.int .i64 b_0, .int .i64 b_1]]) ([]) = Option.map (fun r : Int × Int => ((.agg [.int .i64 (r.1), .int .i64 (r.2)], []) : AV × List Blk)) (impl_Peg_less L a_0 a_1 b_0 b_1) := by
 intro a_0 a_1 b_0 b_1
 unfold impl_Peg_less
 conv=>lhs;whnf
 exact t_ret (by rfl)
noncomputable def impl_cross (L : Nat) (a_0 : Int) (a_1 : Int) (b_0 : Int) (b_1 : Int) : Option (Int) := some (wr .i64 (isub (wr .i64 (imul a_0 b_1)) (wr .i64 (imul a_1 b_0))))
def impl_cross_ok (L : Nat) (C : CF) : Prop := ∀ (a_0 : Int) (a_1 : Int) (b_0 : Int) (b_1 : Int), C 102 ([.agg [.int .i64 a_0, .int .i64 a_1], .agg [.int .i64 b_0, .int .i64 b_1]]) ([]) = Option.map (fun r : Int => ((.int .i64 r, []) : AV × List Blk)) (impl_cross L a_0 a_1 b_0 b_1)
theorem impl_cross_run (L : Nat) (C : CF) : ∀ (a_0 : Int) (a_1 : Int) (b_0 : Int) (b_1 : Int), run T C sh (keep 102) L Tryz.f102 ([.agg [.int .i64 a_0, .int .i64 a_1], .agg [.int .i64 b_0, .int .i64 b_1]]) ([]) = Option.map (fun r : Int => ((.int .i64 r, []) : AV × List Blk)) (impl_cross L a_0 a_1 b_0 b_1) := by
 intro a_0 a_1 b_0 b_1
 unfold impl_cross
 conv=>lhs;whnf
 exact t_ret (by rfl)
noncomputable def impl_turn (L : Nat) (a_0 : Int) (a_1 : Int) (b_0 : Int) (b_1 : Int) (c_0 : Int) (c_1 : Int) : Option (Int) := gbind (impl_Peg_less L b_0 b_1 a_0 a_1) fun r => gbind (impl_Peg_less L c_0 c_1 a_0 a_1) fun r1 => gbind (impl_cross L r.1 r.2 r1.1 r1.2) fun r2 => some r2
def impl_turn_ok (L : Nat) (C : CF) : Prop := ∀ (a_0 : Int) (a_1 : Int) (b_0 : Int) (b_1 : Int) (c_0 : Int) (c_1 : Int), C 99 ([.agg [.int .i64 a_0, .int .i64 a_1], .agg [.int .i64 b_0, .int .i64 b_1], .agg [.int .i64 c_0, .int .i64 c_1]]) ([]) = Option.map (fun r : Int => ((.int .i64 r, []) : AV × List Blk)) (impl_turn L a_0 a_1 b_0 b_1 c_0 c_1)
theorem impl_turn_run (L : Nat) (C : CF) (h_impl_Peg_less : impl_Peg_less_ok L C) (h_impl_cross : impl_cross_ok L C) : ∀ (a_0 : Int) (a_1 : Int) (b_0 : Int) (b_1 : Int) (c_0 : Int) (c_1 : Int), run T C sh (keep 99) L Tryz.f99 ([.agg [.int .i64 a_0, .int .i64 a_1], .agg [.int .i64 b_0, .int .i64 b_1], .agg [.int .i64 c_0, .int .i64 c_1]]) ([]) = Option.map (fun r : Int => ((.int .i64 r, []) : AV × List Blk)) (impl_turn L a_0 a_1 b_0 b_1 c_0 c_1) := by
 intro a_0 a_1 b_0 b_1 c_0 c_1
 unfold impl_turn
 conv=>lhs;whnf
 refine t_call (h_impl_Peg_less b_0 b_1 a_0 a_1) fun r => ?_
 conv=>lhs;whnf
 refine t_call (h_impl_Peg_less c_0 c_1 a_0 a_1) fun r1 => ?_
 conv=>lhs;whnf
 refine t_call (h_impl_cross r.1 r.2 r1.1 r1.2) fun r2 => ?_
 conv=>lhs;whnf
 exact t_ret (by rfl)
noncomputable def impl_sign (L : Nat) (a : Int) : Option (Int) := some (imin 1 (imax (-1) a))
def impl_sign_ok (L : Nat) (C : CF) : Prop := ∀ (a : Int), C 122 ([.int .i64 a]) ([]) = Option.map (fun r : Int => ((.int .i64 r, []) : AV × List Blk)) (impl_sign L a)
theorem impl_sign_run (L : Nat) (C : CF) : ∀ (a : Int), run T C sh (keep 122) L Tryz.f122 ([.int .i64 a]) ([]) = Option.map (fun r : Int => ((.int .i64 r, []) : AV × List Blk)) (impl_sign L a) := by
 intro a
 unfold impl_sign
 conv=>lhs;whnf
 exact t_ret (by rfl)
noncomputable def impl_isOn (L : Nat) (a_0 : Int) (a_1 : Int) (b_0 : Int) (b_1 : Int) (c_0 : Int) (c_1 : Int) : Option (Bool) := gbind (impl_turn L a_0 a_1 b_0 b_1 c_0 c_1) fun r => bif ieq r 0 then (gbind (impl_within L c_0 (imin a_0 b_0) (imax a_0 b_0)) fun r1 => bif r1 then (gbind (impl_within L c_1 (imin a_1 b_1) (imax a_1 b_1)) fun r2 => some r2) else (some false)) else (some false)
def impl_isOn_ok (L : Nat) (C : CF) : Prop := ∀ (a_0 : Int) (a_1 : Int) (b_0 : Int) (b_1 : Int) (c_0 : Int) (c_1 : Int), C 142 ([.agg [.int .i64 a_0, .int .i64 a_1], .agg [.int .i64 b_0, .int .i64 b_1], .agg [.int .i64 c_0, .int .i64 c_1]]) ([]) = Option.map (fun r : Bool => ((.bool r, []) : AV × List Blk)) (impl_isOn L a_0 a_1 b_0 b_1 c_0 c_1)
theorem impl_isOn_run (L : Nat) (C : CF) (h_impl_within : impl_within_ok L C) (h_impl_turn : impl_turn_ok L C) : ∀ (a_0 : Int) (a_1 : Int) (b_0 : Int) (b_1 : Int) (c_0 : Int) (c_1 : Int), run T C sh (keep 142) L Tryz.f142 ([.agg [.int .i64 a_0, .int .i64 a_1], .agg [.int .i64 b_0, .int .i64 b_1], .agg [.int .i64 c_0, .int .i64 c_1]]) ([]) = Option.map (fun r : Bool => ((.bool r, []) : AV × List Blk)) (impl_isOn L a_0 a_1 b_0 b_1 c_0 c_1) := by
 intro a_0 a_1 b_0 b_1 c_0 c_1
 unfold impl_isOn
 conv=>lhs;whnf
 refine t_call (h_impl_turn a_0 a_1 b_0 b_1 c_0 c_1) fun r => ?_
 conv=>lhs;whnf
 refine t_cond ?_ ?_
 ·conv=>lhs;whnf
  refine t_call (h_impl_within c_0 (imin a_0 b_0) (imax a_0 b_0)) fun r1 => ?_
  conv=>lhs;whnf
  refine t_cond ?_ ?_
  ·conv=>lhs;whnf
   refine t_call (h_impl_within c_1 (imin a_1 b_1) (imax a_1 b_1)) fun r2 => ?_
   conv=>lhs;whnf
   exact t_ret (by rfl)
  ·conv=>lhs;whnf
   exact t_ret (by rfl)
 ·conv=>lhs;whnf
  exact t_ret (by rfl)
noncomputable def impl_meet (L : Nat) (a_0 : Int) (a_1 : Int) (b_0 : Int) (b_1 : Int) (c_0 : Int) (c_1 : Int) (d_0 : Int) (d_1 : Int) : Option (Bool) := gbind (impl_turn L a_0 a_1 b_0 b_1 c_0 c_1) fun r => gbind (impl_sign L r) fun r1 => gbind (impl_turn L a_0 a_1 b_0 b_1 d_0 d_1) fun r2 => gbind (impl_sign L r2) fun r3 => bif ilt (wr .i64 (imul r1 r3)) 0 then (gbind (impl_turn L c_0 c_1 d_0 d_1 a_0 a_1) fun r4 => gbind (impl_sign L r4) fun r5 => gbind (impl_turn L c_0 c_1 d_0 d_1 b_0 b_1) fun r6 => gbind (impl_sign L r6) fun r7 => bif ilt (wr .i64 (imul r5 r7)) 0 then (some true) else (gbind (impl_isOn L a_0 a_1 b_0 b_1 c_0 c_1) fun r8 => bif r8 then (some true) else (gbind (impl_isOn L a_0 a_1 b_0 b_1 d_0 d_1) fun r9 => bif r9 then (some true) else (gbind (impl_isOn L c_0 c_1 d_0 d_1 a_0 a_1) fun r10 => bif r10 then (some true) else (gbind (impl_isOn L c_0 c_1 d_0 d_1 b_0 b_1) fun r11 => some r11))))) else (gbind (impl_isOn L a_0 a_1 b_0 b_1 c_0 c_1) fun r12 => bif r12 then (some true) else (gbind (impl_isOn L a_0 a_1 b_0 b_1 d_0 d_1) fun r13 => bif r13 then (some true) else (gbind (impl_isOn L c_0 c_1 d_0 d_1 a_0 a_1) fun r14 => bif r14 then (some true) else (gbind (impl_isOn L c_0 c_1 d_0 d_1 b_0 b_1) fun r15 => some r15))))
def impl_meet_ok (L : Nat) (C : CF) : Prop := ∀ (a_0 : Int) (a_1 : Int) (b_0 : Int) (b_1 : Int) (c_0 : Int) (c_1 : Int) (d_0 : Int) (d_1 : Int), C 101 ([.agg [.int .i64 a_0, .int .i64 a_1], .agg [.int .i64 b_0, .int .i64 b_1], .agg [.int .i64 c_0, .int .i64 c_1], .agg [.int .i64 d_0, .int .i64 d_1]]) ([]) = Option.map (fun r : Bool => ((.bool r, []) : AV × List Blk)) (impl_meet L a_0 a_1 b_0 b_1 c_0 c_1 d_0 d_1)
theorem impl_meet_run (L : Nat) (C : CF) (h_impl_turn : impl_turn_ok L C) (h_impl_sign : impl_sign_ok L C) (h_impl_isOn : impl_isOn_ok L C) : ∀ (a_0 : Int) (a_1 : Int) (b_0 : Int) (b_1 : Int) (c_0 : Int) (c_1 : Int) (d_0 : Int) (d_1 : Int), run T C sh (keep 101) L Tryz.f101 ([.agg [.int .i64 a_0, .int .i64 a_1], .agg [.int .i64 b_0, .int .i64 b_1], .agg [.int .i64 c_0, .int .i64 c_1], .agg [.int .i64 d_0, .int .i64 d_1]]) ([]) = Option.map (fun r : Bool => ((.bool r, []) : AV × List Blk)) (impl_meet L a_0 a_1 b_0 b_1 c_0 c_1 d_0 d_1) := by
 intro a_0 a_1 b_0 b_1 c_0 c_1 d_0 d_1
 unfold impl_meet
 conv=>lhs;whnf
 refine t_call (h_impl_turn a_0 a_1 b_0 b_1 c_0 c_1) fun r => ?_
 conv=>lhs;whnf
 refine t_call (h_impl_sign r) fun r1 => ?_
 conv=>lhs;whnf
 refine t_call (h_impl_turn a_0 a_1 b_0 b_1 d_0 d_1) fun r2 => ?_
 conv=>lhs;whnf
 refine t_call (h_impl_sign r2) fun r3 => ?_
 conv=>lhs;whnf
 refine t_cond ?_ ?_
 ·conv=>lhs;whnf
  refine t_call (h_impl_turn c_0 c_1 d_0 d_1 a_0 a_1) fun r4 => ?_
  conv=>lhs;whnf
  refine t_call (h_impl_sign r4) fun r5 => ?_
  conv=>lhs;whnf
  refine t_call (h_impl_turn c_0 c_1 d_0 d_1 b_0 b_1) fun r6 => ?_
  conv=>lhs;whnf
  refine t_call (h_impl_sign r6) fun r7 => ?_
  conv=>lhs;whnf
  refine t_cond ?_ ?_
  ·conv=>lhs;whnf
   exact t_ret (by rfl)
  ·conv=>lhs;whnf
   refine t_call (h_impl_isOn a_0 a_1 b_0 b_1 c_0 c_1) fun r8 => ?_
   conv=>lhs;whnf
   refine t_cond ?_ ?_
   ·conv=>lhs;whnf
    exact t_ret (by rfl)
   ·conv=>lhs;whnf
    refine t_call (h_impl_isOn a_0 a_1 b_0 b_1 d_0 d_1) fun r9 => ?_
    conv=>lhs;whnf
    refine t_cond ?_ ?_
    ·conv=>lhs;whnf
     exact t_ret (by rfl)
    ·conv=>lhs;whnf
     refine t_call (h_impl_isOn c_0 c_1 d_0 d_1 a_0 a_1) fun r10 => ?_
     conv=>lhs;whnf
     refine t_cond ?_ ?_
     ·conv=>lhs;whnf
      exact t_ret (by rfl)
     ·conv=>lhs;whnf
      refine t_call (h_impl_isOn c_0 c_1 d_0 d_1 b_0 b_1) fun r11 => ?_
      conv=>lhs;whnf
      exact t_ret (by rfl)
 ·conv=>lhs;whnf
  refine t_call (h_impl_isOn a_0 a_1 b_0 b_1 c_0 c_1) fun r12 => ?_
  conv=>lhs;whnf
  refine t_cond ?_ ?_
  ·conv=>lhs;whnf
   exact t_ret (by rfl)
  ·conv=>lhs;whnf
   refine t_call (h_impl_isOn a_0 a_1 b_0 b_1 d_0 d_1) fun r13 => ?_
   conv=>lhs;whnf
   refine t_cond ?_ ?_
   ·conv=>lhs;whnf
    exact t_ret (by rfl)
   ·conv=>lhs;whnf
    refine t_call (h_impl_isOn c_0 c_1 d_0 d_1 a_0 a_1) fun r14 => ?_
    conv=>lhs;whnf
    refine t_cond ?_ ?_
    ·conv=>lhs;whnf
     exact t_ret (by rfl)
    ·conv=>lhs;whnf
     refine t_call (h_impl_isOn c_0 c_1 d_0 d_1 b_0 b_1) fun r15 => ?_
     conv=>lhs;whnf
     exact t_ret (by rfl)
noncomputable def impl_IsPolygon_l1 (L : Nat) (κ0 : (List Pt) → Int → (List Pt) → Int → Int → Option Bool) (v0 : List Pt) (v3 : Int) (v17 : List Pt) (v18 : Int) (v19 : Int) (p : Pt) : Nat → Int → Option Bool
  | 0, _ => none
  | m1 + 1, v43 => bif ilt v43 v19 then (bif ieq (wr .i64 (iadd v43 1)) v19 then (impl_IsPolygon_l1 L κ0 v0 v3 v17 v18 v19 p m1 (wr .i64 (iadd v43 1))) else (bif ieq (wr .i64 (iadd v19 1)) v3 then (bif ieq v43 0 then (impl_IsPolygon_l1 L κ0 v0 v3 v17 v18 v19 p m1 (wr .i64 (iadd v43 1))) else (gbind (lget v0 v43) fun p1 => gbind (lget v0 (wr .i64 (iadd v43 1))) fun p2 => gbind (impl_at L v0 (wr .i64 (iadd v19 1))) fun r6 => gbind (impl_meet L p1.x p1.y p2.x p2.y p.x p.y r6.1 r6.2) fun r7 => bif r7 then (some false) else (impl_IsPolygon_l1 L κ0 v0 v3 v17 v18 v19 p m1 (wr .i64 (iadd v43 1))))) else (gbind (lget v0 v43) fun p3 => gbind (lget v0 (wr .i64 (iadd v43 1))) fun p4 => gbind (impl_at L v0 (wr .i64 (iadd v19 1))) fun r8 => gbind (impl_meet L p3.x p3.y p4.x p4.y p.x p.y r8.1 r8.2) fun r9 => bif r9 then (some false) else (impl_IsPolygon_l1 L κ0 v0 v3 v17 v18 v19 p m1 (wr .i64 (iadd v43 1)))))) else (κ0 v0 v3 v17 v18 (wr .i64 (iadd v19 1)))
noncomputable def impl_IsPolygon_l0 (L : Nat) : Nat → (List Pt) → Int → (List Pt) → Int → Int → Option Bool
  | 0, _, _, _, _, _ => none
  | m + 1, v0, v3, v17, v18, v19 => bif ilt v19 v18 then (gbind (lget v17 v19) fun p => bif ile 0 v19 && ile v19 (ilen (List.map ep v0)) then (gbind (slices_Contains_impl_Peg_impl_Peg L (lsub v0 0 v19) p.x p.y) fun r2 => bif r2 then (some false) else (gbind (impl_at L v0 (wr .i64 (isub v19 1))) fun r3 => gbind (impl_at L v0 (wr .i64 (iadd v19 1))) fun r4 => gbind (impl_turn L r3.1 r3.2 p.x p.y r4.1 r4.2) fun r5 => bif ieq r5 0 then (some false) else (impl_IsPolygon_l1 L (impl_IsPolygon_l0 L m) v0 v3 v17 v18 v19 p L 0))) else (none)) else (some true)
noncomputable def impl_IsPolygon (L : Nat) (a : List Pt) : Option (Bool) := gbind (impl_within L (ilen (List.map ep a)) 3 10) fun r => bif !r then (some false) else (gbind (impl_arePegs L a) fun r1 => bif !r1 then (some false) else (impl_IsPolygon_l0 L L a (ilen (List.map ep a)) a (ilen (List.map ep a)) 0))
def impl_IsPolygon_ok (L : Nat) (C : CF) : Prop := ∀ (oa : Bool) (ca : Bool) (x_a : List AV) (a : List Pt) (_ : x_a = List.map ep a), C 53 ([.lst oa ca 2 x_a]) ([]) = Option.map (fun r : Bool => ((.bool r, []) : AV × List Blk)) (impl_IsPolygon L a)
theorem impl_IsPolygon_run (L : Nat) (C : CF) (h_impl_within : impl_within_ok L C) (h_impl_arePegs : impl_arePegs_ok L C) (h_slices_Contains_impl_Peg_impl_Peg : slices_Contains_impl_Peg_impl_Peg_ok L C) (h_impl_at : impl_at_ok L C) (h_impl_turn : impl_turn_ok L C) (h_impl_meet : impl_meet_ok L C) : ∀ (oa : Bool) (ca : Bool) (x_a : List AV) (a : List Pt) (_ : x_a = List.map ep a), run T C sh (keep 53) L Tryz.f53 ([.lst oa ca 2 x_a]) ([]) = Option.map (fun r : Bool => ((.bool r, []) : AV × List Blk)) (impl_IsPolygon L a) := by
 intro oa ca x_a a hx_a
 subst hx_a
 unfold impl_IsPolygon
 conv=>lhs;whnf
 refine t_call (h_impl_within (ilen (List.map ep a)) 3 10) fun r => ?_
 conv=>lhs;whnf
 refine t_cond ?_ ?_
 ·conv=>lhs;whnf
  exact t_ret (by rfl)
 ·conv=>lhs;whnf
  refine t_call (h_impl_arePegs _ _ _ a (by rfl)) fun r1 => ?_
  conv=>lhs;whnf
  refine t_cond ?_ ?_
  ·conv=>lhs;whnf
   exact t_ret (by rfl)
  ·conv=>lhs;whnf
   refine t_loop (fun (⟨v0, v3, v17, v18, v19⟩ : (List Pt) × Int × (List Pt) × Int × Int) => (AV.lst oa ca 2 (List.map ep v0) :: topA 2 (AV.int .i64 v3 :: topA 13 (AV.lst oa ca 2 (List.map ep v17) :: AV.int .i64 v18 :: AV.int .i64 v19 :: tops 57)), [])) (fun m (⟨v0, v3, v17, v18, v19⟩ : (List Pt) × Int × (List Pt) × Int × Int) => impl_IsPolygon_l0 L m v0 v3 v17 v18 v19) (fun _ => rfl) (fun m s rec hrec => ?_) L ((a, ilen (List.map ep a), a, ilen (List.map ep a), 0)) ?_ ?_
   rotate_left
   ·rfl
   ·rfl
   obtain ⟨v0, v3, v17, v18, v19⟩ := s
   show _ = Option.map _ (impl_IsPolygon_l0 L (m + 1) v0 v3 v17 v18 v19)
   rw [impl_IsPolygon_l0.eq_2]
   conv=>lhs;whnf
   refine t_cond ?_ ?_
   ·conv=>lhs;whnf
    refine t_get (en := ep) (l := v17) (by rfl) fun p => ?_
    conv=>lhs;whnf
    refine t_cond ?_ ?_
    ·conv=>lhs;whnf
     refine t_call (h_slices_Contains_impl_Peg_impl_Peg _ _ _ (lsub v0 0 v19) (by first | rfl | simp only [ml] <;> rfl) p.x p.y) fun r2 => ?_
     conv=>lhs;whnf
     refine t_cond ?_ ?_
     ·conv=>lhs;whnf
      exact t_ret (by rfl)
     ·conv=>lhs;whnf
      refine t_call (h_impl_at _ _ _ v0 (by rfl) (wr .i64 (isub v19 1))) fun r3 => ?_
      conv=>lhs;whnf
      refine t_call (h_impl_at _ _ _ v0 (by rfl) (wr .i64 (iadd v19 1))) fun r4 => ?_
      conv=>lhs;whnf
      refine t_call (h_impl_turn r3.1 r3.2 p.x p.y r4.1 r4.2) fun r5 => ?_
      conv=>lhs;whnf
      refine t_cond ?_ ?_
      ·conv=>lhs;whnf
       exact t_ret (by rfl)
      ·conv=>lhs;whnf
       refine t_loop (fun (v43 : Int) => (AV.lst oa ca 2 (List.map ep v0) :: topA 2 (AV.int .i64 v3 :: AV.int .i64 v19 :: AV.ptr 0 0 0 2 :: topA 11 (AV.lst oa ca 2 (List.map ep v17) :: AV.int .i64 v18 :: AV.int .i64 v19 :: topA 22 (AV.int .i64 v19 :: AV.int .i64 v43 :: tops 33))), [Blk.box (AV.agg [AV.int .i64 p.x, AV.int .i64 p.y])])) (fun m1 (v43 : Int) => impl_IsPolygon_l1 L (impl_IsPolygon_l0 L m) v0 v3 v17 v18 v19 p m1 v43) (fun _ => rfl) (fun m1 v43 rec1 hrec1 => ?_) L 0 ?_ ?_
       rotate_left
       ·rfl
       ·rfl
       show _ = Option.map _ (impl_IsPolygon_l1 L (impl_IsPolygon_l0 L m) v0 v3 v17 v18 v19 p (m1 + 1) v43)
       rw [impl_IsPolygon_l1.eq_2]
       conv=>lhs;whnf
       refine t_cond ?_ ?_
       ·conv=>lhs;whnf
        refine t_cond ?_ ?_
        ·conv=>lhs;whnf
         exact hrec1 (wr .i64 (iadd v43 1)) _ _ (by rfl) (by rfl)
        ·conv=>lhs;whnf
         refine t_cond ?_ ?_
         ·conv=>lhs;whnf
          refine t_cond ?_ ?_
          ·conv=>lhs;whnf
           exact hrec1 (wr .i64 (iadd v43 1)) _ _ (by rfl) (by rfl)
          ·conv=>lhs;whnf
           refine t_get (en := ep) (l := v0) (by rfl) fun p1 => ?_
           conv=>lhs;whnf
           refine t_get (en := ep) (l := v0) (by rfl) fun p2 => ?_
           conv=>lhs;whnf
           refine t_call (h_impl_at _ _ _ v0 (by rfl) (wr .i64 (iadd v19 1))) fun r6 => ?_
           conv=>lhs;whnf
           refine t_call (h_impl_meet p1.x p1.y p2.x p2.y p.x p.y r6.1 r6.2) fun r7 => ?_
           conv=>lhs;whnf
           refine t_cond ?_ ?_
           ·conv=>lhs;whnf
            exact t_ret (by rfl)
           ·conv=>lhs;whnf
            exact hrec1 (wr .i64 (iadd v43 1)) _ _ (by rfl) (by rfl)
         ·conv=>lhs;whnf
          refine t_get (en := ep) (l := v0) (by rfl) fun p3 => ?_
          conv=>lhs;whnf
          refine t_get (en := ep) (l := v0) (by rfl) fun p4 => ?_
          conv=>lhs;whnf
          refine t_call (h_impl_at _ _ _ v0 (by rfl) (wr .i64 (iadd v19 1))) fun r8 => ?_
          conv=>lhs;whnf
          refine t_call (h_impl_meet p3.x p3.y p4.x p4.y p.x p.y r8.1 r8.2) fun r9 => ?_
          conv=>lhs;whnf
          refine t_cond ?_ ?_
          ·conv=>lhs;whnf
           exact t_ret (by rfl)
          ·conv=>lhs;whnf
           exact hrec1 (wr .i64 (iadd v43 1)) _ _ (by rfl) (by rfl)
       ·conv=>lhs;whnf
        exact hrec ((v0, v3, v17, v18, wr .i64 (iadd v19 1))) _ _ (by rfl) (by rfl)
    ·conv=>lhs;whnf
     exact t_none
   ·conv=>lhs;whnf
    exact t_ret (by rfl)
noncomputable def impl_isThree (L : Nat) (a : List Pt) : Option (Bool) := bif ieq (ilen (List.map ep a)) 3 then (gbind (impl_IsPolygon L a) fun r => some r) else (some false)
def impl_isThree_ok (L : Nat) (C : CF) : Prop := ∀ (oa : Bool) (ca : Bool) (x_a : List AV) (a : List Pt) (_ : x_a = List.map ep a), C 49 ([.lst oa ca 2 x_a]) ([]) = Option.map (fun r : Bool => ((.bool r, []) : AV × List Blk)) (impl_isThree L a)
theorem impl_isThree_run (L : Nat) (C : CF) (h_impl_IsPolygon : impl_IsPolygon_ok L C) : ∀ (oa : Bool) (ca : Bool) (x_a : List AV) (a : List Pt) (_ : x_a = List.map ep a), run T C sh (keep 49) L Tryz.f49 ([.lst oa ca 2 x_a]) ([]) = Option.map (fun r : Bool => ((.bool r, []) : AV × List Blk)) (impl_isThree L a) := by
 intro oa ca x_a a hx_a
 subst hx_a
 unfold impl_isThree
 conv=>lhs;whnf
 refine t_cond ?_ ?_
 ·conv=>lhs;whnf
  refine t_call (h_impl_IsPolygon _ _ _ a (by rfl)) fun r => ?_
  conv=>lhs;whnf
  exact t_ret (by rfl)
 ·conv=>lhs;whnf
  exact t_ret (by rfl)
noncomputable def impl_bezout_l0 (L : Nat) : Nat → Int → Int → Int → Int → Int → Int → Option (Int × Int × Int)
  | 0, _, _, _, _, _, _ => none
  | m + 1, v0, v1, v7, v8, v9, v10 => bif !ieq v1 0 then (bif ieq v1 0 then (none) else (impl_bezout_l0 L m v1 (wr .i64 (isub v0 (wr .i64 (imul (wr .i64 (iquo v0 v1)) v1)))) v9 v10 (wr .i64 (isub v7 (wr .i64 (imul (wr .i64 (iquo v0 v1)) v9)))) (wr .i64 (isub v8 (wr .i64 (imul (wr .i64 (iquo v0 v1)) v10)))))) else (some ((v0, v7, v8)))
noncomputable def impl_bezout (L : Nat) (a : Int) (b : Int) : Option (Int × Int × Int) := impl_bezout_l0 L L a b 1 0 0 1
def impl_bezout_ok (L : Nat) (C : CF) : Prop := ∀ (a : Int) (b : Int), C 111 ([.int .i64 a, .int .i64 b]) ([]) = Option.map (fun r : Int × Int × Int => ((.tup [.int .i64 (r.1), .int .i64 (r.2.1), .int .i64 (r.2.2)], []) : AV × List Blk)) (impl_bezout L a b)
theorem impl_bezout_run (L : Nat) (C : CF) : ∀ (a : Int) (b : Int), run T C sh (keep 111) L Tryz.f111 ([.int .i64 a, .int .i64 b]) ([]) = Option.map (fun r : Int × Int × Int => ((.tup [.int .i64 (r.1), .int .i64 (r.2.1), .int .i64 (r.2.2)], []) : AV × List Blk)) (impl_bezout L a b) := by
 intro a b
 unfold impl_bezout
 conv=>lhs;whnf
 refine t_loop (fun (⟨v0, v1, v7, v8, v9, v10⟩ : Int × Int × Int × Int × Int × Int) => (AV.int .i64 v0 :: AV.int .i64 v1 :: topA 5 (AV.int .i64 v7 :: AV.int .i64 v8 :: AV.int .i64 v9 :: AV.int .i64 v10 :: tops 27), [])) (fun m (⟨v0, v1, v7, v8, v9, v10⟩ : Int × Int × Int × Int × Int × Int) => impl_bezout_l0 L m v0 v1 v7 v8 v9 v10) (fun _ => rfl) (fun m s rec hrec => ?_) L ((a, b, 1, 0, 0, 1)) ?_ ?_
 rotate_left
 ·rfl
 ·rfl
 obtain ⟨v0, v1, v7, v8, v9, v10⟩ := s
 show _ = Option.map _ (impl_bezout_l0 L (m + 1) v0 v1 v7 v8 v9 v10)
 rw [impl_bezout_l0.eq_2]
 conv=>lhs;whnf
 refine t_cond ?_ ?_
 ·conv=>lhs;whnf
  refine t_cond ?_ ?_
  ·conv=>lhs;whnf
   exact t_none
  ·conv=>lhs;whnf
   exact hrec ((v1, wr .i64 (isub v0 (wr .i64 (imul (wr .i64 (iquo v0 v1)) v1))), v9, v10, wr .i64 (isub v7 (wr .i64 (imul (wr .i64 (iquo v0 v1)) v9))), wr .i64 (isub v8 (wr .i64 (imul (wr .i64 (iquo v0 v1)) v10))))) _ _ (by rfl) (by rfl)
 ·conv=>lhs;whnf
  exact t_ret (by rfl)
noncomputable def impl_Move_bring (L : Nat) (a_0 : Int) (a_1 : Int) (a_2 : Int) (a_3 : Int) (a_4 : Int) (a_5 : Int) (b_0 : Int) (b_1 : Int) : Option (Int × Int) := some ((wr .i64 (iadd (wr .i64 (iadd (wr .i64 (imul a_0 b_0)) (wr .i64 (imul a_1 b_1)))) a_4), wr .i64 (iadd (wr .i64 (iadd (wr .i64 (imul a_2 b_0)) (wr .i64 (imul a_3 b_1)))) a_5)))
def impl_Move_bring_ok (L : Nat) (C : CF) : Prop := ∀ (a_0 : Int) (a_1 : Int) (a_2 : Int) (a_3 : Int) (a_4 : Int) (a_5 : Int) (b_0 : Int) (b_1 : Int), C 85 ([.agg [.int .i64 a_0, .int .i64 a_1, .int .i64 a_2, .int .i64 a_3, .int .i64 a_4, .int .i64 a_5], .agg [.int .i64 b_0, .int .i64 b_1]]) ([]) = Option.map (fun r : Int × Int => ((.agg [.int .i64 (r.1), .int .i64 (r.2)], []) : AV × List Blk)) (impl_Move_bring L a_0 a_1 a_2 a_3 a_4 a_5 b_0 b_1)
theorem impl_Move_bring_run (L : Nat) (C : CF) : ∀ (a_0 : Int) (a_1 : Int) (a_2 : Int) (a_3 : Int) (a_4 : Int) (a_5 : Int) (b_0 : Int) (b_1 : Int), run T C sh (keep 85) L Tryz.f85 ([.agg [.int .i64 a_0, .int .i64 a_1, .int .i64 a_2, .int .i64 a_3, .int .i64 a_4, .int .i64 a_5], .agg [.int .i64 b_0, .int .i64 b_1]]) ([]) = Option.map (fun r : Int × Int => ((.agg [.int .i64 (r.1), .int .i64 (r.2)], []) : AV × List Blk)) (impl_Move_bring L a_0 a_1 a_2 a_3 a_4 a_5 b_0 b_1) := by
 intro a_0 a_1 a_2 a_3 a_4 a_5 b_0 b_1
 unfold impl_Move_bring
 conv=>lhs;whnf
 exact t_ret (by rfl)
noncomputable def impl_frame_l0 (L : Nat) (a : List Pt) (r : Int × Int) (r1 : Int × Int × Int) (r3 : Int × Int) : Nat → Int → (List Pt) → Option ((List Pt))
  | 0, _, _ => none
  | m + 1, v113, w1 => bif ilt v113 (ilen (List.map ep a)) then (gbind (lget a v113) fun p4 => gbind (lget a 0) fun p5 => gbind (impl_Peg_less L p4.x p4.y p5.x p5.y) fun r4 => gbind (impl_Move_bring L (wr .i64 (iadd (wr .i64 (isub 0 r1.2.1)) (wr .i64 (imul (wr .i64 (iquo (wr .i64 (isub (irem (wr .i64 (iadd (irem r3.1 (wr .i64 (isub 0 r3.2))) (wr .i64 (isub 0 r3.2)))) (wr .i64 (isub 0 r3.2))) r3.1)) (wr .i64 (isub 0 r3.2)))) (wr .i64 (isub 0 (wr .i64 (iquo (wr .i64 (isub 0 r.2)) (wr .i64 (isub 0 r1.1)))))))))) (wr .i64 (iadd (wr .i64 (isub 0 r1.2.2)) (wr .i64 (imul (wr .i64 (iquo (wr .i64 (isub (irem (wr .i64 (iadd (irem r3.1 (wr .i64 (isub 0 r3.2))) (wr .i64 (isub 0 r3.2)))) (wr .i64 (isub 0 r3.2))) r3.1)) (wr .i64 (isub 0 r3.2)))) (wr .i64 (isub 0 (wr .i64 (iquo r.1 (wr .i64 (isub 0 r1.1)))))))))) (wr .i64 (isub 0 (wr .i64 (iquo (wr .i64 (isub 0 r.2)) (wr .i64 (isub 0 r1.1)))))) (wr .i64 (isub 0 (wr .i64 (iquo r.1 (wr .i64 (isub 0 r1.1)))))) 0 0 r4.1 r4.2) fun r5 => bif fits (iadd (ilen (List.map ep w1)) (ilen [AV.agg [AV.int .i64 r5.1, AV.int .i64 r5.2]])) 16 then (impl_frame_l0 L a r r1 r3 m (wr .i64 (iadd v113 1)) (lcat w1 ({ x := r5.1, y := r5.2 } :: []))) else (none)) else (some w1)
noncomputable def impl_frame_l1 (L : Nat) (a : List Pt) (r : Int × Int) (r1 : Int × Int × Int) (r3 : Int × Int) : Nat → Int → (List Pt) → Option ((List Pt))
  | 0, _, _ => none
  | m1 + 1, v1131, w11 => bif ilt v1131 (ilen (List.map ep a)) then (gbind (lget a v1131) fun p6 => gbind (lget a 0) fun p7 => gbind (impl_Peg_less L p6.x p6.y p7.x p7.y) fun r6 => gbind (impl_Move_bring L (wr .i64 (iadd (wr .i64 (isub 0 r1.2.1)) (wr .i64 (imul (wr .i64 (iquo (wr .i64 (isub (irem (wr .i64 (iadd (irem r3.1 r3.2) r3.2)) r3.2) r3.1)) r3.2)) (wr .i64 (iquo (wr .i64 (isub 0 r.2)) (wr .i64 (isub 0 r1.1)))))))) (wr .i64 (iadd (wr .i64 (isub 0 r1.2.2)) (wr .i64 (imul (wr .i64 (iquo (wr .i64 (isub (irem (wr .i64 (iadd (irem r3.1 r3.2) r3.2)) r3.2) r3.1)) r3.2)) (wr .i64 (iquo r.1 (wr .i64 (isub 0 r1.1)))))))) (wr .i64 (iquo (wr .i64 (isub 0 r.2)) (wr .i64 (isub 0 r1.1)))) (wr .i64 (iquo r.1 (wr .i64 (isub 0 r1.1)))) 0 0 r6.1 r6.2) fun r7 => bif fits (iadd (ilen (List.map ep w11)) (ilen [AV.agg [AV.int .i64 r7.1, AV.int .i64 r7.2]])) 16 then (impl_frame_l1 L a r r1 r3 m1 (wr .i64 (iadd v1131 1)) (lcat w11 ({ x := r7.1, y := r7.2 } :: []))) else (none)) else (some w11)
noncomputable def impl_frame_l2 (L : Nat) (a : List Pt) (r : Int × Int) (r1 : Int × Int × Int) (r9 : Int × Int) : Nat → Int → (List Pt) → Option ((List Pt))
  | 0, _, _ => none
  | m2 + 1, v1132, w12 => bif ilt v1132 (ilen (List.map ep a)) then (gbind (lget a v1132) fun p10 => gbind (lget a 0) fun p11 => gbind (impl_Peg_less L p10.x p10.y p11.x p11.y) fun r10 => gbind (impl_Move_bring L (wr .i64 (iadd r1.2.1 (wr .i64 (imul (wr .i64 (iquo (wr .i64 (isub (irem (wr .i64 (iadd (irem r9.1 (wr .i64 (isub 0 r9.2))) (wr .i64 (isub 0 r9.2)))) (wr .i64 (isub 0 r9.2))) r9.1)) (wr .i64 (isub 0 r9.2)))) (wr .i64 (isub 0 (wr .i64 (iquo (wr .i64 (isub 0 r.2)) r1.1)))))))) (wr .i64 (iadd r1.2.2 (wr .i64 (imul (wr .i64 (iquo (wr .i64 (isub (irem (wr .i64 (iadd (irem r9.1 (wr .i64 (isub 0 r9.2))) (wr .i64 (isub 0 r9.2)))) (wr .i64 (isub 0 r9.2))) r9.1)) (wr .i64 (isub 0 r9.2)))) (wr .i64 (isub 0 (wr .i64 (iquo r.1 r1.1)))))))) (wr .i64 (isub 0 (wr .i64 (iquo (wr .i64 (isub 0 r.2)) r1.1)))) (wr .i64 (isub 0 (wr .i64 (iquo r.1 r1.1)))) 0 0 r10.1 r10.2) fun r11 => bif fits (iadd (ilen (List.map ep w12)) (ilen [AV.agg [AV.int .i64 r11.1, AV.int .i64 r11.2]])) 16 then (impl_frame_l2 L a r r1 r9 m2 (wr .i64 (iadd v1132 1)) (lcat w12 ({ x := r11.1, y := r11.2 } :: []))) else (none)) else (some w12)
noncomputable def impl_frame_l3 (L : Nat) (a : List Pt) (r : Int × Int) (r1 : Int × Int × Int) (r9 : Int × Int) : Nat → Int → (List Pt) → Option ((List Pt))
  | 0, _, _ => none
  | m3 + 1, v1133, w13 => bif ilt v1133 (ilen (List.map ep a)) then (gbind (lget a v1133) fun p12 => gbind (lget a 0) fun p13 => gbind (impl_Peg_less L p12.x p12.y p13.x p13.y) fun r12 => gbind (impl_Move_bring L (wr .i64 (iadd r1.2.1 (wr .i64 (imul (wr .i64 (iquo (wr .i64 (isub (irem (wr .i64 (iadd (irem r9.1 r9.2) r9.2)) r9.2) r9.1)) r9.2)) (wr .i64 (iquo (wr .i64 (isub 0 r.2)) r1.1)))))) (wr .i64 (iadd r1.2.2 (wr .i64 (imul (wr .i64 (iquo (wr .i64 (isub (irem (wr .i64 (iadd (irem r9.1 r9.2) r9.2)) r9.2) r9.1)) r9.2)) (wr .i64 (iquo r.1 r1.1)))))) (wr .i64 (iquo (wr .i64 (isub 0 r.2)) r1.1)) (wr .i64 (iquo r.1 r1.1)) 0 0 r12.1 r12.2) fun r13 => bif fits (iadd (ilen (List.map ep w13)) (ilen [AV.agg [AV.int .i64 r13.1, AV.int .i64 r13.2]])) 16 then (impl_frame_l3 L a r r1 r9 m3 (wr .i64 (iadd v1133 1)) (lcat w13 ({ x := r13.1, y := r13.2 } :: []))) else (none)) else (some w13)
noncomputable def impl_frame (L : Nat) (a : List Pt) : Option ((List Pt)) := gbind (lget a 1) fun p => gbind (lget a 0) fun p1 => gbind (impl_Peg_less L p.x p.y p1.x p1.y) fun r => gbind (impl_bezout L r.1 r.2) fun r1 => bif ilt r1.1 0 then (bif ieq (wr .i64 (isub 0 r1.1)) 0 then (none) else (bif ieq (wr .i64 (isub 0 r1.1)) 0 then (none) else (gbind (lget a 2) fun p2 => gbind (lget a 0) fun p3 => gbind (impl_Peg_less L p2.x p2.y p3.x p3.y) fun r2 => gbind (impl_Move_bring L (wr .i64 (isub 0 r1.2.1)) (wr .i64 (isub 0 r1.2.2)) (wr .i64 (iquo (wr .i64 (isub 0 r.2)) (wr .i64 (isub 0 r1.1)))) (wr .i64 (iquo r.1 (wr .i64 (isub 0 r1.1)))) 0 0 r2.1 r2.2) fun r3 => bif ilt r3.2 0 then (bif ieq (wr .i64 (isub 0 r3.2)) 0 then (none) else (bif ieq (wr .i64 (isub 0 r3.2)) 0 then (none) else (bif ieq (wr .i64 (isub 0 r3.2)) 0 then (none) else (bif ile 0 0 && ile 0 (ilen (List.map ep a)) && fits (ilen (List.map ep a)) 16 then (impl_frame_l0 L a r r1 r3 L 0 (lrep 0 ({ x := 0, y := 0 }))) else (none))))) else (bif ieq r3.2 0 then (none) else (bif ieq r3.2 0 then (none) else (bif ieq r3.2 0 then (none) else (bif ile 0 0 && ile 0 (ilen (List.map ep a)) && fits (ilen (List.map ep a)) 16 then (impl_frame_l1 L a r r1 r3 L 0 (lrep 0 ({ x := 0, y := 0 }))) else (none)))))))) else (bif ieq r1.1 0 then (none) else (bif ieq r1.1 0 then (none) else (gbind (lget a 2) fun p8 => gbind (lget a 0) fun p9 => gbind (impl_Peg_less L p8.x p8.y p9.x p9.y) fun r8 => gbind (impl_Move_bring L r1.2.1 r1.2.2 (wr .i64 (iquo (wr .i64 (isub 0 r.2)) r1.1)) (wr .i64 (iquo r.1 r1.1)) 0 0 r8.1 r8.2) fun r9 => bif ilt r9.2 0 then (bif ieq (wr .i64 (isub 0 r9.2)) 0 then (none) else (bif ieq (wr .i64 (isub 0 r9.2)) 0 then (none) else (bif ieq (wr .i64 (isub 0 r9.2)) 0 then (none) else (bif ile 0 0 && ile 0 (ilen (List.map ep a)) && fits (ilen (List.map ep a)) 16 then (impl_frame_l2 L a r r1 r9 L 0 (lrep 0 ({ x := 0, y := 0 }))) else (none))))) else (bif ieq r9.2 0 then (none) else (bif ieq r9.2 0 then (none) else (bif ieq r9.2 0 then (none) else (bif ile 0 0 && ile 0 (ilen (List.map ep a)) && fits (ilen (List.map ep a)) 16 then (impl_frame_l3 L a r r1 r9 L 0 (lrep 0 ({ x := 0, y := 0 }))) else (none))))))))
def impl_frame_ok (L : Nat) (C : CF) : Prop := ∀ (oa : Bool) (ca : Bool) (x_a : List AV) (a : List Pt) (_ : x_a = List.map ep a), C 73 ([.lst oa ca 2 x_a]) ([]) = Option.map (fun r : (List Pt) => ((.frs 2 (List.map ep r), []) : AV × List Blk)) (impl_frame L a)
theorem impl_frame_run (L : Nat) (C : CF) (h_impl_Peg_less : impl_Peg_less_ok L C) (h_impl_bezout : impl_bezout_ok L C) (h_impl_Move_bring : impl_Move_bring_ok L C) : ∀ (oa : Bool) (ca : Bool) (x_a : List AV) (a : List Pt) (_ : x_a = List.map ep a), run T C sh (keep 73) L Tryz.f73 ([.lst oa ca 2 x_a]) ([]) = Option.map (fun r : (List Pt) => ((.frs 2 (List.map ep r), []) : AV × List Blk)) (impl_frame L a) := by
 intro oa ca x_a a hx_a
 subst hx_a
 unfold impl_frame
 conv=>lhs;whnf
 refine t_get (en := ep) (l := a) (by rfl) fun p => ?_
 conv=>lhs;whnf
 refine t_get (en := ep) (l := a) (by rfl) fun p1 => ?_
 conv=>lhs;whnf
 refine t_call (h_impl_Peg_less p.x p.y p1.x p1.y) fun r => ?_
 conv=>lhs;whnf
 refine t_call (h_impl_bezout r.1 r.2) fun r1 => ?_
 conv=>lhs;whnf
 refine t_cond ?_ ?_
 ·conv=>lhs;whnf
  refine t_cond ?_ ?_
  ·conv=>lhs;whnf
   exact t_none
  ·conv=>lhs;whnf
   refine t_cond ?_ ?_
   ·conv=>lhs;whnf
    exact t_none
   ·conv=>lhs;whnf
    refine t_get (en := ep) (l := a) (by rfl) fun p2 => ?_
    conv=>lhs;whnf
    refine t_get (en := ep) (l := a) (by rfl) fun p3 => ?_
    conv=>lhs;whnf
    refine t_call (h_impl_Peg_less p2.x p2.y p3.x p3.y) fun r2 => ?_
    conv=>lhs;whnf
    refine t_call (h_impl_Move_bring (wr .i64 (isub 0 r1.2.1)) (wr .i64 (isub 0 r1.2.2)) (wr .i64 (iquo (wr .i64 (isub 0 r.2)) (wr .i64 (isub 0 r1.1)))) (wr .i64 (iquo r.1 (wr .i64 (isub 0 r1.1)))) 0 0 r2.1 r2.2) fun r3 => ?_
    conv=>lhs;whnf
    refine t_cond ?_ ?_
    ·conv=>lhs;whnf
     refine t_cond ?_ ?_
     ·conv=>lhs;whnf
      exact t_none
     ·conv=>lhs;whnf
      refine t_cond ?_ ?_
      ·conv=>lhs;whnf
       exact t_none
      ·conv=>lhs;whnf
       refine t_cond ?_ ?_
       ·conv=>lhs;whnf
        exact t_none
       ·conv=>lhs;whnf
        refine t_cond ?_ ?_
        ·conv=>lhs;whnf
         refine t_loop (fun (⟨v113, w1⟩ : Int × (List Pt)) => (AV.lst oa ca 2 (List.map ep a) :: topA 6 (AV.ptr 0 0 0 6 :: topA 3 (AV.own 1 2 none false :: topA 99 (AV.lst oa ca 2 (List.map ep a) :: AV.int .i64 (ilen (List.map ep a)) :: AV.int .i64 v113 :: tops 15))), [Blk.box (AV.agg [AV.int .i64 (wr .i64 (iadd (wr .i64 (isub 0 r1.2.1)) (wr .i64 (imul (wr .i64 (iquo (wr .i64 (isub (irem (wr .i64 (iadd (irem r3.1 (wr .i64 (isub 0 r3.2))) (wr .i64 (isub 0 r3.2)))) (wr .i64 (isub 0 r3.2))) r3.1)) (wr .i64 (isub 0 r3.2)))) (wr .i64 (isub 0 (wr .i64 (iquo (wr .i64 (isub 0 r.2)) (wr .i64 (isub 0 r1.1)))))))))), AV.int .i64 (wr .i64 (iadd (wr .i64 (isub 0 r1.2.2)) (wr .i64 (imul (wr .i64 (iquo (wr .i64 (isub (irem (wr .i64 (iadd (irem r3.1 (wr .i64 (isub 0 r3.2))) (wr .i64 (isub 0 r3.2)))) (wr .i64 (isub 0 r3.2))) r3.1)) (wr .i64 (isub 0 r3.2)))) (wr .i64 (isub 0 (wr .i64 (iquo r.1 (wr .i64 (isub 0 r1.1)))))))))), AV.int .i64 (wr .i64 (isub 0 (wr .i64 (iquo (wr .i64 (isub 0 r.2)) (wr .i64 (isub 0 r1.1)))))), AV.int .i64 (wr .i64 (isub 0 (wr .i64 (iquo r.1 (wr .i64 (isub 0 r1.1)))))), AV.int .i64 0, AV.int .i64 0]), Blk.rows Mode.live 2 (List.map ep w1)])) (fun m (⟨v113, w1⟩ : Int × (List Pt)) => impl_frame_l0 L a r r1 r3 m v113 w1) (fun _ => rfl) (fun m s rec hrec => ?_) L ((0, lrep 0 ({ x := 0, y := 0 }))) ?_ ?_
         rotate_left
         ·rfl
         ·first | rfl | simp only [ml] <;> rfl
         obtain ⟨v113, w1⟩ := s
         show _ = Option.map _ (impl_frame_l0 L a r r1 r3 (m + 1) v113 w1)
         rw [impl_frame_l0.eq_2]
         conv=>lhs;whnf
         refine t_cond ?_ ?_
         ·conv=>lhs;whnf
          refine t_get (en := ep) (l := a) (by rfl) fun p4 => ?_
          conv=>lhs;whnf
          refine t_get (en := ep) (l := a) (by rfl) fun p5 => ?_
          conv=>lhs;whnf
          refine t_call (h_impl_Peg_less p4.x p4.y p5.x p5.y) fun r4 => ?_
          conv=>lhs;whnf
          refine t_call (h_impl_Move_bring (wr .i64 (iadd (wr .i64 (isub 0 r1.2.1)) (wr .i64 (imul (wr .i64 (iquo (wr .i64 (isub (irem (wr .i64 (iadd (irem r3.1 (wr .i64 (isub 0 r3.2))) (wr .i64 (isub 0 r3.2)))) (wr .i64 (isub 0 r3.2))) r3.1)) (wr .i64 (isub 0 r3.2)))) (wr .i64 (isub 0 (wr .i64 (iquo (wr .i64 (isub 0 r.2)) (wr .i64 (isub 0 r1.1)))))))))) (wr .i64 (iadd (wr .i64 (isub 0 r1.2.2)) (wr .i64 (imul (wr .i64 (iquo (wr .i64 (isub (irem (wr .i64 (iadd (irem r3.1 (wr .i64 (isub 0 r3.2))) (wr .i64 (isub 0 r3.2)))) (wr .i64 (isub 0 r3.2))) r3.1)) (wr .i64 (isub 0 r3.2)))) (wr .i64 (isub 0 (wr .i64 (iquo r.1 (wr .i64 (isub 0 r1.1)))))))))) (wr .i64 (isub 0 (wr .i64 (iquo (wr .i64 (isub 0 r.2)) (wr .i64 (isub 0 r1.1)))))) (wr .i64 (isub 0 (wr .i64 (iquo r.1 (wr .i64 (isub 0 r1.1)))))) 0 0 r4.1 r4.2) fun r5 => ?_
          conv=>lhs;whnf
          refine t_cond ?_ ?_
          ·conv=>lhs;whnf
           exact hrec ((wr .i64 (iadd v113 1), lcat w1 ({ x := r5.1, y := r5.2 } :: []))) _ _ (by rfl) (by first | rfl | simp only [ml] <;> rfl)
          ·conv=>lhs;whnf
           exact t_none
         ·conv=>lhs;whnf
          exact t_ret (by rfl)
        ·conv=>lhs;whnf
         exact t_none
    ·conv=>lhs;whnf
     refine t_cond ?_ ?_
     ·conv=>lhs;whnf
      exact t_none
     ·conv=>lhs;whnf
      refine t_cond ?_ ?_
      ·conv=>lhs;whnf
       exact t_none
      ·conv=>lhs;whnf
       refine t_cond ?_ ?_
       ·conv=>lhs;whnf
        exact t_none
       ·conv=>lhs;whnf
        refine t_cond ?_ ?_
        ·conv=>lhs;whnf
         refine t_loop (fun (⟨v1131, w11⟩ : Int × (List Pt)) => (AV.lst oa ca 2 (List.map ep a) :: topA 6 (AV.ptr 0 0 0 6 :: topA 3 (AV.own 1 2 none false :: topA 99 (AV.lst oa ca 2 (List.map ep a) :: AV.int .i64 (ilen (List.map ep a)) :: AV.int .i64 v1131 :: tops 15))), [Blk.box (AV.agg [AV.int .i64 (wr .i64 (iadd (wr .i64 (isub 0 r1.2.1)) (wr .i64 (imul (wr .i64 (iquo (wr .i64 (isub (irem (wr .i64 (iadd (irem r3.1 r3.2) r3.2)) r3.2) r3.1)) r3.2)) (wr .i64 (iquo (wr .i64 (isub 0 r.2)) (wr .i64 (isub 0 r1.1)))))))), AV.int .i64 (wr .i64 (iadd (wr .i64 (isub 0 r1.2.2)) (wr .i64 (imul (wr .i64 (iquo (wr .i64 (isub (irem (wr .i64 (iadd (irem r3.1 r3.2) r3.2)) r3.2) r3.1)) r3.2)) (wr .i64 (iquo r.1 (wr .i64 (isub 0 r1.1)))))))), AV.int .i64 (wr .i64 (iquo (wr .i64 (isub 0 r.2)) (wr .i64 (isub 0 r1.1)))), AV.int .i64 (wr .i64 (iquo r.1 (wr .i64 (isub 0 r1.1)))), AV.int .i64 0, AV.int .i64 0]), Blk.rows Mode.live 2 (List.map ep w11)])) (fun m1 (⟨v1131, w11⟩ : Int × (List Pt)) => impl_frame_l1 L a r r1 r3 m1 v1131 w11) (fun _ => rfl) (fun m1 s1 rec1 hrec1 => ?_) L ((0, lrep 0 ({ x := 0, y := 0 }))) ?_ ?_
         rotate_left
         ·rfl
         ·first | rfl | simp only [ml] <;> rfl
         obtain ⟨v1131, w11⟩ := s1
         show _ = Option.map _ (impl_frame_l1 L a r r1 r3 (m1 + 1) v1131 w11)
         rw [impl_frame_l1.eq_2]
         conv=>lhs;whnf
         refine t_cond ?_ ?_
         ·conv=>lhs;whnf
          refine t_get (en := ep) (l := a) (by rfl) fun p6 => ?_
          conv=>lhs;whnf
          refine t_get (en := ep) (l := a) (by rfl) fun p7 => ?_
          conv=>lhs;whnf
          refine t_call (h_impl_Peg_less p6.x p6.y p7.x p7.y) fun r6 => ?_
          conv=>lhs;whnf
          refine t_call (h_impl_Move_bring (wr .i64 (iadd (wr .i64 (isub 0 r1.2.1)) (wr .i64 (imul (wr .i64 (iquo (wr .i64 (isub (irem (wr .i64 (iadd (irem r3.1 r3.2) r3.2)) r3.2) r3.1)) r3.2)) (wr .i64 (iquo (wr .i64 (isub 0 r.2)) (wr .i64 (isub 0 r1.1)))))))) (wr .i64 (iadd (wr .i64 (isub 0 r1.2.2)) (wr .i64 (imul (wr .i64 (iquo (wr .i64 (isub (irem (wr .i64 (iadd (irem r3.1 r3.2) r3.2)) r3.2) r3.1)) r3.2)) (wr .i64 (iquo r.1 (wr .i64 (isub 0 r1.1)))))))) (wr .i64 (iquo (wr .i64 (isub 0 r.2)) (wr .i64 (isub 0 r1.1)))) (wr .i64 (iquo r.1 (wr .i64 (isub 0 r1.1)))) 0 0 r6.1 r6.2) fun r7 => ?_
          conv=>lhs;whnf
          refine t_cond ?_ ?_
          ·conv=>lhs;whnf
           exact hrec1 ((wr .i64 (iadd v1131 1), lcat w11 ({ x := r7.1, y := r7.2 } :: []))) _ _ (by rfl) (by first | rfl | simp only [ml] <;> rfl)
          ·conv=>lhs;whnf
           exact t_none
         ·conv=>lhs;whnf
          exact t_ret (by rfl)
        ·conv=>lhs;whnf
         exact t_none
 ·conv=>lhs;whnf
  refine t_cond ?_ ?_
  ·conv=>lhs;whnf
   exact t_none
  ·conv=>lhs;whnf
   refine t_cond ?_ ?_
   ·conv=>lhs;whnf
    exact t_none
   ·conv=>lhs;whnf
    refine t_get (en := ep) (l := a) (by rfl) fun p8 => ?_
    conv=>lhs;whnf
    refine t_get (en := ep) (l := a) (by rfl) fun p9 => ?_
    conv=>lhs;whnf
    refine t_call (h_impl_Peg_less p8.x p8.y p9.x p9.y) fun r8 => ?_
    conv=>lhs;whnf
    refine t_call (h_impl_Move_bring r1.2.1 r1.2.2 (wr .i64 (iquo (wr .i64 (isub 0 r.2)) r1.1)) (wr .i64 (iquo r.1 r1.1)) 0 0 r8.1 r8.2) fun r9 => ?_
    conv=>lhs;whnf
    refine t_cond ?_ ?_
    ·conv=>lhs;whnf
     refine t_cond ?_ ?_
     ·conv=>lhs;whnf
      exact t_none
     ·conv=>lhs;whnf
      refine t_cond ?_ ?_
      ·conv=>lhs;whnf
       exact t_none
      ·conv=>lhs;whnf
       refine t_cond ?_ ?_
       ·conv=>lhs;whnf
        exact t_none
       ·conv=>lhs;whnf
        refine t_cond ?_ ?_
        ·conv=>lhs;whnf
         refine t_loop (fun (⟨v1132, w12⟩ : Int × (List Pt)) => (AV.lst oa ca 2 (List.map ep a) :: topA 6 (AV.ptr 0 0 0 6 :: topA 3 (AV.own 1 2 none false :: topA 99 (AV.lst oa ca 2 (List.map ep a) :: AV.int .i64 (ilen (List.map ep a)) :: AV.int .i64 v1132 :: tops 15))), [Blk.box (AV.agg [AV.int .i64 (wr .i64 (iadd r1.2.1 (wr .i64 (imul (wr .i64 (iquo (wr .i64 (isub (irem (wr .i64 (iadd (irem r9.1 (wr .i64 (isub 0 r9.2))) (wr .i64 (isub 0 r9.2)))) (wr .i64 (isub 0 r9.2))) r9.1)) (wr .i64 (isub 0 r9.2)))) (wr .i64 (isub 0 (wr .i64 (iquo (wr .i64 (isub 0 r.2)) r1.1)))))))), AV.int .i64 (wr .i64 (iadd r1.2.2 (wr .i64 (imul (wr .i64 (iquo (wr .i64 (isub (irem (wr .i64 (iadd (irem r9.1 (wr .i64 (isub 0 r9.2))) (wr .i64 (isub 0 r9.2)))) (wr .i64 (isub 0 r9.2))) r9.1)) (wr .i64 (isub 0 r9.2)))) (wr .i64 (isub 0 (wr .i64 (iquo r.1 r1.1)))))))), AV.int .i64 (wr .i64 (isub 0 (wr .i64 (iquo (wr .i64 (isub 0 r.2)) r1.1)))), AV.int .i64 (wr .i64 (isub 0 (wr .i64 (iquo r.1 r1.1)))), AV.int .i64 0, AV.int .i64 0]), Blk.rows Mode.live 2 (List.map ep w12)])) (fun m2 (⟨v1132, w12⟩ : Int × (List Pt)) => impl_frame_l2 L a r r1 r9 m2 v1132 w12) (fun _ => rfl) (fun m2 s2 rec2 hrec2 => ?_) L ((0, lrep 0 ({ x := 0, y := 0 }))) ?_ ?_
         rotate_left
         ·rfl
         ·first | rfl | simp only [ml] <;> rfl
         obtain ⟨v1132, w12⟩ := s2
         show _ = Option.map _ (impl_frame_l2 L a r r1 r9 (m2 + 1) v1132 w12)
         rw [impl_frame_l2.eq_2]
         conv=>lhs;whnf
         refine t_cond ?_ ?_
         ·conv=>lhs;whnf
          refine t_get (en := ep) (l := a) (by rfl) fun p10 => ?_
          conv=>lhs;whnf
          refine t_get (en := ep) (l := a) (by rfl) fun p11 => ?_
          conv=>lhs;whnf
          refine t_call (h_impl_Peg_less p10.x p10.y p11.x p11.y) fun r10 => ?_
          conv=>lhs;whnf
          refine t_call (h_impl_Move_bring (wr .i64 (iadd r1.2.1 (wr .i64 (imul (wr .i64 (iquo (wr .i64 (isub (irem (wr .i64 (iadd (irem r9.1 (wr .i64 (isub 0 r9.2))) (wr .i64 (isub 0 r9.2)))) (wr .i64 (isub 0 r9.2))) r9.1)) (wr .i64 (isub 0 r9.2)))) (wr .i64 (isub 0 (wr .i64 (iquo (wr .i64 (isub 0 r.2)) r1.1)))))))) (wr .i64 (iadd r1.2.2 (wr .i64 (imul (wr .i64 (iquo (wr .i64 (isub (irem (wr .i64 (iadd (irem r9.1 (wr .i64 (isub 0 r9.2))) (wr .i64 (isub 0 r9.2)))) (wr .i64 (isub 0 r9.2))) r9.1)) (wr .i64 (isub 0 r9.2)))) (wr .i64 (isub 0 (wr .i64 (iquo r.1 r1.1)))))))) (wr .i64 (isub 0 (wr .i64 (iquo (wr .i64 (isub 0 r.2)) r1.1)))) (wr .i64 (isub 0 (wr .i64 (iquo r.1 r1.1)))) 0 0 r10.1 r10.2) fun r11 => ?_
          conv=>lhs;whnf
          refine t_cond ?_ ?_
          ·conv=>lhs;whnf
           exact hrec2 ((wr .i64 (iadd v1132 1), lcat w12 ({ x := r11.1, y := r11.2 } :: []))) _ _ (by rfl) (by first | rfl | simp only [ml] <;> rfl)
          ·conv=>lhs;whnf
           exact t_none
         ·conv=>lhs;whnf
          exact t_ret (by rfl)
        ·conv=>lhs;whnf
         exact t_none
    ·conv=>lhs;whnf
     refine t_cond ?_ ?_
     ·conv=>lhs;whnf
      exact t_none
     ·conv=>lhs;whnf
      refine t_cond ?_ ?_
      ·conv=>lhs;whnf
       exact t_none
      ·conv=>lhs;whnf
       refine t_cond ?_ ?_
       ·conv=>lhs;whnf
        exact t_none
       ·conv=>lhs;whnf
        refine t_cond ?_ ?_
        ·conv=>lhs;whnf
         refine t_loop (fun (⟨v1133, w13⟩ : Int × (List Pt)) => (AV.lst oa ca 2 (List.map ep a) :: topA 6 (AV.ptr 0 0 0 6 :: topA 3 (AV.own 1 2 none false :: topA 99 (AV.lst oa ca 2 (List.map ep a) :: AV.int .i64 (ilen (List.map ep a)) :: AV.int .i64 v1133 :: tops 15))), [Blk.box (AV.agg [AV.int .i64 (wr .i64 (iadd r1.2.1 (wr .i64 (imul (wr .i64 (iquo (wr .i64 (isub (irem (wr .i64 (iadd (irem r9.1 r9.2) r9.2)) r9.2) r9.1)) r9.2)) (wr .i64 (iquo (wr .i64 (isub 0 r.2)) r1.1)))))), AV.int .i64 (wr .i64 (iadd r1.2.2 (wr .i64 (imul (wr .i64 (iquo (wr .i64 (isub (irem (wr .i64 (iadd (irem r9.1 r9.2) r9.2)) r9.2) r9.1)) r9.2)) (wr .i64 (iquo r.1 r1.1)))))), AV.int .i64 (wr .i64 (iquo (wr .i64 (isub 0 r.2)) r1.1)), AV.int .i64 (wr .i64 (iquo r.1 r1.1)), AV.int .i64 0, AV.int .i64 0]), Blk.rows Mode.live 2 (List.map ep w13)])) (fun m3 (⟨v1133, w13⟩ : Int × (List Pt)) => impl_frame_l3 L a r r1 r9 m3 v1133 w13) (fun _ => rfl) (fun m3 s3 rec3 hrec3 => ?_) L ((0, lrep 0 ({ x := 0, y := 0 }))) ?_ ?_
         rotate_left
         ·rfl
         ·first | rfl | simp only [ml] <;> rfl
         obtain ⟨v1133, w13⟩ := s3
         show _ = Option.map _ (impl_frame_l3 L a r r1 r9 (m3 + 1) v1133 w13)
         rw [impl_frame_l3.eq_2]
         conv=>lhs;whnf
         refine t_cond ?_ ?_
         ·conv=>lhs;whnf
          refine t_get (en := ep) (l := a) (by rfl) fun p12 => ?_
          conv=>lhs;whnf
          refine t_get (en := ep) (l := a) (by rfl) fun p13 => ?_
          conv=>lhs;whnf
          refine t_call (h_impl_Peg_less p12.x p12.y p13.x p13.y) fun r12 => ?_
          conv=>lhs;whnf
          refine t_call (h_impl_Move_bring (wr .i64 (iadd r1.2.1 (wr .i64 (imul (wr .i64 (iquo (wr .i64 (isub (irem (wr .i64 (iadd (irem r9.1 r9.2) r9.2)) r9.2) r9.1)) r9.2)) (wr .i64 (iquo (wr .i64 (isub 0 r.2)) r1.1)))))) (wr .i64 (iadd r1.2.2 (wr .i64 (imul (wr .i64 (iquo (wr .i64 (isub (irem (wr .i64 (iadd (irem r9.1 r9.2) r9.2)) r9.2) r9.1)) r9.2)) (wr .i64 (iquo r.1 r1.1)))))) (wr .i64 (iquo (wr .i64 (isub 0 r.2)) r1.1)) (wr .i64 (iquo r.1 r1.1)) 0 0 r12.1 r12.2) fun r13 => ?_
          conv=>lhs;whnf
          refine t_cond ?_ ?_
          ·conv=>lhs;whnf
           exact hrec3 ((wr .i64 (iadd v1133 1), lcat w13 ({ x := r13.1, y := r13.2 } :: []))) _ _ (by rfl) (by first | rfl | simp only [ml] <;> rfl)
          ·conv=>lhs;whnf
           exact t_none
         ·conv=>lhs;whnf
          exact t_ret (by rfl)
        ·conv=>lhs;whnf
         exact t_none
noncomputable def impl_told_l0 (L : Nat) (a : List Pt) (b : Int) (c : Int) : Nat → Int → (List Pt) → Option ((List Pt))
  | 0, _, _ => none
  | m + 1, v14, w0 => bif ilt v14 (ilen (List.map ep a)) then (gbind (impl_at L a (wr .i64 (iadd b (wr .i64 (imul v14 c))))) fun r => bif fits (iadd (ilen (List.map ep w0)) (ilen [AV.agg [AV.int .i64 r.1, AV.int .i64 r.2]])) 16 then (impl_told_l0 L a b c m (wr .i64 (iadd v14 1)) (lcat w0 ({ x := r.1, y := r.2 } :: []))) else (none)) else (some w0)
noncomputable def impl_told (L : Nat) (a : List Pt) (b : Int) (c : Int) : Option ((List Pt)) := bif ile 0 0 && ile 0 (ilen (List.map ep a)) && fits (ilen (List.map ep a)) 16 then (impl_told_l0 L a b c L 0 (lrep 0 ({ x := 0, y := 0 }))) else (none)
def impl_told_ok (L : Nat) (C : CF) : Prop := ∀ (oa : Bool) (ca : Bool) (x_a : List AV) (a : List Pt) (_ : x_a = List.map ep a) (b : Int) (c : Int), C 74 ([.lst oa ca 2 x_a, .int .i64 b, .int .i64 c]) ([]) = Option.map (fun r : (List Pt) => ((.frs 2 (List.map ep r), []) : AV × List Blk)) (impl_told L a b c)
theorem impl_told_run (L : Nat) (C : CF) (h_impl_at : impl_at_ok L C) : ∀ (oa : Bool) (ca : Bool) (x_a : List AV) (a : List Pt) (_ : x_a = List.map ep a) (b : Int) (c : Int), run T C sh (keep 74) L Tryz.f74 ([.lst oa ca 2 x_a, .int .i64 b, .int .i64 c]) ([]) = Option.map (fun r : (List Pt) => ((.frs 2 (List.map ep r), []) : AV × List Blk)) (impl_told L a b c) := by
 intro oa ca x_a a hx_a b c
 subst hx_a
 unfold impl_told
 conv=>lhs;whnf
 refine t_cond ?_ ?_
 ·conv=>lhs;whnf
  refine t_loop (fun (⟨v14, w0⟩ : Int × (List Pt)) => (AV.lst oa ca 2 (List.map ep a) :: AV.int .i64 b :: AV.int .i64 c :: topA 4 (AV.own 0 2 none false :: topA 5 (AV.int .i64 (ilen (List.map ep a)) :: AV.int .i64 v14 :: tops 14)), [Blk.rows Mode.live 2 (List.map ep w0)])) (fun m (⟨v14, w0⟩ : Int × (List Pt)) => impl_told_l0 L a b c m v14 w0) (fun _ => rfl) (fun m s rec hrec => ?_) L ((0, lrep 0 ({ x := 0, y := 0 }))) ?_ ?_
  rotate_left
  ·rfl
  ·first | rfl | simp only [ml] <;> rfl
  obtain ⟨v14, w0⟩ := s
  show _ = Option.map _ (impl_told_l0 L a b c (m + 1) v14 w0)
  rw [impl_told_l0.eq_2]
  conv=>lhs;whnf
  refine t_cond ?_ ?_
  ·conv=>lhs;whnf
   refine t_call (h_impl_at _ _ _ a (by rfl) (wr .i64 (iadd b (wr .i64 (imul v14 c))))) fun r => ?_
   conv=>lhs;whnf
   refine t_cond ?_ ?_
   ·conv=>lhs;whnf
    exact hrec ((wr .i64 (iadd v14 1), lcat w0 ({ x := r.1, y := r.2 } :: []))) _ _ (by rfl) (by first | rfl | simp only [ml] <;> rfl)
   ·conv=>lhs;whnf
    exact t_none
  ·conv=>lhs;whnf
   exact t_ret (by rfl)
 ·conv=>lhs;whnf
  exact t_none
noncomputable def cmp_isNaN_int (L : Nat) (a : Int) : Option (Bool) := some (!ieq a a)
def cmp_isNaN_int_ok (L : Nat) (C : CF) : Prop := ∀ (a : Int), C 175 ([.int .i64 a]) ([]) = Option.map (fun r : Bool => ((.bool r, []) : AV × List Blk)) (cmp_isNaN_int L a)
theorem cmp_isNaN_int_run (L : Nat) (C : CF) : ∀ (a : Int), run T C sh (keep 175) L Tryz.f175 ([.int .i64 a]) ([]) = Option.map (fun r : Bool => ((.bool r, []) : AV × List Blk)) (cmp_isNaN_int L a) := by
 intro a
 unfold cmp_isNaN_int
 conv=>lhs;whnf
 exact t_ret (by rfl)
noncomputable def cmp_Compare_int (L : Nat) (a : Int) (b : Int) : Option (Int) := gbind (cmp_isNaN_int L a) fun r => gbind (cmp_isNaN_int L b) fun r1 => bif r then (bif r1 then (some 0) else (some (-1))) else (bif r1 then (some 1) else (bif ilt a b then (some (-1)) else (bif ilt b a then (some 1) else (some 0))))
def cmp_Compare_int_ok (L : Nat) (C : CF) : Prop := ∀ (a : Int) (b : Int), C 160 ([.int .i64 a, .int .i64 b]) ([]) = Option.map (fun r : Int => ((.int .i64 r, []) : AV × List Blk)) (cmp_Compare_int L a b)
theorem cmp_Compare_int_run (L : Nat) (C : CF) (h_cmp_isNaN_int : cmp_isNaN_int_ok L C) : ∀ (a : Int) (b : Int), run T C sh (keep 160) L Tryz.f160 ([.int .i64 a, .int .i64 b]) ([]) = Option.map (fun r : Int => ((.int .i64 r, []) : AV × List Blk)) (cmp_Compare_int L a b) := by
 intro a b
 unfold cmp_Compare_int
 conv=>lhs;whnf
 refine t_call (h_cmp_isNaN_int a) fun r => ?_
 conv=>lhs;whnf
 refine t_call (h_cmp_isNaN_int b) fun r1 => ?_
 conv=>lhs;whnf
 refine t_cond ?_ ?_
 ·conv=>lhs;whnf
  refine t_cond ?_ ?_
  ·conv=>lhs;whnf
   exact t_ret (by rfl)
  ·conv=>lhs;whnf
   exact t_ret (by rfl)
 ·conv=>lhs;whnf
  refine t_cond ?_ ?_
  ·conv=>lhs;whnf
   exact t_ret (by rfl)
  ·conv=>lhs;whnf
   refine t_cond ?_ ?_
   ·conv=>lhs;whnf
    exact t_ret (by rfl)
   ·conv=>lhs;whnf
    refine t_cond ?_ ?_
    ·conv=>lhs;whnf
     exact t_ret (by rfl)
    ·conv=>lhs;whnf
     exact t_ret (by rfl)
noncomputable def cmp_Or_int_l0 (L : Nat) (a : List Int) : Nat → Int → Option Int
  | 0, _ => none
  | m + 1, v8 => bif ilt v8 (ilen (List.map eI a)) then (gbind (lget a v8) fun p => bif !ieq p 0 then (some p) else (cmp_Or_int_l0 L a m (wr .i64 (iadd v8 1)))) else (some 0)
noncomputable def cmp_Or_int (L : Nat) (a : List Int) : Option (Int) := cmp_Or_int_l0 L a L 0
def cmp_Or_int_ok (L : Nat) (C : CF) : Prop := ∀ (oa : Bool) (ca : Bool) (x_a : List AV) (a : List Int) (_ : x_a = List.map eI a), C 159 ([.lst oa ca 1 x_a]) ([]) = Option.map (fun r : Int => ((.int .i64 r, []) : AV × List Blk)) (cmp_Or_int L a)
theorem cmp_Or_int_run (L : Nat) (C : CF) : ∀ (oa : Bool) (ca : Bool) (x_a : List AV) (a : List Int) (_ : x_a = List.map eI a), run T C sh (keep 159) L Tryz.f159 ([.lst oa ca 1 x_a]) ([]) = Option.map (fun r : Int => ((.int .i64 r, []) : AV × List Blk)) (cmp_Or_int L a) := by
 intro oa ca x_a a hx_a
 subst hx_a
 unfold cmp_Or_int
 conv=>lhs;whnf
 refine t_loop (fun (v8 : Int) => (topA 3 (AV.int .i64 0 :: topA 2 (AV.lst oa ca 1 (List.map eI a) :: AV.int .i64 (ilen (List.map eI a)) :: AV.int .i64 v8 :: tops 9)), [])) (fun m (v8 : Int) => cmp_Or_int_l0 L a m v8) (fun _ => rfl) (fun m v8 rec hrec => ?_) L 0 ?_ ?_
 rotate_left
 ·rfl
 ·rfl
 show _ = Option.map _ (cmp_Or_int_l0 L a (m + 1) v8)
 rw [cmp_Or_int_l0.eq_2]
 conv=>lhs;whnf
 refine t_cond ?_ ?_
 ·conv=>lhs;whnf
  refine t_get (en := eI) (l := a) (by rfl) fun p => ?_
  conv=>lhs;whnf
  refine t_cond ?_ ?_
  ·conv=>lhs;whnf
   exact t_ret (by rfl)
  ·conv=>lhs;whnf
   exact hrec (wr .i64 (iadd v8 1)) _ _ (by rfl) (by rfl)
 ·conv=>lhs;whnf
  exact t_ret (by rfl)
noncomputable def impl_comparePegs (L : Nat) (a_0 : Int) (a_1 : Int) (b_0 : Int) (b_1 : Int) : Option (Int) := gbind (cmp_Compare_int L a_0 b_0) fun r => gbind (cmp_Compare_int L a_1 b_1) fun r1 => gbind (cmp_Or_int L (r :: (r1 :: []))) fun r2 => some r2
def impl_comparePegs_ok (L : Nat) (C : CF) : Prop := ∀ (a_0 : Int) (a_1 : Int) (b_0 : Int) (b_1 : Int), C 131 ([.agg [.int .i64 a_0, .int .i64 a_1], .agg [.int .i64 b_0, .int .i64 b_1]]) ([]) = Option.map (fun r : Int => ((.int .i64 r, []) : AV × List Blk)) (impl_comparePegs L a_0 a_1 b_0 b_1)
theorem impl_comparePegs_run (L : Nat) (C : CF) (h_cmp_Compare_int : cmp_Compare_int_ok L C) (h_cmp_Or_int : cmp_Or_int_ok L C) : ∀ (a_0 : Int) (a_1 : Int) (b_0 : Int) (b_1 : Int), run T C sh (keep 131) L Tryz.f131 ([.agg [.int .i64 a_0, .int .i64 a_1], .agg [.int .i64 b_0, .int .i64 b_1]]) ([]) = Option.map (fun r : Int => ((.int .i64 r, []) : AV × List Blk)) (impl_comparePegs L a_0 a_1 b_0 b_1) := by
 intro a_0 a_1 b_0 b_1
 unfold impl_comparePegs
 conv=>lhs;whnf
 refine t_call (h_cmp_Compare_int a_0 b_0) fun r => ?_
 conv=>lhs;whnf
 refine t_call (h_cmp_Compare_int a_1 b_1) fun r1 => ?_
 conv=>lhs;whnf
 refine t_call (h_cmp_Or_int _ _ _ (r :: (r1 :: [])) (by rfl)) fun r2 => ?_
 conv=>lhs;whnf
 exact t_ret (by rfl)
noncomputable def slices_CompareFunc_impl_Peg_impl_Peg_impl_Peg_impl_Peg_l0 (L : Nat) (a : List Pt) (b : List Pt) : Nat → Int → Option Int
  | 0, _ => none
  | m + 1, v13 => bif ilt v13 (ilen (List.map ep a)) then (gbind (lget a v13) fun p => bif ile (ilen (List.map ep b)) v13 then (some 1) else (gbind (lget b v13) fun p1 => gbind (impl_comparePegs L p.x p.y p1.x p1.y) fun r => bif !ieq r 0 then (some r) else (slices_CompareFunc_impl_Peg_impl_Peg_impl_Peg_impl_Peg_l0 L a b m (wr .i64 (iadd v13 1))))) else (bif ilt (ilen (List.map ep a)) (ilen (List.map ep b)) then (some (-1)) else (some 0))
noncomputable def slices_CompareFunc_impl_Peg_impl_Peg_impl_Peg_impl_Peg (L : Nat) (a : List Pt) (b : List Pt) : Option (Int) := slices_CompareFunc_impl_Peg_impl_Peg_impl_Peg_impl_Peg_l0 L a b L 0
def slices_CompareFunc_impl_Peg_impl_Peg_impl_Peg_impl_Peg_ok (L : Nat) (C : CF) : Prop := ∀ (o1 : Bool) (c1 : Bool) (x_a : List AV) (a : List Pt) (_ : x_a = List.map ep a) (o2 : Bool) (c2 : Bool) (x_b : List AV) (b : List Pt) (_ : x_b = List.map ep b), C 143 ([.lst o1 c1 2 x_a, .lst o2 c2 2 x_b, .fn 131 [] []]) ([]) = Option.map (fun r : Int => ((.int .i64 r, []) : AV × List Blk)) (slices_CompareFunc_impl_Peg_impl_Peg_impl_Peg_impl_Peg L a b)
theorem slices_CompareFunc_impl_Peg_impl_Peg_impl_Peg_impl_Peg_run (L : Nat) (C : CF) (h_impl_comparePegs : impl_comparePegs_ok L C) : ∀ (o1 : Bool) (c1 : Bool) (x_a : List AV) (a : List Pt) (_ : x_a = List.map ep a) (o2 : Bool) (c2 : Bool) (x_b : List AV) (b : List Pt) (_ : x_b = List.map ep b), run T C sh (keep 143) L Tryz.f143 ([.lst o1 c1 2 x_a, .lst o2 c2 2 x_b, .fn 131 [] []]) ([]) = Option.map (fun r : Int => ((.int .i64 r, []) : AV × List Blk)) (slices_CompareFunc_impl_Peg_impl_Peg_impl_Peg_impl_Peg L a b) := by
 intro o1 c1 x_a a hx_a o2 c2 x_b b hx_b
 subst hx_a
 subst hx_b
 unfold slices_CompareFunc_impl_Peg_impl_Peg_impl_Peg_impl_Peg
 conv=>lhs;whnf
 refine t_loop (fun (v13 : Int) => (AV.lst o1 c1 2 (List.map ep a) :: AV.lst o2 c2 2 (List.map ep b) :: AV.fn 131 [] [] :: topA 8 (AV.lst o1 c1 2 (List.map ep a) :: AV.int .i64 (ilen (List.map ep a)) :: AV.int .i64 v13 :: tops 25), [])) (fun m (v13 : Int) => slices_CompareFunc_impl_Peg_impl_Peg_impl_Peg_impl_Peg_l0 L a b m v13) (fun _ => rfl) (fun m v13 rec hrec => ?_) L 0 ?_ ?_
 rotate_left
 ·rfl
 ·rfl
 show _ = Option.map _ (slices_CompareFunc_impl_Peg_impl_Peg_impl_Peg_impl_Peg_l0 L a b (m + 1) v13)
 rw [slices_CompareFunc_impl_Peg_impl_Peg_impl_Peg_impl_Peg_l0.eq_2]
 conv=>lhs;whnf
 refine t_cond ?_ ?_
 ·conv=>lhs;whnf
  refine t_get (en := ep) (l := a) (by rfl) fun p => ?_
  conv=>lhs;whnf
  refine t_cond ?_ ?_
  ·conv=>lhs;whnf
   exact t_ret (by rfl)
  ·conv=>lhs;whnf
   refine t_get (en := ep) (l := b) (by rfl) fun p1 => ?_
   conv=>lhs;whnf
   refine t_call (h_impl_comparePegs p.x p.y p1.x p1.y) fun r => ?_
   conv=>lhs;whnf
   refine t_cond ?_ ?_
   ·conv=>lhs;whnf
    exact t_ret (by rfl)
   ·conv=>lhs;whnf
    exact hrec (wr .i64 (iadd v13 1)) _ _ (by rfl) (by rfl)
 ·conv=>lhs;whnf
  refine t_cond ?_ ?_
  ·conv=>lhs;whnf
   exact t_ret (by rfl)
  ·conv=>lhs;whnf
   exact t_ret (by rfl)
noncomputable def impl_comparePolygons (L : Nat) (a : List Pt) (b : List Pt) : Option (Int) := gbind (slices_CompareFunc_impl_Peg_impl_Peg_impl_Peg_impl_Peg L a b) fun r => some r
def impl_comparePolygons_ok (L : Nat) (C : CF) : Prop := ∀ (oa : Bool) (ca : Bool) (x_a : List AV) (a : List Pt) (_ : x_a = List.map ep a) (ob : Bool) (cb : Bool) (x_b : List AV) (b : List Pt) (_ : x_b = List.map ep b), C 103 ([.lst oa ca 2 x_a, .lst ob cb 2 x_b]) ([]) = Option.map (fun r : Int => ((.int .i64 r, []) : AV × List Blk)) (impl_comparePolygons L a b)
theorem impl_comparePolygons_run (L : Nat) (C : CF) (h_slices_CompareFunc_impl_Peg_impl_Peg_impl_Peg_impl_Peg : slices_CompareFunc_impl_Peg_impl_Peg_impl_Peg_impl_Peg_ok L C) : ∀ (oa : Bool) (ca : Bool) (x_a : List AV) (a : List Pt) (_ : x_a = List.map ep a) (ob : Bool) (cb : Bool) (x_b : List AV) (b : List Pt) (_ : x_b = List.map ep b), run T C sh (keep 103) L Tryz.f103 ([.lst oa ca 2 x_a, .lst ob cb 2 x_b]) ([]) = Option.map (fun r : Int => ((.int .i64 r, []) : AV × List Blk)) (impl_comparePolygons L a b) := by
 intro oa ca x_a a hx_a ob cb x_b b hx_b
 subst hx_a
 subst hx_b
 unfold impl_comparePolygons
 conv=>lhs;whnf
 refine t_call (h_slices_CompareFunc_impl_Peg_impl_Peg_impl_Peg_impl_Peg _ _ _ a (by rfl) _ _ _ b (by rfl)) fun r => ?_
 conv=>lhs;whnf
 exact t_ret (by rfl)
noncomputable def impl_firstFrame_l1 (L : Nat) (κ0 : (List Pt) → Int → Int → (List Pt) → Option ((List Pt))) (v0 : List Pt) (v11 : Int) (v12 : Int) : Nat → Int → (List Pt) → Option ((List Pt))
  | 0, _, _ => none
  | m1 + 1, v17, w01 => bif ilt v17 (ilen [AV.int .i64 1, AV.int .i64 (-1)]) then (bif ile 0 v17 && ilt v17 (ilen [AV.int .i64 1, AV.int .i64 (-1)]) then (gbind (lget (1 :: (-1 :: [])) v17) fun p => gbind (impl_told L v0 v12 p) fun r1 => gbind (impl_frame L r1) fun r2 => gbind (impl_comparePolygons L r2 w01) fun r3 => bif ilt r3 0 then (impl_firstFrame_l1 L κ0 v0 v11 v12 m1 (wr .i64 (iadd v17 1)) r2) else (impl_firstFrame_l1 L κ0 v0 v11 v12 m1 (wr .i64 (iadd v17 1)) w01)) else (none)) else (κ0 v0 v11 (wr .i64 (iadd v12 1)) w01)
noncomputable def impl_firstFrame_l0 (L : Nat) : Nat → (List Pt) → Int → Int → (List Pt) → Option ((List Pt))
  | 0, _, _, _, _ => none
  | m + 1, v0, v11, v12, w0 => bif ilt v12 v11 then (impl_firstFrame_l1 L (impl_firstFrame_l0 L m) v0 v11 v12 L 0 w0) else (some w0)
noncomputable def impl_firstFrame (L : Nat) (a : List Pt) : Option ((List Pt)) := gbind (impl_frame L a) fun r => impl_firstFrame_l0 L L a (ilen (List.map ep a)) 0 r
def impl_firstFrame_ok (L : Nat) (C : CF) : Prop := ∀ (oa : Bool) (ca : Bool) (x_a : List AV) (a : List Pt) (_ : x_a = List.map ep a), C 58 ([.lst oa ca 2 x_a]) ([]) = Option.map (fun r : (List Pt) => ((.frs 2 (List.map ep r), []) : AV × List Blk)) (impl_firstFrame L a)
theorem impl_firstFrame_run (L : Nat) (C : CF) (h_impl_frame : impl_frame_ok L C) (h_impl_told : impl_told_ok L C) (h_impl_comparePolygons : impl_comparePolygons_ok L C) : ∀ (oa : Bool) (ca : Bool) (x_a : List AV) (a : List Pt) (_ : x_a = List.map ep a), run T C sh (keep 58) L Tryz.f58 ([.lst oa ca 2 x_a]) ([]) = Option.map (fun r : (List Pt) => ((.frs 2 (List.map ep r), []) : AV × List Blk)) (impl_firstFrame L a) := by
 intro oa ca x_a a hx_a
 subst hx_a
 unfold impl_firstFrame
 conv=>lhs;whnf
 refine t_call (h_impl_frame _ _ _ a (by rfl)) fun r => ?_
 conv=>lhs;whnf
 refine t_loop (fun (⟨v0, v11, v12, w0⟩ : (List Pt) × Int × Int × (List Pt)) => (AV.lst oa ca 2 (List.map ep v0) :: topA 2 (AV.own 0 2 none false :: topA 7 (AV.int .i64 v11 :: AV.int .i64 v12 :: tops 21)), [Blk.rows Mode.live 2 (List.map ep w0)])) (fun m (⟨v0, v11, v12, w0⟩ : (List Pt) × Int × Int × (List Pt)) => impl_firstFrame_l0 L m v0 v11 v12 w0) (fun _ => rfl) (fun m s rec hrec => ?_) L ((a, ilen (List.map ep a), 0, r)) ?_ ?_
 rotate_left
 ·rfl
 ·rfl
 obtain ⟨v0, v11, v12, w0⟩ := s
 show _ = Option.map _ (impl_firstFrame_l0 L (m + 1) v0 v11 v12 w0)
 rw [impl_firstFrame_l0.eq_2]
 conv=>lhs;whnf
 refine t_cond ?_ ?_
 ·conv=>lhs;whnf
  refine t_loop (fun (⟨v17, w01⟩ : Int × (List Pt)) => (AV.lst oa ca 2 (List.map ep v0) :: topA 2 (AV.own 0 2 none false :: AV.int .i64 v12 :: topA 6 (AV.int .i64 v11 :: AV.int .i64 v12 :: topA 2 (AV.own 1 1 none false :: AV.int .i64 (ilen [AV.int .i64 1, AV.int .i64 (-1)]) :: AV.int .i64 v17 :: tops 16))), [Blk.rows Mode.live 2 (List.map ep w01), Blk.rows Mode.live 1 [AV.int .i64 1, AV.int .i64 (-1)]])) (fun m1 (⟨v17, w01⟩ : Int × (List Pt)) => impl_firstFrame_l1 L (impl_firstFrame_l0 L m) v0 v11 v12 m1 v17 w01) (fun _ => rfl) (fun m1 s1 rec1 hrec1 => ?_) L ((0, w0)) ?_ ?_
  rotate_left
  ·rfl
  ·rfl
  obtain ⟨v17, w01⟩ := s1
  show _ = Option.map _ (impl_firstFrame_l1 L (impl_firstFrame_l0 L m) v0 v11 v12 (m1 + 1) v17 w01)
  rw [impl_firstFrame_l1.eq_2]
  conv=>lhs;whnf
  refine t_cond ?_ ?_
  ·conv=>lhs;whnf
   refine t_cond ?_ ?_
   ·conv=>lhs;whnf
    refine t_get (en := eI) (l := 1 :: (-1 :: [])) (by rfl) fun p => ?_
    conv=>lhs;whnf
    refine t_call (h_impl_told _ _ _ v0 (by rfl) v12 p) fun r1 => ?_
    conv=>lhs;whnf
    refine t_call (h_impl_frame _ _ _ r1 (by rfl)) fun r2 => ?_
    conv=>lhs;whnf
    refine t_call (h_impl_comparePolygons _ _ _ r2 (by rfl) _ _ _ w01 (by rfl)) fun r3 => ?_
    conv=>lhs;whnf
    refine t_cond ?_ ?_
    ·conv=>lhs;whnf
     exact hrec1 ((wr .i64 (iadd v17 1), r2)) _ _ (by rfl) (by rfl)
    ·conv=>lhs;whnf
     exact hrec1 ((wr .i64 (iadd v17 1), w01)) _ _ (by rfl) (by rfl)
   ·conv=>lhs;whnf
    exact t_none
  ·conv=>lhs;whnf
   exact hrec ((v0, v11, wr .i64 (iadd v12 1), w01)) _ _ (by rfl) (by rfl)
 ·conv=>lhs;whnf
  exact t_ret (by rfl)
noncomputable def impl_kindOf (L : Nat) (a : List Pt) : Option ((List Int)) := gbind (impl_firstFrame L a) fun r => bif ile 0 1 && ilt 1 (ilen (List.map ep r)) then (gbind (lget r 1) fun p => bif ile 0 2 && ilt 2 (ilen (List.map ep r)) then (gbind (lget r 2) fun p1 => bif ile 0 2 && ilt 2 (ilen (List.map ep r)) then (gbind (lget r 2) fun p2 => some (p.x :: (p1.x :: (p2.y :: [])))) else (none)) else (none)) else (none)
def impl_kindOf_ok (L : Nat) (C : CF) : Prop := ∀ (oa : Bool) (ca : Bool) (x_a : List AV) (a : List Pt) (_ : x_a = List.map ep a), C 50 ([.lst oa ca 2 x_a]) ([]) = Option.map (fun r : (List Int) => ((.frs 1 (List.map eI r), []) : AV × List Blk)) (impl_kindOf L a)
theorem impl_kindOf_run (L : Nat) (C : CF) (h_impl_firstFrame : impl_firstFrame_ok L C) : ∀ (oa : Bool) (ca : Bool) (x_a : List AV) (a : List Pt) (_ : x_a = List.map ep a), run T C sh (keep 50) L Tryz.f50 ([.lst oa ca 2 x_a]) ([]) = Option.map (fun r : (List Int) => ((.frs 1 (List.map eI r), []) : AV × List Blk)) (impl_kindOf L a) := by
 intro oa ca x_a a hx_a
 subst hx_a
 unfold impl_kindOf
 conv=>lhs;whnf
 refine t_call (h_impl_firstFrame _ _ _ a (by rfl)) fun r => ?_
 conv=>lhs;whnf
 refine t_cond ?_ ?_
 ·conv=>lhs;whnf
  refine t_get (en := ep) (l := r) (by rfl) fun p => ?_
  conv=>lhs;whnf
  refine t_cond ?_ ?_
  ·conv=>lhs;whnf
   refine t_get (en := ep) (l := r) (by rfl) fun p1 => ?_
   conv=>lhs;whnf
   refine t_cond ?_ ?_
   ·conv=>lhs;whnf
    refine t_get (en := ep) (l := r) (by rfl) fun p2 => ?_
    conv=>lhs;whnf
    exact t_ret (by rfl)
   ·conv=>lhs;whnf
    exact t_none
  ·conv=>lhs;whnf
   exact t_none
 ·conv=>lhs;whnf
  exact t_none
noncomputable def impl_KindOfTriangle (L : Nat) (a : List Pt) : Option ((List Int) × Bool) := gbind (impl_isThree L a) fun r => bif !r then (some (([], false))) else (gbind (impl_kindOf L a) fun r1 => some ((r1, true)))
def impl_KindOfTriangle_ok (L : Nat) (C : CF) : Prop := ∀ (oa : Bool) (ca : Bool) (x_a : List AV) (a : List Pt) (_ : x_a = List.map ep a), C 8 ([.lst oa ca 2 x_a]) ([]) = Option.map (fun r : (List Int) × Bool => ((.tup [.frs 1 (List.map eI (r.1)), .bool (r.2)], []) : AV × List Blk)) (impl_KindOfTriangle L a)
theorem impl_KindOfTriangle_run (L : Nat) (C : CF) (h_impl_isThree : impl_isThree_ok L C) (h_impl_kindOf : impl_kindOf_ok L C) : ∀ (oa : Bool) (ca : Bool) (x_a : List AV) (a : List Pt) (_ : x_a = List.map ep a), run T C sh (keep 8) L Tryz.f8 ([.lst oa ca 2 x_a]) ([]) = Option.map (fun r : (List Int) × Bool => ((.tup [.frs 1 (List.map eI (r.1)), .bool (r.2)], []) : AV × List Blk)) (impl_KindOfTriangle L a) := by
 intro oa ca x_a a hx_a
 subst hx_a
 unfold impl_KindOfTriangle
 conv=>lhs;whnf
 refine t_call (h_impl_isThree _ _ _ a (by rfl)) fun r => ?_
 conv=>lhs;whnf
 refine t_cond ?_ ?_
 ·conv=>lhs;whnf
  exact t_ret (by rfl)
 ·conv=>lhs;whnf
  refine t_call (h_impl_kindOf _ _ _ a (by rfl)) fun r1 => ?_
  conv=>lhs;whnf
  exact t_ret (by rfl)
noncomputable def spec_mvThree (L : Nat) (a : List Pt) : Option (Bool) := bif ieq (ilen (List.map ep a)) 3 then (gbind (spec_pgGood L a) fun r => some r) else (some false)
def spec_mvThree_ok (L : Nat) (C : CF) : Prop := ∀ (oa : Bool) (ca : Bool) (x_a : List AV) (a : List Pt) (_ : x_a = List.map ep a), C 51 ([.lst oa ca 2 x_a]) ([]) = Option.map (fun r : Bool => ((.bool r, []) : AV × List Blk)) (spec_mvThree L a)
theorem spec_mvThree_run (L : Nat) (C : CF) (h_spec_pgGood : spec_pgGood_ok L C) : ∀ (oa : Bool) (ca : Bool) (x_a : List AV) (a : List Pt) (_ : x_a = List.map ep a), run T C sh (keep 51) L Tryz.f51 ([.lst oa ca 2 x_a]) ([]) = Option.map (fun r : Bool => ((.bool r, []) : AV × List Blk)) (spec_mvThree L a) := by
 intro oa ca x_a a hx_a
 subst hx_a
 unfold spec_mvThree
 conv=>lhs;whnf
 refine t_cond ?_ ?_
 ·conv=>lhs;whnf
  refine t_call (h_spec_pgGood _ _ _ a (by rfl)) fun r => ?_
  conv=>lhs;whnf
  exact t_ret (by rfl)
 ·conv=>lhs;whnf
  exact t_ret (by rfl)
noncomputable def spec_l1Most (L : Nat) (a : Int) (b : Int) : Option (Int) := bif ilt b a then (some a) else (some b)
def spec_l1Most_ok (L : Nat) (C : CF) : Prop := ∀ (a : Int) (b : Int), C 147 ([.int .i64 a, .int .i64 b]) ([]) = Option.map (fun r : Int => ((.int .i64 r, []) : AV × List Blk)) (spec_l1Most L a b)
theorem spec_l1Most_run (L : Nat) (C : CF) : ∀ (a : Int) (b : Int), run T C sh (keep 147) L Tryz.f147 ([.int .i64 a, .int .i64 b]) ([]) = Option.map (fun r : Int => ((.int .i64 r, []) : AV × List Blk)) (spec_l1Most L a b) := by
 intro a b
 unfold spec_l1Most
 conv=>lhs;whnf
 refine t_cond ?_ ?_
 ·conv=>lhs;whnf
  exact t_ret (by rfl)
 ·conv=>lhs;whnf
  exact t_ret (by rfl)
noncomputable def spec_l1Abs (L : Nat) (a : Int) : Option (Int) := gbind (spec_l1Most L a (wr .i64 (isub 0 a))) fun r => some r
def spec_l1Abs_ok (L : Nat) (C : CF) : Prop := ∀ (a : Int), C 112 ([.int .i64 a]) ([]) = Option.map (fun r : Int => ((.int .i64 r, []) : AV × List Blk)) (spec_l1Abs L a)
theorem spec_l1Abs_run (L : Nat) (C : CF) (h_spec_l1Most : spec_l1Most_ok L C) : ∀ (a : Int), run T C sh (keep 112) L Tryz.f112 ([.int .i64 a]) ([]) = Option.map (fun r : Int => ((.int .i64 r, []) : AV × List Blk)) (spec_l1Abs L a) := by
 intro a
 unfold spec_l1Abs
 conv=>lhs;whnf
 refine t_call (h_spec_l1Most a (wr .i64 (isub 0 a))) fun r => ?_
 conv=>lhs;whnf
 exact t_ret (by rfl)
noncomputable def spec_pgCommon_l0 (L : Nat) : Nat → Int → Int → Option Int
  | 0, _, _ => none
  | m + 1, v0, v1 => bif ilt 0 v1 then (bif ieq v1 0 then (none) else (spec_pgCommon_l0 L m v1 (irem v0 v1))) else (some v0)
noncomputable def spec_pgCommon (L : Nat) (a : Int) (b : Int) : Option (Int) := gbind (spec_l1Abs L a) fun r => gbind (spec_l1Abs L b) fun r1 => spec_pgCommon_l0 L L r r1
def spec_pgCommon_ok (L : Nat) (C : CF) : Prop := ∀ (a : Int) (b : Int), C 165 ([.int .i64 a, .int .i64 b]) ([]) = Option.map (fun r : Int => ((.int .i64 r, []) : AV × List Blk)) (spec_pgCommon L a b)
theorem spec_pgCommon_run (L : Nat) (C : CF) (h_spec_l1Abs : spec_l1Abs_ok L C) : ∀ (a : Int) (b : Int), run T C sh (keep 165) L Tryz.f165 ([.int .i64 a, .int .i64 b]) ([]) = Option.map (fun r : Int => ((.int .i64 r, []) : AV × List Blk)) (spec_pgCommon L a b) := by
 intro a b
 unfold spec_pgCommon
 conv=>lhs;whnf
 refine t_call (h_spec_l1Abs a) fun r => ?_
 conv=>lhs;whnf
 refine t_call (h_spec_l1Abs b) fun r1 => ?_
 conv=>lhs;whnf
 refine t_loop (fun (⟨v0, v1⟩ : Int × Int) => (AV.int .i64 v0 :: AV.int .i64 v1 :: tops 14, [])) (fun m (⟨v0, v1⟩ : Int × Int) => spec_pgCommon_l0 L m v0 v1) (fun _ => rfl) (fun m s rec hrec => ?_) L ((r, r1)) ?_ ?_
 rotate_left
 ·rfl
 ·rfl
 obtain ⟨v0, v1⟩ := s
 show _ = Option.map _ (spec_pgCommon_l0 L (m + 1) v0 v1)
 rw [spec_pgCommon_l0.eq_2]
 conv=>lhs;whnf
 refine t_cond ?_ ?_
 ·conv=>lhs;whnf
  refine t_cond ?_ ?_
  ·conv=>lhs;whnf
   exact t_none
  ·conv=>lhs;whnf
   exact hrec ((v1, irem v0 v1)) _ _ (by rfl) (by rfl)
 ·conv=>lhs;whnf
  exact t_ret (by rfl)
noncomputable def spec_mvFull_l0 (L : Nat) : Nat → Int → Int → Int → Int → Int → Int → Option (Int × Int)
  | 0, _, _, _, _, _, _ => none
  | m + 1, v0, v1, v6, v7, v8, v9 => bif !ieq v1 0 then (bif ieq v1 0 then (none) else (spec_mvFull_l0 L m v1 (wr .i64 (isub v0 (wr .i64 (imul (wr .i64 (iquo v0 v1)) v1)))) v8 v9 (wr .i64 (isub v6 (wr .i64 (imul (wr .i64 (iquo v0 v1)) v8)))) (wr .i64 (isub v7 (wr .i64 (imul (wr .i64 (iquo v0 v1)) v9)))))) else (bif ilt v0 0 then (some ((wr .i64 (isub 0 v6), wr .i64 (isub 0 v7)))) else (some ((v6, v7))))
noncomputable def spec_mvFull (L : Nat) (a : Int) (b : Int) : Option (Int × Int) := spec_mvFull_l0 L L a b 1 0 0 1
def spec_mvFull_ok (L : Nat) (C : CF) : Prop := ∀ (a : Int) (b : Int), C 166 ([.int .i64 a, .int .i64 b]) ([]) = Option.map (fun r : Int × Int => ((.tup [.int .i64 (r.1), .int .i64 (r.2)], []) : AV × List Blk)) (spec_mvFull L a b)
theorem spec_mvFull_run (L : Nat) (C : CF) : ∀ (a : Int) (b : Int), run T C sh (keep 166) L Tryz.f166 ([.int .i64 a, .int .i64 b]) ([]) = Option.map (fun r : Int × Int => ((.tup [.int .i64 (r.1), .int .i64 (r.2)], []) : AV × List Blk)) (spec_mvFull L a b) := by
 intro a b
 unfold spec_mvFull
 conv=>lhs;whnf
 refine t_loop (fun (⟨v0, v1, v6, v7, v8, v9⟩ : Int × Int × Int × Int × Int × Int) => (AV.int .i64 v0 :: AV.int .i64 v1 :: topA 4 (AV.int .i64 v6 :: AV.int .i64 v7 :: AV.int .i64 v8 :: AV.int .i64 v9 :: tops 38), [])) (fun m (⟨v0, v1, v6, v7, v8, v9⟩ : Int × Int × Int × Int × Int × Int) => spec_mvFull_l0 L m v0 v1 v6 v7 v8 v9) (fun _ => rfl) (fun m s rec hrec => ?_) L ((a, b, 1, 0, 0, 1)) ?_ ?_
 rotate_left
 ·rfl
 ·rfl
 obtain ⟨v0, v1, v6, v7, v8, v9⟩ := s
 show _ = Option.map _ (spec_mvFull_l0 L (m + 1) v0 v1 v6 v7 v8 v9)
 rw [spec_mvFull_l0.eq_2]
 conv=>lhs;whnf
 refine t_cond ?_ ?_
 ·conv=>lhs;whnf
  refine t_cond ?_ ?_
  ·conv=>lhs;whnf
   exact t_none
  ·conv=>lhs;whnf
   exact hrec ((v1, wr .i64 (isub v0 (wr .i64 (imul (wr .i64 (iquo v0 v1)) v1))), v8, v9, wr .i64 (isub v6 (wr .i64 (imul (wr .i64 (iquo v0 v1)) v8))), wr .i64 (isub v7 (wr .i64 (imul (wr .i64 (iquo v0 v1)) v9))))) _ _ (by rfl) (by rfl)
 ·conv=>lhs;whnf
  refine t_cond ?_ ?_
  ·conv=>lhs;whnf
   exact t_ret (by rfl)
  ·conv=>lhs;whnf
   exact t_ret (by rfl)
noncomputable def spec_mvPeg (L : Nat) (a_0 : Int) (a_1 : Int) (a_2 : Int) (a_3 : Int) (a_4 : Int) (a_5 : Int) (b_0 : Int) (b_1 : Int) : Option (Int × Int) := some ((wr .i64 (iadd (wr .i64 (iadd (wr .i64 (imul a_0 b_0)) (wr .i64 (imul a_1 b_1)))) a_4), wr .i64 (iadd (wr .i64 (iadd (wr .i64 (imul a_2 b_0)) (wr .i64 (imul a_3 b_1)))) a_5)))
def spec_mvPeg_ok (L : Nat) (C : CF) : Prop := ∀ (a_0 : Int) (a_1 : Int) (a_2 : Int) (a_3 : Int) (a_4 : Int) (a_5 : Int) (b_0 : Int) (b_1 : Int), C 113 ([.agg [.int .i64 a_0, .int .i64 a_1, .int .i64 a_2, .int .i64 a_3, .int .i64 a_4, .int .i64 a_5], .agg [.int .i64 b_0, .int .i64 b_1]]) ([]) = Option.map (fun r : Int × Int => ((.agg [.int .i64 (r.1), .int .i64 (r.2)], []) : AV × List Blk)) (spec_mvPeg L a_0 a_1 a_2 a_3 a_4 a_5 b_0 b_1)
theorem spec_mvPeg_run (L : Nat) (C : CF) : ∀ (a_0 : Int) (a_1 : Int) (a_2 : Int) (a_3 : Int) (a_4 : Int) (a_5 : Int) (b_0 : Int) (b_1 : Int), run T C sh (keep 113) L Tryz.f113 ([.agg [.int .i64 a_0, .int .i64 a_1, .int .i64 a_2, .int .i64 a_3, .int .i64 a_4, .int .i64 a_5], .agg [.int .i64 b_0, .int .i64 b_1]]) ([]) = Option.map (fun r : Int × Int => ((.agg [.int .i64 (r.1), .int .i64 (r.2)], []) : AV × List Blk)) (spec_mvPeg L a_0 a_1 a_2 a_3 a_4 a_5 b_0 b_1) := by
 intro a_0 a_1 a_2 a_3 a_4 a_5 b_0 b_1
 unfold spec_mvPeg
 conv=>lhs;whnf
 exact t_ret (by rfl)
noncomputable def spec_mvFrame_l0 (L : Nat) (a : List Pt) (p : Pt) (p1 : Pt) (p2 : Pt) (r : Int) (r1 : Int × Int) (r2 : Int × Int) : Nat → Int → (List Pt) → Option ((List Pt))
  | 0, _, _ => none
  | m + 1, v119, w2 => bif ilt v119 (ilen (List.map ep a)) then (gbind (lget a v119) fun p5 => gbind (spec_mvPeg L (wr .i64 (iadd r1.1 (wr .i64 (imul (wr .i64 (iquo (wr .i64 (isub (irem (wr .i64 (iadd (irem r2.1 (wr .i64 (isub 0 r2.2))) (wr .i64 (isub 0 r2.2)))) (wr .i64 (isub 0 r2.2))) r2.1)) (wr .i64 (isub 0 r2.2)))) (wr .i64 (isub 0 (wr .i64 (iquo (wr .i64 (isub 0 (wr .i64 (isub p2.y p.y)))) r)))))))) (wr .i64 (iadd r1.2 (wr .i64 (imul (wr .i64 (iquo (wr .i64 (isub (irem (wr .i64 (iadd (irem r2.1 (wr .i64 (isub 0 r2.2))) (wr .i64 (isub 0 r2.2)))) (wr .i64 (isub 0 r2.2))) r2.1)) (wr .i64 (isub 0 r2.2)))) (wr .i64 (isub 0 (wr .i64 (iquo (wr .i64 (isub p1.x p.x)) r)))))))) (wr .i64 (isub 0 (wr .i64 (iquo (wr .i64 (isub 0 (wr .i64 (isub p2.y p.y)))) r)))) (wr .i64 (isub 0 (wr .i64 (iquo (wr .i64 (isub p1.x p.x)) r)))) 0 0 (wr .i64 (isub p5.x p.x)) (wr .i64 (isub p5.y p.y))) fun r3 => bif fits (iadd (ilen (List.map ep w2)) (ilen [AV.agg [AV.int .i64 r3.1, AV.int .i64 r3.2]])) 16 then (spec_mvFrame_l0 L a p p1 p2 r r1 r2 m (wr .i64 (iadd v119 1)) (lcat w2 ({ x := r3.1, y := r3.2 } :: []))) else (none)) else (some w2)
noncomputable def spec_mvFrame_l1 (L : Nat) (a : List Pt) (p : Pt) (p1 : Pt) (p2 : Pt) (r : Int) (r1 : Int × Int) (r2 : Int × Int) : Nat → Int → (List Pt) → Option ((List Pt))
  | 0, _, _ => none
  | m1 + 1, v1191, w21 => bif ilt v1191 (ilen (List.map ep a)) then (gbind (lget a v1191) fun p6 => gbind (spec_mvPeg L (wr .i64 (iadd r1.1 (wr .i64 (imul (wr .i64 (iquo (wr .i64 (isub (irem (wr .i64 (iadd (irem r2.1 r2.2) r2.2)) r2.2) r2.1)) r2.2)) (wr .i64 (iquo (wr .i64 (isub 0 (wr .i64 (isub p2.y p.y)))) r)))))) (wr .i64 (iadd r1.2 (wr .i64 (imul (wr .i64 (iquo (wr .i64 (isub (irem (wr .i64 (iadd (irem r2.1 r2.2) r2.2)) r2.2) r2.1)) r2.2)) (wr .i64 (iquo (wr .i64 (isub p1.x p.x)) r)))))) (wr .i64 (iquo (wr .i64 (isub 0 (wr .i64 (isub p2.y p.y)))) r)) (wr .i64 (iquo (wr .i64 (isub p1.x p.x)) r)) 0 0 (wr .i64 (isub p6.x p.x)) (wr .i64 (isub p6.y p.y))) fun r4 => bif fits (iadd (ilen (List.map ep w21)) (ilen [AV.agg [AV.int .i64 r4.1, AV.int .i64 r4.2]])) 16 then (spec_mvFrame_l1 L a p p1 p2 r r1 r2 m1 (wr .i64 (iadd v1191 1)) (lcat w21 ({ x := r4.1, y := r4.2 } :: []))) else (none)) else (some w21)
noncomputable def spec_mvFrame (L : Nat) (a : List Pt) : Option ((List Pt)) := gbind (lget a 0) fun p => gbind (lget a 1) fun p1 => gbind (lget a 1) fun p2 => gbind (spec_pgCommon L (wr .i64 (isub p1.x p.x)) (wr .i64 (isub p2.y p.y))) fun r => gbind (spec_mvFull L (wr .i64 (isub p1.x p.x)) (wr .i64 (isub p2.y p.y))) fun r1 => bif ieq r 0 then (none) else (bif ieq r 0 then (none) else (gbind (lget a 2) fun p3 => gbind (lget a 2) fun p4 => gbind (spec_mvPeg L r1.1 r1.2 (wr .i64 (iquo (wr .i64 (isub 0 (wr .i64 (isub p2.y p.y)))) r)) (wr .i64 (iquo (wr .i64 (isub p1.x p.x)) r)) 0 0 (wr .i64 (isub p3.x p.x)) (wr .i64 (isub p4.y p.y))) fun r2 => bif ilt r2.2 0 then (bif ieq (wr .i64 (isub 0 r2.2)) 0 then (none) else (bif ieq (wr .i64 (isub 0 r2.2)) 0 then (none) else (bif ieq (wr .i64 (isub 0 r2.2)) 0 then (none) else (spec_mvFrame_l0 L a p p1 p2 r r1 r2 L 0 [])))) else (bif ieq r2.2 0 then (none) else (bif ieq r2.2 0 then (none) else (bif ieq r2.2 0 then (none) else (spec_mvFrame_l1 L a p p1 p2 r r1 r2 L 0 []))))))
def spec_mvFrame_ok (L : Nat) (C : CF) : Prop := ∀ (oa : Bool) (ca : Bool) (x_a : List AV) (a : List Pt) (_ : x_a = List.map ep a), C 149 ([.lst oa ca 2 x_a]) ([]) = Option.map (fun r : (List Pt) => ((.frs 2 (List.map ep r), []) : AV × List Blk)) (spec_mvFrame L a)
theorem spec_mvFrame_run (L : Nat) (C : CF) (h_spec_pgCommon : spec_pgCommon_ok L C) (h_spec_mvFull : spec_mvFull_ok L C) (h_spec_mvPeg : spec_mvPeg_ok L C) : ∀ (oa : Bool) (ca : Bool) (x_a : List AV) (a : List Pt) (_ : x_a = List.map ep a), run T C sh (keep 149) L Tryz.f149 ([.lst oa ca 2 x_a]) ([]) = Option.map (fun r : (List Pt) => ((.frs 2 (List.map ep r), []) : AV × List Blk)) (spec_mvFrame L a) := by
 intro oa ca x_a a hx_a
 subst hx_a
 unfold spec_mvFrame
 conv=>lhs;whnf
 refine t_get (en := ep) (l := a) (by rfl) fun p => ?_
 conv=>lhs;whnf
 refine t_get (en := ep) (l := a) (by rfl) fun p1 => ?_
 conv=>lhs;whnf
 refine t_get (en := ep) (l := a) (by rfl) fun p2 => ?_
 conv=>lhs;whnf
 refine t_call (h_spec_pgCommon (wr .i64 (isub p1.x p.x)) (wr .i64 (isub p2.y p.y))) fun r => ?_
 conv=>lhs;whnf
 refine t_call (h_spec_mvFull (wr .i64 (isub p1.x p.x)) (wr .i64 (isub p2.y p.y))) fun r1 => ?_
 conv=>lhs;whnf
 refine t_cond ?_ ?_
 ·conv=>lhs;whnf
  exact t_none
 ·conv=>lhs;whnf
  refine t_cond ?_ ?_
  ·conv=>lhs;whnf
   exact t_none
  ·conv=>lhs;whnf
   refine t_get (en := ep) (l := a) (by rfl) fun p3 => ?_
   conv=>lhs;whnf
   refine t_get (en := ep) (l := a) (by rfl) fun p4 => ?_
   conv=>lhs;whnf
   refine t_call (h_spec_mvPeg r1.1 r1.2 (wr .i64 (iquo (wr .i64 (isub 0 (wr .i64 (isub p2.y p.y)))) r)) (wr .i64 (iquo (wr .i64 (isub p1.x p.x)) r)) 0 0 (wr .i64 (isub p3.x p.x)) (wr .i64 (isub p4.y p.y))) fun r2 => ?_
   conv=>lhs;whnf
   refine t_cond ?_ ?_
   ·conv=>lhs;whnf
    refine t_cond ?_ ?_
    ·conv=>lhs;whnf
     exact t_none
    ·conv=>lhs;whnf
     refine t_cond ?_ ?_
     ·conv=>lhs;whnf
      exact t_none
     ·conv=>lhs;whnf
      refine t_cond ?_ ?_
      ·conv=>lhs;whnf
       exact t_none
      ·conv=>lhs;whnf
       refine t_loop (fun (⟨v119, w2⟩ : Int × (List Pt)) => (topA 3 (AV.ptr 0 0 0 2 :: topA 5 (AV.ptr 1 0 0 6 :: topA 2 (AV.own 2 2 none false :: topA 104 (AV.lst oa ca 2 (List.map ep a) :: AV.int .i64 (ilen (List.map ep a)) :: AV.int .i64 v119 :: tops 21)))), [Blk.box (AV.agg [AV.int .i64 p.x, AV.int .i64 p.y]), Blk.box (AV.agg [AV.int .i64 (wr .i64 (iadd r1.1 (wr .i64 (imul (wr .i64 (iquo (wr .i64 (isub (irem (wr .i64 (iadd (irem r2.1 (wr .i64 (isub 0 r2.2))) (wr .i64 (isub 0 r2.2)))) (wr .i64 (isub 0 r2.2))) r2.1)) (wr .i64 (isub 0 r2.2)))) (wr .i64 (isub 0 (wr .i64 (iquo (wr .i64 (isub 0 (wr .i64 (isub p2.y p.y)))) r)))))))), AV.int .i64 (wr .i64 (iadd r1.2 (wr .i64 (imul (wr .i64 (iquo (wr .i64 (isub (irem (wr .i64 (iadd (irem r2.1 (wr .i64 (isub 0 r2.2))) (wr .i64 (isub 0 r2.2)))) (wr .i64 (isub 0 r2.2))) r2.1)) (wr .i64 (isub 0 r2.2)))) (wr .i64 (isub 0 (wr .i64 (iquo (wr .i64 (isub p1.x p.x)) r)))))))), AV.int .i64 (wr .i64 (isub 0 (wr .i64 (iquo (wr .i64 (isub 0 (wr .i64 (isub p2.y p.y)))) r)))), AV.int .i64 (wr .i64 (isub 0 (wr .i64 (iquo (wr .i64 (isub p1.x p.x)) r)))), AV.int .i64 0, AV.int .i64 0]), Blk.rows Mode.live 2 (List.map ep w2)])) (fun m (⟨v119, w2⟩ : Int × (List Pt)) => spec_mvFrame_l0 L a p p1 p2 r r1 r2 m v119 w2) (fun _ => rfl) (fun m s rec hrec => ?_) L ((0, [])) ?_ ?_
       rotate_left
       ·rfl
       ·rfl
       obtain ⟨v119, w2⟩ := s
       show _ = Option.map _ (spec_mvFrame_l0 L a p p1 p2 r r1 r2 (m + 1) v119 w2)
       rw [spec_mvFrame_l0.eq_2]
       conv=>lhs;whnf
       refine t_cond ?_ ?_
       ·conv=>lhs;whnf
        refine t_get (en := ep) (l := a) (by rfl) fun p5 => ?_
        conv=>lhs;whnf
        refine t_call (h_spec_mvPeg (wr .i64 (iadd r1.1 (wr .i64 (imul (wr .i64 (iquo (wr .i64 (isub (irem (wr .i64 (iadd (irem r2.1 (wr .i64 (isub 0 r2.2))) (wr .i64 (isub 0 r2.2)))) (wr .i64 (isub 0 r2.2))) r2.1)) (wr .i64 (isub 0 r2.2)))) (wr .i64 (isub 0 (wr .i64 (iquo (wr .i64 (isub 0 (wr .i64 (isub p2.y p.y)))) r)))))))) (wr .i64 (iadd r1.2 (wr .i64 (imul (wr .i64 (iquo (wr .i64 (isub (irem (wr .i64 (iadd (irem r2.1 (wr .i64 (isub 0 r2.2))) (wr .i64 (isub 0 r2.2)))) (wr .i64 (isub 0 r2.2))) r2.1)) (wr .i64 (isub 0 r2.2)))) (wr .i64 (isub 0 (wr .i64 (iquo (wr .i64 (isub p1.x p.x)) r)))))))) (wr .i64 (isub 0 (wr .i64 (iquo (wr .i64 (isub 0 (wr .i64 (isub p2.y p.y)))) r)))) (wr .i64 (isub 0 (wr .i64 (iquo (wr .i64 (isub p1.x p.x)) r)))) 0 0 (wr .i64 (isub p5.x p.x)) (wr .i64 (isub p5.y p.y))) fun r3 => ?_
        conv=>lhs;whnf
        refine t_cond ?_ ?_
        ·conv=>lhs;whnf
         exact hrec ((wr .i64 (iadd v119 1), lcat w2 ({ x := r3.1, y := r3.2 } :: []))) _ _ (by rfl) (by first | rfl | simp only [ml] <;> rfl)
        ·conv=>lhs;whnf
         exact t_none
       ·conv=>lhs;whnf
        exact t_ret (by rfl)
   ·conv=>lhs;whnf
    refine t_cond ?_ ?_
    ·conv=>lhs;whnf
     exact t_none
    ·conv=>lhs;whnf
     refine t_cond ?_ ?_
     ·conv=>lhs;whnf
      exact t_none
     ·conv=>lhs;whnf
      refine t_cond ?_ ?_
      ·conv=>lhs;whnf
       exact t_none
      ·conv=>lhs;whnf
       refine t_loop (fun (⟨v1191, w21⟩ : Int × (List Pt)) => (topA 3 (AV.ptr 0 0 0 2 :: topA 5 (AV.ptr 1 0 0 6 :: topA 2 (AV.own 2 2 none false :: topA 104 (AV.lst oa ca 2 (List.map ep a) :: AV.int .i64 (ilen (List.map ep a)) :: AV.int .i64 v1191 :: tops 21)))), [Blk.box (AV.agg [AV.int .i64 p.x, AV.int .i64 p.y]), Blk.box (AV.agg [AV.int .i64 (wr .i64 (iadd r1.1 (wr .i64 (imul (wr .i64 (iquo (wr .i64 (isub (irem (wr .i64 (iadd (irem r2.1 r2.2) r2.2)) r2.2) r2.1)) r2.2)) (wr .i64 (iquo (wr .i64 (isub 0 (wr .i64 (isub p2.y p.y)))) r)))))), AV.int .i64 (wr .i64 (iadd r1.2 (wr .i64 (imul (wr .i64 (iquo (wr .i64 (isub (irem (wr .i64 (iadd (irem r2.1 r2.2) r2.2)) r2.2) r2.1)) r2.2)) (wr .i64 (iquo (wr .i64 (isub p1.x p.x)) r)))))), AV.int .i64 (wr .i64 (iquo (wr .i64 (isub 0 (wr .i64 (isub p2.y p.y)))) r)), AV.int .i64 (wr .i64 (iquo (wr .i64 (isub p1.x p.x)) r)), AV.int .i64 0, AV.int .i64 0]), Blk.rows Mode.live 2 (List.map ep w21)])) (fun m1 (⟨v1191, w21⟩ : Int × (List Pt)) => spec_mvFrame_l1 L a p p1 p2 r r1 r2 m1 v1191 w21) (fun _ => rfl) (fun m1 s1 rec1 hrec1 => ?_) L ((0, [])) ?_ ?_
       rotate_left
       ·rfl
       ·rfl
       obtain ⟨v1191, w21⟩ := s1
       show _ = Option.map _ (spec_mvFrame_l1 L a p p1 p2 r r1 r2 (m1 + 1) v1191 w21)
       rw [spec_mvFrame_l1.eq_2]
       conv=>lhs;whnf
       refine t_cond ?_ ?_
       ·conv=>lhs;whnf
        refine t_get (en := ep) (l := a) (by rfl) fun p6 => ?_
        conv=>lhs;whnf
        refine t_call (h_spec_mvPeg (wr .i64 (iadd r1.1 (wr .i64 (imul (wr .i64 (iquo (wr .i64 (isub (irem (wr .i64 (iadd (irem r2.1 r2.2) r2.2)) r2.2) r2.1)) r2.2)) (wr .i64 (iquo (wr .i64 (isub 0 (wr .i64 (isub p2.y p.y)))) r)))))) (wr .i64 (iadd r1.2 (wr .i64 (imul (wr .i64 (iquo (wr .i64 (isub (irem (wr .i64 (iadd (irem r2.1 r2.2) r2.2)) r2.2) r2.1)) r2.2)) (wr .i64 (iquo (wr .i64 (isub p1.x p.x)) r)))))) (wr .i64 (iquo (wr .i64 (isub 0 (wr .i64 (isub p2.y p.y)))) r)) (wr .i64 (iquo (wr .i64 (isub p1.x p.x)) r)) 0 0 (wr .i64 (isub p6.x p.x)) (wr .i64 (isub p6.y p.y))) fun r4 => ?_
        conv=>lhs;whnf
        refine t_cond ?_ ?_
        ·conv=>lhs;whnf
         exact hrec1 ((wr .i64 (iadd v1191 1), lcat w21 ({ x := r4.1, y := r4.2 } :: []))) _ _ (by rfl) (by first | rfl | simp only [ml] <;> rfl)
        ·conv=>lhs;whnf
         exact t_none
       ·conv=>lhs;whnf
        exact t_ret (by rfl)
noncomputable def spec_mvFrames_l1 (L : Nat) (κ0 : Int → Int → (List (List Pt)) → (List (List Pt)) → Option ((List (List Pt)))) (v11 : Int) (v12 : Int) (w1 : List (List Pt)) (p : List Pt) : Nat → Int → (List (List Pt)) → Option ((List (List Pt)))
  | 0, _, _ => none
  | m1 + 1, v18, w01 => bif ilt v18 (ilen (List.map ep p)) then (bif ile 0 v18 && ile v18 (ilen (List.map ep p)) then (bif ile 0 v18 && ile v18 (ilen (List.map ep p)) then (bif fits (iadd (ilen ([] : List AV)) (ilen (lsub (List.map ep p) v18 (ilen (List.map ep p))))) 16 then (bif fits (iadd (ilen (lcat [] (lsub (List.map ep p) v18 (ilen (List.map ep p))))) (ilen (lsub (List.map ep p) 0 v18))) 16 then (gbind (spec_mvFrame L (lcat (lcat [] (lsub p v18 (ilen (List.map ep p)))) (lsub p 0 v18))) fun r1 => bif fits (iadd (ilen (List.map eLP w01)) (ilen [AV.lst false false 2 (List.map ep r1)])) 24 then (spec_mvFrames_l1 L κ0 v11 v12 w1 p m1 (wr .i64 (iadd v18 1)) (lcat w01 (r1 :: []))) else (none)) else (none)) else (none)) else (none)) else (none)) else (κ0 v11 (wr .i64 (iadd v12 1)) w01 w1)
noncomputable def spec_mvFrames_l0 (L : Nat) : Nat → Int → Int → (List (List Pt)) → (List (List Pt)) → Option ((List (List Pt)))
  | 0, _, _, _, _ => none
  | m + 1, v11, v12, w0, w1 => bif ilt v12 v11 then (bif ile 0 v12 && ilt v12 (ilen (List.map eLP w1)) then (gbind (lget w1 v12) fun p => spec_mvFrames_l1 L (spec_mvFrames_l0 L m) v11 v12 w1 p L 0 w0) else (none)) else (some w0)
noncomputable def spec_mvFrames (L : Nat) (a : List Pt) : Option ((List (List Pt))) := gbind (spec_pgBack L a) fun r => spec_mvFrames_l0 L L (ilen [AV.lst false false 2 (List.map ep a), AV.lst false false 2 (List.map ep r)]) 0 [] (a :: (r :: []))
def spec_mvFrames_ok (L : Nat) (C : CF) : Prop := ∀ (ca : Bool) (x_a : List AV) (a : List Pt) (_ : x_a = List.map ep a), C 117 ([.lst false ca 2 x_a]) ([]) = Option.map (fun r : (List (List Pt)) => ((.frs 1 (List.map eLP r), []) : AV × List Blk)) (spec_mvFrames L a)
theorem spec_mvFrames_run (L : Nat) (C : CF) (h_spec_pgBack : spec_pgBack_ok L C) (h_spec_mvFrame : spec_mvFrame_ok L C) : ∀ (ca : Bool) (x_a : List AV) (a : List Pt) (_ : x_a = List.map ep a), run T C sh (keep 117) L Tryz.f117 ([.lst false ca 2 x_a]) ([]) = Option.map (fun r : (List (List Pt)) => ((.frs 1 (List.map eLP r), []) : AV × List Blk)) (spec_mvFrames L a) := by
 intro ca x_a a hx_a
 subst hx_a
 unfold spec_mvFrames
 conv=>lhs;whnf
 refine t_call (h_spec_pgBack _ _ _ a (by rfl)) fun r => ?_
 conv=>lhs;whnf
 refine t_loop (fun (⟨v11, v12, w0, w1⟩ : Int × Int × (List (List Pt)) × (List (List Pt))) => (topA 3 (AV.own 0 1 none false :: topA 6 (AV.own 1 1 none false :: AV.int .i64 v11 :: AV.int .i64 v12 :: tops 24)), [Blk.rows Mode.live 1 (List.map eLP w0), Blk.rows Mode.live 1 (List.map eLP w1)])) (fun m (⟨v11, v12, w0, w1⟩ : Int × Int × (List (List Pt)) × (List (List Pt))) => spec_mvFrames_l0 L m v11 v12 w0 w1) (fun _ => rfl) (fun m s rec hrec => ?_) L ((ilen [AV.lst false false 2 (List.map ep a), AV.lst false false 2 (List.map ep r)], 0, [], a :: (r :: []))) ?_ ?_
 rotate_left
 ·rfl
 ·rfl
 obtain ⟨v11, v12, w0, w1⟩ := s
 show _ = Option.map _ (spec_mvFrames_l0 L (m + 1) v11 v12 w0 w1)
 rw [spec_mvFrames_l0.eq_2]
 conv=>lhs;whnf
 refine t_cond ?_ ?_
 ·conv=>lhs;whnf
  refine t_cond ?_ ?_
  ·conv=>lhs;whnf
   refine t_get (en := eLP) (l := w1) (by rfl) fun p => ?_
   conv=>lhs;whnf
   refine t_loop (fun (⟨v18, w01⟩ : Int × (List (List Pt))) => (topA 3 (AV.own 0 1 none false :: AV.top :: AV.lst false false 2 (List.map ep p) :: topA 4 (AV.own 1 1 none false :: AV.int .i64 v11 :: AV.int .i64 v12 :: topA 4 (AV.int .i64 (ilen (List.map ep p)) :: AV.int .i64 v18 :: tops 18))), [Blk.rows Mode.live 1 (List.map eLP w01), Blk.rows Mode.live 1 (List.map eLP w1)])) (fun m1 (⟨v18, w01⟩ : Int × (List (List Pt))) => spec_mvFrames_l1 L (spec_mvFrames_l0 L m) v11 v12 w1 p m1 v18 w01) (fun _ => rfl) (fun m1 s1 rec1 hrec1 => ?_) L ((0, w0)) ?_ ?_
   rotate_left
   ·rfl
   ·rfl
   obtain ⟨v18, w01⟩ := s1
   show _ = Option.map _ (spec_mvFrames_l1 L (spec_mvFrames_l0 L m) v11 v12 w1 p (m1 + 1) v18 w01)
   rw [spec_mvFrames_l1.eq_2]
   conv=>lhs;whnf
   refine t_cond ?_ ?_
   ·conv=>lhs;whnf
    refine t_cond ?_ ?_
    ·conv=>lhs;whnf
     refine t_cond ?_ ?_
     ·conv=>lhs;whnf
      refine t_cond ?_ ?_
      ·conv=>lhs;whnf
       refine t_cond ?_ ?_
       ·conv=>lhs;whnf
        refine t_call (h_spec_mvFrame _ _ _ (lcat (lcat [] (lsub p v18 (ilen (List.map ep p)))) (lsub p 0 v18)) (by first | rfl | simp only [ml] <;> rfl)) fun r1 => ?_
        conv=>lhs;whnf
        refine t_cond ?_ ?_
        ·conv=>lhs;whnf
         exact hrec1 ((wr .i64 (iadd v18 1), lcat w01 (r1 :: []))) _ _ (by rfl) (by first | rfl | simp only [ml] <;> rfl)
        ·conv=>lhs;whnf
         exact t_none
       ·conv=>lhs;whnf
        exact t_none
      ·conv=>lhs;whnf
       exact t_none
     ·conv=>lhs;whnf
      exact t_none
    ·conv=>lhs;whnf
     exact t_none
   ·conv=>lhs;whnf
    exact hrec ((v11, wr .i64 (iadd v12 1), w01, w1)) _ _ (by rfl) (by rfl)
  ·conv=>lhs;whnf
   exact t_none
 ·conv=>lhs;whnf
  exact t_ret (by rfl)
noncomputable def spec_pgLess (L : Nat) (a_0 : Int) (a_1 : Int) (b_0 : Int) (b_1 : Int) : Option (Bool) := bif ilt a_0 b_0 then (some true) else (bif ieq a_0 b_0 then (some (ilt a_1 b_1)) else (some false))
def spec_pgLess_ok (L : Nat) (C : CF) : Prop := ∀ (a_0 : Int) (a_1 : Int) (b_0 : Int) (b_1 : Int), C 146 ([.agg [.int .i64 a_0, .int .i64 a_1], .agg [.int .i64 b_0, .int .i64 b_1]]) ([]) = Option.map (fun r : Bool => ((.bool r, []) : AV × List Blk)) (spec_pgLess L a_0 a_1 b_0 b_1)
theorem spec_pgLess_run (L : Nat) (C : CF) : ∀ (a_0 : Int) (a_1 : Int) (b_0 : Int) (b_1 : Int), run T C sh (keep 146) L Tryz.f146 ([.agg [.int .i64 a_0, .int .i64 a_1], .agg [.int .i64 b_0, .int .i64 b_1]]) ([]) = Option.map (fun r : Bool => ((.bool r, []) : AV × List Blk)) (spec_pgLess L a_0 a_1 b_0 b_1) := by
 intro a_0 a_1 b_0 b_1
 unfold spec_pgLess
 conv=>lhs;whnf
 refine t_cond ?_ ?_
 ·conv=>lhs;whnf
  exact t_ret (by rfl)
 ·conv=>lhs;whnf
  refine t_cond ?_ ?_
  ·conv=>lhs;whnf
   exact t_ret (by rfl)
  ·conv=>lhs;whnf
   exact t_ret (by rfl)
noncomputable def spec_mvBefore_l0 (L : Nat) (a : List Pt) (b : List Pt) : Nat → Int → Option Bool
  | 0, _ => none
  | m + 1, v8 => bif ilt v8 (ilen (List.map ep a)) then (gbind (lget a v8) fun p => gbind (lget b v8) fun p1 => bif !(ieq p.x p1.x && ieq p.y p1.y) then (gbind (lget a v8) fun p2 => gbind (lget b v8) fun p3 => gbind (spec_pgLess L p2.x p2.y p3.x p3.y) fun r => some r) else (spec_mvBefore_l0 L a b m (wr .i64 (iadd v8 1)))) else (some false)
noncomputable def spec_mvBefore (L : Nat) (a : List Pt) (b : List Pt) : Option (Bool) := spec_mvBefore_l0 L a b L 0
def spec_mvBefore_ok (L : Nat) (C : CF) : Prop := ∀ (oa : Bool) (ca : Bool) (x_a : List AV) (a : List Pt) (_ : x_a = List.map ep a) (ob : Bool) (cb : Bool) (x_b : List AV) (b : List Pt) (_ : x_b = List.map ep b), C 109 ([.lst oa ca 2 x_a, .lst ob cb 2 x_b]) ([]) = Option.map (fun r : Bool => ((.bool r, []) : AV × List Blk)) (spec_mvBefore L a b)
theorem spec_mvBefore_run (L : Nat) (C : CF) (h_spec_pgLess : spec_pgLess_ok L C) : ∀ (oa : Bool) (ca : Bool) (x_a : List AV) (a : List Pt) (_ : x_a = List.map ep a) (ob : Bool) (cb : Bool) (x_b : List AV) (b : List Pt) (_ : x_b = List.map ep b), run T C sh (keep 109) L Tryz.f109 ([.lst oa ca 2 x_a, .lst ob cb 2 x_b]) ([]) = Option.map (fun r : Bool => ((.bool r, []) : AV × List Blk)) (spec_mvBefore L a b) := by
 intro oa ca x_a a hx_a ob cb x_b b hx_b
 subst hx_a
 subst hx_b
 unfold spec_mvBefore
 conv=>lhs;whnf
 refine t_loop (fun (v8 : Int) => (AV.lst oa ca 2 (List.map ep a) :: AV.lst ob cb 2 (List.map ep b) :: topA 5 (AV.int .i64 (ilen (List.map ep a)) :: AV.int .i64 v8 :: tops 21), [])) (fun m (v8 : Int) => spec_mvBefore_l0 L a b m v8) (fun _ => rfl) (fun m v8 rec hrec => ?_) L 0 ?_ ?_
 rotate_left
 ·rfl
 ·rfl
 show _ = Option.map _ (spec_mvBefore_l0 L a b (m + 1) v8)
 rw [spec_mvBefore_l0.eq_2]
 conv=>lhs;whnf
 refine t_cond ?_ ?_
 ·conv=>lhs;whnf
  refine t_get (en := ep) (l := a) (by rfl) fun p => ?_
  conv=>lhs;whnf
  refine t_get (en := ep) (l := b) (by rfl) fun p1 => ?_
  conv=>lhs;whnf
  refine t_cond ?_ ?_
  ·conv=>lhs;whnf
   refine t_get (en := ep) (l := a) (by rfl) fun p2 => ?_
   conv=>lhs;whnf
   refine t_get (en := ep) (l := b) (by rfl) fun p3 => ?_
   conv=>lhs;whnf
   refine t_call (h_spec_pgLess p2.x p2.y p3.x p3.y) fun r => ?_
   conv=>lhs;whnf
   exact t_ret (by rfl)
  ·conv=>lhs;whnf
   exact hrec (wr .i64 (iadd v8 1)) _ _ (by rfl) (by rfl)
 ·conv=>lhs;whnf
  exact t_ret (by rfl)
noncomputable def spec_mvKind_l0 (L : Nat) (r : List (List Pt)) : Nat → (List Pt) → Int → Option ((List Pt))
  | 0, _, _ => none
  | m + 1, v3, v9 => bif ilt v9 (ilen (List.map eLP r)) then (bif ile 0 v9 && ilt v9 (ilen (List.map eLP r)) then (gbind (lget r v9) fun p => bif ieq (ilen (List.map ep v3)) 0 then (spec_mvKind_l0 L r m p (wr .i64 (iadd v9 1))) else (gbind (spec_mvBefore L p v3) fun r1 => bif r1 then (spec_mvKind_l0 L r m p (wr .i64 (iadd v9 1))) else (spec_mvKind_l0 L r m v3 (wr .i64 (iadd v9 1))))) else (none)) else (some v3)
noncomputable def spec_mvKind (L : Nat) (a : List Pt) : Option ((List Pt)) := gbind (spec_mvFrames L a) fun r => spec_mvKind_l0 L r L [] 0
def spec_mvKind_ok (L : Nat) (C : CF) : Prop := ∀ (ca : Bool) (x_a : List AV) (a : List Pt) (_ : x_a = List.map ep a), C 81 ([.lst false ca 2 x_a]) ([]) = Option.map (fun r : (List Pt) => ((.lst false false 2 (List.map ep r), []) : AV × List Blk)) (spec_mvKind L a)
theorem spec_mvKind_run (L : Nat) (C : CF) (h_spec_mvFrames : spec_mvFrames_ok L C) (h_spec_mvBefore : spec_mvBefore_ok L C) : ∀ (ca : Bool) (x_a : List AV) (a : List Pt) (_ : x_a = List.map ep a), run T C sh (keep 81) L Tryz.f81 ([.lst false ca 2 x_a]) ([]) = Option.map (fun r : (List Pt) => ((.lst false false 2 (List.map ep r), []) : AV × List Blk)) (spec_mvKind L a) := by
 intro ca x_a a hx_a
 subst hx_a
 unfold spec_mvKind
 conv=>lhs;whnf
 refine t_call (h_spec_mvFrames _ _ a (by rfl)) fun r => ?_
 conv=>lhs;whnf
 refine t_loop (fun (⟨v3, v9⟩ : (List Pt) × Int) => (topA 3 (AV.lst false false 2 (List.map ep v3) :: topA 3 (AV.own 0 1 none false :: AV.int .i64 (ilen (List.map eLP r)) :: AV.int .i64 v9 :: tops 14)), [Blk.rows Mode.live 1 (List.map eLP r)])) (fun m (⟨v3, v9⟩ : (List Pt) × Int) => spec_mvKind_l0 L r m v3 v9) (fun _ => rfl) (fun m s rec hrec => ?_) L (([], 0)) ?_ ?_
 rotate_left
 ·rfl
 ·rfl
 obtain ⟨v3, v9⟩ := s
 show _ = Option.map _ (spec_mvKind_l0 L r (m + 1) v3 v9)
 rw [spec_mvKind_l0.eq_2]
 conv=>lhs;whnf
 refine t_cond ?_ ?_
 ·conv=>lhs;whnf
  refine t_cond ?_ ?_
  ·conv=>lhs;whnf
   refine t_get (en := eLP) (l := r) (by rfl) fun p => ?_
   conv=>lhs;whnf
   refine t_cond ?_ ?_
   ·conv=>lhs;whnf
    exact hrec ((p, wr .i64 (iadd v9 1))) _ _ (by rfl) (by rfl)
   ·conv=>lhs;whnf
    refine t_call (h_spec_mvBefore _ _ _ p (by rfl) _ _ _ v3 (by rfl)) fun r1 => ?_
    conv=>lhs;whnf
    refine t_cond ?_ ?_
    ·conv=>lhs;whnf
     exact hrec ((p, wr .i64 (iadd v9 1))) _ _ (by rfl) (by rfl)
    ·conv=>lhs;whnf
     exact hrec ((v3, wr .i64 (iadd v9 1))) _ _ (by rfl) (by rfl)
  ·conv=>lhs;whnf
   exact t_none
 ·conv=>lhs;whnf
  exact t_ret (by rfl)
noncomputable def spec_mvList (L : Nat) (a : List Pt) : Option ((List Int)) := gbind (spec_mvKind L a) fun r => gbind (lget r 1) fun p => gbind (lget r 2) fun p1 => gbind (lget r 2) fun p2 => some (p.x :: (p1.x :: (p2.y :: [])))
def spec_mvList_ok (L : Nat) (C : CF) : Prop := ∀ (ca : Bool) (x_a : List AV) (a : List Pt) (_ : x_a = List.map ep a), C 52 ([.lst false ca 2 x_a]) ([]) = Option.map (fun r : (List Int) => ((.frs 1 (List.map eI r), []) : AV × List Blk)) (spec_mvList L a)
theorem spec_mvList_run (L : Nat) (C : CF) (h_spec_mvKind : spec_mvKind_ok L C) : ∀ (ca : Bool) (x_a : List AV) (a : List Pt) (_ : x_a = List.map ep a), run T C sh (keep 52) L Tryz.f52 ([.lst false ca 2 x_a]) ([]) = Option.map (fun r : (List Int) => ((.frs 1 (List.map eI r), []) : AV × List Blk)) (spec_mvList L a) := by
 intro ca x_a a hx_a
 subst hx_a
 unfold spec_mvList
 conv=>lhs;whnf
 refine t_call (h_spec_mvKind _ _ a (by rfl)) fun r => ?_
 conv=>lhs;whnf
 refine t_get (en := ep) (l := r) (by rfl) fun p => ?_
 conv=>lhs;whnf
 refine t_get (en := ep) (l := r) (by rfl) fun p1 => ?_
 conv=>lhs;whnf
 refine t_get (en := ep) (l := r) (by rfl) fun p2 => ?_
 conv=>lhs;whnf
 exact t_ret (by rfl)
noncomputable def spec_KindOfTriangle (L : Nat) (a : List Pt) : Option ((List Int) × Bool) := gbind (spec_mvThree L a) fun r => bif !r then (some (([], false))) else (gbind (spec_mvList L a) fun r1 => some ((r1, true)))
def spec_KindOfTriangle_ok (L : Nat) (C : CF) : Prop := ∀ (ca : Bool) (x_a : List AV) (a : List Pt) (_ : x_a = List.map ep a), C 9 ([.lst false ca 2 x_a]) ([]) = Option.map (fun r : (List Int) × Bool => ((.tup [.frs 1 (List.map eI (r.1)), .bool (r.2)], []) : AV × List Blk)) (spec_KindOfTriangle L a)
theorem spec_KindOfTriangle_run (L : Nat) (C : CF) (h_spec_mvThree : spec_mvThree_ok L C) (h_spec_mvList : spec_mvList_ok L C) : ∀ (ca : Bool) (x_a : List AV) (a : List Pt) (_ : x_a = List.map ep a), run T C sh (keep 9) L Tryz.f9 ([.lst false ca 2 x_a]) ([]) = Option.map (fun r : (List Int) × Bool => ((.tup [.frs 1 (List.map eI (r.1)), .bool (r.2)], []) : AV × List Blk)) (spec_KindOfTriangle L a) := by
 intro ca x_a a hx_a
 subst hx_a
 unfold spec_KindOfTriangle
 conv=>lhs;whnf
 refine t_call (h_spec_mvThree _ _ _ a (by rfl)) fun r => ?_
 conv=>lhs;whnf
 refine t_cond ?_ ?_
 ·conv=>lhs;whnf
  exact t_ret (by rfl)
 ·conv=>lhs;whnf
  refine t_call (h_spec_mvList _ _ a (by rfl)) fun r1 => ?_
  conv=>lhs;whnf
  exact t_ret (by rfl)
noncomputable def laws_zSame_l0 (L : Nat) (a : List Int) (b : List Int) : Nat → Int → Option Bool
  | 0, _ => none
  | m + 1, v13 => bif ilt v13 (ilen (List.map eI a)) then (gbind (lget a v13) fun p => gbind (lget b v13) fun p1 => bif !ieq p p1 then (some false) else (laws_zSame_l0 L a b m (wr .i64 (iadd v13 1)))) else (some true)
noncomputable def laws_zSame (L : Nat) (a : List Int) (b : List Int) : Option (Bool) := bif !ieq (ilen (List.map eI a)) (ilen (List.map eI b)) then (some false) else (laws_zSame_l0 L a b L 0)
def laws_zSame_ok (L : Nat) (C : CF) : Prop := ∀ (oa : Bool) (ca : Bool) (x_a : List AV) (a : List Int) (_ : x_a = List.map eI a) (ob : Bool) (cb : Bool) (x_b : List AV) (b : List Int) (_ : x_b = List.map eI b), C 10 ([.lst oa ca 1 x_a, .lst ob cb 1 x_b]) ([]) = Option.map (fun r : Bool => ((.bool r, []) : AV × List Blk)) (laws_zSame L a b)
theorem laws_zSame_run (L : Nat) (C : CF) : ∀ (oa : Bool) (ca : Bool) (x_a : List AV) (a : List Int) (_ : x_a = List.map eI a) (ob : Bool) (cb : Bool) (x_b : List AV) (b : List Int) (_ : x_b = List.map eI b), run T C sh (keep 10) L Tryz.f10 ([.lst oa ca 1 x_a, .lst ob cb 1 x_b]) ([]) = Option.map (fun r : Bool => ((.bool r, []) : AV × List Blk)) (laws_zSame L a b) := by
 intro oa ca x_a a hx_a ob cb x_b b hx_b
 subst hx_a
 subst hx_b
 unfold laws_zSame
 conv=>lhs;whnf
 refine t_cond ?_ ?_
 ·conv=>lhs;whnf
  exact t_ret (by rfl)
 ·conv=>lhs;whnf
  refine t_loop (fun (v13 : Int) => (AV.lst oa ca 1 (List.map eI a) :: AV.lst ob cb 1 (List.map eI b) :: topA 10 (AV.int .i64 (ilen (List.map eI a)) :: AV.int .i64 v13 :: tops 12), [])) (fun m (v13 : Int) => laws_zSame_l0 L a b m v13) (fun _ => rfl) (fun m v13 rec hrec => ?_) L 0 ?_ ?_
  rotate_left
  ·rfl
  ·rfl
  show _ = Option.map _ (laws_zSame_l0 L a b (m + 1) v13)
  rw [laws_zSame_l0.eq_2]
  conv=>lhs;whnf
  refine t_cond ?_ ?_
  ·conv=>lhs;whnf
   refine t_get (en := eI) (l := a) (by rfl) fun p => ?_
   conv=>lhs;whnf
   refine t_get (en := eI) (l := b) (by rfl) fun p1 => ?_
   conv=>lhs;whnf
   refine t_cond ?_ ?_
   ·conv=>lhs;whnf
    exact t_ret (by rfl)
   ·conv=>lhs;whnf
    exact hrec (wr .i64 (iadd v13 1)) _ _ (by rfl) (by rfl)
  ·conv=>lhs;whnf
   exact t_ret (by rfl)
noncomputable def impl_twice_l0 (L : Nat) (a : List Pt) : Nat → Int → Int → Option Int
  | 0, _, _ => none
  | m + 1, v3, v8 => bif ilt v8 (ilen (List.map ep a)) then (gbind (lget a v8) fun p => gbind (impl_at L a (wr .i64 (iadd v8 1))) fun r => gbind (impl_cross L p.x p.y r.1 r.2) fun r1 => impl_twice_l0 L a m (wr .i64 (iadd v3 r1)) (wr .i64 (iadd v8 1))) else (some v3)
noncomputable def impl_twice (L : Nat) (a : List Pt) : Option (Int) := impl_twice_l0 L a L 0 0
def impl_twice_ok (L : Nat) (C : CF) : Prop := ∀ (oa : Bool) (ca : Bool) (x_a : List AV) (a : List Pt) (_ : x_a = List.map ep a), C 54 ([.lst oa ca 2 x_a]) ([]) = Option.map (fun r : Int => ((.int .i64 r, []) : AV × List Blk)) (impl_twice L a)
theorem impl_twice_run (L : Nat) (C : CF) (h_impl_at : impl_at_ok L C) (h_impl_cross : impl_cross_ok L C) : ∀ (oa : Bool) (ca : Bool) (x_a : List AV) (a : List Pt) (_ : x_a = List.map ep a), run T C sh (keep 54) L Tryz.f54 ([.lst oa ca 2 x_a]) ([]) = Option.map (fun r : Int => ((.int .i64 r, []) : AV × List Blk)) (impl_twice L a) := by
 intro oa ca x_a a hx_a
 subst hx_a
 unfold impl_twice
 conv=>lhs;whnf
 refine t_loop (fun (⟨v3, v8⟩ : Int × Int) => (AV.lst oa ca 2 (List.map ep a) :: topA 2 (AV.int .i64 v3 :: topA 2 (AV.lst oa ca 2 (List.map ep a) :: AV.int .i64 (ilen (List.map ep a)) :: AV.int .i64 v8 :: tops 14)), [])) (fun m (⟨v3, v8⟩ : Int × Int) => impl_twice_l0 L a m v3 v8) (fun _ => rfl) (fun m s rec hrec => ?_) L ((0, 0)) ?_ ?_
 rotate_left
 ·rfl
 ·rfl
 obtain ⟨v3, v8⟩ := s
 show _ = Option.map _ (impl_twice_l0 L a (m + 1) v3 v8)
 rw [impl_twice_l0.eq_2]
 conv=>lhs;whnf
 refine t_cond ?_ ?_
 ·conv=>lhs;whnf
  refine t_get (en := ep) (l := a) (by rfl) fun p => ?_
  conv=>lhs;whnf
  refine t_call (h_impl_at _ _ _ a (by rfl) (wr .i64 (iadd v8 1))) fun r => ?_
  conv=>lhs;whnf
  refine t_call (h_impl_cross p.x p.y r.1 r.2) fun r1 => ?_
  conv=>lhs;whnf
  exact hrec ((wr .i64 (iadd v3 r1), wr .i64 (iadd v8 1))) _ _ (by rfl) (by rfl)
 ·conv=>lhs;whnf
  exact t_ret (by rfl)
noncomputable def impl_TwiceArea (L : Nat) (a : List Pt) : Option (Int × Bool) := gbind (impl_IsPolygon L a) fun r => bif !r then (some ((0, false))) else (gbind (impl_twice L a) fun r1 => some ((r1, true)))
def impl_TwiceArea_ok (L : Nat) (C : CF) : Prop := ∀ (oa : Bool) (ca : Bool) (x_a : List AV) (a : List Pt) (_ : x_a = List.map ep a), C 11 ([.lst oa ca 2 x_a]) ([]) = Option.map (fun r : Int × Bool => ((.tup [.int .i64 (r.1), .bool (r.2)], []) : AV × List Blk)) (impl_TwiceArea L a)
theorem impl_TwiceArea_run (L : Nat) (C : CF) (h_impl_IsPolygon : impl_IsPolygon_ok L C) (h_impl_twice : impl_twice_ok L C) : ∀ (oa : Bool) (ca : Bool) (x_a : List AV) (a : List Pt) (_ : x_a = List.map ep a), run T C sh (keep 11) L Tryz.f11 ([.lst oa ca 2 x_a]) ([]) = Option.map (fun r : Int × Bool => ((.tup [.int .i64 (r.1), .bool (r.2)], []) : AV × List Blk)) (impl_TwiceArea L a) := by
 intro oa ca x_a a hx_a
 subst hx_a
 unfold impl_TwiceArea
 conv=>lhs;whnf
 refine t_call (h_impl_IsPolygon _ _ _ a (by rfl)) fun r => ?_
 conv=>lhs;whnf
 refine t_cond ?_ ?_
 ·conv=>lhs;whnf
  exact t_ret (by rfl)
 ·conv=>lhs;whnf
  refine t_call (h_impl_twice _ _ _ a (by rfl)) fun r1 => ?_
  conv=>lhs;whnf
  exact t_ret (by rfl)
noncomputable def laws_zAbs (L : Nat) (a : Int) : Option (Int) := bif ilt a 0 then (some (wr .i64 (isub 0 a))) else (some a)
def laws_zAbs_ok (L : Nat) (C : CF) : Prop := ∀ (a : Int), C 12 ([.int .i64 a]) ([]) = Option.map (fun r : Int => ((.int .i64 r, []) : AV × List Blk)) (laws_zAbs L a)
theorem laws_zAbs_run (L : Nat) (C : CF) : ∀ (a : Int), run T C sh (keep 12) L Tryz.f12 ([.int .i64 a]) ([]) = Option.map (fun r : Int => ((.int .i64 r, []) : AV × List Blk)) (laws_zAbs L a) := by
 intro a
 unfold laws_zAbs
 conv=>lhs;whnf
 refine t_cond ?_ ?_
 ·conv=>lhs;whnf
  exact t_ret (by rfl)
 ·conv=>lhs;whnf
  exact t_ret (by rfl)
noncomputable def impl_triangle (L : Nat) (a : Int) (b : Int) (c : Int) : Option ((List Pt)) := some ({ x := 0, y := 0 } :: ({ x := a, y := 0 } :: ({ x := b, y := c } :: [])))
def impl_triangle_ok (L : Nat) (C : CF) : Prop := ∀ (a : Int) (b : Int) (c : Int), C 55 ([.int .i64 a, .int .i64 b, .int .i64 c]) ([]) = Option.map (fun r : (List Pt) => ((.frs 2 (List.map ep r), []) : AV × List Blk)) (impl_triangle L a b c)
theorem impl_triangle_run (L : Nat) (C : CF) : ∀ (a : Int) (b : Int) (c : Int), run T C sh (keep 55) L Tryz.f55 ([.int .i64 a, .int .i64 b, .int .i64 c]) ([]) = Option.map (fun r : (List Pt) => ((.frs 2 (List.map ep r), []) : AV × List Blk)) (impl_triangle L a b c) := by
 intro a b c
 unfold impl_triangle
 conv=>lhs;whnf
 exact t_ret (by rfl)
noncomputable def slices_Equal_int_int_l0 (L : Nat) (a : List Int) (b : List Int) : Nat → Int → Option Bool
  | 0, _ => none
  | m + 1, v13 => bif ilt v13 (ilen (List.map eI a)) then (gbind (lget a v13) fun p => gbind (lget b v13) fun p1 => bif !ieq p p1 then (some false) else (slices_Equal_int_int_l0 L a b m (wr .i64 (iadd v13 1)))) else (some true)
noncomputable def slices_Equal_int_int (L : Nat) (a : List Int) (b : List Int) : Option (Bool) := bif !ieq (ilen (List.map eI a)) (ilen (List.map eI b)) then (some false) else (slices_Equal_int_int_l0 L a b L 0)
def slices_Equal_int_int_ok (L : Nat) (C : CF) : Prop := ∀ (oa : Bool) (ca : Bool) (x_a : List AV) (a : List Int) (_ : x_a = List.map eI a) (ob : Bool) (cb : Bool) (x_b : List AV) (b : List Int) (_ : x_b = List.map eI b), C 56 ([.lst oa ca 1 x_a, .lst ob cb 1 x_b]) ([]) = Option.map (fun r : Bool => ((.bool r, []) : AV × List Blk)) (slices_Equal_int_int L a b)
theorem slices_Equal_int_int_run (L : Nat) (C : CF) : ∀ (oa : Bool) (ca : Bool) (x_a : List AV) (a : List Int) (_ : x_a = List.map eI a) (ob : Bool) (cb : Bool) (x_b : List AV) (b : List Int) (_ : x_b = List.map eI b), run T C sh (keep 56) L Tryz.f56 ([.lst oa ca 1 x_a, .lst ob cb 1 x_b]) ([]) = Option.map (fun r : Bool => ((.bool r, []) : AV × List Blk)) (slices_Equal_int_int L a b) := by
 intro oa ca x_a a hx_a ob cb x_b b hx_b
 subst hx_a
 subst hx_b
 unfold slices_Equal_int_int
 conv=>lhs;whnf
 refine t_cond ?_ ?_
 ·conv=>lhs;whnf
  exact t_ret (by rfl)
 ·conv=>lhs;whnf
  refine t_loop (fun (v13 : Int) => (AV.lst oa ca 1 (List.map eI a) :: AV.lst ob cb 1 (List.map eI b) :: topA 10 (AV.int .i64 (ilen (List.map eI a)) :: AV.int .i64 v13 :: tops 12), [])) (fun m (v13 : Int) => slices_Equal_int_int_l0 L a b m v13) (fun _ => rfl) (fun m v13 rec hrec => ?_) L 0 ?_ ?_
  rotate_left
  ·rfl
  ·rfl
  show _ = Option.map _ (slices_Equal_int_int_l0 L a b (m + 1) v13)
  rw [slices_Equal_int_int_l0.eq_2]
  conv=>lhs;whnf
  refine t_cond ?_ ?_
  ·conv=>lhs;whnf
   refine t_get (en := eI) (l := a) (by rfl) fun p => ?_
   conv=>lhs;whnf
   refine t_get (en := eI) (l := b) (by rfl) fun p1 => ?_
   conv=>lhs;whnf
   refine t_cond ?_ ?_
   ·conv=>lhs;whnf
    exact t_ret (by rfl)
   ·conv=>lhs;whnf
    exact hrec (wr .i64 (iadd v13 1)) _ _ (by rfl) (by rfl)
  ·conv=>lhs;whnf
   exact t_ret (by rfl)
noncomputable def impl_TriangleOfKind (L : Nat) (a : List Int) : Option ((List Pt) × Bool) := bif !ieq (ilen (List.map eI a)) 3 then (some (([], false))) else (gbind (lget a 0) fun p => gbind (lget a 1) fun p1 => gbind (lget a 2) fun p2 => gbind (impl_triangle L p p1 p2) fun r => gbind (impl_isThree L r) fun r1 => bif !r1 then (some (([], false))) else (gbind (impl_kindOf L r) fun r2 => gbind (slices_Equal_int_int L r2 a) fun r3 => bif !r3 then (some (([], false))) else (some ((r, true)))))
def impl_TriangleOfKind_ok (L : Nat) (C : CF) : Prop := ∀ (oa : Bool) (ca : Bool) (x_a : List AV) (a : List Int) (_ : x_a = List.map eI a), C 13 ([.lst oa ca 1 x_a]) ([]) = Option.map (fun r : (List Pt) × Bool => ((.tup [.frs 2 (List.map ep (r.1)), .bool (r.2)], []) : AV × List Blk)) (impl_TriangleOfKind L a)
theorem impl_TriangleOfKind_run (L : Nat) (C : CF) (h_impl_isThree : impl_isThree_ok L C) (h_impl_kindOf : impl_kindOf_ok L C) (h_impl_triangle : impl_triangle_ok L C) (h_slices_Equal_int_int : slices_Equal_int_int_ok L C) : ∀ (oa : Bool) (ca : Bool) (x_a : List AV) (a : List Int) (_ : x_a = List.map eI a), run T C sh (keep 13) L Tryz.f13 ([.lst oa ca 1 x_a]) ([]) = Option.map (fun r : (List Pt) × Bool => ((.tup [.frs 2 (List.map ep (r.1)), .bool (r.2)], []) : AV × List Blk)) (impl_TriangleOfKind L a) := by
 intro oa ca x_a a hx_a
 subst hx_a
 unfold impl_TriangleOfKind
 conv=>lhs;whnf
 refine t_cond ?_ ?_
 ·conv=>lhs;whnf
  exact t_ret (by rfl)
 ·conv=>lhs;whnf
  refine t_get (en := eI) (l := a) (by rfl) fun p => ?_
  conv=>lhs;whnf
  refine t_get (en := eI) (l := a) (by rfl) fun p1 => ?_
  conv=>lhs;whnf
  refine t_get (en := eI) (l := a) (by rfl) fun p2 => ?_
  conv=>lhs;whnf
  refine t_call (h_impl_triangle p p1 p2) fun r => ?_
  conv=>lhs;whnf
  refine t_call (h_impl_isThree _ _ _ r (by rfl)) fun r1 => ?_
  conv=>lhs;whnf
  refine t_cond ?_ ?_
  ·conv=>lhs;whnf
   exact t_ret (by rfl)
  ·conv=>lhs;whnf
   refine t_call (h_impl_kindOf _ _ _ r (by rfl)) fun r2 => ?_
   conv=>lhs;whnf
   refine t_call (h_slices_Equal_int_int _ _ _ r2 (by rfl) _ _ _ a (by rfl)) fun r3 => ?_
   conv=>lhs;whnf
   refine t_cond ?_ ?_
   ·conv=>lhs;whnf
    exact t_ret (by rfl)
   ·conv=>lhs;whnf
    exact t_ret (by rfl)
noncomputable def slices_Equal_impl_Peg_impl_Peg_l0 (L : Nat) (a : List Pt) (b : List Pt) : Nat → Int → Option Bool
  | 0, _ => none
  | m + 1, v13 => bif ilt v13 (ilen (List.map ep a)) then (gbind (lget a v13) fun p => gbind (lget b v13) fun p1 => bif !(ieq p.x p1.x && ieq p.y p1.y) then (some false) else (slices_Equal_impl_Peg_impl_Peg_l0 L a b m (wr .i64 (iadd v13 1)))) else (some true)
noncomputable def slices_Equal_impl_Peg_impl_Peg (L : Nat) (a : List Pt) (b : List Pt) : Option (Bool) := bif !ieq (ilen (List.map ep a)) (ilen (List.map ep b)) then (some false) else (slices_Equal_impl_Peg_impl_Peg_l0 L a b L 0)
def slices_Equal_impl_Peg_impl_Peg_ok (L : Nat) (C : CF) : Prop := ∀ (oa : Bool) (ca : Bool) (x_a : List AV) (a : List Pt) (_ : x_a = List.map ep a) (ob : Bool) (cb : Bool) (x_b : List AV) (b : List Pt) (_ : x_b = List.map ep b), C 57 ([.lst oa ca 2 x_a, .lst ob cb 2 x_b]) ([]) = Option.map (fun r : Bool => ((.bool r, []) : AV × List Blk)) (slices_Equal_impl_Peg_impl_Peg L a b)
theorem slices_Equal_impl_Peg_impl_Peg_run (L : Nat) (C : CF) : ∀ (oa : Bool) (ca : Bool) (x_a : List AV) (a : List Pt) (_ : x_a = List.map ep a) (ob : Bool) (cb : Bool) (x_b : List AV) (b : List Pt) (_ : x_b = List.map ep b), run T C sh (keep 57) L Tryz.f57 ([.lst oa ca 2 x_a, .lst ob cb 2 x_b]) ([]) = Option.map (fun r : Bool => ((.bool r, []) : AV × List Blk)) (slices_Equal_impl_Peg_impl_Peg L a b) := by
 intro oa ca x_a a hx_a ob cb x_b b hx_b
 subst hx_a
 subst hx_b
 unfold slices_Equal_impl_Peg_impl_Peg
 conv=>lhs;whnf
 refine t_cond ?_ ?_
 ·conv=>lhs;whnf
  exact t_ret (by rfl)
 ·conv=>lhs;whnf
  refine t_loop (fun (v13 : Int) => (AV.lst oa ca 2 (List.map ep a) :: AV.lst ob cb 2 (List.map ep b) :: topA 10 (AV.int .i64 (ilen (List.map ep a)) :: AV.int .i64 v13 :: tops 12), [])) (fun m (v13 : Int) => slices_Equal_impl_Peg_impl_Peg_l0 L a b m v13) (fun _ => rfl) (fun m v13 rec hrec => ?_) L 0 ?_ ?_
  rotate_left
  ·rfl
  ·rfl
  show _ = Option.map _ (slices_Equal_impl_Peg_impl_Peg_l0 L a b (m + 1) v13)
  rw [slices_Equal_impl_Peg_impl_Peg_l0.eq_2]
  conv=>lhs;whnf
  refine t_cond ?_ ?_
  ·conv=>lhs;whnf
   refine t_get (en := ep) (l := a) (by rfl) fun p => ?_
   conv=>lhs;whnf
   refine t_get (en := ep) (l := b) (by rfl) fun p1 => ?_
   conv=>lhs;whnf
   refine t_cond ?_ ?_
   ·conv=>lhs;whnf
    exact t_ret (by rfl)
   ·conv=>lhs;whnf
    exact hrec (wr .i64 (iadd v13 1)) _ _ (by rfl) (by rfl)
  ·conv=>lhs;whnf
   exact t_ret (by rfl)
noncomputable def impl_AreAlike (L : Nat) (a : List Pt) (b : List Pt) : Option (Bool × Bool) := gbind (impl_IsPolygon L a) fun r => bif !r then (some ((false, false))) else (gbind (impl_IsPolygon L b) fun r1 => bif !r1 then (some ((false, false))) else (gbind (impl_firstFrame L a) fun r2 => gbind (impl_firstFrame L b) fun r3 => gbind (slices_Equal_impl_Peg_impl_Peg L r2 r3) fun r4 => some ((r4, true))))
def impl_AreAlike_ok (L : Nat) (C : CF) : Prop := ∀ (oa : Bool) (ca : Bool) (x_a : List AV) (a : List Pt) (_ : x_a = List.map ep a) (ob : Bool) (cb : Bool) (x_b : List AV) (b : List Pt) (_ : x_b = List.map ep b), C 14 ([.lst oa ca 2 x_a, .lst ob cb 2 x_b]) ([]) = Option.map (fun r : Bool × Bool => ((.tup [.bool (r.1), .bool (r.2)], []) : AV × List Blk)) (impl_AreAlike L a b)
theorem impl_AreAlike_run (L : Nat) (C : CF) (h_impl_IsPolygon : impl_IsPolygon_ok L C) (h_impl_firstFrame : impl_firstFrame_ok L C) (h_slices_Equal_impl_Peg_impl_Peg : slices_Equal_impl_Peg_impl_Peg_ok L C) : ∀ (oa : Bool) (ca : Bool) (x_a : List AV) (a : List Pt) (_ : x_a = List.map ep a) (ob : Bool) (cb : Bool) (x_b : List AV) (b : List Pt) (_ : x_b = List.map ep b), run T C sh (keep 14) L Tryz.f14 ([.lst oa ca 2 x_a, .lst ob cb 2 x_b]) ([]) = Option.map (fun r : Bool × Bool => ((.tup [.bool (r.1), .bool (r.2)], []) : AV × List Blk)) (impl_AreAlike L a b) := by
 intro oa ca x_a a hx_a ob cb x_b b hx_b
 subst hx_a
 subst hx_b
 unfold impl_AreAlike
 conv=>lhs;whnf
 refine t_call (h_impl_IsPolygon _ _ _ a (by rfl)) fun r => ?_
 conv=>lhs;whnf
 refine t_cond ?_ ?_
 ·conv=>lhs;whnf
  exact t_ret (by rfl)
 ·conv=>lhs;whnf
  refine t_call (h_impl_IsPolygon _ _ _ b (by rfl)) fun r1 => ?_
  conv=>lhs;whnf
  refine t_cond ?_ ?_
  ·conv=>lhs;whnf
   exact t_ret (by rfl)
  ·conv=>lhs;whnf
   refine t_call (h_impl_firstFrame _ _ _ a (by rfl)) fun r2 => ?_
   conv=>lhs;whnf
   refine t_call (h_impl_firstFrame _ _ _ b (by rfl)) fun r3 => ?_
   conv=>lhs;whnf
   refine t_call (h_slices_Equal_impl_Peg_impl_Peg _ _ _ r2 (by rfl) _ _ _ r3 (by rfl)) fun r4 => ?_
   conv=>lhs;whnf
   exact t_ret (by rfl)
noncomputable def impl_KindsOfArea_l1 (L : Nat) (κ0 : Int → Int → (List (List Int)) → Option ((List (List Int)) × Bool)) (v0 : Int) (v5 : Int) : Nat → Int → (List (List Int)) → Option ((List (List Int)) × Bool)
  | 0, _, _ => none
  | m1 + 1, v6, w01 => bif ieq v5 0 then (none) else (bif ieq (irem v0 v5) 0 then (bif ieq v5 0 then (none) else (bif ilt v6 (wr .i64 (iquo v0 v5)) then (bif ieq v5 0 then (none) else (bif ieq v5 0 then (none) else (gbind (impl_triangle L v5 v6 (wr .i64 (iquo v0 v5))) fun r1 => gbind (impl_kindOf L r1) fun r2 => gbind (slices_Equal_int_int L r2 (v5 :: (v6 :: (wr .i64 (iquo v0 v5) :: [])))) fun r3 => bif r3 then (bif fits (iadd (ilen (List.map eLI w01)) (ilen [AV.lst false false 1 [AV.int .i64 v5, AV.int .i64 v6, AV.int .i64 (wr .i64 (iquo v0 v5))]])) 24 then (impl_KindsOfArea_l1 L κ0 v0 v5 m1 (wr .i64 (iadd v6 1)) (lcat w01 ((v5 :: (v6 :: (wr .i64 (iquo v0 v5) :: []))) :: []))) else (none)) else (impl_KindsOfArea_l1 L κ0 v0 v5 m1 (wr .i64 (iadd v6 1)) w01)))) else (κ0 v0 (wr .i64 (iadd v5 1)) w01))) else (κ0 v0 (wr .i64 (iadd v5 1)) w01))
noncomputable def impl_KindsOfArea_l0 (L : Nat) : Nat → Int → Int → (List (List Int)) → Option ((List (List Int)) × Bool)
  | 0, _, _, _ => none
  | m + 1, v0, v5, w0 => bif ile v5 v0 then (impl_KindsOfArea_l1 L (impl_KindsOfArea_l0 L m) v0 v5 L 0 w0) else (some ((w0, true)))
noncomputable def impl_KindsOfArea (L : Nat) (a : Int) : Option ((List (List Int)) × Bool) := gbind (impl_within L a 1 60) fun r => bif !r then (some (([], false))) else (impl_KindsOfArea_l0 L L a 1 [])
def impl_KindsOfArea_ok (L : Nat) (C : CF) : Prop := ∀ (a : Int), C 15 ([.int .i64 a]) ([]) = Option.map (fun r : (List (List Int)) × Bool => ((.tup [.frs 1 (List.map eLI (r.1)), .bool (r.2)], []) : AV × List Blk)) (impl_KindsOfArea L a)
theorem impl_KindsOfArea_run (L : Nat) (C : CF) (h_impl_within : impl_within_ok L C) (h_impl_kindOf : impl_kindOf_ok L C) (h_impl_triangle : impl_triangle_ok L C) (h_slices_Equal_int_int : slices_Equal_int_int_ok L C) : ∀ (a : Int), run T C sh (keep 15) L Tryz.f15 ([.int .i64 a]) ([]) = Option.map (fun r : (List (List Int)) × Bool => ((.tup [.frs 1 (List.map eLI (r.1)), .bool (r.2)], []) : AV × List Blk)) (impl_KindsOfArea L a) := by
 intro a
 unfold impl_KindsOfArea
 conv=>lhs;whnf
 refine t_call (h_impl_within a 1 60) fun r => ?_
 conv=>lhs;whnf
 refine t_cond ?_ ?_
 ·conv=>lhs;whnf
  exact t_ret (by rfl)
 ·conv=>lhs;whnf
  refine t_loop (fun (⟨v0, v5, w0⟩ : Int × Int × (List (List Int))) => (AV.int .i64 v0 :: topA 3 (AV.own 0 1 none false :: AV.int .i64 v5 :: tops 44), [Blk.rows Mode.live 1 (List.map eLI w0)])) (fun m (⟨v0, v5, w0⟩ : Int × Int × (List (List Int))) => impl_KindsOfArea_l0 L m v0 v5 w0) (fun _ => rfl) (fun m s rec hrec => ?_) L ((a, 1, [])) ?_ ?_
  rotate_left
  ·rfl
  ·rfl
  obtain ⟨v0, v5, w0⟩ := s
  show _ = Option.map _ (impl_KindsOfArea_l0 L (m + 1) v0 v5 w0)
  rw [impl_KindsOfArea_l0.eq_2]
  conv=>lhs;whnf
  refine t_cond ?_ ?_
  ·conv=>lhs;whnf
   refine t_loop (fun (⟨v6, w01⟩ : Int × (List (List Int))) => (AV.int .i64 v0 :: topA 3 (AV.own 0 1 none false :: AV.int .i64 v5 :: AV.int .i64 v6 :: tops 43), [Blk.rows Mode.live 1 (List.map eLI w01)])) (fun m1 (⟨v6, w01⟩ : Int × (List (List Int))) => impl_KindsOfArea_l1 L (impl_KindsOfArea_l0 L m) v0 v5 m1 v6 w01) (fun _ => rfl) (fun m1 s1 rec1 hrec1 => ?_) L ((0, w0)) ?_ ?_
   rotate_left
   ·rfl
   ·rfl
   obtain ⟨v6, w01⟩ := s1
   show _ = Option.map _ (impl_KindsOfArea_l1 L (impl_KindsOfArea_l0 L m) v0 v5 (m1 + 1) v6 w01)
   rw [impl_KindsOfArea_l1.eq_2]
   conv=>lhs;whnf
   refine t_cond ?_ ?_
   ·conv=>lhs;whnf
    exact t_none
   ·conv=>lhs;whnf
    refine t_cond ?_ ?_
    ·conv=>lhs;whnf
     refine t_cond ?_ ?_
     ·conv=>lhs;whnf
      exact t_none
     ·conv=>lhs;whnf
      refine t_cond ?_ ?_
      ·conv=>lhs;whnf
       refine t_cond ?_ ?_
       ·conv=>lhs;whnf
        exact t_none
       ·conv=>lhs;whnf
        refine t_cond ?_ ?_
        ·conv=>lhs;whnf
         exact t_none
        ·conv=>lhs;whnf
         refine t_call (h_impl_triangle v5 v6 (wr .i64 (iquo v0 v5))) fun r1 => ?_
         conv=>lhs;whnf
         refine t_call (h_impl_kindOf _ _ _ r1 (by rfl)) fun r2 => ?_
         conv=>lhs;whnf
         refine t_call (h_slices_Equal_int_int _ _ _ r2 (by rfl) _ _ _ (v5 :: (v6 :: (wr .i64 (iquo v0 v5) :: []))) (by rfl)) fun r3 => ?_
         conv=>lhs;whnf
         refine t_cond ?_ ?_
         ·conv=>lhs;whnf
          refine t_cond ?_ ?_
          ·conv=>lhs;whnf
           exact hrec1 ((wr .i64 (iadd v6 1), lcat w01 ((v5 :: (v6 :: (wr .i64 (iquo v0 v5) :: []))) :: []))) _ _ (by rfl) (by first | rfl | simp only [ml] <;> rfl)
          ·conv=>lhs;whnf
           exact t_none
         ·conv=>lhs;whnf
          exact hrec1 ((wr .i64 (iadd v6 1), w01)) _ _ (by rfl) (by rfl)
      ·conv=>lhs;whnf
       exact hrec ((v0, wr .i64 (iadd v5 1), w01)) _ _ (by rfl) (by rfl)
    ·conv=>lhs;whnf
     exact hrec ((v0, wr .i64 (iadd v5 1), w01)) _ _ (by rfl) (by rfl)
  ·conv=>lhs;whnf
   exact t_ret (by rfl)
noncomputable def spec_DrawKindsOfArea (L : Nat) (a : List Int) : Option (Int) := gbind (spec_l1Cur_among_v2 L a 0 0 (1 :: (2 :: (3 :: (4 :: (5 :: (6 :: (8 :: (12 :: (25 :: (60 :: (61 :: (0 :: (-1 :: [])))))))))))))) fun r => some r.1
def spec_DrawKindsOfArea_ok (L : Nat) (C : CF) : Prop := ∀ (oa : Bool) (ca : Bool) (x_a : List AV) (a : List Int) (_ : x_a = List.map eU a), C 16 ([.lst oa ca 1 x_a]) ([]) = Option.map (fun r : Int => ((.int .i64 r, []) : AV × List Blk)) (spec_DrawKindsOfArea L a)
theorem spec_DrawKindsOfArea_run (L : Nat) (C : CF) (h_spec_l1Cur_among_v2 : spec_l1Cur_among_v2_ok L C) : ∀ (oa : Bool) (ca : Bool) (x_a : List AV) (a : List Int) (_ : x_a = List.map eU a), run T C sh (keep 16) L Tryz.f16 ([.lst oa ca 1 x_a]) ([]) = Option.map (fun r : Int => ((.int .i64 r, []) : AV × List Blk)) (spec_DrawKindsOfArea L a) := by
 intro oa ca x_a a hx_a
 subst hx_a
 unfold spec_DrawKindsOfArea
 conv=>lhs;whnf
 refine t_call (h_spec_l1Cur_among_v2 _ _ _ a (by rfl) 0 0 _ (1 :: (2 :: (3 :: (4 :: (5 :: (6 :: (8 :: (12 :: (25 :: (60 :: (61 :: (0 :: (-1 :: []))))))))))))) (by rfl)) fun r => ?_
 conv=>lhs;whnf
 exact t_ret (by rfl)
noncomputable def spec_mvMade (L : Nat) (a : Int) (b : Int) (c : Int) : Option ((List Pt)) := some ({ x := 0, y := 0 } :: ({ x := a, y := 0 } :: ({ x := b, y := c } :: [])))
def spec_mvMade_ok (L : Nat) (C : CF) : Prop := ∀ (a : Int) (b : Int) (c : Int), C 66 ([.int .i64 a, .int .i64 b, .int .i64 c]) ([]) = Option.map (fun r : (List Pt) => ((.frs 2 (List.map ep r), []) : AV × List Blk)) (spec_mvMade L a b c)
theorem spec_mvMade_run (L : Nat) (C : CF) : ∀ (a : Int) (b : Int) (c : Int), run T C sh (keep 66) L Tryz.f66 ([.int .i64 a, .int .i64 b, .int .i64 c]) ([]) = Option.map (fun r : (List Pt) => ((.frs 2 (List.map ep r), []) : AV × List Blk)) (spec_mvMade L a b c) := by
 intro a b c
 unfold spec_mvMade
 conv=>lhs;whnf
 exact t_ret (by rfl)
noncomputable def spec_l1Same_l0 (L : Nat) (a : List Int) (b : List Int) : Nat → Int → Option Bool
  | 0, _ => none
  | m + 1, v13 => bif ilt v13 (ilen (List.map eI a)) then (gbind (lget a v13) fun p => gbind (lget b v13) fun p1 => bif !ieq p p1 then (some false) else (spec_l1Same_l0 L a b m (wr .i64 (iadd v13 1)))) else (some true)
noncomputable def spec_l1Same (L : Nat) (a : List Int) (b : List Int) : Option (Bool) := bif !ieq (ilen (List.map eI a)) (ilen (List.map eI b)) then (some false) else (spec_l1Same_l0 L a b L 0)
def spec_l1Same_ok (L : Nat) (C : CF) : Prop := ∀ (oa : Bool) (ca : Bool) (x_a : List AV) (a : List Int) (_ : x_a = List.map eI a) (ob : Bool) (cb : Bool) (x_b : List AV) (b : List Int) (_ : x_b = List.map eI b), C 67 ([.lst oa ca 1 x_a, .lst ob cb 1 x_b]) ([]) = Option.map (fun r : Bool => ((.bool r, []) : AV × List Blk)) (spec_l1Same L a b)
theorem spec_l1Same_run (L : Nat) (C : CF) : ∀ (oa : Bool) (ca : Bool) (x_a : List AV) (a : List Int) (_ : x_a = List.map eI a) (ob : Bool) (cb : Bool) (x_b : List AV) (b : List Int) (_ : x_b = List.map eI b), run T C sh (keep 67) L Tryz.f67 ([.lst oa ca 1 x_a, .lst ob cb 1 x_b]) ([]) = Option.map (fun r : Bool => ((.bool r, []) : AV × List Blk)) (spec_l1Same L a b) := by
 intro oa ca x_a a hx_a ob cb x_b b hx_b
 subst hx_a
 subst hx_b
 unfold spec_l1Same
 conv=>lhs;whnf
 refine t_cond ?_ ?_
 ·conv=>lhs;whnf
  exact t_ret (by rfl)
 ·conv=>lhs;whnf
  refine t_loop (fun (v13 : Int) => (AV.lst oa ca 1 (List.map eI a) :: AV.lst ob cb 1 (List.map eI b) :: topA 10 (AV.int .i64 (ilen (List.map eI a)) :: AV.int .i64 v13 :: tops 12), [])) (fun m (v13 : Int) => spec_l1Same_l0 L a b m v13) (fun _ => rfl) (fun m v13 rec hrec => ?_) L 0 ?_ ?_
  rotate_left
  ·rfl
  ·rfl
  show _ = Option.map _ (spec_l1Same_l0 L a b (m + 1) v13)
  rw [spec_l1Same_l0.eq_2]
  conv=>lhs;whnf
  refine t_cond ?_ ?_
  ·conv=>lhs;whnf
   refine t_get (en := eI) (l := a) (by rfl) fun p => ?_
   conv=>lhs;whnf
   refine t_get (en := eI) (l := b) (by rfl) fun p1 => ?_
   conv=>lhs;whnf
   refine t_cond ?_ ?_
   ·conv=>lhs;whnf
    exact t_ret (by rfl)
   ·conv=>lhs;whnf
    exact hrec (wr .i64 (iadd v13 1)) _ _ (by rfl) (by rfl)
  ·conv=>lhs;whnf
   exact t_ret (by rfl)
noncomputable def spec_mvKinds_l1 (L : Nat) (κ0 : Int → Int → (List (List Int)) → Option ((List (List Int)))) (v0 : Int) (v4 : Int) : Nat → Int → (List (List Int)) → Option ((List (List Int)))
  | 0, _, _ => none
  | m1 + 1, v6, w01 => bif ilt v6 (wr .i64 (iquo v0 v4)) then (gbind (spec_mvMade L v4 v6 (wr .i64 (iquo v0 v4))) fun r => gbind (spec_mvList L r) fun r1 => gbind (spec_l1Same L r1 (v4 :: (v6 :: (wr .i64 (iquo v0 v4) :: [])))) fun r2 => bif r2 then (bif fits (iadd (ilen (List.map eLI w01)) (ilen [AV.lst false false 1 [AV.int .i64 v4, AV.int .i64 v6, AV.int .i64 (wr .i64 (iquo v0 v4))]])) 24 then (spec_mvKinds_l1 L κ0 v0 v4 m1 (wr .i64 (iadd v6 1)) (lcat w01 ((v4 :: (v6 :: (wr .i64 (iquo v0 v4) :: []))) :: []))) else (none)) else (spec_mvKinds_l1 L κ0 v0 v4 m1 (wr .i64 (iadd v6 1)) w01)) else (κ0 v0 (wr .i64 (iadd v4 1)) w01)
noncomputable def spec_mvKinds_l0 (L : Nat) : Nat → Int → Int → (List (List Int)) → Option ((List (List Int)))
  | 0, _, _, _ => none
  | m + 1, v0, v4, w0 => bif ile v4 v0 then (bif ieq v4 0 then (none) else (bif !ieq (irem v0 v4) 0 then (spec_mvKinds_l0 L m v0 (wr .i64 (iadd v4 1)) w0) else (bif ieq v4 0 then (none) else (spec_mvKinds_l1 L (spec_mvKinds_l0 L m) v0 v4 L 0 w0)))) else (some w0)
noncomputable def spec_mvKinds (L : Nat) (a : Int) : Option ((List (List Int))) := spec_mvKinds_l0 L L a 1 []
def spec_mvKinds_ok (L : Nat) (C : CF) : Prop := ∀ (a : Int), C 62 ([.int .i64 a]) ([]) = Option.map (fun r : (List (List Int)) => ((.frs 1 (List.map eLI r), []) : AV × List Blk)) (spec_mvKinds L a)
theorem spec_mvKinds_run (L : Nat) (C : CF) (h_spec_mvList : spec_mvList_ok L C) (h_spec_mvMade : spec_mvMade_ok L C) (h_spec_l1Same : spec_l1Same_ok L C) : ∀ (a : Int), run T C sh (keep 62) L Tryz.f62 ([.int .i64 a]) ([]) = Option.map (fun r : (List (List Int)) => ((.frs 1 (List.map eLI r), []) : AV × List Blk)) (spec_mvKinds L a) := by
 intro a
 unfold spec_mvKinds
 conv=>lhs;whnf
 refine t_loop (fun (⟨v0, v4, w0⟩ : Int × Int × (List (List Int))) => (AV.int .i64 v0 :: topA 2 (AV.own 0 1 none false :: AV.int .i64 v4 :: tops 37), [Blk.rows Mode.live 1 (List.map eLI w0)])) (fun m (⟨v0, v4, w0⟩ : Int × Int × (List (List Int))) => spec_mvKinds_l0 L m v0 v4 w0) (fun _ => rfl) (fun m s rec hrec => ?_) L ((a, 1, [])) ?_ ?_
 rotate_left
 ·rfl
 ·rfl
 obtain ⟨v0, v4, w0⟩ := s
 show _ = Option.map _ (spec_mvKinds_l0 L (m + 1) v0 v4 w0)
 rw [spec_mvKinds_l0.eq_2]
 conv=>lhs;whnf
 refine t_cond ?_ ?_
 ·conv=>lhs;whnf
  refine t_cond ?_ ?_
  ·conv=>lhs;whnf
   exact t_none
  ·conv=>lhs;whnf
   refine t_cond ?_ ?_
   ·conv=>lhs;whnf
    exact hrec ((v0, wr .i64 (iadd v4 1), w0)) _ _ (by rfl) (by rfl)
   ·conv=>lhs;whnf
    refine t_cond ?_ ?_
    ·conv=>lhs;whnf
     exact t_none
    ·conv=>lhs;whnf
     refine t_loop (fun (⟨v6, w01⟩ : Int × (List (List Int))) => (AV.int .i64 v0 :: topA 2 (AV.own 0 1 none false :: AV.int .i64 v4 :: AV.int .i64 (wr .i64 (iquo v0 v4)) :: AV.int .i64 v6 :: tops 35), [Blk.rows Mode.live 1 (List.map eLI w01)])) (fun m1 (⟨v6, w01⟩ : Int × (List (List Int))) => spec_mvKinds_l1 L (spec_mvKinds_l0 L m) v0 v4 m1 v6 w01) (fun _ => rfl) (fun m1 s1 rec1 hrec1 => ?_) L ((0, w0)) ?_ ?_
     rotate_left
     ·rfl
     ·rfl
     obtain ⟨v6, w01⟩ := s1
     show _ = Option.map _ (spec_mvKinds_l1 L (spec_mvKinds_l0 L m) v0 v4 (m1 + 1) v6 w01)
     rw [spec_mvKinds_l1.eq_2]
     conv=>lhs;whnf
     refine t_cond ?_ ?_
     ·conv=>lhs;whnf
      refine t_call (h_spec_mvMade v4 v6 (wr .i64 (iquo v0 v4))) fun r => ?_
      conv=>lhs;whnf
      refine t_call (h_spec_mvList _ _ r (by rfl)) fun r1 => ?_
      conv=>lhs;whnf
      refine t_call (h_spec_l1Same _ _ _ r1 (by rfl) _ _ _ (v4 :: (v6 :: (wr .i64 (iquo v0 v4) :: []))) (by rfl)) fun r2 => ?_
      conv=>lhs;whnf
      refine t_cond ?_ ?_
      ·conv=>lhs;whnf
       refine t_cond ?_ ?_
       ·conv=>lhs;whnf
        exact hrec1 ((wr .i64 (iadd v6 1), lcat w01 ((v4 :: (v6 :: (wr .i64 (iquo v0 v4) :: []))) :: []))) _ _ (by rfl) (by first | rfl | simp only [ml] <;> rfl)
       ·conv=>lhs;whnf
        exact t_none
      ·conv=>lhs;whnf
       exact hrec1 ((wr .i64 (iadd v6 1), w01)) _ _ (by rfl) (by rfl)
     ·conv=>lhs;whnf
      exact hrec ((v0, wr .i64 (iadd v4 1), w01)) _ _ (by rfl) (by rfl)
 ·conv=>lhs;whnf
  exact t_ret (by rfl)
noncomputable def spec_KindsOfArea (L : Nat) (a : Int) : Option ((List (List Int)) × Bool) := gbind (spec_l1In L a 1 60) fun r => bif !r then (some (([], false))) else (gbind (spec_mvKinds L a) fun r1 => some ((r1, true)))
def spec_KindsOfArea_ok (L : Nat) (C : CF) : Prop := ∀ (a : Int), C 17 ([.int .i64 a]) ([]) = Option.map (fun r : (List (List Int)) × Bool => ((.tup [.frs 1 (List.map eLI (r.1)), .bool (r.2)], []) : AV × List Blk)) (spec_KindsOfArea L a)
theorem spec_KindsOfArea_run (L : Nat) (C : CF) (h_spec_l1In : spec_l1In_ok L C) (h_spec_mvKinds : spec_mvKinds_ok L C) : ∀ (a : Int), run T C sh (keep 17) L Tryz.f17 ([.int .i64 a]) ([]) = Option.map (fun r : (List (List Int)) × Bool => ((.tup [.frs 1 (List.map eLI (r.1)), .bool (r.2)], []) : AV × List Blk)) (spec_KindsOfArea L a) := by
 intro a
 unfold spec_KindsOfArea
 conv=>lhs;whnf
 refine t_call (h_spec_l1In a 1 60) fun r => ?_
 conv=>lhs;whnf
 refine t_cond ?_ ?_
 ·conv=>lhs;whnf
  exact t_ret (by rfl)
 ·conv=>lhs;whnf
  refine t_call (h_spec_mvKinds a) fun r1 => ?_
  conv=>lhs;whnf
  exact t_ret (by rfl)
noncomputable def impl_CountKinds (L : Nat) (a : Int) : Option (Int × Bool) := gbind (impl_KindsOfArea L a) fun r => some ((ilen (List.map eLI r.1), r.2))
def impl_CountKinds_ok (L : Nat) (C : CF) : Prop := ∀ (a : Int), C 18 ([.int .i64 a]) ([]) = Option.map (fun r : Int × Bool => ((.tup [.int .i64 (r.1), .bool (r.2)], []) : AV × List Blk)) (impl_CountKinds L a)
theorem impl_CountKinds_run (L : Nat) (C : CF) (h_impl_KindsOfArea : impl_KindsOfArea_ok L C) : ∀ (a : Int), run T C sh (keep 18) L Tryz.f18 ([.int .i64 a]) ([]) = Option.map (fun r : Int × Bool => ((.tup [.int .i64 (r.1), .bool (r.2)], []) : AV × List Blk)) (impl_CountKinds L a) := by
 intro a
 unfold impl_CountKinds
 conv=>lhs;whnf
 refine t_call (h_impl_KindsOfArea a) fun r => ?_
 conv=>lhs;whnf
 exact t_ret (by rfl)
noncomputable def spec_CountKinds (L : Nat) (a : Int) : Option (Int × Bool) := gbind (spec_l1In L a 1 60) fun r => bif !r then (some ((0, false))) else (gbind (spec_mvKinds L a) fun r1 => some ((ilen (List.map eLI r1), true)))
def spec_CountKinds_ok (L : Nat) (C : CF) : Prop := ∀ (a : Int), C 19 ([.int .i64 a]) ([]) = Option.map (fun r : Int × Bool => ((.tup [.int .i64 (r.1), .bool (r.2)], []) : AV × List Blk)) (spec_CountKinds L a)
theorem spec_CountKinds_run (L : Nat) (C : CF) (h_spec_l1In : spec_l1In_ok L C) (h_spec_mvKinds : spec_mvKinds_ok L C) : ∀ (a : Int), run T C sh (keep 19) L Tryz.f19 ([.int .i64 a]) ([]) = Option.map (fun r : Int × Bool => ((.tup [.int .i64 (r.1), .bool (r.2)], []) : AV × List Blk)) (spec_CountKinds L a) := by
 intro a
 unfold spec_CountKinds
 conv=>lhs;whnf
 refine t_call (h_spec_l1In a 1 60) fun r => ?_
 conv=>lhs;whnf
 refine t_cond ?_ ?_
 ·conv=>lhs;whnf
  exact t_ret (by rfl)
 ·conv=>lhs;whnf
  refine t_call (h_spec_mvKinds a) fun r1 => ?_
  conv=>lhs;whnf
  exact t_ret (by rfl)
noncomputable def spec_l1Own (L : Nat) (a : List Int) : Option ((List Int)) := bif fits (iadd (ilen ([] : List AV)) (ilen (List.map eI a))) 8 then (some (lcat [] a)) else (none)
def spec_l1Own_ok (L : Nat) (C : CF) : Prop := ∀ (oa : Bool) (ca : Bool) (x_a : List AV) (a : List Int) (_ : x_a = List.map eI a), C 64 ([.lst oa ca 1 x_a]) ([]) = Option.map (fun r : (List Int) => ((.frs 1 (List.map eI r), []) : AV × List Blk)) (spec_l1Own L a)
theorem spec_l1Own_run (L : Nat) (C : CF) : ∀ (oa : Bool) (ca : Bool) (x_a : List AV) (a : List Int) (_ : x_a = List.map eI a), run T C sh (keep 64) L Tryz.f64 ([.lst oa ca 1 x_a]) ([]) = Option.map (fun r : (List Int) => ((.frs 1 (List.map eI r), []) : AV × List Blk)) (spec_l1Own L a) := by
 intro oa ca x_a a hx_a
 subst hx_a
 unfold spec_l1Own
 conv=>lhs;whnf
 refine t_cond ?_ ?_
 ·conv=>lhs;whnf
  exact t_ret (by first | rfl | simp only [ml] <;> rfl)
 ·conv=>lhs;whnf
  exact t_none
noncomputable def spec_DrawTriangleOfKind (L : Nat) (a : List Int) : Option ((List Int)) := gbind (spec_l1Cur_one L a 0 0 3) fun r => bif r.1 then (gbind (spec_l1Cur_pick L a r.2.1 r.2.2 8) fun r1 => bif ile 0 r1.1 && ilt r1.1 (ilen [AV.lst false false 1 [AV.int .i64 1, AV.int .i64 0, AV.int .i64 1], AV.lst false false 1 [AV.int .i64 1, AV.int .i64 2, AV.int .i64 3], AV.lst false false 1 [AV.int .i64 2, AV.int .i64 0, AV.int .i64 2], AV.lst false false 1 [AV.int .i64 3, AV.int .i64 0, AV.int .i64 1], AV.lst false false 1 [AV.int .i64 1, AV.int .i64 0], AV.lst false false 1 [AV.int .i64 0, AV.int .i64 0, AV.int .i64 1], AV.lst false false 1 [AV.int .i64 1, AV.int .i64 5, AV.int .i64 3], AV.lst false false 1 [AV.int .i64 1, AV.int .i64 0, AV.int .i64 41]]) then (gbind (lget ((1 :: (0 :: (1 :: []))) :: ((1 :: (2 :: (3 :: []))) :: ((2 :: (0 :: (2 :: []))) :: ((3 :: (0 :: (1 :: []))) :: ((1 :: (0 :: [])) :: ((0 :: (0 :: (1 :: []))) :: ((1 :: (5 :: (3 :: []))) :: ((1 :: (0 :: (41 :: []))) :: [])))))))) r1.1) fun p => some p) else (none)) else (gbind (spec_l1Cur_pick L a r.2.1 r.2.2 24) fun r2 => gbind (spec_mvKinds L (wr .i64 (iadd 1 r2.1))) fun r3 => gbind (spec_l1Cur_pick L a r2.2.1 r2.2.2 (ilen (List.map eLI r3))) fun r4 => bif ile 0 r4.1 && ilt r4.1 (ilen (List.map eLI r3)) then (gbind (lget r3 r4.1) fun p1 => gbind (spec_l1Own L p1) fun r5 => some r5) else (none))
def spec_DrawTriangleOfKind_ok (L : Nat) (C : CF) : Prop := ∀ (oa : Bool) (ca : Bool) (x_a : List AV) (a : List Int) (_ : x_a = List.map eU a), C 20 ([.lst oa ca 1 x_a]) ([]) = Option.map (fun r : (List Int) => ((.lst false false 1 (List.map eI r), []) : AV × List Blk)) (spec_DrawTriangleOfKind L a)
theorem spec_DrawTriangleOfKind_run (L : Nat) (C : CF) (h_spec_l1Cur_pick : spec_l1Cur_pick_ok L C) (h_spec_l1Cur_one : spec_l1Cur_one_ok L C) (h_spec_mvKinds : spec_mvKinds_ok L C) (h_spec_l1Own : spec_l1Own_ok L C) : ∀ (oa : Bool) (ca : Bool) (x_a : List AV) (a : List Int) (_ : x_a = List.map eU a), run T C sh (keep 20) L Tryz.f20 ([.lst oa ca 1 x_a]) ([]) = Option.map (fun r : (List Int) => ((.lst false false 1 (List.map eI r), []) : AV × List Blk)) (spec_DrawTriangleOfKind L a) := by
 intro oa ca x_a a hx_a
 subst hx_a
 unfold spec_DrawTriangleOfKind
 conv=>lhs;whnf
 refine t_call (h_spec_l1Cur_one _ _ _ a (by rfl) 0 0 3) fun r => ?_
 conv=>lhs;whnf
 refine t_cond ?_ ?_
 ·conv=>lhs;whnf
  refine t_call (h_spec_l1Cur_pick _ _ _ a (by rfl) r.2.1 r.2.2 8) fun r1 => ?_
  conv=>lhs;whnf
  refine t_cond ?_ ?_
  ·conv=>lhs;whnf
   refine t_get (en := eLI) (l := (1 :: (0 :: (1 :: []))) :: ((1 :: (2 :: (3 :: []))) :: ((2 :: (0 :: (2 :: []))) :: ((3 :: (0 :: (1 :: []))) :: ((1 :: (0 :: [])) :: ((0 :: (0 :: (1 :: []))) :: ((1 :: (5 :: (3 :: []))) :: ((1 :: (0 :: (41 :: []))) :: [])))))))) (by rfl) fun p => ?_
   conv=>lhs;whnf
   exact t_ret (by rfl)
  ·conv=>lhs;whnf
   exact t_none
 ·conv=>lhs;whnf
  refine t_call (h_spec_l1Cur_pick _ _ _ a (by rfl) r.2.1 r.2.2 24) fun r2 => ?_
  conv=>lhs;whnf
  refine t_call (h_spec_mvKinds (wr .i64 (iadd 1 r2.1))) fun r3 => ?_
  conv=>lhs;whnf
  refine t_call (h_spec_l1Cur_pick _ _ _ a (by rfl) r2.2.1 r2.2.2 (ilen (List.map eLI r3))) fun r4 => ?_
  conv=>lhs;whnf
  refine t_cond ?_ ?_
  ·conv=>lhs;whnf
   refine t_get (en := eLI) (l := r3) (by rfl) fun p1 => ?_
   conv=>lhs;whnf
   refine t_call (h_spec_l1Own _ _ _ p1 (by rfl)) fun r5 => ?_
   conv=>lhs;whnf
   exact t_ret (by rfl)
  ·conv=>lhs;whnf
   exact t_none
noncomputable def spec_l1All_l0 (L : Nat) (a : List Int) (b : Int) (c : Int) : Nat → Int → Option Bool
  | 0, _ => none
  | m + 1, v11 => bif ilt v11 (ilen (List.map eI a)) then (gbind (lget a v11) fun p => gbind (spec_l1In L p b c) fun r => bif !r then (some false) else (spec_l1All_l0 L a b c m (wr .i64 (iadd v11 1)))) else (some true)
noncomputable def spec_l1All (L : Nat) (a : List Int) (b : Int) (c : Int) : Option (Bool) := spec_l1All_l0 L a b c L 0
def spec_l1All_ok (L : Nat) (C : CF) : Prop := ∀ (oa : Bool) (ca : Bool) (x_a : List AV) (a : List Int) (_ : x_a = List.map eI a) (b : Int) (c : Int), C 65 ([.lst oa ca 1 x_a, .int .i64 b, .int .i64 c]) ([]) = Option.map (fun r : Bool => ((.bool r, []) : AV × List Blk)) (spec_l1All L a b c)
theorem spec_l1All_run (L : Nat) (C : CF) (h_spec_l1In : spec_l1In_ok L C) : ∀ (oa : Bool) (ca : Bool) (x_a : List AV) (a : List Int) (_ : x_a = List.map eI a) (b : Int) (c : Int), run T C sh (keep 65) L Tryz.f65 ([.lst oa ca 1 x_a, .int .i64 b, .int .i64 c]) ([]) = Option.map (fun r : Bool => ((.bool r, []) : AV × List Blk)) (spec_l1All L a b c) := by
 intro oa ca x_a a hx_a b c
 subst hx_a
 unfold spec_l1All
 conv=>lhs;whnf
 refine t_loop (fun (v11 : Int) => (AV.top :: AV.int .i64 b :: AV.int .i64 c :: topA 6 (AV.lst oa ca 1 (List.map eI a) :: AV.int .i64 (ilen (List.map eI a)) :: AV.int .i64 v11 :: tops 9), [])) (fun m (v11 : Int) => spec_l1All_l0 L a b c m v11) (fun _ => rfl) (fun m v11 rec hrec => ?_) L 0 ?_ ?_
 rotate_left
 ·rfl
 ·rfl
 show _ = Option.map _ (spec_l1All_l0 L a b c (m + 1) v11)
 rw [spec_l1All_l0.eq_2]
 conv=>lhs;whnf
 refine t_cond ?_ ?_
 ·conv=>lhs;whnf
  refine t_get (en := eI) (l := a) (by rfl) fun p => ?_
  conv=>lhs;whnf
  refine t_call (h_spec_l1In p b c) fun r => ?_
  conv=>lhs;whnf
  refine t_cond ?_ ?_
  ·conv=>lhs;whnf
   exact t_ret (by rfl)
  ·conv=>lhs;whnf
   exact hrec (wr .i64 (iadd v11 1)) _ _ (by rfl) (by rfl)
 ·conv=>lhs;whnf
  exact t_ret (by rfl)
noncomputable def spec_TriangleOfKind (L : Nat) (a : List Int) : Option ((List Pt) × Bool) := bif !ieq (ilen (List.map eI a)) 3 then (some (([], false))) else (gbind (spec_l1All L a 0 40) fun r => bif !r then (some (([], false))) else (gbind (lget a 0) fun p => gbind (lget a 1) fun p1 => gbind (lget a 2) fun p2 => gbind (spec_mvMade L p p1 p2) fun r1 => gbind (spec_mvThree L r1) fun r2 => bif !r2 then (some (([], false))) else (gbind (spec_mvList L r1) fun r3 => gbind (spec_l1Same L r3 a) fun r4 => bif !r4 then (some (([], false))) else (some ((r1, true))))))
def spec_TriangleOfKind_ok (L : Nat) (C : CF) : Prop := ∀ (oa : Bool) (ca : Bool) (x_a : List AV) (a : List Int) (_ : x_a = List.map eI a), C 21 ([.lst oa ca 1 x_a]) ([]) = Option.map (fun r : (List Pt) × Bool => ((.tup [.lst false false 2 (List.map ep (r.1)), .bool (r.2)], []) : AV × List Blk)) (spec_TriangleOfKind L a)
theorem spec_TriangleOfKind_run (L : Nat) (C : CF) (h_spec_mvThree : spec_mvThree_ok L C) (h_spec_mvList : spec_mvList_ok L C) (h_spec_mvMade : spec_mvMade_ok L C) (h_spec_l1Same : spec_l1Same_ok L C) (h_spec_l1All : spec_l1All_ok L C) : ∀ (oa : Bool) (ca : Bool) (x_a : List AV) (a : List Int) (_ : x_a = List.map eI a), run T C sh (keep 21) L Tryz.f21 ([.lst oa ca 1 x_a]) ([]) = Option.map (fun r : (List Pt) × Bool => ((.tup [.lst false false 2 (List.map ep (r.1)), .bool (r.2)], []) : AV × List Blk)) (spec_TriangleOfKind L a) := by
 intro oa ca x_a a hx_a
 subst hx_a
 unfold spec_TriangleOfKind
 conv=>lhs;whnf
 refine t_cond ?_ ?_
 ·conv=>lhs;whnf
  exact t_ret (by rfl)
 ·conv=>lhs;whnf
  refine t_call (h_spec_l1All _ _ _ a (by rfl) 0 40) fun r => ?_
  conv=>lhs;whnf
  refine t_cond ?_ ?_
  ·conv=>lhs;whnf
   exact t_ret (by rfl)
  ·conv=>lhs;whnf
   refine t_get (en := eI) (l := a) (by rfl) fun p => ?_
   conv=>lhs;whnf
   refine t_get (en := eI) (l := a) (by rfl) fun p1 => ?_
   conv=>lhs;whnf
   refine t_get (en := eI) (l := a) (by rfl) fun p2 => ?_
   conv=>lhs;whnf
   refine t_call (h_spec_mvMade p p1 p2) fun r1 => ?_
   conv=>lhs;whnf
   refine t_call (h_spec_mvThree _ _ _ r1 (by rfl)) fun r2 => ?_
   conv=>lhs;whnf
   refine t_cond ?_ ?_
   ·conv=>lhs;whnf
    exact t_ret (by rfl)
   ·conv=>lhs;whnf
    refine t_call (h_spec_mvList _ _ r1 (by rfl)) fun r3 => ?_
    conv=>lhs;whnf
    refine t_call (h_spec_l1Same _ _ _ r3 (by rfl) _ _ _ a (by rfl)) fun r4 => ?_
    conv=>lhs;whnf
    refine t_cond ?_ ?_
    ·conv=>lhs;whnf
     exact t_ret (by rfl)
    ·conv=>lhs;whnf
     exact t_ret (by rfl)
noncomputable def spec_l1Cur_move_l0 (L : Nat) (a_0 : List Int) (r : Int × Int × Int) (r1 : Int × Int × Int) : Nat → Int → Int → Int → Int → Int → Int → Int → Option (Int × Int × Int × Int × Int × Int × Int × Int)
  | 0, _, _, _, _, _, _, _ => none
  | m + 1, v4, b0_1, b0_2, b2_0, b2_1, b2_2, b2_3 => bif ilt 0 v4 then (gbind (spec_l1Cur_pick L a_0 b0_1 b0_2 3) fun r3 => gbind (spec_l1Cur_pick L a_0 r3.2.1 r3.2.2 3) fun r4 => bif ieq r4.1 0 then (spec_l1Cur_move_l0 L a_0 r r1 m (wr .i64 (isub v4 1)) r4.2.1 r4.2.2 (wr .i64 (iadd b2_0 (wr .i64 (imul (wr .i64 (isub r3.1 1)) b2_2)))) (wr .i64 (iadd b2_1 (wr .i64 (imul (wr .i64 (isub r3.1 1)) b2_3)))) b2_2 b2_3) else (bif ieq r4.1 1 then (spec_l1Cur_move_l0 L a_0 r r1 m (wr .i64 (isub v4 1)) r4.2.1 r4.2.2 b2_0 b2_1 (wr .i64 (iadd b2_2 (wr .i64 (imul (wr .i64 (isub r3.1 1)) b2_0)))) (wr .i64 (iadd b2_3 (wr .i64 (imul (wr .i64 (isub r3.1 1)) b2_1))))) else (spec_l1Cur_move_l0 L a_0 r r1 m (wr .i64 (isub v4 1)) r4.2.1 r4.2.2 (wr .i64 (isub 0 b2_0)) (wr .i64 (isub 0 b2_1)) b2_2 b2_3))) else (gbind (spec_l1Cur_pick L a_0 b0_1 b0_2 14) fun r5 => bif ieq r5.1 0 then (gbind (spec_l1Cur_among_v2 L a_0 r5.2.1 r5.2.2 (0 :: (2 :: (21 :: (4611686018427387904 :: []))))) fun r6 => some ((r6.1, b2_1, b2_2, b2_3, wr .i64 (isub r.1 3), wr .i64 (isub r1.1 3), r6.2.1, r6.2.2.1))) else (bif ieq r5.1 1 then (gbind (spec_l1Cur_among_v2 L a_0 r5.2.1 r5.2.2 (80 :: (-80 :: (81 :: (-9223372036854775808 :: []))))) fun r7 => some ((b2_0, b2_1, b2_2, b2_3, r7.1, wr .i64 (isub r1.1 3), r7.2.1, r7.2.2.1))) else (some ((b2_0, b2_1, b2_2, b2_3, wr .i64 (isub r.1 3), wr .i64 (isub r1.1 3), r5.2.1, r5.2.2)))))
noncomputable def spec_l1Cur_move (L : Nat) (a_0 : List Int) (a_1 : Int) (a_2 : Int) : Option (Int × Int × Int × Int × Int × Int × Int × Int) := gbind (spec_l1Cur_pick L a_0 a_1 a_2 7) fun r => gbind (spec_l1Cur_pick L a_0 r.2.1 r.2.2 7) fun r1 => gbind (spec_l1Cur_pick L a_0 r1.2.1 r1.2.2 4) fun r2 => spec_l1Cur_move_l0 L a_0 r r1 L r2.1 r2.2.1 r2.2.2 1 0 0 1
def spec_l1Cur_move_ok (L : Nat) (C : CF) : Prop := ∀ (oa_0 : Bool) (ca_0 : Bool) (x_a_0 : List AV) (a_0 : List Int) (_ : x_a_0 = List.map eU a_0) (a_1 : Int) (a_2 : Int), C 68 ([.ptr 0 0 0 3]) ([.box (.agg [.lst oa_0 ca_0 1 x_a_0, .int .i64 a_1, .int .u64 a_2])]) = Option.map (fun r : Int × Int × Int × Int × Int × Int × Int × Int => ((.agg [.int .i64 (r.1), .int .i64 (r.2.1), .int .i64 (r.2.2.1), .int .i64 (r.2.2.2.1), .int .i64 (r.2.2.2.2.1), .int .i64 (r.2.2.2.2.2.1)], [.box (.agg [.lst oa_0 ca_0 1 x_a_0, .int .i64 (r.2.2.2.2.2.2.1), .int .u64 (r.2.2.2.2.2.2.2)])]) : AV × List Blk)) (spec_l1Cur_move L a_0 a_1 a_2)
theorem spec_l1Cur_move_run (L : Nat) (C : CF) (h_spec_l1Cur_pick : spec_l1Cur_pick_ok L C) (h_spec_l1Cur_among_v2 : spec_l1Cur_among_v2_ok L C) : ∀ (oa_0 : Bool) (ca_0 : Bool) (x_a_0 : List AV) (a_0 : List Int) (_ : x_a_0 = List.map eU a_0) (a_1 : Int) (a_2 : Int), run T C sh (keep 68) L Tryz.f68 ([.ptr 0 0 0 3]) ([.box (.agg [.lst oa_0 ca_0 1 x_a_0, .int .i64 a_1, .int .u64 a_2])]) = Option.map (fun r : Int × Int × Int × Int × Int × Int × Int × Int => ((.agg [.int .i64 (r.1), .int .i64 (r.2.1), .int .i64 (r.2.2.1), .int .i64 (r.2.2.2.1), .int .i64 (r.2.2.2.2.1), .int .i64 (r.2.2.2.2.2.1)], [.box (.agg [.lst oa_0 ca_0 1 x_a_0, .int .i64 (r.2.2.2.2.2.2.1), .int .u64 (r.2.2.2.2.2.2.2)])]) : AV × List Blk)) (spec_l1Cur_move L a_0 a_1 a_2) := by
 intro oa_0 ca_0 x_a_0 a_0 hx_a_0 a_1 a_2
 subst hx_a_0
 unfold spec_l1Cur_move
 conv=>lhs;whnf
 refine t_call (h_spec_l1Cur_pick _ _ _ a_0 (by rfl) a_1 a_2 7) fun r => ?_
 conv=>lhs;whnf
 refine t_call (h_spec_l1Cur_pick _ _ _ a_0 (by rfl) r.2.1 r.2.2 7) fun r1 => ?_
 conv=>lhs;whnf
 refine t_call (h_spec_l1Cur_pick _ _ _ a_0 (by rfl) r1.2.1 r1.2.2 4) fun r2 => ?_
 conv=>lhs;whnf
 refine t_loop (fun (⟨v4, b0_1, b0_2, b2_0, b2_1, b2_2, b2_3⟩ : Int × Int × Int × Int × Int × Int × Int) => (AV.ptr 0 0 0 3 :: AV.top :: AV.ptr 1 0 0 6 :: AV.ptr 2 0 0 6 :: AV.int .i64 v4 :: tops 78, [Blk.box (AV.agg [AV.lst oa_0 ca_0 1 (List.map eU a_0), AV.int .i64 b0_1, AV.int IntKind.u64 b0_2]), Blk.box (AV.agg [AV.int .i64 0, AV.int .i64 0, AV.int .i64 0, AV.int .i64 0, AV.int .i64 0, AV.int .i64 0]), Blk.box (AV.agg [AV.int .i64 b2_0, AV.int .i64 b2_1, AV.int .i64 b2_2, AV.int .i64 b2_3, AV.int .i64 (wr .i64 (isub r.1 3)), AV.int .i64 (wr .i64 (isub r1.1 3))])])) (fun m (⟨v4, b0_1, b0_2, b2_0, b2_1, b2_2, b2_3⟩ : Int × Int × Int × Int × Int × Int × Int) => spec_l1Cur_move_l0 L a_0 r r1 m v4 b0_1 b0_2 b2_0 b2_1 b2_2 b2_3) (fun _ => rfl) (fun m s rec hrec => ?_) L ((r2.1, r2.2.1, r2.2.2, 1, 0, 0, 1)) ?_ ?_
 rotate_left
 ·rfl
 ·rfl
 obtain ⟨v4, b0_1, b0_2, b2_0, b2_1, b2_2, b2_3⟩ := s
 show _ = Option.map _ (spec_l1Cur_move_l0 L a_0 r r1 (m + 1) v4 b0_1 b0_2 b2_0 b2_1 b2_2 b2_3)
 rw [spec_l1Cur_move_l0.eq_2]
 conv=>lhs;whnf
 refine t_cond ?_ ?_
 ·conv=>lhs;whnf
  refine t_call (h_spec_l1Cur_pick _ _ _ a_0 (by rfl) b0_1 b0_2 3) fun r3 => ?_
  conv=>lhs;whnf
  refine t_call (h_spec_l1Cur_pick _ _ _ a_0 (by rfl) r3.2.1 r3.2.2 3) fun r4 => ?_
  conv=>lhs;whnf
  refine t_cond ?_ ?_
  ·conv=>lhs;whnf
   exact hrec ((wr .i64 (isub v4 1), r4.2.1, r4.2.2, wr .i64 (iadd b2_0 (wr .i64 (imul (wr .i64 (isub r3.1 1)) b2_2))), wr .i64 (iadd b2_1 (wr .i64 (imul (wr .i64 (isub r3.1 1)) b2_3))), b2_2, b2_3)) _ _ (by rfl) (by rfl)
  ·conv=>lhs;whnf
   refine t_cond ?_ ?_
   ·conv=>lhs;whnf
    exact hrec ((wr .i64 (isub v4 1), r4.2.1, r4.2.2, b2_0, b2_1, wr .i64 (iadd b2_2 (wr .i64 (imul (wr .i64 (isub r3.1 1)) b2_0))), wr .i64 (iadd b2_3 (wr .i64 (imul (wr .i64 (isub r3.1 1)) b2_1))))) _ _ (by rfl) (by rfl)
   ·conv=>lhs;whnf
    exact hrec ((wr .i64 (isub v4 1), r4.2.1, r4.2.2, wr .i64 (isub 0 b2_0), wr .i64 (isub 0 b2_1), b2_2, b2_3)) _ _ (by rfl) (by rfl)
 ·conv=>lhs;whnf
  refine t_call (h_spec_l1Cur_pick _ _ _ a_0 (by rfl) b0_1 b0_2 14) fun r5 => ?_
  conv=>lhs;whnf
  refine t_cond ?_ ?_
  ·conv=>lhs;whnf
   refine t_call (h_spec_l1Cur_among_v2 _ _ _ a_0 (by rfl) r5.2.1 r5.2.2 _ (0 :: (2 :: (21 :: (4611686018427387904 :: [])))) (by rfl)) fun r6 => ?_
   conv=>lhs;whnf
   exact t_ret (by rfl)
  ·conv=>lhs;whnf
   refine t_cond ?_ ?_
   ·conv=>lhs;whnf
    refine t_call (h_spec_l1Cur_among_v2 _ _ _ a_0 (by rfl) r5.2.1 r5.2.2 _ (80 :: (-80 :: (81 :: (-9223372036854775808 :: [])))) (by rfl)) fun r7 => ?_
    conv=>lhs;whnf
    exact t_ret (by rfl)
   ·conv=>lhs;whnf
    exact t_ret (by rfl)
noncomputable def spec_mvGood (L : Nat) (a_0 : Int) (a_1 : Int) (a_2 : Int) (a_3 : Int) (a_4 : Int) (a_5 : Int) : Option (Bool) := gbind (spec_l1All L (a_0 :: (a_1 :: (a_2 :: (a_3 :: [])))) (-20) 20) fun r => bif r then (gbind (spec_l1All L (a_4 :: (a_5 :: [])) (-80) 80) fun r1 => bif r1 then (gbind (spec_l1Abs L (wr .i64 (isub (wr .i64 (imul a_0 a_3)) (wr .i64 (imul a_1 a_2))))) fun r2 => some (ieq r2 1)) else (some false)) else (some false)
def spec_mvGood_ok (L : Nat) (C : CF) : Prop := ∀ (a_0 : Int) (a_1 : Int) (a_2 : Int) (a_3 : Int) (a_4 : Int) (a_5 : Int), C 105 ([.agg [.int .i64 a_0, .int .i64 a_1, .int .i64 a_2, .int .i64 a_3, .int .i64 a_4, .int .i64 a_5]]) ([]) = Option.map (fun r : Bool => ((.bool r, []) : AV × List Blk)) (spec_mvGood L a_0 a_1 a_2 a_3 a_4 a_5)
theorem spec_mvGood_run (L : Nat) (C : CF) (h_spec_l1Abs : spec_l1Abs_ok L C) (h_spec_l1All : spec_l1All_ok L C) : ∀ (a_0 : Int) (a_1 : Int) (a_2 : Int) (a_3 : Int) (a_4 : Int) (a_5 : Int), run T C sh (keep 105) L Tryz.f105 ([.agg [.int .i64 a_0, .int .i64 a_1, .int .i64 a_2, .int .i64 a_3, .int .i64 a_4, .int .i64 a_5]]) ([]) = Option.map (fun r : Bool => ((.bool r, []) : AV × List Blk)) (spec_mvGood L a_0 a_1 a_2 a_3 a_4 a_5) := by
 intro a_0 a_1 a_2 a_3 a_4 a_5
 unfold spec_mvGood
 conv=>lhs;whnf
 refine t_call (h_spec_l1All _ _ _ (a_0 :: (a_1 :: (a_2 :: (a_3 :: [])))) (by rfl) (-20) 20) fun r => ?_
 conv=>lhs;whnf
 refine t_cond ?_ ?_
 ·conv=>lhs;whnf
  refine t_call (h_spec_l1All _ _ _ (a_4 :: (a_5 :: [])) (by rfl) (-80) 80) fun r1 => ?_
  conv=>lhs;whnf
  refine t_cond ?_ ?_
  ·conv=>lhs;whnf
   refine t_call (h_spec_l1Abs (wr .i64 (isub (wr .i64 (imul a_0 a_3)) (wr .i64 (imul a_1 a_2))))) fun r2 => ?_
   conv=>lhs;whnf
   exact t_ret (by rfl)
  ·conv=>lhs;whnf
   exact t_ret (by rfl)
 ·conv=>lhs;whnf
  exact t_ret (by rfl)
noncomputable def spec_pgMap_l0 (L : Nat) (a : List Pt) (b : Int) (c : Int) (d : Int) (e : Int) (f : Int) (g : Int) : Nat → Int → (List Pt) → Option ((List Pt) × Bool)
  | 0, _, _ => none
  | m + 1, v22, w0 => bif ilt v22 (ilen (List.map ep a)) then (gbind (lget a v22) fun p => gbind (spec_pgIs L (wr .i64 (iadd (wr .i64 (iadd (wr .i64 (imul b p.x)) (wr .i64 (imul c p.y)))) f)) (wr .i64 (iadd (wr .i64 (iadd (wr .i64 (imul d p.x)) (wr .i64 (imul e p.y)))) g))) fun r => bif !r then (some (([], false))) else (bif fits (iadd (ilen (List.map ep w0)) (ilen [AV.agg [AV.int .i64 (wr .i64 (iadd (wr .i64 (iadd (wr .i64 (imul b p.x)) (wr .i64 (imul c p.y)))) f)), AV.int .i64 (wr .i64 (iadd (wr .i64 (iadd (wr .i64 (imul d p.x)) (wr .i64 (imul e p.y)))) g))]])) 16 then (spec_pgMap_l0 L a b c d e f g m (wr .i64 (iadd v22 1)) (lcat w0 ({ x := wr .i64 (iadd (wr .i64 (iadd (wr .i64 (imul b p.x)) (wr .i64 (imul c p.y)))) f), y := wr .i64 (iadd (wr .i64 (iadd (wr .i64 (imul d p.x)) (wr .i64 (imul e p.y)))) g) } :: []))) else (none))) else (some ((w0, true)))
noncomputable def spec_pgMap (L : Nat) (a : List Pt) (b : Int) (c : Int) (d : Int) (e : Int) (f : Int) (g : Int) : Option ((List Pt) × Bool) := spec_pgMap_l0 L a b c d e f g L 0 []
def spec_pgMap_ok (L : Nat) (C : CF) : Prop := ∀ (oa : Bool) (ca : Bool) (x_a : List AV) (a : List Pt) (_ : x_a = List.map ep a) (b : Int) (c : Int) (d : Int) (e : Int) (f : Int) (g : Int), C 106 ([.lst oa ca 2 x_a, .int .i64 b, .int .i64 c, .int .i64 d, .int .i64 e, .int .i64 f, .int .i64 g]) ([]) = Option.map (fun r : (List Pt) × Bool => ((.tup [.frs 2 (List.map ep (r.1)), .bool (r.2)], []) : AV × List Blk)) (spec_pgMap L a b c d e f g)
theorem spec_pgMap_run (L : Nat) (C : CF) (h_spec_pgIs : spec_pgIs_ok L C) : ∀ (oa : Bool) (ca : Bool) (x_a : List AV) (a : List Pt) (_ : x_a = List.map ep a) (b : Int) (c : Int) (d : Int) (e : Int) (f : Int) (g : Int), run T C sh (keep 106) L Tryz.f106 ([.lst oa ca 2 x_a, .int .i64 b, .int .i64 c, .int .i64 d, .int .i64 e, .int .i64 f, .int .i64 g]) ([]) = Option.map (fun r : (List Pt) × Bool => ((.tup [.frs 2 (List.map ep (r.1)), .bool (r.2)], []) : AV × List Blk)) (spec_pgMap L a b c d e f g) := by
 intro oa ca x_a a hx_a b c d e f g
 subst hx_a
 unfold spec_pgMap
 conv=>lhs;whnf
 refine t_loop (fun (⟨v22, w0⟩ : Int × (List Pt)) => (AV.top :: AV.int .i64 b :: AV.int .i64 c :: AV.int .i64 d :: AV.int .i64 e :: AV.int .i64 f :: AV.int .i64 g :: topA 9 (AV.own 0 2 none false :: topA 3 (AV.lst oa ca 2 (List.map ep a) :: AV.int .i64 (ilen (List.map ep a)) :: AV.int .i64 v22 :: tops 35)), [Blk.rows Mode.live 2 (List.map ep w0)])) (fun m (⟨v22, w0⟩ : Int × (List Pt)) => spec_pgMap_l0 L a b c d e f g m v22 w0) (fun _ => rfl) (fun m s rec hrec => ?_) L ((0, [])) ?_ ?_
 rotate_left
 ·rfl
 ·rfl
 obtain ⟨v22, w0⟩ := s
 show _ = Option.map _ (spec_pgMap_l0 L a b c d e f g (m + 1) v22 w0)
 rw [spec_pgMap_l0.eq_2]
 conv=>lhs;whnf
 refine t_cond ?_ ?_
 ·conv=>lhs;whnf
  refine t_get (en := ep) (l := a) (by rfl) fun p => ?_
  conv=>lhs;whnf
  refine t_call (h_spec_pgIs (wr .i64 (iadd (wr .i64 (iadd (wr .i64 (imul b p.x)) (wr .i64 (imul c p.y)))) f)) (wr .i64 (iadd (wr .i64 (iadd (wr .i64 (imul d p.x)) (wr .i64 (imul e p.y)))) g))) fun r => ?_
  conv=>lhs;whnf
  refine t_cond ?_ ?_
  ·conv=>lhs;whnf
   exact t_ret (by rfl)
  ·conv=>lhs;whnf
   refine t_cond ?_ ?_
   ·conv=>lhs;whnf
    exact hrec ((wr .i64 (iadd v22 1), lcat w0 ({ x := wr .i64 (iadd (wr .i64 (iadd (wr .i64 (imul b p.x)) (wr .i64 (imul c p.y)))) f), y := wr .i64 (iadd (wr .i64 (iadd (wr .i64 (imul d p.x)) (wr .i64 (imul e p.y)))) g) } :: []))) _ _ (by rfl) (by first | rfl | simp only [ml] <;> rfl)
   ·conv=>lhs;whnf
    exact t_none
 ·conv=>lhs;whnf
  exact t_ret (by rfl)
noncomputable def spec_MoveCorners (L : Nat) (a_0 : Int) (a_1 : Int) (a_2 : Int) (a_3 : Int) (a_4 : Int) (a_5 : Int) (b : List Pt) : Option ((List Pt) × Bool) := gbind (spec_mvGood L a_0 a_1 a_2 a_3 a_4 a_5) fun r => bif !r then (some (([], false))) else (gbind (spec_pgGood L b) fun r1 => bif !r1 then (some (([], false))) else (gbind (spec_pgMap L b a_0 a_1 a_2 a_3 a_4 a_5) fun r2 => some ((r2.1, r2.2))))
def spec_MoveCorners_ok (L : Nat) (C : CF) : Prop := ∀ (a_0 : Int) (a_1 : Int) (a_2 : Int) (a_3 : Int) (a_4 : Int) (a_5 : Int) (ob : Bool) (cb : Bool) (x_b : List AV) (b : List Pt) (_ : x_b = List.map ep b), C 69 ([.agg [.int .i64 a_0, .int .i64 a_1, .int .i64 a_2, .int .i64 a_3, .int .i64 a_4, .int .i64 a_5], .lst ob cb 2 x_b]) ([]) = Option.map (fun r : (List Pt) × Bool => ((.tup [.frs 2 (List.map ep (r.1)), .bool (r.2)], []) : AV × List Blk)) (spec_MoveCorners L a_0 a_1 a_2 a_3 a_4 a_5 b)
theorem spec_MoveCorners_run (L : Nat) (C : CF) (h_spec_pgGood : spec_pgGood_ok L C) (h_spec_mvGood : spec_mvGood_ok L C) (h_spec_pgMap : spec_pgMap_ok L C) : ∀ (a_0 : Int) (a_1 : Int) (a_2 : Int) (a_3 : Int) (a_4 : Int) (a_5 : Int) (ob : Bool) (cb : Bool) (x_b : List AV) (b : List Pt) (_ : x_b = List.map ep b), run T C sh (keep 69) L Tryz.f69 ([.agg [.int .i64 a_0, .int .i64 a_1, .int .i64 a_2, .int .i64 a_3, .int .i64 a_4, .int .i64 a_5], .lst ob cb 2 x_b]) ([]) = Option.map (fun r : (List Pt) × Bool => ((.tup [.frs 2 (List.map ep (r.1)), .bool (r.2)], []) : AV × List Blk)) (spec_MoveCorners L a_0 a_1 a_2 a_3 a_4 a_5 b) := by
 intro a_0 a_1 a_2 a_3 a_4 a_5 ob cb x_b b hx_b
 subst hx_b
 unfold spec_MoveCorners
 conv=>lhs;whnf
 refine t_call (h_spec_mvGood a_0 a_1 a_2 a_3 a_4 a_5) fun r => ?_
 conv=>lhs;whnf
 refine t_cond ?_ ?_
 ·conv=>lhs;whnf
  exact t_ret (by rfl)
 ·conv=>lhs;whnf
  refine t_call (h_spec_pgGood _ _ _ b (by rfl)) fun r1 => ?_
  conv=>lhs;whnf
  refine t_cond ?_ ?_
  ·conv=>lhs;whnf
   exact t_ret (by rfl)
  ·conv=>lhs;whnf
   refine t_call (h_spec_pgMap _ _ _ b (by rfl) a_0 a_1 a_2 a_3 a_4 a_5) fun r2 => ?_
   conv=>lhs;whnf
   exact t_ret (by rfl)
noncomputable def spec_DrawAreAlike (L : Nat) (a : List Int) : Option ((List Pt) × (List Pt)) := gbind (spec_l1Cur_polygon L a 0 0 4) fun r => gbind (spec_l1Cur_move L a r.2.1 r.2.2) fun r1 => gbind (spec_MoveCorners L r1.1 r1.2.1 r1.2.2.1 r1.2.2.2.1 r1.2.2.2.2.1 r1.2.2.2.2.2.1 r.1) fun r2 => bif r2.2 then (gbind (spec_l1Cur_one L a r1.2.2.2.2.2.2.1 r1.2.2.2.2.2.2.2 4) fun r3 => bif !r3.1 then (gbind (spec_l1Cur_pick L a r3.2.1 r3.2.2 (ilen (List.map ep r2.1))) fun r4 => bif ile 0 r4.1 && ile r4.1 (ilen (List.map ep r2.1)) then (bif ile 0 r4.1 && ile r4.1 (ilen (List.map ep r2.1)) then (bif fits (iadd (ilen ([] : List AV)) (ilen (lsub (List.map ep r2.1) r4.1 (iadd r4.1 (isub (ilen (List.map ep r2.1)) r4.1))))) 16 then (bif fits (iadd (ilen (lcat [] (lsub (List.map ep r2.1) r4.1 (iadd r4.1 (isub (ilen (List.map ep r2.1)) r4.1))))) (ilen (lsub (List.map ep r2.1) 0 (iadd 0 r4.1)))) 16 then (gbind (spec_l1Cur_one L a r4.2.1 r4.2.2 2) fun r5 => bif r5.1 then (gbind (spec_pgBack L (lcat (lcat [] (lsub r2.1 r4.1 (iadd r4.1 (isub (ilen (List.map ep r2.1)) r4.1)))) (lsub r2.1 0 (iadd 0 r4.1)))) fun r6 => some ((r.1, r6))) else (some ((r.1, lcat (lcat [] (lsub r2.1 r4.1 (iadd r4.1 (isub (ilen (List.map ep r2.1)) r4.1)))) (lsub r2.1 0 (iadd 0 r4.1)))))) else (none)) else (none)) else (none)) else (none)) else (gbind (spec_l1Cur_polygon L a r3.2.1 r3.2.2 4) fun r7 => some ((r.1, r7.1)))) else (gbind (spec_l1Cur_polygon L a r1.2.2.2.2.2.2.1 r1.2.2.2.2.2.2.2 4) fun r8 => some ((r.1, r8.1)))
def spec_DrawAreAlike_ok (L : Nat) (C : CF) : Prop := ∀ (oa : Bool) (ca : Bool) (x_a : List AV) (a : List Int) (_ : x_a = List.map eU a), C 22 ([.lst oa ca 1 x_a]) ([]) = Option.map (fun r : (List Pt) × (List Pt) => ((.tup [.frs 2 (List.map ep (r.1)), .frs 2 (List.map ep (r.2))], []) : AV × List Blk)) (spec_DrawAreAlike L a)
theorem spec_DrawAreAlike_run (L : Nat) (C : CF) (h_spec_l1Cur_pick : spec_l1Cur_pick_ok L C) (h_spec_l1Cur_one : spec_l1Cur_one_ok L C) (h_spec_pgBack : spec_pgBack_ok L C) (h_spec_l1Cur_polygon : spec_l1Cur_polygon_ok L C) (h_spec_l1Cur_move : spec_l1Cur_move_ok L C) (h_spec_MoveCorners : spec_MoveCorners_ok L C) : ∀ (oa : Bool) (ca : Bool) (x_a : List AV) (a : List Int) (_ : x_a = List.map eU a), run T C sh (keep 22) L Tryz.f22 ([.lst oa ca 1 x_a]) ([]) = Option.map (fun r : (List Pt) × (List Pt) => ((.tup [.frs 2 (List.map ep (r.1)), .frs 2 (List.map ep (r.2))], []) : AV × List Blk)) (spec_DrawAreAlike L a) := by
 intro oa ca x_a a hx_a
 subst hx_a
 unfold spec_DrawAreAlike
 conv=>lhs;whnf
 refine t_call (h_spec_l1Cur_polygon _ _ _ a (by rfl) 0 0 4) fun r => ?_
 conv=>lhs;whnf
 refine t_call (h_spec_l1Cur_move _ _ _ a (by rfl) r.2.1 r.2.2) fun r1 => ?_
 conv=>lhs;whnf
 refine t_call (h_spec_MoveCorners r1.1 r1.2.1 r1.2.2.1 r1.2.2.2.1 r1.2.2.2.2.1 r1.2.2.2.2.2.1 _ _ _ r.1 (by rfl)) fun r2 => ?_
 conv=>lhs;whnf
 refine t_cond ?_ ?_
 ·conv=>lhs;whnf
  refine t_call (h_spec_l1Cur_one _ _ _ a (by rfl) r1.2.2.2.2.2.2.1 r1.2.2.2.2.2.2.2 4) fun r3 => ?_
  conv=>lhs;whnf
  refine t_cond ?_ ?_
  ·conv=>lhs;whnf
   refine t_call (h_spec_l1Cur_pick _ _ _ a (by rfl) r3.2.1 r3.2.2 (ilen (List.map ep r2.1))) fun r4 => ?_
   conv=>lhs;whnf
   refine t_cond ?_ ?_
   ·conv=>lhs;whnf
    refine t_cond ?_ ?_
    ·conv=>lhs;whnf
     refine t_cond ?_ ?_
     ·conv=>lhs;whnf
      refine t_cond ?_ ?_
      ·conv=>lhs;whnf
       refine t_call (h_spec_l1Cur_one _ _ _ a (by rfl) r4.2.1 r4.2.2 2) fun r5 => ?_
       conv=>lhs;whnf
       refine t_cond ?_ ?_
       ·conv=>lhs;whnf
        refine t_call (h_spec_pgBack _ _ _ (lcat (lcat [] (lsub r2.1 r4.1 (iadd r4.1 (isub (ilen (List.map ep r2.1)) r4.1)))) (lsub r2.1 0 (iadd 0 r4.1))) (by first | rfl | simp only [ml] <;> rfl)) fun r6 => ?_
        conv=>lhs;whnf
        exact t_ret (by rfl)
       ·conv=>lhs;whnf
        exact t_ret (by first | rfl | simp only [ml] <;> rfl)
      ·conv=>lhs;whnf
       exact t_none
     ·conv=>lhs;whnf
      exact t_none
    ·conv=>lhs;whnf
     exact t_none
   ·conv=>lhs;whnf
    exact t_none
  ·conv=>lhs;whnf
   refine t_call (h_spec_l1Cur_polygon _ _ _ a (by rfl) r3.2.1 r3.2.2 4) fun r7 => ?_
   conv=>lhs;whnf
   exact t_ret (by rfl)
 ·conv=>lhs;whnf
  refine t_call (h_spec_l1Cur_polygon _ _ _ a (by rfl) r1.2.2.2.2.2.2.1 r1.2.2.2.2.2.2.2 4) fun r8 => ?_
  conv=>lhs;whnf
  exact t_ret (by rfl)
noncomputable def spec_mvAlike (L : Nat) (a : List Pt) (b : List Pt) : Option (Bool) := bif !ieq (ilen (List.map ep a)) (ilen (List.map ep b)) then (some false) else (gbind (spec_mvKind L a) fun r => gbind (spec_mvKind L b) fun r1 => gbind (spec_mvBefore L r r1) fun r2 => bif !r2 then (gbind (spec_mvBefore L r1 r) fun r3 => some (!r3)) else (some false))
def spec_mvAlike_ok (L : Nat) (C : CF) : Prop := ∀ (ca : Bool) (x_a : List AV) (a : List Pt) (_ : x_a = List.map ep a) (cb : Bool) (x_b : List AV) (b : List Pt) (_ : x_b = List.map ep b), C 72 ([.lst false ca 2 x_a, .lst false cb 2 x_b]) ([]) = Option.map (fun r : Bool => ((.bool r, []) : AV × List Blk)) (spec_mvAlike L a b)
theorem spec_mvAlike_run (L : Nat) (C : CF) (h_spec_mvBefore : spec_mvBefore_ok L C) (h_spec_mvKind : spec_mvKind_ok L C) : ∀ (ca : Bool) (x_a : List AV) (a : List Pt) (_ : x_a = List.map ep a) (cb : Bool) (x_b : List AV) (b : List Pt) (_ : x_b = List.map ep b), run T C sh (keep 72) L Tryz.f72 ([.lst false ca 2 x_a, .lst false cb 2 x_b]) ([]) = Option.map (fun r : Bool => ((.bool r, []) : AV × List Blk)) (spec_mvAlike L a b) := by
 intro ca x_a a hx_a cb x_b b hx_b
 subst hx_a
 subst hx_b
 unfold spec_mvAlike
 conv=>lhs;whnf
 refine t_cond ?_ ?_
 ·conv=>lhs;whnf
  exact t_ret (by rfl)
 ·conv=>lhs;whnf
  refine t_call (h_spec_mvKind _ _ a (by rfl)) fun r => ?_
  conv=>lhs;whnf
  refine t_call (h_spec_mvKind _ _ b (by rfl)) fun r1 => ?_
  conv=>lhs;whnf
  refine t_call (h_spec_mvBefore _ _ _ r (by rfl) _ _ _ r1 (by rfl)) fun r2 => ?_
  conv=>lhs;whnf
  refine t_cond ?_ ?_
  ·conv=>lhs;whnf
   refine t_call (h_spec_mvBefore _ _ _ r1 (by rfl) _ _ _ r (by rfl)) fun r3 => ?_
   conv=>lhs;whnf
   exact t_ret (by rfl)
  ·conv=>lhs;whnf
   exact t_ret (by rfl)
noncomputable def spec_AreAlike (L : Nat) (a : List Pt) (b : List Pt) : Option (Bool × Bool) := gbind (spec_pgGood L a) fun r => bif !r then (some ((false, false))) else (gbind (spec_pgGood L b) fun r1 => bif !r1 then (some ((false, false))) else (gbind (spec_mvAlike L a b) fun r2 => some ((r2, true))))
def spec_AreAlike_ok (L : Nat) (C : CF) : Prop := ∀ (ca : Bool) (x_a : List AV) (a : List Pt) (_ : x_a = List.map ep a) (cb : Bool) (x_b : List AV) (b : List Pt) (_ : x_b = List.map ep b), C 23 ([.lst false ca 2 x_a, .lst false cb 2 x_b]) ([]) = Option.map (fun r : Bool × Bool => ((.tup [.bool (r.1), .bool (r.2)], []) : AV × List Blk)) (spec_AreAlike L a b)
theorem spec_AreAlike_run (L : Nat) (C : CF) (h_spec_pgGood : spec_pgGood_ok L C) (h_spec_mvAlike : spec_mvAlike_ok L C) : ∀ (ca : Bool) (x_a : List AV) (a : List Pt) (_ : x_a = List.map ep a) (cb : Bool) (x_b : List AV) (b : List Pt) (_ : x_b = List.map ep b), run T C sh (keep 23) L Tryz.f23 ([.lst false ca 2 x_a, .lst false cb 2 x_b]) ([]) = Option.map (fun r : Bool × Bool => ((.tup [.bool (r.1), .bool (r.2)], []) : AV × List Blk)) (spec_AreAlike L a b) := by
 intro ca x_a a hx_a cb x_b b hx_b
 subst hx_a
 subst hx_b
 unfold spec_AreAlike
 conv=>lhs;whnf
 refine t_call (h_spec_pgGood _ _ _ a (by rfl)) fun r => ?_
 conv=>lhs;whnf
 refine t_cond ?_ ?_
 ·conv=>lhs;whnf
  exact t_ret (by rfl)
 ·conv=>lhs;whnf
  refine t_call (h_spec_pgGood _ _ _ b (by rfl)) fun r1 => ?_
  conv=>lhs;whnf
  refine t_cond ?_ ?_
  ·conv=>lhs;whnf
   exact t_ret (by rfl)
  ·conv=>lhs;whnf
   refine t_call (h_spec_mvAlike _ _ a (by rfl) _ _ b (by rfl)) fun r2 => ?_
   conv=>lhs;whnf
   exact t_ret (by rfl)
noncomputable def impl_between (L : Nat) (a : List Pt) (b : List Pt) : Option (Int × Int × Int × Int × Int × Int) := gbind (lget a 1) fun p => gbind (lget a 0) fun p1 => gbind (impl_Peg_less L p.x p.y p1.x p1.y) fun r => gbind (lget a 2) fun p2 => gbind (lget a 0) fun p3 => gbind (impl_Peg_less L p2.x p2.y p3.x p3.y) fun r1 => gbind (lget b 1) fun p4 => gbind (lget b 0) fun p5 => gbind (impl_Peg_less L p4.x p4.y p5.x p5.y) fun r2 => gbind (lget b 2) fun p6 => gbind (lget b 0) fun p7 => gbind (impl_Peg_less L p6.x p6.y p7.x p7.y) fun r3 => gbind (impl_cross L r.1 r.2 r1.1 r1.2) fun r4 => bif ieq r4 0 then (none) else (bif ieq r4 0 then (none) else (bif ieq r4 0 then (none) else (bif ieq r4 0 then (none) else (gbind (lget a 0) fun p8 => gbind (impl_Move_bring L (wr .i64 (iquo (wr .i64 (isub (wr .i64 (imul r2.1 r1.2)) (wr .i64 (imul r3.1 r.2)))) r4)) (wr .i64 (iquo (wr .i64 (isub (wr .i64 (imul r3.1 r.1)) (wr .i64 (imul r2.1 r1.1)))) r4)) (wr .i64 (iquo (wr .i64 (isub (wr .i64 (imul r2.2 r1.2)) (wr .i64 (imul r3.2 r.2)))) r4)) (wr .i64 (iquo (wr .i64 (isub (wr .i64 (imul r3.2 r.1)) (wr .i64 (imul r2.2 r1.1)))) r4)) 0 0 p8.x p8.y) fun r5 => gbind (lget b 0) fun p9 => gbind (lget b 0) fun p10 => some ((wr .i64 (iquo (wr .i64 (isub (wr .i64 (imul r2.1 r1.2)) (wr .i64 (imul r3.1 r.2)))) r4), wr .i64 (iquo (wr .i64 (isub (wr .i64 (imul r3.1 r.1)) (wr .i64 (imul r2.1 r1.1)))) r4), wr .i64 (iquo (wr .i64 (isub (wr .i64 (imul r2.2 r1.2)) (wr .i64 (imul r3.2 r.2)))) r4), wr .i64 (iquo (wr .i64 (isub (wr .i64 (imul r3.2 r.1)) (wr .i64 (imul r2.2 r1.1)))) r4), wr .i64 (isub p10.x r5.1), wr .i64 (isub p9.y r5.2)))))))
def impl_between_ok (L : Nat) (C : CF) : Prop := ∀ (oa : Bool) (ca : Bool) (x_a : List AV) (a : List Pt) (_ : x_a = List.map ep a) (ob : Bool) (cb : Bool) (x_b : List AV) (b : List Pt) (_ : x_b = List.map ep b), C 76 ([.lst oa ca 2 x_a, .lst ob cb 2 x_b]) ([]) = Option.map (fun r : Int × Int × Int × Int × Int × Int => ((.agg [.int .i64 (r.1), .int .i64 (r.2.1), .int .i64 (r.2.2.1), .int .i64 (r.2.2.2.1), .int .i64 (r.2.2.2.2.1), .int .i64 (r.2.2.2.2.2)], []) : AV × List Blk)) (impl_between L a b)
theorem impl_between_run (L : Nat) (C : CF) (h_impl_Peg_less : impl_Peg_less_ok L C) (h_impl_cross : impl_cross_ok L C) (h_impl_Move_bring : impl_Move_bring_ok L C) : ∀ (oa : Bool) (ca : Bool) (x_a : List AV) (a : List Pt) (_ : x_a = List.map ep a) (ob : Bool) (cb : Bool) (x_b : List AV) (b : List Pt) (_ : x_b = List.map ep b), run T C sh (keep 76) L Tryz.f76 ([.lst oa ca 2 x_a, .lst ob cb 2 x_b]) ([]) = Option.map (fun r : Int × Int × Int × Int × Int × Int => ((.agg [.int .i64 (r.1), .int .i64 (r.2.1), .int .i64 (r.2.2.1), .int .i64 (r.2.2.2.1), .int .i64 (r.2.2.2.2.1), .int .i64 (r.2.2.2.2.2)], []) : AV × List Blk)) (impl_between L a b) := by
 intro oa ca x_a a hx_a ob cb x_b b hx_b
 subst hx_a
 subst hx_b
 unfold impl_between
 conv=>lhs;whnf
 refine t_get (en := ep) (l := a) (by rfl) fun p => ?_
 conv=>lhs;whnf
 refine t_get (en := ep) (l := a) (by rfl) fun p1 => ?_
 conv=>lhs;whnf
 refine t_call (h_impl_Peg_less p.x p.y p1.x p1.y) fun r => ?_
 conv=>lhs;whnf
 refine t_get (en := ep) (l := a) (by rfl) fun p2 => ?_
 conv=>lhs;whnf
 refine t_get (en := ep) (l := a) (by rfl) fun p3 => ?_
 conv=>lhs;whnf
 refine t_call (h_impl_Peg_less p2.x p2.y p3.x p3.y) fun r1 => ?_
 conv=>lhs;whnf
 refine t_get (en := ep) (l := b) (by rfl) fun p4 => ?_
 conv=>lhs;whnf
 refine t_get (en := ep) (l := b) (by rfl) fun p5 => ?_
 conv=>lhs;whnf
 refine t_call (h_impl_Peg_less p4.x p4.y p5.x p5.y) fun r2 => ?_
 conv=>lhs;whnf
 refine t_get (en := ep) (l := b) (by rfl) fun p6 => ?_
 conv=>lhs;whnf
 refine t_get (en := ep) (l := b) (by rfl) fun p7 => ?_
 conv=>lhs;whnf
 refine t_call (h_impl_Peg_less p6.x p6.y p7.x p7.y) fun r3 => ?_
 conv=>lhs;whnf
 refine t_call (h_impl_cross r.1 r.2 r1.1 r1.2) fun r4 => ?_
 conv=>lhs;whnf
 refine t_cond ?_ ?_
 ·conv=>lhs;whnf
  exact t_none
 ·conv=>lhs;whnf
  refine t_cond ?_ ?_
  ·conv=>lhs;whnf
   exact t_none
  ·conv=>lhs;whnf
   refine t_cond ?_ ?_
   ·conv=>lhs;whnf
    exact t_none
   ·conv=>lhs;whnf
    refine t_cond ?_ ?_
    ·conv=>lhs;whnf
     exact t_none
    ·conv=>lhs;whnf
     refine t_get (en := ep) (l := a) (by rfl) fun p8 => ?_
     conv=>lhs;whnf
     refine t_call (h_impl_Move_bring (wr .i64 (iquo (wr .i64 (isub (wr .i64 (imul r2.1 r1.2)) (wr .i64 (imul r3.1 r.2)))) r4)) (wr .i64 (iquo (wr .i64 (isub (wr .i64 (imul r3.1 r.1)) (wr .i64 (imul r2.1 r1.1)))) r4)) (wr .i64 (iquo (wr .i64 (isub (wr .i64 (imul r2.2 r1.2)) (wr .i64 (imul r3.2 r.2)))) r4)) (wr .i64 (iquo (wr .i64 (isub (wr .i64 (imul r3.2 r.1)) (wr .i64 (imul r2.2 r1.1)))) r4)) 0 0 p8.x p8.y) fun r5 => ?_
     conv=>lhs;whnf
     refine t_get (en := ep) (l := b) (by rfl) fun p9 => ?_
     conv=>lhs;whnf
     refine t_get (en := ep) (l := b) (by rfl) fun p10 => ?_
     conv=>lhs;whnf
     exact t_ret (by rfl)
noncomputable def impl_size (L : Nat) (a : Int) : Option (Int) := some (imax a (wr .i64 (isub 0 a)))
def impl_size_ok (L : Nat) (C : CF) : Prop := ∀ (a : Int), C 119 ([.int .i64 a]) ([]) = Option.map (fun r : Int => ((.int .i64 r, []) : AV × List Blk)) (impl_size L a)
theorem impl_size_run (L : Nat) (C : CF) : ∀ (a : Int), run T C sh (keep 119) L Tryz.f119 ([.int .i64 a]) ([]) = Option.map (fun r : Int => ((.int .i64 r, []) : AV × List Blk)) (impl_size L a) := by
 intro a
 unfold impl_size
 conv=>lhs;whnf
 exact t_ret (by rfl)
noncomputable def impl_isWay (L : Nat) (a : Int) (b : Int) : Option (Bool) := gbind (impl_size L a) fun r => bif ile r 80 then (gbind (impl_size L b) fun r1 => bif ile r1 80 then (bif ilt (-1000) a then (some (ilt (-1000) b)) else (some false)) else (some false)) else (some false)
def impl_isWay_ok (L : Nat) (C : CF) : Prop := ∀ (a : Int) (b : Int), C 118 ([.int .i64 a, .int .i64 b]) ([]) = Option.map (fun r : Bool => ((.bool r, []) : AV × List Blk)) (impl_isWay L a b)
theorem impl_isWay_run (L : Nat) (C : CF) (h_impl_size : impl_size_ok L C) : ∀ (a : Int) (b : Int), run T C sh (keep 118) L Tryz.f118 ([.int .i64 a, .int .i64 b]) ([]) = Option.map (fun r : Bool => ((.bool r, []) : AV × List Blk)) (impl_isWay L a b) := by
 intro a b
 unfold impl_isWay
 conv=>lhs;whnf
 refine t_call (h_impl_size a) fun r => ?_
 conv=>lhs;whnf
 refine t_cond ?_ ?_
 ·conv=>lhs;whnf
  refine t_call (h_impl_size b) fun r1 => ?_
  conv=>lhs;whnf
  refine t_cond ?_ ?_
  ·conv=>lhs;whnf
   refine t_cond ?_ ?_
   ·conv=>lhs;whnf
    exact t_ret (by rfl)
   ·conv=>lhs;whnf
    exact t_ret (by rfl)
  ·conv=>lhs;whnf
   exact t_ret (by rfl)
 ·conv=>lhs;whnf
  exact t_ret (by rfl)
noncomputable def impl_Move_side (L : Nat) (a_0 : Int) (a_1 : Int) (a_2 : Int) (a_3 : Int) (a_4 : Int) (a_5 : Int) : Option (Int) := some (wr .i64 (isub (wr .i64 (imul a_0 a_3)) (wr .i64 (imul a_1 a_2))))
def impl_Move_side_ok (L : Nat) (C : CF) : Prop := ∀ (a_0 : Int) (a_1 : Int) (a_2 : Int) (a_3 : Int) (a_4 : Int) (a_5 : Int), C 120 ([.agg [.int .i64 a_0, .int .i64 a_1, .int .i64 a_2, .int .i64 a_3, .int .i64 a_4, .int .i64 a_5]]) ([]) = Option.map (fun r : Int => ((.int .i64 r, []) : AV × List Blk)) (impl_Move_side L a_0 a_1 a_2 a_3 a_4 a_5)
theorem impl_Move_side_run (L : Nat) (C : CF) : ∀ (a_0 : Int) (a_1 : Int) (a_2 : Int) (a_3 : Int) (a_4 : Int) (a_5 : Int), run T C sh (keep 120) L Tryz.f120 ([.agg [.int .i64 a_0, .int .i64 a_1, .int .i64 a_2, .int .i64 a_3, .int .i64 a_4, .int .i64 a_5]]) ([]) = Option.map (fun r : Int => ((.int .i64 r, []) : AV × List Blk)) (impl_Move_side L a_0 a_1 a_2 a_3 a_4 a_5) := by
 intro a_0 a_1 a_2 a_3 a_4 a_5
 unfold impl_Move_side
 conv=>lhs;whnf
 exact t_ret (by rfl)
noncomputable def impl_IsMove_l0 (L : Nat) (a_0 : Int) (a_1 : Int) (a_2 : Int) (a_3 : Int) (a_4 : Int) (a_5 : Int) : Nat → Int → Option Bool
  | 0, _ => none
  | m + 1, v15 => bif ilt v15 (ilen [AV.int .i64 a_0, AV.int .i64 a_1, AV.int .i64 a_2, AV.int .i64 a_3]) then (bif ile 0 v15 && ilt v15 (ilen [AV.int .i64 a_0, AV.int .i64 a_1, AV.int .i64 a_2, AV.int .i64 a_3]) then (gbind (lget (a_0 :: (a_1 :: (a_2 :: (a_3 :: [])))) v15) fun p => gbind (impl_within L p (-20) 20) fun r => bif !r then (some false) else (impl_IsMove_l0 L a_0 a_1 a_2 a_3 a_4 a_5 m (wr .i64 (iadd v15 1)))) else (none)) else (gbind (impl_isWay L a_4 a_5) fun r1 => bif r1 then (gbind (impl_Move_side L a_0 a_1 a_2 a_3 a_4 a_5) fun r2 => gbind (impl_size L r2) fun r3 => some (ieq r3 1)) else (some false))
noncomputable def impl_IsMove (L : Nat) (a_0 : Int) (a_1 : Int) (a_2 : Int) (a_3 : Int) (a_4 : Int) (a_5 : Int) : Option (Bool) := impl_IsMove_l0 L a_0 a_1 a_2 a_3 a_4 a_5 L 0
def impl_IsMove_ok (L : Nat) (C : CF) : Prop := ∀ (a_0 : Int) (a_1 : Int) (a_2 : Int) (a_3 : Int) (a_4 : Int) (a_5 : Int), C 83 ([.agg [.int .i64 a_0, .int .i64 a_1, .int .i64 a_2, .int .i64 a_3, .int .i64 a_4, .int .i64 a_5]]) ([]) = Option.map (fun r : Bool => ((.bool r, []) : AV × List Blk)) (impl_IsMove L a_0 a_1 a_2 a_3 a_4 a_5)
theorem impl_IsMove_run (L : Nat) (C : CF) (h_impl_within : impl_within_ok L C) (h_impl_size : impl_size_ok L C) (h_impl_isWay : impl_isWay_ok L C) (h_impl_Move_side : impl_Move_side_ok L C) : ∀ (a_0 : Int) (a_1 : Int) (a_2 : Int) (a_3 : Int) (a_4 : Int) (a_5 : Int), run T C sh (keep 83) L Tryz.f83 ([.agg [.int .i64 a_0, .int .i64 a_1, .int .i64 a_2, .int .i64 a_3, .int .i64 a_4, .int .i64 a_5]]) ([]) = Option.map (fun r : Bool => ((.bool r, []) : AV × List Blk)) (impl_IsMove L a_0 a_1 a_2 a_3 a_4 a_5) := by
 intro a_0 a_1 a_2 a_3 a_4 a_5
 unfold impl_IsMove
 conv=>lhs;whnf
 refine t_loop (fun (v15 : Int) => (AV.top :: AV.ptr 0 0 0 6 :: topA 11 (AV.own 1 1 none false :: AV.int .i64 (ilen [AV.int .i64 a_0, AV.int .i64 a_1, AV.int .i64 a_2, AV.int .i64 a_3]) :: AV.int .i64 v15 :: tops 18), [Blk.box (AV.agg [AV.int .i64 a_0, AV.int .i64 a_1, AV.int .i64 a_2, AV.int .i64 a_3, AV.int .i64 a_4, AV.int .i64 a_5]), Blk.rows Mode.live 1 [AV.int .i64 a_0, AV.int .i64 a_1, AV.int .i64 a_2, AV.int .i64 a_3]])) (fun m (v15 : Int) => impl_IsMove_l0 L a_0 a_1 a_2 a_3 a_4 a_5 m v15) (fun _ => rfl) (fun m v15 rec hrec => ?_) L 0 ?_ ?_
 rotate_left
 ·rfl
 ·rfl
 show _ = Option.map _ (impl_IsMove_l0 L a_0 a_1 a_2 a_3 a_4 a_5 (m + 1) v15)
 rw [impl_IsMove_l0.eq_2]
 conv=>lhs;whnf
 refine t_cond ?_ ?_
 ·conv=>lhs;whnf
  refine t_cond ?_ ?_
  ·conv=>lhs;whnf
   refine t_get (en := eI) (l := a_0 :: (a_1 :: (a_2 :: (a_3 :: [])))) (by rfl) fun p => ?_
   conv=>lhs;whnf
   refine t_call (h_impl_within p (-20) 20) fun r => ?_
   conv=>lhs;whnf
   refine t_cond ?_ ?_
   ·conv=>lhs;whnf
    exact t_ret (by rfl)
   ·conv=>lhs;whnf
    exact hrec (wr .i64 (iadd v15 1)) _ _ (by rfl) (by rfl)
  ·conv=>lhs;whnf
   exact t_none
 ·conv=>lhs;whnf
  refine t_call (h_impl_isWay a_4 a_5) fun r1 => ?_
  conv=>lhs;whnf
  refine t_cond ?_ ?_
  ·conv=>lhs;whnf
   refine t_call (h_impl_Move_side a_0 a_1 a_2 a_3 a_4 a_5) fun r2 => ?_
   conv=>lhs;whnf
   refine t_call (h_impl_size r2) fun r3 => ?_
   conv=>lhs;whnf
   exact t_ret (by rfl)
  ·conv=>lhs;whnf
   exact t_ret (by rfl)
noncomputable def impl_checkedMove (L : Nat) (a_0 : Int) (a_1 : Int) (a_2 : Int) (a_3 : Int) (a_4 : Int) (a_5 : Int) : Option (Int × Int × Int × Int × Int × Int × Bool) := gbind (impl_IsMove L a_0 a_1 a_2 a_3 a_4 a_5) fun r => bif !r then (some ((0, 0, 0, 0, 0, 0, false))) else (some ((a_0, a_1, a_2, a_3, a_4, a_5, true)))
def impl_checkedMove_ok (L : Nat) (C : CF) : Prop := ∀ (a_0 : Int) (a_1 : Int) (a_2 : Int) (a_3 : Int) (a_4 : Int) (a_5 : Int), C 75 ([.agg [.int .i64 a_0, .int .i64 a_1, .int .i64 a_2, .int .i64 a_3, .int .i64 a_4, .int .i64 a_5]]) ([]) = Option.map (fun r : Int × Int × Int × Int × Int × Int × Bool => ((.tup [.agg [.int .i64 (r.1), .int .i64 (r.2.1), .int .i64 (r.2.2.1), .int .i64 (r.2.2.2.1), .int .i64 (r.2.2.2.2.1), .int .i64 (r.2.2.2.2.2.1)], .bool (r.2.2.2.2.2.2)], []) : AV × List Blk)) (impl_checkedMove L a_0 a_1 a_2 a_3 a_4 a_5)
theorem impl_checkedMove_run (L : Nat) (C : CF) (h_impl_IsMove : impl_IsMove_ok L C) : ∀ (a_0 : Int) (a_1 : Int) (a_2 : Int) (a_3 : Int) (a_4 : Int) (a_5 : Int), run T C sh (keep 75) L Tryz.f75 ([.agg [.int .i64 a_0, .int .i64 a_1, .int .i64 a_2, .int .i64 a_3, .int .i64 a_4, .int .i64 a_5]]) ([]) = Option.map (fun r : Int × Int × Int × Int × Int × Int × Bool => ((.tup [.agg [.int .i64 (r.1), .int .i64 (r.2.1), .int .i64 (r.2.2.1), .int .i64 (r.2.2.2.1), .int .i64 (r.2.2.2.2.1), .int .i64 (r.2.2.2.2.2.1)], .bool (r.2.2.2.2.2.2)], []) : AV × List Blk)) (impl_checkedMove L a_0 a_1 a_2 a_3 a_4 a_5) := by
 intro a_0 a_1 a_2 a_3 a_4 a_5
 unfold impl_checkedMove
 conv=>lhs;whnf
 refine t_call (h_impl_IsMove a_0 a_1 a_2 a_3 a_4 a_5) fun r => ?_
 conv=>lhs;whnf
 refine t_cond ?_ ?_
 ·conv=>lhs;whnf
  exact t_ret (by rfl)
 ·conv=>lhs;whnf
  exact t_ret (by rfl)
noncomputable def impl_MoveBetween_l1 (L : Nat) (κ0 : (List Pt) → (List Pt) → Int → Int → Int → Int → Int → Int → Int → Int → (List Pt) → Option (Int × Int × Int × Int × Int × Int × Bool)) (v0 : List Pt) (v1 : List Pt) (v30 : Int) (v31 : Int) (b0_0 : Int) (b0_1 : Int) (b0_2 : Int) (b0_3 : Int) (b0_4 : Int) (b0_5 : Int) (w1 : List Pt) : Nat → Int → Option (Int × Int × Int × Int × Int × Int × Bool)
  | 0, _ => none
  | m1 + 1, v36 => bif ilt v36 (ilen [AV.int .i64 1, AV.int .i64 (-1)]) then (bif ile 0 v36 && ilt v36 (ilen [AV.int .i64 1, AV.int .i64 (-1)]) then (gbind (lget (1 :: (-1 :: [])) v36) fun p => gbind (impl_told L v1 v31 p) fun r3 => gbind (impl_frame L r3) fun r4 => gbind (slices_Equal_impl_Peg_impl_Peg L r4 w1) fun r5 => bif r5 then (gbind (impl_between L v0 r3) fun r6 => gbind (impl_checkedMove L r6.1 r6.2.1 r6.2.2.1 r6.2.2.2.1 r6.2.2.2.2.1 r6.2.2.2.2.2) fun r7 => some ((r7.1, r7.2.1, r7.2.2.1, r7.2.2.2.1, r7.2.2.2.2.1, r7.2.2.2.2.2.1, r7.2.2.2.2.2.2))) else (impl_MoveBetween_l1 L κ0 v0 v1 v30 v31 b0_0 b0_1 b0_2 b0_3 b0_4 b0_5 w1 m1 (wr .i64 (iadd v36 1)))) else (none)) else (κ0 v0 v1 v30 (wr .i64 (iadd v31 1)) b0_0 b0_1 b0_2 b0_3 b0_4 b0_5 w1)
noncomputable def impl_MoveBetween_l0 (L : Nat) : Nat → (List Pt) → (List Pt) → Int → Int → Int → Int → Int → Int → Int → Int → (List Pt) → Option (Int × Int × Int × Int × Int × Int × Bool)
  | 0, _, _, _, _, _, _, _, _, _, _, _ => none
  | m + 1, v0, v1, v30, v31, b0_0, b0_1, b0_2, b0_3, b0_4, b0_5, w1 => bif ilt v31 v30 then (impl_MoveBetween_l1 L (impl_MoveBetween_l0 L m) v0 v1 v30 v31 b0_0 b0_1 b0_2 b0_3 b0_4 b0_5 w1 L 0) else (some ((0, 0, 0, 0, 0, 0, false)))
noncomputable def impl_MoveBetween (L : Nat) (a : List Pt) (b : List Pt) : Option (Int × Int × Int × Int × Int × Int × Bool) := gbind (impl_IsPolygon L a) fun r => bif !r then (some ((0, 0, 0, 0, 0, 0, false))) else (gbind (impl_IsPolygon L b) fun r1 => bif !r1 then (some ((0, 0, 0, 0, 0, 0, false))) else (bif !ieq (ilen (List.map ep a)) (ilen (List.map ep b)) then (some ((0, 0, 0, 0, 0, 0, false))) else (gbind (impl_frame L a) fun r2 => impl_MoveBetween_l0 L L a b (ilen (List.map ep b)) 0 0 0 0 0 0 0 r2)))
def impl_MoveBetween_ok (L : Nat) (C : CF) : Prop := ∀ (oa : Bool) (ca : Bool) (x_a : List AV) (a : List Pt) (_ : x_a = List.map ep a) (ob : Bool) (cb : Bool) (x_b : List AV) (b : List Pt) (_ : x_b = List.map ep b), C 24 ([.lst oa ca 2 x_a, .lst ob cb 2 x_b]) ([]) = Option.map (fun r : Int × Int × Int × Int × Int × Int × Bool => ((.tup [.agg [.int .i64 (r.1), .int .i64 (r.2.1), .int .i64 (r.2.2.1), .int .i64 (r.2.2.2.1), .int .i64 (r.2.2.2.2.1), .int .i64 (r.2.2.2.2.2.1)], .bool (r.2.2.2.2.2.2)], []) : AV × List Blk)) (impl_MoveBetween L a b)
theorem impl_MoveBetween_run (L : Nat) (C : CF) (h_impl_IsPolygon : impl_IsPolygon_ok L C) (h_impl_frame : impl_frame_ok L C) (h_impl_told : impl_told_ok L C) (h_slices_Equal_impl_Peg_impl_Peg : slices_Equal_impl_Peg_impl_Peg_ok L C) (h_impl_between : impl_between_ok L C) (h_impl_checkedMove : impl_checkedMove_ok L C) : ∀ (oa : Bool) (ca : Bool) (x_a : List AV) (a : List Pt) (_ : x_a = List.map ep a) (ob : Bool) (cb : Bool) (x_b : List AV) (b : List Pt) (_ : x_b = List.map ep b), run T C sh (keep 24) L Tryz.f24 ([.lst oa ca 2 x_a, .lst ob cb 2 x_b]) ([]) = Option.map (fun r : Int × Int × Int × Int × Int × Int × Bool => ((.tup [.agg [.int .i64 (r.1), .int .i64 (r.2.1), .int .i64 (r.2.2.1), .int .i64 (r.2.2.2.1), .int .i64 (r.2.2.2.2.1), .int .i64 (r.2.2.2.2.2.1)], .bool (r.2.2.2.2.2.2)], []) : AV × List Blk)) (impl_MoveBetween L a b) := by
 intro oa ca x_a a hx_a ob cb x_b b hx_b
 subst hx_a
 subst hx_b
 unfold impl_MoveBetween
 conv=>lhs;whnf
 refine t_call (h_impl_IsPolygon _ _ _ a (by rfl)) fun r => ?_
 conv=>lhs;whnf
 refine t_cond ?_ ?_
 ·conv=>lhs;whnf
  exact t_ret (by rfl)
 ·conv=>lhs;whnf
  refine t_call (h_impl_IsPolygon _ _ _ b (by rfl)) fun r1 => ?_
  conv=>lhs;whnf
  refine t_cond ?_ ?_
  ·conv=>lhs;whnf
   exact t_ret (by rfl)
  ·conv=>lhs;whnf
   refine t_cond ?_ ?_
   ·conv=>lhs;whnf
    exact t_ret (by rfl)
   ·conv=>lhs;whnf
    refine t_call (h_impl_frame _ _ _ a (by rfl)) fun r2 => ?_
    conv=>lhs;whnf
    refine t_loop (fun (⟨v0, v1, v30, v31, b0_0, b0_1, b0_2, b0_3, b0_4, b0_5, w1⟩ : (List Pt) × (List Pt) × Int × Int × Int × Int × Int × Int × Int × Int × (List Pt)) => (AV.lst oa ca 2 (List.map ep v0) :: AV.lst ob cb 2 (List.map ep v1) :: topA 2 (AV.ptr 0 0 0 6 :: AV.top :: AV.own 1 2 none false :: topA 23 (AV.int .i64 v30 :: AV.int .i64 v31 :: tops 25)), [Blk.box (AV.agg [AV.int .i64 b0_0, AV.int .i64 b0_1, AV.int .i64 b0_2, AV.int .i64 b0_3, AV.int .i64 b0_4, AV.int .i64 b0_5]), Blk.rows Mode.live 2 (List.map ep w1)])) (fun m (⟨v0, v1, v30, v31, b0_0, b0_1, b0_2, b0_3, b0_4, b0_5, w1⟩ : (List Pt) × (List Pt) × Int × Int × Int × Int × Int × Int × Int × Int × (List Pt)) => impl_MoveBetween_l0 L m v0 v1 v30 v31 b0_0 b0_1 b0_2 b0_3 b0_4 b0_5 w1) (fun _ => rfl) (fun m s rec hrec => ?_) L ((a, b, ilen (List.map ep b), 0, 0, 0, 0, 0, 0, 0, r2)) ?_ ?_
    rotate_left
    ·rfl
    ·rfl
    obtain ⟨v0, v1, v30, v31, b0_0, b0_1, b0_2, b0_3, b0_4, b0_5, w1⟩ := s
    show _ = Option.map _ (impl_MoveBetween_l0 L (m + 1) v0 v1 v30 v31 b0_0 b0_1 b0_2 b0_3 b0_4 b0_5 w1)
    rw [impl_MoveBetween_l0.eq_2]
    conv=>lhs;whnf
    refine t_cond ?_ ?_
    ·conv=>lhs;whnf
     refine t_loop (fun (v36 : Int) => (AV.lst oa ca 2 (List.map ep v0) :: AV.lst ob cb 2 (List.map ep v1) :: topA 2 (AV.ptr 0 0 0 6 :: AV.top :: AV.own 1 2 none false :: AV.int .i64 v31 :: topA 22 (AV.int .i64 v30 :: AV.int .i64 v31 :: topA 2 (AV.own 2 1 none false :: AV.int .i64 (ilen [AV.int .i64 1, AV.int .i64 (-1)]) :: AV.int .i64 v36 :: tops 20))), [Blk.box (AV.agg [AV.int .i64 b0_0, AV.int .i64 b0_1, AV.int .i64 b0_2, AV.int .i64 b0_3, AV.int .i64 b0_4, AV.int .i64 b0_5]), Blk.rows Mode.live 2 (List.map ep w1), Blk.rows Mode.live 1 [AV.int .i64 1, AV.int .i64 (-1)]])) (fun m1 (v36 : Int) => impl_MoveBetween_l1 L (impl_MoveBetween_l0 L m) v0 v1 v30 v31 b0_0 b0_1 b0_2 b0_3 b0_4 b0_5 w1 m1 v36) (fun _ => rfl) (fun m1 v36 rec1 hrec1 => ?_) L 0 ?_ ?_
     rotate_left
     ·rfl
     ·rfl
     show _ = Option.map _ (impl_MoveBetween_l1 L (impl_MoveBetween_l0 L m) v0 v1 v30 v31 b0_0 b0_1 b0_2 b0_3 b0_4 b0_5 w1 (m1 + 1) v36)
     rw [impl_MoveBetween_l1.eq_2]
     conv=>lhs;whnf
     refine t_cond ?_ ?_
     ·conv=>lhs;whnf
      refine t_cond ?_ ?_
      ·conv=>lhs;whnf
       refine t_get (en := eI) (l := 1 :: (-1 :: [])) (by rfl) fun p => ?_
       conv=>lhs;whnf
       refine t_call (h_impl_told _ _ _ v1 (by rfl) v31 p) fun r3 => ?_
       conv=>lhs;whnf
       refine t_call (h_impl_frame _ _ _ r3 (by rfl)) fun r4 => ?_
       conv=>lhs;whnf
       refine t_call (h_slices_Equal_impl_Peg_impl_Peg _ _ _ r4 (by rfl) _ _ _ w1 (by rfl)) fun r5 => ?_
       conv=>lhs;whnf
       refine t_cond ?_ ?_
       ·conv=>lhs;whnf
        refine t_call (h_impl_between _ _ _ v0 (by rfl) _ _ _ r3 (by rfl)) fun r6 => ?_
        conv=>lhs;whnf
        refine t_call (h_impl_checkedMove r6.1 r6.2.1 r6.2.2.1 r6.2.2.2.1 r6.2.2.2.2.1 r6.2.2.2.2.2) fun r7 => ?_
        conv=>lhs;whnf
        exact t_ret (by rfl)
       ·conv=>lhs;whnf
        exact hrec1 (wr .i64 (iadd v36 1)) _ _ (by rfl) (by rfl)
      ·conv=>lhs;whnf
       exact t_none
     ·conv=>lhs;whnf
      exact hrec ((v0, v1, v30, wr .i64 (iadd v31 1), b0_0, b0_1, b0_2, b0_3, b0_4, b0_5, w1)) _ _ (by rfl) (by rfl)
    ·conv=>lhs;whnf
     exact t_ret (by rfl)
noncomputable def spec_mvTo_l1 (L : Nat) (a : List Pt) (b : List Pt) (p18 : Int) (p19 : Int) (p20 : Int) (p21 : Int) (p22 : Pt) (p23 : Pt) (p24 : Pt) (p25 : Pt) (p26 : Pt) (p27 : Pt) : Nat → Int → Option (Int × Int × Int × Int × Int × Int × Bool)
  | 0, _ => none
  | m1 + 1, v239 => bif ilt v239 (ilen (List.map ep a)) then (gbind (lget a v239) fun p28 => gbind (spec_mvPeg L p18 p19 p20 p21 (wr .i64 (isub (wr .i64 (isub p22.x (wr .i64 (imul p18 p23.x)))) (wr .i64 (imul p19 p24.y)))) (wr .i64 (isub (wr .i64 (isub p25.y (wr .i64 (imul p20 p26.x)))) (wr .i64 (imul p21 p27.y)))) p28.x p28.y) fun r1 => gbind (lget b v239) fun p29 => bif !(ieq r1.1 p29.x && ieq r1.2 p29.y) then (some ((0, 0, 0, 0, 0, 0, false))) else (spec_mvTo_l1 L a b p18 p19 p20 p21 p22 p23 p24 p25 p26 p27 m1 (wr .i64 (iadd v239 1)))) else (some ((p18, p19, p20, p21, wr .i64 (isub (wr .i64 (isub p22.x (wr .i64 (imul p18 p23.x)))) (wr .i64 (imul p19 p24.y))), wr .i64 (isub (wr .i64 (isub p25.y (wr .i64 (imul p20 p26.x)))) (wr .i64 (imul p21 p27.y))), true)))
noncomputable def spec_mvTo_l0 (L : Nat) (a : List Pt) (b : List Pt) (p : Pt) (p1 : Pt) (p2 : Pt) (p3 : Pt) (p4 : Pt) (p5 : Pt) (p6 : Pt) (p7 : Pt) (p8 : Pt) (p9 : Pt) (p10 : Pt) (p11 : Pt) (p12 : Pt) (p13 : Pt) (p14 : Pt) (p15 : Pt) : Nat → Int → (List Int) → Option (Int × Int × Int × Int × Int × Int × Bool)
  | 0, _, _ => none
  | m + 1, v151, w1 => bif ilt v151 (ilen [AV.int .i64 (wr .i64 (isub (wr .i64 (imul (wr .i64 (isub p12.x p13.x)) (wr .i64 (isub p2.y p3.y)))) (wr .i64 (imul (wr .i64 (isub p8.x p9.x)) (wr .i64 (isub p6.y p7.y)))))), AV.int .i64 (wr .i64 (isub (wr .i64 (imul (wr .i64 (isub p8.x p9.x)) (wr .i64 (isub p4.x p5.x)))) (wr .i64 (imul (wr .i64 (isub p12.x p13.x)) (wr .i64 (isub p.x p1.x)))))), AV.int .i64 (wr .i64 (isub (wr .i64 (imul (wr .i64 (isub p14.y p15.y)) (wr .i64 (isub p2.y p3.y)))) (wr .i64 (imul (wr .i64 (isub p10.y p11.y)) (wr .i64 (isub p6.y p7.y)))))), AV.int .i64 (wr .i64 (isub (wr .i64 (imul (wr .i64 (isub p10.y p11.y)) (wr .i64 (isub p4.x p5.x)))) (wr .i64 (imul (wr .i64 (isub p14.y p15.y)) (wr .i64 (isub p.x p1.x))))))]) then (bif ile 0 v151 && ilt v151 (ilen (List.map eI w1)) then (gbind (lget w1 v151) fun p16 => bif ieq (wr .i64 (isub (wr .i64 (imul (wr .i64 (isub p4.x p5.x)) (wr .i64 (isub p2.y p3.y)))) (wr .i64 (imul (wr .i64 (isub p6.y p7.y)) (wr .i64 (isub p.x p1.x)))))) 0 then (none) else (bif !ieq (irem p16 (wr .i64 (isub (wr .i64 (imul (wr .i64 (isub p4.x p5.x)) (wr .i64 (isub p2.y p3.y)))) (wr .i64 (imul (wr .i64 (isub p6.y p7.y)) (wr .i64 (isub p.x p1.x))))))) 0 then (some ((0, 0, 0, 0, 0, 0, false))) else (bif ieq (wr .i64 (isub (wr .i64 (imul (wr .i64 (isub p4.x p5.x)) (wr .i64 (isub p2.y p3.y)))) (wr .i64 (imul (wr .i64 (isub p6.y p7.y)) (wr .i64 (isub p.x p1.x)))))) 0 then (none) else (bif ile 0 v151 && ilt v151 (ilen (List.map eI w1)) then (gbind (lget w1 v151) fun p17 => spec_mvTo_l0 L a b p p1 p2 p3 p4 p5 p6 p7 p8 p9 p10 p11 p12 p13 p14 p15 m (wr .i64 (iadd v151 1)) (lset w1 v151 (wr .i64 (iquo p16 (wr .i64 (isub (wr .i64 (imul (wr .i64 (isub p4.x p5.x)) (wr .i64 (isub p2.y p3.y)))) (wr .i64 (imul (wr .i64 (isub p6.y p7.y)) (wr .i64 (isub p.x p1.x)))))))))) else (none))))) else (none)) else (bif ile 0 0 && ilt 0 (ilen (List.map eI w1)) then (gbind (lget w1 0) fun p18 => bif ile 0 1 && ilt 1 (ilen (List.map eI w1)) then (gbind (lget w1 1) fun p19 => bif ile 0 2 && ilt 2 (ilen (List.map eI w1)) then (gbind (lget w1 2) fun p20 => bif ile 0 3 && ilt 3 (ilen (List.map eI w1)) then (gbind (lget w1 3) fun p21 => gbind (lget b 0) fun p22 => gbind (lget a 0) fun p23 => gbind (lget a 0) fun p24 => gbind (lget b 0) fun p25 => gbind (lget a 0) fun p26 => gbind (lget a 0) fun p27 => gbind (spec_l1Abs L (wr .i64 (isub (wr .i64 (imul p18 p21)) (wr .i64 (imul p19 p20))))) fun r => bif !ieq r 1 then (some ((0, 0, 0, 0, 0, 0, false))) else (spec_mvTo_l1 L a b p18 p19 p20 p21 p22 p23 p24 p25 p26 p27 L 0)) else (none)) else (none)) else (none)) else (none))
noncomputable def spec_mvTo (L : Nat) (a : List Pt) (b : List Pt) : Option (Int × Int × Int × Int × Int × Int × Bool) := gbind (lget a 2) fun p => gbind (lget a 0) fun p1 => gbind (lget a 2) fun p2 => gbind (lget a 0) fun p3 => gbind (lget a 1) fun p4 => gbind (lget a 0) fun p5 => gbind (lget a 1) fun p6 => gbind (lget a 0) fun p7 => gbind (lget b 2) fun p8 => gbind (lget b 0) fun p9 => gbind (lget b 2) fun p10 => gbind (lget b 0) fun p11 => gbind (lget b 1) fun p12 => gbind (lget b 0) fun p13 => gbind (lget b 1) fun p14 => gbind (lget b 0) fun p15 => spec_mvTo_l0 L a b p p1 p2 p3 p4 p5 p6 p7 p8 p9 p10 p11 p12 p13 p14 p15 L 0 (wr .i64 (isub (wr .i64 (imul (wr .i64 (isub p12.x p13.x)) (wr .i64 (isub p2.y p3.y)))) (wr .i64 (imul (wr .i64 (isub p8.x p9.x)) (wr .i64 (isub p6.y p7.y))))) :: (wr .i64 (isub (wr .i64 (imul (wr .i64 (isub p8.x p9.x)) (wr .i64 (isub p4.x p5.x)))) (wr .i64 (imul (wr .i64 (isub p12.x p13.x)) (wr .i64 (isub p.x p1.x))))) :: (wr .i64 (isub (wr .i64 (imul (wr .i64 (isub p14.y p15.y)) (wr .i64 (isub p2.y p3.y)))) (wr .i64 (imul (wr .i64 (isub p10.y p11.y)) (wr .i64 (isub p6.y p7.y))))) :: (wr .i64 (isub (wr .i64 (imul (wr .i64 (isub p10.y p11.y)) (wr .i64 (isub p4.x p5.x)))) (wr .i64 (imul (wr .i64 (isub p14.y p15.y)) (wr .i64 (isub p.x p1.x))))) :: []))))
def spec_mvTo_ok (L : Nat) (C : CF) : Prop := ∀ (oa : Bool) (ca : Bool) (x_a : List AV) (a : List Pt) (_ : x_a = List.map ep a) (ob : Bool) (cb : Bool) (x_b : List AV) (b : List Pt) (_ : x_b = List.map ep b), C 77 ([.lst oa ca 2 x_a, .lst ob cb 2 x_b]) ([]) = Option.map (fun r : Int × Int × Int × Int × Int × Int × Bool => ((.tup [.agg [.int .i64 (r.1), .int .i64 (r.2.1), .int .i64 (r.2.2.1), .int .i64 (r.2.2.2.1), .int .i64 (r.2.2.2.2.1), .int .i64 (r.2.2.2.2.2.1)], .bool (r.2.2.2.2.2.2)], []) : AV × List Blk)) (spec_mvTo L a b)
theorem spec_mvTo_run (L : Nat) (C : CF) (h_spec_l1Abs : spec_l1Abs_ok L C) (h_spec_mvPeg : spec_mvPeg_ok L C) : ∀ (oa : Bool) (ca : Bool) (x_a : List AV) (a : List Pt) (_ : x_a = List.map ep a) (ob : Bool) (cb : Bool) (x_b : List AV) (b : List Pt) (_ : x_b = List.map ep b), run T C sh (keep 77) L Tryz.f77 ([.lst oa ca 2 x_a, .lst ob cb 2 x_b]) ([]) = Option.map (fun r : Int × Int × Int × Int × Int × Int × Bool => ((.tup [.agg [.int .i64 (r.1), .int .i64 (r.2.1), .int .i64 (r.2.2.1), .int .i64 (r.2.2.2.1), .int .i64 (r.2.2.2.2.1), .int .i64 (r.2.2.2.2.2.1)], .bool (r.2.2.2.2.2.2)], []) : AV × List Blk)) (spec_mvTo L a b) := by
 intro oa ca x_a a hx_a ob cb x_b b hx_b
 subst hx_a
 subst hx_b
 unfold spec_mvTo
 conv=>lhs;whnf
 refine t_get (en := ep) (l := a) (by rfl) fun p => ?_
 conv=>lhs;whnf
 refine t_get (en := ep) (l := a) (by rfl) fun p1 => ?_
 conv=>lhs;whnf
 refine t_get (en := ep) (l := a) (by rfl) fun p2 => ?_
 conv=>lhs;whnf
 refine t_get (en := ep) (l := a) (by rfl) fun p3 => ?_
 conv=>lhs;whnf
 refine t_get (en := ep) (l := a) (by rfl) fun p4 => ?_
 conv=>lhs;whnf
 refine t_get (en := ep) (l := a) (by rfl) fun p5 => ?_
 conv=>lhs;whnf
 refine t_get (en := ep) (l := a) (by rfl) fun p6 => ?_
 conv=>lhs;whnf
 refine t_get (en := ep) (l := a) (by rfl) fun p7 => ?_
 conv=>lhs;whnf
 refine t_get (en := ep) (l := b) (by rfl) fun p8 => ?_
 conv=>lhs;whnf
 refine t_get (en := ep) (l := b) (by rfl) fun p9 => ?_
 conv=>lhs;whnf
 refine t_get (en := ep) (l := b) (by rfl) fun p10 => ?_
 conv=>lhs;whnf
 refine t_get (en := ep) (l := b) (by rfl) fun p11 => ?_
 conv=>lhs;whnf
 refine t_get (en := ep) (l := b) (by rfl) fun p12 => ?_
 conv=>lhs;whnf
 refine t_get (en := ep) (l := b) (by rfl) fun p13 => ?_
 conv=>lhs;whnf
 refine t_get (en := ep) (l := b) (by rfl) fun p14 => ?_
 conv=>lhs;whnf
 refine t_get (en := ep) (l := b) (by rfl) fun p15 => ?_
 conv=>lhs;whnf
 refine t_loop (fun (⟨v151, w1⟩ : Int × (List Int)) => (AV.lst oa ca 2 (List.map ep a) :: AV.lst ob cb 2 (List.map ep b) :: topA 2 (AV.ptr 0 0 0 6 :: topA 5 (AV.int .i64 (wr .i64 (isub (wr .i64 (imul (wr .i64 (isub p4.x p5.x)) (wr .i64 (isub p2.y p3.y)))) (wr .i64 (imul (wr .i64 (isub p6.y p7.y)) (wr .i64 (isub p.x p1.x)))))) :: AV.own 1 1 none false :: topA 137 (AV.own 1 1 none false :: AV.int .i64 (ilen [AV.int .i64 (wr .i64 (isub (wr .i64 (imul (wr .i64 (isub p12.x p13.x)) (wr .i64 (isub p2.y p3.y)))) (wr .i64 (imul (wr .i64 (isub p8.x p9.x)) (wr .i64 (isub p6.y p7.y)))))), AV.int .i64 (wr .i64 (isub (wr .i64 (imul (wr .i64 (isub p8.x p9.x)) (wr .i64 (isub p4.x p5.x)))) (wr .i64 (imul (wr .i64 (isub p12.x p13.x)) (wr .i64 (isub p.x p1.x)))))), AV.int .i64 (wr .i64 (isub (wr .i64 (imul (wr .i64 (isub p14.y p15.y)) (wr .i64 (isub p2.y p3.y)))) (wr .i64 (imul (wr .i64 (isub p10.y p11.y)) (wr .i64 (isub p6.y p7.y)))))), AV.int .i64 (wr .i64 (isub (wr .i64 (imul (wr .i64 (isub p10.y p11.y)) (wr .i64 (isub p4.x p5.x)))) (wr .i64 (imul (wr .i64 (isub p14.y p15.y)) (wr .i64 (isub p.x p1.x))))))]) :: AV.int .i64 v151 :: tops 103))), [Blk.box (AV.agg [AV.int .i64 0, AV.int .i64 0, AV.int .i64 0, AV.int .i64 0, AV.int .i64 0, AV.int .i64 0]), Blk.rows Mode.live 1 (List.map eI w1)])) (fun m (⟨v151, w1⟩ : Int × (List Int)) => spec_mvTo_l0 L a b p p1 p2 p3 p4 p5 p6 p7 p8 p9 p10 p11 p12 p13 p14 p15 m v151 w1) (fun _ => rfl) (fun m s rec hrec => ?_) L ((0, wr .i64 (isub (wr .i64 (imul (wr .i64 (isub p12.x p13.x)) (wr .i64 (isub p2.y p3.y)))) (wr .i64 (imul (wr .i64 (isub p8.x p9.x)) (wr .i64 (isub p6.y p7.y))))) :: (wr .i64 (isub (wr .i64 (imul (wr .i64 (isub p8.x p9.x)) (wr .i64 (isub p4.x p5.x)))) (wr .i64 (imul (wr .i64 (isub p12.x p13.x)) (wr .i64 (isub p.x p1.x))))) :: (wr .i64 (isub (wr .i64 (imul (wr .i64 (isub p14.y p15.y)) (wr .i64 (isub p2.y p3.y)))) (wr .i64 (imul (wr .i64 (isub p10.y p11.y)) (wr .i64 (isub p6.y p7.y))))) :: (wr .i64 (isub (wr .i64 (imul (wr .i64 (isub p10.y p11.y)) (wr .i64 (isub p4.x p5.x)))) (wr .i64 (imul (wr .i64 (isub p14.y p15.y)) (wr .i64 (isub p.x p1.x))))) :: []))))) ?_ ?_
 rotate_left
 ·rfl
 ·rfl
 obtain ⟨v151, w1⟩ := s
 show _ = Option.map _ (spec_mvTo_l0 L a b p p1 p2 p3 p4 p5 p6 p7 p8 p9 p10 p11 p12 p13 p14 p15 (m + 1) v151 w1)
 rw [spec_mvTo_l0.eq_2]
 conv=>lhs;whnf
 refine t_cond ?_ ?_
 ·conv=>lhs;whnf
  refine t_cond ?_ ?_
  ·conv=>lhs;whnf
   refine t_get (en := eI) (l := w1) (by rfl) fun p16 => ?_
   conv=>lhs;whnf
   refine t_cond ?_ ?_
   ·conv=>lhs;whnf
    exact t_none
   ·conv=>lhs;whnf
    refine t_cond ?_ ?_
    ·conv=>lhs;whnf
     exact t_ret (by rfl)
    ·conv=>lhs;whnf
     refine t_cond ?_ ?_
     ·conv=>lhs;whnf
      exact t_none
     ·conv=>lhs;whnf
      refine t_cond ?_ ?_
      ·conv=>lhs;whnf
       refine t_get (en := eI) (l := w1) (by rfl) fun p17 => ?_
       conv=>lhs;whnf
       exact hrec ((wr .i64 (iadd v151 1), lset w1 v151 (wr .i64 (iquo p16 (wr .i64 (isub (wr .i64 (imul (wr .i64 (isub p4.x p5.x)) (wr .i64 (isub p2.y p3.y)))) (wr .i64 (imul (wr .i64 (isub p6.y p7.y)) (wr .i64 (isub p.x p1.x)))))))))) _ _ (by rfl) (by first | rfl | simp only [ml] <;> rfl)
      ·conv=>lhs;whnf
       exact t_none
  ·conv=>lhs;whnf
   exact t_none
 ·conv=>lhs;whnf
  refine t_cond ?_ ?_
  ·conv=>lhs;whnf
   refine t_get (en := eI) (l := w1) (by rfl) fun p18 => ?_
   conv=>lhs;whnf
   refine t_cond ?_ ?_
   ·conv=>lhs;whnf
    refine t_get (en := eI) (l := w1) (by rfl) fun p19 => ?_
    conv=>lhs;whnf
    refine t_cond ?_ ?_
    ·conv=>lhs;whnf
     refine t_get (en := eI) (l := w1) (by rfl) fun p20 => ?_
     conv=>lhs;whnf
     refine t_cond ?_ ?_
     ·conv=>lhs;whnf
      refine t_get (en := eI) (l := w1) (by rfl) fun p21 => ?_
      conv=>lhs;whnf
      refine t_get (en := ep) (l := b) (by rfl) fun p22 => ?_
      conv=>lhs;whnf
      refine t_get (en := ep) (l := a) (by rfl) fun p23 => ?_
      conv=>lhs;whnf
      refine t_get (en := ep) (l := a) (by rfl) fun p24 => ?_
      conv=>lhs;whnf
      refine t_get (en := ep) (l := b) (by rfl) fun p25 => ?_
      conv=>lhs;whnf
      refine t_get (en := ep) (l := a) (by rfl) fun p26 => ?_
      conv=>lhs;whnf
      refine t_get (en := ep) (l := a) (by rfl) fun p27 => ?_
      conv=>lhs;whnf
      refine t_call (h_spec_l1Abs (wr .i64 (isub (wr .i64 (imul p18 p21)) (wr .i64 (imul p19 p20))))) fun r => ?_
      conv=>lhs;whnf
      refine t_cond ?_ ?_
      ·conv=>lhs;whnf
       exact t_ret (by rfl)
      ·conv=>lhs;whnf
       refine t_loop (fun (v239 : Int) => (AV.top :: AV.lst ob cb 2 (List.map ep b) :: topA 2 (AV.ptr 0 0 0 6 :: topA 9 (AV.ptr 1 0 0 6 :: topA 222 (AV.lst oa ca 2 (List.map ep a) :: AV.int .i64 (ilen (List.map ep a)) :: AV.int .i64 v239 :: tops 15))), [Blk.box (AV.agg [AV.int .i64 0, AV.int .i64 0, AV.int .i64 0, AV.int .i64 0, AV.int .i64 0, AV.int .i64 0]), Blk.box (AV.agg [AV.int .i64 p18, AV.int .i64 p19, AV.int .i64 p20, AV.int .i64 p21, AV.int .i64 (wr .i64 (isub (wr .i64 (isub p22.x (wr .i64 (imul p18 p23.x)))) (wr .i64 (imul p19 p24.y)))), AV.int .i64 (wr .i64 (isub (wr .i64 (isub p25.y (wr .i64 (imul p20 p26.x)))) (wr .i64 (imul p21 p27.y))))])])) (fun m1 (v239 : Int) => spec_mvTo_l1 L a b p18 p19 p20 p21 p22 p23 p24 p25 p26 p27 m1 v239) (fun _ => rfl) (fun m1 v239 rec1 hrec1 => ?_) L 0 ?_ ?_
       rotate_left
       ·rfl
       ·rfl
       show _ = Option.map _ (spec_mvTo_l1 L a b p18 p19 p20 p21 p22 p23 p24 p25 p26 p27 (m1 + 1) v239)
       rw [spec_mvTo_l1.eq_2]
       conv=>lhs;whnf
       refine t_cond ?_ ?_
       ·conv=>lhs;whnf
        refine t_get (en := ep) (l := a) (by rfl) fun p28 => ?_
        conv=>lhs;whnf
        refine t_call (h_spec_mvPeg p18 p19 p20 p21 (wr .i64 (isub (wr .i64 (isub p22.x (wr .i64 (imul p18 p23.x)))) (wr .i64 (imul p19 p24.y)))) (wr .i64 (isub (wr .i64 (isub p25.y (wr .i64 (imul p20 p26.x)))) (wr .i64 (imul p21 p27.y)))) p28.x p28.y) fun r1 => ?_
        conv=>lhs;whnf
        refine t_get (en := ep) (l := b) (by rfl) fun p29 => ?_
        conv=>lhs;whnf
        refine t_cond ?_ ?_
        ·conv=>lhs;whnf
         exact t_ret (by rfl)
        ·conv=>lhs;whnf
         exact hrec1 (wr .i64 (iadd v239 1)) _ _ (by rfl) (by rfl)
       ·conv=>lhs;whnf
        exact t_ret (by rfl)
     ·conv=>lhs;whnf
      exact t_none
    ·conv=>lhs;whnf
     exact t_none
   ·conv=>lhs;whnf
    exact t_none
  ·conv=>lhs;whnf
   exact t_none
noncomputable def spec_mvIf (L : Nat) (a_0 : Int) (a_1 : Int) (a_2 : Int) (a_3 : Int) (a_4 : Int) (a_5 : Int) : Option (Int × Int × Int × Int × Int × Int × Bool) := gbind (spec_mvGood L a_0 a_1 a_2 a_3 a_4 a_5) fun r => bif !r then (some ((0, 0, 0, 0, 0, 0, false))) else (some ((a_0, a_1, a_2, a_3, a_4, a_5, true)))
def spec_mvIf_ok (L : Nat) (C : CF) : Prop := ∀ (a_0 : Int) (a_1 : Int) (a_2 : Int) (a_3 : Int) (a_4 : Int) (a_5 : Int), C 78 ([.agg [.int .i64 a_0, .int .i64 a_1, .int .i64 a_2, .int .i64 a_3, .int .i64 a_4, .int .i64 a_5]]) ([]) = Option.map (fun r : Int × Int × Int × Int × Int × Int × Bool => ((.tup [.agg [.int .i64 (r.1), .int .i64 (r.2.1), .int .i64 (r.2.2.1), .int .i64 (r.2.2.2.1), .int .i64 (r.2.2.2.2.1), .int .i64 (r.2.2.2.2.2.1)], .bool (r.2.2.2.2.2.2)], []) : AV × List Blk)) (spec_mvIf L a_0 a_1 a_2 a_3 a_4 a_5)
theorem spec_mvIf_run (L : Nat) (C : CF) (h_spec_mvGood : spec_mvGood_ok L C) : ∀ (a_0 : Int) (a_1 : Int) (a_2 : Int) (a_3 : Int) (a_4 : Int) (a_5 : Int), run T C sh (keep 78) L Tryz.f78 ([.agg [.int .i64 a_0, .int .i64 a_1, .int .i64 a_2, .int .i64 a_3, .int .i64 a_4, .int .i64 a_5]]) ([]) = Option.map (fun r : Int × Int × Int × Int × Int × Int × Bool => ((.tup [.agg [.int .i64 (r.1), .int .i64 (r.2.1), .int .i64 (r.2.2.1), .int .i64 (r.2.2.2.1), .int .i64 (r.2.2.2.2.1), .int .i64 (r.2.2.2.2.2.1)], .bool (r.2.2.2.2.2.2)], []) : AV × List Blk)) (spec_mvIf L a_0 a_1 a_2 a_3 a_4 a_5) := by
 intro a_0 a_1 a_2 a_3 a_4 a_5
 unfold spec_mvIf
 conv=>lhs;whnf
 refine t_call (h_spec_mvGood a_0 a_1 a_2 a_3 a_4 a_5) fun r => ?_
 conv=>lhs;whnf
 refine t_cond ?_ ?_
 ·conv=>lhs;whnf
  exact t_ret (by rfl)
 ·conv=>lhs;whnf
  exact t_ret (by rfl)
noncomputable def spec_MoveBetween_l1 (L : Nat) (κ0 : (List Pt) → (List Pt) → Int → Int → Int → Int → Int → Int → Int → Int → Option (Int × Int × Int × Int × Int × Int × Bool)) (v0 : List Pt) (v1 : List Pt) (v29 : Int) (v30 : Int) (b0_0 : Int) (b0_1 : Int) (b0_2 : Int) (b0_3 : Int) (b0_4 : Int) (b0_5 : Int) (r2 : List Pt) : Nat → Int → Option (Int × Int × Int × Int × Int × Int × Bool)
  | 0, _ => none
  | m1 + 1, v47 => bif ilt v47 (ilen [AV.lst false false 2 (lcat (lcat [] (lsub (List.map ep v1) v30 (ilen (List.map ep v1)))) (lsub (List.map ep v1) 0 v30)), AV.lst false false 2 (List.map ep r2)]) then (bif ile 0 v47 && ilt v47 (ilen [AV.lst false false 2 (lcat (lcat [] (lsub (List.map ep v1) v30 (ilen (List.map ep v1)))) (lsub (List.map ep v1) 0 v30)), AV.lst false false 2 (List.map ep r2)]) then (gbind (lget (lcat (lcat [] (lsub v1 v30 (ilen (List.map ep v1)))) (lsub v1 0 v30) :: (r2 :: [])) v47) fun p => gbind (spec_mvTo L v0 p) fun r3 => bif r3.2.2.2.2.2.2 then (gbind (spec_mvIf L r3.1 r3.2.1 r3.2.2.1 r3.2.2.2.1 r3.2.2.2.2.1 r3.2.2.2.2.2.1) fun r4 => some ((r4.1, r4.2.1, r4.2.2.1, r4.2.2.2.1, r4.2.2.2.2.1, r4.2.2.2.2.2.1, r4.2.2.2.2.2.2))) else (spec_MoveBetween_l1 L κ0 v0 v1 v29 v30 b0_0 b0_1 b0_2 b0_3 b0_4 b0_5 r2 m1 (wr .i64 (iadd v47 1)))) else (none)) else (κ0 v0 v1 v29 (wr .i64 (iadd v30 1)) b0_0 b0_1 b0_2 b0_3 b0_4 b0_5)
noncomputable def spec_MoveBetween_l0 (L : Nat) : Nat → (List Pt) → (List Pt) → Int → Int → Int → Int → Int → Int → Int → Int → Option (Int × Int × Int × Int × Int × Int × Bool)
  | 0, _, _, _, _, _, _, _, _, _, _ => none
  | m + 1, v0, v1, v29, v30, b0_0, b0_1, b0_2, b0_3, b0_4, b0_5 => bif ilt v30 v29 then (bif ile 0 v30 && ile v30 (ilen (List.map ep v1)) then (bif ile 0 v30 && ile v30 (ilen (List.map ep v1)) then (bif fits (iadd (ilen ([] : List AV)) (ilen (lsub (List.map ep v1) v30 (ilen (List.map ep v1))))) 16 then (bif fits (iadd (ilen (lcat [] (lsub (List.map ep v1) v30 (ilen (List.map ep v1))))) (ilen (lsub (List.map ep v1) 0 v30))) 16 then (gbind (spec_pgBack L (lcat (lcat [] (lsub v1 v30 (ilen (List.map ep v1)))) (lsub v1 0 v30))) fun r2 => spec_MoveBetween_l1 L (spec_MoveBetween_l0 L m) v0 v1 v29 v30 b0_0 b0_1 b0_2 b0_3 b0_4 b0_5 r2 L 0) else (none)) else (none)) else (none)) else (none)) else (some ((0, 0, 0, 0, 0, 0, false)))
noncomputable def spec_MoveBetween (L : Nat) (a : List Pt) (b : List Pt) : Option (Int × Int × Int × Int × Int × Int × Bool) := gbind (spec_pgGood L a) fun r => bif !r then (some ((0, 0, 0, 0, 0, 0, false))) else (gbind (spec_pgGood L b) fun r1 => bif !r1 then (some ((0, 0, 0, 0, 0, 0, false))) else (bif !ieq (ilen (List.map ep a)) (ilen (List.map ep b)) then (some ((0, 0, 0, 0, 0, 0, false))) else (spec_MoveBetween_l0 L L a b (ilen (List.map ep b)) 0 0 0 0 0 0 0)))
def spec_MoveBetween_ok (L : Nat) (C : CF) : Prop := ∀ (oa : Bool) (ca : Bool) (x_a : List AV) (a : List Pt) (_ : x_a = List.map ep a) (ob : Bool) (cb : Bool) (x_b : List AV) (b : List Pt) (_ : x_b = List.map ep b), C 25 ([.lst oa ca 2 x_a, .lst ob cb 2 x_b]) ([]) = Option.map (fun r : Int × Int × Int × Int × Int × Int × Bool => ((.tup [.agg [.int .i64 (r.1), .int .i64 (r.2.1), .int .i64 (r.2.2.1), .int .i64 (r.2.2.2.1), .int .i64 (r.2.2.2.2.1), .int .i64 (r.2.2.2.2.2.1)], .bool (r.2.2.2.2.2.2)], []) : AV × List Blk)) (spec_MoveBetween L a b)
theorem spec_MoveBetween_run (L : Nat) (C : CF) (h_spec_pgGood : spec_pgGood_ok L C) (h_spec_pgBack : spec_pgBack_ok L C) (h_spec_mvTo : spec_mvTo_ok L C) (h_spec_mvIf : spec_mvIf_ok L C) : ∀ (oa : Bool) (ca : Bool) (x_a : List AV) (a : List Pt) (_ : x_a = List.map ep a) (ob : Bool) (cb : Bool) (x_b : List AV) (b : List Pt) (_ : x_b = List.map ep b), run T C sh (keep 25) L Tryz.f25 ([.lst oa ca 2 x_a, .lst ob cb 2 x_b]) ([]) = Option.map (fun r : Int × Int × Int × Int × Int × Int × Bool => ((.tup [.agg [.int .i64 (r.1), .int .i64 (r.2.1), .int .i64 (r.2.2.1), .int .i64 (r.2.2.2.1), .int .i64 (r.2.2.2.2.1), .int .i64 (r.2.2.2.2.2.1)], .bool (r.2.2.2.2.2.2)], []) : AV × List Blk)) (spec_MoveBetween L a b) := by
 intro oa ca x_a a hx_a ob cb x_b b hx_b
 subst hx_a
 subst hx_b
 unfold spec_MoveBetween
 conv=>lhs;whnf
 refine t_call (h_spec_pgGood _ _ _ a (by rfl)) fun r => ?_
 conv=>lhs;whnf
 refine t_cond ?_ ?_
 ·conv=>lhs;whnf
  exact t_ret (by rfl)
 ·conv=>lhs;whnf
  refine t_call (h_spec_pgGood _ _ _ b (by rfl)) fun r1 => ?_
  conv=>lhs;whnf
  refine t_cond ?_ ?_
  ·conv=>lhs;whnf
   exact t_ret (by rfl)
  ·conv=>lhs;whnf
   refine t_cond ?_ ?_
   ·conv=>lhs;whnf
    exact t_ret (by rfl)
   ·conv=>lhs;whnf
    refine t_loop (fun (⟨v0, v1, v29, v30, b0_0, b0_1, b0_2, b0_3, b0_4, b0_5⟩ : (List Pt) × (List Pt) × Int × Int × Int × Int × Int × Int × Int × Int) => (AV.lst oa ca 2 (List.map ep v0) :: AV.lst ob cb 2 (List.map ep v1) :: topA 2 (AV.ptr 0 0 0 6 :: topA 24 (AV.int .i64 v29 :: AV.int .i64 v30 :: tops 34)), [Blk.box (AV.agg [AV.int .i64 b0_0, AV.int .i64 b0_1, AV.int .i64 b0_2, AV.int .i64 b0_3, AV.int .i64 b0_4, AV.int .i64 b0_5])])) (fun m (⟨v0, v1, v29, v30, b0_0, b0_1, b0_2, b0_3, b0_4, b0_5⟩ : (List Pt) × (List Pt) × Int × Int × Int × Int × Int × Int × Int × Int) => spec_MoveBetween_l0 L m v0 v1 v29 v30 b0_0 b0_1 b0_2 b0_3 b0_4 b0_5) (fun _ => rfl) (fun m s rec hrec => ?_) L ((a, b, ilen (List.map ep b), 0, 0, 0, 0, 0, 0, 0)) ?_ ?_
    rotate_left
    ·rfl
    ·rfl
    obtain ⟨v0, v1, v29, v30, b0_0, b0_1, b0_2, b0_3, b0_4, b0_5⟩ := s
    show _ = Option.map _ (spec_MoveBetween_l0 L (m + 1) v0 v1 v29 v30 b0_0 b0_1 b0_2 b0_3 b0_4 b0_5)
    rw [spec_MoveBetween_l0.eq_2]
    conv=>lhs;whnf
    refine t_cond ?_ ?_
    ·conv=>lhs;whnf
     refine t_cond ?_ ?_
     ·conv=>lhs;whnf
      refine t_cond ?_ ?_
      ·conv=>lhs;whnf
       refine t_cond ?_ ?_
       ·conv=>lhs;whnf
        refine t_cond ?_ ?_
        ·conv=>lhs;whnf
         refine t_call (h_spec_pgBack _ _ _ (lcat (lcat [] (lsub v1 v30 (ilen (List.map ep v1)))) (lsub v1 0 v30)) (by first | rfl | simp only [ml] <;> rfl)) fun r2 => ?_
         conv=>lhs;whnf
         refine t_loop (fun (v47 : Int) => (AV.lst oa ca 2 (List.map ep v0) :: AV.lst ob cb 2 (List.map ep v1) :: topA 2 (AV.ptr 0 0 0 6 :: topA 24 (AV.int .i64 v29 :: AV.int .i64 v30 :: topA 14 (AV.own 1 1 none false :: AV.int .i64 (ilen [AV.lst false false 2 (lcat (lcat [] (lsub (List.map ep v1) v30 (ilen (List.map ep v1)))) (lsub (List.map ep v1) 0 v30)), AV.lst false false 2 (List.map ep r2)]) :: AV.int .i64 v47 :: tops 17))), [Blk.box (AV.agg [AV.int .i64 b0_0, AV.int .i64 b0_1, AV.int .i64 b0_2, AV.int .i64 b0_3, AV.int .i64 b0_4, AV.int .i64 b0_5]), Blk.rows Mode.live 1 [AV.lst false false 2 (lcat (lcat [] (lsub (List.map ep v1) v30 (ilen (List.map ep v1)))) (lsub (List.map ep v1) 0 v30)), AV.lst false false 2 (List.map ep r2)]])) (fun m1 (v47 : Int) => spec_MoveBetween_l1 L (spec_MoveBetween_l0 L m) v0 v1 v29 v30 b0_0 b0_1 b0_2 b0_3 b0_4 b0_5 r2 m1 v47) (fun _ => rfl) (fun m1 v47 rec1 hrec1 => ?_) L 0 ?_ ?_
         rotate_left
         ·rfl
         ·rfl
         show _ = Option.map _ (spec_MoveBetween_l1 L (spec_MoveBetween_l0 L m) v0 v1 v29 v30 b0_0 b0_1 b0_2 b0_3 b0_4 b0_5 r2 (m1 + 1) v47)
         rw [spec_MoveBetween_l1.eq_2]
         conv=>lhs;whnf
         refine t_cond ?_ ?_
         ·conv=>lhs;whnf
          refine t_cond ?_ ?_
          ·conv=>lhs;whnf
           refine t_get (en := eLP) (l := lcat (lcat [] (lsub v1 v30 (ilen (List.map ep v1)))) (lsub v1 0 v30) :: (r2 :: [])) (by first | rfl | simp only [ml] <;> rfl) fun p => ?_
           conv=>lhs;whnf
           refine t_call (h_spec_mvTo _ _ _ v0 (by rfl) _ _ _ p (by rfl)) fun r3 => ?_
           conv=>lhs;whnf
           refine t_cond ?_ ?_
           ·conv=>lhs;whnf
            refine t_call (h_spec_mvIf r3.1 r3.2.1 r3.2.2.1 r3.2.2.2.1 r3.2.2.2.2.1 r3.2.2.2.2.2.1) fun r4 => ?_
            conv=>lhs;whnf
            exact t_ret (by rfl)
           ·conv=>lhs;whnf
            exact hrec1 (wr .i64 (iadd v47 1)) _ _ (by rfl) (by rfl)
          ·conv=>lhs;whnf
           exact t_none
         ·conv=>lhs;whnf
          exact hrec ((v0, v1, v29, wr .i64 (iadd v30 1), b0_0, b0_1, b0_2, b0_3, b0_4, b0_5)) _ _ (by rfl) (by rfl)
        ·conv=>lhs;whnf
         exact t_none
       ·conv=>lhs;whnf
        exact t_none
      ·conv=>lhs;whnf
       exact t_none
     ·conv=>lhs;whnf
      exact t_none
    ·conv=>lhs;whnf
     exact t_ret (by rfl)
noncomputable def spec_DrawIsPolygon_l0 (L : Nat) (a : List Int) : Nat → Int → Int → Int → (List Pt) → Option ((List Pt))
  | 0, _, _, _, _ => none
  | m + 1, v5, b0_1, b0_2, w1 => bif ilt 0 v5 then (gbind (spec_l1Cur_surePeg L a b0_1 b0_2 2) fun r2 => bif fits (iadd (ilen (List.map ep w1)) (ilen [AV.agg [AV.int .i64 r2.1, AV.int .i64 r2.2.1]])) 16 then (spec_DrawIsPolygon_l0 L a m (wr .i64 (isub v5 1)) r2.2.2.1 r2.2.2.2 (lcat w1 ({ x := r2.1, y := r2.2.1 } :: []))) else (none)) else (some w1)
noncomputable def spec_DrawIsPolygon (L : Nat) (a : List Int) : Option ((List Pt)) := gbind (spec_l1Cur_one L a 0 0 4) fun r => bif r.1 then (gbind (spec_l1Cur_pick L a r.2.1 r.2.2 6) fun r1 => spec_DrawIsPolygon_l0 L a L r1.1 r1.2.1 r1.2.2 []) else (gbind (spec_l1Cur_polygon L a r.2.1 r.2.2 5) fun r3 => some r3.1)
def spec_DrawIsPolygon_ok (L : Nat) (C : CF) : Prop := ∀ (oa : Bool) (ca : Bool) (x_a : List AV) (a : List Int) (_ : x_a = List.map eU a), C 79 ([.lst oa ca 1 x_a]) ([]) = Option.map (fun r : (List Pt) => ((.frs 2 (List.map ep r), []) : AV × List Blk)) (spec_DrawIsPolygon L a)
theorem spec_DrawIsPolygon_run (L : Nat) (C : CF) (h_spec_l1Cur_pick : spec_l1Cur_pick_ok L C) (h_spec_l1Cur_one : spec_l1Cur_one_ok L C) (h_spec_l1Cur_surePeg : spec_l1Cur_surePeg_ok L C) (h_spec_l1Cur_polygon : spec_l1Cur_polygon_ok L C) : ∀ (oa : Bool) (ca : Bool) (x_a : List AV) (a : List Int) (_ : x_a = List.map eU a), run T C sh (keep 79) L Tryz.f79 ([.lst oa ca 1 x_a]) ([]) = Option.map (fun r : (List Pt) => ((.frs 2 (List.map ep r), []) : AV × List Blk)) (spec_DrawIsPolygon L a) := by
 intro oa ca x_a a hx_a
 subst hx_a
 unfold spec_DrawIsPolygon
 conv=>lhs;whnf
 refine t_call (h_spec_l1Cur_one _ _ _ a (by rfl) 0 0 4) fun r => ?_
 conv=>lhs;whnf
 refine t_cond ?_ ?_
 ·conv=>lhs;whnf
  refine t_call (h_spec_l1Cur_pick _ _ _ a (by rfl) r.2.1 r.2.2 6) fun r1 => ?_
  conv=>lhs;whnf
  refine t_loop (fun (⟨v5, b0_1, b0_2, w1⟩ : Int × Int × Int × (List Pt)) => (topA 3 (AV.ptr 0 0 0 3 :: AV.own 1 2 none false :: AV.int .i64 v5 :: tops 19), [Blk.box (AV.agg [AV.lst oa ca 1 (List.map eU a), AV.int .i64 b0_1, AV.int IntKind.u64 b0_2]), Blk.rows Mode.live 2 (List.map ep w1)])) (fun m (⟨v5, b0_1, b0_2, w1⟩ : Int × Int × Int × (List Pt)) => spec_DrawIsPolygon_l0 L a m v5 b0_1 b0_2 w1) (fun _ => rfl) (fun m s rec hrec => ?_) L ((r1.1, r1.2.1, r1.2.2, [])) ?_ ?_
  rotate_left
  ·rfl
  ·rfl
  obtain ⟨v5, b0_1, b0_2, w1⟩ := s
  show _ = Option.map _ (spec_DrawIsPolygon_l0 L a (m + 1) v5 b0_1 b0_2 w1)
  rw [spec_DrawIsPolygon_l0.eq_2]
  conv=>lhs;whnf
  refine t_cond ?_ ?_
  ·conv=>lhs;whnf
   refine t_call (h_spec_l1Cur_surePeg _ _ _ a (by rfl) b0_1 b0_2 2) fun r2 => ?_
   conv=>lhs;whnf
   refine t_cond ?_ ?_
   ·conv=>lhs;whnf
    exact hrec ((wr .i64 (isub v5 1), r2.2.2.1, r2.2.2.2, lcat w1 ({ x := r2.1, y := r2.2.1 } :: []))) _ _ (by rfl) (by first | rfl | simp only [ml] <;> rfl)
   ·conv=>lhs;whnf
    exact t_none
  ·conv=>lhs;whnf
   exact t_ret (by rfl)
 ·conv=>lhs;whnf
  refine t_call (h_spec_l1Cur_polygon _ _ _ a (by rfl) r.2.1 r.2.2 5) fun r3 => ?_
  conv=>lhs;whnf
  exact t_ret (by rfl)
noncomputable def spec_DrawKindOfPolygon (L : Nat) (a : List Int) : Option ((List Pt)) := gbind (spec_DrawIsPolygon L a) fun r => some r
def spec_DrawKindOfPolygon_ok (L : Nat) (C : CF) : Prop := ∀ (oa : Bool) (ca : Bool) (x_a : List AV) (a : List Int) (_ : x_a = List.map eU a), C 26 ([.lst oa ca 1 x_a]) ([]) = Option.map (fun r : (List Pt) => ((.frs 2 (List.map ep r), []) : AV × List Blk)) (spec_DrawKindOfPolygon L a)
theorem spec_DrawKindOfPolygon_run (L : Nat) (C : CF) (h_spec_DrawIsPolygon : spec_DrawIsPolygon_ok L C) : ∀ (oa : Bool) (ca : Bool) (x_a : List AV) (a : List Int) (_ : x_a = List.map eU a), run T C sh (keep 26) L Tryz.f26 ([.lst oa ca 1 x_a]) ([]) = Option.map (fun r : (List Pt) => ((.frs 2 (List.map ep r), []) : AV × List Blk)) (spec_DrawKindOfPolygon L a) := by
 intro oa ca x_a a hx_a
 subst hx_a
 unfold spec_DrawKindOfPolygon
 conv=>lhs;whnf
 refine t_call (h_spec_DrawIsPolygon _ _ _ a (by rfl)) fun r => ?_
 conv=>lhs;whnf
 exact t_ret (by rfl)
noncomputable def impl_KindOfPolygon (L : Nat) (a : List Pt) : Option ((List Pt) × Bool) := gbind (impl_IsPolygon L a) fun r => bif !r then (some (([], false))) else (gbind (impl_firstFrame L a) fun r1 => gbind (impl_arePegs L r1) fun r2 => bif !r2 then (some (([], false))) else (some ((r1, true))))
def impl_KindOfPolygon_ok (L : Nat) (C : CF) : Prop := ∀ (oa : Bool) (ca : Bool) (x_a : List AV) (a : List Pt) (_ : x_a = List.map ep a), C 27 ([.lst oa ca 2 x_a]) ([]) = Option.map (fun r : (List Pt) × Bool => ((.tup [.frs 2 (List.map ep (r.1)), .bool (r.2)], []) : AV × List Blk)) (impl_KindOfPolygon L a)
theorem impl_KindOfPolygon_run (L : Nat) (C : CF) (h_impl_arePegs : impl_arePegs_ok L C) (h_impl_IsPolygon : impl_IsPolygon_ok L C) (h_impl_firstFrame : impl_firstFrame_ok L C) : ∀ (oa : Bool) (ca : Bool) (x_a : List AV) (a : List Pt) (_ : x_a = List.map ep a), run T C sh (keep 27) L Tryz.f27 ([.lst oa ca 2 x_a]) ([]) = Option.map (fun r : (List Pt) × Bool => ((.tup [.frs 2 (List.map ep (r.1)), .bool (r.2)], []) : AV × List Blk)) (impl_KindOfPolygon L a) := by
 intro oa ca x_a a hx_a
 subst hx_a
 unfold impl_KindOfPolygon
 conv=>lhs;whnf
 refine t_call (h_impl_IsPolygon _ _ _ a (by rfl)) fun r => ?_
 conv=>lhs;whnf
 refine t_cond ?_ ?_
 ·conv=>lhs;whnf
  exact t_ret (by rfl)
 ·conv=>lhs;whnf
  refine t_call (h_impl_firstFrame _ _ _ a (by rfl)) fun r1 => ?_
  conv=>lhs;whnf
  refine t_call (h_impl_arePegs _ _ _ r1 (by rfl)) fun r2 => ?_
  conv=>lhs;whnf
  refine t_cond ?_ ?_
  ·conv=>lhs;whnf
   exact t_ret (by rfl)
  ·conv=>lhs;whnf
   exact t_ret (by rfl)
end Go.AM
