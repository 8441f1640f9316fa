import Derived.Test.YtblinpffebpgfaaAmSeat
set_option linter.unusedVariables false
set_option linter.unusedSimpArgs false
set_option linter.unnecessarySimpa false
set_option linter.deprecated false
set_option linter.unusedSectionVars false
open Go Go.AM Go.Proofs
namespace Go.AM
set_option maxRecDepth 400000
set_option maxHeartbeats 40000000
noncomputable def laws_big (L : Nat) (a : List Int) (b : List Int) : Option (Bool) := bif ilt 1048576 (ilen (List.map eU a)) then (some true) else (some (ilt (wr IntKind.i64 (isub 1048576 (ilen (List.map eU a)))) (ilen (List.map eU b))))
def laws_big_ok (L : Nat) (C : CF) : Prop := ∀ (oa : Bool) (ca : Bool) (x_a : List AV) (a : List Int) (_ : x_a = List.map eU a) (ob : Bool) (cb : Bool) (x_b : List AV) (b : List Int) (_ : x_b = List.map eU b), C 4 ([.lst oa ca 1 x_a, .lst ob cb 1 x_b]) ([]) = Option.map (fun r : Bool => ((.bool r, []) : AV × List Blk)) (laws_big L a b)
theorem laws_big_run (L : Nat) (C : CF) : ∀ (oa : Bool) (ca : Bool) (x_a : List AV) (a : List Int) (_ : x_a = List.map eU a) (ob : Bool) (cb : Bool) (x_b : List AV) (b : List Int) (_ : x_b = List.map eU b), run T C sh (keep 4) L Try.f4 ([.lst oa ca 1 x_a, .lst ob cb 1 x_b]) ([]) = Option.map (fun r : Bool => ((.bool r, []) : AV × List Blk)) (laws_big L a b) := by
 intro oa ca x_a a hx_a ob cb x_b b hx_b
 subst hx_a
 subst hx_b
 unfold laws_big
 conv => lhs; whnf
 refine t_cond ?_ ?_
 ·conv => lhs; whnf
  exact t_ret (by first | rfl | simp only [ml] <;> rfl)
 ·conv => lhs; whnf
  exact t_ret (by first | rfl | simp only [ml] <;> rfl)
noncomputable def spec_l1Cur_next (L : Nat) (a_0 : List Int) (a_1 : Int) (a_2 : Int) : Option (Int × Int × Int) := bif ilt a_1 (ilen (List.map eU a_0)) then (gbind (lget a_0 a_1) fun p => bif ile (wr IntKind.i64 (iadd a_1 1)) (ilen (List.map eU a_0)) then (some ((wr IntKind.i64 p, wr IntKind.i64 (iadd a_1 1), wr IntKind.u64 (iadd (wr IntKind.u64 (iadd (wr IntKind.u64 (imul a_2 6364136223846793005)) (wr IntKind.u64 (wr IntKind.i64 p)))) 1442695040888963407)))) else (bif ilt 40 0 then (none) else (some ((wr IntKind.i64 (iand IntKind.u64 (ishr IntKind.u64 (wr IntKind.u64 (iadd (wr IntKind.u64 (iadd (wr IntKind.u64 (imul a_2 6364136223846793005)) (wr IntKind.u64 (wr IntKind.i64 p)))) 1442695040888963407)) 40) 255), wr IntKind.i64 (iadd a_1 1), wr IntKind.u64 (iadd (wr IntKind.u64 (iadd (wr IntKind.u64 (imul a_2 6364136223846793005)) (wr IntKind.u64 (wr IntKind.i64 p)))) 1442695040888963407)))))) else (bif ile (wr IntKind.i64 (iadd a_1 1)) (ilen (List.map eU a_0)) then (some ((0, wr IntKind.i64 (iadd a_1 1), wr IntKind.u64 (iadd (wr IntKind.u64 (iadd (wr IntKind.u64 (imul a_2 6364136223846793005)) (wr IntKind.u64 0))) 1442695040888963407)))) else (bif ilt 40 0 then (none) else (some ((wr IntKind.i64 (iand IntKind.u64 (ishr IntKind.u64 (wr IntKind.u64 (iadd (wr IntKind.u64 (iadd (wr IntKind.u64 (imul a_2 6364136223846793005)) (wr IntKind.u64 0))) 1442695040888963407)) 40) 255), wr IntKind.i64 (iadd a_1 1), wr IntKind.u64 (iadd (wr IntKind.u64 (iadd (wr IntKind.u64 (imul a_2 6364136223846793005)) (wr IntKind.u64 0))) 1442695040888963407))))))
def spec_l1Cur_next_ok (L : Nat) (C : CF) : Prop := ∀ (oa_0 : Bool) (ca_0 : Bool) (x_a_0 : List AV) (a_0 : List Int) (_ : x_a_0 = List.map eU a_0) (a_1 : Int) (a_2 : Int), C 82 ([.ptr 0 0 0 3]) ([.box (.agg [.lst oa_0 ca_0 1 x_a_0, .int .i64 a_1, .int .u64 a_2])]) = Option.map (fun r : Int × Int × Int => ((.int .i64 (r.1), [.box (.agg [.lst oa_0 ca_0 1 x_a_0, .int .i64 (r.2.1), .int .u64 (r.2.2)])]) : AV × List Blk)) (spec_l1Cur_next L a_0 a_1 a_2)
theorem spec_l1Cur_next_run (L : Nat) (C : CF) : ∀ (oa_0 : Bool) (ca_0 : Bool) (x_a_0 : List AV) (a_0 : List Int) (_ : x_a_0 = List.map eU a_0) (a_1 : Int) (a_2 : Int), run T C sh (keep 82) L Try.f82 ([.ptr 0 0 0 3]) ([.box (.agg [.lst oa_0 ca_0 1 x_a_0, .int .i64 a_1, .int .u64 a_2])]) = Option.map (fun r : Int × Int × Int => ((.int .i64 (r.1), [.box (.agg [.lst oa_0 ca_0 1 x_a_0, .int .i64 (r.2.1), .int .u64 (r.2.2)])]) : AV × List Blk)) (spec_l1Cur_next L a_0 a_1 a_2) := by
 intro oa_0 ca_0 x_a_0 a_0 hx_a_0 a_1 a_2
 subst hx_a_0
 unfold spec_l1Cur_next
 conv => lhs; whnf
 refine t_cond ?_ ?_
 ·conv => lhs; whnf
  refine t_get (en := eU) (l := a_0) (by first | rfl | simp only [ml] <;> rfl) fun p => ?_
  conv => lhs; whnf
  refine t_cond ?_ ?_
  ·conv => lhs; whnf
   exact t_ret (by first | rfl | simp only [ml] <;> rfl)
  ·conv => lhs; whnf
   refine t_cond ?_ ?_
   ·conv => lhs; whnf
    exact t_none
   ·conv => lhs; whnf
    exact t_ret (by first | rfl | simp only [ml] <;> rfl)
 ·conv => lhs; whnf
  refine t_cond ?_ ?_
  ·conv => lhs; whnf
   exact t_ret (by first | rfl | simp only [ml] <;> rfl)
  ·conv => lhs; whnf
   refine t_cond ?_ ?_
   ·conv => lhs; whnf
    exact t_none
   ·conv => lhs; whnf
    exact t_ret (by first | rfl | simp only [ml] <;> rfl)
noncomputable def spec_l1Cur_pick (L : Nat) (a_0 : List Int) (a_1 : Int) (a_2 : Int) (b : Int) : Option (Int × Int × Int) := bif ile b 1 then (some ((0, a_1, a_2))) else (gbind (spec_l1Cur_next L a_0 a_1 a_2) fun r => bif ilt 200 b then (gbind (spec_l1Cur_next L a_0 (Prod.fst (Prod.snd r)) (Prod.snd (Prod.snd r))) fun r1 => bif ieq b 0 then (none) else (some ((irem (wr IntKind.i64 (iadd (wr IntKind.i64 (imul (Prod.fst r) 256)) (Prod.fst r1))) b, Prod.fst (Prod.snd r1), Prod.snd (Prod.snd r1))))) else (bif ieq b 0 then (none) else (some ((irem (Prod.fst r) b, Prod.fst (Prod.snd r), Prod.snd (Prod.snd r))))))
def spec_l1Cur_pick_ok (L : Nat) (C : CF) : Prop := ∀ (oa_0 : Bool) (ca_0 : Bool) (x_a_0 : List AV) (a_0 : List Int) (_ : x_a_0 = List.map eU a_0) (a_1 : Int) (a_2 : Int) (b : Int), C 61 ([.ptr 0 0 0 3, .int .i64 b]) ([.box (.agg [.lst oa_0 ca_0 1 x_a_0, .int .i64 a_1, .int .u64 a_2])]) = Option.map (fun r : Int × Int × Int => ((.int .i64 (r.1), [.box (.agg [.lst oa_0 ca_0 1 x_a_0, .int .i64 (r.2.1), .int .u64 (r.2.2)])]) : AV × List Blk)) (spec_l1Cur_pick L a_0 a_1 a_2 b)
theorem spec_l1Cur_pick_run (L : Nat) (C : CF) (h_spec_l1Cur_next : spec_l1Cur_next_ok L C) : ∀ (oa_0 : Bool) (ca_0 : Bool) (x_a_0 : List AV) (a_0 : List Int) (_ : x_a_0 = List.map eU a_0) (a_1 : Int) (a_2 : Int) (b : Int), run T C sh (keep 61) L Try.f61 ([.ptr 0 0 0 3, .int .i64 b]) ([.box (.agg [.lst oa_0 ca_0 1 x_a_0, .int .i64 a_1, .int .u64 a_2])]) = Option.map (fun r : Int × Int × Int => ((.int .i64 (r.1), [.box (.agg [.lst oa_0 ca_0 1 x_a_0, .int .i64 (r.2.1), .int .u64 (r.2.2)])]) : AV × List Blk)) (spec_l1Cur_pick L a_0 a_1 a_2 b) := by
 intro oa_0 ca_0 x_a_0 a_0 hx_a_0 a_1 a_2 b
 subst hx_a_0
 unfold spec_l1Cur_pick
 conv => lhs; whnf
 refine t_cond ?_ ?_
 ·conv => lhs; whnf
  exact t_ret (by first | rfl | simp only [ml] <;> rfl)
 ·conv => lhs; whnf
  refine t_call (h_spec_l1Cur_next _ _ _ a_0 (by first | rfl | simp only [ml] <;> rfl) a_1 a_2) fun r => ?_
  conv => lhs; whnf
  refine t_cond ?_ ?_
  ·conv => lhs; whnf
   refine t_call (h_spec_l1Cur_next _ _ _ a_0 (by first | rfl | simp only [ml] <;> rfl) (Prod.fst (Prod.snd r)) (Prod.snd (Prod.snd r))) fun r1 => ?_
   conv => lhs; whnf
   refine t_cond ?_ ?_
   ·conv => lhs; whnf
    exact t_none
   ·conv => lhs; whnf
    exact t_ret (by first | rfl | simp only [ml] <;> rfl)
  ·conv => lhs; whnf
   refine t_cond ?_ ?_
   ·conv => lhs; whnf
    exact t_none
   ·conv => lhs; whnf
    exact t_ret (by first | rfl | simp only [ml] <;> rfl)
noncomputable def spec_l1Cur_one (L : Nat) (a_0 : List Int) (a_1 : Int) (a_2 : Int) (b : Int) : Option (Bool × Int × Int) := gbind (spec_l1Cur_pick L a_0 a_1 a_2 b) fun r => some ((ieq (Prod.fst r) 0, Prod.fst (Prod.snd r), Prod.snd (Prod.snd r)))
def spec_l1Cur_one_ok (L : Nat) (C : CF) : Prop := ∀ (oa_0 : Bool) (ca_0 : Bool) (x_a_0 : List AV) (a_0 : List Int) (_ : x_a_0 = List.map eU a_0) (a_1 : Int) (a_2 : Int) (b : Int), C 60 ([.ptr 0 0 0 3, .int .i64 b]) ([.box (.agg [.lst oa_0 ca_0 1 x_a_0, .int .i64 a_1, .int .u64 a_2])]) = Option.map (fun r : Bool × Int × Int => ((.bool (r.1), [.box (.agg [.lst oa_0 ca_0 1 x_a_0, .int .i64 (r.2.1), .int .u64 (r.2.2)])]) : AV × List Blk)) (spec_l1Cur_one L a_0 a_1 a_2 b)
theorem spec_l1Cur_one_run (L : Nat) (C : CF) (h_spec_l1Cur_pick : spec_l1Cur_pick_ok L C) : ∀ (oa_0 : Bool) (ca_0 : Bool) (x_a_0 : List AV) (a_0 : List Int) (_ : x_a_0 = List.map eU a_0) (a_1 : Int) (a_2 : Int) (b : Int), run T C sh (keep 60) L Try.f60 ([.ptr 0 0 0 3, .int .i64 b]) ([.box (.agg [.lst oa_0 ca_0 1 x_a_0, .int .i64 a_1, .int .u64 a_2])]) = Option.map (fun r : Bool × Int × Int => ((.bool (r.1), [.box (.agg [.lst oa_0 ca_0 1 x_a_0, .int .i64 (r.2.1), .int .u64 (r.2.2)])]) : AV × List Blk)) (spec_l1Cur_one L a_0 a_1 a_2 b) := by
 intro oa_0 ca_0 x_a_0 a_0 hx_a_0 a_1 a_2 b
 subst hx_a_0
 unfold spec_l1Cur_one
 conv => lhs; whnf
 refine t_call (h_spec_l1Cur_pick _ _ _ a_0 (by first | rfl | simp only [ml] <;> rfl) a_1 a_2 b) fun r => ?_
 conv => lhs; whnf
 exact t_ret (by first | rfl | simp only [ml] <;> rfl)
noncomputable def spec_l1Cur_surePeg (L : Nat) (a_0 : List Int) (a_1 : Int) (a_2 : Int) (b : Int) : Option (Int × Int × Int × Int) := gbind (spec_l1Cur_pick L a_0 a_1 a_2 (wr IntKind.i64 (iadd (wr IntKind.i64 (imul 2 b)) 1))) fun r => gbind (spec_l1Cur_pick L a_0 (Prod.fst (Prod.snd r)) (Prod.snd (Prod.snd r)) (wr IntKind.i64 (iadd (wr IntKind.i64 (imul 2 b)) 1))) fun r1 => some ((wr IntKind.i64 (isub (Prod.fst r) b), wr IntKind.i64 (isub (Prod.fst r1) b), Prod.fst (Prod.snd r1), Prod.snd (Prod.snd r1)))
def spec_l1Cur_surePeg_ok (L : Nat) (C : CF) : Prop := ∀ (oa_0 : Bool) (ca_0 : Bool) (x_a_0 : List AV) (a_0 : List Int) (_ : x_a_0 = List.map eU a_0) (a_1 : Int) (a_2 : Int) (b : Int), C 62 ([.ptr 0 0 0 3, .int .i64 b]) ([.box (.agg [.lst oa_0 ca_0 1 x_a_0, .int .i64 a_1, .int .u64 a_2])]) = Option.map (fun r : Int × Int × Int × Int => ((.agg [.int .i64 (r.1), .int .i64 (r.2.1)], [.box (.agg [.lst oa_0 ca_0 1 x_a_0, .int .i64 (r.2.2.1), .int .u64 (r.2.2.2)])]) : AV × List Blk)) (spec_l1Cur_surePeg L a_0 a_1 a_2 b)
theorem spec_l1Cur_surePeg_run (L : Nat) (C : CF) (h_spec_l1Cur_pick : spec_l1Cur_pick_ok L C) : ∀ (oa_0 : Bool) (ca_0 : Bool) (x_a_0 : List AV) (a_0 : List Int) (_ : x_a_0 = List.map eU a_0) (a_1 : Int) (a_2 : Int) (b : Int), run T C sh (keep 62) L Try.f62 ([.ptr 0 0 0 3, .int .i64 b]) ([.box (.agg [.lst oa_0 ca_0 1 x_a_0, .int .i64 a_1, .int .u64 a_2])]) = Option.map (fun r : Int × Int × Int × Int => ((.agg [.int .i64 (r.1), .int .i64 (r.2.1)], [.box (.agg [.lst oa_0 ca_0 1 x_a_0, .int .i64 (r.2.2.1), .int .u64 (r.2.2.2)])]) : AV × List Blk)) (spec_l1Cur_surePeg L a_0 a_1 a_2 b) := by
 intro oa_0 ca_0 x_a_0 a_0 hx_a_0 a_1 a_2 b
 subst hx_a_0
 unfold spec_l1Cur_surePeg
 conv => lhs; whnf
 refine t_call (h_spec_l1Cur_pick _ _ _ a_0 (by first | rfl | simp only [ml] <;> rfl) a_1 a_2 (wr IntKind.i64 (iadd (wr IntKind.i64 (imul 2 b)) 1))) fun r => ?_
 conv => lhs; whnf
 refine t_call (h_spec_l1Cur_pick _ _ _ a_0 (by first | rfl | simp only [ml] <;> rfl) (Prod.fst (Prod.snd r)) (Prod.snd (Prod.snd r)) (wr IntKind.i64 (iadd (wr IntKind.i64 (imul 2 b)) 1))) fun r1 => ?_
 conv => lhs; whnf
 exact t_ret (by first | rfl | simp only [ml] <;> rfl)
noncomputable def spec_l1In (L : Nat) (a : Int) (b : Int) (c : Int) : Option (Bool) := bif ile b a then (some (ile a c)) else (some false)
def spec_l1In_ok (L : Nat) (C : CF) : Prop := ∀ (a : Int) (b : Int) (c : Int), C 63 ([.int .i64 a, .int .i64 b, .int .i64 c]) ([]) = Option.map (fun r : Bool => ((.bool r, []) : AV × List Blk)) (spec_l1In L a b c)
theorem spec_l1In_run (L : Nat) (C : CF) : ∀ (a : Int) (b : Int) (c : Int), run T C sh (keep 63) L Try.f63 ([.int .i64 a, .int .i64 b, .int .i64 c]) ([]) = Option.map (fun r : Bool => ((.bool r, []) : AV × List Blk)) (spec_l1In L a b c) := by
 intro a b c
 unfold spec_l1In
 conv => lhs; whnf
 refine t_cond ?_ ?_
 ·conv => lhs; whnf
  exact t_ret (by first | rfl | simp only [ml] <;> rfl)
 ·conv => lhs; whnf
  exact t_ret (by first | rfl | simp only [ml] <;> rfl)
noncomputable def spec_pgIs (L : Nat) (a_0 : Int) (a_1 : Int) : Option (Bool) := gbind (spec_l1In L a_0 (-40) 40) fun r => bif r then (gbind (spec_l1In L a_1 (-40) 40) fun r1 => some r1) else (some false)
def spec_pgIs_ok (L : Nat) (C : CF) : Prop := ∀ (a_0 : Int) (a_1 : Int), C 57 ([.agg [.int .i64 a_0, .int .i64 a_1]]) ([]) = Option.map (fun r : Bool => ((.bool r, []) : AV × List Blk)) (spec_pgIs L a_0 a_1)
theorem spec_pgIs_run (L : Nat) (C : CF) (h_spec_l1In : spec_l1In_ok L C) : ∀ (a_0 : Int) (a_1 : Int), run T C sh (keep 57) L Try.f57 ([.agg [.int .i64 a_0, .int .i64 a_1]]) ([]) = Option.map (fun r : Bool => ((.bool r, []) : AV × List Blk)) (spec_pgIs L a_0 a_1) := by
 intro a_0 a_1
 unfold spec_pgIs
 conv => lhs; whnf
 refine t_call (h_spec_l1In a_0 (-40) 40) fun r => ?_
 conv => lhs; whnf
 refine t_cond ?_ ?_
 ·conv => lhs; whnf
  refine t_call (h_spec_l1In a_1 (-40) 40) fun r1 => ?_
  conv => lhs; whnf
  exact t_ret (by first | rfl | simp only [ml] <;> rfl)
 ·conv => lhs; whnf
  exact t_ret (by first | rfl | simp only [ml] <;> rfl)
noncomputable def spec_pgTurn (L : Nat) (a_0 : Int) (a_1 : Int) (b_0 : Int) (b_1 : Int) (c_0 : Int) (c_1 : Int) : Option (Int) := some (wr IntKind.i64 (isub (wr IntKind.i64 (imul (wr IntKind.i64 (isub b_0 a_0)) (wr IntKind.i64 (isub c_1 a_1)))) (wr IntKind.i64 (imul (wr IntKind.i64 (isub b_1 a_1)) (wr IntKind.i64 (isub c_0 a_0))))))
def spec_pgTurn_ok (L : Nat) (C : CF) : Prop := ∀ (a_0 : Int) (a_1 : Int) (b_0 : Int) (b_1 : Int) (c_0 : Int) (c_1 : Int), C 64 ([.agg [.int .i64 a_0, .int .i64 a_1], .agg [.int .i64 b_0, .int .i64 b_1], .agg [.int .i64 c_0, .int .i64 c_1]]) ([]) = Option.map (fun r : Int => ((.int .i64 r, []) : AV × List Blk)) (spec_pgTurn L a_0 a_1 b_0 b_1 c_0 c_1)
theorem spec_pgTurn_run (L : Nat) (C : CF) : ∀ (a_0 : Int) (a_1 : Int) (b_0 : Int) (b_1 : Int) (c_0 : Int) (c_1 : Int), run T C sh (keep 64) L Try.f64 ([.agg [.int .i64 a_0, .int .i64 a_1], .agg [.int .i64 b_0, .int .i64 b_1], .agg [.int .i64 c_0, .int .i64 c_1]]) ([]) = Option.map (fun r : Int => ((.int .i64 r, []) : AV × List Blk)) (spec_pgTurn L a_0 a_1 b_0 b_1 c_0 c_1) := by
 intro a_0 a_1 b_0 b_1 c_0 c_1
 unfold spec_pgTurn
 conv => lhs; whnf
 exact t_ret (by first | rfl | simp only [ml] <;> rfl)
noncomputable def spec_pgOn (L : Nat) (a_0 : Int) (a_1 : Int) (b_0 : Int) (b_1 : Int) (c_0 : Int) (c_1 : Int) : Option (Bool) := gbind (spec_pgTurn L a_0 a_1 b_0 b_1 c_0 c_1) fun r => bif ieq r 0 then (bif ile (wr IntKind.i64 (imul (wr IntKind.i64 (isub a_0 c_0)) (wr IntKind.i64 (isub b_0 c_0)))) 0 then (some (ile (wr IntKind.i64 (imul (wr IntKind.i64 (isub a_1 c_1)) (wr IntKind.i64 (isub b_1 c_1)))) 0)) else (some false)) else (some false)
def spec_pgOn_ok (L : Nat) (C : CF) : Prop := ∀ (a_0 : Int) (a_1 : Int) (b_0 : Int) (b_1 : Int) (c_0 : Int) (c_1 : Int), C 81 ([.agg [.int .i64 a_0, .int .i64 a_1], .agg [.int .i64 b_0, .int .i64 b_1], .agg [.int .i64 c_0, .int .i64 c_1]]) ([]) = Option.map (fun r : Bool => ((.bool r, []) : AV × List Blk)) (spec_pgOn L a_0 a_1 b_0 b_1 c_0 c_1)
theorem spec_pgOn_run (L : Nat) (C : CF) (h_spec_pgTurn : spec_pgTurn_ok L C) : ∀ (a_0 : Int) (a_1 : Int) (b_0 : Int) (b_1 : Int) (c_0 : Int) (c_1 : Int), run T C sh (keep 81) L Try.f81 ([.agg [.int .i64 a_0, .int .i64 a_1], .agg [.int .i64 b_0, .int .i64 b_1], .agg [.int .i64 c_0, .int .i64 c_1]]) ([]) = Option.map (fun r : Bool => ((.bool r, []) : AV × List Blk)) (spec_pgOn L a_0 a_1 b_0 b_1 c_0 c_1) := by
 intro a_0 a_1 b_0 b_1 c_0 c_1
 unfold spec_pgOn
 conv => lhs; whnf
 refine t_call (h_spec_pgTurn a_0 a_1 b_0 b_1 c_0 c_1) fun r => ?_
 conv => lhs; whnf
 refine t_cond ?_ ?_
 ·conv => lhs; whnf
  refine t_cond ?_ ?_
  ·conv => lhs; whnf
   exact t_ret (by first | rfl | simp only [ml] <;> rfl)
  ·conv => lhs; whnf
   exact t_ret (by first | rfl | simp only [ml] <;> rfl)
 ·conv => lhs; whnf
  exact t_ret (by first | rfl | simp only [ml] <;> rfl)
noncomputable def spec_l1Sign (L : Nat) (a : Int) : Option (Int) := bif ilt 0 a then (some 1) else (bif ilt a 0 then (some (-1)) else (some 0))
def spec_l1Sign_ok (L : Nat) (C : CF) : Prop := ∀ (a : Int), C 71 ([.int .i64 a]) ([]) = Option.map (fun r : Int => ((.int .i64 r, []) : AV × List Blk)) (spec_l1Sign L a)
theorem spec_l1Sign_run (L : Nat) (C : CF) : ∀ (a : Int), run T C sh (keep 71) L Try.f71 ([.int .i64 a]) ([]) = Option.map (fun r : Int => ((.int .i64 r, []) : AV × List Blk)) (spec_l1Sign L a) := by
 intro a
 unfold spec_l1Sign
 conv => lhs; whnf
 refine t_cond ?_ ?_
 ·conv => lhs; whnf
  exact t_ret (by first | rfl | simp only [ml] <;> rfl)
 ·conv => lhs; whnf
  refine t_cond ?_ ?_
  ·conv => lhs; whnf
   exact t_ret (by first | rfl | simp only [ml] <;> rfl)
  ·conv => lhs; whnf
   exact t_ret (by first | rfl | simp only [ml] <;> rfl)
noncomputable def spec_pgMeet (L : Nat) (a_0 : Int) (a_1 : Int) (b_0 : Int) (b_1 : Int) (c_0 : Int) (c_1 : Int) (d_0 : Int) (d_1 : Int) : Option (Bool) := gbind (spec_pgOn L a_0 a_1 b_0 b_1 c_0 c_1) fun r => bif r then (some true) else (gbind (spec_pgOn L a_0 a_1 b_0 b_1 d_0 d_1) fun r1 => bif r1 then (some true) else (gbind (spec_pgOn L c_0 c_1 d_0 d_1 a_0 a_1) fun r2 => bif r2 then (some true) else (gbind (spec_pgOn L c_0 c_1 d_0 d_1 b_0 b_1) fun r3 => bif r3 then (some true) else (gbind (spec_pgTurn L a_0 a_1 b_0 b_1 c_0 c_1) fun r4 => gbind (spec_l1Sign L r4) fun r5 => gbind (spec_pgTurn L a_0 a_1 b_0 b_1 d_0 d_1) fun r6 => gbind (spec_l1Sign L r6) fun r7 => bif ilt (wr IntKind.i64 (imul r5 r7)) 0 then (gbind (spec_pgTurn L c_0 c_1 d_0 d_1 a_0 a_1) fun r8 => gbind (spec_l1Sign L r8) fun r9 => gbind (spec_pgTurn L c_0 c_1 d_0 d_1 b_0 b_1) fun r10 => gbind (spec_l1Sign L r10) fun r11 => some (ilt (wr IntKind.i64 (imul r9 r11)) 0)) else (some false)))))
def spec_pgMeet_ok (L : Nat) (C : CF) : Prop := ∀ (a_0 : Int) (a_1 : Int) (b_0 : Int) (b_1 : Int) (c_0 : Int) (c_1 : Int) (d_0 : Int) (d_1 : Int), C 65 ([.agg [.int .i64 a_0, .int .i64 a_1], .agg [.int .i64 b_0, .int .i64 b_1], .agg [.int .i64 c_0, .int .i64 c_1], .agg [.int .i64 d_0, .int .i64 d_1]]) ([]) = Option.map (fun r : Bool => ((.bool r, []) : AV × List Blk)) (spec_pgMeet L a_0 a_1 b_0 b_1 c_0 c_1 d_0 d_1)
theorem spec_pgMeet_run (L : Nat) (C : CF) (h_spec_pgTurn : spec_pgTurn_ok L C) (h_spec_pgOn : spec_pgOn_ok L C) (h_spec_l1Sign : spec_l1Sign_ok L C) : ∀ (a_0 : Int) (a_1 : Int) (b_0 : Int) (b_1 : Int) (c_0 : Int) (c_1 : Int) (d_0 : Int) (d_1 : Int), run T C sh (keep 65) L Try.f65 ([.agg [.int .i64 a_0, .int .i64 a_1], .agg [.int .i64 b_0, .int .i64 b_1], .agg [.int .i64 c_0, .int .i64 c_1], .agg [.int .i64 d_0, .int .i64 d_1]]) ([]) = Option.map (fun r : Bool => ((.bool r, []) : AV × List Blk)) (spec_pgMeet L a_0 a_1 b_0 b_1 c_0 c_1 d_0 d_1) := by
 intro a_0 a_1 b_0 b_1 c_0 c_1 d_0 d_1
 unfold spec_pgMeet
 conv => lhs; whnf
 refine t_call (h_spec_pgOn a_0 a_1 b_0 b_1 c_0 c_1) fun r => ?_
 conv => lhs; whnf
 refine t_cond ?_ ?_
 ·conv => lhs; whnf
  exact t_ret (by first | rfl | simp only [ml] <;> rfl)
 ·conv => lhs; whnf
  refine t_call (h_spec_pgOn a_0 a_1 b_0 b_1 d_0 d_1) fun r1 => ?_
  conv => lhs; whnf
  refine t_cond ?_ ?_
  ·conv => lhs; whnf
   exact t_ret (by first | rfl | simp only [ml] <;> rfl)
  ·conv => lhs; whnf
   refine t_call (h_spec_pgOn c_0 c_1 d_0 d_1 a_0 a_1) fun r2 => ?_
   conv => lhs; whnf
   refine t_cond ?_ ?_
   ·conv => lhs; whnf
    exact t_ret (by first | rfl | simp only [ml] <;> rfl)
   ·conv => lhs; whnf
    refine t_call (h_spec_pgOn c_0 c_1 d_0 d_1 b_0 b_1) fun r3 => ?_
    conv => lhs; whnf
    refine t_cond ?_ ?_
    ·conv => lhs; whnf
     exact t_ret (by first | rfl | simp only [ml] <;> rfl)
    ·conv => lhs; whnf
     refine t_call (h_spec_pgTurn a_0 a_1 b_0 b_1 c_0 c_1) fun r4 => ?_
     conv => lhs; whnf
     refine t_call (h_spec_l1Sign r4) fun r5 => ?_
     conv => lhs; whnf
     refine t_call (h_spec_pgTurn a_0 a_1 b_0 b_1 d_0 d_1) fun r6 => ?_
     conv => lhs; whnf
     refine t_call (h_spec_l1Sign r6) fun r7 => ?_
     conv => lhs; whnf
     refine t_cond ?_ ?_
     ·conv => lhs; whnf
      refine t_call (h_spec_pgTurn c_0 c_1 d_0 d_1 a_0 a_1) fun r8 => ?_
      conv => lhs; whnf
      refine t_call (h_spec_l1Sign r8) fun r9 => ?_
      conv => lhs; whnf
      refine t_call (h_spec_pgTurn c_0 c_1 d_0 d_1 b_0 b_1) fun r10 => ?_
      conv => lhs; whnf
      refine t_call (h_spec_l1Sign r10) fun r11 => ?_
      conv => lhs; whnf
      exact t_ret (by first | rfl | simp only [ml] <;> rfl)
     ·conv => lhs; whnf
      exact t_ret (by first | rfl | simp only [ml] <;> rfl)
noncomputable def spec_pgGood_l1 (L : Nat) (κ0 : (List Pt) → Int → (List Pt) → Int → Int → Option Bool) (v0 : List Pt) (v3 : Int) (v17 : List Pt) (v18 : Int) (v19 : Int) (p : Pt) : Nat → Int → Option Bool
  | 0, _ => none
  | m1 + 1, v31 => bif ilt v31 (ilen (lsub (List.map ep v0) 0 v19)) then (gbind (lget (lsub v0 0 v19) v31) fun p1 => bif ieq (Pt.x p) (Pt.x p1) && ieq (Pt.y p) (Pt.y p1) then (some false) else (spec_pgGood_l1 L κ0 v0 v3 v17 v18 v19 p m1 (wr IntKind.i64 (iadd v31 1)))) else (κ0 v0 v3 v17 v18 (wr IntKind.i64 (iadd v19 1)))
noncomputable def spec_pgGood_l3 (L : Nat) (κ1 : (List Pt) → Int → (List Pt) → Int → Int → Option Bool) (v01 : List Pt) (v32 : Int) (v40 : List Pt) (v41 : Int) (v42 : Int) (p2 : Pt) (p3 : Pt) : Nat → Int → Option Bool
  | 0, _ => none
  | m3 + 1, v11 => bif ilt v11 v32 then (bif ilt (wr IntKind.i64 (isub v11 v42)) (wr IntKind.i64 (isub v32 1)) then (gbind (lget v01 v11) fun p5 => bif ieq v32 0 then (none) else (gbind (lget v01 (irem (wr IntKind.i64 (iadd v11 1)) v32)) fun p6 => gbind (spec_pgMeet L (Pt.x p2) (Pt.y p2) (Pt.x p3) (Pt.y p3) (Pt.x p5) (Pt.y p5) (Pt.x p6) (Pt.y p6)) fun r3 => bif r3 then (some false) else (spec_pgGood_l3 L κ1 v01 v32 v40 v41 v42 p2 p3 m3 (wr IntKind.i64 (iadd v11 1))))) else (κ1 v01 v32 v40 v41 (wr IntKind.i64 (iadd v42 1)))) else (κ1 v01 v32 v40 v41 (wr IntKind.i64 (iadd v42 1)))
noncomputable def spec_pgGood_l2 (L : Nat) : Nat → (List Pt) → Int → (List Pt) → Int → Int → Option Bool
  | 0, _, _, _, _, _ => none
  | m2 + 1, v01, v32, v40, v41, v42 => bif ilt v42 v41 then (gbind (lget v40 v42) fun p2 => bif ieq v32 0 then (none) else (gbind (lget v01 (irem (wr IntKind.i64 (iadd v42 1)) v32)) fun p3 => bif ieq v32 0 then (none) else (gbind (lget v01 (irem (wr IntKind.i64 (iadd v42 2)) v32)) fun p4 => gbind (spec_pgTurn L (Pt.x p2) (Pt.y p2) (Pt.x p3) (Pt.y p3) (Pt.x p4) (Pt.y p4)) fun r2 => bif ieq r2 0 then (some false) else (spec_pgGood_l3 L (spec_pgGood_l2 L m2) v01 v32 v40 v41 v42 p2 p3 L (wr IntKind.i64 (iadd v42 2)))))) else (some true)
noncomputable def spec_pgGood_l0 (L : Nat) : Nat → (List Pt) → Int → (List Pt) → Int → Int → Option Bool
  | 0, _, _, _, _, _ => none
  | m + 1, v0, v3, v17, v18, v19 => bif ilt v19 v18 then (gbind (lget v17 v19) fun p => gbind (spec_pgIs L (Pt.x p) (Pt.y p)) fun r1 => bif !r1 then (some false) else (bif ile 0 v19 && ile v19 (ilen (List.map ep v0)) then (spec_pgGood_l1 L (spec_pgGood_l0 L m) v0 v3 v17 v18 v19 p L 0) else (none))) else (spec_pgGood_l2 L L v0 v3 v0 (ilen (List.map ep v0)) 0)
noncomputable def spec_pgGood (L : Nat) (a : List Pt) : Option (Bool) := gbind (spec_l1In L (ilen (List.map ep a)) 3 10) fun r => bif !r then (some false) else (spec_pgGood_l0 L L a (ilen (List.map ep a)) a (ilen (List.map ep a)) 0)
def spec_pgGood_ok (L : Nat) (C : CF) : Prop := ∀ (oa : Bool) (ca : Bool) (x_a : List AV) (a : List Pt) (_ : x_a = List.map ep a), C 33 ([.lst oa ca 2 x_a]) ([]) = Option.map (fun r : Bool => ((.bool r, []) : AV × List Blk)) (spec_pgGood L a)
theorem spec_pgGood_run (L : Nat) (C : CF) (h_spec_l1In : spec_l1In_ok L C) (h_spec_pgIs : spec_pgIs_ok L C) (h_spec_pgTurn : spec_pgTurn_ok L C) (h_spec_pgMeet : spec_pgMeet_ok L C) : ∀ (oa : Bool) (ca : Bool) (x_a : List AV) (a : List Pt) (_ : x_a = List.map ep a), run T C sh (keep 33) L Try.f33 ([.lst oa ca 2 x_a]) ([]) = Option.map (fun r : Bool => ((.bool r, []) : AV × List Blk)) (spec_pgGood L a) := by
 intro oa ca x_a a hx_a
 subst hx_a
 unfold spec_pgGood
 conv => lhs; whnf
 refine t_call (h_spec_l1In (ilen (List.map ep a)) 3 10) fun r => ?_
 conv => lhs; whnf
 refine t_cond ?_ ?_
 ·conv => lhs; whnf
  exact t_ret (by first | rfl | simp only [ml] <;> rfl)
 ·conv => lhs; whnf
  refine t_loop (fun (⟨v0, v3, v17, v18, v19⟩ : (List Pt) × Int × (List Pt) × Int × Int) => (AV.lst oa ca 2 (List.map ep v0) :: topA 2 (AV.int IntKind.i64 v3 :: topA 13 (AV.lst oa ca 2 (List.map ep v17) :: AV.int IntKind.i64 v18 :: AV.int IntKind.i64 v19 :: tops 75)), [])) (fun m (⟨v0, v3, v17, v18, v19⟩ : (List Pt) × Int × (List Pt) × Int × Int) => spec_pgGood_l0 L m v0 v3 v17 v18 v19) (fun _ => rfl) (fun m s rec hrec => ?_) L ((a, ilen (List.map ep a), a, ilen (List.map ep a), 0)) ?_ ?_
  rotate_left
  ·first | rfl | simp only [ml] <;> rfl
  ·first | rfl | simp only [ml] <;> rfl
  obtain ⟨v0, v3, v17, v18, v19⟩ := s
  show _ = Option.map _ (spec_pgGood_l0 L (m + 1) v0 v3 v17 v18 v19)
  rw [spec_pgGood_l0.eq_2]
  conv => lhs; whnf
  refine t_cond ?_ ?_
  ·conv => lhs; whnf
   refine t_get (en := ep) (l := v17) (by first | rfl | simp only [ml] <;> rfl) fun p => ?_
   conv => lhs; whnf
   refine t_call (h_spec_pgIs (Pt.x p) (Pt.y p)) fun r1 => ?_
   conv => lhs; whnf
   refine t_cond ?_ ?_
   ·conv => lhs; whnf
    exact t_ret (by first | rfl | simp only [ml] <;> rfl)
   ·conv => lhs; whnf
    refine t_cond ?_ ?_
    ·conv => lhs; whnf
     refine t_loop (fun (v31 : Int) => (AV.lst oa ca 2 (List.map ep v0) :: topA 2 (AV.int IntKind.i64 v3 :: AV.top :: AV.ptr 0 0 0 2 :: topA 11 (AV.lst oa ca 2 (List.map ep v17) :: AV.int IntKind.i64 v18 :: AV.int IntKind.i64 v19 :: topA 9 (AV.lst oa false 2 (lsub (List.map ep v0) 0 v19) :: AV.int IntKind.i64 (ilen (lsub (List.map ep v0) 0 v19)) :: AV.int IntKind.i64 v31 :: tops 63))), [Blk.box (AV.agg [AV.int IntKind.i64 (Pt.x p), AV.int IntKind.i64 (Pt.y p)])])) (fun m1 (v31 : Int) => spec_pgGood_l1 L (spec_pgGood_l0 L m) v0 v3 v17 v18 v19 p m1 v31) (fun _ => rfl) (fun m1 v31 rec1 hrec1 => ?_) L 0 ?_ ?_
     rotate_left
     ·first | rfl | simp only [ml] <;> rfl
     ·first | rfl | simp only [ml] <;> rfl
     show _ = Option.map _ (spec_pgGood_l1 L (spec_pgGood_l0 L m) v0 v3 v17 v18 v19 p (m1 + 1) v31)
     rw [spec_pgGood_l1.eq_2]
     conv => lhs; whnf
     refine t_cond ?_ ?_
     ·conv => lhs; whnf
      refine t_get (en := ep) (l := lsub v0 0 v19) (by first | rfl | simp only [ml] <;> rfl) fun p1 => ?_
      conv => lhs; whnf
      refine t_cond ?_ ?_
      ·conv => lhs; whnf
       exact t_ret (by first | rfl | simp only [ml] <;> rfl)
      ·conv => lhs; whnf
       exact hrec1 (wr IntKind.i64 (iadd v31 1)) _ _ (by first | rfl | simp only [ml] <;> rfl) (by first | rfl | simp only [ml] <;> rfl)
     ·conv => lhs; whnf
      exact hrec ((v0, v3, v17, v18, wr IntKind.i64 (iadd v19 1))) _ _ (by first | rfl | simp only [ml] <;> rfl) (by first | rfl | simp only [ml] <;> rfl)
    ·conv => lhs; whnf
     exact t_none
  ·conv => lhs; whnf
   refine t_loop (fun (⟨v01, v32, v40, v41, v42⟩ : (List Pt) × Int × (List Pt) × Int × Int) => (AV.lst oa ca 2 (List.map ep v01) :: topA 2 (AV.int IntKind.i64 v32 :: topA 36 (AV.lst oa ca 2 (List.map ep v40) :: AV.int IntKind.i64 v41 :: AV.int IntKind.i64 v42 :: tops 52)), [])) (fun m2 (⟨v01, v32, v40, v41, v42⟩ : (List Pt) × Int × (List Pt) × Int × Int) => spec_pgGood_l2 L m2 v01 v32 v40 v41 v42) (fun _ => rfl) (fun m2 s2 rec2 hrec2 => ?_) L ((v0, v3, v0, ilen (List.map ep v0), 0)) ?_ ?_
   rotate_left
   ·first | rfl | simp only [ml] <;> rfl
   ·first | rfl | simp only [ml] <;> rfl
   obtain ⟨v01, v32, v40, v41, v42⟩ := s2
   show _ = Option.map _ (spec_pgGood_l2 L (m2 + 1) v01 v32 v40 v41 v42)
   rw [spec_pgGood_l2.eq_2]
   conv => lhs; whnf
   refine t_cond ?_ ?_
   ·conv => lhs; whnf
    refine t_get (en := ep) (l := v40) (by first | rfl | simp only [ml] <;> rfl) fun p2 => ?_
    conv => lhs; whnf
    refine t_cond ?_ ?_
    ·conv => lhs; whnf
     exact t_none
    ·conv => lhs; whnf
     refine t_get (en := ep) (l := v01) (by first | rfl | simp only [ml] <;> rfl) fun p3 => ?_
     conv => lhs; whnf
     refine t_cond ?_ ?_
     ·conv => lhs; whnf
      exact t_none
     ·conv => lhs; whnf
      refine t_get (en := ep) (l := v01) (by first | rfl | simp only [ml] <;> rfl) fun p4 => ?_
      conv => lhs; whnf
      refine t_call (h_spec_pgTurn (Pt.x p2) (Pt.y p2) (Pt.x p3) (Pt.y p3) (Pt.x p4) (Pt.y p4)) fun r2 => ?_
      conv => lhs; whnf
      refine t_cond ?_ ?_
      ·conv => lhs; whnf
       exact t_ret (by first | rfl | simp only [ml] <;> rfl)
      ·conv => lhs; whnf
       refine t_loop (fun (v11 : Int) => (AV.lst oa ca 2 (List.map ep v01) :: topA 2 (AV.int IntKind.i64 v32 :: topA 4 (AV.int IntKind.i64 v42 :: AV.ptr 0 0 0 2 :: AV.ptr 1 0 0 2 :: AV.int IntKind.i64 v11 :: topA 28 (AV.lst oa ca 2 (List.map ep v40) :: AV.int IntKind.i64 v41 :: AV.int IntKind.i64 v42 :: tops 52))), [Blk.box (AV.agg [AV.int IntKind.i64 (Pt.x p2), AV.int IntKind.i64 (Pt.y p2)]), Blk.box (AV.agg [AV.int IntKind.i64 (Pt.x p3), AV.int IntKind.i64 (Pt.y p3)])])) (fun m3 (v11 : Int) => spec_pgGood_l3 L (spec_pgGood_l2 L m2) v01 v32 v40 v41 v42 p2 p3 m3 v11) (fun _ => rfl) (fun m3 v11 rec3 hrec3 => ?_) L (wr IntKind.i64 (iadd v42 2)) ?_ ?_
       rotate_left
       ·first | rfl | simp only [ml] <;> rfl
       ·first | rfl | simp only [ml] <;> rfl
       show _ = Option.map _ (spec_pgGood_l3 L (spec_pgGood_l2 L m2) v01 v32 v40 v41 v42 p2 p3 (m3 + 1) v11)
       rw [spec_pgGood_l3.eq_2]
       conv => lhs; whnf
       refine t_cond ?_ ?_
       ·conv => lhs; whnf
        refine t_cond ?_ ?_
        ·conv => lhs; whnf
         refine t_get (en := ep) (l := v01) (by first | rfl | simp only [ml] <;> rfl) fun p5 => ?_
         conv => lhs; whnf
         refine t_cond ?_ ?_
         ·conv => lhs; whnf
          exact t_none
         ·conv => lhs; whnf
          refine t_get (en := ep) (l := v01) (by first | rfl | simp only [ml] <;> rfl) fun p6 => ?_
          conv => lhs; whnf
          refine t_call (h_spec_pgMeet (Pt.x p2) (Pt.y p2) (Pt.x p3) (Pt.y p3) (Pt.x p5) (Pt.y p5) (Pt.x p6) (Pt.y p6)) fun r3 => ?_
          conv => lhs; whnf
          refine t_cond ?_ ?_
          ·conv => lhs; whnf
           exact t_ret (by first | rfl | simp only [ml] <;> rfl)
          ·conv => lhs; whnf
           exact hrec3 (wr IntKind.i64 (iadd v11 1)) _ _ (by first | rfl | simp only [ml] <;> rfl) (by first | rfl | simp only [ml] <;> rfl)
        ·conv => lhs; whnf
         exact hrec2 ((v01, v32, v40, v41, wr IntKind.i64 (iadd v42 1))) _ _ (by first | rfl | simp only [ml] <;> rfl) (by first | rfl | simp only [ml] <;> rfl)
       ·conv => lhs; whnf
        exact hrec2 ((v01, v32, v40, v41, wr IntKind.i64 (iadd v42 1))) _ _ (by first | rfl | simp only [ml] <;> rfl) (by first | rfl | simp only [ml] <;> rfl)
   ·conv => lhs; whnf
    exact t_ret (by first | rfl | simp only [ml] <;> rfl)
noncomputable def spec_pgBack_l0 (L : Nat) (a : List Pt) : Nat → Int → (List Pt) → Option ((List Pt))
  | 0, _, _ => none
  | m + 1, v4, w0 => bif ilt 0 v4 then (gbind (lget a v4) fun p1 => bif fits (iadd (ilen (List.map ep w0)) (ilen [AV.agg [AV.int IntKind.i64 (Pt.x p1), AV.int IntKind.i64 (Pt.y p1)]])) 16 then (spec_pgBack_l0 L a m (wr IntKind.i64 (isub v4 1)) (lcat w0 (p1 :: []))) else (none)) else (some w0)
noncomputable def spec_pgBack (L : Nat) (a : List Pt) : Option ((List Pt)) := gbind (lget a 0) fun p => spec_pgBack_l0 L a L (wr IntKind.i64 (isub (ilen (List.map ep a)) 1)) (p :: [])
def spec_pgBack_ok (L : Nat) (C : CF) : Prop := ∀ (oa : Bool) (ca : Bool) (x_a : List AV) (a : List Pt) (_ : x_a = List.map ep a), C 44 ([.lst oa ca 2 x_a]) ([]) = Option.map (fun r : (List Pt) => ((.frs 2 (List.map ep r), []) : AV × List Blk)) (spec_pgBack L a)
theorem spec_pgBack_run (L : Nat) (C : CF) : ∀ (oa : Bool) (ca : Bool) (x_a : List AV) (a : List Pt) (_ : x_a = List.map ep a), run T C sh (keep 44) L Try.f44 ([.lst oa ca 2 x_a]) ([]) = Option.map (fun r : (List Pt) => ((.frs 2 (List.map ep r), []) : AV × List Blk)) (spec_pgBack L a) := by
 intro oa ca x_a a hx_a
 subst hx_a
 unfold spec_pgBack
 conv => lhs; whnf
 refine t_get (en := ep) (l := a) (by first | rfl | simp only [ml] <;> rfl) fun p => ?_
 conv => lhs; whnf
 refine t_loop (fun (⟨v4, w0⟩ : Int × (List Pt)) => (AV.lst oa ca 2 (List.map ep a) :: topA 2 (AV.own 0 2 none false :: AV.int IntKind.i64 v4 :: tops 19), [Blk.rows Mode.live 2 (List.map ep w0)])) (fun m (⟨v4, w0⟩ : Int × (List Pt)) => spec_pgBack_l0 L a m v4 w0) (fun _ => rfl) (fun m s rec hrec => ?_) L ((wr IntKind.i64 (isub (ilen (List.map ep a)) 1), p :: [])) ?_ ?_
 rotate_left
 ·first | rfl | simp only [ml] <;> rfl
 ·first | rfl | simp only [ml] <;> rfl
 obtain ⟨v4, w0⟩ := s
 show _ = Option.map _ (spec_pgBack_l0 L a (m + 1) v4 w0)
 rw [spec_pgBack_l0.eq_2]
 conv => lhs; whnf
 refine t_cond ?_ ?_
 ·conv => lhs; whnf
  refine t_get (en := ep) (l := a) (by first | rfl | simp only [ml] <;> rfl) fun p1 => ?_
  conv => lhs; whnf
  refine t_cond ?_ ?_
  ·conv => lhs; whnf
   exact hrec ((wr IntKind.i64 (isub v4 1), lcat w0 (p1 :: []))) _ _ (by first | rfl | simp only [ml] <;> rfl) (by first | rfl | simp only [ml] <;> rfl)
  ·conv => lhs; whnf
   exact t_none
 ·conv => lhs; whnf
  exact t_ret (by first | rfl | simp only [ml] <;> rfl)
noncomputable def spec_l1Cur_surePolygon_l0 (L : Nat) (a_0 : List Int) (b : Int) : Nat → Int → Int → Int → (List Pt) → Option ((List Pt) × Int × Int)
  | 0, _, _, _, _ => none
  | m + 1, v8, b0_1, b0_2, w1 => bif ilt 0 v8 then (gbind (spec_l1Cur_pick L a_0 b0_1 b0_2 (ilen (List.map ep w1))) fun r4 => bif ile 0 (wr IntKind.i64 (iadd 1 (Prod.fst r4))) && ile (wr IntKind.i64 (iadd 1 (Prod.fst r4))) (ilen (List.map ep w1)) then (bif fits (iadd (ilen ([] : List AV)) (ilen (lsub (List.map ep w1) 0 (iadd 0 (wr IntKind.i64 (iadd 1 (Prod.fst r4))))))) 16 then (gbind (spec_l1Cur_surePeg L a_0 (Prod.fst (Prod.snd r4)) (Prod.snd (Prod.snd r4)) b) fun r5 => bif fits (iadd (ilen (lcat [] (lsub (List.map ep w1) 0 (iadd 0 (wr IntKind.i64 (iadd 1 (Prod.fst r4))))))) (ilen [AV.agg [AV.int IntKind.i64 (Prod.fst r5), AV.int IntKind.i64 (Prod.fst (Prod.snd r5))]])) 16 then (bif ile 0 (wr IntKind.i64 (iadd 1 (Prod.fst r4))) && ile (wr IntKind.i64 (iadd 1 (Prod.fst r4))) (ilen (List.map ep w1)) then (bif fits (iadd (ilen (lcat (lcat [] (lsub (List.map ep w1) 0 (iadd 0 (wr IntKind.i64 (iadd 1 (Prod.fst r4)))))) [AV.agg [AV.int IntKind.i64 (Prod.fst r5), AV.int IntKind.i64 (Prod.fst (Prod.snd r5))]])) (ilen (lsub (List.map ep w1) (wr IntKind.i64 (iadd 1 (Prod.fst r4))) (iadd (wr IntKind.i64 (iadd 1 (Prod.fst r4))) (isub (ilen (List.map ep w1)) (wr IntKind.i64 (iadd 1 (Prod.fst r4)))))))) 16 then (gbind (spec_pgGood L (lcat (lcat (lcat [] (lsub w1 0 (iadd 0 (wr IntKind.i64 (iadd 1 (Prod.fst r4)))))) ({ x := Prod.fst r5, y := Prod.fst (Prod.snd r5) } :: [])) (lsub w1 (wr IntKind.i64 (iadd 1 (Prod.fst r4))) (iadd (wr IntKind.i64 (iadd 1 (Prod.fst r4))) (isub (ilen (List.map ep w1)) (wr IntKind.i64 (iadd 1 (Prod.fst r4)))))))) fun r6 => bif r6 then (spec_l1Cur_surePolygon_l0 L a_0 b m (wr IntKind.i64 (isub v8 1)) (Prod.fst (Prod.snd (Prod.snd r5))) (Prod.snd (Prod.snd (Prod.snd r5))) (lcat (lcat (lcat [] (lsub w1 0 (iadd 0 (wr IntKind.i64 (iadd 1 (Prod.fst r4)))))) ({ x := Prod.fst r5, y := Prod.fst (Prod.snd r5) } :: [])) (lsub w1 (wr IntKind.i64 (iadd 1 (Prod.fst r4))) (iadd (wr IntKind.i64 (iadd 1 (Prod.fst r4))) (isub (ilen (List.map ep w1)) (wr IntKind.i64 (iadd 1 (Prod.fst r4)))))))) else (spec_l1Cur_surePolygon_l0 L a_0 b m (wr IntKind.i64 (isub v8 1)) (Prod.fst (Prod.snd (Prod.snd r5))) (Prod.snd (Prod.snd (Prod.snd r5))) w1)) else (none)) else (none)) else (none)) else (none)) else (none)) else (gbind (spec_l1Cur_one L a_0 b0_1 b0_2 3) fun r7 => bif Prod.fst r7 then (gbind (spec_pgBack L w1) fun r8 => some ((r8, Prod.fst (Prod.snd r7), Prod.snd (Prod.snd r7)))) else (some ((w1, Prod.fst (Prod.snd r7), Prod.snd (Prod.snd r7)))))
noncomputable def spec_l1Cur_surePolygon (L : Nat) (a_0 : List Int) (a_1 : Int) (a_2 : Int) (b : Int) (c : Int) : Option ((List Pt) × Int × Int) := gbind (spec_l1Cur_pick L a_0 a_1 a_2 b) fun r => gbind (spec_l1Cur_pick L a_0 (Prod.fst (Prod.snd r)) (Prod.snd (Prod.snd r)) (wr IntKind.i64 (iadd b 1))) fun r1 => gbind (spec_l1Cur_pick L a_0 (Prod.fst (Prod.snd r1)) (Prod.snd (Prod.snd r1)) b) fun r2 => gbind (spec_l1Cur_pick L a_0 (Prod.fst (Prod.snd r2)) (Prod.snd (Prod.snd r2)) (wr IntKind.i64 (isub c 1))) fun r3 => spec_l1Cur_surePolygon_l0 L a_0 b L (Prod.fst r3) (Prod.fst (Prod.snd r3)) (Prod.snd (Prod.snd r3)) ({ x := 0, y := 0 } :: ({ x := wr IntKind.i64 (iadd 1 (Prod.fst r)), y := 0 } :: ({ x := Prod.fst r1, y := wr IntKind.i64 (iadd 1 (Prod.fst r2)) } :: [])))
def spec_l1Cur_surePolygon_ok (L : Nat) (C : CF) : Prop := ∀ (oa_0 : Bool) (ca_0 : Bool) (x_a_0 : List AV) (a_0 : List Int) (_ : x_a_0 = List.map eU a_0) (a_1 : Int) (a_2 : Int) (b : Int) (c : Int), C 79 ([.ptr 0 0 0 3, .int .i64 b, .int .i64 c]) ([.box (.agg [.lst oa_0 ca_0 1 x_a_0, .int .i64 a_1, .int .u64 a_2])]) = Option.map (fun r : (List Pt) × Int × Int => ((.frs 2 (List.map ep (r.1)), [.box (.agg [.lst oa_0 ca_0 1 x_a_0, .int .i64 (r.2.1), .int .u64 (r.2.2)])]) : AV × List Blk)) (spec_l1Cur_surePolygon L a_0 a_1 a_2 b c)
theorem spec_l1Cur_surePolygon_run (L : Nat) (C : CF) (h_spec_l1Cur_pick : spec_l1Cur_pick_ok L C) (h_spec_l1Cur_one : spec_l1Cur_one_ok L C) (h_spec_l1Cur_surePeg : spec_l1Cur_surePeg_ok L C) (h_spec_pgGood : spec_pgGood_ok L C) (h_spec_pgBack : spec_pgBack_ok L C) : ∀ (oa_0 : Bool) (ca_0 : Bool) (x_a_0 : List AV) (a_0 : List Int) (_ : x_a_0 = List.map eU a_0) (a_1 : Int) (a_2 : Int) (b : Int) (c : Int), run T C sh (keep 79) L Try.f79 ([.ptr 0 0 0 3, .int .i64 b, .int .i64 c]) ([.box (.agg [.lst oa_0 ca_0 1 x_a_0, .int .i64 a_1, .int .u64 a_2])]) = Option.map (fun r : (List Pt) × Int × Int => ((.frs 2 (List.map ep (r.1)), [.box (.agg [.lst oa_0 ca_0 1 x_a_0, .int .i64 (r.2.1), .int .u64 (r.2.2)])]) : AV × List Blk)) (spec_l1Cur_surePolygon L a_0 a_1 a_2 b c) := by
 intro oa_0 ca_0 x_a_0 a_0 hx_a_0 a_1 a_2 b c
 subst hx_a_0
 unfold spec_l1Cur_surePolygon
 conv => lhs; whnf
 refine t_call (h_spec_l1Cur_pick _ _ _ a_0 (by first | rfl | simp only [ml] <;> rfl) a_1 a_2 b) fun r => ?_
 conv => lhs; whnf
 refine t_call (h_spec_l1Cur_pick _ _ _ a_0 (by first | rfl | simp only [ml] <;> rfl) (Prod.fst (Prod.snd r)) (Prod.snd (Prod.snd r)) (wr IntKind.i64 (iadd b 1))) fun r1 => ?_
 conv => lhs; whnf
 refine t_call (h_spec_l1Cur_pick _ _ _ a_0 (by first | rfl | simp only [ml] <;> rfl) (Prod.fst (Prod.snd r1)) (Prod.snd (Prod.snd r1)) b) fun r2 => ?_
 conv => lhs; whnf
 refine t_call (h_spec_l1Cur_pick _ _ _ a_0 (by first | rfl | simp only [ml] <;> rfl) (Prod.fst (Prod.snd r2)) (Prod.snd (Prod.snd r2)) (wr IntKind.i64 (isub c 1))) fun r3 => ?_
 conv => lhs; whnf
 refine t_loop (fun (⟨v8, b0_1, b0_2, w1⟩ : Int × Int × Int × (List Pt)) => (AV.ptr 0 0 0 3 :: AV.int IntKind.i64 b :: topA 5 (AV.own 1 2 none false :: AV.int IntKind.i64 v8 :: tops 54), [Blk.box (AV.agg [AV.lst oa_0 ca_0 1 (List.map eU a_0), AV.int IntKind.i64 b0_1, AV.int IntKind.u64 b0_2]), Blk.rows Mode.live 2 (List.map ep w1)])) (fun m (⟨v8, b0_1, b0_2, w1⟩ : Int × Int × Int × (List Pt)) => spec_l1Cur_surePolygon_l0 L a_0 b m v8 b0_1 b0_2 w1) (fun _ => rfl) (fun m s rec hrec => ?_) L ((Prod.fst r3, Prod.fst (Prod.snd r3), Prod.snd (Prod.snd r3), { x := 0, y := 0 } :: ({ x := wr IntKind.i64 (iadd 1 (Prod.fst r)), y := 0 } :: ({ x := Prod.fst r1, y := wr IntKind.i64 (iadd 1 (Prod.fst r2)) } :: [])))) ?_ ?_
 rotate_left
 ·first | rfl | simp only [ml] <;> rfl
 ·first | rfl | simp only [ml] <;> rfl
 obtain ⟨v8, b0_1, b0_2, w1⟩ := s
 show _ = Option.map _ (spec_l1Cur_surePolygon_l0 L a_0 b (m + 1) v8 b0_1 b0_2 w1)
 rw [spec_l1Cur_surePolygon_l0.eq_2]
 conv => lhs; whnf
 refine t_cond ?_ ?_
 ·conv => lhs; whnf
  refine t_call (h_spec_l1Cur_pick _ _ _ a_0 (by first | rfl | simp only [ml] <;> rfl) b0_1 b0_2 (ilen (List.map ep w1))) fun r4 => ?_
  conv => lhs; whnf
  refine t_cond ?_ ?_
  ·conv => lhs; whnf
   refine t_cond ?_ ?_
   ·conv => lhs; whnf
    refine t_call (h_spec_l1Cur_surePeg _ _ _ a_0 (by first | rfl | simp only [ml] <;> rfl) (Prod.fst (Prod.snd r4)) (Prod.snd (Prod.snd r4)) b) fun r5 => ?_
    conv => lhs; whnf
    refine t_cond ?_ ?_
    ·conv => lhs; whnf
     refine t_cond ?_ ?_
     ·conv => lhs; whnf
      refine t_cond ?_ ?_
      ·conv => lhs; whnf
       refine t_call (h_spec_pgGood _ _ _ (lcat (lcat (lcat [] (lsub w1 0 (iadd 0 (wr IntKind.i64 (iadd 1 (Prod.fst r4)))))) ({ x := Prod.fst r5, y := Prod.fst (Prod.snd r5) } :: [])) (lsub w1 (wr IntKind.i64 (iadd 1 (Prod.fst r4))) (iadd (wr IntKind.i64 (iadd 1 (Prod.fst r4))) (isub (ilen (List.map ep w1)) (wr IntKind.i64 (iadd 1 (Prod.fst r4))))))) (by first | rfl | simp only [ml] <;> rfl)) fun r6 => ?_
       conv => lhs; whnf
       refine t_cond ?_ ?_
       ·conv => lhs; whnf
        exact hrec ((wr IntKind.i64 (isub v8 1), Prod.fst (Prod.snd (Prod.snd r5)), Prod.snd (Prod.snd (Prod.snd r5)), lcat (lcat (lcat [] (lsub w1 0 (iadd 0 (wr IntKind.i64 (iadd 1 (Prod.fst r4)))))) ({ x := Prod.fst r5, y := Prod.fst (Prod.snd r5) } :: [])) (lsub w1 (wr IntKind.i64 (iadd 1 (Prod.fst r4))) (iadd (wr IntKind.i64 (iadd 1 (Prod.fst r4))) (isub (ilen (List.map ep w1)) (wr IntKind.i64 (iadd 1 (Prod.fst r4)))))))) _ _ (by first | rfl | simp only [ml] <;> rfl) (by first | rfl | simp only [ml] <;> rfl)
       ·conv => lhs; whnf
        exact hrec ((wr IntKind.i64 (isub v8 1), Prod.fst (Prod.snd (Prod.snd r5)), Prod.snd (Prod.snd (Prod.snd r5)), w1)) _ _ (by first | rfl | simp only [ml] <;> rfl) (by first | rfl | simp only [ml] <;> rfl)
      ·conv => lhs; whnf
       exact t_none
     ·conv => lhs; whnf
      exact t_none
    ·conv => lhs; whnf
     exact t_none
   ·conv => lhs; whnf
    exact t_none
  ·conv => lhs; whnf
   exact t_none
 ·conv => lhs; whnf
  refine t_call (h_spec_l1Cur_one _ _ _ a_0 (by first | rfl | simp only [ml] <;> rfl) b0_1 b0_2 3) fun r7 => ?_
  conv => lhs; whnf
  refine t_cond ?_ ?_
  ·conv => lhs; whnf
   refine t_call (h_spec_pgBack _ _ _ w1 (by first | rfl | simp only [ml] <;> rfl)) fun r8 => ?_
   conv => lhs; whnf
   exact t_ret (by first | rfl | simp only [ml] <;> rfl)
  ·conv => lhs; whnf
   exact t_ret (by first | rfl | simp only [ml] <;> rfl)
noncomputable def spec_l1Cur_among_v2 (L : Nat) (b0_0 : List Int) (b0_1 : Int) (b0_2 : Int) (w1 : List Int) : Option (Int × Int × Int × (List Int)) := gbind (spec_l1Cur_pick L b0_0 b0_1 b0_2 (ilen (List.map eI w1))) fun r => bif ile 0 (Prod.fst r) && ilt (Prod.fst r) (ilen (List.map eI w1)) then (gbind (lget w1 (Prod.fst r)) fun p => some ((p, Prod.fst (Prod.snd r), Prod.snd (Prod.snd r), w1))) else (none)
def spec_l1Cur_among_v2_ok (L : Nat) (C : CF) : Prop := ∀ (ob0_0 : Bool) (cb0_0 : Bool) (x_b0_0 : List AV) (b0_0 : List Int) (_ : x_b0_0 = List.map eU b0_0) (b0_1 : Int) (b0_2 : Int) (x_w1 : List AV) (w1 : List Int) (_ : x_w1 = List.map eI w1), C 80 ([(.ptr 0 0 0 3), (.own 1 1 none false)]) ([.box (.agg [(.lst ob0_0 cb0_0 1 x_b0_0), (.int .i64 b0_1), (.int .u64 b0_2)]), .rows .live 1 x_w1]) = Option.map (fun r : Int × Int × Int × (List Int) => ((.int .i64 (r.1), [.box (.agg [(.lst ob0_0 cb0_0 1 x_b0_0), (.int .i64 (r.2.1)), (.int .u64 (r.2.2.1))]), .rows .live 1 (List.map eI (r.2.2.2))]) : AV × List Blk)) (spec_l1Cur_among_v2 L b0_0 b0_1 b0_2 w1)
theorem spec_l1Cur_among_v2_run (L : Nat) (C : CF) (h_spec_l1Cur_pick : spec_l1Cur_pick_ok L C) : ∀ (ob0_0 : Bool) (cb0_0 : Bool) (x_b0_0 : List AV) (b0_0 : List Int) (_ : x_b0_0 = List.map eU b0_0) (b0_1 : Int) (b0_2 : Int) (x_w1 : List AV) (w1 : List Int) (_ : x_w1 = List.map eI w1), run T C sh (keep 80) L Try.f80 ([(.ptr 0 0 0 3), (.own 1 1 none false)]) ([.box (.agg [(.lst ob0_0 cb0_0 1 x_b0_0), (.int .i64 b0_1), (.int .u64 b0_2)]), .rows .live 1 x_w1]) = Option.map (fun r : Int × Int × Int × (List Int) => ((.int .i64 (r.1), [.box (.agg [(.lst ob0_0 cb0_0 1 x_b0_0), (.int .i64 (r.2.1)), (.int .u64 (r.2.2.1))]), .rows .live 1 (List.map eI (r.2.2.2))]) : AV × List Blk)) (spec_l1Cur_among_v2 L b0_0 b0_1 b0_2 w1) := by
 intro ob0_0 cb0_0 x_b0_0 b0_0 hx_b0_0 b0_1 b0_2 x_w1 w1 hx_w1
 subst hx_b0_0
 subst hx_w1
 unfold spec_l1Cur_among_v2
 conv => lhs; whnf
 refine t_call (h_spec_l1Cur_pick _ _ _ b0_0 (by first | rfl | simp only [ml] <;> rfl) b0_1 b0_2 (ilen (List.map eI w1))) fun r => ?_
 conv => lhs; whnf
 refine t_cond ?_ ?_
 ·conv => lhs; whnf
  refine t_get (en := eI) (l := w1) (by first | rfl | simp only [ml] <;> rfl) fun p => ?_
  conv => lhs; whnf
  exact t_ret (by first | rfl | simp only [ml] <;> rfl)
 ·conv => lhs; whnf
  exact t_none
noncomputable def spec_l1Cur_peg (L : Nat) (a_0 : List Int) (a_1 : Int) (a_2 : Int) : Option (Int × Int × Int × Int) := gbind (spec_l1Cur_one L a_0 a_1 a_2 12) fun r => bif Prod.fst r then (gbind (spec_l1Cur_among_v2 L a_0 (Prod.fst (Prod.snd r)) (Prod.snd (Prod.snd r)) (0 :: (40 :: (-40 :: (41 :: (4611686018427387904 :: [])))))) fun r1 => gbind (spec_l1Cur_among_v2 L a_0 (Prod.fst (Prod.snd r1)) (Prod.fst (Prod.snd (Prod.snd r1))) (0 :: (1 :: (40 :: (-41 :: (-9223372036854775808 :: [])))))) fun r2 => some ((Prod.fst r1, Prod.fst r2, Prod.fst (Prod.snd r2), Prod.fst (Prod.snd (Prod.snd r2))))) else (gbind (spec_l1Cur_surePeg L a_0 (Prod.fst (Prod.snd r)) (Prod.snd (Prod.snd r)) 6) fun r3 => some ((Prod.fst r3, Prod.fst (Prod.snd r3), Prod.fst (Prod.snd (Prod.snd r3)), Prod.snd (Prod.snd (Prod.snd r3)))))
def spec_l1Cur_peg_ok (L : Nat) (C : CF) : Prop := ∀ (oa_0 : Bool) (ca_0 : Bool) (x_a_0 : List AV) (a_0 : List Int) (_ : x_a_0 = List.map eU a_0) (a_1 : Int) (a_2 : Int), C 56 ([.ptr 0 0 0 3]) ([.box (.agg [.lst oa_0 ca_0 1 x_a_0, .int .i64 a_1, .int .u64 a_2])]) = Option.map (fun r : Int × Int × Int × Int => ((.agg [.int .i64 (r.1), .int .i64 (r.2.1)], [.box (.agg [.lst oa_0 ca_0 1 x_a_0, .int .i64 (r.2.2.1), .int .u64 (r.2.2.2)])]) : AV × List Blk)) (spec_l1Cur_peg L a_0 a_1 a_2)
theorem spec_l1Cur_peg_run (L : Nat) (C : CF) (h_spec_l1Cur_one : spec_l1Cur_one_ok L C) (h_spec_l1Cur_surePeg : spec_l1Cur_surePeg_ok L C) (h_spec_l1Cur_among_v2 : spec_l1Cur_among_v2_ok L C) : ∀ (oa_0 : Bool) (ca_0 : Bool) (x_a_0 : List AV) (a_0 : List Int) (_ : x_a_0 = List.map eU a_0) (a_1 : Int) (a_2 : Int), run T C sh (keep 56) L Try.f56 ([.ptr 0 0 0 3]) ([.box (.agg [.lst oa_0 ca_0 1 x_a_0, .int .i64 a_1, .int .u64 a_2])]) = Option.map (fun r : Int × Int × Int × Int => ((.agg [.int .i64 (r.1), .int .i64 (r.2.1)], [.box (.agg [.lst oa_0 ca_0 1 x_a_0, .int .i64 (r.2.2.1), .int .u64 (r.2.2.2)])]) : AV × List Blk)) (spec_l1Cur_peg L a_0 a_1 a_2) := by
 intro oa_0 ca_0 x_a_0 a_0 hx_a_0 a_1 a_2
 subst hx_a_0
 unfold spec_l1Cur_peg
 conv => lhs; whnf
 refine t_call (h_spec_l1Cur_one _ _ _ a_0 (by first | rfl | simp only [ml] <;> rfl) a_1 a_2 12) fun r => ?_
 conv => lhs; whnf
 refine t_cond ?_ ?_
 ·conv => lhs; whnf
  refine t_call (h_spec_l1Cur_among_v2 _ _ _ a_0 (by first | rfl | simp only [ml] <;> rfl) (Prod.fst (Prod.snd r)) (Prod.snd (Prod.snd r)) _ (0 :: (40 :: (-40 :: (41 :: (4611686018427387904 :: []))))) (by first | rfl | simp only [ml] <;> rfl)) fun r1 => ?_
  conv => lhs; whnf
  refine t_call (h_spec_l1Cur_among_v2 _ _ _ a_0 (by first | rfl | simp only [ml] <;> rfl) (Prod.fst (Prod.snd r1)) (Prod.fst (Prod.snd (Prod.snd r1))) _ (0 :: (1 :: (40 :: (-41 :: (-9223372036854775808 :: []))))) (by first | rfl | simp only [ml] <;> rfl)) fun r2 => ?_
  conv => lhs; whnf
  exact t_ret (by first | rfl | simp only [ml] <;> rfl)
 ·conv => lhs; whnf
  refine t_call (h_spec_l1Cur_surePeg _ _ _ a_0 (by first | rfl | simp only [ml] <;> rfl) (Prod.fst (Prod.snd r)) (Prod.snd (Prod.snd r)) 6) fun r3 => ?_
  conv => lhs; whnf
  exact t_ret (by first | rfl | simp only [ml] <;> rfl)
noncomputable def spec_l1Cur_polygon (L : Nat) (a_0 : List Int) (a_1 : Int) (a_2 : Int) (b : Int) : Option ((List Pt) × Int × Int) := gbind (spec_l1Cur_surePolygon L a_0 a_1 a_2 b 8) fun r => gbind (spec_l1Cur_pick L a_0 (Prod.fst (Prod.snd r)) (Prod.snd (Prod.snd r)) 16) fun r1 => bif ieq (Prod.fst r1) 0 then (gbind (spec_l1Cur_pick L a_0 (Prod.fst (Prod.snd r1)) (Prod.snd (Prod.snd r1)) (ilen (List.map ep (Prod.fst r)))) fun r2 => gbind (spec_l1Cur_peg L a_0 (Prod.fst (Prod.snd r2)) (Prod.snd (Prod.snd r2))) fun r3 => bif ile 0 (Prod.fst r2) && ilt (Prod.fst r2) (ilen (List.map ep (Prod.fst r))) then (gbind (lget (Prod.fst r) (Prod.fst r2)) fun p => some ((lset (Prod.fst r) (Prod.fst r2) ({ x := Prod.fst r3, y := Prod.fst (Prod.snd r3) }), Prod.fst (Prod.snd (Prod.snd r3)), Prod.snd (Prod.snd (Prod.snd r3))))) else (none)) else (bif ieq (Prod.fst r1) 1 then (gbind (spec_l1Cur_pick L a_0 (Prod.fst (Prod.snd r1)) (Prod.snd (Prod.snd r1)) 3) fun r4 => bif ile 0 (Prod.fst r4) && ile (Prod.fst r4) (ilen (List.map ep (Prod.fst r))) then (some ((lsub (Prod.fst r) 0 (iadd 0 (Prod.fst r4)), Prod.fst (Prod.snd r4), Prod.snd (Prod.snd r4)))) else (none)) else (bif ieq (Prod.fst r1) 2 then (some (({ x := -40, y := -40 } :: ({ x := 40, y := -40 } :: ({ x := 40, y := 40 } :: ({ x := -40, y := 40 } :: []))), Prod.fst (Prod.snd r1), Prod.snd (Prod.snd r1)))) else (some ((Prod.fst r, Prod.fst (Prod.snd r1), Prod.snd (Prod.snd r1))))))
def spec_l1Cur_polygon_ok (L : Nat) (C : CF) : Prop := ∀ (oa_0 : Bool) (ca_0 : Bool) (x_a_0 : List AV) (a_0 : List Int) (_ : x_a_0 = List.map eU a_0) (a_1 : Int) (a_2 : Int) (b : Int), C 55 ([.ptr 0 0 0 3, .int .i64 b]) ([.box (.agg [.lst oa_0 ca_0 1 x_a_0, .int .i64 a_1, .int .u64 a_2])]) = Option.map (fun r : (List Pt) × Int × Int => ((.frs 2 (List.map ep (r.1)), [.box (.agg [.lst oa_0 ca_0 1 x_a_0, .int .i64 (r.2.1), .int .u64 (r.2.2)])]) : AV × List Blk)) (spec_l1Cur_polygon L a_0 a_1 a_2 b)
theorem spec_l1Cur_polygon_run (L : Nat) (C : CF) (h_spec_l1Cur_pick : spec_l1Cur_pick_ok L C) (h_spec_l1Cur_surePolygon : spec_l1Cur_surePolygon_ok L C) (h_spec_l1Cur_peg : spec_l1Cur_peg_ok L C) : ∀ (oa_0 : Bool) (ca_0 : Bool) (x_a_0 : List AV) (a_0 : List Int) (_ : x_a_0 = List.map eU a_0) (a_1 : Int) (a_2 : Int) (b : Int), run T C sh (keep 55) L Try.f55 ([.ptr 0 0 0 3, .int .i64 b]) ([.box (.agg [.lst oa_0 ca_0 1 x_a_0, .int .i64 a_1, .int .u64 a_2])]) = Option.map (fun r : (List Pt) × Int × Int => ((.frs 2 (List.map ep (r.1)), [.box (.agg [.lst oa_0 ca_0 1 x_a_0, .int .i64 (r.2.1), .int .u64 (r.2.2)])]) : AV × List Blk)) (spec_l1Cur_polygon L a_0 a_1 a_2 b) := by
 intro oa_0 ca_0 x_a_0 a_0 hx_a_0 a_1 a_2 b
 subst hx_a_0
 unfold spec_l1Cur_polygon
 conv => lhs; whnf
 refine t_call (h_spec_l1Cur_surePolygon _ _ _ a_0 (by first | rfl | simp only [ml] <;> rfl) a_1 a_2 b 8) fun r => ?_
 conv => lhs; whnf
 refine t_call (h_spec_l1Cur_pick _ _ _ a_0 (by first | rfl | simp only [ml] <;> rfl) (Prod.fst (Prod.snd r)) (Prod.snd (Prod.snd r)) 16) fun r1 => ?_
 conv => lhs; whnf
 refine t_cond ?_ ?_
 ·conv => lhs; whnf
  refine t_call (h_spec_l1Cur_pick _ _ _ a_0 (by first | rfl | simp only [ml] <;> rfl) (Prod.fst (Prod.snd r1)) (Prod.snd (Prod.snd r1)) (ilen (List.map ep (Prod.fst r)))) fun r2 => ?_
  conv => lhs; whnf
  refine t_call (h_spec_l1Cur_peg _ _ _ a_0 (by first | rfl | simp only [ml] <;> rfl) (Prod.fst (Prod.snd r2)) (Prod.snd (Prod.snd r2))) fun r3 => ?_
  conv => lhs; whnf
  refine t_cond ?_ ?_
  ·conv => lhs; whnf
   refine t_get (en := ep) (l := Prod.fst r) (by first | rfl | simp only [ml] <;> rfl) fun p => ?_
   conv => lhs; whnf
   exact t_ret (by first | rfl | simp only [ml] <;> rfl)
  ·conv => lhs; whnf
   exact t_none
 ·conv => lhs; whnf
  refine t_cond ?_ ?_
  ·conv => lhs; whnf
   refine t_call (h_spec_l1Cur_pick _ _ _ a_0 (by first | rfl | simp only [ml] <;> rfl) (Prod.fst (Prod.snd r1)) (Prod.snd (Prod.snd r1)) 3) fun r4 => ?_
   conv => lhs; whnf
   refine t_cond ?_ ?_
   ·conv => lhs; whnf
    exact t_ret (by first | rfl | simp only [ml] <;> rfl)
   ·conv => lhs; whnf
    exact t_none
  ·conv => lhs; whnf
   refine t_cond ?_ ?_
   ·conv => lhs; whnf
    exact t_ret (by first | rfl | simp only [ml] <;> rfl)
   ·conv => lhs; whnf
    exact t_ret (by first | rfl | simp only [ml] <;> rfl)
noncomputable def spec_DrawIsPolygon_l0 (L : Nat) (a : List Int) : Nat → Int → Int → Int → (List Pt) → Option ((List Pt))
  | 0, _, _, _, _ => none
  | m + 1, v5, b0_1, b0_2, w1 => bif ilt 0 v5 then (gbind (spec_l1Cur_surePeg L a b0_1 b0_2 2) fun r2 => bif fits (iadd (ilen (List.map ep w1)) (ilen [AV.agg [AV.int IntKind.i64 (Prod.fst r2), AV.int IntKind.i64 (Prod.fst (Prod.snd r2))]])) 16 then (spec_DrawIsPolygon_l0 L a m (wr IntKind.i64 (isub v5 1)) (Prod.fst (Prod.snd (Prod.snd r2))) (Prod.snd (Prod.snd (Prod.snd r2))) (lcat w1 ({ x := Prod.fst r2, y := Prod.fst (Prod.snd r2) } :: []))) else (none)) else (some w1)
noncomputable def spec_DrawIsPolygon (L : Nat) (a : List Int) : Option ((List Pt)) := gbind (spec_l1Cur_one L a 0 0 4) fun r => bif Prod.fst r then (gbind (spec_l1Cur_pick L a (Prod.fst (Prod.snd r)) (Prod.snd (Prod.snd r)) 6) fun r1 => spec_DrawIsPolygon_l0 L a L (Prod.fst r1) (Prod.fst (Prod.snd r1)) (Prod.snd (Prod.snd r1)) []) else (gbind (spec_l1Cur_polygon L a (Prod.fst (Prod.snd r)) (Prod.snd (Prod.snd r)) 5) fun r3 => some (Prod.fst r3))
def spec_DrawIsPolygon_ok (L : Nat) (C : CF) : Prop := ∀ (oa : Bool) (ca : Bool) (x_a : List AV) (a : List Int) (_ : x_a = List.map eU a), C 30 ([.lst oa ca 1 x_a]) ([]) = Option.map (fun r : (List Pt) => ((.frs 2 (List.map ep r), []) : AV × List Blk)) (spec_DrawIsPolygon L a)
theorem spec_DrawIsPolygon_run (L : Nat) (C : CF) (h_spec_l1Cur_pick : spec_l1Cur_pick_ok L C) (h_spec_l1Cur_one : spec_l1Cur_one_ok L C) (h_spec_l1Cur_surePeg : spec_l1Cur_surePeg_ok L C) (h_spec_l1Cur_polygon : spec_l1Cur_polygon_ok L C) : ∀ (oa : Bool) (ca : Bool) (x_a : List AV) (a : List Int) (_ : x_a = List.map eU a), run T C sh (keep 30) L Try.f30 ([.lst oa ca 1 x_a]) ([]) = Option.map (fun r : (List Pt) => ((.frs 2 (List.map ep r), []) : AV × List Blk)) (spec_DrawIsPolygon L a) := by
 intro oa ca x_a a hx_a
 subst hx_a
 unfold spec_DrawIsPolygon
 conv => lhs; whnf
 refine t_call (h_spec_l1Cur_one _ _ _ a (by first | rfl | simp only [ml] <;> rfl) 0 0 4) fun r => ?_
 conv => lhs; whnf
 refine t_cond ?_ ?_
 ·conv => lhs; whnf
  refine t_call (h_spec_l1Cur_pick _ _ _ a (by first | rfl | simp only [ml] <;> rfl) (Prod.fst (Prod.snd r)) (Prod.snd (Prod.snd r)) 6) fun r1 => ?_
  conv => lhs; whnf
  refine t_loop (fun (⟨v5, b0_1, b0_2, w1⟩ : Int × Int × Int × (List Pt)) => (topA 3 (AV.ptr 0 0 0 3 :: AV.own 1 2 none false :: AV.int IntKind.i64 v5 :: tops 19), [Blk.box (AV.agg [AV.lst oa ca 1 (List.map eU a), AV.int IntKind.i64 b0_1, AV.int IntKind.u64 b0_2]), Blk.rows Mode.live 2 (List.map ep w1)])) (fun m (⟨v5, b0_1, b0_2, w1⟩ : Int × Int × Int × (List Pt)) => spec_DrawIsPolygon_l0 L a m v5 b0_1 b0_2 w1) (fun _ => rfl) (fun m s rec hrec => ?_) L ((Prod.fst r1, Prod.fst (Prod.snd r1), Prod.snd (Prod.snd r1), [])) ?_ ?_
  rotate_left
  ·first | rfl | simp only [ml] <;> rfl
  ·first | rfl | simp only [ml] <;> rfl
  obtain ⟨v5, b0_1, b0_2, w1⟩ := s
  show _ = Option.map _ (spec_DrawIsPolygon_l0 L a (m + 1) v5 b0_1 b0_2 w1)
  rw [spec_DrawIsPolygon_l0.eq_2]
  conv => lhs; whnf
  refine t_cond ?_ ?_
  ·conv => lhs; whnf
   refine t_call (h_spec_l1Cur_surePeg _ _ _ a (by first | rfl | simp only [ml] <;> rfl) b0_1 b0_2 2) fun r2 => ?_
   conv => lhs; whnf
   refine t_cond ?_ ?_
   ·conv => lhs; whnf
    exact hrec ((wr IntKind.i64 (isub v5 1), Prod.fst (Prod.snd (Prod.snd r2)), Prod.snd (Prod.snd (Prod.snd r2)), lcat w1 ({ x := Prod.fst r2, y := Prod.fst (Prod.snd r2) } :: []))) _ _ (by first | rfl | simp only [ml] <;> rfl) (by first | rfl | simp only [ml] <;> rfl)
   ·conv => lhs; whnf
    exact t_none
  ·conv => lhs; whnf
   exact t_ret (by first | rfl | simp only [ml] <;> rfl)
 ·conv => lhs; whnf
  refine t_call (h_spec_l1Cur_polygon _ _ _ a (by first | rfl | simp only [ml] <;> rfl) (Prod.fst (Prod.snd r)) (Prod.snd (Prod.snd r)) 5) fun r3 => ?_
  conv => lhs; whnf
  exact t_ret (by first | rfl | simp only [ml] <;> rfl)
noncomputable def spec_DrawListInside (L : Nat) (a : List Int) : Option ((List Pt)) := gbind (spec_DrawIsPolygon L a) fun r => some r
def spec_DrawListInside_ok (L : Nat) (C : CF) : Prop := ∀ (oa : Bool) (ca : Bool) (x_a : List AV) (a : List Int) (_ : x_a = List.map eU a), C 5 ([.lst oa ca 1 x_a]) ([]) = Option.map (fun r : (List Pt) => ((.frs 2 (List.map ep r), []) : AV × List Blk)) (spec_DrawListInside L a)
theorem spec_DrawListInside_run (L : Nat) (C : CF) (h_spec_DrawIsPolygon : spec_DrawIsPolygon_ok L C) : ∀ (oa : Bool) (ca : Bool) (x_a : List AV) (a : List Int) (_ : x_a = List.map eU a), run T C sh (keep 5) L Try.f5 ([.lst oa ca 1 x_a]) ([]) = Option.map (fun r : (List Pt) => ((.frs 2 (List.map ep r), []) : AV × List Blk)) (spec_DrawListInside L a) := by
 intro oa ca x_a a hx_a
 subst hx_a
 unfold spec_DrawListInside
 conv => lhs; whnf
 refine t_call (h_spec_DrawIsPolygon _ _ _ a (by first | rfl | simp only [ml] <;> rfl)) fun r => ?_
 conv => lhs; whnf
 exact t_ret (by first | rfl | simp only [ml] <;> rfl)
noncomputable def impl_within (L : Nat) (a : Int) (b : Int) (c : Int) : Option (Bool) := bif ile b a then (some (ile a c)) else (some false)
def impl_within_ok (L : Nat) (C : CF) : Prop := ∀ (a : Int) (b : Int) (c : Int), C 47 ([.int .i64 a, .int .i64 b, .int .i64 c]) ([]) = Option.map (fun r : Bool => ((.bool r, []) : AV × List Blk)) (impl_within L a b c)
theorem impl_within_run (L : Nat) (C : CF) : ∀ (a : Int) (b : Int) (c : Int), run T C sh (keep 47) L Try.f47 ([.int .i64 a, .int .i64 b, .int .i64 c]) ([]) = Option.map (fun r : Bool => ((.bool r, []) : AV × List Blk)) (impl_within L a b c) := by
 intro a b c
 unfold impl_within
 conv => lhs; whnf
 refine t_cond ?_ ?_
 ·conv => lhs; whnf
  exact t_ret (by first | rfl | simp only [ml] <;> rfl)
 ·conv => lhs; whnf
  exact t_ret (by first | rfl | simp only [ml] <;> rfl)
noncomputable def impl_IsPeg (L : Nat) (a_0 : Int) (a_1 : Int) : Option (Bool) := gbind (impl_within L a_0 (-40) 40) fun r => bif r then (gbind (impl_within L a_1 (-40) 40) fun r1 => some r1) else (some false)
def impl_IsPeg_ok (L : Nat) (C : CF) : Prop := ∀ (a_0 : Int) (a_1 : Int), C 53 ([.agg [.int .i64 a_0, .int .i64 a_1]]) ([]) = Option.map (fun r : Bool => ((.bool r, []) : AV × List Blk)) (impl_IsPeg L a_0 a_1)
theorem impl_IsPeg_run (L : Nat) (C : CF) (h_impl_within : impl_within_ok L C) : ∀ (a_0 : Int) (a_1 : Int), run T C sh (keep 53) L Try.f53 ([.agg [.int .i64 a_0, .int .i64 a_1]]) ([]) = Option.map (fun r : Bool => ((.bool r, []) : AV × List Blk)) (impl_IsPeg L a_0 a_1) := by
 intro a_0 a_1
 unfold impl_IsPeg
 conv => lhs; whnf
 refine t_call (h_impl_within a_0 (-40) 40) fun r => ?_
 conv => lhs; whnf
 refine t_cond ?_ ?_
 ·conv => lhs; whnf
  refine t_call (h_impl_within a_1 (-40) 40) fun r1 => ?_
  conv => lhs; whnf
  exact t_ret (by first | rfl | simp only [ml] <;> rfl)
 ·conv => lhs; whnf
  exact t_ret (by first | rfl | simp only [ml] <;> rfl)
noncomputable def impl_arePegs_1 (L : Nat) (a_0 : Int) (a_1 : Int) : Option (Bool) := gbind (impl_IsPeg L a_0 a_1) fun r => some (!r)
def impl_arePegs_1_ok (L : Nat) (C : CF) : Prop := ∀ (a_0 : Int) (a_1 : Int), C 75 ([.agg [.int .i64 a_0, .int .i64 a_1]]) ([]) = Option.map (fun r : Bool => ((.bool r, []) : AV × List Blk)) (impl_arePegs_1 L a_0 a_1)
theorem impl_arePegs_1_run (L : Nat) (C : CF) (h_impl_IsPeg : impl_IsPeg_ok L C) : ∀ (a_0 : Int) (a_1 : Int), run T C sh (keep 75) L Try.f75 ([.agg [.int .i64 a_0, .int .i64 a_1]]) ([]) = Option.map (fun r : Bool => ((.bool r, []) : AV × List Blk)) (impl_arePegs_1 L a_0 a_1) := by
 intro a_0 a_1
 unfold impl_arePegs_1
 conv => lhs; whnf
 refine t_call (h_impl_IsPeg a_0 a_1) fun r => ?_
 conv => lhs; whnf
 exact t_ret (by first | rfl | simp only [ml] <;> rfl)
noncomputable def slices_IndexFunc_impl_Peg_impl_Peg_arePegs_l0 (L : Nat) (a : List Pt) : Nat → Int → Option Int
  | 0, _ => none
  | m + 1, v8 => bif ilt v8 (ilen (List.map ep a)) then (gbind (lget a v8) fun p => gbind (impl_arePegs_1 L (Pt.x p) (Pt.y p)) fun r => bif r then (some v8) else (slices_IndexFunc_impl_Peg_impl_Peg_arePegs_l0 L a m (wr IntKind.i64 (iadd v8 1)))) else (some (-1))
noncomputable def slices_IndexFunc_impl_Peg_impl_Peg_arePegs (L : Nat) (a : List Pt) : Option (Int) := slices_IndexFunc_impl_Peg_impl_Peg_arePegs_l0 L a L 0
def slices_IndexFunc_impl_Peg_impl_Peg_arePegs_ok (L : Nat) (C : CF) : Prop := ∀ (o1 : Bool) (c1 : Bool) (x_a : List AV) (a : List Pt) (_ : x_a = List.map ep a), C 86 ([.lst o1 c1 2 x_a, .fn 75 [] []]) ([]) = Option.map (fun r : Int => ((.int .i64 r, []) : AV × List Blk)) (slices_IndexFunc_impl_Peg_impl_Peg_arePegs L a)
theorem slices_IndexFunc_impl_Peg_impl_Peg_arePegs_run (L : Nat) (C : CF) (h_impl_arePegs_1 : impl_arePegs_1_ok L C) : ∀ (o1 : Bool) (c1 : Bool) (x_a : List AV) (a : List Pt) (_ : x_a = List.map ep a), run T C sh (keep 86) L Try.f86 ([.lst o1 c1 2 x_a, .fn 75 [] []]) ([]) = Option.map (fun r : Int => ((.int .i64 r, []) : AV × List Blk)) (slices_IndexFunc_impl_Peg_impl_Peg_arePegs L a) := by
 intro o1 c1 x_a a hx_a
 subst hx_a
 unfold slices_IndexFunc_impl_Peg_impl_Peg_arePegs
 conv => lhs; whnf
 refine t_loop (fun (v8 : Int) => (AV.lst o1 c1 2 (List.map ep a) :: AV.fn 75 [] [] :: topA 5 (AV.int IntKind.i64 (ilen (List.map ep a)) :: AV.int IntKind.i64 v8 :: tops 10), [])) (fun m (v8 : Int) => slices_IndexFunc_impl_Peg_impl_Peg_arePegs_l0 L a m v8) (fun _ => rfl) (fun m v8 rec hrec => ?_) L 0 ?_ ?_
 rotate_left
 ·first | rfl | simp only [ml] <;> rfl
 ·first | rfl | simp only [ml] <;> rfl
 show _ = Option.map _ (slices_IndexFunc_impl_Peg_impl_Peg_arePegs_l0 L a (m + 1) v8)
 rw [slices_IndexFunc_impl_Peg_impl_Peg_arePegs_l0.eq_2]
 conv => lhs; whnf
 refine t_cond ?_ ?_
 ·conv => lhs; whnf
  refine t_get (en := ep) (l := a) (by first | rfl | simp only [ml] <;> rfl) fun p => ?_
  conv => lhs; whnf
  refine t_call (h_impl_arePegs_1 (Pt.x p) (Pt.y p)) fun r => ?_
  conv => lhs; whnf
  refine t_cond ?_ ?_
  ·conv => lhs; whnf
   exact t_ret (by first | rfl | simp only [ml] <;> rfl)
  ·conv => lhs; whnf
   exact hrec (wr IntKind.i64 (iadd v8 1)) _ _ (by first | rfl | simp only [ml] <;> rfl) (by first | rfl | simp only [ml] <;> rfl)
 ·conv => lhs; whnf
  exact t_ret (by first | rfl | simp only [ml] <;> rfl)
noncomputable def slices_ContainsFunc_impl_Peg_impl_Peg_arePegs (L : Nat) (a : List Pt) : Option (Bool) := gbind (slices_IndexFunc_impl_Peg_impl_Peg_arePegs L a) fun r => some (ile 0 r)
def slices_ContainsFunc_impl_Peg_impl_Peg_arePegs_ok (L : Nat) (C : CF) : Prop := ∀ (o1 : Bool) (c1 : Bool) (x_a : List AV) (a : List Pt) (_ : x_a = List.map ep a), C 74 ([.lst o1 c1 2 x_a, .fn 75 [] []]) ([]) = Option.map (fun r : Bool => ((.bool r, []) : AV × List Blk)) (slices_ContainsFunc_impl_Peg_impl_Peg_arePegs L a)
theorem slices_ContainsFunc_impl_Peg_impl_Peg_arePegs_run (L : Nat) (C : CF) (h_slices_IndexFunc_impl_Peg_impl_Peg_arePegs : slices_IndexFunc_impl_Peg_impl_Peg_arePegs_ok L C) : ∀ (o1 : Bool) (c1 : Bool) (x_a : List AV) (a : List Pt) (_ : x_a = List.map ep a), run T C sh (keep 74) L Try.f74 ([.lst o1 c1 2 x_a, .fn 75 [] []]) ([]) = Option.map (fun r : Bool => ((.bool r, []) : AV × List Blk)) (slices_ContainsFunc_impl_Peg_impl_Peg_arePegs L a) := by
 intro o1 c1 x_a a hx_a
 subst hx_a
 unfold slices_ContainsFunc_impl_Peg_impl_Peg_arePegs
 conv => lhs; whnf
 refine t_call (h_slices_IndexFunc_impl_Peg_impl_Peg_arePegs _ _ _ a (by first | rfl | simp only [ml] <;> rfl)) fun r => ?_
 conv => lhs; whnf
 exact t_ret (by first | rfl | simp only [ml] <;> rfl)
noncomputable def impl_arePegs (L : Nat) (a : List Pt) : Option (Bool) := gbind (slices_ContainsFunc_impl_Peg_impl_Peg_arePegs L a) fun r => some (!r)
def impl_arePegs_ok (L : Nat) (C : CF) : Prop := ∀ (oa : Bool) (ca : Bool) (x_a : List AV) (a : List Pt) (_ : x_a = List.map ep a), C 48 ([.lst oa ca 2 x_a]) ([]) = Option.map (fun r : Bool => ((.bool r, []) : AV × List Blk)) (impl_arePegs L a)
theorem impl_arePegs_run (L : Nat) (C : CF) (h_slices_ContainsFunc_impl_Peg_impl_Peg_arePegs : slices_ContainsFunc_impl_Peg_impl_Peg_arePegs_ok L C) : ∀ (oa : Bool) (ca : Bool) (x_a : List AV) (a : List Pt) (_ : x_a = List.map ep a), run T C sh (keep 48) L Try.f48 ([.lst oa ca 2 x_a]) ([]) = Option.map (fun r : Bool => ((.bool r, []) : AV × List Blk)) (impl_arePegs L a) := by
 intro oa ca x_a a hx_a
 subst hx_a
 unfold impl_arePegs
 conv => lhs; whnf
 refine t_call (h_slices_ContainsFunc_impl_Peg_impl_Peg_arePegs _ _ _ a (by first | rfl | simp only [ml] <;> rfl)) fun r => ?_
 conv => lhs; whnf
 exact t_ret (by first | rfl | simp only [ml] <;> rfl)
noncomputable def slices_Index_impl_Peg_impl_Peg_l0 (L : Nat) (a : List Pt) (b_0 : Int) (b_1 : Int) : Nat → Int → Option Int
  | 0, _ => none
  | m + 1, v8 => bif ilt v8 (ilen (List.map ep a)) then (gbind (lget a v8) fun p => bif ieq b_0 (Pt.x p) && ieq b_1 (Pt.y p) then (some v8) else (slices_Index_impl_Peg_impl_Peg_l0 L a b_0 b_1 m (wr IntKind.i64 (iadd v8 1)))) else (some (-1))
noncomputable def slices_Index_impl_Peg_impl_Peg (L : Nat) (a : List Pt) (b_0 : Int) (b_1 : Int) : Option (Int) := slices_Index_impl_Peg_impl_Peg_l0 L a b_0 b_1 L 0
def slices_Index_impl_Peg_impl_Peg_ok (L : Nat) (C : CF) : Prop := ∀ (oa : Bool) (ca : Bool) (x_a : List AV) (a : List Pt) (_ : x_a = List.map ep a) (b_0 : Int) (b_1 : Int), C 76 ([.lst oa ca 2 x_a, .agg [.int .i64 b_0, .int .i64 b_1]]) ([]) = Option.map (fun r : Int => ((.int .i64 r, []) : AV × List Blk)) (slices_Index_impl_Peg_impl_Peg L a b_0 b_1)
theorem slices_Index_impl_Peg_impl_Peg_run (L : Nat) (C : CF) : ∀ (oa : Bool) (ca : Bool) (x_a : List AV) (a : List Pt) (_ : x_a = List.map ep a) (b_0 : Int) (b_1 : Int), run T C sh (keep 76) L Try.f76 ([.lst oa ca 2 x_a, .agg [.int .i64 b_0, .int .i64 b_1]]) ([]) = Option.map (fun r : Int => ((.int .i64 r, []) : AV × List Blk)) (slices_Index_impl_Peg_impl_Peg L a b_0 b_1) := by
 intro oa ca x_a a hx_a b_0 b_1
 subst hx_a
 unfold slices_Index_impl_Peg_impl_Peg
 conv => lhs; whnf
 refine t_loop (fun (v8 : Int) => (AV.lst oa ca 2 (List.map ep a) :: topA 2 (AV.ptr 0 0 0 2 :: topA 3 (AV.int IntKind.i64 (ilen (List.map ep a)) :: AV.int IntKind.i64 v8 :: tops 10)), [Blk.box (AV.agg [AV.int IntKind.i64 b_0, AV.int IntKind.i64 b_1])])) (fun m (v8 : Int) => slices_Index_impl_Peg_impl_Peg_l0 L a b_0 b_1 m v8) (fun _ => rfl) (fun m v8 rec hrec => ?_) L 0 ?_ ?_
 rotate_left
 ·first | rfl | simp only [ml] <;> rfl
 ·first | rfl | simp only [ml] <;> rfl
 show _ = Option.map _ (slices_Index_impl_Peg_impl_Peg_l0 L a b_0 b_1 (m + 1) v8)
 rw [slices_Index_impl_Peg_impl_Peg_l0.eq_2]
 conv => lhs; whnf
 refine t_cond ?_ ?_
 ·conv => lhs; whnf
  refine t_get (en := ep) (l := a) (by first | rfl | simp only [ml] <;> rfl) fun p => ?_
  conv => lhs; whnf
  refine t_cond ?_ ?_
  ·conv => lhs; whnf
   exact t_ret (by first | rfl | simp only [ml] <;> rfl)
  ·conv => lhs; whnf
   exact hrec (wr IntKind.i64 (iadd v8 1)) _ _ (by first | rfl | simp only [ml] <;> rfl) (by first | rfl | simp only [ml] <;> rfl)
 ·conv => lhs; whnf
  exact t_ret (by first | rfl | simp only [ml] <;> rfl)
noncomputable def slices_Contains_impl_Peg_impl_Peg (L : Nat) (a : List Pt) (b_0 : Int) (b_1 : Int) : Option (Bool) := gbind (slices_Index_impl_Peg_impl_Peg L a b_0 b_1) fun r => some (ile 0 r)
def slices_Contains_impl_Peg_impl_Peg_ok (L : Nat) (C : CF) : Prop := ∀ (oa : Bool) (ca : Bool) (x_a : List AV) (a : List Pt) (_ : x_a = List.map ep a) (b_0 : Int) (b_1 : Int), C 49 ([.lst oa ca 2 x_a, .agg [.int .i64 b_0, .int .i64 b_1]]) ([]) = Option.map (fun r : Bool => ((.bool r, []) : AV × List Blk)) (slices_Contains_impl_Peg_impl_Peg L a b_0 b_1)
theorem slices_Contains_impl_Peg_impl_Peg_run (L : Nat) (C : CF) (h_slices_Index_impl_Peg_impl_Peg : slices_Index_impl_Peg_impl_Peg_ok L C) : ∀ (oa : Bool) (ca : Bool) (x_a : List AV) (a : List Pt) (_ : x_a = List.map ep a) (b_0 : Int) (b_1 : Int), run T C sh (keep 49) L Try.f49 ([.lst oa ca 2 x_a, .agg [.int .i64 b_0, .int .i64 b_1]]) ([]) = Option.map (fun r : Bool => ((.bool r, []) : AV × List Blk)) (slices_Contains_impl_Peg_impl_Peg L a b_0 b_1) := by
 intro oa ca x_a a hx_a b_0 b_1
 subst hx_a
 unfold slices_Contains_impl_Peg_impl_Peg
 conv => lhs; whnf
 refine t_call (h_slices_Index_impl_Peg_impl_Peg _ _ _ a (by first | rfl | simp only [ml] <;> rfl) b_0 b_1) fun r => ?_
 conv => lhs; whnf
 exact t_ret (by first | rfl | simp only [ml] <;> rfl)
noncomputable def impl_at (L : Nat) (a : List Pt) (b : Int) : Option (Int × Int) := bif ieq (ilen (List.map ep a)) 0 then (none) else (bif ieq (ilen (List.map ep a)) 0 then (none) else (gbind (lget a (irem (wr IntKind.i64 (iadd (irem b (ilen (List.map ep a))) (ilen (List.map ep a)))) (ilen (List.map ep a)))) fun p => some ((Pt.x p, Pt.y p))))
def impl_at_ok (L : Nat) (C : CF) : Prop := ∀ (oa : Bool) (ca : Bool) (x_a : List AV) (a : List Pt) (_ : x_a = List.map ep a) (b : Int), C 51 ([.lst oa ca 2 x_a, .int .i64 b]) ([]) = Option.map (fun r : Int × Int => ((.agg [.int .i64 (r.1), .int .i64 (r.2)], []) : AV × List Blk)) (impl_at L a b)
theorem impl_at_run (L : Nat) (C : CF) : ∀ (oa : Bool) (ca : Bool) (x_a : List AV) (a : List Pt) (_ : x_a = List.map ep a) (b : Int), run T C sh (keep 51) L Try.f51 ([.lst oa ca 2 x_a, .int .i64 b]) ([]) = Option.map (fun r : Int × Int => ((.agg [.int .i64 (r.1), .int .i64 (r.2)], []) : AV × List Blk)) (impl_at L a b) := by
 intro oa ca x_a a hx_a b
 subst hx_a
 unfold impl_at
 conv => lhs; whnf
 refine t_cond ?_ ?_
 ·conv => lhs; whnf
  exact t_none
 ·conv => lhs; whnf
  refine t_cond ?_ ?_
  ·conv => lhs; whnf
   exact t_none
  ·conv => lhs; whnf
   refine t_get (en := ep) (l := a) (by first | rfl | simp only [ml] <;> rfl) fun p => ?_
   conv => lhs; whnf
   exact t_ret (by first | rfl | simp only [ml] <;> rfl)
noncomputable def impl_Peg_less (L : Nat) (a_0 : Int) (a_1 : Int) (b_0 : Int) (b_1 : Int) : Option (Int × Int) := some ((wr IntKind.i64 (isub a_0 b_0), wr IntKind.i64 (isub a_1 b_1)))
def impl_Peg_less_ok (L : Nat) (C : CF) : Prop := ∀ (a_0 : Int) (a_1 : Int) (b_0 : Int) (b_1 : Int), C 77 ([.agg [.int .i64 a_0, .int .i64 a_1], .agg [.int .i64 b_0, .int .i64 b_1]]) ([]) = Option.map (fun r : Int × Int => ((.agg [.int .i64 (r.1), .int .i64 (r.2)], []) : AV × List Blk)) (impl_Peg_less L a_0 a_1 b_0 b_1)
theorem impl_Peg_less_run (L : Nat) (C : CF) : ∀ (a_0 : Int) (a_1 : Int) (b_0 : Int) (b_1 : Int), run T C sh (keep 77) L Try.f77 ([.agg [.int .i64 a_0, .int .i64 a_1], .agg [.int .i64 b_0, .int .i64 b_1]]) ([]) = Option.map (fun r : Int × Int => ((.agg [.int .i64 (r.1), .int .i64 (r.2)], []) : AV × List Blk)) (impl_Peg_less L a_0 a_1 b_0 b_1) := by
 intro a_0 a_1 b_0 b_1
 unfold impl_Peg_less
 conv => lhs; whnf
 exact t_ret (by first | rfl | simp only [ml] <;> rfl)
noncomputable def impl_cross (L : Nat) (a_0 : Int) (a_1 : Int) (b_0 : Int) (b_1 : Int) : Option (Int) := some (wr IntKind.i64 (isub (wr IntKind.i64 (imul a_0 b_1)) (wr IntKind.i64 (imul a_1 b_0))))
def impl_cross_ok (L : Nat) (C : CF) : Prop := ∀ (a_0 : Int) (a_1 : Int) (b_0 : Int) (b_1 : Int), C 66 ([.agg [.int .i64 a_0, .int .i64 a_1], .agg [.int .i64 b_0, .int .i64 b_1]]) ([]) = Option.map (fun r : Int => ((.int .i64 r, []) : AV × List Blk)) (impl_cross L a_0 a_1 b_0 b_1)
theorem impl_cross_run (L : Nat) (C : CF) : ∀ (a_0 : Int) (a_1 : Int) (b_0 : Int) (b_1 : Int), run T C sh (keep 66) L Try.f66 ([.agg [.int .i64 a_0, .int .i64 a_1], .agg [.int .i64 b_0, .int .i64 b_1]]) ([]) = Option.map (fun r : Int => ((.int .i64 r, []) : AV × List Blk)) (impl_cross L a_0 a_1 b_0 b_1) := by
 intro a_0 a_1 b_0 b_1
 unfold impl_cross
 conv => lhs; whnf
 exact t_ret (by first | rfl | simp only [ml] <;> rfl)
noncomputable def impl_turn (L : Nat) (a_0 : Int) (a_1 : Int) (b_0 : Int) (b_1 : Int) (c_0 : Int) (c_1 : Int) : Option (Int) := gbind (impl_Peg_less L b_0 b_1 a_0 a_1) fun r => gbind (impl_Peg_less L c_0 c_1 a_0 a_1) fun r1 => gbind (impl_cross L (Prod.fst r) (Prod.snd r) (Prod.fst r1) (Prod.snd r1)) fun r2 => some r2
def impl_turn_ok (L : Nat) (C : CF) : Prop := ∀ (a_0 : Int) (a_1 : Int) (b_0 : Int) (b_1 : Int) (c_0 : Int) (c_1 : Int), C 50 ([.agg [.int .i64 a_0, .int .i64 a_1], .agg [.int .i64 b_0, .int .i64 b_1], .agg [.int .i64 c_0, .int .i64 c_1]]) ([]) = Option.map (fun r : Int => ((.int .i64 r, []) : AV × List Blk)) (impl_turn L a_0 a_1 b_0 b_1 c_0 c_1)
theorem impl_turn_run (L : Nat) (C : CF) (h_impl_Peg_less : impl_Peg_less_ok L C) (h_impl_cross : impl_cross_ok L C) : ∀ (a_0 : Int) (a_1 : Int) (b_0 : Int) (b_1 : Int) (c_0 : Int) (c_1 : Int), run T C sh (keep 50) L Try.f50 ([.agg [.int .i64 a_0, .int .i64 a_1], .agg [.int .i64 b_0, .int .i64 b_1], .agg [.int .i64 c_0, .int .i64 c_1]]) ([]) = Option.map (fun r : Int => ((.int .i64 r, []) : AV × List Blk)) (impl_turn L a_0 a_1 b_0 b_1 c_0 c_1) := by
 intro a_0 a_1 b_0 b_1 c_0 c_1
 unfold impl_turn
 conv => lhs; whnf
 refine t_call (h_impl_Peg_less b_0 b_1 a_0 a_1) fun r => ?_
 conv => lhs; whnf
 refine t_call (h_impl_Peg_less c_0 c_1 a_0 a_1) fun r1 => ?_
 conv => lhs; whnf
 refine t_call (h_impl_cross (Prod.fst r) (Prod.snd r) (Prod.fst r1) (Prod.snd r1)) fun r2 => ?_
 conv => lhs; whnf
 exact t_ret (by first | rfl | simp only [ml] <;> rfl)
noncomputable def impl_sign (L : Nat) (a : Int) : Option (Int) := some (imin 1 (imax (-1) a))
def impl_sign_ok (L : Nat) (C : CF) : Prop := ∀ (a : Int), C 70 ([.int .i64 a]) ([]) = Option.map (fun r : Int => ((.int .i64 r, []) : AV × List Blk)) (impl_sign L a)
theorem impl_sign_run (L : Nat) (C : CF) : ∀ (a : Int), run T C sh (keep 70) L Try.f70 ([.int .i64 a]) ([]) = Option.map (fun r : Int => ((.int .i64 r, []) : AV × List Blk)) (impl_sign L a) := by
 intro a
 unfold impl_sign
 conv => lhs; whnf
 exact t_ret (by first | rfl | simp only [ml] <;> rfl)
noncomputable def impl_isOn (L : Nat) (a_0 : Int) (a_1 : Int) (b_0 : Int) (b_1 : Int) (c_0 : Int) (c_1 : Int) : Option (Bool) := gbind (impl_turn L a_0 a_1 b_0 b_1 c_0 c_1) fun r => bif ieq r 0 then (gbind (impl_within L c_0 (imin a_0 b_0) (imax a_0 b_0)) fun r1 => bif r1 then (gbind (impl_within L c_1 (imin a_1 b_1) (imax a_1 b_1)) fun r2 => some r2) else (some false)) else (some false)
def impl_isOn_ok (L : Nat) (C : CF) : Prop := ∀ (a_0 : Int) (a_1 : Int) (b_0 : Int) (b_1 : Int) (c_0 : Int) (c_1 : Int), C 59 ([.agg [.int .i64 a_0, .int .i64 a_1], .agg [.int .i64 b_0, .int .i64 b_1], .agg [.int .i64 c_0, .int .i64 c_1]]) ([]) = Option.map (fun r : Bool => ((.bool r, []) : AV × List Blk)) (impl_isOn L a_0 a_1 b_0 b_1 c_0 c_1)
theorem impl_isOn_run (L : Nat) (C : CF) (h_impl_within : impl_within_ok L C) (h_impl_turn : impl_turn_ok L C) : ∀ (a_0 : Int) (a_1 : Int) (b_0 : Int) (b_1 : Int) (c_0 : Int) (c_1 : Int), run T C sh (keep 59) L Try.f59 ([.agg [.int .i64 a_0, .int .i64 a_1], .agg [.int .i64 b_0, .int .i64 b_1], .agg [.int .i64 c_0, .int .i64 c_1]]) ([]) = Option.map (fun r : Bool => ((.bool r, []) : AV × List Blk)) (impl_isOn L a_0 a_1 b_0 b_1 c_0 c_1) := by
 intro a_0 a_1 b_0 b_1 c_0 c_1
 unfold impl_isOn
 conv => lhs; whnf
 refine t_call (h_impl_turn a_0 a_1 b_0 b_1 c_0 c_1) fun r => ?_
 conv => lhs; whnf
 refine t_cond ?_ ?_
 ·conv => lhs; whnf
  refine t_call (h_impl_within c_0 (imin a_0 b_0) (imax a_0 b_0)) fun r1 => ?_
  conv => lhs; whnf
  refine t_cond ?_ ?_
  ·conv => lhs; whnf
   refine t_call (h_impl_within c_1 (imin a_1 b_1) (imax a_1 b_1)) fun r2 => ?_
   conv => lhs; whnf
   exact t_ret (by first | rfl | simp only [ml] <;> rfl)
  ·conv => lhs; whnf
   exact t_ret (by first | rfl | simp only [ml] <;> rfl)
 ·conv => lhs; whnf
  exact t_ret (by first | rfl | simp only [ml] <;> rfl)
noncomputable def impl_meet (L : Nat) (a_0 : Int) (a_1 : Int) (b_0 : Int) (b_1 : Int) (c_0 : Int) (c_1 : Int) (d_0 : Int) (d_1 : Int) : Option (Bool) := gbind (impl_turn L a_0 a_1 b_0 b_1 c_0 c_1) fun r => gbind (impl_sign L r) fun r1 => gbind (impl_turn L a_0 a_1 b_0 b_1 d_0 d_1) fun r2 => gbind (impl_sign L r2) fun r3 => bif ilt (wr IntKind.i64 (imul r1 r3)) 0 then (gbind (impl_turn L c_0 c_1 d_0 d_1 a_0 a_1) fun r4 => gbind (impl_sign L r4) fun r5 => gbind (impl_turn L c_0 c_1 d_0 d_1 b_0 b_1) fun r6 => gbind (impl_sign L r6) fun r7 => bif ilt (wr IntKind.i64 (imul r5 r7)) 0 then (some true) else (gbind (impl_isOn L a_0 a_1 b_0 b_1 c_0 c_1) fun r8 => bif r8 then (some true) else (gbind (impl_isOn L a_0 a_1 b_0 b_1 d_0 d_1) fun r9 => bif r9 then (some true) else (gbind (impl_isOn L c_0 c_1 d_0 d_1 a_0 a_1) fun r10 => bif r10 then (some true) else (gbind (impl_isOn L c_0 c_1 d_0 d_1 b_0 b_1) fun r11 => some r11))))) else (gbind (impl_isOn L a_0 a_1 b_0 b_1 c_0 c_1) fun r12 => bif r12 then (some true) else (gbind (impl_isOn L a_0 a_1 b_0 b_1 d_0 d_1) fun r13 => bif r13 then (some true) else (gbind (impl_isOn L c_0 c_1 d_0 d_1 a_0 a_1) fun r14 => bif r14 then (some true) else (gbind (impl_isOn L c_0 c_1 d_0 d_1 b_0 b_1) fun r15 => some r15))))
def impl_meet_ok (L : Nat) (C : CF) : Prop := ∀ (a_0 : Int) (a_1 : Int) (b_0 : Int) (b_1 : Int) (c_0 : Int) (c_1 : Int) (d_0 : Int) (d_1 : Int), C 52 ([.agg [.int .i64 a_0, .int .i64 a_1], .agg [.int .i64 b_0, .int .i64 b_1], .agg [.int .i64 c_0, .int .i64 c_1], .agg [.int .i64 d_0, .int .i64 d_1]]) ([]) = Option.map (fun r : Bool => ((.bool r, []) : AV × List Blk)) (impl_meet L a_0 a_1 b_0 b_1 c_0 c_1 d_0 d_1)
theorem impl_meet_run (L : Nat) (C : CF) (h_impl_turn : impl_turn_ok L C) (h_impl_sign : impl_sign_ok L C) (h_impl_isOn : impl_isOn_ok L C) : ∀ (a_0 : Int) (a_1 : Int) (b_0 : Int) (b_1 : Int) (c_0 : Int) (c_1 : Int) (d_0 : Int) (d_1 : Int), run T C sh (keep 52) L Try.f52 ([.agg [.int .i64 a_0, .int .i64 a_1], .agg [.int .i64 b_0, .int .i64 b_1], .agg [.int .i64 c_0, .int .i64 c_1], .agg [.int .i64 d_0, .int .i64 d_1]]) ([]) = Option.map (fun r : Bool => ((.bool r, []) : AV × List Blk)) (impl_meet L a_0 a_1 b_0 b_1 c_0 c_1 d_0 d_1) := by
 intro a_0 a_1 b_0 b_1 c_0 c_1 d_0 d_1
 unfold impl_meet
 conv => lhs; whnf
 refine t_call (h_impl_turn a_0 a_1 b_0 b_1 c_0 c_1) fun r => ?_
 conv => lhs; whnf
 refine t_call (h_impl_sign r) fun r1 => ?_
 conv => lhs; whnf
 refine t_call (h_impl_turn a_0 a_1 b_0 b_1 d_0 d_1) fun r2 => ?_
 conv => lhs; whnf
 refine t_call (h_impl_sign r2) fun r3 => ?_
 conv => lhs; whnf
 refine t_cond ?_ ?_
 ·conv => lhs; whnf
  refine t_call (h_impl_turn c_0 c_1 d_0 d_1 a_0 a_1) fun r4 => ?_
  conv => lhs; whnf
  refine t_call (h_impl_sign r4) fun r5 => ?_
  conv => lhs; whnf
  refine t_call (h_impl_turn c_0 c_1 d_0 d_1 b_0 b_1) fun r6 => ?_
  conv => lhs; whnf
  refine t_call (h_impl_sign r6) fun r7 => ?_
  conv => lhs; whnf
  refine t_cond ?_ ?_
  ·conv => lhs; whnf
   exact t_ret (by first | rfl | simp only [ml] <;> rfl)
  ·conv => lhs; whnf
   refine t_call (h_impl_isOn a_0 a_1 b_0 b_1 c_0 c_1) fun r8 => ?_
   conv => lhs; whnf
   refine t_cond ?_ ?_
   ·conv => lhs; whnf
    exact t_ret (by first | rfl | simp only [ml] <;> rfl)
   ·conv => lhs; whnf
    refine t_call (h_impl_isOn a_0 a_1 b_0 b_1 d_0 d_1) fun r9 => ?_
    conv => lhs; whnf
    refine t_cond ?_ ?_
    ·conv => lhs; whnf
     exact t_ret (by first | rfl | simp only [ml] <;> rfl)
    ·conv => lhs; whnf
     refine t_call (h_impl_isOn c_0 c_1 d_0 d_1 a_0 a_1) fun r10 => ?_
     conv => lhs; whnf
     refine t_cond ?_ ?_
     ·conv => lhs; whnf
      exact t_ret (by first | rfl | simp only [ml] <;> rfl)
     ·conv => lhs; whnf
      refine t_call (h_impl_isOn c_0 c_1 d_0 d_1 b_0 b_1) fun r11 => ?_
      conv => lhs; whnf
      exact t_ret (by first | rfl | simp only [ml] <;> rfl)
 ·conv => lhs; whnf
  refine t_call (h_impl_isOn a_0 a_1 b_0 b_1 c_0 c_1) fun r12 => ?_
  conv => lhs; whnf
  refine t_cond ?_ ?_
  ·conv => lhs; whnf
   exact t_ret (by first | rfl | simp only [ml] <;> rfl)
  ·conv => lhs; whnf
   refine t_call (h_impl_isOn a_0 a_1 b_0 b_1 d_0 d_1) fun r13 => ?_
   conv => lhs; whnf
   refine t_cond ?_ ?_
   ·conv => lhs; whnf
    exact t_ret (by first | rfl | simp only [ml] <;> rfl)
   ·conv => lhs; whnf
    refine t_call (h_impl_isOn c_0 c_1 d_0 d_1 a_0 a_1) fun r14 => ?_
    conv => lhs; whnf
    refine t_cond ?_ ?_
    ·conv => lhs; whnf
     exact t_ret (by first | rfl | simp only [ml] <;> rfl)
    ·conv => lhs; whnf
     refine t_call (h_impl_isOn c_0 c_1 d_0 d_1 b_0 b_1) fun r15 => ?_
     conv => lhs; whnf
     exact t_ret (by first | rfl | simp only [ml] <;> rfl)
noncomputable def impl_IsPolygon_l1 (L : Nat) (κ0 : (List Pt) → Int → (List Pt) → Int → Int → Option Bool) (v0 : List Pt) (v3 : Int) (v17 : List Pt) (v18 : Int) (v19 : Int) (p : Pt) : Nat → Int → Option Bool
  | 0, _ => none
  | m1 + 1, v43 => bif ilt v43 v19 then (bif ieq (wr IntKind.i64 (iadd v43 1)) v19 then (impl_IsPolygon_l1 L κ0 v0 v3 v17 v18 v19 p m1 (wr IntKind.i64 (iadd v43 1))) else (bif ieq (wr IntKind.i64 (iadd v19 1)) v3 then (bif ieq v43 0 then (impl_IsPolygon_l1 L κ0 v0 v3 v17 v18 v19 p m1 (wr IntKind.i64 (iadd v43 1))) else (gbind (lget v0 v43) fun p1 => gbind (lget v0 (wr IntKind.i64 (iadd v43 1))) fun p2 => gbind (impl_at L v0 (wr IntKind.i64 (iadd v19 1))) fun r6 => gbind (impl_meet L (Pt.x p1) (Pt.y p1) (Pt.x p2) (Pt.y p2) (Pt.x p) (Pt.y p) (Prod.fst r6) (Prod.snd r6)) fun r7 => bif r7 then (some false) else (impl_IsPolygon_l1 L κ0 v0 v3 v17 v18 v19 p m1 (wr IntKind.i64 (iadd v43 1))))) else (gbind (lget v0 v43) fun p3 => gbind (lget v0 (wr IntKind.i64 (iadd v43 1))) fun p4 => gbind (impl_at L v0 (wr IntKind.i64 (iadd v19 1))) fun r8 => gbind (impl_meet L (Pt.x p3) (Pt.y p3) (Pt.x p4) (Pt.y p4) (Pt.x p) (Pt.y p) (Prod.fst r8) (Prod.snd r8)) fun r9 => bif r9 then (some false) else (impl_IsPolygon_l1 L κ0 v0 v3 v17 v18 v19 p m1 (wr IntKind.i64 (iadd v43 1)))))) else (κ0 v0 v3 v17 v18 (wr IntKind.i64 (iadd v19 1)))
noncomputable def impl_IsPolygon_l0 (L : Nat) : Nat → (List Pt) → Int → (List Pt) → Int → Int → Option Bool
  | 0, _, _, _, _, _ => none
  | m + 1, v0, v3, v17, v18, v19 => bif ilt v19 v18 then (gbind (lget v17 v19) fun p => bif ile 0 v19 && ile v19 (ilen (List.map ep v0)) then (gbind (slices_Contains_impl_Peg_impl_Peg L (lsub v0 0 v19) (Pt.x p) (Pt.y p)) fun r2 => bif r2 then (some false) else (gbind (impl_at L v0 (wr IntKind.i64 (isub v19 1))) fun r3 => gbind (impl_at L v0 (wr IntKind.i64 (iadd v19 1))) fun r4 => gbind (impl_turn L (Prod.fst r3) (Prod.snd r3) (Pt.x p) (Pt.y p) (Prod.fst r4) (Prod.snd r4)) fun r5 => bif ieq r5 0 then (some false) else (impl_IsPolygon_l1 L (impl_IsPolygon_l0 L m) v0 v3 v17 v18 v19 p L 0))) else (none)) else (some true)
noncomputable def impl_IsPolygon (L : Nat) (a : List Pt) : Option (Bool) := gbind (impl_within L (ilen (List.map ep a)) 3 10) fun r => bif !r then (some false) else (gbind (impl_arePegs L a) fun r1 => bif !r1 then (some false) else (impl_IsPolygon_l0 L L a (ilen (List.map ep a)) a (ilen (List.map ep a)) 0))
def impl_IsPolygon_ok (L : Nat) (C : CF) : Prop := ∀ (oa : Bool) (ca : Bool) (x_a : List AV) (a : List Pt) (_ : x_a = List.map ep a), C 21 ([.lst oa ca 2 x_a]) ([]) = Option.map (fun r : Bool => ((.bool r, []) : AV × List Blk)) (impl_IsPolygon L a)
theorem impl_IsPolygon_run (L : Nat) (C : CF) (h_impl_within : impl_within_ok L C) (h_impl_arePegs : impl_arePegs_ok L C) (h_slices_Contains_impl_Peg_impl_Peg : slices_Contains_impl_Peg_impl_Peg_ok L C) (h_impl_at : impl_at_ok L C) (h_impl_turn : impl_turn_ok L C) (h_impl_meet : impl_meet_ok L C) : ∀ (oa : Bool) (ca : Bool) (x_a : List AV) (a : List Pt) (_ : x_a = List.map ep a), run T C sh (keep 21) L Try.f21 ([.lst oa ca 2 x_a]) ([]) = Option.map (fun r : Bool => ((.bool r, []) : AV × List Blk)) (impl_IsPolygon L a) := by
 intro oa ca x_a a hx_a
 subst hx_a
 unfold impl_IsPolygon
 conv => lhs; whnf
 refine t_call (h_impl_within (ilen (List.map ep a)) 3 10) fun r => ?_
 conv => lhs; whnf
 refine t_cond ?_ ?_
 ·conv => lhs; whnf
  exact t_ret (by first | rfl | simp only [ml] <;> rfl)
 ·conv => lhs; whnf
  refine t_call (h_impl_arePegs _ _ _ a (by first | rfl | simp only [ml] <;> rfl)) fun r1 => ?_
  conv => lhs; whnf
  refine t_cond ?_ ?_
  ·conv => lhs; whnf
   exact t_ret (by first | rfl | simp only [ml] <;> rfl)
  ·conv => lhs; whnf
   refine t_loop (fun (⟨v0, v3, v17, v18, v19⟩ : (List Pt) × Int × (List Pt) × Int × Int) => (AV.lst oa ca 2 (List.map ep v0) :: topA 2 (AV.int IntKind.i64 v3 :: topA 13 (AV.lst oa ca 2 (List.map ep v17) :: AV.int IntKind.i64 v18 :: AV.int IntKind.i64 v19 :: tops 57)), [])) (fun m (⟨v0, v3, v17, v18, v19⟩ : (List Pt) × Int × (List Pt) × Int × Int) => impl_IsPolygon_l0 L m v0 v3 v17 v18 v19) (fun _ => rfl) (fun m s rec hrec => ?_) L ((a, ilen (List.map ep a), a, ilen (List.map ep a), 0)) ?_ ?_
   rotate_left
   ·first | rfl | simp only [ml] <;> rfl
   ·first | rfl | simp only [ml] <;> rfl
   obtain ⟨v0, v3, v17, v18, v19⟩ := s
   show _ = Option.map _ (impl_IsPolygon_l0 L (m + 1) v0 v3 v17 v18 v19)
   rw [impl_IsPolygon_l0.eq_2]
   conv => lhs; whnf
   refine t_cond ?_ ?_
   ·conv => lhs; whnf
    refine t_get (en := ep) (l := v17) (by first | rfl | simp only [ml] <;> rfl) fun p => ?_
    conv => lhs; whnf
    refine t_cond ?_ ?_
    ·conv => lhs; whnf
     refine t_call (h_slices_Contains_impl_Peg_impl_Peg _ _ _ (lsub v0 0 v19) (by first | rfl | simp only [ml] <;> rfl) (Pt.x p) (Pt.y p)) fun r2 => ?_
     conv => lhs; whnf
     refine t_cond ?_ ?_
     ·conv => lhs; whnf
      exact t_ret (by first | rfl | simp only [ml] <;> rfl)
     ·conv => lhs; whnf
      refine t_call (h_impl_at _ _ _ v0 (by first | rfl | simp only [ml] <;> rfl) (wr IntKind.i64 (isub v19 1))) fun r3 => ?_
      conv => lhs; whnf
      refine t_call (h_impl_at _ _ _ v0 (by first | rfl | simp only [ml] <;> rfl) (wr IntKind.i64 (iadd v19 1))) fun r4 => ?_
      conv => lhs; whnf
      refine t_call (h_impl_turn (Prod.fst r3) (Prod.snd r3) (Pt.x p) (Pt.y p) (Prod.fst r4) (Prod.snd r4)) fun r5 => ?_
      conv => lhs; whnf
      refine t_cond ?_ ?_
      ·conv => lhs; whnf
       exact t_ret (by first | rfl | simp only [ml] <;> rfl)
      ·conv => lhs; whnf
       refine t_loop (fun (v43 : Int) => (AV.lst oa ca 2 (List.map ep v0) :: topA 2 (AV.int IntKind.i64 v3 :: AV.int IntKind.i64 v19 :: AV.ptr 0 0 0 2 :: topA 11 (AV.lst oa ca 2 (List.map ep v17) :: AV.int IntKind.i64 v18 :: AV.int IntKind.i64 v19 :: topA 22 (AV.int IntKind.i64 v19 :: AV.int IntKind.i64 v43 :: tops 33))), [Blk.box (AV.agg [AV.int IntKind.i64 (Pt.x p), AV.int IntKind.i64 (Pt.y p)])])) (fun m1 (v43 : Int) => impl_IsPolygon_l1 L (impl_IsPolygon_l0 L m) v0 v3 v17 v18 v19 p m1 v43) (fun _ => rfl) (fun m1 v43 rec1 hrec1 => ?_) L 0 ?_ ?_
       rotate_left
       ·first | rfl | simp only [ml] <;> rfl
       ·first | rfl | simp only [ml] <;> rfl
       show _ = Option.map _ (impl_IsPolygon_l1 L (impl_IsPolygon_l0 L m) v0 v3 v17 v18 v19 p (m1 + 1) v43)
       rw [impl_IsPolygon_l1.eq_2]
       conv => lhs; whnf
       refine t_cond ?_ ?_
       ·conv => lhs; whnf
        refine t_cond ?_ ?_
        ·conv => lhs; whnf
         exact hrec1 (wr IntKind.i64 (iadd v43 1)) _ _ (by first | rfl | simp only [ml] <;> rfl) (by first | rfl | simp only [ml] <;> rfl)
        ·conv => lhs; whnf
         refine t_cond ?_ ?_
         ·conv => lhs; whnf
          refine t_cond ?_ ?_
          ·conv => lhs; whnf
           exact hrec1 (wr IntKind.i64 (iadd v43 1)) _ _ (by first | rfl | simp only [ml] <;> rfl) (by first | rfl | simp only [ml] <;> rfl)
          ·conv => lhs; whnf
           refine t_get (en := ep) (l := v0) (by first | rfl | simp only [ml] <;> rfl) fun p1 => ?_
           conv => lhs; whnf
           refine t_get (en := ep) (l := v0) (by first | rfl | simp only [ml] <;> rfl) fun p2 => ?_
           conv => lhs; whnf
           refine t_call (h_impl_at _ _ _ v0 (by first | rfl | simp only [ml] <;> rfl) (wr IntKind.i64 (iadd v19 1))) fun r6 => ?_
           conv => lhs; whnf
           refine t_call (h_impl_meet (Pt.x p1) (Pt.y p1) (Pt.x p2) (Pt.y p2) (Pt.x p) (Pt.y p) (Prod.fst r6) (Prod.snd r6)) fun r7 => ?_
           conv => lhs; whnf
           refine t_cond ?_ ?_
           ·conv => lhs; whnf
            exact t_ret (by first | rfl | simp only [ml] <;> rfl)
           ·conv => lhs; whnf
            exact hrec1 (wr IntKind.i64 (iadd v43 1)) _ _ (by first | rfl | simp only [ml] <;> rfl) (by first | rfl | simp only [ml] <;> rfl)
         ·conv => lhs; whnf
          refine t_get (en := ep) (l := v0) (by first | rfl | simp only [ml] <;> rfl) fun p3 => ?_
          conv => lhs; whnf
          refine t_get (en := ep) (l := v0) (by first | rfl | simp only [ml] <;> rfl) fun p4 => ?_
          conv => lhs; whnf
          refine t_call (h_impl_at _ _ _ v0 (by first | rfl | simp only [ml] <;> rfl) (wr IntKind.i64 (iadd v19 1))) fun r8 => ?_
          conv => lhs; whnf
          refine t_call (h_impl_meet (Pt.x p3) (Pt.y p3) (Pt.x p4) (Pt.y p4) (Pt.x p) (Pt.y p) (Prod.fst r8) (Prod.snd r8)) fun r9 => ?_
          conv => lhs; whnf
          refine t_cond ?_ ?_
          ·conv => lhs; whnf
           exact t_ret (by first | rfl | simp only [ml] <;> rfl)
          ·conv => lhs; whnf
           exact hrec1 (wr IntKind.i64 (iadd v43 1)) _ _ (by first | rfl | simp only [ml] <;> rfl) (by first | rfl | simp only [ml] <;> rfl)
       ·conv => lhs; whnf
        exact hrec ((v0, v3, v17, v18, wr IntKind.i64 (iadd v19 1))) _ _ (by first | rfl | simp only [ml] <;> rfl) (by first | rfl | simp only [ml] <;> rfl)
    ·conv => lhs; whnf
     exact t_none
   ·conv => lhs; whnf
    exact t_ret (by first | rfl | simp only [ml] <;> rfl)
noncomputable def impl_box_l0 (L : Nat) (a : List Pt) : Nat → Int → Int → Int → Int → Int → Option (Int × Int × Int × Int)
  | 0, _, _, _, _, _ => none
  | m + 1, v16, b2_0, b2_1, b3_0, b3_1 => bif ilt v16 (ilen (List.map ep a)) then (gbind (lget a v16) fun p2 => impl_box_l0 L a m (wr IntKind.i64 (iadd v16 1)) (imin b2_0 (Pt.x p2)) (imin b2_1 (Pt.y p2)) (imax b3_0 (Pt.x p2)) (imax b3_1 (Pt.y p2))) else (some ((b2_0, b2_1, b3_0, b3_1)))
noncomputable def impl_box (L : Nat) (a : List Pt) : Option (Int × Int × Int × Int) := gbind (lget a 0) fun p => gbind (lget a 0) fun p1 => impl_box_l0 L a L 0 (Pt.x p1) (Pt.y p1) (Pt.x p) (Pt.y p)
def impl_box_ok (L : Nat) (C : CF) : Prop := ∀ (oa : Bool) (ca : Bool) (x_a : List AV) (a : List Pt) (_ : x_a = List.map ep a), C 31 ([.lst oa ca 2 x_a]) ([]) = Option.map (fun r : Int × Int × Int × Int => ((.tup [.agg [.int .i64 (r.1), .int .i64 (r.2.1)], .agg [.int .i64 (r.2.2.1), .int .i64 (r.2.2.2)]], []) : AV × List Blk)) (impl_box L a)
theorem impl_box_run (L : Nat) (C : CF) : ∀ (oa : Bool) (ca : Bool) (x_a : List AV) (a : List Pt) (_ : x_a = List.map ep a), run T C sh (keep 31) L Try.f31 ([.lst oa ca 2 x_a]) ([]) = Option.map (fun r : Int × Int × Int × Int => ((.tup [.agg [.int .i64 (r.1), .int .i64 (r.2.1)], .agg [.int .i64 (r.2.2.1), .int .i64 (r.2.2.2)]], []) : AV × List Blk)) (impl_box L a) := by
 intro oa ca x_a a hx_a
 subst hx_a
 unfold impl_box
 conv => lhs; whnf
 refine t_get (en := ep) (l := a) (by first | rfl | simp only [ml] <;> rfl) fun p => ?_
 conv => lhs; whnf
 refine t_get (en := ep) (l := a) (by first | rfl | simp only [ml] <;> rfl) fun p1 => ?_
 conv => lhs; whnf
 refine t_loop (fun (⟨v16, b2_0, b2_1, b3_0, b3_1⟩ : Int × Int × Int × Int × Int) => (topA 2 (AV.ptr 0 0 0 2 :: AV.ptr 1 0 0 2 :: AV.ptr 2 0 0 2 :: AV.ptr 3 0 0 2 :: topA 8 (AV.lst oa ca 2 (List.map ep a) :: AV.int IntKind.i64 (ilen (List.map ep a)) :: AV.int IntKind.i64 v16 :: tops 28)), [Blk.box (AV.agg [AV.int IntKind.i64 0, AV.int IntKind.i64 0]), Blk.box (AV.agg [AV.int IntKind.i64 0, AV.int IntKind.i64 0]), Blk.box (AV.agg [AV.int IntKind.i64 b2_0, AV.int IntKind.i64 b2_1]), Blk.box (AV.agg [AV.int IntKind.i64 b3_0, AV.int IntKind.i64 b3_1])])) (fun m (⟨v16, b2_0, b2_1, b3_0, b3_1⟩ : Int × Int × Int × Int × Int) => impl_box_l0 L a m v16 b2_0 b2_1 b3_0 b3_1) (fun _ => rfl) (fun m s rec hrec => ?_) L ((0, Pt.x p1, Pt.y p1, Pt.x p, Pt.y p)) ?_ ?_
 rotate_left
 ·first | rfl | simp only [ml] <;> rfl
 ·first | rfl | simp only [ml] <;> rfl
 obtain ⟨v16, b2_0, b2_1, b3_0, b3_1⟩ := s
 show _ = Option.map _ (impl_box_l0 L a (m + 1) v16 b2_0 b2_1 b3_0 b3_1)
 rw [impl_box_l0.eq_2]
 conv => lhs; whnf
 refine t_cond ?_ ?_
 ·conv => lhs; whnf
  refine t_get (en := ep) (l := a) (by first | rfl | simp only [ml] <;> rfl) fun p2 => ?_
  conv => lhs; whnf
  exact hrec ((wr IntKind.i64 (iadd v16 1), imin b2_0 (Pt.x p2), imin b2_1 (Pt.y p2), imax b3_0 (Pt.x p2), imax b3_1 (Pt.y p2))) _ _ (by first | rfl | simp only [ml] <;> rfl) (by first | rfl | simp only [ml] <;> rfl)
 ·conv => lhs; whnf
  exact t_ret (by first | rfl | simp only [ml] <;> rfl)
noncomputable def impl_where_l0 (L : Nat) (a : List Pt) (b_0 : Int) (b_1 : Int) : Nat → Int → Int → Option Int
  | 0, _, _ => none
  | m + 1, v5, v11 => bif ilt v11 (ilen (List.map ep a)) then (gbind (lget a v11) fun p => gbind (impl_at L a (wr IntKind.i64 (iadd v11 1))) fun r => gbind (impl_isOn L (Pt.x p) (Pt.y p) (Prod.fst r) (Prod.snd r) b_0 b_1) fun r1 => bif r1 then (some 0) else (bif !beqb (ilt b_1 (Pt.y p)) (ilt b_1 (Prod.snd r)) then (gbind (impl_turn L (Pt.x p) (Pt.y p) (Prod.fst r) (Prod.snd r) b_0 b_1) fun r2 => bif beqb (ilt 0 r2) (ilt (Pt.y p) (Prod.snd r)) then (impl_where_l0 L a b_0 b_1 m (wr IntKind.i64 (isub 0 v5)) (wr IntKind.i64 (iadd v11 1))) else (impl_where_l0 L a b_0 b_1 m v5 (wr IntKind.i64 (iadd v11 1)))) else (impl_where_l0 L a b_0 b_1 m v5 (wr IntKind.i64 (iadd v11 1))))) else (some v5)
noncomputable def impl_where (L : Nat) (a : List Pt) (b_0 : Int) (b_1 : Int) : Option (Int) := impl_where_l0 L a b_0 b_1 L (-1) 0
def impl_where_ok (L : Nat) (C : CF) : Prop := ∀ (oa : Bool) (ca : Bool) (x_a : List AV) (a : List Pt) (_ : x_a = List.map ep a) (b_0 : Int) (b_1 : Int), C 32 ([.lst oa ca 2 x_a, .agg [.int .i64 b_0, .int .i64 b_1]]) ([]) = Option.map (fun r : Int => ((.int .i64 r, []) : AV × List Blk)) (impl_where L a b_0 b_1)
theorem impl_where_run (L : Nat) (C : CF) (h_impl_at : impl_at_ok L C) (h_impl_turn : impl_turn_ok L C) (h_impl_isOn : impl_isOn_ok L C) : ∀ (oa : Bool) (ca : Bool) (x_a : List AV) (a : List Pt) (_ : x_a = List.map ep a) (b_0 : Int) (b_1 : Int), run T C sh (keep 32) L Try.f32 ([.lst oa ca 2 x_a, .agg [.int .i64 b_0, .int .i64 b_1]]) ([]) = Option.map (fun r : Int => ((.int .i64 r, []) : AV × List Blk)) (impl_where L a b_0 b_1) := by
 intro oa ca x_a a hx_a b_0 b_1
 subst hx_a
 unfold impl_where
 conv => lhs; whnf
 refine t_loop (fun (⟨v5, v11⟩ : Int × Int) => (AV.lst oa ca 2 (List.map ep a) :: topA 2 (AV.ptr 0 0 0 2 :: AV.top :: AV.int IntKind.i64 v5 :: topA 3 (AV.lst oa ca 2 (List.map ep a) :: AV.int IntKind.i64 (ilen (List.map ep a)) :: AV.int IntKind.i64 v11 :: tops 40)), [Blk.box (AV.agg [AV.int IntKind.i64 b_0, AV.int IntKind.i64 b_1])])) (fun m (⟨v5, v11⟩ : Int × Int) => impl_where_l0 L a b_0 b_1 m v5 v11) (fun _ => rfl) (fun m s rec hrec => ?_) L ((-1, 0)) ?_ ?_
 rotate_left
 ·first | rfl | simp only [ml] <;> rfl
 ·first | rfl | simp only [ml] <;> rfl
 obtain ⟨v5, v11⟩ := s
 show _ = Option.map _ (impl_where_l0 L a b_0 b_1 (m + 1) v5 v11)
 rw [impl_where_l0.eq_2]
 conv => lhs; whnf
 refine t_cond ?_ ?_
 ·conv => lhs; whnf
  refine t_get (en := ep) (l := a) (by first | rfl | simp only [ml] <;> rfl) fun p => ?_
  conv => lhs; whnf
  refine t_call (h_impl_at _ _ _ a (by first | rfl | simp only [ml] <;> rfl) (wr IntKind.i64 (iadd v11 1))) fun r => ?_
  conv => lhs; whnf
  refine t_call (h_impl_isOn (Pt.x p) (Pt.y p) (Prod.fst r) (Prod.snd r) b_0 b_1) fun r1 => ?_
  conv => lhs; whnf
  refine t_cond ?_ ?_
  ·conv => lhs; whnf
   exact t_ret (by first | rfl | simp only [ml] <;> rfl)
  ·conv => lhs; whnf
   refine t_cond ?_ ?_
   ·conv => lhs; whnf
    refine t_call (h_impl_turn (Pt.x p) (Pt.y p) (Prod.fst r) (Prod.snd r) b_0 b_1) fun r2 => ?_
    conv => lhs; whnf
    refine t_cond ?_ ?_
    ·conv => lhs; whnf
     exact hrec ((wr IntKind.i64 (isub 0 v5), wr IntKind.i64 (iadd v11 1))) _ _ (by first | rfl | simp only [ml] <;> rfl) (by first | rfl | simp only [ml] <;> rfl)
    ·conv => lhs; whnf
     exact hrec ((v5, wr IntKind.i64 (iadd v11 1))) _ _ (by first | rfl | simp only [ml] <;> rfl) (by first | rfl | simp only [ml] <;> rfl)
   ·conv => lhs; whnf
    exact hrec ((v5, wr IntKind.i64 (iadd v11 1))) _ _ (by first | rfl | simp only [ml] <;> rfl) (by first | rfl | simp only [ml] <;> rfl)
 ·conv => lhs; whnf
  exact t_ret (by first | rfl | simp only [ml] <;> rfl)
noncomputable def impl_ListInside_l1 (L : Nat) (κ0 : (List Pt) → Int → (List Pt) → Int → Int → Int → Int → Option ((List Pt) × Bool)) (v0 : List Pt) (v7 : Int) (b1_0 : Int) (b1_1 : Int) (b2_0 : Int) (b2_1 : Int) : Nat → Int → (List Pt) → Option ((List Pt) × Bool)
  | 0, _, _ => none
  | m1 + 1, v8, w01 => bif ile v8 b2_1 then (gbind (impl_where L v0 v7 v8) fun r2 => bif ilt 0 r2 then (bif fits (iadd (ilen (List.map ep w01)) (ilen [AV.agg [AV.int IntKind.i64 v7, AV.int IntKind.i64 v8]])) 16 then (impl_ListInside_l1 L κ0 v0 v7 b1_0 b1_1 b2_0 b2_1 m1 (wr IntKind.i64 (iadd v8 1)) (lcat w01 ({ x := v7, y := v8 } :: []))) else (none)) else (impl_ListInside_l1 L κ0 v0 v7 b1_0 b1_1 b2_0 b2_1 m1 (wr IntKind.i64 (iadd v8 1)) w01)) else (κ0 v0 (wr IntKind.i64 (iadd v7 1)) w01 b1_0 b1_1 b2_0 b2_1)
noncomputable def impl_ListInside_l0 (L : Nat) : Nat → (List Pt) → Int → (List Pt) → Int → Int → Int → Int → Option ((List Pt) × Bool)
  | 0, _, _, _, _, _, _, _ => none
  | m + 1, v0, v7, w0, b1_0, b1_1, b2_0, b2_1 => bif ile v7 b2_0 then (impl_ListInside_l1 L (impl_ListInside_l0 L m) v0 v7 b1_0 b1_1 b2_0 b2_1 L b1_1 w0) else (some ((w0, true)))
noncomputable def impl_ListInside (L : Nat) (a : List Pt) : Option ((List Pt) × Bool) := gbind (impl_IsPolygon L a) fun r => bif !r then (some (([], false))) else (gbind (impl_box L a) fun r1 => impl_ListInside_l0 L L a (Prod.fst r1) [] (Prod.fst r1) (Prod.fst (Prod.snd r1)) (Prod.fst (Prod.snd (Prod.snd r1))) (Prod.snd (Prod.snd (Prod.snd r1))))
def impl_ListInside_ok (L : Nat) (C : CF) : Prop := ∀ (oa : Bool) (ca : Bool) (x_a : List AV) (a : List Pt) (_ : x_a = List.map ep a), C 6 ([.lst oa ca 2 x_a]) ([]) = Option.map (fun r : (List Pt) × Bool => ((.tup [.frs 2 (List.map ep (r.1)), .bool (r.2)], []) : AV × List Blk)) (impl_ListInside L a)
theorem impl_ListInside_run (L : Nat) (C : CF) (h_impl_IsPolygon : impl_IsPolygon_ok L C) (h_impl_box : impl_box_ok L C) (h_impl_where : impl_where_ok L C) : ∀ (oa : Bool) (ca : Bool) (x_a : List AV) (a : List Pt) (_ : x_a = List.map ep a), run T C sh (keep 6) L Try.f6 ([.lst oa ca 2 x_a]) ([]) = Option.map (fun r : (List Pt) × Bool => ((.tup [.frs 2 (List.map ep (r.1)), .bool (r.2)], []) : AV × List Blk)) (impl_ListInside L a) := by
 intro oa ca x_a a hx_a
 subst hx_a
 unfold impl_ListInside
 conv => lhs; whnf
 refine t_call (h_impl_IsPolygon _ _ _ a (by first | rfl | simp only [ml] <;> rfl)) fun r => ?_
 conv => lhs; whnf
 refine t_cond ?_ ?_
 ·conv => lhs; whnf
  exact t_ret (by first | rfl | simp only [ml] <;> rfl)
 ·conv => lhs; whnf
  refine t_call (h_impl_box _ _ _ a (by first | rfl | simp only [ml] <;> rfl)) fun r1 => ?_
  conv => lhs; whnf
  refine t_loop (fun (⟨v0, v7, w0, b1_0, b1_1, b2_0, b2_1⟩ : (List Pt) × Int × (List Pt) × Int × Int × Int × Int) => (AV.lst oa ca 2 (List.map ep v0) :: topA 3 (AV.own 0 2 none false :: AV.ptr 1 0 0 2 :: AV.ptr 2 0 0 2 :: AV.int IntKind.i64 v7 :: tops 39), [Blk.rows Mode.live 2 (List.map ep w0), Blk.box (AV.agg [AV.int IntKind.i64 b1_0, AV.int IntKind.i64 b1_1]), Blk.box (AV.agg [AV.int IntKind.i64 b2_0, AV.int IntKind.i64 b2_1])])) (fun m (⟨v0, v7, w0, b1_0, b1_1, b2_0, b2_1⟩ : (List Pt) × Int × (List Pt) × Int × Int × Int × Int) => impl_ListInside_l0 L m v0 v7 w0 b1_0 b1_1 b2_0 b2_1) (fun _ => rfl) (fun m s rec hrec => ?_) L ((a, Prod.fst r1, [], Prod.fst r1, Prod.fst (Prod.snd r1), Prod.fst (Prod.snd (Prod.snd r1)), Prod.snd (Prod.snd (Prod.snd r1)))) ?_ ?_
  rotate_left
  ·first | rfl | simp only [ml] <;> rfl
  ·first | rfl | simp only [ml] <;> rfl
  obtain ⟨v0, v7, w0, b1_0, b1_1, b2_0, b2_1⟩ := s
  show _ = Option.map _ (impl_ListInside_l0 L (m + 1) v0 v7 w0 b1_0 b1_1 b2_0 b2_1)
  rw [impl_ListInside_l0.eq_2]
  conv => lhs; whnf
  refine t_cond ?_ ?_
  ·conv => lhs; whnf
   refine t_loop (fun (⟨v8, w01⟩ : Int × (List Pt)) => (AV.lst oa ca 2 (List.map ep v0) :: topA 3 (AV.own 0 2 none false :: AV.ptr 1 0 0 2 :: AV.ptr 2 0 0 2 :: AV.int IntKind.i64 v7 :: AV.int IntKind.i64 v8 :: tops 38), [Blk.rows Mode.live 2 (List.map ep w01), Blk.box (AV.agg [AV.int IntKind.i64 b1_0, AV.int IntKind.i64 b1_1]), Blk.box (AV.agg [AV.int IntKind.i64 b2_0, AV.int IntKind.i64 b2_1])])) (fun m1 (⟨v8, w01⟩ : Int × (List Pt)) => impl_ListInside_l1 L (impl_ListInside_l0 L m) v0 v7 b1_0 b1_1 b2_0 b2_1 m1 v8 w01) (fun _ => rfl) (fun m1 s1 rec1 hrec1 => ?_) L ((b1_1, w0)) ?_ ?_
   rotate_left
   ·first | rfl | simp only [ml] <;> rfl
   ·first | rfl | simp only [ml] <;> rfl
   obtain ⟨v8, w01⟩ := s1
   show _ = Option.map _ (impl_ListInside_l1 L (impl_ListInside_l0 L m) v0 v7 b1_0 b1_1 b2_0 b2_1 (m1 + 1) v8 w01)
   rw [impl_ListInside_l1.eq_2]
   conv => lhs; whnf
   refine t_cond ?_ ?_
   ·conv => lhs; whnf
    refine t_call (h_impl_where _ _ _ v0 (by first | rfl | simp only [ml] <;> rfl) v7 v8) fun r2 => ?_
    conv => lhs; whnf
    refine t_cond ?_ ?_
    ·conv => lhs; whnf
     refine t_cond ?_ ?_
     ·conv => lhs; whnf
      exact hrec1 ((wr IntKind.i64 (iadd v8 1), lcat w01 ({ x := v7, y := v8 } :: []))) _ _ (by first | rfl | simp only [ml] <;> rfl) (by first | rfl | simp only [ml] <;> rfl)
     ·conv => lhs; whnf
      exact t_none
    ·conv => lhs; whnf
     exact hrec1 ((wr IntKind.i64 (iadd v8 1), w01)) _ _ (by first | rfl | simp only [ml] <;> rfl) (by first | rfl | simp only [ml] <;> rfl)
   ·conv => lhs; whnf
    exact hrec ((v0, wr IntKind.i64 (iadd v7 1), w01, b1_0, b1_1, b2_0, b2_1)) _ _ (by first | rfl | simp only [ml] <;> rfl) (by first | rfl | simp only [ml] <;> rfl)
  ·conv => lhs; whnf
   exact t_ret (by first | rfl | simp only [ml] <;> rfl)
noncomputable def spec_pgWhere_l0 (L : Nat) (a : List Pt) (b_0 : Int) (b_1 : Int) : Nat → Bool → Int → Option Int
  | 0, _, _ => none
  | m + 1, v5, v13 => bif ilt v13 (ilen (List.map ep a)) then (gbind (lget a v13) fun p => bif ieq (ilen (List.map ep a)) 0 then (none) else (gbind (lget a (irem (wr IntKind.i64 (iadd v13 1)) (ilen (List.map ep a)))) fun p1 => gbind (spec_pgOn L (Pt.x p) (Pt.y p) (Pt.x p1) (Pt.y p1) b_0 b_1) fun r => bif r then (some 0) else (bif ilt (Pt.y p1) (Pt.y p) then (bif ile (Pt.y p1) b_1 then (bif ilt b_1 (Pt.y p) then (gbind (spec_pgTurn L (Pt.x p1) (Pt.y p1) (Pt.x p) (Pt.y p) b_0 b_1) fun r1 => bif ilt 0 r1 then (spec_pgWhere_l0 L a b_0 b_1 m (!v5) (wr IntKind.i64 (iadd v13 1))) else (spec_pgWhere_l0 L a b_0 b_1 m v5 (wr IntKind.i64 (iadd v13 1)))) else (spec_pgWhere_l0 L a b_0 b_1 m v5 (wr IntKind.i64 (iadd v13 1)))) else (spec_pgWhere_l0 L a b_0 b_1 m v5 (wr IntKind.i64 (iadd v13 1)))) else (bif ile (Pt.y p) b_1 then (bif ilt b_1 (Pt.y p1) then (gbind (spec_pgTurn L (Pt.x p) (Pt.y p) (Pt.x p1) (Pt.y p1) b_0 b_1) fun r2 => bif ilt 0 r2 then (spec_pgWhere_l0 L a b_0 b_1 m (!v5) (wr IntKind.i64 (iadd v13 1))) else (spec_pgWhere_l0 L a b_0 b_1 m v5 (wr IntKind.i64 (iadd v13 1)))) else (spec_pgWhere_l0 L a b_0 b_1 m v5 (wr IntKind.i64 (iadd v13 1)))) else (spec_pgWhere_l0 L a b_0 b_1 m v5 (wr IntKind.i64 (iadd v13 1))))))) else (bif v5 then (some 1) else (some (-1)))
noncomputable def spec_pgWhere (L : Nat) (a : List Pt) (b_0 : Int) (b_1 : Int) : Option (Int) := spec_pgWhere_l0 L a b_0 b_1 L false 0
def spec_pgWhere_ok (L : Nat) (C : CF) : Prop := ∀ (oa : Bool) (ca : Bool) (x_a : List AV) (a : List Pt) (_ : x_a = List.map ep a) (b_0 : Int) (b_1 : Int), C 58 ([.lst oa ca 2 x_a, .agg [.int .i64 b_0, .int .i64 b_1]]) ([]) = Option.map (fun r : Int => ((.int .i64 r, []) : AV × List Blk)) (spec_pgWhere L a b_0 b_1)
theorem spec_pgWhere_run (L : Nat) (C : CF) (h_spec_pgTurn : spec_pgTurn_ok L C) (h_spec_pgOn : spec_pgOn_ok L C) : ∀ (oa : Bool) (ca : Bool) (x_a : List AV) (a : List Pt) (_ : x_a = List.map ep a) (b_0 : Int) (b_1 : Int), run T C sh (keep 58) L Try.f58 ([.lst oa ca 2 x_a, .agg [.int .i64 b_0, .int .i64 b_1]]) ([]) = Option.map (fun r : Int => ((.int .i64 r, []) : AV × List Blk)) (spec_pgWhere L a b_0 b_1) := by
 intro oa ca x_a a hx_a b_0 b_1
 subst hx_a
 unfold spec_pgWhere
 conv => lhs; whnf
 refine t_loop (fun (⟨v5, v13⟩ : Bool × Int) => (AV.lst oa ca 2 (List.map ep a) :: topA 2 (AV.ptr 0 0 0 2 :: AV.top :: AV.bool v5 :: topA 5 (AV.lst oa ca 2 (List.map ep a) :: AV.int IntKind.i64 (ilen (List.map ep a)) :: AV.int IntKind.i64 v13 :: tops 48)), [Blk.box (AV.agg [AV.int IntKind.i64 b_0, AV.int IntKind.i64 b_1])])) (fun m (⟨v5, v13⟩ : Bool × Int) => spec_pgWhere_l0 L a b_0 b_1 m v5 v13) (fun _ => rfl) (fun m s rec hrec => ?_) L ((false, 0)) ?_ ?_
 rotate_left
 ·first | rfl | simp only [ml] <;> rfl
 ·first | rfl | simp only [ml] <;> rfl
 obtain ⟨v5, v13⟩ := s
 show _ = Option.map _ (spec_pgWhere_l0 L a b_0 b_1 (m + 1) v5 v13)
 rw [spec_pgWhere_l0.eq_2]
 conv => lhs; whnf
 refine t_cond ?_ ?_
 ·conv => lhs; whnf
  refine t_get (en := ep) (l := a) (by first | rfl | simp only [ml] <;> rfl) fun p => ?_
  conv => lhs; whnf
  refine t_cond ?_ ?_
  ·conv => lhs; whnf
   exact t_none
  ·conv => lhs; whnf
   refine t_get (en := ep) (l := a) (by first | rfl | simp only [ml] <;> rfl) fun p1 => ?_
   conv => lhs; whnf
   refine t_call (h_spec_pgOn (Pt.x p) (Pt.y p) (Pt.x p1) (Pt.y p1) b_0 b_1) fun r => ?_
   conv => lhs; whnf
   refine t_cond ?_ ?_
   ·conv => lhs; whnf
    exact t_ret (by first | rfl | simp only [ml] <;> rfl)
   ·conv => lhs; whnf
    refine t_cond ?_ ?_
    ·conv => lhs; whnf
     refine t_cond ?_ ?_
     ·conv => lhs; whnf
      refine t_cond ?_ ?_
      ·conv => lhs; whnf
       refine t_call (h_spec_pgTurn (Pt.x p1) (Pt.y p1) (Pt.x p) (Pt.y p) b_0 b_1) fun r1 => ?_
       conv => lhs; whnf
       refine t_cond ?_ ?_
       ·conv => lhs; whnf
        exact hrec ((!v5, wr IntKind.i64 (iadd v13 1))) _ _ (by first | rfl | simp only [ml] <;> rfl) (by first | rfl | simp only [ml] <;> rfl)
       ·conv => lhs; whnf
        exact hrec ((v5, wr IntKind.i64 (iadd v13 1))) _ _ (by first | rfl | simp only [ml] <;> rfl) (by first | rfl | simp only [ml] <;> rfl)
      ·conv => lhs; whnf
       exact hrec ((v5, wr IntKind.i64 (iadd v13 1))) _ _ (by first | rfl | simp only [ml] <;> rfl) (by first | rfl | simp only [ml] <;> rfl)
     ·conv => lhs; whnf
      exact hrec ((v5, wr IntKind.i64 (iadd v13 1))) _ _ (by first | rfl | simp only [ml] <;> rfl) (by first | rfl | simp only [ml] <;> rfl)
    ·conv => lhs; whnf
     refine t_cond ?_ ?_
     ·conv => lhs; whnf
      refine t_cond ?_ ?_
      ·conv => lhs; whnf
       refine t_call (h_spec_pgTurn (Pt.x p) (Pt.y p) (Pt.x p1) (Pt.y p1) b_0 b_1) fun r2 => ?_
       conv => lhs; whnf
       refine t_cond ?_ ?_
       ·conv => lhs; whnf
        exact hrec ((!v5, wr IntKind.i64 (iadd v13 1))) _ _ (by first | rfl | simp only [ml] <;> rfl) (by first | rfl | simp only [ml] <;> rfl)
       ·conv => lhs; whnf
        exact hrec ((v5, wr IntKind.i64 (iadd v13 1))) _ _ (by first | rfl | simp only [ml] <;> rfl) (by first | rfl | simp only [ml] <;> rfl)
      ·conv => lhs; whnf
       exact hrec ((v5, wr IntKind.i64 (iadd v13 1))) _ _ (by first | rfl | simp only [ml] <;> rfl) (by first | rfl | simp only [ml] <;> rfl)
     ·conv => lhs; whnf
      exact hrec ((v5, wr IntKind.i64 (iadd v13 1))) _ _ (by first | rfl | simp only [ml] <;> rfl) (by first | rfl | simp only [ml] <;> rfl)
 ·conv => lhs; whnf
  refine t_cond ?_ ?_
  ·conv => lhs; whnf
   exact t_ret (by first | rfl | simp only [ml] <;> rfl)
  ·conv => lhs; whnf
   exact t_ret (by first | rfl | simp only [ml] <;> rfl)
noncomputable def spec_pgList_l1 (L : Nat) (κ0 : (List Pt) → Int → (List Pt) → Option ((List Pt))) (v0 : List Pt) (v4 : Int) : Nat → Int → (List Pt) → Option ((List Pt))
  | 0, _, _ => none
  | m1 + 1, v5, w01 => bif ile v5 40 then (gbind (spec_pgWhere L v0 v4 v5) fun r => bif ilt 0 r then (bif fits (iadd (ilen (List.map ep w01)) (ilen [AV.agg [AV.int IntKind.i64 v4, AV.int IntKind.i64 v5]])) 16 then (spec_pgList_l1 L κ0 v0 v4 m1 (wr IntKind.i64 (iadd v5 1)) (lcat w01 ({ x := v4, y := v5 } :: []))) else (none)) else (spec_pgList_l1 L κ0 v0 v4 m1 (wr IntKind.i64 (iadd v5 1)) w01)) else (κ0 v0 (wr IntKind.i64 (iadd v4 1)) w01)
noncomputable def spec_pgList_l0 (L : Nat) : Nat → (List Pt) → Int → (List Pt) → Option ((List Pt))
  | 0, _, _, _ => none
  | m + 1, v0, v4, w0 => bif ile v4 40 then (spec_pgList_l1 L (spec_pgList_l0 L m) v0 v4 L (-40) w0) else (some w0)
noncomputable def spec_pgList (L : Nat) (a : List Pt) : Option ((List Pt)) := spec_pgList_l0 L L a (-40) []
def spec_pgList_ok (L : Nat) (C : CF) : Prop := ∀ (oa : Bool) (ca : Bool) (x_a : List AV) (a : List Pt) (_ : x_a = List.map ep a), C 34 ([.lst oa ca 2 x_a]) ([]) = Option.map (fun r : (List Pt) => ((.frs 2 (List.map ep r), []) : AV × List Blk)) (spec_pgList L a)
theorem spec_pgList_run (L : Nat) (C : CF) (h_spec_pgWhere : spec_pgWhere_ok L C) : ∀ (oa : Bool) (ca : Bool) (x_a : List AV) (a : List Pt) (_ : x_a = List.map ep a), run T C sh (keep 34) L Try.f34 ([.lst oa ca 2 x_a]) ([]) = Option.map (fun r : (List Pt) => ((.frs 2 (List.map ep r), []) : AV × List Blk)) (spec_pgList L a) := by
 intro oa ca x_a a hx_a
 subst hx_a
 unfold spec_pgList
 conv => lhs; whnf
 refine t_loop (fun (⟨v0, v4, w0⟩ : (List Pt) × Int × (List Pt)) => (AV.lst oa ca 2 (List.map ep v0) :: topA 2 (AV.own 0 2 none false :: AV.int IntKind.i64 v4 :: tops 22), [Blk.rows Mode.live 2 (List.map ep w0)])) (fun m (⟨v0, v4, w0⟩ : (List Pt) × Int × (List Pt)) => spec_pgList_l0 L m v0 v4 w0) (fun _ => rfl) (fun m s rec hrec => ?_) L ((a, -40, [])) ?_ ?_
 rotate_left
 ·first | rfl | simp only [ml] <;> rfl
 ·first | rfl | simp only [ml] <;> rfl
 obtain ⟨v0, v4, w0⟩ := s
 show _ = Option.map _ (spec_pgList_l0 L (m + 1) v0 v4 w0)
 rw [spec_pgList_l0.eq_2]
 conv => lhs; whnf
 refine t_cond ?_ ?_
 ·conv => lhs; whnf
  refine t_loop (fun (⟨v5, w01⟩ : Int × (List Pt)) => (AV.lst oa ca 2 (List.map ep v0) :: topA 2 (AV.own 0 2 none false :: AV.int IntKind.i64 v4 :: AV.int IntKind.i64 v5 :: tops 21), [Blk.rows Mode.live 2 (List.map ep w01)])) (fun m1 (⟨v5, w01⟩ : Int × (List Pt)) => spec_pgList_l1 L (spec_pgList_l0 L m) v0 v4 m1 v5 w01) (fun _ => rfl) (fun m1 s1 rec1 hrec1 => ?_) L ((-40, w0)) ?_ ?_
  rotate_left
  ·first | rfl | simp only [ml] <;> rfl
  ·first | rfl | simp only [ml] <;> rfl
  obtain ⟨v5, w01⟩ := s1
  show _ = Option.map _ (spec_pgList_l1 L (spec_pgList_l0 L m) v0 v4 (m1 + 1) v5 w01)
  rw [spec_pgList_l1.eq_2]
  conv => lhs; whnf
  refine t_cond ?_ ?_
  ·conv => lhs; whnf
   refine t_call (h_spec_pgWhere _ _ _ v0 (by first | rfl | simp only [ml] <;> rfl) v4 v5) fun r => ?_
   conv => lhs; whnf
   refine t_cond ?_ ?_
   ·conv => lhs; whnf
    refine t_cond ?_ ?_
    ·conv => lhs; whnf
     exact hrec1 ((wr IntKind.i64 (iadd v5 1), lcat w01 ({ x := v4, y := v5 } :: []))) _ _ (by first | rfl | simp only [ml] <;> rfl) (by first | rfl | simp only [ml] <;> rfl)
    ·conv => lhs; whnf
     exact t_none
   ·conv => lhs; whnf
    exact hrec1 ((wr IntKind.i64 (iadd v5 1), w01)) _ _ (by first | rfl | simp only [ml] <;> rfl) (by first | rfl | simp only [ml] <;> rfl)
  ·conv => lhs; whnf
   exact hrec ((v0, wr IntKind.i64 (iadd v4 1), w01)) _ _ (by first | rfl | simp only [ml] <;> rfl) (by first | rfl | simp only [ml] <;> rfl)
 ·conv => lhs; whnf
  exact t_ret (by first | rfl | simp only [ml] <;> rfl)
noncomputable def spec_ListInside (L : Nat) (a : List Pt) : Option ((List Pt) × Bool) := gbind (spec_pgGood L a) fun r => bif !r then (some (([], false))) else (gbind (spec_pgList L a) fun r1 => some ((r1, true)))
def spec_ListInside_ok (L : Nat) (C : CF) : Prop := ∀ (oa : Bool) (ca : Bool) (x_a : List AV) (a : List Pt) (_ : x_a = List.map ep a), C 7 ([.lst oa ca 2 x_a]) ([]) = Option.map (fun r : (List Pt) × Bool => ((.tup [.frs 2 (List.map ep (r.1)), .bool (r.2)], []) : AV × List Blk)) (spec_ListInside L a)
theorem spec_ListInside_run (L : Nat) (C : CF) (h_spec_pgGood : spec_pgGood_ok L C) (h_spec_pgList : spec_pgList_ok L C) : ∀ (oa : Bool) (ca : Bool) (x_a : List AV) (a : List Pt) (_ : x_a = List.map ep a), run T C sh (keep 7) L Try.f7 ([.lst oa ca 2 x_a]) ([]) = Option.map (fun r : (List Pt) × Bool => ((.tup [.frs 2 (List.map ep (r.1)), .bool (r.2)], []) : AV × List Blk)) (spec_ListInside L a) := by
 intro oa ca x_a a hx_a
 subst hx_a
 unfold spec_ListInside
 conv => lhs; whnf
 refine t_call (h_spec_pgGood _ _ _ a (by first | rfl | simp only [ml] <;> rfl)) fun r => ?_
 conv => lhs; whnf
 refine t_cond ?_ ?_
 ·conv => lhs; whnf
  exact t_ret (by first | rfl | simp only [ml] <;> rfl)
 ·conv => lhs; whnf
  refine t_call (h_spec_pgList _ _ _ a (by first | rfl | simp only [ml] <;> rfl)) fun r1 => ?_
  conv => lhs; whnf
  exact t_ret (by first | rfl | simp only [ml] <;> rfl)
noncomputable def impl_twice_l0 (L : Nat) (a : List Pt) : Nat → Int → Int → Option Int
  | 0, _, _ => none
  | m + 1, v3, v8 => bif ilt v8 (ilen (List.map ep a)) then (gbind (lget a v8) fun p => gbind (impl_at L a (wr IntKind.i64 (iadd v8 1))) fun r => gbind (impl_cross L (Pt.x p) (Pt.y p) (Prod.fst r) (Prod.snd r)) fun r1 => impl_twice_l0 L a m (wr IntKind.i64 (iadd v3 r1)) (wr IntKind.i64 (iadd v8 1))) else (some v3)
noncomputable def impl_twice (L : Nat) (a : List Pt) : Option (Int) := impl_twice_l0 L a L 0 0
def impl_twice_ok (L : Nat) (C : CF) : Prop := ∀ (oa : Bool) (ca : Bool) (x_a : List AV) (a : List Pt) (_ : x_a = List.map ep a), C 35 ([.lst oa ca 2 x_a]) ([]) = Option.map (fun r : Int => ((.int .i64 r, []) : AV × List Blk)) (impl_twice L a)
theorem impl_twice_run (L : Nat) (C : CF) (h_impl_at : impl_at_ok L C) (h_impl_cross : impl_cross_ok L C) : ∀ (oa : Bool) (ca : Bool) (x_a : List AV) (a : List Pt) (_ : x_a = List.map ep a), run T C sh (keep 35) L Try.f35 ([.lst oa ca 2 x_a]) ([]) = Option.map (fun r : Int => ((.int .i64 r, []) : AV × List Blk)) (impl_twice L a) := by
 intro oa ca x_a a hx_a
 subst hx_a
 unfold impl_twice
 conv => lhs; whnf
 refine t_loop (fun (⟨v3, v8⟩ : Int × Int) => (AV.lst oa ca 2 (List.map ep a) :: topA 2 (AV.int IntKind.i64 v3 :: topA 2 (AV.lst oa ca 2 (List.map ep a) :: AV.int IntKind.i64 (ilen (List.map ep a)) :: AV.int IntKind.i64 v8 :: tops 14)), [])) (fun m (⟨v3, v8⟩ : Int × Int) => impl_twice_l0 L a m v3 v8) (fun _ => rfl) (fun m s rec hrec => ?_) L ((0, 0)) ?_ ?_
 rotate_left
 ·first | rfl | simp only [ml] <;> rfl
 ·first | rfl | simp only [ml] <;> rfl
 obtain ⟨v3, v8⟩ := s
 show _ = Option.map _ (impl_twice_l0 L a (m + 1) v3 v8)
 rw [impl_twice_l0.eq_2]
 conv => lhs; whnf
 refine t_cond ?_ ?_
 ·conv => lhs; whnf
  refine t_get (en := ep) (l := a) (by first | rfl | simp only [ml] <;> rfl) fun p => ?_
  conv => lhs; whnf
  refine t_call (h_impl_at _ _ _ a (by first | rfl | simp only [ml] <;> rfl) (wr IntKind.i64 (iadd v8 1))) fun r => ?_
  conv => lhs; whnf
  refine t_call (h_impl_cross (Pt.x p) (Pt.y p) (Prod.fst r) (Prod.snd r)) fun r1 => ?_
  conv => lhs; whnf
  exact hrec ((wr IntKind.i64 (iadd v3 r1), wr IntKind.i64 (iadd v8 1))) _ _ (by first | rfl | simp only [ml] <;> rfl) (by first | rfl | simp only [ml] <;> rfl)
 ·conv => lhs; whnf
  exact t_ret (by first | rfl | simp only [ml] <;> rfl)
noncomputable def impl_TwiceArea (L : Nat) (a : List Pt) : Option (Int × Bool) := gbind (impl_IsPolygon L a) fun r => bif !r then (some ((0, false))) else (gbind (impl_twice L a) fun r1 => some ((r1, true)))
def impl_TwiceArea_ok (L : Nat) (C : CF) : Prop := ∀ (oa : Bool) (ca : Bool) (x_a : List AV) (a : List Pt) (_ : x_a = List.map ep a), C 8 ([.lst oa ca 2 x_a]) ([]) = Option.map (fun r : Int × Bool => ((.tup [.int .i64 (r.1), .bool (r.2)], []) : AV × List Blk)) (impl_TwiceArea L a)
theorem impl_TwiceArea_run (L : Nat) (C : CF) (h_impl_IsPolygon : impl_IsPolygon_ok L C) (h_impl_twice : impl_twice_ok L C) : ∀ (oa : Bool) (ca : Bool) (x_a : List AV) (a : List Pt) (_ : x_a = List.map ep a), run T C sh (keep 8) L Try.f8 ([.lst oa ca 2 x_a]) ([]) = Option.map (fun r : Int × Bool => ((.tup [.int .i64 (r.1), .bool (r.2)], []) : AV × List Blk)) (impl_TwiceArea L a) := by
 intro oa ca x_a a hx_a
 subst hx_a
 unfold impl_TwiceArea
 conv => lhs; whnf
 refine t_call (h_impl_IsPolygon _ _ _ a (by first | rfl | simp only [ml] <;> rfl)) fun r => ?_
 conv => lhs; whnf
 refine t_cond ?_ ?_
 ·conv => lhs; whnf
  exact t_ret (by first | rfl | simp only [ml] <;> rfl)
 ·conv => lhs; whnf
  refine t_call (h_impl_twice _ _ _ a (by first | rfl | simp only [ml] <;> rfl)) fun r1 => ?_
  conv => lhs; whnf
  exact t_ret (by first | rfl | simp only [ml] <;> rfl)
noncomputable def spec_pgArea_l0 (L : Nat) (a : List Pt) : Nat → Int → Int → Option Int
  | 0, _, _ => none
  | m + 1, v3, v4 => bif ilt v4 (ilen (List.map ep a)) then (gbind (lget a 0) fun p => gbind (lget a (wr IntKind.i64 (isub v4 1))) fun p1 => gbind (lget a v4) fun p2 => gbind (spec_pgTurn L (Pt.x p) (Pt.y p) (Pt.x p1) (Pt.y p1) (Pt.x p2) (Pt.y p2)) fun r => spec_pgArea_l0 L a m (wr IntKind.i64 (iadd v3 r)) (wr IntKind.i64 (iadd v4 1))) else (some v3)
noncomputable def spec_pgArea (L : Nat) (a : List Pt) : Option (Int) := spec_pgArea_l0 L a L 0 2
def spec_pgArea_ok (L : Nat) (C : CF) : Prop := ∀ (oa : Bool) (ca : Bool) (x_a : List AV) (a : List Pt) (_ : x_a = List.map ep a), C 36 ([.lst oa ca 2 x_a]) ([]) = Option.map (fun r : Int => ((.int .i64 r, []) : AV × List Blk)) (spec_pgArea L a)
theorem spec_pgArea_run (L : Nat) (C : CF) (h_spec_pgTurn : spec_pgTurn_ok L C) : ∀ (oa : Bool) (ca : Bool) (x_a : List AV) (a : List Pt) (_ : x_a = List.map ep a), run T C sh (keep 36) L Try.f36 ([.lst oa ca 2 x_a]) ([]) = Option.map (fun r : Int => ((.int .i64 r, []) : AV × List Blk)) (spec_pgArea L a) := by
 intro oa ca x_a a hx_a
 subst hx_a
 unfold spec_pgArea
 conv => lhs; whnf
 refine t_loop (fun (⟨v3, v4⟩ : Int × Int) => (AV.lst oa ca 2 (List.map ep a) :: topA 2 (AV.int IntKind.i64 v3 :: AV.int IntKind.i64 v4 :: tops 22), [])) (fun m (⟨v3, v4⟩ : Int × Int) => spec_pgArea_l0 L a m v3 v4) (fun _ => rfl) (fun m s rec hrec => ?_) L ((0, 2)) ?_ ?_
 rotate_left
 ·first | rfl | simp only [ml] <;> rfl
 ·first | rfl | simp only [ml] <;> rfl
 obtain ⟨v3, v4⟩ := s
 show _ = Option.map _ (spec_pgArea_l0 L a (m + 1) v3 v4)
 rw [spec_pgArea_l0.eq_2]
 conv => lhs; whnf
 refine t_cond ?_ ?_
 ·conv => lhs; whnf
  refine t_get (en := ep) (l := a) (by first | rfl | simp only [ml] <;> rfl) fun p => ?_
  conv => lhs; whnf
  refine t_get (en := ep) (l := a) (by first | rfl | simp only [ml] <;> rfl) fun p1 => ?_
  conv => lhs; whnf
  refine t_get (en := ep) (l := a) (by first | rfl | simp only [ml] <;> rfl) fun p2 => ?_
  conv => lhs; whnf
  refine t_call (h_spec_pgTurn (Pt.x p) (Pt.y p) (Pt.x p1) (Pt.y p1) (Pt.x p2) (Pt.y p2)) fun r => ?_
  conv => lhs; whnf
  exact hrec ((wr IntKind.i64 (iadd v3 r), wr IntKind.i64 (iadd v4 1))) _ _ (by first | rfl | simp only [ml] <;> rfl) (by first | rfl | simp only [ml] <;> rfl)
 ·conv => lhs; whnf
  exact t_ret (by first | rfl | simp only [ml] <;> rfl)
noncomputable def spec_TwiceArea (L : Nat) (a : List Pt) : Option (Int × Bool) := gbind (spec_pgGood L a) fun r => bif !r then (some ((0, false))) else (gbind (spec_pgArea L a) fun r1 => some ((r1, true)))
def spec_TwiceArea_ok (L : Nat) (C : CF) : Prop := ∀ (oa : Bool) (ca : Bool) (x_a : List AV) (a : List Pt) (_ : x_a = List.map ep a), C 9 ([.lst oa ca 2 x_a]) ([]) = Option.map (fun r : Int × Bool => ((.tup [.int .i64 (r.1), .bool (r.2)], []) : AV × List Blk)) (spec_TwiceArea L a)
theorem spec_TwiceArea_run (L : Nat) (C : CF) (h_spec_pgGood : spec_pgGood_ok L C) (h_spec_pgArea : spec_pgArea_ok L C) : ∀ (oa : Bool) (ca : Bool) (x_a : List AV) (a : List Pt) (_ : x_a = List.map ep a), run T C sh (keep 9) L Try.f9 ([.lst oa ca 2 x_a]) ([]) = Option.map (fun r : Int × Bool => ((.tup [.int .i64 (r.1), .bool (r.2)], []) : AV × List Blk)) (spec_TwiceArea L a) := by
 intro oa ca x_a a hx_a
 subst hx_a
 unfold spec_TwiceArea
 conv => lhs; whnf
 refine t_call (h_spec_pgGood _ _ _ a (by first | rfl | simp only [ml] <;> rfl)) fun r => ?_
 conv => lhs; whnf
 refine t_cond ?_ ?_
 ·conv => lhs; whnf
  exact t_ret (by first | rfl | simp only [ml] <;> rfl)
 ·conv => lhs; whnf
  refine t_call (h_spec_pgArea _ _ _ a (by first | rfl | simp only [ml] <;> rfl)) fun r1 => ?_
  conv => lhs; whnf
  exact t_ret (by first | rfl | simp only [ml] <;> rfl)
noncomputable def impl_size (L : Nat) (a : Int) : Option (Int) := some (imax a (wr IntKind.i64 (isub 0 a)))
def impl_size_ok (L : Nat) (C : CF) : Prop := ∀ (a : Int), C 68 ([.int .i64 a]) ([]) = Option.map (fun r : Int => ((.int .i64 r, []) : AV × List Blk)) (impl_size L a)
theorem impl_size_run (L : Nat) (C : CF) : ∀ (a : Int), run T C sh (keep 68) L Try.f68 ([.int .i64 a]) ([]) = Option.map (fun r : Int => ((.int .i64 r, []) : AV × List Blk)) (impl_size L a) := by
 intro a
 unfold impl_size
 conv => lhs; whnf
 exact t_ret (by first | rfl | simp only [ml] <;> rfl)
noncomputable def impl_divisor_l0 (L : Nat) : Nat → Int → Int → Option Int
  | 0, _, _ => none
  | m + 1, v0, v1 => bif !ieq v1 0 then (bif ieq v1 0 then (none) else (impl_divisor_l0 L m v1 (irem v0 v1))) else (gbind (impl_size L v0) fun r => some r)
noncomputable def impl_divisor (L : Nat) (a : Int) (b : Int) : Option (Int) := impl_divisor_l0 L L a b
def impl_divisor_ok (L : Nat) (C : CF) : Prop := ∀ (a : Int) (b : Int), C 78 ([.int .i64 a, .int .i64 b]) ([]) = Option.map (fun r : Int => ((.int .i64 r, []) : AV × List Blk)) (impl_divisor L a b)
theorem impl_divisor_run (L : Nat) (C : CF) (h_impl_size : impl_size_ok L C) : ∀ (a : Int) (b : Int), run T C sh (keep 78) L Try.f78 ([.int .i64 a, .int .i64 b]) ([]) = Option.map (fun r : Int => ((.int .i64 r, []) : AV × List Blk)) (impl_divisor L a b) := by
 intro a b
 unfold impl_divisor
 conv => lhs; whnf
 refine t_loop (fun (⟨v0, v1⟩ : Int × Int) => (AV.int IntKind.i64 v0 :: AV.int IntKind.i64 v1 :: tops 11, [])) (fun m (⟨v0, v1⟩ : Int × Int) => impl_divisor_l0 L m v0 v1) (fun _ => rfl) (fun m s rec hrec => ?_) L ((a, b)) ?_ ?_
 rotate_left
 ·first | rfl | simp only [ml] <;> rfl
 ·first | rfl | simp only [ml] <;> rfl
 obtain ⟨v0, v1⟩ := s
 show _ = Option.map _ (impl_divisor_l0 L (m + 1) v0 v1)
 rw [impl_divisor_l0.eq_2]
 conv => lhs; whnf
 refine t_cond ?_ ?_
 ·conv => lhs; whnf
  refine t_cond ?_ ?_
  ·conv => lhs; whnf
   exact t_none
  ·conv => lhs; whnf
   exact hrec ((v1, irem v0 v1)) _ _ (by first | rfl | simp only [ml] <;> rfl) (by first | rfl | simp only [ml] <;> rfl)
 ·conv => lhs; whnf
  refine t_call (h_impl_size v0) fun r => ?_
  conv => lhs; whnf
  exact t_ret (by first | rfl | simp only [ml] <;> rfl)
noncomputable def impl_steps (L : Nat) (a_0 : Int) (a_1 : Int) (b_0 : Int) (b_1 : Int) : Option (Int) := gbind (impl_divisor L (wr IntKind.i64 (isub a_0 b_0)) (wr IntKind.i64 (isub a_1 b_1))) fun r => some r
def impl_steps_ok (L : Nat) (C : CF) : Prop := ∀ (a_0 : Int) (a_1 : Int) (b_0 : Int) (b_1 : Int), C 54 ([.agg [.int .i64 a_0, .int .i64 a_1], .agg [.int .i64 b_0, .int .i64 b_1]]) ([]) = Option.map (fun r : Int => ((.int .i64 r, []) : AV × List Blk)) (impl_steps L a_0 a_1 b_0 b_1)
theorem impl_steps_run (L : Nat) (C : CF) (h_impl_divisor : impl_divisor_ok L C) : ∀ (a_0 : Int) (a_1 : Int) (b_0 : Int) (b_1 : Int), run T C sh (keep 54) L Try.f54 ([.agg [.int .i64 a_0, .int .i64 a_1], .agg [.int .i64 b_0, .int .i64 b_1]]) ([]) = Option.map (fun r : Int => ((.int .i64 r, []) : AV × List Blk)) (impl_steps L a_0 a_1 b_0 b_1) := by
 intro a_0 a_1 b_0 b_1
 unfold impl_steps
 conv => lhs; whnf
 refine t_call (h_impl_divisor (wr IntKind.i64 (isub a_0 b_0)) (wr IntKind.i64 (isub a_1 b_1))) fun r => ?_
 conv => lhs; whnf
 exact t_ret (by first | rfl | simp only [ml] <;> rfl)
noncomputable def impl_around_l0 (L : Nat) (a : List Pt) : Nat → Int → Int → Option Int
  | 0, _, _ => none
  | m + 1, v3, v8 => bif ilt v8 (ilen (List.map ep a)) then (gbind (lget a v8) fun p => gbind (impl_at L a (wr IntKind.i64 (iadd v8 1))) fun r => gbind (impl_steps L (Pt.x p) (Pt.y p) (Prod.fst r) (Prod.snd r)) fun r1 => impl_around_l0 L a m (wr IntKind.i64 (iadd v3 r1)) (wr IntKind.i64 (iadd v8 1))) else (some v3)
noncomputable def impl_around (L : Nat) (a : List Pt) : Option (Int) := impl_around_l0 L a L 0 0
def impl_around_ok (L : Nat) (C : CF) : Prop := ∀ (oa : Bool) (ca : Bool) (x_a : List AV) (a : List Pt) (_ : x_a = List.map ep a), C 37 ([.lst oa ca 2 x_a]) ([]) = Option.map (fun r : Int => ((.int .i64 r, []) : AV × List Blk)) (impl_around L a)
theorem impl_around_run (L : Nat) (C : CF) (h_impl_at : impl_at_ok L C) (h_impl_steps : impl_steps_ok L C) : ∀ (oa : Bool) (ca : Bool) (x_a : List AV) (a : List Pt) (_ : x_a = List.map ep a), run T C sh (keep 37) L Try.f37 ([.lst oa ca 2 x_a]) ([]) = Option.map (fun r : Int => ((.int .i64 r, []) : AV × List Blk)) (impl_around L a) := by
 intro oa ca x_a a hx_a
 subst hx_a
 unfold impl_around
 conv => lhs; whnf
 refine t_loop (fun (⟨v3, v8⟩ : Int × Int) => (AV.lst oa ca 2 (List.map ep a) :: topA 2 (AV.int IntKind.i64 v3 :: topA 2 (AV.lst oa ca 2 (List.map ep a) :: AV.int IntKind.i64 (ilen (List.map ep a)) :: AV.int IntKind.i64 v8 :: tops 14)), [])) (fun m (⟨v3, v8⟩ : Int × Int) => impl_around_l0 L a m v3 v8) (fun _ => rfl) (fun m s rec hrec => ?_) L ((0, 0)) ?_ ?_
 rotate_left
 ·first | rfl | simp only [ml] <;> rfl
 ·first | rfl | simp only [ml] <;> rfl
 obtain ⟨v3, v8⟩ := s
 show _ = Option.map _ (impl_around_l0 L a (m + 1) v3 v8)
 rw [impl_around_l0.eq_2]
 conv => lhs; whnf
 refine t_cond ?_ ?_
 ·conv => lhs; whnf
  refine t_get (en := ep) (l := a) (by first | rfl | simp only [ml] <;> rfl) fun p => ?_
  conv => lhs; whnf
  refine t_call (h_impl_at _ _ _ a (by first | rfl | simp only [ml] <;> rfl) (wr IntKind.i64 (iadd v8 1))) fun r => ?_
  conv => lhs; whnf
  refine t_call (h_impl_steps (Pt.x p) (Pt.y p) (Prod.fst r) (Prod.snd r)) fun r1 => ?_
  conv => lhs; whnf
  exact hrec ((wr IntKind.i64 (iadd v3 r1), wr IntKind.i64 (iadd v8 1))) _ _ (by first | rfl | simp only [ml] <;> rfl) (by first | rfl | simp only [ml] <;> rfl)
 ·conv => lhs; whnf
  exact t_ret (by first | rfl | simp only [ml] <;> rfl)
noncomputable def impl_PegsOn (L : Nat) (a : List Pt) : Option (Int × Bool) := gbind (impl_IsPolygon L a) fun r => bif !r then (some ((0, false))) else (gbind (impl_around L a) fun r1 => some ((r1, true)))
def impl_PegsOn_ok (L : Nat) (C : CF) : Prop := ∀ (oa : Bool) (ca : Bool) (x_a : List AV) (a : List Pt) (_ : x_a = List.map ep a), C 10 ([.lst oa ca 2 x_a]) ([]) = Option.map (fun r : Int × Bool => ((.tup [.int .i64 (r.1), .bool (r.2)], []) : AV × List Blk)) (impl_PegsOn L a)
theorem impl_PegsOn_run (L : Nat) (C : CF) (h_impl_IsPolygon : impl_IsPolygon_ok L C) (h_impl_around : impl_around_ok L C) : ∀ (oa : Bool) (ca : Bool) (x_a : List AV) (a : List Pt) (_ : x_a = List.map ep a), run T C sh (keep 10) L Try.f10 ([.lst oa ca 2 x_a]) ([]) = Option.map (fun r : Int × Bool => ((.tup [.int .i64 (r.1), .bool (r.2)], []) : AV × List Blk)) (impl_PegsOn L a) := by
 intro oa ca x_a a hx_a
 subst hx_a
 unfold impl_PegsOn
 conv => lhs; whnf
 refine t_call (h_impl_IsPolygon _ _ _ a (by first | rfl | simp only [ml] <;> rfl)) fun r => ?_
 conv => lhs; whnf
 refine t_cond ?_ ?_
 ·conv => lhs; whnf
  exact t_ret (by first | rfl | simp only [ml] <;> rfl)
 ·conv => lhs; whnf
  refine t_call (h_impl_around _ _ _ a (by first | rfl | simp only [ml] <;> rfl)) fun r1 => ?_
  conv => lhs; whnf
  exact t_ret (by first | rfl | simp only [ml] <;> rfl)
noncomputable def spec_l1Most (L : Nat) (a : Int) (b : Int) : Option (Int) := bif ilt b a then (some a) else (some b)
def spec_l1Most_ok (L : Nat) (C : CF) : Prop := ∀ (a : Int) (b : Int), C 84 ([.int .i64 a, .int .i64 b]) ([]) = Option.map (fun r : Int => ((.int .i64 r, []) : AV × List Blk)) (spec_l1Most L a b)
theorem spec_l1Most_run (L : Nat) (C : CF) : ∀ (a : Int) (b : Int), run T C sh (keep 84) L Try.f84 ([.int .i64 a, .int .i64 b]) ([]) = Option.map (fun r : Int => ((.int .i64 r, []) : AV × List Blk)) (spec_l1Most L a b) := by
 intro a b
 unfold spec_l1Most
 conv => lhs; whnf
 refine t_cond ?_ ?_
 ·conv => lhs; whnf
  exact t_ret (by first | rfl | simp only [ml] <;> rfl)
 ·conv => lhs; whnf
  exact t_ret (by first | rfl | simp only [ml] <;> rfl)
noncomputable def spec_l1Abs (L : Nat) (a : Int) : Option (Int) := gbind (spec_l1Most L a (wr IntKind.i64 (isub 0 a))) fun r => some r
def spec_l1Abs_ok (L : Nat) (C : CF) : Prop := ∀ (a : Int), C 69 ([.int .i64 a]) ([]) = Option.map (fun r : Int => ((.int .i64 r, []) : AV × List Blk)) (spec_l1Abs L a)
theorem spec_l1Abs_run (L : Nat) (C : CF) (h_spec_l1Most : spec_l1Most_ok L C) : ∀ (a : Int), run T C sh (keep 69) L Try.f69 ([.int .i64 a]) ([]) = Option.map (fun r : Int => ((.int .i64 r, []) : AV × List Blk)) (spec_l1Abs L a) := by
 intro a
 unfold spec_l1Abs
 conv => lhs; whnf
 refine t_call (h_spec_l1Most a (wr IntKind.i64 (isub 0 a))) fun r => ?_
 conv => lhs; whnf
 exact t_ret (by first | rfl | simp only [ml] <;> rfl)
noncomputable def spec_pgCommon_l0 (L : Nat) : Nat → Int → Int → Option Int
  | 0, _, _ => none
  | m + 1, v0, v1 => bif ilt 0 v1 then (bif ieq v1 0 then (none) else (spec_pgCommon_l0 L m v1 (irem v0 v1))) else (some v0)
noncomputable def spec_pgCommon (L : Nat) (a : Int) (b : Int) : Option (Int) := gbind (spec_l1Abs L a) fun r => gbind (spec_l1Abs L b) fun r1 => spec_pgCommon_l0 L L r r1
def spec_pgCommon_ok (L : Nat) (C : CF) : Prop := ∀ (a : Int) (b : Int), C 83 ([.int .i64 a, .int .i64 b]) ([]) = Option.map (fun r : Int => ((.int .i64 r, []) : AV × List Blk)) (spec_pgCommon L a b)
theorem spec_pgCommon_run (L : Nat) (C : CF) (h_spec_l1Abs : spec_l1Abs_ok L C) : ∀ (a : Int) (b : Int), run T C sh (keep 83) L Try.f83 ([.int .i64 a, .int .i64 b]) ([]) = Option.map (fun r : Int => ((.int .i64 r, []) : AV × List Blk)) (spec_pgCommon L a b) := by
 intro a b
 unfold spec_pgCommon
 conv => lhs; whnf
 refine t_call (h_spec_l1Abs a) fun r => ?_
 conv => lhs; whnf
 refine t_call (h_spec_l1Abs b) fun r1 => ?_
 conv => lhs; whnf
 refine t_loop (fun (⟨v0, v1⟩ : Int × Int) => (AV.int IntKind.i64 v0 :: AV.int IntKind.i64 v1 :: tops 14, [])) (fun m (⟨v0, v1⟩ : Int × Int) => spec_pgCommon_l0 L m v0 v1) (fun _ => rfl) (fun m s rec hrec => ?_) L ((r, r1)) ?_ ?_
 rotate_left
 ·first | rfl | simp only [ml] <;> rfl
 ·first | rfl | simp only [ml] <;> rfl
 obtain ⟨v0, v1⟩ := s
 show _ = Option.map _ (spec_pgCommon_l0 L (m + 1) v0 v1)
 rw [spec_pgCommon_l0.eq_2]
 conv => lhs; whnf
 refine t_cond ?_ ?_
 ·conv => lhs; whnf
  refine t_cond ?_ ?_
  ·conv => lhs; whnf
   exact t_none
  ·conv => lhs; whnf
   exact hrec ((v1, irem v0 v1)) _ _ (by first | rfl | simp only [ml] <;> rfl) (by first | rfl | simp only [ml] <;> rfl)
 ·conv => lhs; whnf
  exact t_ret (by first | rfl | simp only [ml] <;> rfl)
noncomputable def spec_pgStep (L : Nat) (a_0 : Int) (a_1 : Int) (b_0 : Int) (b_1 : Int) : Option (Int) := gbind (spec_pgCommon L (wr IntKind.i64 (isub a_0 b_0)) (wr IntKind.i64 (isub a_1 b_1))) fun r => some r
def spec_pgStep_ok (L : Nat) (C : CF) : Prop := ∀ (a_0 : Int) (a_1 : Int) (b_0 : Int) (b_1 : Int), C 67 ([.agg [.int .i64 a_0, .int .i64 a_1], .agg [.int .i64 b_0, .int .i64 b_1]]) ([]) = Option.map (fun r : Int => ((.int .i64 r, []) : AV × List Blk)) (spec_pgStep L a_0 a_1 b_0 b_1)
theorem spec_pgStep_run (L : Nat) (C : CF) (h_spec_pgCommon : spec_pgCommon_ok L C) : ∀ (a_0 : Int) (a_1 : Int) (b_0 : Int) (b_1 : Int), run T C sh (keep 67) L Try.f67 ([.agg [.int .i64 a_0, .int .i64 a_1], .agg [.int .i64 b_0, .int .i64 b_1]]) ([]) = Option.map (fun r : Int => ((.int .i64 r, []) : AV × List Blk)) (spec_pgStep L a_0 a_1 b_0 b_1) := by
 intro a_0 a_1 b_0 b_1
 unfold spec_pgStep
 conv => lhs; whnf
 refine t_call (h_spec_pgCommon (wr IntKind.i64 (isub a_0 b_0)) (wr IntKind.i64 (isub a_1 b_1))) fun r => ?_
 conv => lhs; whnf
 exact t_ret (by first | rfl | simp only [ml] <;> rfl)
noncomputable def spec_pgRound_l0 (L : Nat) (a : List Pt) : Nat → Int → Int → Option Int
  | 0, _, _ => none
  | m + 1, v3, v8 => bif ilt v8 (ilen (List.map ep a)) then (gbind (lget a v8) fun p => bif ieq (ilen (List.map ep a)) 0 then (none) else (gbind (lget a (irem (wr IntKind.i64 (iadd v8 1)) (ilen (List.map ep a)))) fun p1 => gbind (spec_pgStep L (Pt.x p) (Pt.y p) (Pt.x p1) (Pt.y p1)) fun r => spec_pgRound_l0 L a m (wr IntKind.i64 (iadd v3 r)) (wr IntKind.i64 (iadd v8 1)))) else (some v3)
noncomputable def spec_pgRound (L : Nat) (a : List Pt) : Option (Int) := spec_pgRound_l0 L a L 0 0
def spec_pgRound_ok (L : Nat) (C : CF) : Prop := ∀ (oa : Bool) (ca : Bool) (x_a : List AV) (a : List Pt) (_ : x_a = List.map ep a), C 38 ([.lst oa ca 2 x_a]) ([]) = Option.map (fun r : Int => ((.int .i64 r, []) : AV × List Blk)) (spec_pgRound L a)
theorem spec_pgRound_run (L : Nat) (C : CF) (h_spec_pgStep : spec_pgStep_ok L C) : ∀ (oa : Bool) (ca : Bool) (x_a : List AV) (a : List Pt) (_ : x_a = List.map ep a), run T C sh (keep 38) L Try.f38 ([.lst oa ca 2 x_a]) ([]) = Option.map (fun r : Int => ((.int .i64 r, []) : AV × List Blk)) (spec_pgRound L a) := by
 intro oa ca x_a a hx_a
 subst hx_a
 unfold spec_pgRound
 conv => lhs; whnf
 refine t_loop (fun (⟨v3, v8⟩ : Int × Int) => (AV.lst oa ca 2 (List.map ep a) :: topA 2 (AV.int IntKind.i64 v3 :: topA 2 (AV.lst oa ca 2 (List.map ep a) :: AV.int IntKind.i64 (ilen (List.map ep a)) :: AV.int IntKind.i64 v8 :: tops 18)), [])) (fun m (⟨v3, v8⟩ : Int × Int) => spec_pgRound_l0 L a m v3 v8) (fun _ => rfl) (fun m s rec hrec => ?_) L ((0, 0)) ?_ ?_
 rotate_left
 ·first | rfl | simp only [ml] <;> rfl
 ·first | rfl | simp only [ml] <;> rfl
 obtain ⟨v3, v8⟩ := s
 show _ = Option.map _ (spec_pgRound_l0 L a (m + 1) v3 v8)
 rw [spec_pgRound_l0.eq_2]
 conv => lhs; whnf
 refine t_cond ?_ ?_
 ·conv => lhs; whnf
  refine t_get (en := ep) (l := a) (by first | rfl | simp only [ml] <;> rfl) fun p => ?_
  conv => lhs; whnf
  refine t_cond ?_ ?_
  ·conv => lhs; whnf
   exact t_none
  ·conv => lhs; whnf
   refine t_get (en := ep) (l := a) (by first | rfl | simp only [ml] <;> rfl) fun p1 => ?_
   conv => lhs; whnf
   refine t_call (h_spec_pgStep (Pt.x p) (Pt.y p) (Pt.x p1) (Pt.y p1)) fun r => ?_
   conv => lhs; whnf
   exact hrec ((wr IntKind.i64 (iadd v3 r), wr IntKind.i64 (iadd v8 1))) _ _ (by first | rfl | simp only [ml] <;> rfl) (by first | rfl | simp only [ml] <;> rfl)
 ·conv => lhs; whnf
  exact t_ret (by first | rfl | simp only [ml] <;> rfl)
noncomputable def spec_PegsOn (L : Nat) (a : List Pt) : Option (Int × Bool) := gbind (spec_pgGood L a) fun r => bif !r then (some ((0, false))) else (gbind (spec_pgRound L a) fun r1 => some ((r1, true)))
def spec_PegsOn_ok (L : Nat) (C : CF) : Prop := ∀ (oa : Bool) (ca : Bool) (x_a : List AV) (a : List Pt) (_ : x_a = List.map ep a), C 11 ([.lst oa ca 2 x_a]) ([]) = Option.map (fun r : Int × Bool => ((.tup [.int .i64 (r.1), .bool (r.2)], []) : AV × List Blk)) (spec_PegsOn L a)
theorem spec_PegsOn_run (L : Nat) (C : CF) (h_spec_pgGood : spec_pgGood_ok L C) (h_spec_pgRound : spec_pgRound_ok L C) : ∀ (oa : Bool) (ca : Bool) (x_a : List AV) (a : List Pt) (_ : x_a = List.map ep a), run T C sh (keep 11) L Try.f11 ([.lst oa ca 2 x_a]) ([]) = Option.map (fun r : Int × Bool => ((.tup [.int .i64 (r.1), .bool (r.2)], []) : AV × List Blk)) (spec_PegsOn L a) := by
 intro oa ca x_a a hx_a
 subst hx_a
 unfold spec_PegsOn
 conv => lhs; whnf
 refine t_call (h_spec_pgGood _ _ _ a (by first | rfl | simp only [ml] <;> rfl)) fun r => ?_
 conv => lhs; whnf
 refine t_cond ?_ ?_
 ·conv => lhs; whnf
  exact t_ret (by first | rfl | simp only [ml] <;> rfl)
 ·conv => lhs; whnf
  refine t_call (h_spec_pgRound _ _ _ a (by first | rfl | simp only [ml] <;> rfl)) fun r1 => ?_
  conv => lhs; whnf
  exact t_ret (by first | rfl | simp only [ml] <;> rfl)
noncomputable def impl_inner (L : Nat) (a : List Pt) : Option (Int) := gbind (impl_twice L a) fun r => gbind (impl_size L r) fun r1 => gbind (impl_around L a) fun r2 => bif ieq 2 0 then (none) else (some (wr IntKind.i64 (iquo (wr IntKind.i64 (isub (wr IntKind.i64 (iadd r1 2)) r2)) 2)))
def impl_inner_ok (L : Nat) (C : CF) : Prop := ∀ (oa : Bool) (ca : Bool) (x_a : List AV) (a : List Pt) (_ : x_a = List.map ep a), C 39 ([.lst oa ca 2 x_a]) ([]) = Option.map (fun r : Int => ((.int .i64 r, []) : AV × List Blk)) (impl_inner L a)
theorem impl_inner_run (L : Nat) (C : CF) (h_impl_twice : impl_twice_ok L C) (h_impl_size : impl_size_ok L C) (h_impl_around : impl_around_ok L C) : ∀ (oa : Bool) (ca : Bool) (x_a : List AV) (a : List Pt) (_ : x_a = List.map ep a), run T C sh (keep 39) L Try.f39 ([.lst oa ca 2 x_a]) ([]) = Option.map (fun r : Int => ((.int .i64 r, []) : AV × List Blk)) (impl_inner L a) := by
 intro oa ca x_a a hx_a
 subst hx_a
 unfold impl_inner
 conv => lhs; whnf
 refine t_call (h_impl_twice _ _ _ a (by first | rfl | simp only [ml] <;> rfl)) fun r => ?_
 conv => lhs; whnf
 refine t_call (h_impl_size r) fun r1 => ?_
 conv => lhs; whnf
 refine t_call (h_impl_around _ _ _ a (by first | rfl | simp only [ml] <;> rfl)) fun r2 => ?_
 conv => lhs; whnf
 refine t_cond ?_ ?_
 ·conv => lhs; whnf
  exact t_none
 ·conv => lhs; whnf
  exact t_ret (by first | rfl | simp only [ml] <;> rfl)
noncomputable def impl_PegsInside (L : Nat) (a : List Pt) : Option (Int × Bool) := gbind (impl_IsPolygon L a) fun r => bif !r then (some ((0, false))) else (gbind (impl_inner L a) fun r1 => some ((r1, true)))
def impl_PegsInside_ok (L : Nat) (C : CF) : Prop := ∀ (oa : Bool) (ca : Bool) (x_a : List AV) (a : List Pt) (_ : x_a = List.map ep a), C 12 ([.lst oa ca 2 x_a]) ([]) = Option.map (fun r : Int × Bool => ((.tup [.int .i64 (r.1), .bool (r.2)], []) : AV × List Blk)) (impl_PegsInside L a)
theorem impl_PegsInside_run (L : Nat) (C : CF) (h_impl_IsPolygon : impl_IsPolygon_ok L C) (h_impl_inner : impl_inner_ok L C) : ∀ (oa : Bool) (ca : Bool) (x_a : List AV) (a : List Pt) (_ : x_a = List.map ep a), run T C sh (keep 12) L Try.f12 ([.lst oa ca 2 x_a]) ([]) = Option.map (fun r : Int × Bool => ((.tup [.int .i64 (r.1), .bool (r.2)], []) : AV × List Blk)) (impl_PegsInside L a) := by
 intro oa ca x_a a hx_a
 subst hx_a
 unfold impl_PegsInside
 conv => lhs; whnf
 refine t_call (h_impl_IsPolygon _ _ _ a (by first | rfl | simp only [ml] <;> rfl)) fun r => ?_
 conv => lhs; whnf
 refine t_cond ?_ ?_
 ·conv => lhs; whnf
  exact t_ret (by first | rfl | simp only [ml] <;> rfl)
 ·conv => lhs; whnf
  refine t_call (h_impl_inner _ _ _ a (by first | rfl | simp only [ml] <;> rfl)) fun r1 => ?_
  conv => lhs; whnf
  exact t_ret (by first | rfl | simp only [ml] <;> rfl)
noncomputable def spec_pgInside (L : Nat) (a : List Pt) : Option (Int) := gbind (spec_pgArea L a) fun r => gbind (spec_l1Abs L r) fun r1 => gbind (spec_pgRound L a) fun r2 => bif ieq 2 0 then (none) else (some (wr IntKind.i64 (iquo (wr IntKind.i64 (isub (wr IntKind.i64 (iadd r1 2)) r2)) 2)))
def spec_pgInside_ok (L : Nat) (C : CF) : Prop := ∀ (oa : Bool) (ca : Bool) (x_a : List AV) (a : List Pt) (_ : x_a = List.map ep a), C 40 ([.lst oa ca 2 x_a]) ([]) = Option.map (fun r : Int => ((.int .i64 r, []) : AV × List Blk)) (spec_pgInside L a)
theorem spec_pgInside_run (L : Nat) (C : CF) (h_spec_pgArea : spec_pgArea_ok L C) (h_spec_l1Abs : spec_l1Abs_ok L C) (h_spec_pgRound : spec_pgRound_ok L C) : ∀ (oa : Bool) (ca : Bool) (x_a : List AV) (a : List Pt) (_ : x_a = List.map ep a), run T C sh (keep 40) L Try.f40 ([.lst oa ca 2 x_a]) ([]) = Option.map (fun r : Int => ((.int .i64 r, []) : AV × List Blk)) (spec_pgInside L a) := by
 intro oa ca x_a a hx_a
 subst hx_a
 unfold spec_pgInside
 conv => lhs; whnf
 refine t_call (h_spec_pgArea _ _ _ a (by first | rfl | simp only [ml] <;> rfl)) fun r => ?_
 conv => lhs; whnf
 refine t_call (h_spec_l1Abs r) fun r1 => ?_
 conv => lhs; whnf
 refine t_call (h_spec_pgRound _ _ _ a (by first | rfl | simp only [ml] <;> rfl)) fun r2 => ?_
 conv => lhs; whnf
 refine t_cond ?_ ?_
 ·conv => lhs; whnf
  exact t_none
 ·conv => lhs; whnf
  exact t_ret (by first | rfl | simp only [ml] <;> rfl)
noncomputable def spec_PegsInside (L : Nat) (a : List Pt) : Option (Int × Bool) := gbind (spec_pgGood L a) fun r => bif !r then (some ((0, false))) else (gbind (spec_pgInside L a) fun r1 => some ((r1, true)))
def spec_PegsInside_ok (L : Nat) (C : CF) : Prop := ∀ (oa : Bool) (ca : Bool) (x_a : List AV) (a : List Pt) (_ : x_a = List.map ep a), C 13 ([.lst oa ca 2 x_a]) ([]) = Option.map (fun r : Int × Bool => ((.tup [.int .i64 (r.1), .bool (r.2)], []) : AV × List Blk)) (spec_PegsInside L a)
theorem spec_PegsInside_run (L : Nat) (C : CF) (h_spec_pgGood : spec_pgGood_ok L C) (h_spec_pgInside : spec_pgInside_ok L C) : ∀ (oa : Bool) (ca : Bool) (x_a : List AV) (a : List Pt) (_ : x_a = List.map ep a), run T C sh (keep 13) L Try.f13 ([.lst oa ca 2 x_a]) ([]) = Option.map (fun r : Int × Bool => ((.tup [.int .i64 (r.1), .bool (r.2)], []) : AV × List Blk)) (spec_PegsInside L a) := by
 intro oa ca x_a a hx_a
 subst hx_a
 unfold spec_PegsInside
 conv => lhs; whnf
 refine t_call (h_spec_pgGood _ _ _ a (by first | rfl | simp only [ml] <;> rfl)) fun r => ?_
 conv => lhs; whnf
 refine t_cond ?_ ?_
 ·conv => lhs; whnf
  exact t_ret (by first | rfl | simp only [ml] <;> rfl)
 ·conv => lhs; whnf
  refine t_call (h_spec_pgInside _ _ _ a (by first | rfl | simp only [ml] <;> rfl)) fun r1 => ?_
  conv => lhs; whnf
  exact t_ret (by first | rfl | simp only [ml] <;> rfl)
noncomputable def impl_isConvex_l0 (L : Nat) (a : List Pt) (r1 : Int) : Nat → Int → Option Bool
  | 0, _ => none
  | m + 1, v11 => bif ilt v11 (ilen (List.map ep a)) then (gbind (lget a v11) fun p => gbind (impl_at L a (wr IntKind.i64 (isub v11 1))) fun r2 => gbind (impl_at L a (wr IntKind.i64 (iadd v11 1))) fun r3 => gbind (impl_turn L (Prod.fst r2) (Prod.snd r2) (Pt.x p) (Pt.y p) (Prod.fst r3) (Prod.snd r3)) fun r4 => gbind (impl_sign L r4) fun r5 => bif !ieq r5 r1 then (some false) else (impl_isConvex_l0 L a r1 m (wr IntKind.i64 (iadd v11 1)))) else (some true)
noncomputable def impl_isConvex (L : Nat) (a : List Pt) : Option (Bool) := gbind (impl_twice L a) fun r => gbind (impl_sign L r) fun r1 => impl_isConvex_l0 L a r1 L 0
def impl_isConvex_ok (L : Nat) (C : CF) : Prop := ∀ (oa : Bool) (ca : Bool) (x_a : List AV) (a : List Pt) (_ : x_a = List.map ep a), C 41 ([.lst oa ca 2 x_a]) ([]) = Option.map (fun r : Bool => ((.bool r, []) : AV × List Blk)) (impl_isConvex L a)
theorem impl_isConvex_run (L : Nat) (C : CF) (h_impl_at : impl_at_ok L C) (h_impl_turn : impl_turn_ok L C) (h_impl_sign : impl_sign_ok L C) (h_impl_twice : impl_twice_ok L C) : ∀ (oa : Bool) (ca : Bool) (x_a : List AV) (a : List Pt) (_ : x_a = List.map ep a), run T C sh (keep 41) L Try.f41 ([.lst oa ca 2 x_a]) ([]) = Option.map (fun r : Bool => ((.bool r, []) : AV × List Blk)) (impl_isConvex L a) := by
 intro oa ca x_a a hx_a
 subst hx_a
 unfold impl_isConvex
 conv => lhs; whnf
 refine t_call (h_impl_twice _ _ _ a (by first | rfl | simp only [ml] <;> rfl)) fun r => ?_
 conv => lhs; whnf
 refine t_call (h_impl_sign r) fun r1 => ?_
 conv => lhs; whnf
 refine t_loop (fun (v11 : Int) => (AV.lst oa ca 2 (List.map ep a) :: topA 2 (AV.int IntKind.i64 r1 :: topA 5 (AV.lst oa ca 2 (List.map ep a) :: AV.int IntKind.i64 (ilen (List.map ep a)) :: AV.int IntKind.i64 v11 :: tops 18)), [])) (fun m (v11 : Int) => impl_isConvex_l0 L a r1 m v11) (fun _ => rfl) (fun m v11 rec hrec => ?_) L 0 ?_ ?_
 rotate_left
 ·first | rfl | simp only [ml] <;> rfl
 ·first | rfl | simp only [ml] <;> rfl
 show _ = Option.map _ (impl_isConvex_l0 L a r1 (m + 1) v11)
 rw [impl_isConvex_l0.eq_2]
 conv => lhs; whnf
 refine t_cond ?_ ?_
 ·conv => lhs; whnf
  refine t_get (en := ep) (l := a) (by first | rfl | simp only [ml] <;> rfl) fun p => ?_
  conv => lhs; whnf
  refine t_call (h_impl_at _ _ _ a (by first | rfl | simp only [ml] <;> rfl) (wr IntKind.i64 (isub v11 1))) fun r2 => ?_
  conv => lhs; whnf
  refine t_call (h_impl_at _ _ _ a (by first | rfl | simp only [ml] <;> rfl) (wr IntKind.i64 (iadd v11 1))) fun r3 => ?_
  conv => lhs; whnf
  refine t_call (h_impl_turn (Prod.fst r2) (Prod.snd r2) (Pt.x p) (Pt.y p) (Prod.fst r3) (Prod.snd r3)) fun r4 => ?_
  conv => lhs; whnf
  refine t_call (h_impl_sign r4) fun r5 => ?_
  conv => lhs; whnf
  refine t_cond ?_ ?_
  ·conv => lhs; whnf
   exact t_ret (by first | rfl | simp only [ml] <;> rfl)
  ·conv => lhs; whnf
   exact hrec (wr IntKind.i64 (iadd v11 1)) _ _ (by first | rfl | simp only [ml] <;> rfl) (by first | rfl | simp only [ml] <;> rfl)
 ·conv => lhs; whnf
  exact t_ret (by first | rfl | simp only [ml] <;> rfl)
noncomputable def impl_IsConvex (L : Nat) (a : List Pt) : Option (Bool × Bool) := gbind (impl_IsPolygon L a) fun r => bif !r then (some ((false, false))) else (gbind (impl_isConvex L a) fun r1 => some ((r1, true)))
def impl_IsConvex_ok (L : Nat) (C : CF) : Prop := ∀ (oa : Bool) (ca : Bool) (x_a : List AV) (a : List Pt) (_ : x_a = List.map ep a), C 14 ([.lst oa ca 2 x_a]) ([]) = Option.map (fun r : Bool × Bool => ((.tup [.bool (r.1), .bool (r.2)], []) : AV × List Blk)) (impl_IsConvex L a)
theorem impl_IsConvex_run (L : Nat) (C : CF) (h_impl_IsPolygon : impl_IsPolygon_ok L C) (h_impl_isConvex : impl_isConvex_ok L C) : ∀ (oa : Bool) (ca : Bool) (x_a : List AV) (a : List Pt) (_ : x_a = List.map ep a), run T C sh (keep 14) L Try.f14 ([.lst oa ca 2 x_a]) ([]) = Option.map (fun r : Bool × Bool => ((.tup [.bool (r.1), .bool (r.2)], []) : AV × List Blk)) (impl_IsConvex L a) := by
 intro oa ca x_a a hx_a
 subst hx_a
 unfold impl_IsConvex
 conv => lhs; whnf
 refine t_call (h_impl_IsPolygon _ _ _ a (by first | rfl | simp only [ml] <;> rfl)) fun r => ?_
 conv => lhs; whnf
 refine t_cond ?_ ?_
 ·conv => lhs; whnf
  exact t_ret (by first | rfl | simp only [ml] <;> rfl)
 ·conv => lhs; whnf
  refine t_call (h_impl_isConvex _ _ _ a (by first | rfl | simp only [ml] <;> rfl)) fun r1 => ?_
  conv => lhs; whnf
  exact t_ret (by first | rfl | simp only [ml] <;> rfl)
noncomputable def spec_pgConvex_l0 (L : Nat) (a : List Pt) (r1 : Int) : Nat → Int → Option Bool
  | 0, _ => none
  | m + 1, v14 => bif ilt v14 (ilen (List.map ep a)) then (gbind (lget a v14) fun p => bif ieq (ilen (List.map ep a)) 0 then (none) else (gbind (lget a (irem (wr IntKind.i64 (iadd v14 1)) (ilen (List.map ep a)))) fun p1 => bif ieq (ilen (List.map ep a)) 0 then (none) else (gbind (lget a (irem (wr IntKind.i64 (iadd v14 2)) (ilen (List.map ep a)))) fun p2 => gbind (spec_pgTurn L (Pt.x p) (Pt.y p) (Pt.x p1) (Pt.y p1) (Pt.x p2) (Pt.y p2)) fun r2 => gbind (spec_l1Sign L r2) fun r3 => bif !ieq r3 r1 then (some false) else (spec_pgConvex_l0 L a r1 m (wr IntKind.i64 (iadd v14 1)))))) else (some true)
noncomputable def spec_pgConvex (L : Nat) (a : List Pt) : Option (Bool) := gbind (spec_pgArea L a) fun r => gbind (spec_l1Sign L r) fun r1 => spec_pgConvex_l0 L a r1 L 0
def spec_pgConvex_ok (L : Nat) (C : CF) : Prop := ∀ (oa : Bool) (ca : Bool) (x_a : List AV) (a : List Pt) (_ : x_a = List.map ep a), C 42 ([.lst oa ca 2 x_a]) ([]) = Option.map (fun r : Bool => ((.bool r, []) : AV × List Blk)) (spec_pgConvex L a)
theorem spec_pgConvex_run (L : Nat) (C : CF) (h_spec_pgTurn : spec_pgTurn_ok L C) (h_spec_l1Sign : spec_l1Sign_ok L C) (h_spec_pgArea : spec_pgArea_ok L C) : ∀ (oa : Bool) (ca : Bool) (x_a : List AV) (a : List Pt) (_ : x_a = List.map ep a), run T C sh (keep 42) L Try.f42 ([.lst oa ca 2 x_a]) ([]) = Option.map (fun r : Bool => ((.bool r, []) : AV × List Blk)) (spec_pgConvex L a) := by
 intro oa ca x_a a hx_a
 subst hx_a
 unfold spec_pgConvex
 conv => lhs; whnf
 refine t_call (h_spec_pgArea _ _ _ a (by first | rfl | simp only [ml] <;> rfl)) fun r => ?_
 conv => lhs; whnf
 refine t_call (h_spec_l1Sign r) fun r1 => ?_
 conv => lhs; whnf
 refine t_loop (fun (v14 : Int) => (AV.lst oa ca 2 (List.map ep a) :: topA 2 (AV.int IntKind.i64 (ilen (List.map ep a)) :: AV.int IntKind.i64 r1 :: topA 7 (AV.lst oa ca 2 (List.map ep a) :: AV.int IntKind.i64 (ilen (List.map ep a)) :: AV.int IntKind.i64 v14 :: tops 24)), [])) (fun m (v14 : Int) => spec_pgConvex_l0 L a r1 m v14) (fun _ => rfl) (fun m v14 rec hrec => ?_) L 0 ?_ ?_
 rotate_left
 ·first | rfl | simp only [ml] <;> rfl
 ·first | rfl | simp only [ml] <;> rfl
 show _ = Option.map _ (spec_pgConvex_l0 L a r1 (m + 1) v14)
 rw [spec_pgConvex_l0.eq_2]
 conv => lhs; whnf
 refine t_cond ?_ ?_
 ·conv => lhs; whnf
  refine t_get (en := ep) (l := a) (by first | rfl | simp only [ml] <;> rfl) fun p => ?_
  conv => lhs; whnf
  refine t_cond ?_ ?_
  ·conv => lhs; whnf
   exact t_none
  ·conv => lhs; whnf
   refine t_get (en := ep) (l := a) (by first | rfl | simp only [ml] <;> rfl) fun p1 => ?_
   conv => lhs; whnf
   refine t_cond ?_ ?_
   ·conv => lhs; whnf
    exact t_none
   ·conv => lhs; whnf
    refine t_get (en := ep) (l := a) (by first | rfl | simp only [ml] <;> rfl) fun p2 => ?_
    conv => lhs; whnf
    refine t_call (h_spec_pgTurn (Pt.x p) (Pt.y p) (Pt.x p1) (Pt.y p1) (Pt.x p2) (Pt.y p2)) fun r2 => ?_
    conv => lhs; whnf
    refine t_call (h_spec_l1Sign r2) fun r3 => ?_
    conv => lhs; whnf
    refine t_cond ?_ ?_
    ·conv => lhs; whnf
     exact t_ret (by first | rfl | simp only [ml] <;> rfl)
    ·conv => lhs; whnf
     exact hrec (wr IntKind.i64 (iadd v14 1)) _ _ (by first | rfl | simp only [ml] <;> rfl) (by first | rfl | simp only [ml] <;> rfl)
 ·conv => lhs; whnf
  exact t_ret (by first | rfl | simp only [ml] <;> rfl)
noncomputable def spec_IsConvex (L : Nat) (a : List Pt) : Option (Bool × Bool) := gbind (spec_pgGood L a) fun r => bif !r then (some ((false, false))) else (gbind (spec_pgConvex L a) fun r1 => some ((r1, true)))
def spec_IsConvex_ok (L : Nat) (C : CF) : Prop := ∀ (oa : Bool) (ca : Bool) (x_a : List AV) (a : List Pt) (_ : x_a = List.map ep a), C 15 ([.lst oa ca 2 x_a]) ([]) = Option.map (fun r : Bool × Bool => ((.tup [.bool (r.1), .bool (r.2)], []) : AV × List Blk)) (spec_IsConvex L a)
theorem spec_IsConvex_run (L : Nat) (C : CF) (h_spec_pgGood : spec_pgGood_ok L C) (h_spec_pgConvex : spec_pgConvex_ok L C) : ∀ (oa : Bool) (ca : Bool) (x_a : List AV) (a : List Pt) (_ : x_a = List.map ep a), run T C sh (keep 15) L Try.f15 ([.lst oa ca 2 x_a]) ([]) = Option.map (fun r : Bool × Bool => ((.tup [.bool (r.1), .bool (r.2)], []) : AV × List Blk)) (spec_IsConvex L a) := by
 intro oa ca x_a a hx_a
 subst hx_a
 unfold spec_IsConvex
 conv => lhs; whnf
 refine t_call (h_spec_pgGood _ _ _ a (by first | rfl | simp only [ml] <;> rfl)) fun r => ?_
 conv => lhs; whnf
 refine t_cond ?_ ?_
 ·conv => lhs; whnf
  exact t_ret (by first | rfl | simp only [ml] <;> rfl)
 ·conv => lhs; whnf
  refine t_call (h_spec_pgConvex _ _ _ a (by first | rfl | simp only [ml] <;> rfl)) fun r1 => ?_
  conv => lhs; whnf
  exact t_ret (by first | rfl | simp only [ml] <;> rfl)
noncomputable def impl_told_l0 (L : Nat) (a : List Pt) (b : Int) (c : Int) : Nat → Int → (List Pt) → Option ((List Pt))
  | 0, _, _ => none
  | m + 1, v14, w0 => bif ilt v14 (ilen (List.map ep a)) then (gbind (impl_at L a (wr IntKind.i64 (iadd b (wr IntKind.i64 (imul v14 c))))) fun r => bif fits (iadd (ilen (List.map ep w0)) (ilen [AV.agg [AV.int IntKind.i64 (Prod.fst r), AV.int IntKind.i64 (Prod.snd r)]])) 16 then (impl_told_l0 L a b c m (wr IntKind.i64 (iadd v14 1)) (lcat w0 ({ x := Prod.fst r, y := Prod.snd r } :: []))) else (none)) else (some w0)
noncomputable def impl_told (L : Nat) (a : List Pt) (b : Int) (c : Int) : Option ((List Pt)) := bif ile 0 0 && ile 0 (ilen (List.map ep a)) && fits (ilen (List.map ep a)) 16 then (impl_told_l0 L a b c L 0 (lrep 0 ({ x := 0, y := 0 }))) else (none)
def impl_told_ok (L : Nat) (C : CF) : Prop := ∀ (oa : Bool) (ca : Bool) (x_a : List AV) (a : List Pt) (_ : x_a = List.map ep a) (b : Int) (c : Int), C 43 ([.lst oa ca 2 x_a, .int .i64 b, .int .i64 c]) ([]) = Option.map (fun r : (List Pt) => ((.frs 2 (List.map ep r), []) : AV × List Blk)) (impl_told L a b c)
theorem impl_told_run (L : Nat) (C : CF) (h_impl_at : impl_at_ok L C) : ∀ (oa : Bool) (ca : Bool) (x_a : List AV) (a : List Pt) (_ : x_a = List.map ep a) (b : Int) (c : Int), run T C sh (keep 43) L Try.f43 ([.lst oa ca 2 x_a, .int .i64 b, .int .i64 c]) ([]) = Option.map (fun r : (List Pt) => ((.frs 2 (List.map ep r), []) : AV × List Blk)) (impl_told L a b c) := by
 intro oa ca x_a a hx_a b c
 subst hx_a
 unfold impl_told
 conv => lhs; whnf
 refine t_cond ?_ ?_
 ·conv => lhs; whnf
  refine t_loop (fun (⟨v14, w0⟩ : Int × (List Pt)) => (AV.lst oa ca 2 (List.map ep a) :: AV.int IntKind.i64 b :: AV.int IntKind.i64 c :: topA 4 (AV.own 0 2 none false :: topA 5 (AV.int IntKind.i64 (ilen (List.map ep a)) :: AV.int IntKind.i64 v14 :: tops 14)), [Blk.rows Mode.live 2 (List.map ep w0)])) (fun m (⟨v14, w0⟩ : Int × (List Pt)) => impl_told_l0 L a b c m v14 w0) (fun _ => rfl) (fun m s rec hrec => ?_) L ((0, lrep 0 ({ x := 0, y := 0 }))) ?_ ?_
  rotate_left
  ·first | rfl | simp only [ml] <;> rfl
  ·first | rfl | simp only [ml] <;> rfl
  obtain ⟨v14, w0⟩ := s
  show _ = Option.map _ (impl_told_l0 L a b c (m + 1) v14 w0)
  rw [impl_told_l0.eq_2]
  conv => lhs; whnf
  refine t_cond ?_ ?_
  ·conv => lhs; whnf
   refine t_call (h_impl_at _ _ _ a (by first | rfl | simp only [ml] <;> rfl) (wr IntKind.i64 (iadd b (wr IntKind.i64 (imul v14 c))))) fun r => ?_
   conv => lhs; whnf
   refine t_cond ?_ ?_
   ·conv => lhs; whnf
    exact hrec ((wr IntKind.i64 (iadd v14 1), lcat w0 ({ x := Prod.fst r, y := Prod.snd r } :: []))) _ _ (by first | rfl | simp only [ml] <;> rfl) (by first | rfl | simp only [ml] <;> rfl)
   ·conv => lhs; whnf
    exact t_none
  ·conv => lhs; whnf
   exact t_ret (by first | rfl | simp only [ml] <;> rfl)
 ·conv => lhs; whnf
  exact t_none
noncomputable def impl_BackPolygon (L : Nat) (a : List Pt) : Option ((List Pt) × Bool) := gbind (impl_IsPolygon L a) fun r => bif !r then (some (([], false))) else (gbind (impl_told L a 0 (-1)) fun r1 => some ((r1, true)))
def impl_BackPolygon_ok (L : Nat) (C : CF) : Prop := ∀ (oa : Bool) (ca : Bool) (x_a : List AV) (a : List Pt) (_ : x_a = List.map ep a), C 16 ([.lst oa ca 2 x_a]) ([]) = Option.map (fun r : (List Pt) × Bool => ((.tup [.frs 2 (List.map ep (r.1)), .bool (r.2)], []) : AV × List Blk)) (impl_BackPolygon L a)
theorem impl_BackPolygon_run (L : Nat) (C : CF) (h_impl_IsPolygon : impl_IsPolygon_ok L C) (h_impl_told : impl_told_ok L C) : ∀ (oa : Bool) (ca : Bool) (x_a : List AV) (a : List Pt) (_ : x_a = List.map ep a), run T C sh (keep 16) L Try.f16 ([.lst oa ca 2 x_a]) ([]) = Option.map (fun r : (List Pt) × Bool => ((.tup [.frs 2 (List.map ep (r.1)), .bool (r.2)], []) : AV × List Blk)) (impl_BackPolygon L a) := by
 intro oa ca x_a a hx_a
 subst hx_a
 unfold impl_BackPolygon
 conv => lhs; whnf
 refine t_call (h_impl_IsPolygon _ _ _ a (by first | rfl | simp only [ml] <;> rfl)) fun r => ?_
 conv => lhs; whnf
 refine t_cond ?_ ?_
 ·conv => lhs; whnf
  exact t_ret (by first | rfl | simp only [ml] <;> rfl)
 ·conv => lhs; whnf
  refine t_call (h_impl_told _ _ _ a (by first | rfl | simp only [ml] <;> rfl) 0 (-1)) fun r1 => ?_
  conv => lhs; whnf
  exact t_ret (by first | rfl | simp only [ml] <;> rfl)
noncomputable def spec_BackPolygon (L : Nat) (a : List Pt) : Option ((List Pt) × Bool) := gbind (spec_pgGood L a) fun r => bif !r then (some (([], false))) else (gbind (spec_pgBack L a) fun r1 => some ((r1, true)))
def spec_BackPolygon_ok (L : Nat) (C : CF) : Prop := ∀ (oa : Bool) (ca : Bool) (x_a : List AV) (a : List Pt) (_ : x_a = List.map ep a), C 17 ([.lst oa ca 2 x_a]) ([]) = Option.map (fun r : (List Pt) × Bool => ((.tup [.frs 2 (List.map ep (r.1)), .bool (r.2)], []) : AV × List Blk)) (spec_BackPolygon L a)
theorem spec_BackPolygon_run (L : Nat) (C : CF) (h_spec_pgGood : spec_pgGood_ok L C) (h_spec_pgBack : spec_pgBack_ok L C) : ∀ (oa : Bool) (ca : Bool) (x_a : List AV) (a : List Pt) (_ : x_a = List.map ep a), run T C sh (keep 17) L Try.f17 ([.lst oa ca 2 x_a]) ([]) = Option.map (fun r : (List Pt) × Bool => ((.tup [.frs 2 (List.map ep (r.1)), .bool (r.2)], []) : AV × List Blk)) (spec_BackPolygon L a) := by
 intro oa ca x_a a hx_a
 subst hx_a
 unfold spec_BackPolygon
 conv => lhs; whnf
 refine t_call (h_spec_pgGood _ _ _ a (by first | rfl | simp only [ml] <;> rfl)) fun r => ?_
 conv => lhs; whnf
 refine t_cond ?_ ?_
 ·conv => lhs; whnf
  exact t_ret (by first | rfl | simp only [ml] <;> rfl)
 ·conv => lhs; whnf
  refine t_call (h_spec_pgBack _ _ _ a (by first | rfl | simp only [ml] <;> rfl)) fun r1 => ?_
  conv => lhs; whnf
  exact t_ret (by first | rfl | simp only [ml] <;> rfl)
noncomputable def cmp_isNaN_int (L : Nat) (a : Int) : Option (Bool) := some (!ieq a a)
def cmp_isNaN_int_ok (L : Nat) (C : CF) : Prop := ∀ (a : Int), C 89 ([.int .i64 a]) ([]) = Option.map (fun r : Bool => ((.bool r, []) : AV × List Blk)) (cmp_isNaN_int L a)
theorem cmp_isNaN_int_run (L : Nat) (C : CF) : ∀ (a : Int), run T C sh (keep 89) L Try.f89 ([.int .i64 a]) ([]) = Option.map (fun r : Bool => ((.bool r, []) : AV × List Blk)) (cmp_isNaN_int L a) := by
 intro a
 unfold cmp_isNaN_int
 conv => lhs; whnf
 exact t_ret (by first | rfl | simp only [ml] <;> rfl)
noncomputable def cmp_Compare_int (L : Nat) (a : Int) (b : Int) : Option (Int) := gbind (cmp_isNaN_int L a) fun r => gbind (cmp_isNaN_int L b) fun r1 => bif r then (bif r1 then (some 0) else (some (-1))) else (bif r1 then (some 1) else (bif ilt a b then (some (-1)) else (bif ilt b a then (some 1) else (some 0))))
def cmp_Compare_int_ok (L : Nat) (C : CF) : Prop := ∀ (a : Int) (b : Int), C 88 ([.int .i64 a, .int .i64 b]) ([]) = Option.map (fun r : Int => ((.int .i64 r, []) : AV × List Blk)) (cmp_Compare_int L a b)
theorem cmp_Compare_int_run (L : Nat) (C : CF) (h_cmp_isNaN_int : cmp_isNaN_int_ok L C) : ∀ (a : Int) (b : Int), run T C sh (keep 88) L Try.f88 ([.int .i64 a, .int .i64 b]) ([]) = Option.map (fun r : Int => ((.int .i64 r, []) : AV × List Blk)) (cmp_Compare_int L a b) := by
 intro a b
 unfold cmp_Compare_int
 conv => lhs; whnf
 refine t_call (h_cmp_isNaN_int a) fun r => ?_
 conv => lhs; whnf
 refine t_call (h_cmp_isNaN_int b) fun r1 => ?_
 conv => lhs; whnf
 refine t_cond ?_ ?_
 ·conv => lhs; whnf
  refine t_cond ?_ ?_
  ·conv => lhs; whnf
   exact t_ret (by first | rfl | simp only [ml] <;> rfl)
  ·conv => lhs; whnf
   exact t_ret (by first | rfl | simp only [ml] <;> rfl)
 ·conv => lhs; whnf
  refine t_cond ?_ ?_
  ·conv => lhs; whnf
   exact t_ret (by first | rfl | simp only [ml] <;> rfl)
  ·conv => lhs; whnf
   refine t_cond ?_ ?_
   ·conv => lhs; whnf
    exact t_ret (by first | rfl | simp only [ml] <;> rfl)
   ·conv => lhs; whnf
    refine t_cond ?_ ?_
    ·conv => lhs; whnf
     exact t_ret (by first | rfl | simp only [ml] <;> rfl)
    ·conv => lhs; whnf
     exact t_ret (by first | rfl | simp only [ml] <;> rfl)
noncomputable def cmp_Or_int_l0 (L : Nat) (a : List Int) : Nat → Int → Option Int
  | 0, _ => none
  | m + 1, v8 => bif ilt v8 (ilen (List.map eI a)) then (gbind (lget a v8) fun p => bif !ieq p 0 then (some p) else (cmp_Or_int_l0 L a m (wr IntKind.i64 (iadd v8 1)))) else (some 0)
noncomputable def cmp_Or_int (L : Nat) (a : List Int) : Option (Int) := cmp_Or_int_l0 L a L 0
def cmp_Or_int_ok (L : Nat) (C : CF) : Prop := ∀ (oa : Bool) (ca : Bool) (x_a : List AV) (a : List Int) (_ : x_a = List.map eI a), C 87 ([.lst oa ca 1 x_a]) ([]) = Option.map (fun r : Int => ((.int .i64 r, []) : AV × List Blk)) (cmp_Or_int L a)
theorem cmp_Or_int_run (L : Nat) (C : CF) : ∀ (oa : Bool) (ca : Bool) (x_a : List AV) (a : List Int) (_ : x_a = List.map eI a), run T C sh (keep 87) L Try.f87 ([.lst oa ca 1 x_a]) ([]) = Option.map (fun r : Int => ((.int .i64 r, []) : AV × List Blk)) (cmp_Or_int L a) := by
 intro oa ca x_a a hx_a
 subst hx_a
 unfold cmp_Or_int
 conv => lhs; whnf
 refine t_loop (fun (v8 : Int) => (topA 3 (AV.int IntKind.i64 0 :: topA 2 (AV.lst oa ca 1 (List.map eI a) :: AV.int IntKind.i64 (ilen (List.map eI a)) :: AV.int IntKind.i64 v8 :: tops 9)), [])) (fun m (v8 : Int) => cmp_Or_int_l0 L a m v8) (fun _ => rfl) (fun m v8 rec hrec => ?_) L 0 ?_ ?_
 rotate_left
 ·first | rfl | simp only [ml] <;> rfl
 ·first | rfl | simp only [ml] <;> rfl
 show _ = Option.map _ (cmp_Or_int_l0 L a (m + 1) v8)
 rw [cmp_Or_int_l0.eq_2]
 conv => lhs; whnf
 refine t_cond ?_ ?_
 ·conv => lhs; whnf
  refine t_get (en := eI) (l := a) (by first | rfl | simp only [ml] <;> rfl) fun p => ?_
  conv => lhs; whnf
  refine t_cond ?_ ?_
  ·conv => lhs; whnf
   exact t_ret (by first | rfl | simp only [ml] <;> rfl)
  ·conv => lhs; whnf
   exact hrec (wr IntKind.i64 (iadd v8 1)) _ _ (by first | rfl | simp only [ml] <;> rfl) (by first | rfl | simp only [ml] <;> rfl)
 ·conv => lhs; whnf
  exact t_ret (by first | rfl | simp only [ml] <;> rfl)
noncomputable def impl_comparePegs (L : Nat) (a_0 : Int) (a_1 : Int) (b_0 : Int) (b_1 : Int) : Option (Int) := gbind (cmp_Compare_int L a_0 b_0) fun r => gbind (cmp_Compare_int L a_1 b_1) fun r1 => gbind (cmp_Or_int L (r :: (r1 :: []))) fun r2 => some r2
def impl_comparePegs_ok (L : Nat) (C : CF) : Prop := ∀ (a_0 : Int) (a_1 : Int) (b_0 : Int) (b_1 : Int), C 85 ([.agg [.int .i64 a_0, .int .i64 a_1], .agg [.int .i64 b_0, .int .i64 b_1]]) ([]) = Option.map (fun r : Int => ((.int .i64 r, []) : AV × List Blk)) (impl_comparePegs L a_0 a_1 b_0 b_1)
theorem impl_comparePegs_run (L : Nat) (C : CF) (h_cmp_Compare_int : cmp_Compare_int_ok L C) (h_cmp_Or_int : cmp_Or_int_ok L C) : ∀ (a_0 : Int) (a_1 : Int) (b_0 : Int) (b_1 : Int), run T C sh (keep 85) L Try.f85 ([.agg [.int .i64 a_0, .int .i64 a_1], .agg [.int .i64 b_0, .int .i64 b_1]]) ([]) = Option.map (fun r : Int => ((.int .i64 r, []) : AV × List Blk)) (impl_comparePegs L a_0 a_1 b_0 b_1) := by
 intro a_0 a_1 b_0 b_1
 unfold impl_comparePegs
 conv => lhs; whnf
 refine t_call (h_cmp_Compare_int a_0 b_0) fun r => ?_
 conv => lhs; whnf
 refine t_call (h_cmp_Compare_int a_1 b_1) fun r1 => ?_
 conv => lhs; whnf
 refine t_call (h_cmp_Or_int _ _ _ (r :: (r1 :: [])) (by first | rfl | simp only [ml] <;> rfl)) fun r2 => ?_
 conv => lhs; whnf
 exact t_ret (by first | rfl | simp only [ml] <;> rfl)
noncomputable def impl_first_l0 (L : Nat) (a : List Pt) : Nat → Int → Int → Option Int
  | 0, _, _ => none
  | m + 1, v3, v8 => bif ilt v8 (ilen (List.map ep a)) then (gbind (lget a v8) fun p => gbind (lget a v3) fun p1 => gbind (impl_comparePegs L (Pt.x p) (Pt.y p) (Pt.x p1) (Pt.y p1)) fun r => bif ilt r 0 then (impl_first_l0 L a m v8 (wr IntKind.i64 (iadd v8 1))) else (impl_first_l0 L a m v3 (wr IntKind.i64 (iadd v8 1)))) else (some v3)
noncomputable def impl_first (L : Nat) (a : List Pt) : Option (Int) := impl_first_l0 L a L 0 0
def impl_first_ok (L : Nat) (C : CF) : Prop := ∀ (oa : Bool) (ca : Bool) (x_a : List AV) (a : List Pt) (_ : x_a = List.map ep a), C 72 ([.lst oa ca 2 x_a]) ([]) = Option.map (fun r : Int => ((.int .i64 r, []) : AV × List Blk)) (impl_first L a)
theorem impl_first_run (L : Nat) (C : CF) (h_impl_comparePegs : impl_comparePegs_ok L C) : ∀ (oa : Bool) (ca : Bool) (x_a : List AV) (a : List Pt) (_ : x_a = List.map ep a), run T C sh (keep 72) L Try.f72 ([.lst oa ca 2 x_a]) ([]) = Option.map (fun r : Int => ((.int .i64 r, []) : AV × List Blk)) (impl_first L a) := by
 intro oa ca x_a a hx_a
 subst hx_a
 unfold impl_first
 conv => lhs; whnf
 refine t_loop (fun (⟨v3, v8⟩ : Int × Int) => (AV.lst oa ca 2 (List.map ep a) :: topA 2 (AV.int IntKind.i64 v3 :: topA 2 (AV.lst oa ca 2 (List.map ep a) :: AV.int IntKind.i64 (ilen (List.map ep a)) :: AV.int IntKind.i64 v8 :: tops 14)), [])) (fun m (⟨v3, v8⟩ : Int × Int) => impl_first_l0 L a m v3 v8) (fun _ => rfl) (fun m s rec hrec => ?_) L ((0, 0)) ?_ ?_
 rotate_left
 ·first | rfl | simp only [ml] <;> rfl
 ·first | rfl | simp only [ml] <;> rfl
 obtain ⟨v3, v8⟩ := s
 show _ = Option.map _ (impl_first_l0 L a (m + 1) v3 v8)
 rw [impl_first_l0.eq_2]
 conv => lhs; whnf
 refine t_cond ?_ ?_
 ·conv => lhs; whnf
  refine t_get (en := ep) (l := a) (by first | rfl | simp only [ml] <;> rfl) fun p => ?_
  conv => lhs; whnf
  refine t_get (en := ep) (l := a) (by first | rfl | simp only [ml] <;> rfl) fun p1 => ?_
  conv => lhs; whnf
  refine t_call (h_impl_comparePegs (Pt.x p) (Pt.y p) (Pt.x p1) (Pt.y p1)) fun r => ?_
  conv => lhs; whnf
  refine t_cond ?_ ?_
  ·conv => lhs; whnf
   exact hrec ((v8, wr IntKind.i64 (iadd v8 1))) _ _ (by first | rfl | simp only [ml] <;> rfl) (by first | rfl | simp only [ml] <;> rfl)
  ·conv => lhs; whnf
   exact hrec ((v3, wr IntKind.i64 (iadd v8 1))) _ _ (by first | rfl | simp only [ml] <;> rfl) (by first | rfl | simp only [ml] <;> rfl)
 ·conv => lhs; whnf
  exact t_ret (by first | rfl | simp only [ml] <;> rfl)
noncomputable def impl_tellFirst (L : Nat) (a : List Pt) : Option ((List Pt)) := gbind (impl_first L a) fun r => gbind (impl_twice L a) fun r1 => gbind (impl_sign L r1) fun r2 => gbind (impl_told L a r r2) fun r3 => some r3
def impl_tellFirst_ok (L : Nat) (C : CF) : Prop := ∀ (oa : Bool) (ca : Bool) (x_a : List AV) (a : List Pt) (_ : x_a = List.map ep a), C 45 ([.lst oa ca 2 x_a]) ([]) = Option.map (fun r : (List Pt) => ((.frs 2 (List.map ep r), []) : AV × List Blk)) (impl_tellFirst L a)
theorem impl_tellFirst_run (L : Nat) (C : CF) (h_impl_sign : impl_sign_ok L C) (h_impl_twice : impl_twice_ok L C) (h_impl_told : impl_told_ok L C) (h_impl_first : impl_first_ok L C) : ∀ (oa : Bool) (ca : Bool) (x_a : List AV) (a : List Pt) (_ : x_a = List.map ep a), run T C sh (keep 45) L Try.f45 ([.lst oa ca 2 x_a]) ([]) = Option.map (fun r : (List Pt) => ((.frs 2 (List.map ep r), []) : AV × List Blk)) (impl_tellFirst L a) := by
 intro oa ca x_a a hx_a
 subst hx_a
 unfold impl_tellFirst
 conv => lhs; whnf
 refine t_call (h_impl_first _ _ _ a (by first | rfl | simp only [ml] <;> rfl)) fun r => ?_
 conv => lhs; whnf
 refine t_call (h_impl_twice _ _ _ a (by first | rfl | simp only [ml] <;> rfl)) fun r1 => ?_
 conv => lhs; whnf
 refine t_call (h_impl_sign r1) fun r2 => ?_
 conv => lhs; whnf
 refine t_call (h_impl_told _ _ _ a (by first | rfl | simp only [ml] <;> rfl) r r2) fun r3 => ?_
 conv => lhs; whnf
 exact t_ret (by first | rfl | simp only [ml] <;> rfl)
noncomputable def impl_TellFirst (L : Nat) (a : List Pt) : Option ((List Pt) × Bool) := gbind (impl_IsPolygon L a) fun r => bif !r then (some (([], false))) else (gbind (impl_tellFirst L a) fun r1 => some ((r1, true)))
def impl_TellFirst_ok (L : Nat) (C : CF) : Prop := ∀ (oa : Bool) (ca : Bool) (x_a : List AV) (a : List Pt) (_ : x_a = List.map ep a), C 18 ([.lst oa ca 2 x_a]) ([]) = Option.map (fun r : (List Pt) × Bool => ((.tup [.frs 2 (List.map ep (r.1)), .bool (r.2)], []) : AV × List Blk)) (impl_TellFirst L a)
theorem impl_TellFirst_run (L : Nat) (C : CF) (h_impl_IsPolygon : impl_IsPolygon_ok L C) (h_impl_tellFirst : impl_tellFirst_ok L C) : ∀ (oa : Bool) (ca : Bool) (x_a : List AV) (a : List Pt) (_ : x_a = List.map ep a), run T C sh (keep 18) L Try.f18 ([.lst oa ca 2 x_a]) ([]) = Option.map (fun r : (List Pt) × Bool => ((.tup [.frs 2 (List.map ep (r.1)), .bool (r.2)], []) : AV × List Blk)) (impl_TellFirst L a) := by
 intro oa ca x_a a hx_a
 subst hx_a
 unfold impl_TellFirst
 conv => lhs; whnf
 refine t_call (h_impl_IsPolygon _ _ _ a (by first | rfl | simp only [ml] <;> rfl)) fun r => ?_
 conv => lhs; whnf
 refine t_cond ?_ ?_
 ·conv => lhs; whnf
  exact t_ret (by first | rfl | simp only [ml] <;> rfl)
 ·conv => lhs; whnf
  refine t_call (h_impl_tellFirst _ _ _ a (by first | rfl | simp only [ml] <;> rfl)) fun r1 => ?_
  conv => lhs; whnf
  exact t_ret (by first | rfl | simp only [ml] <;> rfl)
noncomputable def spec_pgLess (L : Nat) (a_0 : Int) (a_1 : Int) (b_0 : Int) (b_1 : Int) : Option (Bool) := bif ilt a_0 b_0 then (some true) else (bif ieq a_0 b_0 then (some (ilt a_1 b_1)) else (some false))
def spec_pgLess_ok (L : Nat) (C : CF) : Prop := ∀ (a_0 : Int) (a_1 : Int) (b_0 : Int) (b_1 : Int), C 73 ([.agg [.int .i64 a_0, .int .i64 a_1], .agg [.int .i64 b_0, .int .i64 b_1]]) ([]) = Option.map (fun r : Bool => ((.bool r, []) : AV × List Blk)) (spec_pgLess L a_0 a_1 b_0 b_1)
theorem spec_pgLess_run (L : Nat) (C : CF) : ∀ (a_0 : Int) (a_1 : Int) (b_0 : Int) (b_1 : Int), run T C sh (keep 73) L Try.f73 ([.agg [.int .i64 a_0, .int .i64 a_1], .agg [.int .i64 b_0, .int .i64 b_1]]) ([]) = Option.map (fun r : Bool => ((.bool r, []) : AV × List Blk)) (spec_pgLess L a_0 a_1 b_0 b_1) := by
 intro a_0 a_1 b_0 b_1
 unfold spec_pgLess
 conv => lhs; whnf
 refine t_cond ?_ ?_
 ·conv => lhs; whnf
  exact t_ret (by first | rfl | simp only [ml] <;> rfl)
 ·conv => lhs; whnf
  refine t_cond ?_ ?_
  ·conv => lhs; whnf
   exact t_ret (by first | rfl | simp only [ml] <;> rfl)
  ·conv => lhs; whnf
   exact t_ret (by first | rfl | simp only [ml] <;> rfl)
noncomputable def spec_pgFirst_l0 (L : Nat) (r1 : List Pt) : Nat → Int → Int → Option ((List Pt))
  | 0, _, _ => none
  | m + 1, v3, v13 => bif ilt v13 (ilen (List.map ep r1)) then (bif ile 0 v13 && ilt v13 (ilen (List.map ep r1)) then (gbind (lget r1 v13) fun p => bif ile 0 v3 && ilt v3 (ilen (List.map ep r1)) then (gbind (lget r1 v3) fun p1 => gbind (spec_pgLess L (Pt.x p) (Pt.y p) (Pt.x p1) (Pt.y p1)) fun r2 => bif r2 then (spec_pgFirst_l0 L r1 m v13 (wr IntKind.i64 (iadd v13 1))) else (spec_pgFirst_l0 L r1 m v3 (wr IntKind.i64 (iadd v13 1)))) else (none)) else (none)) else (bif ile 0 v3 && ile v3 (ilen (List.map ep r1)) then (bif ile 0 v3 && ile v3 (ilen (List.map ep r1)) then (bif fits (iadd (ilen ([] : List AV)) (ilen (lsub (List.map ep r1) v3 (iadd v3 (isub (ilen (List.map ep r1)) v3))))) 16 then (bif fits (iadd (ilen (lcat [] (lsub (List.map ep r1) v3 (iadd v3 (isub (ilen (List.map ep r1)) v3))))) (ilen (lsub (List.map ep r1) 0 (iadd 0 v3)))) 16 then (some (lcat (lcat [] (lsub r1 v3 (iadd v3 (isub (ilen (List.map ep r1)) v3)))) (lsub r1 0 (iadd 0 v3)))) else (none)) else (none)) else (none)) else (none))
noncomputable def spec_pgFirst_l1 (L : Nat) (a : List Pt) : Nat → Int → Int → Option ((List Pt))
  | 0, _, _ => none
  | m1 + 1, v31, v131 => bif ilt v131 (ilen (List.map ep a)) then (gbind (lget a v131) fun p2 => gbind (lget a v31) fun p3 => gbind (spec_pgLess L (Pt.x p2) (Pt.y p2) (Pt.x p3) (Pt.y p3)) fun r3 => bif r3 then (spec_pgFirst_l1 L a m1 v131 (wr IntKind.i64 (iadd v131 1))) else (spec_pgFirst_l1 L a m1 v31 (wr IntKind.i64 (iadd v131 1)))) else (bif ile 0 v31 && ile v31 (ilen (List.map ep a)) then (bif ile 0 v31 && ile v31 (ilen (List.map ep a)) then (bif fits (iadd (ilen ([] : List AV)) (ilen (lsub (List.map ep a) v31 (ilen (List.map ep a))))) 16 then (bif fits (iadd (ilen (lcat [] (lsub (List.map ep a) v31 (ilen (List.map ep a))))) (ilen (lsub (List.map ep a) 0 v31))) 16 then (some (lcat (lcat [] (lsub a v31 (ilen (List.map ep a)))) (lsub a 0 v31))) else (none)) else (none)) else (none)) else (none))
noncomputable def spec_pgFirst (L : Nat) (a : List Pt) : Option ((List Pt)) := gbind (spec_pgArea L a) fun r => bif ilt r 0 then (gbind (spec_pgBack L a) fun r1 => spec_pgFirst_l0 L r1 L 0 0) else (spec_pgFirst_l1 L a L 0 0)
def spec_pgFirst_ok (L : Nat) (C : CF) : Prop := ∀ (oa : Bool) (ca : Bool) (x_a : List AV) (a : List Pt) (_ : x_a = List.map ep a), C 46 ([.lst oa ca 2 x_a]) ([]) = Option.map (fun r : (List Pt) => ((.frs 2 (List.map ep r), []) : AV × List Blk)) (spec_pgFirst L a)
theorem spec_pgFirst_run (L : Nat) (C : CF) (h_spec_pgBack : spec_pgBack_ok L C) (h_spec_pgArea : spec_pgArea_ok L C) (h_spec_pgLess : spec_pgLess_ok L C) : ∀ (oa : Bool) (ca : Bool) (x_a : List AV) (a : List Pt) (_ : x_a = List.map ep a), run T C sh (keep 46) L Try.f46 ([.lst oa ca 2 x_a]) ([]) = Option.map (fun r : (List Pt) => ((.frs 2 (List.map ep r), []) : AV × List Blk)) (spec_pgFirst L a) := by
 intro oa ca x_a a hx_a
 subst hx_a
 unfold spec_pgFirst
 conv => lhs; whnf
 refine t_call (h_spec_pgArea _ _ _ a (by first | rfl | simp only [ml] <;> rfl)) fun r => ?_
 conv => lhs; whnf
 refine t_cond ?_ ?_
 ·conv => lhs; whnf
  refine t_call (h_spec_pgBack _ _ _ a (by first | rfl | simp only [ml] <;> rfl)) fun r1 => ?_
  conv => lhs; whnf
  refine t_loop (fun (⟨v3, v13⟩ : Int × Int) => (AV.own 0 2 none false :: topA 2 (AV.int IntKind.i64 v3 :: topA 7 (AV.own 0 2 none false :: AV.int IntKind.i64 (ilen (List.map ep r1)) :: AV.int IntKind.i64 v13 :: tops 21)), [Blk.rows Mode.live 2 (List.map ep r1)])) (fun m (⟨v3, v13⟩ : Int × Int) => spec_pgFirst_l0 L r1 m v3 v13) (fun _ => rfl) (fun m s rec hrec => ?_) L ((0, 0)) ?_ ?_
  rotate_left
  ·first | rfl | simp only [ml] <;> rfl
  ·first | rfl | simp only [ml] <;> rfl
  obtain ⟨v3, v13⟩ := s
  show _ = Option.map _ (spec_pgFirst_l0 L r1 (m + 1) v3 v13)
  rw [spec_pgFirst_l0.eq_2]
  conv => lhs; whnf
  refine t_cond ?_ ?_
  ·conv => lhs; whnf
   refine t_cond ?_ ?_
   ·conv => lhs; whnf
    refine t_get (en := ep) (l := r1) (by first | rfl | simp only [ml] <;> rfl) fun p => ?_
    conv => lhs; whnf
    refine t_cond ?_ ?_
    ·conv => lhs; whnf
     refine t_get (en := ep) (l := r1) (by first | rfl | simp only [ml] <;> rfl) fun p1 => ?_
     conv => lhs; whnf
     refine t_call (h_spec_pgLess (Pt.x p) (Pt.y p) (Pt.x p1) (Pt.y p1)) fun r2 => ?_
     conv => lhs; whnf
     refine t_cond ?_ ?_
     ·conv => lhs; whnf
      exact hrec ((v13, wr IntKind.i64 (iadd v13 1))) _ _ (by first | rfl | simp only [ml] <;> rfl) (by first | rfl | simp only [ml] <;> rfl)
     ·conv => lhs; whnf
      exact hrec ((v3, wr IntKind.i64 (iadd v13 1))) _ _ (by first | rfl | simp only [ml] <;> rfl) (by first | rfl | simp only [ml] <;> rfl)
    ·conv => lhs; whnf
     exact t_none
   ·conv => lhs; whnf
    exact t_none
  ·conv => lhs; whnf
   refine t_cond ?_ ?_
   ·conv => lhs; whnf
    refine t_cond ?_ ?_
    ·conv => lhs; whnf
     refine t_cond ?_ ?_
     ·conv => lhs; whnf
      refine t_cond ?_ ?_
      ·conv => lhs; whnf
       exact t_ret (by first | rfl | simp only [ml] <;> rfl)
      ·conv => lhs; whnf
       exact t_none
     ·conv => lhs; whnf
      exact t_none
    ·conv => lhs; whnf
     exact t_none
   ·conv => lhs; whnf
    exact t_none
 ·conv => lhs; whnf
  refine t_loop (fun (⟨v31, v131⟩ : Int × Int) => (AV.lst oa ca 2 (List.map ep a) :: topA 2 (AV.int IntKind.i64 v31 :: topA 7 (AV.lst oa ca 2 (List.map ep a) :: AV.int IntKind.i64 (ilen (List.map ep a)) :: AV.int IntKind.i64 v131 :: tops 21)), [])) (fun m1 (⟨v31, v131⟩ : Int × Int) => spec_pgFirst_l1 L a m1 v31 v131) (fun _ => rfl) (fun m1 s1 rec1 hrec1 => ?_) L ((0, 0)) ?_ ?_
  rotate_left
  ·first | rfl | simp only [ml] <;> rfl
  ·first | rfl | simp only [ml] <;> rfl
  obtain ⟨v31, v131⟩ := s1
  show _ = Option.map _ (spec_pgFirst_l1 L a (m1 + 1) v31 v131)
  rw [spec_pgFirst_l1.eq_2]
  conv => lhs; whnf
  refine t_cond ?_ ?_
  ·conv => lhs; whnf
   refine t_get (en := ep) (l := a) (by first | rfl | simp only [ml] <;> rfl) fun p2 => ?_
   conv => lhs; whnf
   refine t_get (en := ep) (l := a) (by first | rfl | simp only [ml] <;> rfl) fun p3 => ?_
   conv => lhs; whnf
   refine t_call (h_spec_pgLess (Pt.x p2) (Pt.y p2) (Pt.x p3) (Pt.y p3)) fun r3 => ?_
   conv => lhs; whnf
   refine t_cond ?_ ?_
   ·conv => lhs; whnf
    exact hrec1 ((v131, wr IntKind.i64 (iadd v131 1))) _ _ (by first | rfl | simp only [ml] <;> rfl) (by first | rfl | simp only [ml] <;> rfl)
   ·conv => lhs; whnf
    exact hrec1 ((v31, wr IntKind.i64 (iadd v131 1))) _ _ (by first | rfl | simp only [ml] <;> rfl) (by first | rfl | simp only [ml] <;> rfl)
  ·conv => lhs; whnf
   refine t_cond ?_ ?_
   ·conv => lhs; whnf
    refine t_cond ?_ ?_
    ·conv => lhs; whnf
     refine t_cond ?_ ?_
     ·conv => lhs; whnf
      refine t_cond ?_ ?_
      ·conv => lhs; whnf
       exact t_ret (by first | rfl | simp only [ml] <;> rfl)
      ·conv => lhs; whnf
       exact t_none
     ·conv => lhs; whnf
      exact t_none
    ·conv => lhs; whnf
     exact t_none
   ·conv => lhs; whnf
    exact t_none
noncomputable def spec_TellFirst (L : Nat) (a : List Pt) : Option ((List Pt) × Bool) := gbind (spec_pgGood L a) fun r => bif !r then (some (([], false))) else (gbind (spec_pgFirst L a) fun r1 => some ((r1, true)))
def spec_TellFirst_ok (L : Nat) (C : CF) : Prop := ∀ (oa : Bool) (ca : Bool) (x_a : List AV) (a : List Pt) (_ : x_a = List.map ep a), C 19 ([.lst oa ca 2 x_a]) ([]) = Option.map (fun r : (List Pt) × Bool => ((.tup [.frs 2 (List.map ep (r.1)), .bool (r.2)], []) : AV × List Blk)) (spec_TellFirst L a)
theorem spec_TellFirst_run (L : Nat) (C : CF) (h_spec_pgGood : spec_pgGood_ok L C) (h_spec_pgFirst : spec_pgFirst_ok L C) : ∀ (oa : Bool) (ca : Bool) (x_a : List AV) (a : List Pt) (_ : x_a = List.map ep a), run T C sh (keep 19) L Try.f19 ([.lst oa ca 2 x_a]) ([]) = Option.map (fun r : (List Pt) × Bool => ((.tup [.frs 2 (List.map ep (r.1)), .bool (r.2)], []) : AV × List Blk)) (spec_TellFirst L a) := by
 intro oa ca x_a a hx_a
 subst hx_a
 unfold spec_TellFirst
 conv => lhs; whnf
 refine t_call (h_spec_pgGood _ _ _ a (by first | rfl | simp only [ml] <;> rfl)) fun r => ?_
 conv => lhs; whnf
 refine t_cond ?_ ?_
 ·conv => lhs; whnf
  exact t_ret (by first | rfl | simp only [ml] <;> rfl)
 ·conv => lhs; whnf
  refine t_call (h_spec_pgFirst _ _ _ a (by first | rfl | simp only [ml] <;> rfl)) fun r1 => ?_
  conv => lhs; whnf
  exact t_ret (by first | rfl | simp only [ml] <;> rfl)
noncomputable def laws_zPegs_l0 (L : Nat) (a : List Pt) (b : List Pt) : Nat → Int → Option Bool
  | 0, _ => none
  | m + 1, v13 => bif ilt v13 (ilen (List.map ep a)) then (gbind (lget a v13) fun p => gbind (lget b v13) fun p1 => bif !(ieq (Pt.x p) (Pt.x p1) && ieq (Pt.y p) (Pt.y p1)) then (some false) else (laws_zPegs_l0 L a b m (wr IntKind.i64 (iadd v13 1)))) else (some true)
noncomputable def laws_zPegs (L : Nat) (a : List Pt) (b : List Pt) : Option (Bool) := bif !ieq (ilen (List.map ep a)) (ilen (List.map ep b)) then (some false) else (laws_zPegs_l0 L a b L 0)
def laws_zPegs_ok (L : Nat) (C : CF) : Prop := ∀ (oa : Bool) (ca : Bool) (x_a : List AV) (a : List Pt) (_ : x_a = List.map ep a) (ob : Bool) (cb : Bool) (x_b : List AV) (b : List Pt) (_ : x_b = List.map ep b), C 20 ([.lst oa ca 2 x_a, .lst ob cb 2 x_b]) ([]) = Option.map (fun r : Bool => ((.bool r, []) : AV × List Blk)) (laws_zPegs L a b)
theorem laws_zPegs_run (L : Nat) (C : CF) : ∀ (oa : Bool) (ca : Bool) (x_a : List AV) (a : List Pt) (_ : x_a = List.map ep a) (ob : Bool) (cb : Bool) (x_b : List AV) (b : List Pt) (_ : x_b = List.map ep b), run T C sh (keep 20) L Try.f20 ([.lst oa ca 2 x_a, .lst ob cb 2 x_b]) ([]) = Option.map (fun r : Bool => ((.bool r, []) : AV × List Blk)) (laws_zPegs L a b) := by
 intro oa ca x_a a hx_a ob cb x_b b hx_b
 subst hx_a
 subst hx_b
 unfold laws_zPegs
 conv => lhs; whnf
 refine t_cond ?_ ?_
 ·conv => lhs; whnf
  exact t_ret (by first | rfl | simp only [ml] <;> rfl)
 ·conv => lhs; whnf
  refine t_loop (fun (v13 : Int) => (AV.lst oa ca 2 (List.map ep a) :: AV.lst ob cb 2 (List.map ep b) :: topA 10 (AV.int IntKind.i64 (ilen (List.map ep a)) :: AV.int IntKind.i64 v13 :: tops 12), [])) (fun m (v13 : Int) => laws_zPegs_l0 L a b m v13) (fun _ => rfl) (fun m v13 rec hrec => ?_) L 0 ?_ ?_
  rotate_left
  ·first | rfl | simp only [ml] <;> rfl
  ·first | rfl | simp only [ml] <;> rfl
  show _ = Option.map _ (laws_zPegs_l0 L a b (m + 1) v13)
  rw [laws_zPegs_l0.eq_2]
  conv => lhs; whnf
  refine t_cond ?_ ?_
  ·conv => lhs; whnf
   refine t_get (en := ep) (l := a) (by first | rfl | simp only [ml] <;> rfl) fun p => ?_
   conv => lhs; whnf
   refine t_get (en := ep) (l := b) (by first | rfl | simp only [ml] <;> rfl) fun p1 => ?_
   conv => lhs; whnf
   refine t_cond ?_ ?_
   ·conv => lhs; whnf
    exact t_ret (by first | rfl | simp only [ml] <;> rfl)
   ·conv => lhs; whnf
    exact hrec (wr IntKind.i64 (iadd v13 1)) _ _ (by first | rfl | simp only [ml] <;> rfl) (by first | rfl | simp only [ml] <;> rfl)
  ·conv => lhs; whnf
   exact t_ret (by first | rfl | simp only [ml] <;> rfl)
noncomputable def spec_IsPolygon (L : Nat) (a : List Pt) : Option (Bool) := gbind (spec_pgGood L a) fun r => some r
def spec_IsPolygon_ok (L : Nat) (C : CF) : Prop := ∀ (oa : Bool) (ca : Bool) (x_a : List AV) (a : List Pt) (_ : x_a = List.map ep a), C 22 ([.lst oa ca 2 x_a]) ([]) = Option.map (fun r : Bool => ((.bool r, []) : AV × List Blk)) (spec_IsPolygon L a)
theorem spec_IsPolygon_run (L : Nat) (C : CF) (h_spec_pgGood : spec_pgGood_ok L C) : ∀ (oa : Bool) (ca : Bool) (x_a : List AV) (a : List Pt) (_ : x_a = List.map ep a), run T C sh (keep 22) L Try.f22 ([.lst oa ca 2 x_a]) ([]) = Option.map (fun r : Bool => ((.bool r, []) : AV × List Blk)) (spec_IsPolygon L a) := by
 intro oa ca x_a a hx_a
 subst hx_a
 unfold spec_IsPolygon
 conv => lhs; whnf
 refine t_call (h_spec_pgGood _ _ _ a (by first | rfl | simp only [ml] <;> rfl)) fun r => ?_
 conv => lhs; whnf
 exact t_ret (by first | rfl | simp only [ml] <;> rfl)
noncomputable def laws_zAbs (L : Nat) (a : Int) : Option (Int) := bif ilt a 0 then (some (wr IntKind.i64 (isub 0 a))) else (some a)
def laws_zAbs_ok (L : Nat) (C : CF) : Prop := ∀ (a : Int), C 23 ([.int .i64 a]) ([]) = Option.map (fun r : Int => ((.int .i64 r, []) : AV × List Blk)) (laws_zAbs L a)
theorem laws_zAbs_run (L : Nat) (C : CF) : ∀ (a : Int), run T C sh (keep 23) L Try.f23 ([.int .i64 a]) ([]) = Option.map (fun r : Int => ((.int .i64 r, []) : AV × List Blk)) (laws_zAbs L a) := by
 intro a
 unfold laws_zAbs
 conv => lhs; whnf
 refine t_cond ?_ ?_
 ·conv => lhs; whnf
  exact t_ret (by first | rfl | simp only [ml] <;> rfl)
 ·conv => lhs; whnf
  exact t_ret (by first | rfl | simp only [ml] <;> rfl)
noncomputable def impl_WhereIs (L : Nat) (a : List Pt) (b_0 : Int) (b_1 : Int) : Option (Int × Bool) := gbind (impl_IsPolygon L a) fun r => bif !r then (some ((0, false))) else (gbind (impl_IsPeg L b_0 b_1) fun r1 => bif !r1 then (some ((0, false))) else (gbind (impl_where L a b_0 b_1) fun r2 => some ((r2, true))))
def impl_WhereIs_ok (L : Nat) (C : CF) : Prop := ∀ (oa : Bool) (ca : Bool) (x_a : List AV) (a : List Pt) (_ : x_a = List.map ep a) (b_0 : Int) (b_1 : Int), C 24 ([.lst oa ca 2 x_a, .agg [.int .i64 b_0, .int .i64 b_1]]) ([]) = Option.map (fun r : Int × Bool => ((.tup [.int .i64 (r.1), .bool (r.2)], []) : AV × List Blk)) (impl_WhereIs L a b_0 b_1)
theorem impl_WhereIs_run (L : Nat) (C : CF) (h_impl_IsPeg : impl_IsPeg_ok L C) (h_impl_IsPolygon : impl_IsPolygon_ok L C) (h_impl_where : impl_where_ok L C) : ∀ (oa : Bool) (ca : Bool) (x_a : List AV) (a : List Pt) (_ : x_a = List.map ep a) (b_0 : Int) (b_1 : Int), run T C sh (keep 24) L Try.f24 ([.lst oa ca 2 x_a, .agg [.int .i64 b_0, .int .i64 b_1]]) ([]) = Option.map (fun r : Int × Bool => ((.tup [.int .i64 (r.1), .bool (r.2)], []) : AV × List Blk)) (impl_WhereIs L a b_0 b_1) := by
 intro oa ca x_a a hx_a b_0 b_1
 subst hx_a
 unfold impl_WhereIs
 conv => lhs; whnf
 refine t_call (h_impl_IsPolygon _ _ _ a (by first | rfl | simp only [ml] <;> rfl)) fun r => ?_
 conv => lhs; whnf
 refine t_cond ?_ ?_
 ·conv => lhs; whnf
  exact t_ret (by first | rfl | simp only [ml] <;> rfl)
 ·conv => lhs; whnf
  refine t_call (h_impl_IsPeg b_0 b_1) fun r1 => ?_
  conv => lhs; whnf
  refine t_cond ?_ ?_
  ·conv => lhs; whnf
   exact t_ret (by first | rfl | simp only [ml] <;> rfl)
  ·conv => lhs; whnf
   refine t_call (h_impl_where _ _ _ a (by first | rfl | simp only [ml] <;> rfl) b_0 b_1) fun r2 => ?_
   conv => lhs; whnf
   exact t_ret (by first | rfl | simp only [ml] <;> rfl)
noncomputable def laws_zLess_l0 (L : Nat) (a : List Pt) (b : List Pt) : Nat → Int → Option Bool
  | 0, _ => none
  | m + 1, v8 => bif ilt v8 (ilen (List.map ep a)) then (gbind (lget a v8) fun p => gbind (lget b v8) fun p1 => bif !(ieq (Pt.x p) (Pt.x p1) && ieq (Pt.y p) (Pt.y p1)) then (gbind (lget a v8) fun p2 => gbind (lget b v8) fun p3 => bif ilt (Pt.x p2) (Pt.x p3) then (some true) else (gbind (lget a v8) fun p4 => gbind (lget b v8) fun p5 => bif ieq (Pt.x p4) (Pt.x p5) then (gbind (lget a v8) fun p6 => gbind (lget b v8) fun p7 => some (ilt (Pt.y p6) (Pt.y p7))) else (some false))) else (laws_zLess_l0 L a b m (wr IntKind.i64 (iadd v8 1)))) else (some false)
noncomputable def laws_zLess (L : Nat) (a : List Pt) (b : List Pt) : Option (Bool) := laws_zLess_l0 L a b L 0
def laws_zLess_ok (L : Nat) (C : CF) : Prop := ∀ (oa : Bool) (ca : Bool) (x_a : List AV) (a : List Pt) (_ : x_a = List.map ep a) (ob : Bool) (cb : Bool) (x_b : List AV) (b : List Pt) (_ : x_b = List.map ep b), C 25 ([.lst oa ca 2 x_a, .lst ob cb 2 x_b]) ([]) = Option.map (fun r : Bool => ((.bool r, []) : AV × List Blk)) (laws_zLess L a b)
theorem laws_zLess_run (L : Nat) (C : CF) : ∀ (oa : Bool) (ca : Bool) (x_a : List AV) (a : List Pt) (_ : x_a = List.map ep a) (ob : Bool) (cb : Bool) (x_b : List AV) (b : List Pt) (_ : x_b = List.map ep b), run T C sh (keep 25) L Try.f25 ([.lst oa ca 2 x_a, .lst ob cb 2 x_b]) ([]) = Option.map (fun r : Bool => ((.bool r, []) : AV × List Blk)) (laws_zLess L a b) := by
 intro oa ca x_a a hx_a ob cb x_b b hx_b
 subst hx_a
 subst hx_b
 unfold laws_zLess
 conv => lhs; whnf
 refine t_loop (fun (v8 : Int) => (AV.lst oa ca 2 (List.map ep a) :: AV.lst ob cb 2 (List.map ep b) :: topA 5 (AV.int IntKind.i64 (ilen (List.map ep a)) :: AV.int IntKind.i64 v8 :: tops 49), [])) (fun m (v8 : Int) => laws_zLess_l0 L a b m v8) (fun _ => rfl) (fun m v8 rec hrec => ?_) L 0 ?_ ?_
 rotate_left
 ·first | rfl | simp only [ml] <;> rfl
 ·first | rfl | simp only [ml] <;> rfl
 show _ = Option.map _ (laws_zLess_l0 L a b (m + 1) v8)
 rw [laws_zLess_l0.eq_2]
 conv => lhs; whnf
 refine t_cond ?_ ?_
 ·conv => lhs; whnf
  refine t_get (en := ep) (l := a) (by first | rfl | simp only [ml] <;> rfl) fun p => ?_
  conv => lhs; whnf
  refine t_get (en := ep) (l := b) (by first | rfl | simp only [ml] <;> rfl) fun p1 => ?_
  conv => lhs; whnf
  refine t_cond ?_ ?_
  ·conv => lhs; whnf
   refine t_get (en := ep) (l := a) (by first | rfl | simp only [ml] <;> rfl) fun p2 => ?_
   conv => lhs; whnf
   refine t_get (en := ep) (l := b) (by first | rfl | simp only [ml] <;> rfl) fun p3 => ?_
   conv => lhs; whnf
   refine t_cond ?_ ?_
   ·conv => lhs; whnf
    exact t_ret (by first | rfl | simp only [ml] <;> rfl)
   ·conv => lhs; whnf
    refine t_get (en := ep) (l := a) (by first | rfl | simp only [ml] <;> rfl) fun p4 => ?_
    conv => lhs; whnf
    refine t_get (en := ep) (l := b) (by first | rfl | simp only [ml] <;> rfl) fun p5 => ?_
    conv => lhs; whnf
    refine t_cond ?_ ?_
    ·conv => lhs; whnf
     refine t_get (en := ep) (l := a) (by first | rfl | simp only [ml] <;> rfl) fun p6 => ?_
     conv => lhs; whnf
     refine t_get (en := ep) (l := b) (by first | rfl | simp only [ml] <;> rfl) fun p7 => ?_
     conv => lhs; whnf
     exact t_ret (by first | rfl | simp only [ml] <;> rfl)
    ·conv => lhs; whnf
     exact t_ret (by first | rfl | simp only [ml] <;> rfl)
  ·conv => lhs; whnf
   exact hrec (wr IntKind.i64 (iadd v8 1)) _ _ (by first | rfl | simp only [ml] <;> rfl) (by first | rfl | simp only [ml] <;> rfl)
 ·conv => lhs; whnf
  exact t_ret (by first | rfl | simp only [ml] <;> rfl)
noncomputable def impl_PegsOnLine (L : Nat) (a_0 : Int) (a_1 : Int) (b_0 : Int) (b_1 : Int) : Option (Int × Bool) := gbind (impl_arePegs L ({ x := a_0, y := a_1 } :: ({ x := b_0, y := b_1 } :: []))) fun r => bif !r then (some ((0, false))) else (bif ieq a_0 b_0 && ieq a_1 b_1 then (some ((0, false))) else (gbind (impl_steps L a_0 a_1 b_0 b_1) fun r1 => some ((wr IntKind.i64 (iadd r1 1), true))))
def impl_PegsOnLine_ok (L : Nat) (C : CF) : Prop := ∀ (a_0 : Int) (a_1 : Int) (b_0 : Int) (b_1 : Int), C 26 ([.agg [.int .i64 a_0, .int .i64 a_1], .agg [.int .i64 b_0, .int .i64 b_1]]) ([]) = Option.map (fun r : Int × Bool => ((.tup [.int .i64 (r.1), .bool (r.2)], []) : AV × List Blk)) (impl_PegsOnLine L a_0 a_1 b_0 b_1)
theorem impl_PegsOnLine_run (L : Nat) (C : CF) (h_impl_arePegs : impl_arePegs_ok L C) (h_impl_steps : impl_steps_ok L C) : ∀ (a_0 : Int) (a_1 : Int) (b_0 : Int) (b_1 : Int), run T C sh (keep 26) L Try.f26 ([.agg [.int .i64 a_0, .int .i64 a_1], .agg [.int .i64 b_0, .int .i64 b_1]]) ([]) = Option.map (fun r : Int × Bool => ((.tup [.int .i64 (r.1), .bool (r.2)], []) : AV × List Blk)) (impl_PegsOnLine L a_0 a_1 b_0 b_1) := by
 intro a_0 a_1 b_0 b_1
 unfold impl_PegsOnLine
 conv => lhs; whnf
 refine t_call (h_impl_arePegs _ _ _ ({ x := a_0, y := a_1 } :: ({ x := b_0, y := b_1 } :: [])) (by first | rfl | simp only [ml] <;> rfl)) fun r => ?_
 conv => lhs; whnf
 refine t_cond ?_ ?_
 ·conv => lhs; whnf
  exact t_ret (by first | rfl | simp only [ml] <;> rfl)
 ·conv => lhs; whnf
  refine t_cond ?_ ?_
  ·conv => lhs; whnf
   exact t_ret (by first | rfl | simp only [ml] <;> rfl)
  ·conv => lhs; whnf
   refine t_call (h_impl_steps a_0 a_1 b_0 b_1) fun r1 => ?_
   conv => lhs; whnf
   exact t_ret (by first | rfl | simp only [ml] <;> rfl)
noncomputable def spec_DrawWhereIs (L : Nat) (a : List Int) : Option ((List Pt) × Int × Int) := gbind (spec_l1Cur_polygon L a 0 0 5) fun r => gbind (spec_l1Cur_peg L a (Prod.fst (Prod.snd r)) (Prod.snd (Prod.snd r))) fun r1 => some ((Prod.fst r, Prod.fst r1, Prod.fst (Prod.snd r1)))
def spec_DrawWhereIs_ok (L : Nat) (C : CF) : Prop := ∀ (oa : Bool) (ca : Bool) (x_a : List AV) (a : List Int) (_ : x_a = List.map eU a), C 27 ([.lst oa ca 1 x_a]) ([]) = Option.map (fun r : (List Pt) × Int × Int => ((.tup [.frs 2 (List.map ep (r.1)), .agg [.int .i64 (r.2.1), .int .i64 (r.2.2)]], []) : AV × List Blk)) (spec_DrawWhereIs L a)
theorem spec_DrawWhereIs_run (L : Nat) (C : CF) (h_spec_l1Cur_peg : spec_l1Cur_peg_ok L C) (h_spec_l1Cur_polygon : spec_l1Cur_polygon_ok L C) : ∀ (oa : Bool) (ca : Bool) (x_a : List AV) (a : List Int) (_ : x_a = List.map eU a), run T C sh (keep 27) L Try.f27 ([.lst oa ca 1 x_a]) ([]) = Option.map (fun r : (List Pt) × Int × Int => ((.tup [.frs 2 (List.map ep (r.1)), .agg [.int .i64 (r.2.1), .int .i64 (r.2.2)]], []) : AV × List Blk)) (spec_DrawWhereIs L a) := by
 intro oa ca x_a a hx_a
 subst hx_a
 unfold spec_DrawWhereIs
 conv => lhs; whnf
 refine t_call (h_spec_l1Cur_polygon _ _ _ a (by first | rfl | simp only [ml] <;> rfl) 0 0 5) fun r => ?_
 conv => lhs; whnf
 refine t_call (h_spec_l1Cur_peg _ _ _ a (by first | rfl | simp only [ml] <;> rfl) (Prod.fst (Prod.snd r)) (Prod.snd (Prod.snd r))) fun r1 => ?_
 conv => lhs; whnf
 exact t_ret (by first | rfl | simp only [ml] <;> rfl)
noncomputable def spec_WhereIs (L : Nat) (a : List Pt) (b_0 : Int) (b_1 : Int) : Option (Int × Bool) := gbind (spec_pgGood L a) fun r => bif !r then (some ((0, false))) else (gbind (spec_pgIs L b_0 b_1) fun r1 => bif !r1 then (some ((0, false))) else (gbind (spec_pgWhere L a b_0 b_1) fun r2 => some ((r2, true))))
def spec_WhereIs_ok (L : Nat) (C : CF) : Prop := ∀ (oa : Bool) (ca : Bool) (x_a : List AV) (a : List Pt) (_ : x_a = List.map ep a) (b_0 : Int) (b_1 : Int), C 28 ([.lst oa ca 2 x_a, .agg [.int .i64 b_0, .int .i64 b_1]]) ([]) = Option.map (fun r : Int × Bool => ((.tup [.int .i64 (r.1), .bool (r.2)], []) : AV × List Blk)) (spec_WhereIs L a b_0 b_1)
theorem spec_WhereIs_run (L : Nat) (C : CF) (h_spec_pgIs : spec_pgIs_ok L C) (h_spec_pgGood : spec_pgGood_ok L C) (h_spec_pgWhere : spec_pgWhere_ok L C) : ∀ (oa : Bool) (ca : Bool) (x_a : List AV) (a : List Pt) (_ : x_a = List.map ep a) (b_0 : Int) (b_1 : Int), run T C sh (keep 28) L Try.f28 ([.lst oa ca 2 x_a, .agg [.int .i64 b_0, .int .i64 b_1]]) ([]) = Option.map (fun r : Int × Bool => ((.tup [.int .i64 (r.1), .bool (r.2)], []) : AV × List Blk)) (spec_WhereIs L a b_0 b_1) := by
 intro oa ca x_a a hx_a b_0 b_1
 subst hx_a
 unfold spec_WhereIs
 conv => lhs; whnf
 refine t_call (h_spec_pgGood _ _ _ a (by first | rfl | simp only [ml] <;> rfl)) fun r => ?_
 conv => lhs; whnf
 refine t_cond ?_ ?_
 ·conv => lhs; whnf
  exact t_ret (by first | rfl | simp only [ml] <;> rfl)
 ·conv => lhs; whnf
  refine t_call (h_spec_pgIs b_0 b_1) fun r1 => ?_
  conv => lhs; whnf
  refine t_cond ?_ ?_
  ·conv => lhs; whnf
   exact t_ret (by first | rfl | simp only [ml] <;> rfl)
  ·conv => lhs; whnf
   refine t_call (h_spec_pgWhere _ _ _ a (by first | rfl | simp only [ml] <;> rfl) b_0 b_1) fun r2 => ?_
   conv => lhs; whnf
   exact t_ret (by first | rfl | simp only [ml] <;> rfl)
noncomputable def impl_IsOnLine (L : Nat) (a_0 : Int) (a_1 : Int) (b_0 : Int) (b_1 : Int) (c_0 : Int) (c_1 : Int) : Option (Bool × Bool) := gbind (impl_arePegs L ({ x := a_0, y := a_1 } :: ({ x := b_0, y := b_1 } :: ({ x := c_0, y := c_1 } :: [])))) fun r => bif !r then (some ((false, false))) else (bif ieq a_0 b_0 && ieq a_1 b_1 then (some ((false, false))) else (gbind (impl_isOn L a_0 a_1 b_0 b_1 c_0 c_1) fun r1 => some ((r1, true))))
def impl_IsOnLine_ok (L : Nat) (C : CF) : Prop := ∀ (a_0 : Int) (a_1 : Int) (b_0 : Int) (b_1 : Int) (c_0 : Int) (c_1 : Int), C 29 ([.agg [.int .i64 a_0, .int .i64 a_1], .agg [.int .i64 b_0, .int .i64 b_1], .agg [.int .i64 c_0, .int .i64 c_1]]) ([]) = Option.map (fun r : Bool × Bool => ((.tup [.bool (r.1), .bool (r.2)], []) : AV × List Blk)) (impl_IsOnLine L a_0 a_1 b_0 b_1 c_0 c_1)
theorem impl_IsOnLine_run (L : Nat) (C : CF) (h_impl_arePegs : impl_arePegs_ok L C) (h_impl_isOn : impl_isOn_ok L C) : ∀ (a_0 : Int) (a_1 : Int) (b_0 : Int) (b_1 : Int) (c_0 : Int) (c_1 : Int), run T C sh (keep 29) L Try.f29 ([.agg [.int .i64 a_0, .int .i64 a_1], .agg [.int .i64 b_0, .int .i64 b_1], .agg [.int .i64 c_0, .int .i64 c_1]]) ([]) = Option.map (fun r : Bool × Bool => ((.tup [.bool (r.1), .bool (r.2)], []) : AV × List Blk)) (impl_IsOnLine L a_0 a_1 b_0 b_1 c_0 c_1) := by
 intro a_0 a_1 b_0 b_1 c_0 c_1
 unfold impl_IsOnLine
 conv => lhs; whnf
 refine t_call (h_impl_arePegs _ _ _ ({ x := a_0, y := a_1 } :: ({ x := b_0, y := b_1 } :: ({ x := c_0, y := c_1 } :: []))) (by first | rfl | simp only [ml] <;> rfl)) fun r => ?_
 conv => lhs; whnf
 refine t_cond ?_ ?_
 ·conv => lhs; whnf
  exact t_ret (by first | rfl | simp only [ml] <;> rfl)
 ·conv => lhs; whnf
  refine t_cond ?_ ?_
  ·conv => lhs; whnf
   exact t_ret (by first | rfl | simp only [ml] <;> rfl)
  ·conv => lhs; whnf
   refine t_call (h_impl_isOn a_0 a_1 b_0 b_1 c_0 c_1) fun r1 => ?_
   conv => lhs; whnf
   exact t_ret (by first | rfl | simp only [ml] <;> rfl)
noncomputable def laws_FnPickHolds_l11 (L : Nat) (r16 : List Pt × Int × Int) : Nat → Bool → Int → Option Bool
  | 0, _, _ => none
  | m + 1, v63, v480 => bif ilt v480 (ilen (List.map ep (Prod.fst r16))) then (bif ile 0 v480 && ilt v480 (ilen (List.map ep (Prod.fst r16))) then (gbind (lget (Prod.fst r16) v480) fun p => bif ieq (ilen (List.map ep (Prod.fst r16))) 0 then (none) else (bif ile 0 (irem (wr IntKind.i64 (iadd v480 1)) (ilen (List.map ep (Prod.fst r16)))) && ilt (irem (wr IntKind.i64 (iadd v480 1)) (ilen (List.map ep (Prod.fst r16)))) (ilen (List.map ep (Prod.fst r16))) then (gbind (lget (Prod.fst r16) (irem (wr IntKind.i64 (iadd v480 1)) (ilen (List.map ep (Prod.fst r16))))) fun p1 => gbind (impl_IsOnLine L (Pt.x p) (Pt.y p) (Pt.x p1) (Pt.y p1) (Prod.fst (Prod.snd r16)) (Prod.snd (Prod.snd r16))) fun r19 => bif v63 then (laws_FnPickHolds_l11 L r16 m true (wr IntKind.i64 (iadd v480 1))) else (bif Prod.snd r19 then (laws_FnPickHolds_l11 L r16 m (Prod.fst r19) (wr IntKind.i64 (iadd v480 1))) else (laws_FnPickHolds_l11 L r16 m false (wr IntKind.i64 (iadd v480 1))))) else (none))) else (none)) else (some v63)
noncomputable def laws_FnPickHolds_j10 (L : Nat) (v1 : List Int) : Option Bool := gbind (spec_DrawWhereIs L v1) fun r16 => gbind (impl_WhereIs L (Prod.fst r16) (Prod.fst (Prod.snd r16)) (Prod.snd (Prod.snd r16))) fun r17 => gbind (spec_WhereIs L (Prod.fst r16) (Prod.fst (Prod.snd r16)) (Prod.snd (Prod.snd r16))) fun r18 => bif !beqb (Prod.snd r17) (Prod.snd r18) then (some false) else (bif !ieq (Prod.fst r17) (Prod.fst r18) then (some false) else (bif Prod.snd r17 then (bif ieq (Prod.fst r17) 0 then (laws_FnPickHolds_l11 L r16 L false 0) else (some true)) else (some true)))
noncomputable def laws_FnPickHolds_l18 (L : Nat) (b : List Int) (r14 : List Pt × Bool) : Nat → Int → Option Bool
  | 0, _ => none
  | m3 + 1, v438 => bif ilt v438 (ilen (List.map ep (Prod.fst r14))) then (bif ile 0 v438 && ilt v438 (ilen (List.map ep (Prod.fst r14))) then (gbind (lget (Prod.fst r14) v438) fun p6 => bif ile 0 1 && ile 1 (ilen (List.map ep (Prod.fst r14))) then (gbind (laws_zLess L (p6 :: []) (lsub (Prod.fst r14) 0 (iadd 0 1))) fun r30 => bif r30 then (some false) else (laws_FnPickHolds_l18 L b r14 m3 (wr IntKind.i64 (iadd v438 1)))) else (none)) else (none)) else (laws_FnPickHolds_j10 L b)
noncomputable def laws_FnPickHolds_j17 (L : Nat) (b : List Int) (r10 : Bool × Bool) (r14 : List Pt × Bool) (r29 : Bool × Bool) (v426 : Bool) : Option Bool := bif v426 then (some false) else (bif !Prod.snd r29 then (some false) else (bif !beqb (Prod.fst r29) (Prod.fst r10) then (some false) else (laws_FnPickHolds_l18 L b r14 L 0)))
noncomputable def laws_FnPickHolds_j16 (L : Nat) (b : List Int) (r10 : Bool × Bool) (r14 : List Pt × Bool) (r28 : List Pt × Bool) (r29 : Bool × Bool) (v416 : Bool) : Option Bool := bif v416 then (laws_FnPickHolds_j17 L b r10 r14 r29 true) else (bif !Prod.snd r28 then (laws_FnPickHolds_j17 L b r10 r14 r29 true) else (gbind (laws_zPegs L (Prod.fst r28) (Prod.fst r14)) fun r31 => laws_FnPickHolds_j17 L b r10 r14 r29 (!r31)))
noncomputable def laws_FnPickHolds_j15 (L : Nat) (b : List Int) (r4 : Int × Bool) (r10 : Bool × Bool) (r14 : List Pt × Bool) (r27 : Int × Bool) (r28 : List Pt × Bool) (r29 : Bool × Bool) (v406 : Bool) : Option Bool := bif v406 then (laws_FnPickHolds_j16 L b r10 r14 r28 r29 true) else (bif !Prod.snd r27 then (laws_FnPickHolds_j16 L b r10 r14 r28 r29 true) else (gbind (laws_zAbs L (Prod.fst r4)) fun r32 => laws_FnPickHolds_j16 L b r10 r14 r28 r29 (!ieq (Prod.fst r27) r32)))
noncomputable def laws_FnPickHolds_j14 (L : Nat) (b : List Int) (r1 : List Pt) (r4 : Int × Bool) (r10 : Bool × Bool) (r14 : List Pt × Bool) (r26 : List Pt × Bool) (r27 : Int × Bool) (r28 : List Pt × Bool) (r29 : Bool × Bool) (v396 : Bool) : Option Bool := bif v396 then (laws_FnPickHolds_j15 L b r4 r10 r14 r27 r28 r29 true) else (bif !Prod.snd r26 then (laws_FnPickHolds_j15 L b r4 r10 r14 r27 r28 r29 true) else (gbind (laws_zPegs L (Prod.fst r26) r1) fun r33 => laws_FnPickHolds_j15 L b r4 r10 r14 r27 r28 r29 (!r33)))
noncomputable def laws_FnPickHolds_l13 (L : Nat) (b : List Int) (r1 : List Pt) (r4 : Int × Bool) (r6 : Int × Bool) (r10 : Bool × Bool) (r12 : List Pt × Bool) (r14 : List Pt × Bool) : Nat → Int → Int → Option Bool
  | 0, _, _ => none
  | m2 + 1, v38, v320 => bif ilt v320 (ilen (List.map ep r1)) then (bif ile 0 v320 && ilt v320 (ilen (List.map ep r1)) then (gbind (lget r1 v320) fun p4 => gbind (impl_WhereIs L r1 (Pt.x p4) (Pt.y p4)) fun r23 => bif ieq (ilen (List.map ep r1)) 0 then (none) else (bif ile 0 (irem (wr IntKind.i64 (iadd v320 1)) (ilen (List.map ep r1))) && ilt (irem (wr IntKind.i64 (iadd v320 1)) (ilen (List.map ep r1))) (ilen (List.map ep r1)) then (gbind (lget r1 (irem (wr IntKind.i64 (iadd v320 1)) (ilen (List.map ep r1)))) fun p5 => gbind (impl_PegsOnLine L (Pt.x p4) (Pt.y p4) (Pt.x p5) (Pt.y p5)) fun r24 => bif !Prod.snd r23 then (some false) else (bif !ieq (Prod.fst r23) 0 then (some false) else (bif !Prod.snd r24 then (some false) else (laws_FnPickHolds_l13 L b r1 r4 r6 r10 r12 r14 m2 (wr IntKind.i64 (iadd v38 (wr IntKind.i64 (isub (Prod.fst r24) 1)))) (wr IntKind.i64 (iadd v320 1)))))) else (none))) else (none)) else (gbind (impl_TwiceArea L (Prod.fst r12)) fun r25 => gbind (impl_BackPolygon L (Prod.fst r12)) fun r26 => gbind (impl_TwiceArea L (Prod.fst r14)) fun r27 => gbind (impl_TellFirst L (Prod.fst r12)) fun r28 => gbind (impl_IsConvex L (Prod.fst r14)) fun r29 => bif !ieq v38 (Prod.fst r6) then (laws_FnPickHolds_j14 L b r1 r4 r10 r14 r26 r27 r28 r29 true) else (bif !Prod.snd r25 then (laws_FnPickHolds_j14 L b r1 r4 r10 r14 r26 r27 r28 r29 true) else (laws_FnPickHolds_j14 L b r1 r4 r10 r14 r26 r27 r28 r29 (!ieq (Prod.fst r25) (wr IntKind.i64 (isub 0 (Prod.fst r4)))))))
noncomputable def laws_FnPickHolds_l12 (L : Nat) (b : List Int) (r1 : List Pt) (r2 : List Pt × Bool) (r4 : Int × Bool) (r6 : Int × Bool) (r10 : Bool × Bool) (r12 : List Pt × Bool) (r14 : List Pt × Bool) : Nat → Int → Option Bool
  | 0, _ => none
  | m1 + 1, v284 => bif ilt v284 (ilen (List.map ep (Prod.fst r2))) then (bif ile 0 v284 && ilt v284 (ilen (List.map ep (Prod.fst r2))) then (gbind (lget (Prod.fst r2) v284) fun p2 => gbind (impl_WhereIs L r1 (Pt.x p2) (Pt.y p2)) fun r21 => bif !Prod.snd r21 then (some false) else (bif !ieq (Prod.fst r21) 1 then (some false) else (bif ilt 0 v284 then (bif ile 0 (wr IntKind.i64 (isub v284 1)) && ilt (wr IntKind.i64 (isub v284 1)) (ilen (List.map ep (Prod.fst r2))) then (gbind (lget (Prod.fst r2) (wr IntKind.i64 (isub v284 1))) fun p3 => gbind (laws_zLess L (p3 :: []) (p2 :: [])) fun r22 => bif !r22 then (some false) else (laws_FnPickHolds_l12 L b r1 r2 r4 r6 r10 r12 r14 m1 (wr IntKind.i64 (iadd v284 1)))) else (none)) else (laws_FnPickHolds_l12 L b r1 r2 r4 r6 r10 r12 r14 m1 (wr IntKind.i64 (iadd v284 1)))))) else (none)) else (laws_FnPickHolds_l13 L b r1 r4 r6 r10 r12 r14 L 0 0)
noncomputable def laws_FnPickHolds_j9 (L : Nat) (b : List Int) (r1 : List Pt) (r2 : List Pt × Bool) (r4 : Int × Bool) (r6 : Int × Bool) (r8 : Int × Bool) (r10 : Bool × Bool) (r12 : List Pt × Bool) (r14 : List Pt × Bool) (v251 : Bool) : Option Bool := bif v251 then (some false) else (bif !beqb (Prod.snd r14) (Prod.snd r2) then (some false) else (bif Prod.snd r2 then (bif !ieq (ilen (List.map ep (Prod.fst r2))) (Prod.fst r8) then (some false) else (gbind (laws_zAbs L (Prod.fst r4)) fun r20 => bif !ieq r20 (wr IntKind.i64 (isub (wr IntKind.i64 (iadd (wr IntKind.i64 (imul 2 (Prod.fst r8))) (Prod.fst r6))) 2)) then (some false) else (bif ieq (Prod.fst r4) 0 then (some false) else (bif ilt (Prod.fst r6) (ilen (List.map ep r1)) then (some false) else (laws_FnPickHolds_l12 L b r1 r2 r4 r6 r10 r12 r14 L 0))))) else (laws_FnPickHolds_j10 L b)))
noncomputable def laws_FnPickHolds_j8 (L : Nat) (b : List Int) (r1 : List Pt) (r2 : List Pt × Bool) (r4 : Int × Bool) (r6 : Int × Bool) (r8 : Int × Bool) (r10 : Bool × Bool) (r12 : List Pt × Bool) (r14 : List Pt × Bool) (v241 : Bool) : Option Bool := bif v241 then (laws_FnPickHolds_j9 L b r1 r2 r4 r6 r8 r10 r12 r14 true) else (bif !beqb (Prod.snd r10) (Prod.snd r2) then (laws_FnPickHolds_j9 L b r1 r2 r4 r6 r8 r10 r12 r14 true) else (laws_FnPickHolds_j9 L b r1 r2 r4 r6 r8 r10 r12 r14 (!beqb (Prod.snd r12) (Prod.snd r2))))
noncomputable def laws_FnPickHolds_j7 (L : Nat) (b : List Int) (r1 : List Pt) (r2 : List Pt × Bool) (r4 : Int × Bool) (r6 : Int × Bool) (r8 : Int × Bool) (r10 : Bool × Bool) (r12 : List Pt × Bool) (r14 : List Pt × Bool) (v231 : Bool) : Option Bool := bif v231 then (laws_FnPickHolds_j8 L b r1 r2 r4 r6 r8 r10 r12 r14 true) else (bif !beqb (Prod.snd r6) (Prod.snd r2) then (laws_FnPickHolds_j8 L b r1 r2 r4 r6 r8 r10 r12 r14 true) else (laws_FnPickHolds_j8 L b r1 r2 r4 r6 r8 r10 r12 r14 (!beqb (Prod.snd r8) (Prod.snd r2))))
noncomputable def laws_FnPickHolds_j6 (L : Nat) (b : List Int) (r1 : List Pt) (r2 : List Pt × Bool) (r4 : Int × Bool) (r6 : Int × Bool) (r8 : Int × Bool) (r10 : Bool × Bool) (r12 : List Pt × Bool) (r14 : List Pt × Bool) (v219 : Bool) : Option Bool := bif v219 then (laws_FnPickHolds_j7 L b r1 r2 r4 r6 r8 r10 r12 r14 true) else (gbind (impl_IsPolygon L r1) fun r34 => gbind (spec_IsPolygon L r1) fun r35 => bif !beqb r34 r35 then (laws_FnPickHolds_j7 L b r1 r2 r4 r6 r8 r10 r12 r14 true) else (laws_FnPickHolds_j7 L b r1 r2 r4 r6 r8 r10 r12 r14 (!beqb (Prod.snd r4) (Prod.snd r2))))
noncomputable def laws_FnPickHolds_j5 (L : Nat) (b : List Int) (r1 : List Pt) (r2 : List Pt × Bool) (r4 : Int × Bool) (r6 : Int × Bool) (r8 : Int × Bool) (r10 : Bool × Bool) (r12 : List Pt × Bool) (r14 : List Pt × Bool) (r15 : List Pt × Bool) (v207 : Bool) : Option Bool := bif v207 then (laws_FnPickHolds_j6 L b r1 r2 r4 r6 r8 r10 r12 r14 true) else (gbind (laws_zPegs L (Prod.fst r14) (Prod.fst r15)) fun r36 => bif !r36 then (laws_FnPickHolds_j6 L b r1 r2 r4 r6 r8 r10 r12 r14 true) else (gbind (impl_IsPolygon L r1) fun r37 => laws_FnPickHolds_j6 L b r1 r2 r4 r6 r8 r10 r12 r14 (!beqb (Prod.snd r2) r37)))
noncomputable def laws_FnPickHolds_j4 (L : Nat) (b : List Int) (r1 : List Pt) (r2 : List Pt × Bool) (r4 : Int × Bool) (r6 : Int × Bool) (r8 : Int × Bool) (r10 : Bool × Bool) (r12 : List Pt × Bool) (r13 : List Pt × Bool) (r14 : List Pt × Bool) (r15 : List Pt × Bool) (v196 : Bool) : Option Bool := bif v196 then (laws_FnPickHolds_j5 L b r1 r2 r4 r6 r8 r10 r12 r14 r15 true) else (gbind (laws_zPegs L (Prod.fst r12) (Prod.fst r13)) fun r38 => bif !r38 then (laws_FnPickHolds_j5 L b r1 r2 r4 r6 r8 r10 r12 r14 r15 true) else (laws_FnPickHolds_j5 L b r1 r2 r4 r6 r8 r10 r12 r14 r15 (!beqb (Prod.snd r14) (Prod.snd r15))))
noncomputable def laws_FnPickHolds_j3 (L : Nat) (b : List Int) (r1 : List Pt) (r2 : List Pt × Bool) (r4 : Int × Bool) (r6 : Int × Bool) (r8 : Int × Bool) (r10 : Bool × Bool) (r11 : Bool × Bool) (r12 : List Pt × Bool) (r13 : List Pt × Bool) (r14 : List Pt × Bool) (r15 : List Pt × Bool) (v186 : Bool) : Option Bool := bif v186 then (laws_FnPickHolds_j4 L b r1 r2 r4 r6 r8 r10 r12 r13 r14 r15 true) else (bif !beqb (Prod.fst r10) (Prod.fst r11) then (laws_FnPickHolds_j4 L b r1 r2 r4 r6 r8 r10 r12 r13 r14 r15 true) else (laws_FnPickHolds_j4 L b r1 r2 r4 r6 r8 r10 r12 r13 r14 r15 (!beqb (Prod.snd r12) (Prod.snd r13))))
noncomputable def laws_FnPickHolds_j2 (L : Nat) (b : List Int) (r1 : List Pt) (r2 : List Pt × Bool) (r4 : Int × Bool) (r6 : Int × Bool) (r8 : Int × Bool) (r9 : Int × Bool) (r10 : Bool × Bool) (r11 : Bool × Bool) (r12 : List Pt × Bool) (r13 : List Pt × Bool) (r14 : List Pt × Bool) (r15 : List Pt × Bool) (v176 : Bool) : Option Bool := bif v176 then (laws_FnPickHolds_j3 L b r1 r2 r4 r6 r8 r10 r11 r12 r13 r14 r15 true) else (bif !ieq (Prod.fst r8) (Prod.fst r9) then (laws_FnPickHolds_j3 L b r1 r2 r4 r6 r8 r10 r11 r12 r13 r14 r15 true) else (laws_FnPickHolds_j3 L b r1 r2 r4 r6 r8 r10 r11 r12 r13 r14 r15 (!beqb (Prod.snd r10) (Prod.snd r11))))
noncomputable def laws_FnPickHolds_j1 (L : Nat) (b : List Int) (r1 : List Pt) (r2 : List Pt × Bool) (r4 : Int × Bool) (r6 : Int × Bool) (r7 : Int × Bool) (r8 : Int × Bool) (r9 : Int × Bool) (r10 : Bool × Bool) (r11 : Bool × Bool) (r12 : List Pt × Bool) (r13 : List Pt × Bool) (r14 : List Pt × Bool) (r15 : List Pt × Bool) (v166 : Bool) : Option Bool := bif v166 then (laws_FnPickHolds_j2 L b r1 r2 r4 r6 r8 r9 r10 r11 r12 r13 r14 r15 true) else (bif !ieq (Prod.fst r6) (Prod.fst r7) then (laws_FnPickHolds_j2 L b r1 r2 r4 r6 r8 r9 r10 r11 r12 r13 r14 r15 true) else (laws_FnPickHolds_j2 L b r1 r2 r4 r6 r8 r9 r10 r11 r12 r13 r14 r15 (!beqb (Prod.snd r8) (Prod.snd r9))))
noncomputable def laws_FnPickHolds_j0 (L : Nat) (b : List Int) (r1 : List Pt) (r2 : List Pt × Bool) (r4 : Int × Bool) (r5 : Int × Bool) (r6 : Int × Bool) (r7 : Int × Bool) (r8 : Int × Bool) (r9 : Int × Bool) (r10 : Bool × Bool) (r11 : Bool × Bool) (r12 : List Pt × Bool) (r13 : List Pt × Bool) (r14 : List Pt × Bool) (r15 : List Pt × Bool) (v156 : Bool) : Option Bool := bif v156 then (laws_FnPickHolds_j1 L b r1 r2 r4 r6 r7 r8 r9 r10 r11 r12 r13 r14 r15 true) else (bif !ieq (Prod.fst r4) (Prod.fst r5) then (laws_FnPickHolds_j1 L b r1 r2 r4 r6 r7 r8 r9 r10 r11 r12 r13 r14 r15 true) else (laws_FnPickHolds_j1 L b r1 r2 r4 r6 r7 r8 r9 r10 r11 r12 r13 r14 r15 (!beqb (Prod.snd r6) (Prod.snd r7))))
noncomputable def laws_FnPickHolds (L : Nat) (a : List Int) (b : List Int) : Option (Bool) := gbind (laws_big L a b) fun r => bif r then (some true) else (gbind (spec_DrawListInside L a) fun r1 => gbind (impl_ListInside L r1) fun r2 => gbind (spec_ListInside L r1) fun r3 => gbind (impl_TwiceArea L r1) fun r4 => gbind (spec_TwiceArea L r1) fun r5 => gbind (impl_PegsOn L r1) fun r6 => gbind (spec_PegsOn L r1) fun r7 => gbind (impl_PegsInside L r1) fun r8 => gbind (spec_PegsInside L r1) fun r9 => gbind (impl_IsConvex L r1) fun r10 => gbind (spec_IsConvex L r1) fun r11 => gbind (impl_BackPolygon L r1) fun r12 => gbind (spec_BackPolygon L r1) fun r13 => gbind (impl_TellFirst L r1) fun r14 => gbind (spec_TellFirst L r1) fun r15 => bif !beqb (Prod.snd r2) (Prod.snd r3) then (laws_FnPickHolds_j0 L b r1 r2 r4 r5 r6 r7 r8 r9 r10 r11 r12 r13 r14 r15 true) else (gbind (laws_zPegs L (Prod.fst r2) (Prod.fst r3)) fun r39 => bif !r39 then (laws_FnPickHolds_j0 L b r1 r2 r4 r5 r6 r7 r8 r9 r10 r11 r12 r13 r14 r15 true) else (laws_FnPickHolds_j0 L b r1 r2 r4 r5 r6 r7 r8 r9 r10 r11 r12 r13 r14 r15 (!beqb (Prod.snd r4) (Prod.snd r5)))))
def laws_FnPickHolds_ok (L : Nat) (C : CF) : Prop := ∀ (oa : Bool) (ca : Bool) (x_a : List AV) (a : List Int) (_ : x_a = List.map eU a) (ob : Bool) (cb : Bool) (x_b : List AV) (b : List Int) (_ : x_b = List.map eU b), C 3 ([.lst oa ca 1 x_a, .lst ob cb 1 x_b]) ([]) = Option.map (fun r : Bool => ((.bool r, []) : AV × List Blk)) (laws_FnPickHolds L a b)
theorem laws_FnPickHolds_run (L : Nat) (C : CF) (h_laws_big : laws_big_ok L C) (h_spec_DrawListInside : spec_DrawListInside_ok L C) (h_impl_IsPolygon : impl_IsPolygon_ok L C) (h_impl_ListInside : impl_ListInside_ok L C) (h_spec_ListInside : spec_ListInside_ok L C) (h_impl_TwiceArea : impl_TwiceArea_ok L C) (h_spec_TwiceArea : spec_TwiceArea_ok L C) (h_impl_PegsOn : impl_PegsOn_ok L C) (h_spec_PegsOn : spec_PegsOn_ok L C) (h_impl_PegsInside : impl_PegsInside_ok L C) (h_spec_PegsInside : spec_PegsInside_ok L C) (h_impl_IsConvex : impl_IsConvex_ok L C) (h_spec_IsConvex : spec_IsConvex_ok L C) (h_impl_BackPolygon : impl_BackPolygon_ok L C) (h_spec_BackPolygon : spec_BackPolygon_ok L C) (h_impl_TellFirst : impl_TellFirst_ok L C) (h_spec_TellFirst : spec_TellFirst_ok L C) (h_laws_zPegs : laws_zPegs_ok L C) (h_spec_IsPolygon : spec_IsPolygon_ok L C) (h_laws_zAbs : laws_zAbs_ok L C) (h_impl_WhereIs : impl_WhereIs_ok L C) (h_laws_zLess : laws_zLess_ok L C) (h_impl_PegsOnLine : impl_PegsOnLine_ok L C) (h_spec_DrawWhereIs : spec_DrawWhereIs_ok L C) (h_spec_WhereIs : spec_WhereIs_ok L C) (h_impl_IsOnLine : impl_IsOnLine_ok L C) : ∀ (oa : Bool) (ca : Bool) (x_a : List AV) (a : List Int) (_ : x_a = List.map eU a) (ob : Bool) (cb : Bool) (x_b : List AV) (b : List Int) (_ : x_b = List.map eU b), run T C sh (keep 3) L Try.f3 ([.lst oa ca 1 x_a, .lst ob cb 1 x_b]) ([]) = Option.map (fun r : Bool => ((.bool r, []) : AV × List Blk)) (laws_FnPickHolds L a b) := by
 intro oa ca x_a a hx_a ob cb x_b b hx_b
 subst hx_a
 subst hx_b
 unfold laws_FnPickHolds
 conv => lhs; whnf
 refine t_call (h_laws_big _ _ _ a (by first | rfl | simp only [ml] <;> rfl) _ _ _ b (by first | rfl | simp only [ml] <;> rfl)) fun r => ?_
 conv => lhs; whnf
 refine t_cond ?_ ?_
 ·conv => lhs; whnf
  exact t_ret (by first | rfl | simp only [ml] <;> rfl)
 ·conv => lhs; whnf
  refine t_call (h_spec_DrawListInside _ _ _ a (by first | rfl | simp only [ml] <;> rfl)) fun r1 => ?_
  conv => lhs; whnf
  refine t_call (h_impl_ListInside _ _ _ r1 (by first | rfl | simp only [ml] <;> rfl)) fun r2 => ?_
  conv => lhs; whnf
  refine t_call (h_spec_ListInside _ _ _ r1 (by first | rfl | simp only [ml] <;> rfl)) fun r3 => ?_
  conv => lhs; whnf
  refine t_call (h_impl_TwiceArea _ _ _ r1 (by first | rfl | simp only [ml] <;> rfl)) fun r4 => ?_
  conv => lhs; whnf
  refine t_call (h_spec_TwiceArea _ _ _ r1 (by first | rfl | simp only [ml] <;> rfl)) fun r5 => ?_
  conv => lhs; whnf
  refine t_call (h_impl_PegsOn _ _ _ r1 (by first | rfl | simp only [ml] <;> rfl)) fun r6 => ?_
  conv => lhs; whnf
  refine t_call (h_spec_PegsOn _ _ _ r1 (by first | rfl | simp only [ml] <;> rfl)) fun r7 => ?_
  conv => lhs; whnf
  refine t_call (h_impl_PegsInside _ _ _ r1 (by first | rfl | simp only [ml] <;> rfl)) fun r8 => ?_
  conv => lhs; whnf
  refine t_call (h_spec_PegsInside _ _ _ r1 (by first | rfl | simp only [ml] <;> rfl)) fun r9 => ?_
  conv => lhs; whnf
  refine t_call (h_impl_IsConvex _ _ _ r1 (by first | rfl | simp only [ml] <;> rfl)) fun r10 => ?_
  conv => lhs; whnf
  refine t_call (h_spec_IsConvex _ _ _ r1 (by first | rfl | simp only [ml] <;> rfl)) fun r11 => ?_
  conv => lhs; whnf
  refine t_call (h_impl_BackPolygon _ _ _ r1 (by first | rfl | simp only [ml] <;> rfl)) fun r12 => ?_
  conv => lhs; whnf
  refine t_call (h_spec_BackPolygon _ _ _ r1 (by first | rfl | simp only [ml] <;> rfl)) fun r13 => ?_
  conv => lhs; whnf
  refine t_call (h_impl_TellFirst _ _ _ r1 (by first | rfl | simp only [ml] <;> rfl)) fun r14 => ?_
  conv => lhs; whnf
  refine t_call (h_spec_TellFirst _ _ _ r1 (by first | rfl | simp only [ml] <;> rfl)) fun r15 => ?_
  conv => lhs; whnf
  refine t_join (fun (v156 : Bool) => (AV.top :: AV.lst ob cb 1 (List.map eU b) :: topA 3 (AV.own 0 2 none false :: AV.own 1 2 none false :: AV.bool (Prod.snd r2) :: topA 2 (AV.int IntKind.i64 (Prod.fst r4) :: AV.bool (Prod.snd r4) :: AV.int IntKind.i64 (Prod.fst r5) :: AV.top :: AV.int IntKind.i64 (Prod.fst r6) :: AV.bool (Prod.snd r6) :: AV.int IntKind.i64 (Prod.fst r7) :: AV.bool (Prod.snd r7) :: AV.int IntKind.i64 (Prod.fst r8) :: AV.bool (Prod.snd r8) :: AV.int IntKind.i64 (Prod.fst r9) :: AV.bool (Prod.snd r9) :: AV.bool (Prod.fst r10) :: AV.bool (Prod.snd r10) :: AV.bool (Prod.fst r11) :: AV.bool (Prod.snd r11) :: AV.own 2 2 none false :: AV.bool (Prod.snd r12) :: AV.own 3 2 none false :: AV.bool (Prod.snd r13) :: AV.own 4 2 none false :: AV.bool (Prod.snd r14) :: AV.own 5 2 none false :: AV.bool (Prod.snd r15) :: topA 122 (AV.bool v156 :: tops 351))), [Blk.rows Mode.live 2 (List.map ep r1), Blk.rows Mode.live 2 (List.map ep (Prod.fst r2)), Blk.rows Mode.live 2 (List.map ep (Prod.fst r12)), Blk.rows Mode.live 2 (List.map ep (Prod.fst r13)), Blk.rows Mode.live 2 (List.map ep (Prod.fst r14)), Blk.rows Mode.live 2 (List.map ep (Prod.fst r15))])) (fun (v156 : Bool) => laws_FnPickHolds_j0 L b r1 r2 r4 r5 r6 r7 r8 r9 r10 r11 r12 r13 r14 r15 v156) ?_ fun J hJ => ?_
  ·intro v156
   show _ = Option.map _ (laws_FnPickHolds_j0 L b r1 r2 r4 r5 r6 r7 r8 r9 r10 r11 r12 r13 r14 r15 v156)
   unfold laws_FnPickHolds_j0
   conv => lhs; whnf
   refine t_join (fun (v166 : Bool) => (AV.top :: AV.lst ob cb 1 (List.map eU b) :: topA 3 (AV.own 0 2 none false :: AV.own 1 2 none false :: AV.bool (Prod.snd r2) :: topA 2 (AV.int IntKind.i64 (Prod.fst r4) :: AV.bool (Prod.snd r4) :: topA 2 (AV.int IntKind.i64 (Prod.fst r6) :: AV.bool (Prod.snd r6) :: AV.int IntKind.i64 (Prod.fst r7) :: AV.top :: AV.int IntKind.i64 (Prod.fst r8) :: AV.bool (Prod.snd r8) :: AV.int IntKind.i64 (Prod.fst r9) :: AV.bool (Prod.snd r9) :: AV.bool (Prod.fst r10) :: AV.bool (Prod.snd r10) :: AV.bool (Prod.fst r11) :: AV.bool (Prod.snd r11) :: AV.own 2 2 none false :: AV.bool (Prod.snd r12) :: AV.own 3 2 none false :: AV.bool (Prod.snd r13) :: AV.own 4 2 none false :: AV.bool (Prod.snd r14) :: AV.own 5 2 none false :: AV.bool (Prod.snd r15) :: topA 132 (AV.bool v166 :: tops 341)))), [Blk.rows Mode.live 2 (List.map ep r1), Blk.rows Mode.live 2 (List.map ep (Prod.fst r2)), Blk.rows Mode.live 2 (List.map ep (Prod.fst r12)), Blk.rows Mode.live 2 (List.map ep (Prod.fst r13)), Blk.rows Mode.live 2 (List.map ep (Prod.fst r14)), Blk.rows Mode.live 2 (List.map ep (Prod.fst r15))])) (fun (v166 : Bool) => laws_FnPickHolds_j1 L b r1 r2 r4 r6 r7 r8 r9 r10 r11 r12 r13 r14 r15 v166) ?_ fun J1 hJ1 => ?_
   ·intro v166
    show _ = Option.map _ (laws_FnPickHolds_j1 L b r1 r2 r4 r6 r7 r8 r9 r10 r11 r12 r13 r14 r15 v166)
    unfold laws_FnPickHolds_j1
    conv => lhs; whnf
    refine t_join (fun (v176 : Bool) => (AV.top :: AV.lst ob cb 1 (List.map eU b) :: topA 3 (AV.own 0 2 none false :: AV.own 1 2 none false :: AV.bool (Prod.snd r2) :: topA 2 (AV.int IntKind.i64 (Prod.fst r4) :: AV.bool (Prod.snd r4) :: topA 2 (AV.int IntKind.i64 (Prod.fst r6) :: AV.bool (Prod.snd r6) :: topA 2 (AV.int IntKind.i64 (Prod.fst r8) :: AV.bool (Prod.snd r8) :: AV.int IntKind.i64 (Prod.fst r9) :: AV.top :: AV.bool (Prod.fst r10) :: AV.bool (Prod.snd r10) :: AV.bool (Prod.fst r11) :: AV.bool (Prod.snd r11) :: AV.own 2 2 none false :: AV.bool (Prod.snd r12) :: AV.own 3 2 none false :: AV.bool (Prod.snd r13) :: AV.own 4 2 none false :: AV.bool (Prod.snd r14) :: AV.own 5 2 none false :: AV.bool (Prod.snd r15) :: topA 142 (AV.bool v176 :: tops 331))))), [Blk.rows Mode.live 2 (List.map ep r1), Blk.rows Mode.live 2 (List.map ep (Prod.fst r2)), Blk.rows Mode.live 2 (List.map ep (Prod.fst r12)), Blk.rows Mode.live 2 (List.map ep (Prod.fst r13)), Blk.rows Mode.live 2 (List.map ep (Prod.fst r14)), Blk.rows Mode.live 2 (List.map ep (Prod.fst r15))])) (fun (v176 : Bool) => laws_FnPickHolds_j2 L b r1 r2 r4 r6 r8 r9 r10 r11 r12 r13 r14 r15 v176) ?_ fun J2 hJ2 => ?_
    ·intro v176
     show _ = Option.map _ (laws_FnPickHolds_j2 L b r1 r2 r4 r6 r8 r9 r10 r11 r12 r13 r14 r15 v176)
     unfold laws_FnPickHolds_j2
     conv => lhs; whnf
     refine t_join (fun (v186 : Bool) => (AV.top :: AV.lst ob cb 1 (List.map eU b) :: topA 3 (AV.own 0 2 none false :: AV.own 1 2 none false :: AV.bool (Prod.snd r2) :: topA 2 (AV.int IntKind.i64 (Prod.fst r4) :: AV.bool (Prod.snd r4) :: topA 2 (AV.int IntKind.i64 (Prod.fst r6) :: AV.bool (Prod.snd r6) :: topA 2 (AV.int IntKind.i64 (Prod.fst r8) :: AV.bool (Prod.snd r8) :: topA 2 (AV.bool (Prod.fst r10) :: AV.bool (Prod.snd r10) :: AV.bool (Prod.fst r11) :: AV.top :: AV.own 2 2 none false :: AV.bool (Prod.snd r12) :: AV.own 3 2 none false :: AV.bool (Prod.snd r13) :: AV.own 4 2 none false :: AV.bool (Prod.snd r14) :: AV.own 5 2 none false :: AV.bool (Prod.snd r15) :: topA 152 (AV.bool v186 :: tops 321)))))), [Blk.rows Mode.live 2 (List.map ep r1), Blk.rows Mode.live 2 (List.map ep (Prod.fst r2)), Blk.rows Mode.live 2 (List.map ep (Prod.fst r12)), Blk.rows Mode.live 2 (List.map ep (Prod.fst r13)), Blk.rows Mode.live 2 (List.map ep (Prod.fst r14)), Blk.rows Mode.live 2 (List.map ep (Prod.fst r15))])) (fun (v186 : Bool) => laws_FnPickHolds_j3 L b r1 r2 r4 r6 r8 r10 r11 r12 r13 r14 r15 v186) ?_ fun J3 hJ3 => ?_
     ·intro v186
      show _ = Option.map _ (laws_FnPickHolds_j3 L b r1 r2 r4 r6 r8 r10 r11 r12 r13 r14 r15 v186)
      unfold laws_FnPickHolds_j3
      conv => lhs; whnf
      refine t_join (fun (v196 : Bool) => (AV.top :: AV.lst ob cb 1 (List.map eU b) :: topA 3 (AV.own 0 2 none false :: AV.own 1 2 none false :: AV.bool (Prod.snd r2) :: topA 2 (AV.int IntKind.i64 (Prod.fst r4) :: AV.bool (Prod.snd r4) :: topA 2 (AV.int IntKind.i64 (Prod.fst r6) :: AV.bool (Prod.snd r6) :: topA 2 (AV.int IntKind.i64 (Prod.fst r8) :: AV.bool (Prod.snd r8) :: topA 2 (AV.bool (Prod.fst r10) :: AV.bool (Prod.snd r10) :: topA 2 (AV.own 2 2 none false :: AV.bool (Prod.snd r12) :: AV.own 3 2 none false :: AV.top :: AV.own 4 2 none false :: AV.bool (Prod.snd r14) :: AV.own 5 2 none false :: AV.bool (Prod.snd r15) :: topA 162 (AV.bool v196 :: tops 311))))))), [Blk.rows Mode.live 2 (List.map ep r1), Blk.rows Mode.live 2 (List.map ep (Prod.fst r2)), Blk.rows Mode.live 2 (List.map ep (Prod.fst r12)), Blk.rows Mode.live 2 (List.map ep (Prod.fst r13)), Blk.rows Mode.live 2 (List.map ep (Prod.fst r14)), Blk.rows Mode.live 2 (List.map ep (Prod.fst r15))])) (fun (v196 : Bool) => laws_FnPickHolds_j4 L b r1 r2 r4 r6 r8 r10 r12 r13 r14 r15 v196) ?_ fun J4 hJ4 => ?_
      ·intro v196
       show _ = Option.map _ (laws_FnPickHolds_j4 L b r1 r2 r4 r6 r8 r10 r12 r13 r14 r15 v196)
       unfold laws_FnPickHolds_j4
       conv => lhs; whnf
       refine t_join (fun (v207 : Bool) => (AV.top :: AV.lst ob cb 1 (List.map eU b) :: topA 3 (AV.own 0 2 none false :: AV.own 1 2 none false :: AV.bool (Prod.snd r2) :: topA 2 (AV.int IntKind.i64 (Prod.fst r4) :: AV.bool (Prod.snd r4) :: topA 2 (AV.int IntKind.i64 (Prod.fst r6) :: AV.bool (Prod.snd r6) :: topA 2 (AV.int IntKind.i64 (Prod.fst r8) :: AV.bool (Prod.snd r8) :: topA 2 (AV.bool (Prod.fst r10) :: AV.bool (Prod.snd r10) :: topA 2 (AV.own 2 2 none false :: AV.bool (Prod.snd r12) :: topA 2 (AV.own 3 2 none false :: AV.bool (Prod.snd r14) :: AV.own 4 2 none false :: topA 174 (AV.bool v207 :: tops 300)))))))), [Blk.rows Mode.live 2 (List.map ep r1), Blk.rows Mode.live 2 (List.map ep (Prod.fst r2)), Blk.rows Mode.live 2 (List.map ep (Prod.fst r12)), Blk.rows Mode.live 2 (List.map ep (Prod.fst r14)), Blk.rows Mode.live 2 (List.map ep (Prod.fst r15))])) (fun (v207 : Bool) => laws_FnPickHolds_j5 L b r1 r2 r4 r6 r8 r10 r12 r14 r15 v207) ?_ fun J5 hJ5 => ?_
       ·intro v207
        show _ = Option.map _ (laws_FnPickHolds_j5 L b r1 r2 r4 r6 r8 r10 r12 r14 r15 v207)
        unfold laws_FnPickHolds_j5
        conv => lhs; whnf
        refine t_join (fun (v219 : Bool) => (AV.top :: AV.lst ob cb 1 (List.map eU b) :: topA 3 (AV.own 0 2 none false :: AV.own 1 2 none false :: AV.bool (Prod.snd r2) :: topA 2 (AV.int IntKind.i64 (Prod.fst r4) :: AV.bool (Prod.snd r4) :: topA 2 (AV.int IntKind.i64 (Prod.fst r6) :: AV.bool (Prod.snd r6) :: topA 2 (AV.int IntKind.i64 (Prod.fst r8) :: AV.bool (Prod.snd r8) :: topA 2 (AV.bool (Prod.fst r10) :: AV.bool (Prod.snd r10) :: topA 2 (AV.own 2 2 none false :: AV.bool (Prod.snd r12) :: topA 2 (AV.own 3 2 none false :: AV.bool (Prod.snd r14) :: topA 187 (AV.bool v219 :: tops 288)))))))), [Blk.rows Mode.live 2 (List.map ep r1), Blk.rows Mode.live 2 (List.map ep (Prod.fst r2)), Blk.rows Mode.live 2 (List.map ep (Prod.fst r12)), Blk.rows Mode.live 2 (List.map ep (Prod.fst r14))])) (fun (v219 : Bool) => laws_FnPickHolds_j6 L b r1 r2 r4 r6 r8 r10 r12 r14 v219) ?_ fun J6 hJ6 => ?_
        ·intro v219
         show _ = Option.map _ (laws_FnPickHolds_j6 L b r1 r2 r4 r6 r8 r10 r12 r14 v219)
         unfold laws_FnPickHolds_j6
         conv => lhs; whnf
         refine t_join (fun (v231 : Bool) => (AV.top :: AV.lst ob cb 1 (List.map eU b) :: topA 3 (AV.own 0 2 none false :: AV.own 1 2 none false :: AV.bool (Prod.snd r2) :: topA 2 (AV.int IntKind.i64 (Prod.fst r4) :: topA 3 (AV.int IntKind.i64 (Prod.fst r6) :: AV.bool (Prod.snd r6) :: topA 2 (AV.int IntKind.i64 (Prod.fst r8) :: AV.bool (Prod.snd r8) :: topA 2 (AV.bool (Prod.fst r10) :: AV.bool (Prod.snd r10) :: topA 2 (AV.own 2 2 none false :: AV.bool (Prod.snd r12) :: topA 2 (AV.own 3 2 none false :: AV.bool (Prod.snd r14) :: topA 199 (AV.bool v231 :: tops 276)))))))), [Blk.rows Mode.live 2 (List.map ep r1), Blk.rows Mode.live 2 (List.map ep (Prod.fst r2)), Blk.rows Mode.live 2 (List.map ep (Prod.fst r12)), Blk.rows Mode.live 2 (List.map ep (Prod.fst r14))])) (fun (v231 : Bool) => laws_FnPickHolds_j7 L b r1 r2 r4 r6 r8 r10 r12 r14 v231) ?_ fun J7 hJ7 => ?_
         ·intro v231
          show _ = Option.map _ (laws_FnPickHolds_j7 L b r1 r2 r4 r6 r8 r10 r12 r14 v231)
          unfold laws_FnPickHolds_j7
          conv => lhs; whnf
          refine t_join (fun (v241 : Bool) => (AV.top :: AV.lst ob cb 1 (List.map eU b) :: topA 3 (AV.own 0 2 none false :: AV.own 1 2 none false :: AV.bool (Prod.snd r2) :: topA 2 (AV.int IntKind.i64 (Prod.fst r4) :: topA 3 (AV.int IntKind.i64 (Prod.fst r6) :: topA 3 (AV.int IntKind.i64 (Prod.fst r8) :: topA 3 (AV.bool (Prod.fst r10) :: AV.bool (Prod.snd r10) :: topA 2 (AV.own 2 2 none false :: AV.bool (Prod.snd r12) :: topA 2 (AV.own 3 2 none false :: AV.bool (Prod.snd r14) :: topA 209 (AV.bool v241 :: tops 266)))))))), [Blk.rows Mode.live 2 (List.map ep r1), Blk.rows Mode.live 2 (List.map ep (Prod.fst r2)), Blk.rows Mode.live 2 (List.map ep (Prod.fst r12)), Blk.rows Mode.live 2 (List.map ep (Prod.fst r14))])) (fun (v241 : Bool) => laws_FnPickHolds_j8 L b r1 r2 r4 r6 r8 r10 r12 r14 v241) ?_ fun J8 hJ8 => ?_
          ·intro v241
           show _ = Option.map _ (laws_FnPickHolds_j8 L b r1 r2 r4 r6 r8 r10 r12 r14 v241)
           unfold laws_FnPickHolds_j8
           conv => lhs; whnf
           refine t_join (fun (v251 : Bool) => (AV.top :: AV.lst ob cb 1 (List.map eU b) :: topA 3 (AV.own 0 2 none false :: AV.own 1 2 none false :: AV.bool (Prod.snd r2) :: topA 2 (AV.int IntKind.i64 (Prod.fst r4) :: topA 3 (AV.int IntKind.i64 (Prod.fst r6) :: topA 3 (AV.int IntKind.i64 (Prod.fst r8) :: topA 3 (AV.bool (Prod.fst r10) :: topA 3 (AV.own 2 2 none false :: topA 3 (AV.own 3 2 none false :: AV.bool (Prod.snd r14) :: topA 219 (AV.bool v251 :: tops 256)))))))), [Blk.rows Mode.live 2 (List.map ep r1), Blk.rows Mode.live 2 (List.map ep (Prod.fst r2)), Blk.rows Mode.live 2 (List.map ep (Prod.fst r12)), Blk.rows Mode.live 2 (List.map ep (Prod.fst r14))])) (fun (v251 : Bool) => laws_FnPickHolds_j9 L b r1 r2 r4 r6 r8 r10 r12 r14 v251) ?_ fun J9 hJ9 => ?_
           ·intro v251
            show _ = Option.map _ (laws_FnPickHolds_j9 L b r1 r2 r4 r6 r8 r10 r12 r14 v251)
            unfold laws_FnPickHolds_j9
            conv => lhs; whnf
            refine t_cond ?_ ?_
            ·conv => lhs; whnf
             exact t_ret (by first | rfl | simp only [ml] <;> rfl)
            ·conv => lhs; whnf
             refine t_cond ?_ ?_
             ·conv => lhs; whnf
              exact t_ret (by first | rfl | simp only [ml] <;> rfl)
             ·conv => lhs; whnf
              refine t_join (fun (v1 : (List Int)) => (AV.top :: AV.lst ob cb 1 (List.map eU v1) :: tops 506, [])) (fun (v1 : (List Int)) => laws_FnPickHolds_j10 L v1) ?_ fun J10 hJ10 => ?_
              ·intro v1
               show _ = Option.map _ (laws_FnPickHolds_j10 L v1)
               unfold laws_FnPickHolds_j10
               conv => lhs; whnf
               refine t_call (h_spec_DrawWhereIs _ _ _ v1 (by first | rfl | simp only [ml] <;> rfl)) fun r16 => ?_
               conv => lhs; whnf
               refine t_call (h_impl_WhereIs _ _ _ (Prod.fst r16) (by first | rfl | simp only [ml] <;> rfl) (Prod.fst (Prod.snd r16)) (Prod.snd (Prod.snd r16))) fun r17 => ?_
               conv => lhs; whnf
               refine t_call (h_spec_WhereIs _ _ _ (Prod.fst r16) (by first | rfl | simp only [ml] <;> rfl) (Prod.fst (Prod.snd r16)) (Prod.snd (Prod.snd r16))) fun r18 => ?_
               conv => lhs; whnf
               refine t_cond ?_ ?_
               ·conv => lhs; whnf
                exact t_ret (by first | rfl | simp only [ml] <;> rfl)
               ·conv => lhs; whnf
                refine t_cond ?_ ?_
                ·conv => lhs; whnf
                 exact t_ret (by first | rfl | simp only [ml] <;> rfl)
                ·conv => lhs; whnf
                 refine t_cond ?_ ?_
                 ·conv => lhs; whnf
                  refine t_cond ?_ ?_
                  ·conv => lhs; whnf
                   refine t_loop (fun (⟨v63, v480⟩ : Bool × Int) => (topA 57 (AV.own 0 2 none false :: AV.ptr 1 0 0 2 :: topA 4 (AV.bool v63 :: topA 414 (AV.own 0 2 none false :: AV.int IntKind.i64 (ilen (List.map ep (Prod.fst r16))) :: AV.int IntKind.i64 v480 :: tops 27))), [Blk.rows Mode.live 2 (List.map ep (Prod.fst r16)), Blk.box (AV.agg [AV.int IntKind.i64 (Prod.fst (Prod.snd r16)), AV.int IntKind.i64 (Prod.snd (Prod.snd r16))])])) (fun m (⟨v63, v480⟩ : Bool × Int) => laws_FnPickHolds_l11 L r16 m v63 v480) (fun _ => rfl) (fun m s11 rec hrec => ?_) L ((false, 0)) ?_ ?_
                   rotate_left
                   ·first | rfl | simp only [ml] <;> rfl
                   ·first | rfl | simp only [ml] <;> rfl
                   obtain ⟨v63, v480⟩ := s11
                   show _ = Option.map _ (laws_FnPickHolds_l11 L r16 (m + 1) v63 v480)
                   rw [laws_FnPickHolds_l11.eq_2]
                   conv => lhs; whnf
                   refine t_cond ?_ ?_
                   ·conv => lhs; whnf
                    refine t_cond ?_ ?_
                    ·conv => lhs; whnf
                     refine t_get (en := ep) (l := Prod.fst r16) (by first | rfl | simp only [ml] <;> rfl) fun p => ?_
                     conv => lhs; whnf
                     refine t_cond ?_ ?_
                     ·conv => lhs; whnf
                      exact t_none
                     ·conv => lhs; whnf
                      refine t_cond ?_ ?_
                      ·conv => lhs; whnf
                       refine t_get (en := ep) (l := Prod.fst r16) (by first | rfl | simp only [ml] <;> rfl) fun p1 => ?_
                       conv => lhs; whnf
                       refine t_call (h_impl_IsOnLine (Pt.x p) (Pt.y p) (Pt.x p1) (Pt.y p1) (Prod.fst (Prod.snd r16)) (Prod.snd (Prod.snd r16))) fun r19 => ?_
                       conv => lhs; whnf
                       refine t_cond ?_ ?_
                       ·conv => lhs; whnf
                        exact hrec ((true, wr IntKind.i64 (iadd v480 1))) _ _ (by first | rfl | simp only [ml] <;> rfl) (by first | rfl | simp only [ml] <;> rfl)
                       ·conv => lhs; whnf
                        refine t_cond ?_ ?_
                        ·conv => lhs; whnf
                         exact hrec ((Prod.fst r19, wr IntKind.i64 (iadd v480 1))) _ _ (by first | rfl | simp only [ml] <;> rfl) (by first | rfl | simp only [ml] <;> rfl)
                        ·conv => lhs; whnf
                         exact hrec ((false, wr IntKind.i64 (iadd v480 1))) _ _ (by first | rfl | simp only [ml] <;> rfl) (by first | rfl | simp only [ml] <;> rfl)
                      ·conv => lhs; whnf
                       exact t_none
                    ·conv => lhs; whnf
                     exact t_none
                   ·conv => lhs; whnf
                    exact t_ret (by first | rfl | simp only [ml] <;> rfl)
                  ·conv => lhs; whnf
                   exact t_ret (by first | rfl | simp only [ml] <;> rfl)
                 ·conv => lhs; whnf
                  exact t_ret (by first | rfl | simp only [ml] <;> rfl)
              ·conv => lhs; whnf
               refine t_cond ?_ ?_
               ·conv => lhs; whnf
                refine t_cond ?_ ?_
                ·conv => lhs; whnf
                 exact t_ret (by first | rfl | simp only [ml] <;> rfl)
                ·conv => lhs; whnf
                 refine t_call (h_laws_zAbs (Prod.fst r4)) fun r20 => ?_
                 conv => lhs; whnf
                 refine t_cond ?_ ?_
                 ·conv => lhs; whnf
                  exact t_ret (by first | rfl | simp only [ml] <;> rfl)
                 ·conv => lhs; whnf
                  refine t_cond ?_ ?_
                  ·conv => lhs; whnf
                   exact t_ret (by first | rfl | simp only [ml] <;> rfl)
                  ·conv => lhs; whnf
                   refine t_cond ?_ ?_
                   ·conv => lhs; whnf
                    exact t_ret (by first | rfl | simp only [ml] <;> rfl)
                   ·conv => lhs; whnf
                    refine t_loop (fun (v284 : Int) => (AV.top :: AV.lst ob cb 1 (List.map eU b) :: topA 3 (AV.own 0 2 none false :: AV.own 1 2 none false :: topA 3 (AV.int IntKind.i64 (Prod.fst r4) :: topA 3 (AV.int IntKind.i64 (Prod.fst r6) :: topA 7 (AV.bool (Prod.fst r10) :: topA 3 (AV.own 2 2 none false :: topA 3 (AV.own 3 2 none false :: topA 251 (AV.own 1 2 none false :: AV.int IntKind.i64 (ilen (List.map ep (Prod.fst r2))) :: AV.int IntKind.i64 v284 :: tops 223))))))), [Blk.rows Mode.live 2 (List.map ep r1), Blk.rows Mode.live 2 (List.map ep (Prod.fst r2)), Blk.rows Mode.live 2 (List.map ep (Prod.fst r12)), Blk.rows Mode.live 2 (List.map ep (Prod.fst r14))])) (fun m1 (v284 : Int) => laws_FnPickHolds_l12 L b r1 r2 r4 r6 r10 r12 r14 m1 v284) (fun _ => rfl) (fun m1 v284 rec1 hrec1 => ?_) L 0 ?_ ?_
                    rotate_left
                    ·first | rfl | simp only [ml] <;> rfl
                    ·first | rfl | simp only [ml] <;> rfl
                    show _ = Option.map _ (laws_FnPickHolds_l12 L b r1 r2 r4 r6 r10 r12 r14 (m1 + 1) v284)
                    rw [laws_FnPickHolds_l12.eq_2]
                    conv => lhs; whnf
                    refine t_cond ?_ ?_
                    ·conv => lhs; whnf
                     refine t_cond ?_ ?_
                     ·conv => lhs; whnf
                      refine t_get (en := ep) (l := Prod.fst r2) (by first | rfl | simp only [ml] <;> rfl) fun p2 => ?_
                      conv => lhs; whnf
                      refine t_call (h_impl_WhereIs _ _ _ r1 (by first | rfl | simp only [ml] <;> rfl) (Pt.x p2) (Pt.y p2)) fun r21 => ?_
                      conv => lhs; whnf
                      refine t_cond ?_ ?_
                      ·conv => lhs; whnf
                       exact t_ret (by first | rfl | simp only [ml] <;> rfl)
                      ·conv => lhs; whnf
                       refine t_cond ?_ ?_
                       ·conv => lhs; whnf
                        exact t_ret (by first | rfl | simp only [ml] <;> rfl)
                       ·conv => lhs; whnf
                        refine t_cond ?_ ?_
                        ·conv => lhs; whnf
                         refine t_cond ?_ ?_
                         ·conv => lhs; whnf
                          refine t_get (en := ep) (l := Prod.fst r2) (by first | rfl | simp only [ml] <;> rfl) fun p3 => ?_
                          conv => lhs; whnf
                          refine t_call (h_laws_zLess _ _ _ (p3 :: []) (by first | rfl | simp only [ml] <;> rfl) _ _ _ (p2 :: []) (by first | rfl | simp only [ml] <;> rfl)) fun r22 => ?_
                          conv => lhs; whnf
                          refine t_cond ?_ ?_
                          ·conv => lhs; whnf
                           exact t_ret (by first | rfl | simp only [ml] <;> rfl)
                          ·conv => lhs; whnf
                           exact hrec1 (wr IntKind.i64 (iadd v284 1)) _ _ (by first | rfl | simp only [ml] <;> rfl) (by first | rfl | simp only [ml] <;> rfl)
                         ·conv => lhs; whnf
                          exact t_none
                        ·conv => lhs; whnf
                         exact hrec1 (wr IntKind.i64 (iadd v284 1)) _ _ (by first | rfl | simp only [ml] <;> rfl) (by first | rfl | simp only [ml] <;> rfl)
                     ·conv => lhs; whnf
                      exact t_none
                    ·conv => lhs; whnf
                     refine t_loop (fun (⟨v38, v320⟩ : Int × Int) => (AV.top :: AV.lst ob cb 1 (List.map eU b) :: topA 3 (AV.own 0 2 none false :: topA 4 (AV.int IntKind.i64 (Prod.fst r4) :: topA 3 (AV.int IntKind.i64 (Prod.fst r6) :: topA 7 (AV.bool (Prod.fst r10) :: topA 3 (AV.own 1 2 none false :: topA 3 (AV.own 2 2 none false :: topA 7 (AV.int IntKind.i64 v38 :: topA 279 (AV.own 0 2 none false :: AV.int IntKind.i64 (ilen (List.map ep r1)) :: AV.int IntKind.i64 v320 :: tops 187)))))))), [Blk.rows Mode.live 2 (List.map ep r1), Blk.rows Mode.live 2 (List.map ep (Prod.fst r12)), Blk.rows Mode.live 2 (List.map ep (Prod.fst r14))])) (fun m2 (⟨v38, v320⟩ : Int × Int) => laws_FnPickHolds_l13 L b r1 r4 r6 r10 r12 r14 m2 v38 v320) (fun _ => rfl) (fun m2 s13 rec2 hrec2 => ?_) L ((0, 0)) ?_ ?_
                     rotate_left
                     ·first | rfl | simp only [ml] <;> rfl
                     ·first | rfl | simp only [ml] <;> rfl
                     obtain ⟨v38, v320⟩ := s13
                     show _ = Option.map _ (laws_FnPickHolds_l13 L b r1 r4 r6 r10 r12 r14 (m2 + 1) v38 v320)
                     rw [laws_FnPickHolds_l13.eq_2]
                     conv => lhs; whnf
                     refine t_cond ?_ ?_
                     ·conv => lhs; whnf
                      refine t_cond ?_ ?_
                      ·conv => lhs; whnf
                       refine t_get (en := ep) (l := r1) (by first | rfl | simp only [ml] <;> rfl) fun p4 => ?_
                       conv => lhs; whnf
                       refine t_call (h_impl_WhereIs _ _ _ r1 (by first | rfl | simp only [ml] <;> rfl) (Pt.x p4) (Pt.y p4)) fun r23 => ?_
                       conv => lhs; whnf
                       refine t_cond ?_ ?_
                       ·conv => lhs; whnf
                        exact t_none
                       ·conv => lhs; whnf
                        refine t_cond ?_ ?_
                        ·conv => lhs; whnf
                         refine t_get (en := ep) (l := r1) (by first | rfl | simp only [ml] <;> rfl) fun p5 => ?_
                         conv => lhs; whnf
                         refine t_call (h_impl_PegsOnLine (Pt.x p4) (Pt.y p4) (Pt.x p5) (Pt.y p5)) fun r24 => ?_
                         conv => lhs; whnf
                         refine t_cond ?_ ?_
                         ·conv => lhs; whnf
                          exact t_ret (by first | rfl | simp only [ml] <;> rfl)
                         ·conv => lhs; whnf
                          refine t_cond ?_ ?_
                          ·conv => lhs; whnf
                           exact t_ret (by first | rfl | simp only [ml] <;> rfl)
                          ·conv => lhs; whnf
                           refine t_cond ?_ ?_
                           ·conv => lhs; whnf
                            exact t_ret (by first | rfl | simp only [ml] <;> rfl)
                           ·conv => lhs; whnf
                            exact hrec2 ((wr IntKind.i64 (iadd v38 (wr IntKind.i64 (isub (Prod.fst r24) 1))), wr IntKind.i64 (iadd v320 1))) _ _ (by first | rfl | simp only [ml] <;> rfl) (by first | rfl | simp only [ml] <;> rfl)
                        ·conv => lhs; whnf
                         exact t_none
                      ·conv => lhs; whnf
                       exact t_none
                     ·conv => lhs; whnf
                      refine t_call (h_impl_TwiceArea _ _ _ (Prod.fst r12) (by first | rfl | simp only [ml] <;> rfl)) fun r25 => ?_
                      conv => lhs; whnf
                      refine t_call (h_impl_BackPolygon _ _ _ (Prod.fst r12) (by first | rfl | simp only [ml] <;> rfl)) fun r26 => ?_
                      conv => lhs; whnf
                      refine t_call (h_impl_TwiceArea _ _ _ (Prod.fst r14) (by first | rfl | simp only [ml] <;> rfl)) fun r27 => ?_
                      conv => lhs; whnf
                      refine t_call (h_impl_TellFirst _ _ _ (Prod.fst r12) (by first | rfl | simp only [ml] <;> rfl)) fun r28 => ?_
                      conv => lhs; whnf
                      refine t_call (h_impl_IsConvex _ _ _ (Prod.fst r14) (by first | rfl | simp only [ml] <;> rfl)) fun r29 => ?_
                      conv => lhs; whnf
                      refine t_join (fun (v396 : Bool) => (AV.top :: AV.lst ob cb 1 (List.map eU b) :: topA 3 (AV.own 0 2 none false :: topA 4 (AV.int IntKind.i64 (Prod.fst r4) :: topA 11 (AV.bool (Prod.fst r10) :: topA 7 (AV.own 1 2 none false :: topA 16 (AV.own 2 2 none false :: AV.bool (Prod.snd r26) :: AV.int IntKind.i64 (Prod.fst r27) :: AV.bool (Prod.snd r27) :: AV.own 3 2 none false :: AV.bool (Prod.snd r28) :: AV.bool (Prod.fst r29) :: AV.bool (Prod.snd r29) :: topA 341 (AV.bool v396 :: tops 111)))))), [Blk.rows Mode.live 2 (List.map ep r1), Blk.rows Mode.live 2 (List.map ep (Prod.fst r14)), Blk.rows Mode.live 2 (List.map ep (Prod.fst r26)), Blk.rows Mode.live 2 (List.map ep (Prod.fst r28))])) (fun (v396 : Bool) => laws_FnPickHolds_j14 L b r1 r4 r10 r14 r26 r27 r28 r29 v396) ?_ fun J11 hJ11 => ?_
                      ·intro v396
                       show _ = Option.map _ (laws_FnPickHolds_j14 L b r1 r4 r10 r14 r26 r27 r28 r29 v396)
                       unfold laws_FnPickHolds_j14
                       conv => lhs; whnf
                       refine t_join (fun (v406 : Bool) => (AV.top :: AV.lst ob cb 1 (List.map eU b) :: topA 8 (AV.int IntKind.i64 (Prod.fst r4) :: topA 11 (AV.bool (Prod.fst r10) :: topA 7 (AV.own 0 2 none false :: topA 18 (AV.int IntKind.i64 (Prod.fst r27) :: AV.bool (Prod.snd r27) :: AV.own 1 2 none false :: AV.bool (Prod.snd r28) :: AV.bool (Prod.fst r29) :: AV.bool (Prod.snd r29) :: topA 351 (AV.bool v406 :: tops 101))))), [Blk.rows Mode.live 2 (List.map ep (Prod.fst r14)), Blk.rows Mode.live 2 (List.map ep (Prod.fst r28))])) (fun (v406 : Bool) => laws_FnPickHolds_j15 L b r4 r10 r14 r27 r28 r29 v406) ?_ fun J12 hJ12 => ?_
                       ·intro v406
                        show _ = Option.map _ (laws_FnPickHolds_j15 L b r4 r10 r14 r27 r28 r29 v406)
                        unfold laws_FnPickHolds_j15
                        conv => lhs; whnf
                        refine t_join (fun (v416 : Bool) => (AV.top :: AV.lst ob cb 1 (List.map eU b) :: topA 20 (AV.bool (Prod.fst r10) :: topA 7 (AV.own 0 2 none false :: topA 20 (AV.own 1 2 none false :: AV.bool (Prod.snd r28) :: AV.bool (Prod.fst r29) :: AV.bool (Prod.snd r29) :: topA 361 (AV.bool v416 :: tops 91)))), [Blk.rows Mode.live 2 (List.map ep (Prod.fst r14)), Blk.rows Mode.live 2 (List.map ep (Prod.fst r28))])) (fun (v416 : Bool) => laws_FnPickHolds_j16 L b r10 r14 r28 r29 v416) ?_ fun J13 hJ13 => ?_
                        ·intro v416
                         show _ = Option.map _ (laws_FnPickHolds_j16 L b r10 r14 r28 r29 v416)
                         unfold laws_FnPickHolds_j16
                         conv => lhs; whnf
                         refine t_join (fun (v426 : Bool) => (AV.top :: AV.lst ob cb 1 (List.map eU b) :: topA 20 (AV.bool (Prod.fst r10) :: topA 7 (AV.own 0 2 none false :: topA 22 (AV.bool (Prod.fst r29) :: AV.bool (Prod.snd r29) :: topA 371 (AV.bool v426 :: tops 81)))), [Blk.rows Mode.live 2 (List.map ep (Prod.fst r14))])) (fun (v426 : Bool) => laws_FnPickHolds_j17 L b r10 r14 r29 v426) ?_ fun J14 hJ14 => ?_
                         ·intro v426
                          show _ = Option.map _ (laws_FnPickHolds_j17 L b r10 r14 r29 v426)
                          unfold laws_FnPickHolds_j17
                          conv => lhs; whnf
                          refine t_cond ?_ ?_
                          ·conv => lhs; whnf
                           exact t_ret (by first | rfl | simp only [ml] <;> rfl)
                          ·conv => lhs; whnf
                           refine t_cond ?_ ?_
                           ·conv => lhs; whnf
                            exact t_ret (by first | rfl | simp only [ml] <;> rfl)
                           ·conv => lhs; whnf
                            refine t_cond ?_ ?_
                            ·conv => lhs; whnf
                             exact t_ret (by first | rfl | simp only [ml] <;> rfl)
                            ·conv => lhs; whnf
                             refine t_loop (fun (v438 : Int) => (AV.top :: AV.lst ob cb 1 (List.map eU b) :: topA 28 (AV.own 0 2 none false :: topA 405 (AV.own 0 2 none false :: AV.int IntKind.i64 (ilen (List.map ep (Prod.fst r14))) :: AV.int IntKind.i64 v438 :: tops 69)), [Blk.rows Mode.live 2 (List.map ep (Prod.fst r14))])) (fun m3 (v438 : Int) => laws_FnPickHolds_l18 L b r14 m3 v438) (fun _ => rfl) (fun m3 v438 rec3 hrec3 => ?_) L 0 ?_ ?_
                             rotate_left
                             ·first | rfl | simp only [ml] <;> rfl
                             ·first | rfl | simp only [ml] <;> rfl
                             show _ = Option.map _ (laws_FnPickHolds_l18 L b r14 (m3 + 1) v438)
                             rw [laws_FnPickHolds_l18.eq_2]
                             conv => lhs; whnf
                             refine t_cond ?_ ?_
                             ·conv => lhs; whnf
                              refine t_cond ?_ ?_
                              ·conv => lhs; whnf
                               refine t_get (en := ep) (l := Prod.fst r14) (by first | rfl | simp only [ml] <;> rfl) fun p6 => ?_
                               conv => lhs; whnf
                               refine t_cond ?_ ?_
                               ·conv => lhs; whnf
                                refine t_call (h_laws_zLess _ _ _ (p6 :: []) (by first | rfl | simp only [ml] <;> rfl) _ _ _ (lsub (Prod.fst r14) 0 (iadd 0 1)) (by first | rfl | simp only [ml] <;> rfl)) fun r30 => ?_
                                conv => lhs; whnf
                                refine t_cond ?_ ?_
                                ·conv => lhs; whnf
                                 exact t_ret (by first | rfl | simp only [ml] <;> rfl)
                                ·conv => lhs; whnf
                                 exact hrec3 (wr IntKind.i64 (iadd v438 1)) _ _ (by first | rfl | simp only [ml] <;> rfl) (by first | rfl | simp only [ml] <;> rfl)
                               ·conv => lhs; whnf
                                exact t_none
                              ·conv => lhs; whnf
                               exact t_none
                             ·conv => lhs; whnf
                              exact hJ10 b _ _ (by first | rfl | simp only [ml] <;> rfl) (by first | rfl | simp only [ml] <;> rfl)
                         ·conv => lhs; whnf
                          refine t_cond ?_ ?_
                          ·conv => lhs; whnf
                           exact hJ14 true _ _ (by first | rfl | simp only [ml] <;> rfl) (by first | rfl | simp only [ml] <;> rfl)
                          ·conv => lhs; whnf
                           refine t_cond ?_ ?_
                           ·conv => lhs; whnf
                            exact hJ14 true _ _ (by first | rfl | simp only [ml] <;> rfl) (by first | rfl | simp only [ml] <;> rfl)
                           ·conv => lhs; whnf
                            refine t_call (h_laws_zPegs _ _ _ (Prod.fst r28) (by first | rfl | simp only [ml] <;> rfl) _ _ _ (Prod.fst r14) (by first | rfl | simp only [ml] <;> rfl)) fun r31 => ?_
                            conv => lhs; whnf
                            exact hJ14 (!r31) _ _ (by first | rfl | simp only [ml] <;> rfl) (by first | rfl | simp only [ml] <;> rfl)
                        ·conv => lhs; whnf
                         refine t_cond ?_ ?_
                         ·conv => lhs; whnf
                          exact hJ13 true _ _ (by first | rfl | simp only [ml] <;> rfl) (by first | rfl | simp only [ml] <;> rfl)
                         ·conv => lhs; whnf
                          refine t_cond ?_ ?_
                          ·conv => lhs; whnf
                           exact hJ13 true _ _ (by first | rfl | simp only [ml] <;> rfl) (by first | rfl | simp only [ml] <;> rfl)
                          ·conv => lhs; whnf
                           refine t_call (h_laws_zAbs (Prod.fst r4)) fun r32 => ?_
                           conv => lhs; whnf
                           exact hJ13 (!ieq (Prod.fst r27) r32) _ _ (by first | rfl | simp only [ml] <;> rfl) (by first | rfl | simp only [ml] <;> rfl)
                       ·conv => lhs; whnf
                        refine t_cond ?_ ?_
                        ·conv => lhs; whnf
                         exact hJ12 true _ _ (by first | rfl | simp only [ml] <;> rfl) (by first | rfl | simp only [ml] <;> rfl)
                        ·conv => lhs; whnf
                         refine t_cond ?_ ?_
                         ·conv => lhs; whnf
                          exact hJ12 true _ _ (by first | rfl | simp only [ml] <;> rfl) (by first | rfl | simp only [ml] <;> rfl)
                         ·conv => lhs; whnf
                          refine t_call (h_laws_zPegs _ _ _ (Prod.fst r26) (by first | rfl | simp only [ml] <;> rfl) _ _ _ r1 (by first | rfl | simp only [ml] <;> rfl)) fun r33 => ?_
                          conv => lhs; whnf
                          exact hJ12 (!r33) _ _ (by first | rfl | simp only [ml] <;> rfl) (by first | rfl | simp only [ml] <;> rfl)
                      ·conv => lhs; whnf
                       refine t_cond ?_ ?_
                       ·conv => lhs; whnf
                        exact hJ11 true _ _ (by first | rfl | simp only [ml] <;> rfl) (by first | rfl | simp only [ml] <;> rfl)
                       ·conv => lhs; whnf
                        refine t_cond ?_ ?_
                        ·conv => lhs; whnf
                         exact hJ11 true _ _ (by first | rfl | simp only [ml] <;> rfl) (by first | rfl | simp only [ml] <;> rfl)
                        ·conv => lhs; whnf
                         exact hJ11 (!ieq (Prod.fst r25) (wr IntKind.i64 (isub 0 (Prod.fst r4)))) _ _ (by first | rfl | simp only [ml] <;> rfl) (by first | rfl | simp only [ml] <;> rfl)
               ·conv => lhs; whnf
                exact hJ10 b _ _ (by first | rfl | simp only [ml] <;> rfl) (by first | rfl | simp only [ml] <;> rfl)
           ·conv => lhs; whnf
            refine t_cond ?_ ?_
            ·conv => lhs; whnf
             exact hJ9 true _ _ (by first | rfl | simp only [ml] <;> rfl) (by first | rfl | simp only [ml] <;> rfl)
            ·conv => lhs; whnf
             refine t_cond ?_ ?_
             ·conv => lhs; whnf
              exact hJ9 true _ _ (by first | rfl | simp only [ml] <;> rfl) (by first | rfl | simp only [ml] <;> rfl)
             ·conv => lhs; whnf
              exact hJ9 (!beqb (Prod.snd r12) (Prod.snd r2)) _ _ (by first | rfl | simp only [ml] <;> rfl) (by first | rfl | simp only [ml] <;> rfl)
          ·conv => lhs; whnf
           refine t_cond ?_ ?_
           ·conv => lhs; whnf
            exact hJ8 true _ _ (by first | rfl | simp only [ml] <;> rfl) (by first | rfl | simp only [ml] <;> rfl)
           ·conv => lhs; whnf
            refine t_cond ?_ ?_
            ·conv => lhs; whnf
             exact hJ8 true _ _ (by first | rfl | simp only [ml] <;> rfl) (by first | rfl | simp only [ml] <;> rfl)
            ·conv => lhs; whnf
             exact hJ8 (!beqb (Prod.snd r8) (Prod.snd r2)) _ _ (by first | rfl | simp only [ml] <;> rfl) (by first | rfl | simp only [ml] <;> rfl)
         ·conv => lhs; whnf
          refine t_cond ?_ ?_
          ·conv => lhs; whnf
           exact hJ7 true _ _ (by first | rfl | simp only [ml] <;> rfl) (by first | rfl | simp only [ml] <;> rfl)
          ·conv => lhs; whnf
           refine t_call (h_impl_IsPolygon _ _ _ r1 (by first | rfl | simp only [ml] <;> rfl)) fun r34 => ?_
           conv => lhs; whnf
           refine t_call (h_spec_IsPolygon _ _ _ r1 (by first | rfl | simp only [ml] <;> rfl)) fun r35 => ?_
           conv => lhs; whnf
           refine t_cond ?_ ?_
           ·conv => lhs; whnf
            exact hJ7 true _ _ (by first | rfl | simp only [ml] <;> rfl) (by first | rfl | simp only [ml] <;> rfl)
           ·conv => lhs; whnf
            exact hJ7 (!beqb (Prod.snd r4) (Prod.snd r2)) _ _ (by first | rfl | simp only [ml] <;> rfl) (by first | rfl | simp only [ml] <;> rfl)
        ·conv => lhs; whnf
         refine t_cond ?_ ?_
         ·conv => lhs; whnf
          exact hJ6 true _ _ (by first | rfl | simp only [ml] <;> rfl) (by first | rfl | simp only [ml] <;> rfl)
         ·conv => lhs; whnf
          refine t_call (h_laws_zPegs _ _ _ (Prod.fst r14) (by first | rfl | simp only [ml] <;> rfl) _ _ _ (Prod.fst r15) (by first | rfl | simp only [ml] <;> rfl)) fun r36 => ?_
          conv => lhs; whnf
          refine t_cond ?_ ?_
          ·conv => lhs; whnf
           exact hJ6 true _ _ (by first | rfl | simp only [ml] <;> rfl) (by first | rfl | simp only [ml] <;> rfl)
          ·conv => lhs; whnf
           refine t_call (h_impl_IsPolygon _ _ _ r1 (by first | rfl | simp only [ml] <;> rfl)) fun r37 => ?_
           conv => lhs; whnf
           exact hJ6 (!beqb (Prod.snd r2) r37) _ _ (by first | rfl | simp only [ml] <;> rfl) (by first | rfl | simp only [ml] <;> rfl)
       ·conv => lhs; whnf
        refine t_cond ?_ ?_
        ·conv => lhs; whnf
         exact hJ5 true _ _ (by first | rfl | simp only [ml] <;> rfl) (by first | rfl | simp only [ml] <;> rfl)
        ·conv => lhs; whnf
         refine t_call (h_laws_zPegs _ _ _ (Prod.fst r12) (by first | rfl | simp only [ml] <;> rfl) _ _ _ (Prod.fst r13) (by first | rfl | simp only [ml] <;> rfl)) fun r38 => ?_
         conv => lhs; whnf
         refine t_cond ?_ ?_
         ·conv => lhs; whnf
          exact hJ5 true _ _ (by first | rfl | simp only [ml] <;> rfl) (by first | rfl | simp only [ml] <;> rfl)
         ·conv => lhs; whnf
          exact hJ5 (!beqb (Prod.snd r14) (Prod.snd r15)) _ _ (by first | rfl | simp only [ml] <;> rfl) (by first | rfl | simp only [ml] <;> rfl)
      ·conv => lhs; whnf
       refine t_cond ?_ ?_
       ·conv => lhs; whnf
        exact hJ4 true _ _ (by first | rfl | simp only [ml] <;> rfl) (by first | rfl | simp only [ml] <;> rfl)
       ·conv => lhs; whnf
        refine t_cond ?_ ?_
        ·conv => lhs; whnf
         exact hJ4 true _ _ (by first | rfl | simp only [ml] <;> rfl) (by first | rfl | simp only [ml] <;> rfl)
        ·conv => lhs; whnf
         exact hJ4 (!beqb (Prod.snd r12) (Prod.snd r13)) _ _ (by first | rfl | simp only [ml] <;> rfl) (by first | rfl | simp only [ml] <;> rfl)
     ·conv => lhs; whnf
      refine t_cond ?_ ?_
      ·conv => lhs; whnf
       exact hJ3 true _ _ (by first | rfl | simp only [ml] <;> rfl) (by first | rfl | simp only [ml] <;> rfl)
      ·conv => lhs; whnf
       refine t_cond ?_ ?_
       ·conv => lhs; whnf
        exact hJ3 true _ _ (by first | rfl | simp only [ml] <;> rfl) (by first | rfl | simp only [ml] <;> rfl)
       ·conv => lhs; whnf
        exact hJ3 (!beqb (Prod.snd r10) (Prod.snd r11)) _ _ (by first | rfl | simp only [ml] <;> rfl) (by first | rfl | simp only [ml] <;> rfl)
    ·conv => lhs; whnf
     refine t_cond ?_ ?_
     ·conv => lhs; whnf
      exact hJ2 true _ _ (by first | rfl | simp only [ml] <;> rfl) (by first | rfl | simp only [ml] <;> rfl)
     ·conv => lhs; whnf
      refine t_cond ?_ ?_
      ·conv => lhs; whnf
       exact hJ2 true _ _ (by first | rfl | simp only [ml] <;> rfl) (by first | rfl | simp only [ml] <;> rfl)
      ·conv => lhs; whnf
       exact hJ2 (!beqb (Prod.snd r8) (Prod.snd r9)) _ _ (by first | rfl | simp only [ml] <;> rfl) (by first | rfl | simp only [ml] <;> rfl)
   ·conv => lhs; whnf
    refine t_cond ?_ ?_
    ·conv => lhs; whnf
     exact hJ1 true _ _ (by first | rfl | simp only [ml] <;> rfl) (by first | rfl | simp only [ml] <;> rfl)
    ·conv => lhs; whnf
     refine t_cond ?_ ?_
     ·conv => lhs; whnf
      exact hJ1 true _ _ (by first | rfl | simp only [ml] <;> rfl) (by first | rfl | simp only [ml] <;> rfl)
     ·conv => lhs; whnf
      exact hJ1 (!beqb (Prod.snd r6) (Prod.snd r7)) _ _ (by first | rfl | simp only [ml] <;> rfl) (by first | rfl | simp only [ml] <;> rfl)
  ·conv => lhs; whnf
   refine t_cond ?_ ?_
   ·conv => lhs; whnf
    exact hJ true _ _ (by first | rfl | simp only [ml] <;> rfl) (by first | rfl | simp only [ml] <;> rfl)
   ·conv => lhs; whnf
    refine t_call (h_laws_zPegs _ _ _ (Prod.fst r2) (by first | rfl | simp only [ml] <;> rfl) _ _ _ (Prod.fst r3) (by first | rfl | simp only [ml] <;> rfl)) fun r39 => ?_
    conv => lhs; whnf
    refine t_cond ?_ ?_
    ·conv => lhs; whnf
     exact hJ true _ _ (by first | rfl | simp only [ml] <;> rfl) (by first | rfl | simp only [ml] <;> rfl)
    ·conv => lhs; whnf
     exact hJ (!beqb (Prod.snd r4) (Prod.snd r5)) _ _ (by first | rfl | simp only [ml] <;> rfl) (by first | rfl | simp only [ml] <;> rfl)
end Go.AM
