import Derived.Test.YtkpegcamiholbaaGreatAmSeat
set_option linter.unusedVariables false
set_option linter.unusedSimpArgs false
set_option linter.unnecessarySimpa false
set_option linter.deprecated false
set_option linter.unusedSectionVars false
open Go Go.AM Go.Proofs
namespace Go.AM
set_option maxRecDepth 400000
set_option maxHeartbeats 40000000
noncomputable def laws_big (L : Nat) (a : List Int) (b : List Int) : Option (Bool) := bif ilt 1048576 (ilen (List.map eU a)) then (some true) else (some (ilt (wr IntKind.i64 (isub 1048576 (ilen (List.map eU a)))) (ilen (List.map eU b))))
def laws_big_ok (L : Nat) (C : CF) : Prop := ∀ (oa : Bool) (ca : Bool) (x_a : List AV) (a : List Int) (_ : x_a = List.map eU a) (ob : Bool) (cb : Bool) (x_b : List AV) (b : List Int) (_ : x_b = List.map eU b), C 4 ([.lst oa ca 1 x_a, .lst ob cb 1 x_b]) ([]) = Option.map (fun r : Bool => ((.bool r, []) : AV × List Blk)) (laws_big L a b)
theorem laws_big_run (L : Nat) (C : CF) : ∀ (oa : Bool) (ca : Bool) (x_a : List AV) (a : List Int) (_ : x_a = List.map eU a) (ob : Bool) (cb : Bool) (x_b : List AV) (b : List Int) (_ : x_b = List.map eU b), run T C sh (keep 4) L Tryz.f4 ([.lst oa ca 1 x_a, .lst ob cb 1 x_b]) ([]) = Option.map (fun r : Bool => ((.bool r, []) : AV × List Blk)) (laws_big L a b) := by
 intro oa ca x_a a hx_a ob cb x_b b hx_b
 subst hx_a
 subst hx_b
 unfold laws_big
 conv => lhs; whnf
 refine t_cond ?_ ?_
 ·conv => lhs; whnf
  exact t_ret (by first | rfl | simp only [ml] <;> rfl)
 ·conv => lhs; whnf
  exact t_ret (by first | rfl | simp only [ml] <;> rfl)
noncomputable def spec_l1Cur_next (L : Nat) (a_0 : List Int) (a_1 : Int) (a_2 : Int) : Option (Int × Int × Int) := bif ilt a_1 (ilen (List.map eU a_0)) then (gbind (lget a_0 a_1) fun p => bif ile (wr IntKind.i64 (iadd a_1 1)) (ilen (List.map eU a_0)) then (some ((wr IntKind.i64 p, wr IntKind.i64 (iadd a_1 1), wr IntKind.u64 (iadd (wr IntKind.u64 (iadd (wr IntKind.u64 (imul a_2 6364136223846793005)) (wr IntKind.u64 (wr IntKind.i64 p)))) 1442695040888963407)))) else (bif ilt 40 0 then (none) else (some ((wr IntKind.i64 (iand IntKind.u64 (ishr IntKind.u64 (wr IntKind.u64 (iadd (wr IntKind.u64 (iadd (wr IntKind.u64 (imul a_2 6364136223846793005)) (wr IntKind.u64 (wr IntKind.i64 p)))) 1442695040888963407)) 40) 255), wr IntKind.i64 (iadd a_1 1), wr IntKind.u64 (iadd (wr IntKind.u64 (iadd (wr IntKind.u64 (imul a_2 6364136223846793005)) (wr IntKind.u64 (wr IntKind.i64 p)))) 1442695040888963407)))))) else (bif ile (wr IntKind.i64 (iadd a_1 1)) (ilen (List.map eU a_0)) then (some ((0, wr IntKind.i64 (iadd a_1 1), wr IntKind.u64 (iadd (wr IntKind.u64 (iadd (wr IntKind.u64 (imul a_2 6364136223846793005)) (wr IntKind.u64 0))) 1442695040888963407)))) else (bif ilt 40 0 then (none) else (some ((wr IntKind.i64 (iand IntKind.u64 (ishr IntKind.u64 (wr IntKind.u64 (iadd (wr IntKind.u64 (iadd (wr IntKind.u64 (imul a_2 6364136223846793005)) (wr IntKind.u64 0))) 1442695040888963407)) 40) 255), wr IntKind.i64 (iadd a_1 1), wr IntKind.u64 (iadd (wr IntKind.u64 (iadd (wr IntKind.u64 (imul a_2 6364136223846793005)) (wr IntKind.u64 0))) 1442695040888963407))))))
def spec_l1Cur_next_ok (L : Nat) (C : CF) : Prop := ∀ (oa_0 : Bool) (ca_0 : Bool) (x_a_0 : List AV) (a_0 : List Int) (_ : x_a_0 = List.map eU a_0) (a_1 : Int) (a_2 : Int), C 92 ([.ptr 0 0 0 3]) ([.box (.agg [.lst oa_0 ca_0 1 x_a_0, .int .i64 a_1, .int .u64 a_2])]) = Option.map (fun r : Int × Int × Int => ((.int .i64 (r.1), [.box (.agg [.lst oa_0 ca_0 1 x_a_0, .int .i64 (r.2.1), .int .u64 (r.2.2)])]) : AV × List Blk)) (spec_l1Cur_next L a_0 a_1 a_2)
theorem spec_l1Cur_next_run (L : Nat) (C : CF) : ∀ (oa_0 : Bool) (ca_0 : Bool) (x_a_0 : List AV) (a_0 : List Int) (_ : x_a_0 = List.map eU a_0) (a_1 : Int) (a_2 : Int), run T C sh (keep 92) L Tryz.f92 ([.ptr 0 0 0 3]) ([.box (.agg [.lst oa_0 ca_0 1 x_a_0, .int .i64 a_1, .int .u64 a_2])]) = Option.map (fun r : Int × Int × Int => ((.int .i64 (r.1), [.box (.agg [.lst oa_0 ca_0 1 x_a_0, .int .i64 (r.2.1), .int .u64 (r.2.2)])]) : AV × List Blk)) (spec_l1Cur_next L a_0 a_1 a_2) := by
 intro oa_0 ca_0 x_a_0 a_0 hx_a_0 a_1 a_2
 subst hx_a_0
 unfold spec_l1Cur_next
 conv => lhs; whnf
 refine t_cond ?_ ?_
 ·conv => lhs; whnf
  refine t_get (en := eU) (l := a_0) (by first | rfl | simp only [ml] <;> rfl) fun p => ?_
  conv => lhs; whnf
  refine t_cond ?_ ?_
  ·conv => lhs; whnf
   exact t_ret (by first | rfl | simp only [ml] <;> rfl)
  ·conv => lhs; whnf
   refine t_cond ?_ ?_
   ·conv => lhs; whnf
    exact t_none
   ·conv => lhs; whnf
    exact t_ret (by first | rfl | simp only [ml] <;> rfl)
 ·conv => lhs; whnf
  refine t_cond ?_ ?_
  ·conv => lhs; whnf
   exact t_ret (by first | rfl | simp only [ml] <;> rfl)
  ·conv => lhs; whnf
   refine t_cond ?_ ?_
   ·conv => lhs; whnf
    exact t_none
   ·conv => lhs; whnf
    exact t_ret (by first | rfl | simp only [ml] <;> rfl)
noncomputable def spec_l1Cur_pick (L : Nat) (a_0 : List Int) (a_1 : Int) (a_2 : Int) (b : Int) : Option (Int × Int × Int) := bif ile b 1 then (some ((0, a_1, a_2))) else (gbind (spec_l1Cur_next L a_0 a_1 a_2) fun r => bif ilt 200 b then (gbind (spec_l1Cur_next L a_0 (Prod.fst (Prod.snd r)) (Prod.snd (Prod.snd r))) fun r1 => bif ieq b 0 then (none) else (some ((irem (wr IntKind.i64 (iadd (wr IntKind.i64 (imul (Prod.fst r) 256)) (Prod.fst r1))) b, Prod.fst (Prod.snd r1), Prod.snd (Prod.snd r1))))) else (bif ieq b 0 then (none) else (some ((irem (Prod.fst r) b, Prod.fst (Prod.snd r), Prod.snd (Prod.snd r))))))
def spec_l1Cur_pick_ok (L : Nat) (C : CF) : Prop := ∀ (oa_0 : Bool) (ca_0 : Bool) (x_a_0 : List AV) (a_0 : List Int) (_ : x_a_0 = List.map eU a_0) (a_1 : Int) (a_2 : Int) (b : Int), C 68 ([.ptr 0 0 0 3, .int .i64 b]) ([.box (.agg [.lst oa_0 ca_0 1 x_a_0, .int .i64 a_1, .int .u64 a_2])]) = Option.map (fun r : Int × Int × Int => ((.int .i64 (r.1), [.box (.agg [.lst oa_0 ca_0 1 x_a_0, .int .i64 (r.2.1), .int .u64 (r.2.2)])]) : AV × List Blk)) (spec_l1Cur_pick L a_0 a_1 a_2 b)
theorem spec_l1Cur_pick_run (L : Nat) (C : CF) (h_spec_l1Cur_next : spec_l1Cur_next_ok L C) : ∀ (oa_0 : Bool) (ca_0 : Bool) (x_a_0 : List AV) (a_0 : List Int) (_ : x_a_0 = List.map eU a_0) (a_1 : Int) (a_2 : Int) (b : Int), run T C sh (keep 68) L Tryz.f68 ([.ptr 0 0 0 3, .int .i64 b]) ([.box (.agg [.lst oa_0 ca_0 1 x_a_0, .int .i64 a_1, .int .u64 a_2])]) = Option.map (fun r : Int × Int × Int => ((.int .i64 (r.1), [.box (.agg [.lst oa_0 ca_0 1 x_a_0, .int .i64 (r.2.1), .int .u64 (r.2.2)])]) : AV × List Blk)) (spec_l1Cur_pick L a_0 a_1 a_2 b) := by
 intro oa_0 ca_0 x_a_0 a_0 hx_a_0 a_1 a_2 b
 subst hx_a_0
 unfold spec_l1Cur_pick
 conv => lhs; whnf
 refine t_cond ?_ ?_
 ·conv => lhs; whnf
  exact t_ret (by first | rfl | simp only [ml] <;> rfl)
 ·conv => lhs; whnf
  refine t_call (h_spec_l1Cur_next _ _ _ a_0 (by first | rfl | simp only [ml] <;> rfl) a_1 a_2) fun r => ?_
  conv => lhs; whnf
  refine t_cond ?_ ?_
  ·conv => lhs; whnf
   refine t_call (h_spec_l1Cur_next _ _ _ a_0 (by first | rfl | simp only [ml] <;> rfl) (Prod.fst (Prod.snd r)) (Prod.snd (Prod.snd r))) fun r1 => ?_
   conv => lhs; whnf
   refine t_cond ?_ ?_
   ·conv => lhs; whnf
    exact t_none
   ·conv => lhs; whnf
    exact t_ret (by first | rfl | simp only [ml] <;> rfl)
  ·conv => lhs; whnf
   refine t_cond ?_ ?_
   ·conv => lhs; whnf
    exact t_none
   ·conv => lhs; whnf
    exact t_ret (by first | rfl | simp only [ml] <;> rfl)
noncomputable def spec_l1Cur_surePeg (L : Nat) (a_0 : List Int) (a_1 : Int) (a_2 : Int) (b : Int) : Option (Int × Int × Int × Int) := gbind (spec_l1Cur_pick L a_0 a_1 a_2 (wr IntKind.i64 (iadd (wr IntKind.i64 (imul 2 b)) 1))) fun r => gbind (spec_l1Cur_pick L a_0 (Prod.fst (Prod.snd r)) (Prod.snd (Prod.snd r)) (wr IntKind.i64 (iadd (wr IntKind.i64 (imul 2 b)) 1))) fun r1 => some ((wr IntKind.i64 (isub (Prod.fst r) b), wr IntKind.i64 (isub (Prod.fst r1) b), Prod.fst (Prod.snd r1), Prod.snd (Prod.snd r1)))
def spec_l1Cur_surePeg_ok (L : Nat) (C : CF) : Prop := ∀ (oa_0 : Bool) (ca_0 : Bool) (x_a_0 : List AV) (a_0 : List Int) (_ : x_a_0 = List.map eU a_0) (a_1 : Int) (a_2 : Int) (b : Int), C 86 ([.ptr 0 0 0 3, .int .i64 b]) ([.box (.agg [.lst oa_0 ca_0 1 x_a_0, .int .i64 a_1, .int .u64 a_2])]) = Option.map (fun r : Int × Int × Int × Int => ((.agg [.int .i64 (r.1), .int .i64 (r.2.1)], [.box (.agg [.lst oa_0 ca_0 1 x_a_0, .int .i64 (r.2.2.1), .int .u64 (r.2.2.2)])]) : AV × List Blk)) (spec_l1Cur_surePeg L a_0 a_1 a_2 b)
theorem spec_l1Cur_surePeg_run (L : Nat) (C : CF) (h_spec_l1Cur_pick : spec_l1Cur_pick_ok L C) : ∀ (oa_0 : Bool) (ca_0 : Bool) (x_a_0 : List AV) (a_0 : List Int) (_ : x_a_0 = List.map eU a_0) (a_1 : Int) (a_2 : Int) (b : Int), run T C sh (keep 86) L Tryz.f86 ([.ptr 0 0 0 3, .int .i64 b]) ([.box (.agg [.lst oa_0 ca_0 1 x_a_0, .int .i64 a_1, .int .u64 a_2])]) = Option.map (fun r : Int × Int × Int × Int => ((.agg [.int .i64 (r.1), .int .i64 (r.2.1)], [.box (.agg [.lst oa_0 ca_0 1 x_a_0, .int .i64 (r.2.2.1), .int .u64 (r.2.2.2)])]) : AV × List Blk)) (spec_l1Cur_surePeg L a_0 a_1 a_2 b) := by
 intro oa_0 ca_0 x_a_0 a_0 hx_a_0 a_1 a_2 b
 subst hx_a_0
 unfold spec_l1Cur_surePeg
 conv => lhs; whnf
 refine t_call (h_spec_l1Cur_pick _ _ _ a_0 (by first | rfl | simp only [ml] <;> rfl) a_1 a_2 (wr IntKind.i64 (iadd (wr IntKind.i64 (imul 2 b)) 1))) fun r => ?_
 conv => lhs; whnf
 refine t_call (h_spec_l1Cur_pick _ _ _ a_0 (by first | rfl | simp only [ml] <;> rfl) (Prod.fst (Prod.snd r)) (Prod.snd (Prod.snd r)) (wr IntKind.i64 (iadd (wr IntKind.i64 (imul 2 b)) 1))) fun r1 => ?_
 conv => lhs; whnf
 exact t_ret (by first | rfl | simp only [ml] <;> rfl)
noncomputable def spec_bdHas_l0 (L : Nat) (a : List Pt) (b_0 : Int) (b_1 : Int) : Nat → Int → Option Bool
  | 0, _ => none
  | m + 1, v9 => bif ilt v9 (ilen (List.map ep a)) then (gbind (lget a v9) fun p => bif ieq b_0 (Pt.x p) && ieq b_1 (Pt.y p) then (some true) else (spec_bdHas_l0 L a b_0 b_1 m (wr IntKind.i64 (iadd v9 1)))) else (some false)
noncomputable def spec_bdHas (L : Nat) (a : List Pt) (b_0 : Int) (b_1 : Int) : Option (Bool) := spec_bdHas_l0 L a b_0 b_1 L 0
def spec_bdHas_ok (L : Nat) (C : CF) : Prop := ∀ (oa : Bool) (ca : Bool) (x_a : List AV) (a : List Pt) (_ : x_a = List.map ep a) (b_0 : Int) (b_1 : Int), C 63 ([.lst oa ca 2 x_a, .agg [.int .i64 b_0, .int .i64 b_1]]) ([]) = Option.map (fun r : Bool => ((.bool r, []) : AV × List Blk)) (spec_bdHas L a b_0 b_1)
theorem spec_bdHas_run (L : Nat) (C : CF) : ∀ (oa : Bool) (ca : Bool) (x_a : List AV) (a : List Pt) (_ : x_a = List.map ep a) (b_0 : Int) (b_1 : Int), run T C sh (keep 63) L Tryz.f63 ([.lst oa ca 2 x_a, .agg [.int .i64 b_0, .int .i64 b_1]]) ([]) = Option.map (fun r : Bool => ((.bool r, []) : AV × List Blk)) (spec_bdHas L a b_0 b_1) := by
 intro oa ca x_a a hx_a b_0 b_1
 subst hx_a
 unfold spec_bdHas
 conv => lhs; whnf
 refine t_loop (fun (v9 : Int) => (topA 3 (AV.ptr 0 0 0 2 :: topA 3 (AV.lst oa ca 2 (List.map ep a) :: AV.int IntKind.i64 (ilen (List.map ep a)) :: AV.int IntKind.i64 v9 :: tops 7)), [Blk.box (AV.agg [AV.int IntKind.i64 b_0, AV.int IntKind.i64 b_1])])) (fun m (v9 : Int) => spec_bdHas_l0 L a b_0 b_1 m v9) (fun _ => rfl) (fun m v9 rec hrec => ?_) L 0 ?_ ?_
 rotate_left
 ·first | rfl | simp only [ml] <;> rfl
 ·first | rfl | simp only [ml] <;> rfl
 show _ = Option.map _ (spec_bdHas_l0 L a b_0 b_1 (m + 1) v9)
 rw [spec_bdHas_l0.eq_2]
 conv => lhs; whnf
 refine t_cond ?_ ?_
 ·conv => lhs; whnf
  refine t_get (en := ep) (l := a) (by first | rfl | simp only [ml] <;> rfl) fun p => ?_
  conv => lhs; whnf
  refine t_cond ?_ ?_
  ·conv => lhs; whnf
   exact t_ret (by first | rfl | simp only [ml] <;> rfl)
  ·conv => lhs; whnf
   exact hrec (wr IntKind.i64 (iadd v9 1)) _ _ (by first | rfl | simp only [ml] <;> rfl) (by first | rfl | simp only [ml] <;> rfl)
 ·conv => lhs; whnf
  exact t_ret (by first | rfl | simp only [ml] <;> rfl)
noncomputable def spec_l1Cur_one (L : Nat) (a_0 : List Int) (a_1 : Int) (a_2 : Int) (b : Int) : Option (Bool × Int × Int) := gbind (spec_l1Cur_pick L a_0 a_1 a_2 b) fun r => some ((ieq (Prod.fst r) 0, Prod.fst (Prod.snd r), Prod.snd (Prod.snd r)))
def spec_l1Cur_one_ok (L : Nat) (C : CF) : Prop := ∀ (oa_0 : Bool) (ca_0 : Bool) (x_a_0 : List AV) (a_0 : List Int) (_ : x_a_0 = List.map eU a_0) (a_1 : Int) (a_2 : Int) (b : Int), C 67 ([.ptr 0 0 0 3, .int .i64 b]) ([.box (.agg [.lst oa_0 ca_0 1 x_a_0, .int .i64 a_1, .int .u64 a_2])]) = Option.map (fun r : Bool × Int × Int => ((.bool (r.1), [.box (.agg [.lst oa_0 ca_0 1 x_a_0, .int .i64 (r.2.1), .int .u64 (r.2.2)])]) : AV × List Blk)) (spec_l1Cur_one L a_0 a_1 a_2 b)
theorem spec_l1Cur_one_run (L : Nat) (C : CF) (h_spec_l1Cur_pick : spec_l1Cur_pick_ok L C) : ∀ (oa_0 : Bool) (ca_0 : Bool) (x_a_0 : List AV) (a_0 : List Int) (_ : x_a_0 = List.map eU a_0) (a_1 : Int) (a_2 : Int) (b : Int), run T C sh (keep 67) L Tryz.f67 ([.ptr 0 0 0 3, .int .i64 b]) ([.box (.agg [.lst oa_0 ca_0 1 x_a_0, .int .i64 a_1, .int .u64 a_2])]) = Option.map (fun r : Bool × Int × Int => ((.bool (r.1), [.box (.agg [.lst oa_0 ca_0 1 x_a_0, .int .i64 (r.2.1), .int .u64 (r.2.2)])]) : AV × List Blk)) (spec_l1Cur_one L a_0 a_1 a_2 b) := by
 intro oa_0 ca_0 x_a_0 a_0 hx_a_0 a_1 a_2 b
 subst hx_a_0
 unfold spec_l1Cur_one
 conv => lhs; whnf
 refine t_call (h_spec_l1Cur_pick _ _ _ a_0 (by first | rfl | simp only [ml] <;> rfl) a_1 a_2 b) fun r => ?_
 conv => lhs; whnf
 exact t_ret (by first | rfl | simp only [ml] <;> rfl)
noncomputable def spec_l1Cur_among_v2 (L : Nat) (b0_0 : List Int) (b0_1 : Int) (b0_2 : Int) (w1 : List Int) : Option (Int × Int × Int × (List Int)) := gbind (spec_l1Cur_pick L b0_0 b0_1 b0_2 (ilen (List.map eI w1))) fun r => bif ile 0 (Prod.fst r) && ilt (Prod.fst r) (ilen (List.map eI w1)) then (gbind (lget w1 (Prod.fst r)) fun p => some ((p, Prod.fst (Prod.snd r), Prod.snd (Prod.snd r), w1))) else (none)
def spec_l1Cur_among_v2_ok (L : Nat) (C : CF) : Prop := ∀ (ob0_0 : Bool) (cb0_0 : Bool) (x_b0_0 : List AV) (b0_0 : List Int) (_ : x_b0_0 = List.map eU b0_0) (b0_1 : Int) (b0_2 : Int) (x_w1 : List AV) (w1 : List Int) (_ : x_w1 = List.map eI w1), C 91 ([(.ptr 0 0 0 3), (.own 1 1 none false)]) ([.box (.agg [(.lst ob0_0 cb0_0 1 x_b0_0), (.int .i64 b0_1), (.int .u64 b0_2)]), .rows .live 1 x_w1]) = Option.map (fun r : Int × Int × Int × (List Int) => ((.int .i64 (r.1), [.box (.agg [(.lst ob0_0 cb0_0 1 x_b0_0), (.int .i64 (r.2.1)), (.int .u64 (r.2.2.1))]), .rows .live 1 (List.map eI (r.2.2.2))]) : AV × List Blk)) (spec_l1Cur_among_v2 L b0_0 b0_1 b0_2 w1)
theorem spec_l1Cur_among_v2_run (L : Nat) (C : CF) (h_spec_l1Cur_pick : spec_l1Cur_pick_ok L C) : ∀ (ob0_0 : Bool) (cb0_0 : Bool) (x_b0_0 : List AV) (b0_0 : List Int) (_ : x_b0_0 = List.map eU b0_0) (b0_1 : Int) (b0_2 : Int) (x_w1 : List AV) (w1 : List Int) (_ : x_w1 = List.map eI w1), run T C sh (keep 91) L Tryz.f91 ([(.ptr 0 0 0 3), (.own 1 1 none false)]) ([.box (.agg [(.lst ob0_0 cb0_0 1 x_b0_0), (.int .i64 b0_1), (.int .u64 b0_2)]), .rows .live 1 x_w1]) = Option.map (fun r : Int × Int × Int × (List Int) => ((.int .i64 (r.1), [.box (.agg [(.lst ob0_0 cb0_0 1 x_b0_0), (.int .i64 (r.2.1)), (.int .u64 (r.2.2.1))]), .rows .live 1 (List.map eI (r.2.2.2))]) : AV × List Blk)) (spec_l1Cur_among_v2 L b0_0 b0_1 b0_2 w1) := by
 intro ob0_0 cb0_0 x_b0_0 b0_0 hx_b0_0 b0_1 b0_2 x_w1 w1 hx_w1
 subst hx_b0_0
 subst hx_w1
 unfold spec_l1Cur_among_v2
 conv => lhs; whnf
 refine t_call (h_spec_l1Cur_pick _ _ _ b0_0 (by first | rfl | simp only [ml] <;> rfl) b0_1 b0_2 (ilen (List.map eI w1))) fun r => ?_
 conv => lhs; whnf
 refine t_cond ?_ ?_
 ·conv => lhs; whnf
  refine t_get (en := eI) (l := w1) (by first | rfl | simp only [ml] <;> rfl) fun p => ?_
  conv => lhs; whnf
  exact t_ret (by first | rfl | simp only [ml] <;> rfl)
 ·conv => lhs; whnf
  exact t_none
noncomputable def spec_l1Cur_peg (L : Nat) (a_0 : List Int) (a_1 : Int) (a_2 : Int) : Option (Int × Int × Int × Int) := gbind (spec_l1Cur_one L a_0 a_1 a_2 12) fun r => bif Prod.fst r then (gbind (spec_l1Cur_among_v2 L a_0 (Prod.fst (Prod.snd r)) (Prod.snd (Prod.snd r)) (0 :: (40 :: (-40 :: (41 :: (4611686018427387904 :: [])))))) fun r1 => gbind (spec_l1Cur_among_v2 L a_0 (Prod.fst (Prod.snd r1)) (Prod.fst (Prod.snd (Prod.snd r1))) (0 :: (1 :: (40 :: (-41 :: (-9223372036854775808 :: [])))))) fun r2 => some ((Prod.fst r1, Prod.fst r2, Prod.fst (Prod.snd r2), Prod.fst (Prod.snd (Prod.snd r2))))) else (gbind (spec_l1Cur_surePeg L a_0 (Prod.fst (Prod.snd r)) (Prod.snd (Prod.snd r)) 6) fun r3 => some ((Prod.fst r3, Prod.fst (Prod.snd r3), Prod.fst (Prod.snd (Prod.snd r3)), Prod.snd (Prod.snd (Prod.snd r3)))))
def spec_l1Cur_peg_ok (L : Nat) (C : CF) : Prop := ∀ (oa_0 : Bool) (ca_0 : Bool) (x_a_0 : List AV) (a_0 : List Int) (_ : x_a_0 = List.map eU a_0) (a_1 : Int) (a_2 : Int), C 64 ([.ptr 0 0 0 3]) ([.box (.agg [.lst oa_0 ca_0 1 x_a_0, .int .i64 a_1, .int .u64 a_2])]) = Option.map (fun r : Int × Int × Int × Int => ((.agg [.int .i64 (r.1), .int .i64 (r.2.1)], [.box (.agg [.lst oa_0 ca_0 1 x_a_0, .int .i64 (r.2.2.1), .int .u64 (r.2.2.2)])]) : AV × List Blk)) (spec_l1Cur_peg L a_0 a_1 a_2)
theorem spec_l1Cur_peg_run (L : Nat) (C : CF) (h_spec_l1Cur_surePeg : spec_l1Cur_surePeg_ok L C) (h_spec_l1Cur_one : spec_l1Cur_one_ok L C) (h_spec_l1Cur_among_v2 : spec_l1Cur_among_v2_ok L C) : ∀ (oa_0 : Bool) (ca_0 : Bool) (x_a_0 : List AV) (a_0 : List Int) (_ : x_a_0 = List.map eU a_0) (a_1 : Int) (a_2 : Int), run T C sh (keep 64) L Tryz.f64 ([.ptr 0 0 0 3]) ([.box (.agg [.lst oa_0 ca_0 1 x_a_0, .int .i64 a_1, .int .u64 a_2])]) = Option.map (fun r : Int × Int × Int × Int => ((.agg [.int .i64 (r.1), .int .i64 (r.2.1)], [.box (.agg [.lst oa_0 ca_0 1 x_a_0, .int .i64 (r.2.2.1), .int .u64 (r.2.2.2)])]) : AV × List Blk)) (spec_l1Cur_peg L a_0 a_1 a_2) := by
 intro oa_0 ca_0 x_a_0 a_0 hx_a_0 a_1 a_2
 subst hx_a_0
 unfold spec_l1Cur_peg
 conv => lhs; whnf
 refine t_call (h_spec_l1Cur_one _ _ _ a_0 (by first | rfl | simp only [ml] <;> rfl) a_1 a_2 12) fun r => ?_
 conv => lhs; whnf
 refine t_cond ?_ ?_
 ·conv => lhs; whnf
  refine t_call (h_spec_l1Cur_among_v2 _ _ _ a_0 (by first | rfl | simp only [ml] <;> rfl) (Prod.fst (Prod.snd r)) (Prod.snd (Prod.snd r)) _ (0 :: (40 :: (-40 :: (41 :: (4611686018427387904 :: []))))) (by first | rfl | simp only [ml] <;> rfl)) fun r1 => ?_
  conv => lhs; whnf
  refine t_call (h_spec_l1Cur_among_v2 _ _ _ a_0 (by first | rfl | simp only [ml] <;> rfl) (Prod.fst (Prod.snd r1)) (Prod.fst (Prod.snd (Prod.snd r1))) _ (0 :: (1 :: (40 :: (-41 :: (-9223372036854775808 :: []))))) (by first | rfl | simp only [ml] <;> rfl)) fun r2 => ?_
  conv => lhs; whnf
  exact t_ret (by first | rfl | simp only [ml] <;> rfl)
 ·conv => lhs; whnf
  refine t_call (h_spec_l1Cur_surePeg _ _ _ a_0 (by first | rfl | simp only [ml] <;> rfl) (Prod.fst (Prod.snd r)) (Prod.snd (Prod.snd r)) 6) fun r3 => ?_
  conv => lhs; whnf
  exact t_ret (by first | rfl | simp only [ml] <;> rfl)
noncomputable def spec_l1Cur_pegs_l1 (L : Nat) (a_0 : List Int) : Nat → Int → Int → (List Pt) → Option ((List Pt) × Int × Int)
  | 0, _, _, _ => none
  | m1 + 1, b0_11, b0_21, w11 => gbind (spec_l1Cur_pick L a_0 b0_11 b0_21 2) fun r5 => bif ilt (ilen (List.map ep w11)) (wr IntKind.i64 (iadd 30 (Prod.fst r5))) then (bif ieq 7 0 then (none) else (bif fits (iadd (ilen (List.map ep w11)) (ilen [AV.agg [AV.int IntKind.i64 (ilen (List.map ep w11)), AV.int IntKind.i64 (irem (wr IntKind.i64 (imul (ilen (List.map ep w11)) (ilen (List.map ep w11)))) 7)]])) 16 then (spec_l1Cur_pegs_l1 L a_0 m1 (Prod.fst (Prod.snd r5)) (Prod.snd (Prod.snd r5)) (lcat w11 ({ x := ilen (List.map ep w11), y := irem (wr IntKind.i64 (imul (ilen (List.map ep w11)) (ilen (List.map ep w11)))) 7 } :: []))) else (none))) else (some ((w11, Prod.fst (Prod.snd r5), Prod.snd (Prod.snd r5))))
noncomputable def spec_l1Cur_pegs_l2 (L : Nat) (w1 : List Pt) (r3 : Int × Int × Int) : Nat → Int → (List Pt) → Option ((List Pt) × Int × Int)
  | 0, _, _ => none
  | m2 + 1, v65, w12 => bif ilt v65 (ilen (List.map ep w1)) then (bif ile 0 v65 && ilt v65 (ilen (List.map ep w12)) then (gbind (lget w12 v65) fun p => spec_l1Cur_pegs_l2 L w1 r3 m2 (wr IntKind.i64 (iadd v65 1)) (lset w12 v65 ({ x := v65, y := wr IntKind.i64 (imul 2 v65) }))) else (none)) else (some ((w12, Prod.fst (Prod.snd r3), Prod.snd (Prod.snd r3))))
noncomputable def spec_l1Cur_pegs_l0 (L : Nat) (a_0 : List Int) (c : Int) : Nat → Int → Int → Int → (List Pt) → Option ((List Pt) × Int × Int)
  | 0, _, _, _, _ => none
  | m + 1, v8, b0_1, b0_2, w1 => bif ilt 0 v8 then (gbind (spec_l1Cur_surePeg L a_0 b0_1 b0_2 c) fun r1 => gbind (spec_bdHas L w1 (Prod.fst r1) (Prod.fst (Prod.snd r1))) fun r2 => bif !r2 then (bif fits (iadd (ilen (List.map ep w1)) (ilen [AV.agg [AV.int IntKind.i64 (Prod.fst r1), AV.int IntKind.i64 (Prod.fst (Prod.snd r1))]])) 16 then (spec_l1Cur_pegs_l0 L a_0 c m (wr IntKind.i64 (isub v8 1)) (Prod.fst (Prod.snd (Prod.snd r1))) (Prod.snd (Prod.snd (Prod.snd r1))) (lcat w1 ({ x := Prod.fst r1, y := Prod.fst (Prod.snd r1) } :: []))) else (none)) else (spec_l1Cur_pegs_l0 L a_0 c m (wr IntKind.i64 (isub v8 1)) (Prod.fst (Prod.snd (Prod.snd r1))) (Prod.snd (Prod.snd (Prod.snd r1))) w1)) else (gbind (spec_l1Cur_pick L a_0 b0_1 b0_2 16) fun r3 => bif ieq (Prod.fst r3) 0 then (gbind (spec_l1Cur_peg L a_0 (Prod.fst (Prod.snd r3)) (Prod.snd (Prod.snd r3))) fun r4 => bif fits (iadd (ilen (List.map ep w1)) (ilen [AV.agg [AV.int IntKind.i64 (Prod.fst r4), AV.int IntKind.i64 (Prod.fst (Prod.snd r4))]])) 16 then (some ((lcat w1 ({ x := Prod.fst r4, y := Prod.fst (Prod.snd r4) } :: []), Prod.fst (Prod.snd (Prod.snd r4)), Prod.snd (Prod.snd (Prod.snd r4))))) else (none)) else (bif ieq (Prod.fst r3) 1 then (some (([], Prod.fst (Prod.snd r3), Prod.snd (Prod.snd r3)))) else (bif ieq (Prod.fst r3) 2 then (spec_l1Cur_pegs_l1 L a_0 L (Prod.fst (Prod.snd r3)) (Prod.snd (Prod.snd r3)) []) else (bif ieq (Prod.fst r3) 3 then (spec_l1Cur_pegs_l2 L w1 r3 L 0 w1) else (some ((w1, Prod.fst (Prod.snd r3), Prod.snd (Prod.snd r3))))))))
noncomputable def spec_l1Cur_pegs (L : Nat) (a_0 : List Int) (a_1 : Int) (a_2 : Int) (b : Int) (c : Int) : Option ((List Pt) × Int × Int) := gbind (spec_l1Cur_pick L a_0 a_1 a_2 b) fun r => spec_l1Cur_pegs_l0 L a_0 c L (wr IntKind.i64 (iadd 1 (Prod.fst r))) (Prod.fst (Prod.snd r)) (Prod.snd (Prod.snd r)) []
def spec_l1Cur_pegs_ok (L : Nat) (C : CF) : Prop := ∀ (oa_0 : Bool) (ca_0 : Bool) (x_a_0 : List AV) (a_0 : List Int) (_ : x_a_0 = List.map eU a_0) (a_1 : Int) (a_2 : Int) (b : Int) (c : Int), C 59 ([.ptr 0 0 0 3, .int .i64 b, .int .i64 c]) ([.box (.agg [.lst oa_0 ca_0 1 x_a_0, .int .i64 a_1, .int .u64 a_2])]) = Option.map (fun r : (List Pt) × Int × Int => ((.frs 2 (List.map ep (r.1)), [.box (.agg [.lst oa_0 ca_0 1 x_a_0, .int .i64 (r.2.1), .int .u64 (r.2.2)])]) : AV × List Blk)) (spec_l1Cur_pegs L a_0 a_1 a_2 b c)
theorem spec_l1Cur_pegs_run (L : Nat) (C : CF) (h_spec_l1Cur_pick : spec_l1Cur_pick_ok L C) (h_spec_l1Cur_surePeg : spec_l1Cur_surePeg_ok L C) (h_spec_bdHas : spec_bdHas_ok L C) (h_spec_l1Cur_peg : spec_l1Cur_peg_ok L C) : ∀ (oa_0 : Bool) (ca_0 : Bool) (x_a_0 : List AV) (a_0 : List Int) (_ : x_a_0 = List.map eU a_0) (a_1 : Int) (a_2 : Int) (b : Int) (c : Int), run T C sh (keep 59) L Tryz.f59 ([.ptr 0 0 0 3, .int .i64 b, .int .i64 c]) ([.box (.agg [.lst oa_0 ca_0 1 x_a_0, .int .i64 a_1, .int .u64 a_2])]) = Option.map (fun r : (List Pt) × Int × Int => ((.frs 2 (List.map ep (r.1)), [.box (.agg [.lst oa_0 ca_0 1 x_a_0, .int .i64 (r.2.1), .int .u64 (r.2.2)])]) : AV × List Blk)) (spec_l1Cur_pegs L a_0 a_1 a_2 b c) := by
 intro oa_0 ca_0 x_a_0 a_0 hx_a_0 a_1 a_2 b c
 subst hx_a_0
 unfold spec_l1Cur_pegs
 conv => lhs; whnf
 refine t_call (h_spec_l1Cur_pick _ _ _ a_0 (by first | rfl | simp only [ml] <;> rfl) a_1 a_2 b) fun r => ?_
 conv => lhs; whnf
 refine t_loop (fun (⟨v8, b0_1, b0_2, w1⟩ : Int × Int × Int × (List Pt)) => (AV.ptr 0 0 0 3 :: AV.top :: AV.int IntKind.i64 c :: topA 4 (AV.own 1 2 none false :: AV.int IntKind.i64 v8 :: tops 68), [Blk.box (AV.agg [AV.lst oa_0 ca_0 1 (List.map eU a_0), AV.int IntKind.i64 b0_1, AV.int IntKind.u64 b0_2]), Blk.rows Mode.live 2 (List.map ep w1)])) (fun m (⟨v8, b0_1, b0_2, w1⟩ : Int × Int × Int × (List Pt)) => spec_l1Cur_pegs_l0 L a_0 c m v8 b0_1 b0_2 w1) (fun _ => rfl) (fun m s rec hrec => ?_) L ((wr IntKind.i64 (iadd 1 (Prod.fst r)), Prod.fst (Prod.snd r), Prod.snd (Prod.snd r), [])) ?_ ?_
 rotate_left
 ·first | rfl | simp only [ml] <;> rfl
 ·first | rfl | simp only [ml] <;> rfl
 obtain ⟨v8, b0_1, b0_2, w1⟩ := s
 show _ = Option.map _ (spec_l1Cur_pegs_l0 L a_0 c (m + 1) v8 b0_1 b0_2 w1)
 rw [spec_l1Cur_pegs_l0.eq_2]
 conv => lhs; whnf
 refine t_cond ?_ ?_
 ·conv => lhs; whnf
  refine t_call (h_spec_l1Cur_surePeg _ _ _ a_0 (by first | rfl | simp only [ml] <;> rfl) b0_1 b0_2 c) fun r1 => ?_
  conv => lhs; whnf
  refine t_call (h_spec_bdHas _ _ _ w1 (by first | rfl | simp only [ml] <;> rfl) (Prod.fst r1) (Prod.fst (Prod.snd r1))) fun r2 => ?_
  conv => lhs; whnf
  refine t_cond ?_ ?_
  ·conv => lhs; whnf
   refine t_cond ?_ ?_
   ·conv => lhs; whnf
    exact hrec ((wr IntKind.i64 (isub v8 1), Prod.fst (Prod.snd (Prod.snd r1)), Prod.snd (Prod.snd (Prod.snd r1)), lcat w1 ({ x := Prod.fst r1, y := Prod.fst (Prod.snd r1) } :: []))) _ _ (by first | rfl | simp only [ml] <;> rfl) (by first | rfl | simp only [ml] <;> rfl)
   ·conv => lhs; whnf
    exact t_none
  ·conv => lhs; whnf
   exact hrec ((wr IntKind.i64 (isub v8 1), Prod.fst (Prod.snd (Prod.snd r1)), Prod.snd (Prod.snd (Prod.snd r1)), w1)) _ _ (by first | rfl | simp only [ml] <;> rfl) (by first | rfl | simp only [ml] <;> rfl)
 ·conv => lhs; whnf
  refine t_call (h_spec_l1Cur_pick _ _ _ a_0 (by first | rfl | simp only [ml] <;> rfl) b0_1 b0_2 16) fun r3 => ?_
  conv => lhs; whnf
  refine t_cond ?_ ?_
  ·conv => lhs; whnf
   refine t_call (h_spec_l1Cur_peg _ _ _ a_0 (by first | rfl | simp only [ml] <;> rfl) (Prod.fst (Prod.snd r3)) (Prod.snd (Prod.snd r3))) fun r4 => ?_
   conv => lhs; whnf
   refine t_cond ?_ ?_
   ·conv => lhs; whnf
    exact t_ret (by first | rfl | simp only [ml] <;> rfl)
   ·conv => lhs; whnf
    exact t_none
  ·conv => lhs; whnf
   refine t_cond ?_ ?_
   ·conv => lhs; whnf
    exact t_ret (by first | rfl | simp only [ml] <;> rfl)
   ·conv => lhs; whnf
    refine t_cond ?_ ?_
    ·conv => lhs; whnf
     refine t_loop (fun (⟨b0_11, b0_21, w11⟩ : Int × Int × (List Pt)) => (AV.ptr 0 0 0 3 :: topA 6 (AV.own 1 2 none false :: tops 69), [Blk.box (AV.agg [AV.lst oa_0 ca_0 1 (List.map eU a_0), AV.int IntKind.i64 b0_11, AV.int IntKind.u64 b0_21]), Blk.rows Mode.live 2 (List.map ep w11)])) (fun m1 (⟨b0_11, b0_21, w11⟩ : Int × Int × (List Pt)) => spec_l1Cur_pegs_l1 L a_0 m1 b0_11 b0_21 w11) (fun _ => rfl) (fun m1 s1 rec1 hrec1 => ?_) L ((Prod.fst (Prod.snd r3), Prod.snd (Prod.snd r3), [])) ?_ ?_
     rotate_left
     ·first | rfl | simp only [ml] <;> rfl
     ·first | rfl | simp only [ml] <;> rfl
     obtain ⟨b0_11, b0_21, w11⟩ := s1
     show _ = Option.map _ (spec_l1Cur_pegs_l1 L a_0 (m1 + 1) b0_11 b0_21 w11)
     rw [spec_l1Cur_pegs_l1.eq_2]
     conv => lhs; whnf
     refine t_call (h_spec_l1Cur_pick _ _ _ a_0 (by first | rfl | simp only [ml] <;> rfl) b0_11 b0_21 2) fun r5 => ?_
     conv => lhs; whnf
     refine t_cond ?_ ?_
     ·conv => lhs; whnf
      refine t_cond ?_ ?_
      ·conv => lhs; whnf
       exact t_none
      ·conv => lhs; whnf
       refine t_cond ?_ ?_
       ·conv => lhs; whnf
        exact hrec1 ((Prod.fst (Prod.snd r5), Prod.snd (Prod.snd r5), lcat w11 ({ x := ilen (List.map ep w11), y := irem (wr IntKind.i64 (imul (ilen (List.map ep w11)) (ilen (List.map ep w11)))) 7 } :: []))) _ _ (by first | rfl | simp only [ml] <;> rfl) (by first | rfl | simp only [ml] <;> rfl)
       ·conv => lhs; whnf
        exact t_none
     ·conv => lhs; whnf
      exact t_ret (by first | rfl | simp only [ml] <;> rfl)
    ·conv => lhs; whnf
     refine t_cond ?_ ?_
     ·conv => lhs; whnf
      refine t_loop (fun (⟨v65, w12⟩ : Int × (List Pt)) => (topA 7 (AV.own 1 2 none false :: topA 56 (AV.int IntKind.i64 (ilen (List.map ep w1)) :: AV.int IntKind.i64 v65 :: tops 11)), [Blk.box (AV.agg [AV.lst oa_0 ca_0 1 (List.map eU a_0), AV.int IntKind.i64 (Prod.fst (Prod.snd r3)), AV.int IntKind.u64 (Prod.snd (Prod.snd r3))]), Blk.rows Mode.live 2 (List.map ep w12)])) (fun m2 (⟨v65, w12⟩ : Int × (List Pt)) => spec_l1Cur_pegs_l2 L w1 r3 m2 v65 w12) (fun _ => rfl) (fun m2 s2 rec2 hrec2 => ?_) L ((0, w1)) ?_ ?_
      rotate_left
      ·first | rfl | simp only [ml] <;> rfl
      ·first | rfl | simp only [ml] <;> rfl
      obtain ⟨v65, w12⟩ := s2
      show _ = Option.map _ (spec_l1Cur_pegs_l2 L w1 r3 (m2 + 1) v65 w12)
      rw [spec_l1Cur_pegs_l2.eq_2]
      conv => lhs; whnf
      refine t_cond ?_ ?_
      ·conv => lhs; whnf
       refine t_cond ?_ ?_
       ·conv => lhs; whnf
        refine t_get (en := ep) (l := w12) (by first | rfl | simp only [ml] <;> rfl) fun p => ?_
        conv => lhs; whnf
        exact hrec2 ((wr IntKind.i64 (iadd v65 1), lset w12 v65 ({ x := v65, y := wr IntKind.i64 (imul 2 v65) }))) _ _ (by first | rfl | simp only [ml] <;> rfl) (by first | rfl | simp only [ml] <;> rfl)
       ·conv => lhs; whnf
        exact t_none
      ·conv => lhs; whnf
       exact t_ret (by first | rfl | simp only [ml] <;> rfl)
     ·conv => lhs; whnf
      exact t_ret (by first | rfl | simp only [ml] <;> rfl)
noncomputable def spec_DrawAreDifferent (L : Nat) (a : List Int) : Option ((List Pt)) := gbind (spec_l1Cur_pegs L a 0 0 10 4) fun r => some (Prod.fst r)
def spec_DrawAreDifferent_ok (L : Nat) (C : CF) : Prop := ∀ (oa : Bool) (ca : Bool) (x_a : List AV) (a : List Int) (_ : x_a = List.map eU a), C 37 ([.lst oa ca 1 x_a]) ([]) = Option.map (fun r : (List Pt) => ((.frs 2 (List.map ep r), []) : AV × List Blk)) (spec_DrawAreDifferent L a)
theorem spec_DrawAreDifferent_run (L : Nat) (C : CF) (h_spec_l1Cur_pegs : spec_l1Cur_pegs_ok L C) : ∀ (oa : Bool) (ca : Bool) (x_a : List AV) (a : List Int) (_ : x_a = List.map eU a), run T C sh (keep 37) L Tryz.f37 ([.lst oa ca 1 x_a]) ([]) = Option.map (fun r : (List Pt) => ((.frs 2 (List.map ep r), []) : AV × List Blk)) (spec_DrawAreDifferent L a) := by
 intro oa ca x_a a hx_a
 subst hx_a
 unfold spec_DrawAreDifferent
 conv => lhs; whnf
 refine t_call (h_spec_l1Cur_pegs _ _ _ a (by first | rfl | simp only [ml] <;> rfl) 0 0 10 4) fun r => ?_
 conv => lhs; whnf
 exact t_ret (by first | rfl | simp only [ml] <;> rfl)
noncomputable def spec_DrawBandOf (L : Nat) (a : List Int) : Option ((List Pt)) := gbind (spec_DrawAreDifferent L a) fun r => some r
def spec_DrawBandOf_ok (L : Nat) (C : CF) : Prop := ∀ (oa : Bool) (ca : Bool) (x_a : List AV) (a : List Int) (_ : x_a = List.map eU a), C 5 ([.lst oa ca 1 x_a]) ([]) = Option.map (fun r : (List Pt) => ((.frs 2 (List.map ep r), []) : AV × List Blk)) (spec_DrawBandOf L a)
theorem spec_DrawBandOf_run (L : Nat) (C : CF) (h_spec_DrawAreDifferent : spec_DrawAreDifferent_ok L C) : ∀ (oa : Bool) (ca : Bool) (x_a : List AV) (a : List Int) (_ : x_a = List.map eU a), run T C sh (keep 5) L Tryz.f5 ([.lst oa ca 1 x_a]) ([]) = Option.map (fun r : (List Pt) => ((.frs 2 (List.map ep r), []) : AV × List Blk)) (spec_DrawBandOf L a) := by
 intro oa ca x_a a hx_a
 subst hx_a
 unfold spec_DrawBandOf
 conv => lhs; whnf
 refine t_call (h_spec_DrawAreDifferent _ _ _ a (by first | rfl | simp only [ml] <;> rfl)) fun r => ?_
 conv => lhs; whnf
 exact t_ret (by first | rfl | simp only [ml] <;> rfl)
noncomputable def impl_within (L : Nat) (a : Int) (b : Int) (c : Int) : Option (Bool) := bif ile b a then (some (ile a c)) else (some false)
def impl_within_ok (L : Nat) (C : CF) : Prop := ∀ (a : Int) (b : Int) (c : Int), C 50 ([.int .i64 a, .int .i64 b, .int .i64 c]) ([]) = Option.map (fun r : Bool => ((.bool r, []) : AV × List Blk)) (impl_within L a b c)
theorem impl_within_run (L : Nat) (C : CF) : ∀ (a : Int) (b : Int) (c : Int), run T C sh (keep 50) L Tryz.f50 ([.int .i64 a, .int .i64 b, .int .i64 c]) ([]) = Option.map (fun r : Bool => ((.bool r, []) : AV × List Blk)) (impl_within L a b c) := by
 intro a b c
 unfold impl_within
 conv => lhs; whnf
 refine t_cond ?_ ?_
 ·conv => lhs; whnf
  exact t_ret (by first | rfl | simp only [ml] <;> rfl)
 ·conv => lhs; whnf
  exact t_ret (by first | rfl | simp only [ml] <;> rfl)
noncomputable def impl_IsPeg (L : Nat) (a_0 : Int) (a_1 : Int) : Option (Bool) := gbind (impl_within L a_0 (-40) 40) fun r => bif r then (gbind (impl_within L a_1 (-40) 40) fun r1 => some r1) else (some false)
def impl_IsPeg_ok (L : Nat) (C : CF) : Prop := ∀ (a_0 : Int) (a_1 : Int), C 53 ([.agg [.int .i64 a_0, .int .i64 a_1]]) ([]) = Option.map (fun r : Bool => ((.bool r, []) : AV × List Blk)) (impl_IsPeg L a_0 a_1)
theorem impl_IsPeg_run (L : Nat) (C : CF) (h_impl_within : impl_within_ok L C) : ∀ (a_0 : Int) (a_1 : Int), run T C sh (keep 53) L Tryz.f53 ([.agg [.int .i64 a_0, .int .i64 a_1]]) ([]) = Option.map (fun r : Bool => ((.bool r, []) : AV × List Blk)) (impl_IsPeg L a_0 a_1) := by
 intro a_0 a_1
 unfold impl_IsPeg
 conv => lhs; whnf
 refine t_call (h_impl_within a_0 (-40) 40) fun r => ?_
 conv => lhs; whnf
 refine t_cond ?_ ?_
 ·conv => lhs; whnf
  refine t_call (h_impl_within a_1 (-40) 40) fun r1 => ?_
  conv => lhs; whnf
  exact t_ret (by first | rfl | simp only [ml] <;> rfl)
 ·conv => lhs; whnf
  exact t_ret (by first | rfl | simp only [ml] <;> rfl)
noncomputable def impl_arePegs_1 (L : Nat) (a_0 : Int) (a_1 : Int) : Option (Bool) := gbind (impl_IsPeg L a_0 a_1) fun r => some (!r)
def impl_arePegs_1_ok (L : Nat) (C : CF) : Prop := ∀ (a_0 : Int) (a_1 : Int), C 80 ([.agg [.int .i64 a_0, .int .i64 a_1]]) ([]) = Option.map (fun r : Bool => ((.bool r, []) : AV × List Blk)) (impl_arePegs_1 L a_0 a_1)
theorem impl_arePegs_1_run (L : Nat) (C : CF) (h_impl_IsPeg : impl_IsPeg_ok L C) : ∀ (a_0 : Int) (a_1 : Int), run T C sh (keep 80) L Tryz.f80 ([.agg [.int .i64 a_0, .int .i64 a_1]]) ([]) = Option.map (fun r : Bool => ((.bool r, []) : AV × List Blk)) (impl_arePegs_1 L a_0 a_1) := by
 intro a_0 a_1
 unfold impl_arePegs_1
 conv => lhs; whnf
 refine t_call (h_impl_IsPeg a_0 a_1) fun r => ?_
 conv => lhs; whnf
 exact t_ret (by first | rfl | simp only [ml] <;> rfl)
noncomputable def slices_IndexFunc_impl_Peg_impl_Peg_97_arePegs_l0 (L : Nat) (a : List Pt) : Nat → Int → Option Int
  | 0, _ => none
  | m + 1, v8 => bif ilt v8 (ilen (List.map ep a)) then (gbind (lget a v8) fun p => gbind (impl_arePegs_1 L (Pt.x p) (Pt.y p)) fun r => bif r then (some v8) else (slices_IndexFunc_impl_Peg_impl_Peg_97_arePegs_l0 L a m (wr IntKind.i64 (iadd v8 1)))) else (some (-1))
noncomputable def slices_IndexFunc_impl_Peg_impl_Peg_97_arePegs (L : Nat) (a : List Pt) : Option (Int) := slices_IndexFunc_impl_Peg_impl_Peg_97_arePegs_l0 L a L 0
def slices_IndexFunc_impl_Peg_impl_Peg_97_arePegs_ok (L : Nat) (C : CF) : Prop := ∀ (o1 : Bool) (c1 : Bool) (x_a : List AV) (a : List Pt) (_ : x_a = List.map ep a), C 97 ([.lst o1 c1 2 x_a, .fn 80 [] []]) ([]) = Option.map (fun r : Int => ((.int .i64 r, []) : AV × List Blk)) (slices_IndexFunc_impl_Peg_impl_Peg_97_arePegs L a)
theorem slices_IndexFunc_impl_Peg_impl_Peg_97_arePegs_run (L : Nat) (C : CF) (h_impl_arePegs_1 : impl_arePegs_1_ok L C) : ∀ (o1 : Bool) (c1 : Bool) (x_a : List AV) (a : List Pt) (_ : x_a = List.map ep a), run T C sh (keep 97) L Tryz.f97 ([.lst o1 c1 2 x_a, .fn 80 [] []]) ([]) = Option.map (fun r : Int => ((.int .i64 r, []) : AV × List Blk)) (slices_IndexFunc_impl_Peg_impl_Peg_97_arePegs L a) := by
 intro o1 c1 x_a a hx_a
 subst hx_a
 unfold slices_IndexFunc_impl_Peg_impl_Peg_97_arePegs
 conv => lhs; whnf
 refine t_loop (fun (v8 : Int) => (AV.lst o1 c1 2 (List.map ep a) :: AV.fn 80 [] [] :: topA 5 (AV.int IntKind.i64 (ilen (List.map ep a)) :: AV.int IntKind.i64 v8 :: tops 10), [])) (fun m (v8 : Int) => slices_IndexFunc_impl_Peg_impl_Peg_97_arePegs_l0 L a m v8) (fun _ => rfl) (fun m v8 rec hrec => ?_) L 0 ?_ ?_
 rotate_left
 ·first | rfl | simp only [ml] <;> rfl
 ·first | rfl | simp only [ml] <;> rfl
 show _ = Option.map _ (slices_IndexFunc_impl_Peg_impl_Peg_97_arePegs_l0 L a (m + 1) v8)
 rw [slices_IndexFunc_impl_Peg_impl_Peg_97_arePegs_l0.eq_2]
 conv => lhs; whnf
 refine t_cond ?_ ?_
 ·conv => lhs; whnf
  refine t_get (en := ep) (l := a) (by first | rfl | simp only [ml] <;> rfl) fun p => ?_
  conv => lhs; whnf
  refine t_call (h_impl_arePegs_1 (Pt.x p) (Pt.y p)) fun r => ?_
  conv => lhs; whnf
  refine t_cond ?_ ?_
  ·conv => lhs; whnf
   exact t_ret (by first | rfl | simp only [ml] <;> rfl)
  ·conv => lhs; whnf
   exact hrec (wr IntKind.i64 (iadd v8 1)) _ _ (by first | rfl | simp only [ml] <;> rfl) (by first | rfl | simp only [ml] <;> rfl)
 ·conv => lhs; whnf
  exact t_ret (by first | rfl | simp only [ml] <;> rfl)
noncomputable def slices_ContainsFunc_impl_Peg_impl_Peg_arePegs (L : Nat) (a : List Pt) : Option (Bool) := gbind (slices_IndexFunc_impl_Peg_impl_Peg_97_arePegs L a) fun r => some (ile 0 r)
def slices_ContainsFunc_impl_Peg_impl_Peg_arePegs_ok (L : Nat) (C : CF) : Prop := ∀ (o1 : Bool) (c1 : Bool) (x_a : List AV) (a : List Pt) (_ : x_a = List.map ep a), C 79 ([.lst o1 c1 2 x_a, .fn 80 [] []]) ([]) = Option.map (fun r : Bool => ((.bool r, []) : AV × List Blk)) (slices_ContainsFunc_impl_Peg_impl_Peg_arePegs L a)
theorem slices_ContainsFunc_impl_Peg_impl_Peg_arePegs_run (L : Nat) (C : CF) (h_slices_IndexFunc_impl_Peg_impl_Peg_97_arePegs : slices_IndexFunc_impl_Peg_impl_Peg_97_arePegs_ok L C) : ∀ (o1 : Bool) (c1 : Bool) (x_a : List AV) (a : List Pt) (_ : x_a = List.map ep a), run T C sh (keep 79) L Tryz.f79 ([.lst o1 c1 2 x_a, .fn 80 [] []]) ([]) = Option.map (fun r : Bool => ((.bool r, []) : AV × List Blk)) (slices_ContainsFunc_impl_Peg_impl_Peg_arePegs L a) := by
 intro o1 c1 x_a a hx_a
 subst hx_a
 unfold slices_ContainsFunc_impl_Peg_impl_Peg_arePegs
 conv => lhs; whnf
 refine t_call (h_slices_IndexFunc_impl_Peg_impl_Peg_97_arePegs _ _ _ a (by first | rfl | simp only [ml] <;> rfl)) fun r => ?_
 conv => lhs; whnf
 exact t_ret (by first | rfl | simp only [ml] <;> rfl)
noncomputable def impl_arePegs (L : Nat) (a : List Pt) : Option (Bool) := gbind (slices_ContainsFunc_impl_Peg_impl_Peg_arePegs L a) fun r => some (!r)
def impl_arePegs_ok (L : Nat) (C : CF) : Prop := ∀ (oa : Bool) (ca : Bool) (x_a : List AV) (a : List Pt) (_ : x_a = List.map ep a), C 51 ([.lst oa ca 2 x_a]) ([]) = Option.map (fun r : Bool => ((.bool r, []) : AV × List Blk)) (impl_arePegs L a)
theorem impl_arePegs_run (L : Nat) (C : CF) (h_slices_ContainsFunc_impl_Peg_impl_Peg_arePegs : slices_ContainsFunc_impl_Peg_impl_Peg_arePegs_ok L C) : ∀ (oa : Bool) (ca : Bool) (x_a : List AV) (a : List Pt) (_ : x_a = List.map ep a), run T C sh (keep 51) L Tryz.f51 ([.lst oa ca 2 x_a]) ([]) = Option.map (fun r : Bool => ((.bool r, []) : AV × List Blk)) (impl_arePegs L a) := by
 intro oa ca x_a a hx_a
 subst hx_a
 unfold impl_arePegs
 conv => lhs; whnf
 refine t_call (h_slices_ContainsFunc_impl_Peg_impl_Peg_arePegs _ _ _ a (by first | rfl | simp only [ml] <;> rfl)) fun r => ?_
 conv => lhs; whnf
 exact t_ret (by first | rfl | simp only [ml] <;> rfl)
noncomputable def slices_Index_impl_Peg_impl_Peg_l0 (L : Nat) (a : List Pt) (b_0 : Int) (b_1 : Int) : Nat → Int → Option Int
  | 0, _ => none
  | m + 1, v8 => bif ilt v8 (ilen (List.map ep a)) then (gbind (lget a v8) fun p => bif ieq b_0 (Pt.x p) && ieq b_1 (Pt.y p) then (some v8) else (slices_Index_impl_Peg_impl_Peg_l0 L a b_0 b_1 m (wr IntKind.i64 (iadd v8 1)))) else (some (-1))
noncomputable def slices_Index_impl_Peg_impl_Peg (L : Nat) (a : List Pt) (b_0 : Int) (b_1 : Int) : Option (Int) := slices_Index_impl_Peg_impl_Peg_l0 L a b_0 b_1 L 0
def slices_Index_impl_Peg_impl_Peg_ok (L : Nat) (C : CF) : Prop := ∀ (oa : Bool) (ca : Bool) (x_a : List AV) (a : List Pt) (_ : x_a = List.map ep a) (b_0 : Int) (b_1 : Int), C 81 ([.lst oa ca 2 x_a, .agg [.int .i64 b_0, .int .i64 b_1]]) ([]) = Option.map (fun r : Int => ((.int .i64 r, []) : AV × List Blk)) (slices_Index_impl_Peg_impl_Peg L a b_0 b_1)
theorem slices_Index_impl_Peg_impl_Peg_run (L : Nat) (C : CF) : ∀ (oa : Bool) (ca : Bool) (x_a : List AV) (a : List Pt) (_ : x_a = List.map ep a) (b_0 : Int) (b_1 : Int), run T C sh (keep 81) L Tryz.f81 ([.lst oa ca 2 x_a, .agg [.int .i64 b_0, .int .i64 b_1]]) ([]) = Option.map (fun r : Int => ((.int .i64 r, []) : AV × List Blk)) (slices_Index_impl_Peg_impl_Peg L a b_0 b_1) := by
 intro oa ca x_a a hx_a b_0 b_1
 subst hx_a
 unfold slices_Index_impl_Peg_impl_Peg
 conv => lhs; whnf
 refine t_loop (fun (v8 : Int) => (AV.lst oa ca 2 (List.map ep a) :: topA 2 (AV.ptr 0 0 0 2 :: topA 3 (AV.int IntKind.i64 (ilen (List.map ep a)) :: AV.int IntKind.i64 v8 :: tops 10)), [Blk.box (AV.agg [AV.int IntKind.i64 b_0, AV.int IntKind.i64 b_1])])) (fun m (v8 : Int) => slices_Index_impl_Peg_impl_Peg_l0 L a b_0 b_1 m v8) (fun _ => rfl) (fun m v8 rec hrec => ?_) L 0 ?_ ?_
 rotate_left
 ·first | rfl | simp only [ml] <;> rfl
 ·first | rfl | simp only [ml] <;> rfl
 show _ = Option.map _ (slices_Index_impl_Peg_impl_Peg_l0 L a b_0 b_1 (m + 1) v8)
 rw [slices_Index_impl_Peg_impl_Peg_l0.eq_2]
 conv => lhs; whnf
 refine t_cond ?_ ?_
 ·conv => lhs; whnf
  refine t_get (en := ep) (l := a) (by first | rfl | simp only [ml] <;> rfl) fun p => ?_
  conv => lhs; whnf
  refine t_cond ?_ ?_
  ·conv => lhs; whnf
   exact t_ret (by first | rfl | simp only [ml] <;> rfl)
  ·conv => lhs; whnf
   exact hrec (wr IntKind.i64 (iadd v8 1)) _ _ (by first | rfl | simp only [ml] <;> rfl) (by first | rfl | simp only [ml] <;> rfl)
 ·conv => lhs; whnf
  exact t_ret (by first | rfl | simp only [ml] <;> rfl)
noncomputable def slices_Contains_impl_Peg_impl_Peg (L : Nat) (a : List Pt) (b_0 : Int) (b_1 : Int) : Option (Bool) := gbind (slices_Index_impl_Peg_impl_Peg L a b_0 b_1) fun r => some (ile 0 r)
def slices_Contains_impl_Peg_impl_Peg_ok (L : Nat) (C : CF) : Prop := ∀ (oa : Bool) (ca : Bool) (x_a : List AV) (a : List Pt) (_ : x_a = List.map ep a) (b_0 : Int) (b_1 : Int), C 52 ([.lst oa ca 2 x_a, .agg [.int .i64 b_0, .int .i64 b_1]]) ([]) = Option.map (fun r : Bool => ((.bool r, []) : AV × List Blk)) (slices_Contains_impl_Peg_impl_Peg L a b_0 b_1)
theorem slices_Contains_impl_Peg_impl_Peg_run (L : Nat) (C : CF) (h_slices_Index_impl_Peg_impl_Peg : slices_Index_impl_Peg_impl_Peg_ok L C) : ∀ (oa : Bool) (ca : Bool) (x_a : List AV) (a : List Pt) (_ : x_a = List.map ep a) (b_0 : Int) (b_1 : Int), run T C sh (keep 52) L Tryz.f52 ([.lst oa ca 2 x_a, .agg [.int .i64 b_0, .int .i64 b_1]]) ([]) = Option.map (fun r : Bool => ((.bool r, []) : AV × List Blk)) (slices_Contains_impl_Peg_impl_Peg L a b_0 b_1) := by
 intro oa ca x_a a hx_a b_0 b_1
 subst hx_a
 unfold slices_Contains_impl_Peg_impl_Peg
 conv => lhs; whnf
 refine t_call (h_slices_Index_impl_Peg_impl_Peg _ _ _ a (by first | rfl | simp only [ml] <;> rfl) b_0 b_1) fun r => ?_
 conv => lhs; whnf
 exact t_ret (by first | rfl | simp only [ml] <;> rfl)
noncomputable def impl_AreDifferent_l0 (L : Nat) (a : List Pt) : Nat → Int → Option Bool
  | 0, _ => none
  | m + 1, v16 => bif ilt v16 (ilen (List.map ep a)) then (gbind (lget a v16) fun p => bif ile 0 v16 && ile v16 (ilen (List.map ep a)) then (gbind (slices_Contains_impl_Peg_impl_Peg L (lsub a 0 v16) (Pt.x p) (Pt.y p)) fun r2 => bif r2 then (some false) else (impl_AreDifferent_l0 L a m (wr IntKind.i64 (iadd v16 1)))) else (none)) else (some true)
noncomputable def impl_AreDifferent (L : Nat) (a : List Pt) : Option (Bool) := gbind (impl_within L (ilen (List.map ep a)) 1 30) fun r => bif !r then (some false) else (gbind (impl_arePegs L a) fun r1 => bif !r1 then (some false) else (impl_AreDifferent_l0 L a L 0))
def impl_AreDifferent_ok (L : Nat) (C : CF) : Prop := ∀ (oa : Bool) (ca : Bool) (x_a : List AV) (a : List Pt) (_ : x_a = List.map ep a), C 20 ([.lst oa ca 2 x_a]) ([]) = Option.map (fun r : Bool => ((.bool r, []) : AV × List Blk)) (impl_AreDifferent L a)
theorem impl_AreDifferent_run (L : Nat) (C : CF) (h_impl_within : impl_within_ok L C) (h_impl_arePegs : impl_arePegs_ok L C) (h_slices_Contains_impl_Peg_impl_Peg : slices_Contains_impl_Peg_impl_Peg_ok L C) : ∀ (oa : Bool) (ca : Bool) (x_a : List AV) (a : List Pt) (_ : x_a = List.map ep a), run T C sh (keep 20) L Tryz.f20 ([.lst oa ca 2 x_a]) ([]) = Option.map (fun r : Bool => ((.bool r, []) : AV × List Blk)) (impl_AreDifferent L a) := by
 intro oa ca x_a a hx_a
 subst hx_a
 unfold impl_AreDifferent
 conv => lhs; whnf
 refine t_call (h_impl_within (ilen (List.map ep a)) 1 30) fun r => ?_
 conv => lhs; whnf
 refine t_cond ?_ ?_
 ·conv => lhs; whnf
  exact t_ret (by first | rfl | simp only [ml] <;> rfl)
 ·conv => lhs; whnf
  refine t_call (h_impl_arePegs _ _ _ a (by first | rfl | simp only [ml] <;> rfl)) fun r1 => ?_
  conv => lhs; whnf
  refine t_cond ?_ ?_
  ·conv => lhs; whnf
   exact t_ret (by first | rfl | simp only [ml] <;> rfl)
  ·conv => lhs; whnf
   refine t_loop (fun (v16 : Int) => (AV.lst oa ca 2 (List.map ep a) :: topA 13 (AV.lst oa ca 2 (List.map ep a) :: AV.int IntKind.i64 (ilen (List.map ep a)) :: AV.int IntKind.i64 v16 :: tops 10), [])) (fun m (v16 : Int) => impl_AreDifferent_l0 L a m v16) (fun _ => rfl) (fun m v16 rec hrec => ?_) L 0 ?_ ?_
   rotate_left
   ·first | rfl | simp only [ml] <;> rfl
   ·first | rfl | simp only [ml] <;> rfl
   show _ = Option.map _ (impl_AreDifferent_l0 L a (m + 1) v16)
   rw [impl_AreDifferent_l0.eq_2]
   conv => lhs; whnf
   refine t_cond ?_ ?_
   ·conv => lhs; whnf
    refine t_get (en := ep) (l := a) (by first | rfl | simp only [ml] <;> rfl) fun p => ?_
    conv => lhs; whnf
    refine t_cond ?_ ?_
    ·conv => lhs; whnf
     refine t_call (h_slices_Contains_impl_Peg_impl_Peg _ _ _ (lsub a 0 v16) (by first | rfl | simp only [ml] <;> rfl) (Pt.x p) (Pt.y p)) fun r2 => ?_
     conv => lhs; whnf
     refine t_cond ?_ ?_
     ·conv => lhs; whnf
      exact t_ret (by first | rfl | simp only [ml] <;> rfl)
     ·conv => lhs; whnf
      exact hrec (wr IntKind.i64 (iadd v16 1)) _ _ (by first | rfl | simp only [ml] <;> rfl) (by first | rfl | simp only [ml] <;> rfl)
    ·conv => lhs; whnf
     exact t_none
   ·conv => lhs; whnf
    exact t_ret (by first | rfl | simp only [ml] <;> rfl)
noncomputable def slices_Clone_impl_Peg_impl_Peg (L : Nat) (a : List Pt) : Option ((List Pt)) := bif ieq (ilen (List.map ep a)) 0 then (osame (fun r : (List Pt) => ((.frs 2 (List.map ep r), []) : AV × List Blk)) (some []) (bif fits (iadd (ilen ([] : List AV)) (ilen (List.map ep a))) 16 then (some (lcat [] a)) else (none))) else (bif fits (iadd (ilen ([] : List AV)) (ilen (List.map ep a))) 16 then (some (lcat [] a)) else (none))
def slices_Clone_impl_Peg_impl_Peg_ok (L : Nat) (C : CF) : Prop := ∀ (oa : Bool) (ca : Bool) (x_a : List AV) (a : List Pt) (_ : x_a = List.map ep a), C 87 ([.lst oa ca 2 x_a]) ([]) = Option.map (fun r : (List Pt) => ((.frs 2 (List.map ep r), []) : AV × List Blk)) (slices_Clone_impl_Peg_impl_Peg L a)
theorem slices_Clone_impl_Peg_impl_Peg_run (L : Nat) (C : CF) : ∀ (oa : Bool) (ca : Bool) (x_a : List AV) (a : List Pt) (_ : x_a = List.map ep a), run T C sh (keep 87) L Tryz.f87 ([.lst oa ca 2 x_a]) ([]) = Option.map (fun r : (List Pt) => ((.frs 2 (List.map ep r), []) : AV × List Blk)) (slices_Clone_impl_Peg_impl_Peg L a) := by
 intro oa ca x_a a hx_a
 subst hx_a
 unfold slices_Clone_impl_Peg_impl_Peg
 conv => lhs; whnf
 refine t_cond ?_ ?_
 ·conv => lhs; whnf
  refine t_same ?_ ?_
  ·conv => lhs; whnf
   exact t_ret (by first | rfl | simp only [ml] <;> rfl)
  ·conv => lhs; whnf
   refine t_cond ?_ ?_
   ·conv => lhs; whnf
    exact t_ret (by first | rfl | simp only [ml] <;> rfl)
   ·conv => lhs; whnf
    exact t_none
 ·conv => lhs; whnf
  refine t_cond ?_ ?_
  ·conv => lhs; whnf
   exact t_ret (by first | rfl | simp only [ml] <;> rfl)
  ·conv => lhs; whnf
   exact t_none
noncomputable def cmp_isNaN_int (L : Nat) (a : Int) : Option (Bool) := some (!ieq a a)
def cmp_isNaN_int_ok (L : Nat) (C : CF) : Prop := ∀ (a : Int), C 116 ([.int .i64 a]) ([]) = Option.map (fun r : Bool => ((.bool r, []) : AV × List Blk)) (cmp_isNaN_int L a)
theorem cmp_isNaN_int_run (L : Nat) (C : CF) : ∀ (a : Int), run T C sh (keep 116) L Tryz.f116 ([.int .i64 a]) ([]) = Option.map (fun r : Bool => ((.bool r, []) : AV × List Blk)) (cmp_isNaN_int L a) := by
 intro a
 unfold cmp_isNaN_int
 conv => lhs; whnf
 exact t_ret (by first | rfl | simp only [ml] <;> rfl)
noncomputable def cmp_Compare_int (L : Nat) (a : Int) (b : Int) : Option (Int) := gbind (cmp_isNaN_int L a) fun r => gbind (cmp_isNaN_int L b) fun r1 => bif r then (bif r1 then (some 0) else (some (-1))) else (bif r1 then (some 1) else (bif ilt a b then (some (-1)) else (bif ilt b a then (some 1) else (some 0))))
def cmp_Compare_int_ok (L : Nat) (C : CF) : Prop := ∀ (a : Int) (b : Int), C 104 ([.int .i64 a, .int .i64 b]) ([]) = Option.map (fun r : Int => ((.int .i64 r, []) : AV × List Blk)) (cmp_Compare_int L a b)
theorem cmp_Compare_int_run (L : Nat) (C : CF) (h_cmp_isNaN_int : cmp_isNaN_int_ok L C) : ∀ (a : Int) (b : Int), run T C sh (keep 104) L Tryz.f104 ([.int .i64 a, .int .i64 b]) ([]) = Option.map (fun r : Int => ((.int .i64 r, []) : AV × List Blk)) (cmp_Compare_int L a b) := by
 intro a b
 unfold cmp_Compare_int
 conv => lhs; whnf
 refine t_call (h_cmp_isNaN_int a) fun r => ?_
 conv => lhs; whnf
 refine t_call (h_cmp_isNaN_int b) fun r1 => ?_
 conv => lhs; whnf
 refine t_cond ?_ ?_
 ·conv => lhs; whnf
  refine t_cond ?_ ?_
  ·conv => lhs; whnf
   exact t_ret (by first | rfl | simp only [ml] <;> rfl)
  ·conv => lhs; whnf
   exact t_ret (by first | rfl | simp only [ml] <;> rfl)
 ·conv => lhs; whnf
  refine t_cond ?_ ?_
  ·conv => lhs; whnf
   exact t_ret (by first | rfl | simp only [ml] <;> rfl)
  ·conv => lhs; whnf
   refine t_cond ?_ ?_
   ·conv => lhs; whnf
    exact t_ret (by first | rfl | simp only [ml] <;> rfl)
   ·conv => lhs; whnf
    refine t_cond ?_ ?_
    ·conv => lhs; whnf
     exact t_ret (by first | rfl | simp only [ml] <;> rfl)
    ·conv => lhs; whnf
     exact t_ret (by first | rfl | simp only [ml] <;> rfl)
noncomputable def cmp_Or_int_l0 (L : Nat) (a : List Int) : Nat → Int → Option Int
  | 0, _ => none
  | m + 1, v8 => bif ilt v8 (ilen (List.map eI a)) then (gbind (lget a v8) fun p => bif !ieq p 0 then (some p) else (cmp_Or_int_l0 L a m (wr IntKind.i64 (iadd v8 1)))) else (some 0)
noncomputable def cmp_Or_int (L : Nat) (a : List Int) : Option (Int) := cmp_Or_int_l0 L a L 0
def cmp_Or_int_ok (L : Nat) (C : CF) : Prop := ∀ (oa : Bool) (ca : Bool) (x_a : List AV) (a : List Int) (_ : x_a = List.map eI a), C 103 ([.lst oa ca 1 x_a]) ([]) = Option.map (fun r : Int => ((.int .i64 r, []) : AV × List Blk)) (cmp_Or_int L a)
theorem cmp_Or_int_run (L : Nat) (C : CF) : ∀ (oa : Bool) (ca : Bool) (x_a : List AV) (a : List Int) (_ : x_a = List.map eI a), run T C sh (keep 103) L Tryz.f103 ([.lst oa ca 1 x_a]) ([]) = Option.map (fun r : Int => ((.int .i64 r, []) : AV × List Blk)) (cmp_Or_int L a) := by
 intro oa ca x_a a hx_a
 subst hx_a
 unfold cmp_Or_int
 conv => lhs; whnf
 refine t_loop (fun (v8 : Int) => (topA 3 (AV.int IntKind.i64 0 :: topA 2 (AV.lst oa ca 1 (List.map eI a) :: AV.int IntKind.i64 (ilen (List.map eI a)) :: AV.int IntKind.i64 v8 :: tops 9)), [])) (fun m (v8 : Int) => cmp_Or_int_l0 L a m v8) (fun _ => rfl) (fun m v8 rec hrec => ?_) L 0 ?_ ?_
 rotate_left
 ·first | rfl | simp only [ml] <;> rfl
 ·first | rfl | simp only [ml] <;> rfl
 show _ = Option.map _ (cmp_Or_int_l0 L a (m + 1) v8)
 rw [cmp_Or_int_l0.eq_2]
 conv => lhs; whnf
 refine t_cond ?_ ?_
 ·conv => lhs; whnf
  refine t_get (en := eI) (l := a) (by first | rfl | simp only [ml] <;> rfl) fun p => ?_
  conv => lhs; whnf
  refine t_cond ?_ ?_
  ·conv => lhs; whnf
   exact t_ret (by first | rfl | simp only [ml] <;> rfl)
  ·conv => lhs; whnf
   exact hrec (wr IntKind.i64 (iadd v8 1)) _ _ (by first | rfl | simp only [ml] <;> rfl) (by first | rfl | simp only [ml] <;> rfl)
 ·conv => lhs; whnf
  exact t_ret (by first | rfl | simp only [ml] <;> rfl)
noncomputable def impl_comparePegs (L : Nat) (a_0 : Int) (a_1 : Int) (b_0 : Int) (b_1 : Int) : Option (Int) := gbind (cmp_Compare_int L a_0 b_0) fun r => gbind (cmp_Compare_int L a_1 b_1) fun r1 => gbind (cmp_Or_int L (r :: (r1 :: []))) fun r2 => some r2
def impl_comparePegs_ok (L : Nat) (C : CF) : Prop := ∀ (a_0 : Int) (a_1 : Int) (b_0 : Int) (b_1 : Int), C 89 ([.agg [.int .i64 a_0, .int .i64 a_1], .agg [.int .i64 b_0, .int .i64 b_1]]) ([]) = Option.map (fun r : Int => ((.int .i64 r, []) : AV × List Blk)) (impl_comparePegs L a_0 a_1 b_0 b_1)
theorem impl_comparePegs_run (L : Nat) (C : CF) (h_cmp_Compare_int : cmp_Compare_int_ok L C) (h_cmp_Or_int : cmp_Or_int_ok L C) : ∀ (a_0 : Int) (a_1 : Int) (b_0 : Int) (b_1 : Int), run T C sh (keep 89) L Tryz.f89 ([.agg [.int .i64 a_0, .int .i64 a_1], .agg [.int .i64 b_0, .int .i64 b_1]]) ([]) = Option.map (fun r : Int => ((.int .i64 r, []) : AV × List Blk)) (impl_comparePegs L a_0 a_1 b_0 b_1) := by
 intro a_0 a_1 b_0 b_1
 unfold impl_comparePegs
 conv => lhs; whnf
 refine t_call (h_cmp_Compare_int a_0 b_0) fun r => ?_
 conv => lhs; whnf
 refine t_call (h_cmp_Compare_int a_1 b_1) fun r1 => ?_
 conv => lhs; whnf
 refine t_call (h_cmp_Or_int _ _ _ (r :: (r1 :: [])) (by first | rfl | simp only [ml] <;> rfl)) fun r2 => ?_
 conv => lhs; whnf
 exact t_ret (by first | rfl | simp only [ml] <;> rfl)
-- EXT slices_SortFunc_impl_Peg_impl_Peg
noncomputable def slices_SortFunc_impl_Peg_impl_Peg (L : Nat) (a : List Pt) : Option (List Pt) := sortP a
def slices_SortFunc_impl_Peg_impl_Peg_ok (L : Nat) (C : CF) : Prop := ∀ (c1 : Bool) (x_a : List AV) (a : List Pt) (_ : x_a = List.map ep a), C 88 ([.own 0 2 none c1, .fn 89 [] []]) ([.rows .live 2 x_a]) = Option.map (fun r : (List Pt) => ((.tup [], [.rows .live 2 (List.map ep r)]) : AV × List Blk)) (slices_SortFunc_impl_Peg_impl_Peg L a)
noncomputable def impl_sorted (L : Nat) (a : List Pt) : Option ((List Pt)) := gbind (slices_Clone_impl_Peg_impl_Peg L a) fun r => gbind (slices_SortFunc_impl_Peg_impl_Peg L r) fun r1 => some r1
def impl_sorted_ok (L : Nat) (C : CF) : Prop := ∀ (oa : Bool) (ca : Bool) (x_a : List AV) (a : List Pt) (_ : x_a = List.map ep a), C 61 ([.lst oa ca 2 x_a]) ([]) = Option.map (fun r : (List Pt) => ((.frs 2 (List.map ep r), []) : AV × List Blk)) (impl_sorted L a)
theorem impl_sorted_run (L : Nat) (C : CF) (h_slices_Clone_impl_Peg_impl_Peg : slices_Clone_impl_Peg_impl_Peg_ok L C) (h_slices_SortFunc_impl_Peg_impl_Peg : slices_SortFunc_impl_Peg_impl_Peg_ok L C) : ∀ (oa : Bool) (ca : Bool) (x_a : List AV) (a : List Pt) (_ : x_a = List.map ep a), run T C sh (keep 61) L Tryz.f61 ([.lst oa ca 2 x_a]) ([]) = Option.map (fun r : (List Pt) => ((.frs 2 (List.map ep r), []) : AV × List Blk)) (impl_sorted L a) := by
 intro oa ca x_a a hx_a
 subst hx_a
 unfold impl_sorted
 conv => lhs; whnf
 refine t_call (h_slices_Clone_impl_Peg_impl_Peg _ _ _ a (by first | rfl | simp only [ml] <;> rfl)) fun r => ?_
 conv => lhs; whnf
 refine t_call (h_slices_SortFunc_impl_Peg_impl_Peg _ _ r (by first | rfl | simp only [ml] <;> rfl)) fun r1 => ?_
 conv => lhs; whnf
 exact t_ret (by first | rfl | simp only [ml] <;> rfl)
noncomputable def impl_Peg_less (L : Nat) (a_0 : Int) (a_1 : Int) (b_0 : Int) (b_1 : Int) : Option (Int × Int) := some ((wr IntKind.i64 (isub a_0 b_0), wr IntKind.i64 (isub a_1 b_1)))
def impl_Peg_less_ok (L : Nat) (C : CF) : Prop := ∀ (a_0 : Int) (a_1 : Int) (b_0 : Int) (b_1 : Int), C 99 ([.agg [.int .i64 a_0, .int .i64 a_1], .agg [.int .i64 b_0, .int .i64 b_1]]) ([]) = Option.map (fun r : Int × Int => ((.agg [.int .i64 (r.1), .int .i64 (r.2)], []) : AV × List Blk)) (impl_Peg_less L a_0 a_1 b_0 b_1)
theorem impl_Peg_less_run (L : Nat) (C : CF) : ∀ (a_0 : Int) (a_1 : Int) (b_0 : Int) (b_1 : Int), run T C sh (keep 99) L Tryz.f99 ([.agg [.int .i64 a_0, .int .i64 a_1], .agg [.int .i64 b_0, .int .i64 b_1]]) ([]) = Option.map (fun r : Int × Int => ((.agg [.int .i64 (r.1), .int .i64 (r.2)], []) : AV × List Blk)) (impl_Peg_less L a_0 a_1 b_0 b_1) := by
 intro a_0 a_1 b_0 b_1
 unfold impl_Peg_less
 conv => lhs; whnf
 exact t_ret (by first | rfl | simp only [ml] <;> rfl)
noncomputable def impl_cross (L : Nat) (a_0 : Int) (a_1 : Int) (b_0 : Int) (b_1 : Int) : Option (Int) := some (wr IntKind.i64 (isub (wr IntKind.i64 (imul a_0 b_1)) (wr IntKind.i64 (imul a_1 b_0))))
def impl_cross_ok (L : Nat) (C : CF) : Prop := ∀ (a_0 : Int) (a_1 : Int) (b_0 : Int) (b_1 : Int), C 75 ([.agg [.int .i64 a_0, .int .i64 a_1], .agg [.int .i64 b_0, .int .i64 b_1]]) ([]) = Option.map (fun r : Int => ((.int .i64 r, []) : AV × List Blk)) (impl_cross L a_0 a_1 b_0 b_1)
theorem impl_cross_run (L : Nat) (C : CF) : ∀ (a_0 : Int) (a_1 : Int) (b_0 : Int) (b_1 : Int), run T C sh (keep 75) L Tryz.f75 ([.agg [.int .i64 a_0, .int .i64 a_1], .agg [.int .i64 b_0, .int .i64 b_1]]) ([]) = Option.map (fun r : Int => ((.int .i64 r, []) : AV × List Blk)) (impl_cross L a_0 a_1 b_0 b_1) := by
 intro a_0 a_1 b_0 b_1
 unfold impl_cross
 conv => lhs; whnf
 exact t_ret (by first | rfl | simp only [ml] <;> rfl)
noncomputable def impl_turn (L : Nat) (a_0 : Int) (a_1 : Int) (b_0 : Int) (b_1 : Int) (c_0 : Int) (c_1 : Int) : Option (Int) := gbind (impl_Peg_less L b_0 b_1 a_0 a_1) fun r => gbind (impl_Peg_less L c_0 c_1 a_0 a_1) fun r1 => gbind (impl_cross L (Prod.fst r) (Prod.snd r) (Prod.fst r1) (Prod.snd r1)) fun r2 => some r2
def impl_turn_ok (L : Nat) (C : CF) : Prop := ∀ (a_0 : Int) (a_1 : Int) (b_0 : Int) (b_1 : Int) (c_0 : Int) (c_1 : Int), C 83 ([.agg [.int .i64 a_0, .int .i64 a_1], .agg [.int .i64 b_0, .int .i64 b_1], .agg [.int .i64 c_0, .int .i64 c_1]]) ([]) = Option.map (fun r : Int => ((.int .i64 r, []) : AV × List Blk)) (impl_turn L a_0 a_1 b_0 b_1 c_0 c_1)
theorem impl_turn_run (L : Nat) (C : CF) (h_impl_Peg_less : impl_Peg_less_ok L C) (h_impl_cross : impl_cross_ok L C) : ∀ (a_0 : Int) (a_1 : Int) (b_0 : Int) (b_1 : Int) (c_0 : Int) (c_1 : Int), run T C sh (keep 83) L Tryz.f83 ([.agg [.int .i64 a_0, .int .i64 a_1], .agg [.int .i64 b_0, .int .i64 b_1], .agg [.int .i64 c_0, .int .i64 c_1]]) ([]) = Option.map (fun r : Int => ((.int .i64 r, []) : AV × List Blk)) (impl_turn L a_0 a_1 b_0 b_1 c_0 c_1) := by
 intro a_0 a_1 b_0 b_1 c_0 c_1
 unfold impl_turn
 conv => lhs; whnf
 refine t_call (h_impl_Peg_less b_0 b_1 a_0 a_1) fun r => ?_
 conv => lhs; whnf
 refine t_call (h_impl_Peg_less c_0 c_1 a_0 a_1) fun r1 => ?_
 conv => lhs; whnf
 refine t_call (h_impl_cross (Prod.fst r) (Prod.snd r) (Prod.fst r1) (Prod.snd r1)) fun r2 => ?_
 conv => lhs; whnf
 exact t_ret (by first | rfl | simp only [ml] <;> rfl)
noncomputable def impl_chain_l1 (L : Nat) (κ0 : Int → Int → (List Pt) → Int → Int → (List Pt) → Option ((List Pt))) (v3o : Int) (v7 : List Pt) (v8 : Int) (v9 : Int) (w0 : List Pt) (p : Pt) : Nat → Int → Option ((List Pt))
  | 0, _ => none
  | m1 + 1, v3n1 => bif ilt 1 v3n1 then (bif ile 0 (wr IntKind.i64 (isub v3n1 2)) && ilt (wr IntKind.i64 (isub v3n1 2)) v3n1 then (gbind (lget w0 (iadd v3o (wr IntKind.i64 (isub v3n1 2)))) fun p1 => bif ile 0 (wr IntKind.i64 (isub v3n1 1)) && ilt (wr IntKind.i64 (isub v3n1 1)) v3n1 then (gbind (lget w0 (iadd v3o (wr IntKind.i64 (isub v3n1 1)))) fun p2 => gbind (impl_turn L (Pt.x p1) (Pt.y p1) (Pt.x p2) (Pt.y p2) (Pt.x p) (Pt.y p)) fun r => bif ile r 0 then (bif !false && ile 0 (wr IntKind.i64 (isub v3n1 1)) && ile (iadd v3o (wr IntKind.i64 (isub v3n1 1))) (ilen (List.map ep w0)) then (impl_chain_l1 L κ0 v3o v7 v8 v9 w0 p m1 (wr IntKind.i64 (isub v3n1 1))) else (none)) else (bif fits (iadd v3n1 (ilen [AV.agg [AV.int IntKind.i64 (Pt.x p), AV.int IntKind.i64 (Pt.y p)]])) 16 then (bif ieq (iadd v3o v3n1) (ilen (List.map ep w0)) then (κ0 0 (ilen (lcat (lsub (List.map ep w0) v3o (iadd v3o v3n1)) [AV.agg [AV.int IntKind.i64 (Pt.x p), AV.int IntKind.i64 (Pt.y p)]])) v7 v8 (wr IntKind.i64 (iadd v9 1)) (lcat (lsub w0 v3o (iadd v3o v3n1)) (p :: []))) else (bif ile (iadd (iadd v3o v3n1) (ilen [AV.agg [AV.int IntKind.i64 (Pt.x p), AV.int IntKind.i64 (Pt.y p)]])) (ilen (List.map ep w0)) then (κ0 v3o (iadd v3n1 (ilen [AV.agg [AV.int IntKind.i64 (Pt.x p), AV.int IntKind.i64 (Pt.y p)]])) v7 v8 (wr IntKind.i64 (iadd v9 1)) (lcat (lcat (lsub w0 0 (iadd v3o v3n1)) (p :: [])) (lsub w0 (iadd (iadd v3o v3n1) (ilen [AV.agg [AV.int IntKind.i64 (Pt.x p), AV.int IntKind.i64 (Pt.y p)]])) (ilen (List.map ep w0))))) else (none))) else (none))) else (none)) else (none)) else (bif fits (iadd v3n1 (ilen [AV.agg [AV.int IntKind.i64 (Pt.x p), AV.int IntKind.i64 (Pt.y p)]])) 16 then (bif ieq (iadd v3o v3n1) (ilen (List.map ep w0)) then (κ0 0 (ilen (lcat (lsub (List.map ep w0) v3o (iadd v3o v3n1)) [AV.agg [AV.int IntKind.i64 (Pt.x p), AV.int IntKind.i64 (Pt.y p)]])) v7 v8 (wr IntKind.i64 (iadd v9 1)) (lcat (lsub w0 v3o (iadd v3o v3n1)) (p :: []))) else (bif ile (iadd (iadd v3o v3n1) (ilen [AV.agg [AV.int IntKind.i64 (Pt.x p), AV.int IntKind.i64 (Pt.y p)]])) (ilen (List.map ep w0)) then (κ0 v3o (iadd v3n1 (ilen [AV.agg [AV.int IntKind.i64 (Pt.x p), AV.int IntKind.i64 (Pt.y p)]])) v7 v8 (wr IntKind.i64 (iadd v9 1)) (lcat (lcat (lsub w0 0 (iadd v3o v3n1)) (p :: [])) (lsub w0 (iadd (iadd v3o v3n1) (ilen [AV.agg [AV.int IntKind.i64 (Pt.x p), AV.int IntKind.i64 (Pt.y p)]])) (ilen (List.map ep w0))))) else (none))) else (none))
noncomputable def impl_chain_l0 (L : Nat) : Nat → Int → Int → (List Pt) → Int → Int → (List Pt) → Option ((List Pt))
  | 0, _, _, _, _, _, _ => none
  | m + 1, v3o, v3n, v7, v8, v9, w0 => bif ilt v9 v8 then (gbind (lget v7 v9) fun p => impl_chain_l1 L (impl_chain_l0 L m) v3o v7 v8 v9 w0 p L v3n) else (some (lsub w0 v3o (iadd v3o v3n)))
noncomputable def impl_chain (L : Nat) (a : List Pt) : Option ((List Pt)) := impl_chain_l0 L L 0 (ilen ([] : List AV)) a (ilen (List.map ep a)) 0 []
def impl_chain_ok (L : Nat) (C : CF) : Prop := ∀ (oa : Bool) (ca : Bool) (x_a : List AV) (a : List Pt) (_ : x_a = List.map ep a), C 69 ([.lst oa ca 2 x_a]) ([]) = Option.map (fun r : (List Pt) => ((.frs 2 (List.map ep r), []) : AV × List Blk)) (impl_chain L a)
theorem impl_chain_run (L : Nat) (C : CF) (h_impl_turn : impl_turn_ok L C) : ∀ (oa : Bool) (ca : Bool) (x_a : List AV) (a : List Pt) (_ : x_a = List.map ep a), run T C sh (keep 69) L Tryz.f69 ([.lst oa ca 2 x_a]) ([]) = Option.map (fun r : (List Pt) => ((.frs 2 (List.map ep r), []) : AV × List Blk)) (impl_chain L a) := by
 intro oa ca x_a a hx_a
 subst hx_a
 unfold impl_chain
 conv => lhs; whnf
 refine t_loop (fun (⟨v3o, v3n, v7, v8, v9, w0⟩ : Int × Int × (List Pt) × Int × Int × (List Pt)) => (topA 3 (AV.own 0 2 (some (v3o, v3n)) false :: topA 3 (AV.lst oa ca 2 (List.map ep v7) :: AV.int IntKind.i64 v8 :: AV.int IntKind.i64 v9 :: tops 34)), [Blk.rows Mode.live 2 (List.map ep w0)])) (fun m (⟨v3o, v3n, v7, v8, v9, w0⟩ : Int × Int × (List Pt) × Int × Int × (List Pt)) => impl_chain_l0 L m v3o v3n v7 v8 v9 w0) (fun _ => rfl) (fun m s rec hrec => ?_) L ((0, ilen ([] : List AV), a, ilen (List.map ep a), 0, [])) ?_ ?_
 rotate_left
 ·first | rfl | simp only [ml] <;> rfl
 ·first | rfl | simp only [ml] <;> rfl
 obtain ⟨v3o, v3n, v7, v8, v9, w0⟩ := s
 show _ = Option.map _ (impl_chain_l0 L (m + 1) v3o v3n v7 v8 v9 w0)
 rw [impl_chain_l0.eq_2]
 conv => lhs; whnf
 refine t_cond ?_ ?_
 ·conv => lhs; whnf
  refine t_get (en := ep) (l := v7) (by first | rfl | simp only [ml] <;> rfl) fun p => ?_
  conv => lhs; whnf
  refine t_loop (fun (v3n1 : Int) => (topA 3 (AV.own 0 2 (some (v3o, v3n1)) false :: AV.top :: AV.ptr 1 0 0 2 :: AV.top :: AV.lst oa ca 2 (List.map ep v7) :: AV.int IntKind.i64 v8 :: AV.int IntKind.i64 v9 :: tops 34), [Blk.rows Mode.live 2 (List.map ep w0), Blk.box (AV.agg [AV.int IntKind.i64 (Pt.x p), AV.int IntKind.i64 (Pt.y p)])])) (fun m1 (v3n1 : Int) => impl_chain_l1 L (impl_chain_l0 L m) v3o v7 v8 v9 w0 p m1 v3n1) (fun _ => rfl) (fun m1 v3n1 rec1 hrec1 => ?_) L v3n ?_ ?_
  rotate_left
  ·first | rfl | simp only [ml] <;> rfl
  ·first | rfl | simp only [ml] <;> rfl
  show _ = Option.map _ (impl_chain_l1 L (impl_chain_l0 L m) v3o v7 v8 v9 w0 p (m1 + 1) v3n1)
  rw [impl_chain_l1.eq_2]
  conv => lhs; whnf
  refine t_cond ?_ ?_
  ·conv => lhs; whnf
   refine t_cond ?_ ?_
   ·conv => lhs; whnf
    refine t_get (en := ep) (l := w0) (by first | rfl | simp only [ml] <;> rfl) fun p1 => ?_
    conv => lhs; whnf
    refine t_cond ?_ ?_
    ·conv => lhs; whnf
     refine t_get (en := ep) (l := w0) (by first | rfl | simp only [ml] <;> rfl) fun p2 => ?_
     conv => lhs; whnf
     refine t_call (h_impl_turn (Pt.x p1) (Pt.y p1) (Pt.x p2) (Pt.y p2) (Pt.x p) (Pt.y p)) fun r => ?_
     conv => lhs; whnf
     refine t_cond ?_ ?_
     ·conv => lhs; whnf
      refine t_cond ?_ ?_
      ·conv => lhs; whnf
       exact hrec1 (wr IntKind.i64 (isub v3n1 1)) _ _ (by first | rfl | simp only [ml] <;> rfl) (by first | rfl | simp only [ml] <;> rfl)
      ·conv => lhs; whnf
       exact t_none
     ·conv => lhs; whnf
      refine t_cond ?_ ?_
      ·conv => lhs; whnf
       refine t_cond ?_ ?_
       ·conv => lhs; whnf
        exact hrec ((0, ilen (lcat (lsub (List.map ep w0) v3o (iadd v3o v3n1)) [AV.agg [AV.int IntKind.i64 (Pt.x p), AV.int IntKind.i64 (Pt.y p)]]), v7, v8, wr IntKind.i64 (iadd v9 1), lcat (lsub w0 v3o (iadd v3o v3n1)) (p :: []))) _ _ (by first | rfl | simp only [ml] <;> rfl) (by first | rfl | simp only [ml] <;> rfl)
       ·conv => lhs; whnf
        refine t_cond ?_ ?_
        ·conv => lhs; whnf
         exact hrec ((v3o, iadd v3n1 (ilen [AV.agg [AV.int IntKind.i64 (Pt.x p), AV.int IntKind.i64 (Pt.y p)]]), v7, v8, wr IntKind.i64 (iadd v9 1), lcat (lcat (lsub w0 0 (iadd v3o v3n1)) (p :: [])) (lsub w0 (iadd (iadd v3o v3n1) (ilen [AV.agg [AV.int IntKind.i64 (Pt.x p), AV.int IntKind.i64 (Pt.y p)]])) (ilen (List.map ep w0))))) _ _ (by first | rfl | simp only [ml] <;> rfl) (by first | rfl | simp only [ml] <;> rfl)
        ·conv => lhs; whnf
         exact t_none
      ·conv => lhs; whnf
       exact t_none
    ·conv => lhs; whnf
     exact t_none
   ·conv => lhs; whnf
    exact t_none
  ·conv => lhs; whnf
   refine t_cond ?_ ?_
   ·conv => lhs; whnf
    refine t_cond ?_ ?_
    ·conv => lhs; whnf
     exact hrec ((0, ilen (lcat (lsub (List.map ep w0) v3o (iadd v3o v3n1)) [AV.agg [AV.int IntKind.i64 (Pt.x p), AV.int IntKind.i64 (Pt.y p)]]), v7, v8, wr IntKind.i64 (iadd v9 1), lcat (lsub w0 v3o (iadd v3o v3n1)) (p :: []))) _ _ (by first | rfl | simp only [ml] <;> rfl) (by first | rfl | simp only [ml] <;> rfl)
    ·conv => lhs; whnf
     refine t_cond ?_ ?_
     ·conv => lhs; whnf
      exact hrec ((v3o, iadd v3n1 (ilen [AV.agg [AV.int IntKind.i64 (Pt.x p), AV.int IntKind.i64 (Pt.y p)]]), v7, v8, wr IntKind.i64 (iadd v9 1), lcat (lcat (lsub w0 0 (iadd v3o v3n1)) (p :: [])) (lsub w0 (iadd (iadd v3o v3n1) (ilen [AV.agg [AV.int IntKind.i64 (Pt.x p), AV.int IntKind.i64 (Pt.y p)]])) (ilen (List.map ep w0))))) _ _ (by first | rfl | simp only [ml] <;> rfl) (by first | rfl | simp only [ml] <;> rfl)
     ·conv => lhs; whnf
      exact t_none
   ·conv => lhs; whnf
    exact t_none
 ·conv => lhs; whnf
  exact t_ret (by first | rfl | simp only [ml] <;> rfl)
noncomputable def slices_Reverse_impl_Peg_impl_Peg_l0 (L : Nat) : Nat → Int → Int → (List Pt) → Option ((List Pt))
  | 0, _, _, _ => none
  | m + 1, v2, v3, w0 => bif ilt v2 v3 then (bif ile 0 v3 && ilt v3 (ilen (List.map ep w0)) then (gbind (lget w0 v3) fun p => bif ile 0 v2 && ilt v2 (ilen (List.map ep w0)) then (gbind (lget w0 v2) fun p1 => bif ile 0 v2 && ilt v2 (ilen (List.map ep w0)) then (gbind (lget w0 v2) fun p2 => bif ile 0 v3 && ilt v3 (ilen (lset (List.map ep w0) v2 (AV.agg [AV.int IntKind.i64 (Pt.x p), AV.int IntKind.i64 (Pt.y p)]))) then (gbind (lget (lset w0 v2 p) v3) fun p3 => slices_Reverse_impl_Peg_impl_Peg_l0 L m (wr IntKind.i64 (iadd v2 1)) (wr IntKind.i64 (isub v3 1)) (lset (lset w0 v2 p) v3 p1)) else (none)) else (none)) else (none)) else (none)) else (some w0)
noncomputable def slices_Reverse_impl_Peg_impl_Peg (L : Nat) (a : List Pt) : Option ((List Pt)) := slices_Reverse_impl_Peg_impl_Peg_l0 L L 0 (wr IntKind.i64 (isub (ilen (List.map ep a)) 1)) a
def slices_Reverse_impl_Peg_impl_Peg_ok (L : Nat) (C : CF) : Prop := ∀ (c1 : Bool) (x_a : List AV) (a : List Pt) (_ : x_a = List.map ep a), C 70 ([.own 0 2 none c1]) ([.rows .live 2 x_a]) = Option.map (fun r : (List Pt) => ((.tup [], [.rows .live 2 (List.map ep r)]) : AV × List Blk)) (slices_Reverse_impl_Peg_impl_Peg L a)
theorem slices_Reverse_impl_Peg_impl_Peg_run (L : Nat) (C : CF) : ∀ (c1 : Bool) (x_a : List AV) (a : List Pt) (_ : x_a = List.map ep a), run T C sh (keep 70) L Tryz.f70 ([.own 0 2 none c1]) ([.rows .live 2 x_a]) = Option.map (fun r : (List Pt) => ((.tup [], [.rows .live 2 (List.map ep r)]) : AV × List Blk)) (slices_Reverse_impl_Peg_impl_Peg L a) := by
 intro c1 x_a a hx_a
 subst hx_a
 unfold slices_Reverse_impl_Peg_impl_Peg
 conv => lhs; whnf
 refine t_loop (fun (⟨v2, v3, w0⟩ : Int × Int × (List Pt)) => (AV.own 0 2 none c1 :: AV.top :: AV.int IntKind.i64 v2 :: AV.int IntKind.i64 v3 :: tops 24, [Blk.rows Mode.live 2 (List.map ep w0)])) (fun m (⟨v2, v3, w0⟩ : Int × Int × (List Pt)) => slices_Reverse_impl_Peg_impl_Peg_l0 L m v2 v3 w0) (fun _ => rfl) (fun m s rec hrec => ?_) L ((0, wr IntKind.i64 (isub (ilen (List.map ep a)) 1), a)) ?_ ?_
 rotate_left
 ·first | rfl | simp only [ml] <;> rfl
 ·first | rfl | simp only [ml] <;> rfl
 obtain ⟨v2, v3, w0⟩ := s
 show _ = Option.map _ (slices_Reverse_impl_Peg_impl_Peg_l0 L (m + 1) v2 v3 w0)
 rw [slices_Reverse_impl_Peg_impl_Peg_l0.eq_2]
 conv => lhs; whnf
 refine t_cond ?_ ?_
 ·conv => lhs; whnf
  refine t_cond ?_ ?_
  ·conv => lhs; whnf
   refine t_get (en := ep) (l := w0) (by first | rfl | simp only [ml] <;> rfl) fun p => ?_
   conv => lhs; whnf
   refine t_cond ?_ ?_
   ·conv => lhs; whnf
    refine t_get (en := ep) (l := w0) (by first | rfl | simp only [ml] <;> rfl) fun p1 => ?_
    conv => lhs; whnf
    refine t_cond ?_ ?_
    ·conv => lhs; whnf
     refine t_get (en := ep) (l := w0) (by first | rfl | simp only [ml] <;> rfl) fun p2 => ?_
     conv => lhs; whnf
     refine t_cond ?_ ?_
     ·conv => lhs; whnf
      refine t_get (en := ep) (l := lset w0 v2 p) (by first | rfl | simp only [ml] <;> rfl) fun p3 => ?_
      conv => lhs; whnf
      exact hrec ((wr IntKind.i64 (iadd v2 1), wr IntKind.i64 (isub v3 1), lset (lset w0 v2 p) v3 p1)) _ _ (by first | rfl | simp only [ml] <;> rfl) (by first | rfl | simp only [ml] <;> rfl)
     ·conv => lhs; whnf
      exact t_none
    ·conv => lhs; whnf
     exact t_none
   ·conv => lhs; whnf
    exact t_none
  ·conv => lhs; whnf
   exact t_none
 ·conv => lhs; whnf
  exact t_ret (by first | rfl | simp only [ml] <;> rfl)
noncomputable def slices_Grow_impl_Peg_impl_Peg_v2 (L : Nat) (b : Int) : Option ((List Pt)) := bif ilt b 0 then (none) else (bif ilt 0 (wr IntKind.i64 (isub b (wr IntKind.i64 (isub 0 0)))) then (bif ieq 0 0 then (bif ilt 0 (wr IntKind.i64 (isub b (wr IntKind.i64 (isub 0 0)))) && fits (wr IntKind.i64 (isub b (wr IntKind.i64 (isub 0 0)))) 16 then (bif ile 0 0 && ile 0 (ilen (lrep (wr IntKind.i64 (isub b (wr IntKind.i64 (isub 0 0)))) (AV.agg [AV.int IntKind.i64 0, AV.int IntKind.i64 0]))) then (some (lsub (lrep (wr IntKind.i64 (isub b (wr IntKind.i64 (isub 0 0)))) ({ x := 0, y := 0 })) 0 (iadd 0 0))) else (none)) else (none)) else (none)) else (some []))
def slices_Grow_impl_Peg_impl_Peg_v2_ok (L : Nat) (C : CF) : Prop := ∀ (b : Int), C 90 ([.nil, (.int .i64 b)]) ([]) = Option.map (fun r : (List Pt) => ((.frs 2 (List.map ep r), []) : AV × List Blk)) (slices_Grow_impl_Peg_impl_Peg_v2 L b)
theorem slices_Grow_impl_Peg_impl_Peg_v2_run (L : Nat) (C : CF) : ∀ (b : Int), run T C sh (keep 90) L Tryz.f90 ([.nil, (.int .i64 b)]) ([]) = Option.map (fun r : (List Pt) => ((.frs 2 (List.map ep r), []) : AV × List Blk)) (slices_Grow_impl_Peg_impl_Peg_v2 L b) := by
 intro b
 unfold slices_Grow_impl_Peg_impl_Peg_v2
 conv => lhs; whnf
 refine t_cond ?_ ?_
 ·conv => lhs; whnf
  exact t_none
 ·conv => lhs; whnf
  refine t_cond ?_ ?_
  ·conv => lhs; whnf
   refine t_cond ?_ ?_
   ·conv => lhs; whnf
    refine t_cond ?_ ?_
    ·conv => lhs; whnf
     refine t_cond ?_ ?_
     ·conv => lhs; whnf
      exact t_ret (by first | rfl | simp only [ml] <;> rfl)
     ·conv => lhs; whnf
      exact t_none
    ·conv => lhs; whnf
     exact t_none
   ·conv => lhs; whnf
    exact t_none
  ·conv => lhs; whnf
   exact t_ret (by first | rfl | simp only [ml] <;> rfl)
noncomputable def slices_Concat_impl_Peg_impl_Peg_l1 (L : Nat) (a : List (List Pt)) : Nat → Int → (List Pt) → Option ((List Pt))
  | 0, _, _ => none
  | m1 + 1, v27, w0 => bif ilt v27 (ilen (List.map eLP a)) then (gbind (lget a v27) fun p1 => bif fits (iadd (ilen (List.map ep w0)) (ilen (List.map ep p1))) 16 then (slices_Concat_impl_Peg_impl_Peg_l1 L a m1 (wr IntKind.i64 (iadd v27 1)) (lcat w0 p1)) else (none)) else (some w0)
noncomputable def slices_Concat_impl_Peg_impl_Peg_l0 (L : Nat) (a : List (List Pt)) : Nat → Int → Int → Option ((List Pt))
  | 0, _, _ => none
  | m + 1, v3, v11 => bif ilt v11 (ilen (List.map eLP a)) then (gbind (lget a v11) fun p => bif ilt (wr IntKind.i64 (iadd v3 (ilen (List.map ep p)))) 0 then (none) else (slices_Concat_impl_Peg_impl_Peg_l0 L a m (wr IntKind.i64 (iadd v3 (ilen (List.map ep p)))) (wr IntKind.i64 (iadd v11 1)))) else (gbind (slices_Grow_impl_Peg_impl_Peg_v2 L v3) fun r => slices_Concat_impl_Peg_impl_Peg_l1 L a L 0 r)
noncomputable def slices_Concat_impl_Peg_impl_Peg (L : Nat) (a : List (List Pt)) : Option ((List Pt)) := slices_Concat_impl_Peg_impl_Peg_l0 L a L 0 0
def slices_Concat_impl_Peg_impl_Peg_ok (L : Nat) (C : CF) : Prop := ∀ (oa : Bool) (ca : Bool) (x_a : List AV) (a : List (List Pt)) (_ : x_a = List.map eLP a), C 62 ([.lst oa ca 1 x_a]) ([]) = Option.map (fun r : (List Pt) => ((.frs 2 (List.map ep r), []) : AV × List Blk)) (slices_Concat_impl_Peg_impl_Peg L a)
theorem slices_Concat_impl_Peg_impl_Peg_run (L : Nat) (C : CF) (h_slices_Grow_impl_Peg_impl_Peg_v2 : slices_Grow_impl_Peg_impl_Peg_v2_ok L C) : ∀ (oa : Bool) (ca : Bool) (x_a : List AV) (a : List (List Pt)) (_ : x_a = List.map eLP a), run T C sh (keep 62) L Tryz.f62 ([.lst oa ca 1 x_a]) ([]) = Option.map (fun r : (List Pt) => ((.frs 2 (List.map ep r), []) : AV × List Blk)) (slices_Concat_impl_Peg_impl_Peg L a) := by
 intro oa ca x_a a hx_a
 subst hx_a
 unfold slices_Concat_impl_Peg_impl_Peg
 conv => lhs; whnf
 refine t_loop (fun (⟨v3, v11⟩ : Int × Int) => (AV.lst oa ca 1 (List.map eLP a) :: topA 2 (AV.int IntKind.i64 v3 :: topA 5 (AV.lst oa ca 1 (List.map eLP a) :: AV.int IntKind.i64 (ilen (List.map eLP a)) :: AV.int IntKind.i64 v11 :: tops 24)), [])) (fun m (⟨v3, v11⟩ : Int × Int) => slices_Concat_impl_Peg_impl_Peg_l0 L a m v3 v11) (fun _ => rfl) (fun m s rec hrec => ?_) L ((0, 0)) ?_ ?_
 rotate_left
 ·first | rfl | simp only [ml] <;> rfl
 ·first | rfl | simp only [ml] <;> rfl
 obtain ⟨v3, v11⟩ := s
 show _ = Option.map _ (slices_Concat_impl_Peg_impl_Peg_l0 L a (m + 1) v3 v11)
 rw [slices_Concat_impl_Peg_impl_Peg_l0.eq_2]
 conv => lhs; whnf
 refine t_cond ?_ ?_
 ·conv => lhs; whnf
  refine t_get (en := eLP) (l := a) (by first | rfl | simp only [ml] <;> rfl) fun p => ?_
  conv => lhs; whnf
  refine t_cond ?_ ?_
  ·conv => lhs; whnf
   exact t_none
  ·conv => lhs; whnf
   exact hrec ((wr IntKind.i64 (iadd v3 (ilen (List.map ep p))), wr IntKind.i64 (iadd v11 1))) _ _ (by first | rfl | simp only [ml] <;> rfl) (by first | rfl | simp only [ml] <;> rfl)
 ·conv => lhs; whnf
  refine t_call (h_slices_Grow_impl_Peg_impl_Peg_v2 v3) fun r => ?_
  conv => lhs; whnf
  refine t_loop (fun (⟨v27, w0⟩ : Int × (List Pt)) => (topA 6 (AV.own 0 2 none false :: topA 18 (AV.lst oa ca 1 (List.map eLP a) :: AV.int IntKind.i64 (ilen (List.map eLP a)) :: AV.int IntKind.i64 v27 :: tops 8)), [Blk.rows Mode.live 2 (List.map ep w0)])) (fun m1 (⟨v27, w0⟩ : Int × (List Pt)) => slices_Concat_impl_Peg_impl_Peg_l1 L a m1 v27 w0) (fun _ => rfl) (fun m1 s1 rec1 hrec1 => ?_) L ((0, r)) ?_ ?_
  rotate_left
  ·first | rfl | simp only [ml] <;> rfl
  ·first | rfl | simp only [ml] <;> rfl
  obtain ⟨v27, w0⟩ := s1
  show _ = Option.map _ (slices_Concat_impl_Peg_impl_Peg_l1 L a (m1 + 1) v27 w0)
  rw [slices_Concat_impl_Peg_impl_Peg_l1.eq_2]
  conv => lhs; whnf
  refine t_cond ?_ ?_
  ·conv => lhs; whnf
   refine t_get (en := eLP) (l := a) (by first | rfl | simp only [ml] <;> rfl) fun p1 => ?_
   conv => lhs; whnf
   refine t_cond ?_ ?_
   ·conv => lhs; whnf
    exact hrec1 ((wr IntKind.i64 (iadd v27 1), lcat w0 p1)) _ _ (by first | rfl | simp only [ml] <;> rfl) (by first | rfl | simp only [ml] <;> rfl)
   ·conv => lhs; whnf
    exact t_none
  ·conv => lhs; whnf
   exact t_ret (by first | rfl | simp only [ml] <;> rfl)
noncomputable def impl_band (L : Nat) (a : List Pt) : Option ((List Pt)) := gbind (impl_sorted L a) fun r => bif ieq (ilen (List.map ep r)) 1 then (some r) else (gbind (impl_chain L r) fun r1 => gbind (slices_Reverse_impl_Peg_impl_Peg L r) fun r2 => gbind (impl_chain L r2) fun r3 => bif ile 0 (wr IntKind.i64 (isub (ilen (List.map ep r1)) 1)) && ile (wr IntKind.i64 (isub (ilen (List.map ep r1)) 1)) (ilen (List.map ep r1)) then (bif ile 0 (wr IntKind.i64 (isub (ilen (List.map ep r3)) 1)) && ile (wr IntKind.i64 (isub (ilen (List.map ep r3)) 1)) (ilen (List.map ep r3)) then (gbind (slices_Concat_impl_Peg_impl_Peg L (lsub r1 0 (iadd 0 (wr IntKind.i64 (isub (ilen (List.map ep r1)) 1))) :: (lsub r3 0 (iadd 0 (wr IntKind.i64 (isub (ilen (List.map ep r3)) 1))) :: []))) fun r4 => some r4) else (none)) else (none))
def impl_band_ok (L : Nat) (C : CF) : Prop := ∀ (oa : Bool) (ca : Bool) (x_a : List AV) (a : List Pt) (_ : x_a = List.map ep a), C 38 ([.lst oa ca 2 x_a]) ([]) = Option.map (fun r : (List Pt) => ((.frs 2 (List.map ep r), []) : AV × List Blk)) (impl_band L a)
theorem impl_band_run (L : Nat) (C : CF) (h_impl_sorted : impl_sorted_ok L C) (h_impl_chain : impl_chain_ok L C) (h_slices_Reverse_impl_Peg_impl_Peg : slices_Reverse_impl_Peg_impl_Peg_ok L C) (h_slices_Concat_impl_Peg_impl_Peg : slices_Concat_impl_Peg_impl_Peg_ok L C) : ∀ (oa : Bool) (ca : Bool) (x_a : List AV) (a : List Pt) (_ : x_a = List.map ep a), run T C sh (keep 38) L Tryz.f38 ([.lst oa ca 2 x_a]) ([]) = Option.map (fun r : (List Pt) => ((.frs 2 (List.map ep r), []) : AV × List Blk)) (impl_band L a) := by
 intro oa ca x_a a hx_a
 subst hx_a
 unfold impl_band
 conv => lhs; whnf
 refine t_call (h_impl_sorted _ _ _ a (by first | rfl | simp only [ml] <;> rfl)) fun r => ?_
 conv => lhs; whnf
 refine t_cond ?_ ?_
 ·conv => lhs; whnf
  exact t_ret (by first | rfl | simp only [ml] <;> rfl)
 ·conv => lhs; whnf
  refine t_call (h_impl_chain _ _ _ r (by first | rfl | simp only [ml] <;> rfl)) fun r1 => ?_
  conv => lhs; whnf
  refine t_call (h_slices_Reverse_impl_Peg_impl_Peg _ _ r (by first | rfl | simp only [ml] <;> rfl)) fun r2 => ?_
  conv => lhs; whnf
  refine t_call (h_impl_chain _ _ _ r2 (by first | rfl | simp only [ml] <;> rfl)) fun r3 => ?_
  conv => lhs; whnf
  refine t_cond ?_ ?_
  ·conv => lhs; whnf
   refine t_cond ?_ ?_
   ·conv => lhs; whnf
    refine t_call (h_slices_Concat_impl_Peg_impl_Peg _ _ _ (lsub r1 0 (iadd 0 (wr IntKind.i64 (isub (ilen (List.map ep r1)) 1))) :: (lsub r3 0 (iadd 0 (wr IntKind.i64 (isub (ilen (List.map ep r3)) 1))) :: [])) (by first | rfl | simp only [ml] <;> rfl)) fun r4 => ?_
    conv => lhs; whnf
    exact t_ret (by first | rfl | simp only [ml] <;> rfl)
   ·conv => lhs; whnf
    exact t_none
  ·conv => lhs; whnf
   exact t_none
noncomputable def impl_BandOf (L : Nat) (a : List Pt) : Option ((List Pt) × Bool) := gbind (impl_AreDifferent L a) fun r => bif !r then (some (([], false))) else (gbind (impl_band L a) fun r1 => some ((r1, true)))
def impl_BandOf_ok (L : Nat) (C : CF) : Prop := ∀ (oa : Bool) (ca : Bool) (x_a : List AV) (a : List Pt) (_ : x_a = List.map ep a), C 6 ([.lst oa ca 2 x_a]) ([]) = Option.map (fun r : (List Pt) × Bool => ((.tup [.frs 2 (List.map ep (r.1)), .bool (r.2)], []) : AV × List Blk)) (impl_BandOf L a)
theorem impl_BandOf_run (L : Nat) (C : CF) (h_impl_AreDifferent : impl_AreDifferent_ok L C) (h_impl_band : impl_band_ok L C) : ∀ (oa : Bool) (ca : Bool) (x_a : List AV) (a : List Pt) (_ : x_a = List.map ep a), run T C sh (keep 6) L Tryz.f6 ([.lst oa ca 2 x_a]) ([]) = Option.map (fun r : (List Pt) × Bool => ((.tup [.frs 2 (List.map ep (r.1)), .bool (r.2)], []) : AV × List Blk)) (impl_BandOf L a) := by
 intro oa ca x_a a hx_a
 subst hx_a
 unfold impl_BandOf
 conv => lhs; whnf
 refine t_call (h_impl_AreDifferent _ _ _ a (by first | rfl | simp only [ml] <;> rfl)) fun r => ?_
 conv => lhs; whnf
 refine t_cond ?_ ?_
 ·conv => lhs; whnf
  exact t_ret (by first | rfl | simp only [ml] <;> rfl)
 ·conv => lhs; whnf
  refine t_call (h_impl_band _ _ _ a (by first | rfl | simp only [ml] <;> rfl)) fun r1 => ?_
  conv => lhs; whnf
  exact t_ret (by first | rfl | simp only [ml] <;> rfl)
noncomputable def spec_l1In (L : Nat) (a : Int) (b : Int) (c : Int) : Option (Bool) := bif ile b a then (some (ile a c)) else (some false)
def spec_l1In_ok (L : Nat) (C : CF) : Prop := ∀ (a : Int) (b : Int) (c : Int), C 71 ([.int .i64 a, .int .i64 b, .int .i64 c]) ([]) = Option.map (fun r : Bool => ((.bool r, []) : AV × List Blk)) (spec_l1In L a b c)
theorem spec_l1In_run (L : Nat) (C : CF) : ∀ (a : Int) (b : Int) (c : Int), run T C sh (keep 71) L Tryz.f71 ([.int .i64 a, .int .i64 b, .int .i64 c]) ([]) = Option.map (fun r : Bool => ((.bool r, []) : AV × List Blk)) (spec_l1In L a b c) := by
 intro a b c
 unfold spec_l1In
 conv => lhs; whnf
 refine t_cond ?_ ?_
 ·conv => lhs; whnf
  exact t_ret (by first | rfl | simp only [ml] <;> rfl)
 ·conv => lhs; whnf
  exact t_ret (by first | rfl | simp only [ml] <;> rfl)
noncomputable def spec_pgIs (L : Nat) (a_0 : Int) (a_1 : Int) : Option (Bool) := gbind (spec_l1In L a_0 (-40) 40) fun r => bif r then (gbind (spec_l1In L a_1 (-40) 40) fun r1 => some r1) else (some false)
def spec_pgIs_ok (L : Nat) (C : CF) : Prop := ∀ (a_0 : Int) (a_1 : Int), C 65 ([.agg [.int .i64 a_0, .int .i64 a_1]]) ([]) = Option.map (fun r : Bool => ((.bool r, []) : AV × List Blk)) (spec_pgIs L a_0 a_1)
theorem spec_pgIs_run (L : Nat) (C : CF) (h_spec_l1In : spec_l1In_ok L C) : ∀ (a_0 : Int) (a_1 : Int), run T C sh (keep 65) L Tryz.f65 ([.agg [.int .i64 a_0, .int .i64 a_1]]) ([]) = Option.map (fun r : Bool => ((.bool r, []) : AV × List Blk)) (spec_pgIs L a_0 a_1) := by
 intro a_0 a_1
 unfold spec_pgIs
 conv => lhs; whnf
 refine t_call (h_spec_l1In a_0 (-40) 40) fun r => ?_
 conv => lhs; whnf
 refine t_cond ?_ ?_
 ·conv => lhs; whnf
  refine t_call (h_spec_l1In a_1 (-40) 40) fun r1 => ?_
  conv => lhs; whnf
  exact t_ret (by first | rfl | simp only [ml] <;> rfl)
 ·conv => lhs; whnf
  exact t_ret (by first | rfl | simp only [ml] <;> rfl)
noncomputable def spec_bdGood_l1 (L : Nat) (κ0 : (List Pt) → (List Pt) → Int → Int → Option Bool) (v0 : List Pt) (v11 : List Pt) (v12 : Int) (v13 : Int) (p : Pt) : Nat → Int → Option Bool
  | 0, _ => none
  | m1 + 1, v25 => bif ilt v25 (ilen (lsub (List.map ep v0) 0 v13)) then (gbind (lget (lsub v0 0 v13) v25) fun p1 => bif ieq (Pt.x p) (Pt.x p1) && ieq (Pt.y p) (Pt.y p1) then (some false) else (spec_bdGood_l1 L κ0 v0 v11 v12 v13 p m1 (wr IntKind.i64 (iadd v25 1)))) else (κ0 v0 v11 v12 (wr IntKind.i64 (iadd v13 1)))
noncomputable def spec_bdGood_l0 (L : Nat) : Nat → (List Pt) → (List Pt) → Int → Int → Option Bool
  | 0, _, _, _, _ => none
  | m + 1, v0, v11, v12, v13 => bif ilt v13 v12 then (gbind (lget v11 v13) fun p => gbind (spec_pgIs L (Pt.x p) (Pt.y p)) fun r1 => bif !r1 then (some false) else (bif ile 0 v13 && ile v13 (ilen (List.map ep v0)) then (spec_bdGood_l1 L (spec_bdGood_l0 L m) v0 v11 v12 v13 p L 0) else (none))) else (some true)
noncomputable def spec_bdGood (L : Nat) (a : List Pt) : Option (Bool) := gbind (spec_l1In L (ilen (List.map ep a)) 1 30) fun r => bif !r then (some false) else (spec_bdGood_l0 L L a a (ilen (List.map ep a)) 0)
def spec_bdGood_ok (L : Nat) (C : CF) : Prop := ∀ (oa : Bool) (ca : Bool) (x_a : List AV) (a : List Pt) (_ : x_a = List.map ep a), C 39 ([.lst oa ca 2 x_a]) ([]) = Option.map (fun r : Bool => ((.bool r, []) : AV × List Blk)) (spec_bdGood L a)
theorem spec_bdGood_run (L : Nat) (C : CF) (h_spec_l1In : spec_l1In_ok L C) (h_spec_pgIs : spec_pgIs_ok L C) : ∀ (oa : Bool) (ca : Bool) (x_a : List AV) (a : List Pt) (_ : x_a = List.map ep a), run T C sh (keep 39) L Tryz.f39 ([.lst oa ca 2 x_a]) ([]) = Option.map (fun r : Bool => ((.bool r, []) : AV × List Blk)) (spec_bdGood L a) := by
 intro oa ca x_a a hx_a
 subst hx_a
 unfold spec_bdGood
 conv => lhs; whnf
 refine t_call (h_spec_l1In (ilen (List.map ep a)) 1 30) fun r => ?_
 conv => lhs; whnf
 refine t_cond ?_ ?_
 ·conv => lhs; whnf
  exact t_ret (by first | rfl | simp only [ml] <;> rfl)
 ·conv => lhs; whnf
  refine t_loop (fun (⟨v0, v11, v12, v13⟩ : (List Pt) × (List Pt) × Int × Int) => (AV.lst oa ca 2 (List.map ep v0) :: topA 10 (AV.lst oa ca 2 (List.map ep v11) :: AV.int IntKind.i64 v12 :: AV.int IntKind.i64 v13 :: tops 20), [])) (fun m (⟨v0, v11, v12, v13⟩ : (List Pt) × (List Pt) × Int × Int) => spec_bdGood_l0 L m v0 v11 v12 v13) (fun _ => rfl) (fun m s rec hrec => ?_) L ((a, a, ilen (List.map ep a), 0)) ?_ ?_
  rotate_left
  ·first | rfl | simp only [ml] <;> rfl
  ·first | rfl | simp only [ml] <;> rfl
  obtain ⟨v0, v11, v12, v13⟩ := s
  show _ = Option.map _ (spec_bdGood_l0 L (m + 1) v0 v11 v12 v13)
  rw [spec_bdGood_l0.eq_2]
  conv => lhs; whnf
  refine t_cond ?_ ?_
  ·conv => lhs; whnf
   refine t_get (en := ep) (l := v11) (by first | rfl | simp only [ml] <;> rfl) fun p => ?_
   conv => lhs; whnf
   refine t_call (h_spec_pgIs (Pt.x p) (Pt.y p)) fun r1 => ?_
   conv => lhs; whnf
   refine t_cond ?_ ?_
   ·conv => lhs; whnf
    exact t_ret (by first | rfl | simp only [ml] <;> rfl)
   ·conv => lhs; whnf
    refine t_cond ?_ ?_
    ·conv => lhs; whnf
     refine t_loop (fun (v25 : Int) => (AV.lst oa ca 2 (List.map ep v0) :: topA 3 (AV.ptr 0 0 0 2 :: topA 6 (AV.lst oa ca 2 (List.map ep v11) :: AV.int IntKind.i64 v12 :: AV.int IntKind.i64 v13 :: topA 9 (AV.lst oa false 2 (lsub (List.map ep v0) 0 v13) :: AV.int IntKind.i64 (ilen (lsub (List.map ep v0) 0 v13)) :: AV.int IntKind.i64 v25 :: tops 8))), [Blk.box (AV.agg [AV.int IntKind.i64 (Pt.x p), AV.int IntKind.i64 (Pt.y p)])])) (fun m1 (v25 : Int) => spec_bdGood_l1 L (spec_bdGood_l0 L m) v0 v11 v12 v13 p m1 v25) (fun _ => rfl) (fun m1 v25 rec1 hrec1 => ?_) L 0 ?_ ?_
     rotate_left
     ·first | rfl | simp only [ml] <;> rfl
     ·first | rfl | simp only [ml] <;> rfl
     show _ = Option.map _ (spec_bdGood_l1 L (spec_bdGood_l0 L m) v0 v11 v12 v13 p (m1 + 1) v25)
     rw [spec_bdGood_l1.eq_2]
     conv => lhs; whnf
     refine t_cond ?_ ?_
     ·conv => lhs; whnf
      refine t_get (en := ep) (l := lsub v0 0 v13) (by first | rfl | simp only [ml] <;> rfl) fun p1 => ?_
      conv => lhs; whnf
      refine t_cond ?_ ?_
      ·conv => lhs; whnf
       exact t_ret (by first | rfl | simp only [ml] <;> rfl)
      ·conv => lhs; whnf
       exact hrec1 (wr IntKind.i64 (iadd v25 1)) _ _ (by first | rfl | simp only [ml] <;> rfl) (by first | rfl | simp only [ml] <;> rfl)
     ·conv => lhs; whnf
      exact hrec ((v0, v11, v12, wr IntKind.i64 (iadd v13 1))) _ _ (by first | rfl | simp only [ml] <;> rfl) (by first | rfl | simp only [ml] <;> rfl)
    ·conv => lhs; whnf
     exact t_none
  ·conv => lhs; whnf
   exact t_ret (by first | rfl | simp only [ml] <;> rfl)
noncomputable def spec_pgLess (L : Nat) (a_0 : Int) (a_1 : Int) (b_0 : Int) (b_1 : Int) : Option (Bool) := bif ilt a_0 b_0 then (some true) else (bif ieq a_0 b_0 then (some (ilt a_1 b_1)) else (some false))
def spec_pgLess_ok (L : Nat) (C : CF) : Prop := ∀ (a_0 : Int) (a_1 : Int) (b_0 : Int) (b_1 : Int), C 93 ([.agg [.int .i64 a_0, .int .i64 a_1], .agg [.int .i64 b_0, .int .i64 b_1]]) ([]) = Option.map (fun r : Bool => ((.bool r, []) : AV × List Blk)) (spec_pgLess L a_0 a_1 b_0 b_1)
theorem spec_pgLess_run (L : Nat) (C : CF) : ∀ (a_0 : Int) (a_1 : Int) (b_0 : Int) (b_1 : Int), run T C sh (keep 93) L Tryz.f93 ([.agg [.int .i64 a_0, .int .i64 a_1], .agg [.int .i64 b_0, .int .i64 b_1]]) ([]) = Option.map (fun r : Bool => ((.bool r, []) : AV × List Blk)) (spec_pgLess L a_0 a_1 b_0 b_1) := by
 intro a_0 a_1 b_0 b_1
 unfold spec_pgLess
 conv => lhs; whnf
 refine t_cond ?_ ?_
 ·conv => lhs; whnf
  exact t_ret (by first | rfl | simp only [ml] <;> rfl)
 ·conv => lhs; whnf
  refine t_cond ?_ ?_
  ·conv => lhs; whnf
   exact t_ret (by first | rfl | simp only [ml] <;> rfl)
  ·conv => lhs; whnf
   exact t_ret (by first | rfl | simp only [ml] <;> rfl)
noncomputable def spec_bdSorted_l1 (L : Nat) (κ0 : (List Pt) → (List Pt) → Int → Int → Option ((List Pt))) (v3 : List Pt) (v8 : List Pt) (v9 : Int) (v10 : Int) (p : Pt) : Nat → Int → Option ((List Pt))
  | 0, _ => none
  | m1 + 1, v6 => bif ilt v6 (ilen (List.map ep v3)) then (gbind (lget v3 v6) fun p1 => gbind (spec_pgLess L (Pt.x p1) (Pt.y p1) (Pt.x p) (Pt.y p)) fun r => bif r then (spec_bdSorted_l1 L κ0 v3 v8 v9 v10 p m1 (wr IntKind.i64 (iadd v6 1))) else (bif ile 0 v6 && ile v6 (ilen (List.map ep v3)) then (bif ieq (ilen (lsub (List.map ep v3) 0 v6)) 0 then (bif fits (ilen ([] : List AV)) 16 then (bif fits (iadd (ilen ([] : List AV)) (ilen [AV.agg [AV.int IntKind.i64 (Pt.x p), AV.int IntKind.i64 (Pt.y p)]])) 16 then (bif ile 0 v6 && ile v6 (ilen (List.map ep v3)) then (bif fits (iadd (ilen (lcat [] [AV.agg [AV.int IntKind.i64 (Pt.x p), AV.int IntKind.i64 (Pt.y p)]])) (ilen (lsub (List.map ep v3) v6 (ilen (List.map ep v3))))) 16 then (κ0 (lcat (lcat [] (p :: [])) (lsub v3 v6 (ilen (List.map ep v3)))) v8 v9 (wr IntKind.i64 (iadd v10 1))) else (none)) else (none)) else (none)) else (none)) else (bif fits (iadd (ilen ([] : List AV)) (ilen (lsub (List.map ep v3) 0 v6))) 16 then (bif fits (iadd (ilen (lcat [] (lsub (List.map ep v3) 0 v6))) (ilen [AV.agg [AV.int IntKind.i64 (Pt.x p), AV.int IntKind.i64 (Pt.y p)]])) 16 then (bif ile 0 v6 && ile v6 (ilen (List.map ep v3)) then (bif fits (iadd (ilen (lcat (lcat [] (lsub (List.map ep v3) 0 v6)) [AV.agg [AV.int IntKind.i64 (Pt.x p), AV.int IntKind.i64 (Pt.y p)]])) (ilen (lsub (List.map ep v3) v6 (ilen (List.map ep v3))))) 16 then (κ0 (lcat (lcat (lcat [] (lsub v3 0 v6)) (p :: [])) (lsub v3 v6 (ilen (List.map ep v3)))) v8 v9 (wr IntKind.i64 (iadd v10 1))) else (none)) else (none)) else (none)) else (none))) else (none))) else (bif ile 0 v6 && ile v6 (ilen (List.map ep v3)) then (bif ieq (ilen (lsub (List.map ep v3) 0 v6)) 0 then (bif fits (ilen ([] : List AV)) 16 then (bif fits (iadd (ilen ([] : List AV)) (ilen [AV.agg [AV.int IntKind.i64 (Pt.x p), AV.int IntKind.i64 (Pt.y p)]])) 16 then (bif ile 0 v6 && ile v6 (ilen (List.map ep v3)) then (bif fits (iadd (ilen (lcat [] [AV.agg [AV.int IntKind.i64 (Pt.x p), AV.int IntKind.i64 (Pt.y p)]])) (ilen (lsub (List.map ep v3) v6 (ilen (List.map ep v3))))) 16 then (κ0 (lcat (lcat [] (p :: [])) (lsub v3 v6 (ilen (List.map ep v3)))) v8 v9 (wr IntKind.i64 (iadd v10 1))) else (none)) else (none)) else (none)) else (none)) else (bif fits (iadd (ilen ([] : List AV)) (ilen (lsub (List.map ep v3) 0 v6))) 16 then (bif fits (iadd (ilen (lcat [] (lsub (List.map ep v3) 0 v6))) (ilen [AV.agg [AV.int IntKind.i64 (Pt.x p), AV.int IntKind.i64 (Pt.y p)]])) 16 then (bif ile 0 v6 && ile v6 (ilen (List.map ep v3)) then (bif fits (iadd (ilen (lcat (lcat [] (lsub (List.map ep v3) 0 v6)) [AV.agg [AV.int IntKind.i64 (Pt.x p), AV.int IntKind.i64 (Pt.y p)]])) (ilen (lsub (List.map ep v3) v6 (ilen (List.map ep v3))))) 16 then (κ0 (lcat (lcat (lcat [] (lsub v3 0 v6)) (p :: [])) (lsub v3 v6 (ilen (List.map ep v3)))) v8 v9 (wr IntKind.i64 (iadd v10 1))) else (none)) else (none)) else (none)) else (none))) else (none))
noncomputable def spec_bdSorted_l0 (L : Nat) : Nat → (List Pt) → (List Pt) → Int → Int → Option ((List Pt))
  | 0, _, _, _, _ => none
  | m + 1, v3, v8, v9, v10 => bif ilt v10 v9 then (gbind (lget v8 v10) fun p => spec_bdSorted_l1 L (spec_bdSorted_l0 L m) v3 v8 v9 v10 p L 0) else (some v3)
noncomputable def spec_bdSorted (L : Nat) (a : List Pt) : Option ((List Pt)) := spec_bdSorted_l0 L L [] a (ilen (List.map ep a)) 0
def spec_bdSorted_ok (L : Nat) (C : CF) : Prop := ∀ (oa : Bool) (ca : Bool) (x_a : List AV) (a : List Pt) (_ : x_a = List.map ep a), C 72 ([.lst oa ca 2 x_a]) ([]) = Option.map (fun r : (List Pt) => ((.lst false false 2 (List.map ep r), []) : AV × List Blk)) (spec_bdSorted L a)
theorem spec_bdSorted_run (L : Nat) (C : CF) (h_spec_pgLess : spec_pgLess_ok L C) : ∀ (oa : Bool) (ca : Bool) (x_a : List AV) (a : List Pt) (_ : x_a = List.map ep a), run T C sh (keep 72) L Tryz.f72 ([.lst oa ca 2 x_a]) ([]) = Option.map (fun r : (List Pt) => ((.lst false false 2 (List.map ep r), []) : AV × List Blk)) (spec_bdSorted L a) := by
 intro oa ca x_a a hx_a
 subst hx_a
 unfold spec_bdSorted
 conv => lhs; whnf
 refine t_loop (fun (⟨v3, v8, v9, v10⟩ : (List Pt) × (List Pt) × Int × Int) => (topA 3 (AV.lst false false 2 (List.map ep v3) :: topA 4 (AV.lst oa ca 2 (List.map ep v8) :: AV.int IntKind.i64 v9 :: AV.int IntKind.i64 v10 :: tops 32)), [])) (fun m (⟨v3, v8, v9, v10⟩ : (List Pt) × (List Pt) × Int × Int) => spec_bdSorted_l0 L m v3 v8 v9 v10) (fun _ => rfl) (fun m s rec hrec => ?_) L (([], a, ilen (List.map ep a), 0)) ?_ ?_
 rotate_left
 ·first | rfl | simp only [ml] <;> rfl
 ·first | rfl | simp only [ml] <;> rfl
 obtain ⟨v3, v8, v9, v10⟩ := s
 show _ = Option.map _ (spec_bdSorted_l0 L (m + 1) v3 v8 v9 v10)
 rw [spec_bdSorted_l0.eq_2]
 conv => lhs; whnf
 refine t_cond ?_ ?_
 ·conv => lhs; whnf
  refine t_get (en := ep) (l := v8) (by first | rfl | simp only [ml] <;> rfl) fun p => ?_
  conv => lhs; whnf
  refine t_loop (fun (v6 : Int) => (topA 3 (AV.lst false false 2 (List.map ep v3) :: AV.top :: AV.ptr 0 0 0 2 :: AV.int IntKind.i64 v6 :: AV.top :: AV.lst oa ca 2 (List.map ep v8) :: AV.int IntKind.i64 v9 :: AV.int IntKind.i64 v10 :: tops 32), [Blk.box (AV.agg [AV.int IntKind.i64 (Pt.x p), AV.int IntKind.i64 (Pt.y p)])])) (fun m1 (v6 : Int) => spec_bdSorted_l1 L (spec_bdSorted_l0 L m) v3 v8 v9 v10 p m1 v6) (fun _ => rfl) (fun m1 v6 rec1 hrec1 => ?_) L 0 ?_ ?_
  rotate_left
  ·first | rfl | simp only [ml] <;> rfl
  ·first | rfl | simp only [ml] <;> rfl
  show _ = Option.map _ (spec_bdSorted_l1 L (spec_bdSorted_l0 L m) v3 v8 v9 v10 p (m1 + 1) v6)
  rw [spec_bdSorted_l1.eq_2]
  conv => lhs; whnf
  refine t_cond ?_ ?_
  ·conv => lhs; whnf
   refine t_get (en := ep) (l := v3) (by first | rfl | simp only [ml] <;> rfl) fun p1 => ?_
   conv => lhs; whnf
   refine t_call (h_spec_pgLess (Pt.x p1) (Pt.y p1) (Pt.x p) (Pt.y p)) fun r => ?_
   conv => lhs; whnf
   refine t_cond ?_ ?_
   ·conv => lhs; whnf
    exact hrec1 (wr IntKind.i64 (iadd v6 1)) _ _ (by first | rfl | simp only [ml] <;> rfl) (by first | rfl | simp only [ml] <;> rfl)
   ·conv => lhs; whnf
    refine t_cond ?_ ?_
    ·conv => lhs; whnf
     refine t_cond ?_ ?_
     ·conv => lhs; whnf
      refine t_cond ?_ ?_
      ·conv => lhs; whnf
       refine t_cond ?_ ?_
       ·conv => lhs; whnf
        refine t_cond ?_ ?_
        ·conv => lhs; whnf
         refine t_cond ?_ ?_
         ·conv => lhs; whnf
          exact hrec ((lcat (lcat [] (p :: [])) (lsub v3 v6 (ilen (List.map ep v3))), v8, v9, wr IntKind.i64 (iadd v10 1))) _ _ (by first | rfl | simp only [ml] <;> rfl) (by first | rfl | simp only [ml] <;> rfl)
         ·conv => lhs; whnf
          exact t_none
        ·conv => lhs; whnf
         exact t_none
       ·conv => lhs; whnf
        exact t_none
      ·conv => lhs; whnf
       exact t_none
     ·conv => lhs; whnf
      refine t_cond ?_ ?_
      ·conv => lhs; whnf
       refine t_cond ?_ ?_
       ·conv => lhs; whnf
        refine t_cond ?_ ?_
        ·conv => lhs; whnf
         refine t_cond ?_ ?_
         ·conv => lhs; whnf
          exact hrec ((lcat (lcat (lcat [] (lsub v3 0 v6)) (p :: [])) (lsub v3 v6 (ilen (List.map ep v3))), v8, v9, wr IntKind.i64 (iadd v10 1))) _ _ (by first | rfl | simp only [ml] <;> rfl) (by first | rfl | simp only [ml] <;> rfl)
         ·conv => lhs; whnf
          exact t_none
        ·conv => lhs; whnf
         exact t_none
       ·conv => lhs; whnf
        exact t_none
      ·conv => lhs; whnf
       exact t_none
    ·conv => lhs; whnf
     exact t_none
  ·conv => lhs; whnf
   refine t_cond ?_ ?_
   ·conv => lhs; whnf
    refine t_cond ?_ ?_
    ·conv => lhs; whnf
     refine t_cond ?_ ?_
     ·conv => lhs; whnf
      refine t_cond ?_ ?_
      ·conv => lhs; whnf
       refine t_cond ?_ ?_
       ·conv => lhs; whnf
        refine t_cond ?_ ?_
        ·conv => lhs; whnf
         exact hrec ((lcat (lcat [] (p :: [])) (lsub v3 v6 (ilen (List.map ep v3))), v8, v9, wr IntKind.i64 (iadd v10 1))) _ _ (by first | rfl | simp only [ml] <;> rfl) (by first | rfl | simp only [ml] <;> rfl)
        ·conv => lhs; whnf
         exact t_none
       ·conv => lhs; whnf
        exact t_none
      ·conv => lhs; whnf
       exact t_none
     ·conv => lhs; whnf
      exact t_none
    ·conv => lhs; whnf
     refine t_cond ?_ ?_
     ·conv => lhs; whnf
      refine t_cond ?_ ?_
      ·conv => lhs; whnf
       refine t_cond ?_ ?_
       ·conv => lhs; whnf
        refine t_cond ?_ ?_
        ·conv => lhs; whnf
         exact hrec ((lcat (lcat (lcat [] (lsub v3 0 v6)) (p :: [])) (lsub v3 v6 (ilen (List.map ep v3))), v8, v9, wr IntKind.i64 (iadd v10 1))) _ _ (by first | rfl | simp only [ml] <;> rfl) (by first | rfl | simp only [ml] <;> rfl)
        ·conv => lhs; whnf
         exact t_none
       ·conv => lhs; whnf
        exact t_none
      ·conv => lhs; whnf
       exact t_none
     ·conv => lhs; whnf
      exact t_none
   ·conv => lhs; whnf
    exact t_none
 ·conv => lhs; whnf
  exact t_ret (by first | rfl | simp only [ml] <;> rfl)
noncomputable def spec_pgTurn (L : Nat) (a_0 : Int) (a_1 : Int) (b_0 : Int) (b_1 : Int) (c_0 : Int) (c_1 : Int) : Option (Int) := some (wr IntKind.i64 (isub (wr IntKind.i64 (imul (wr IntKind.i64 (isub b_0 a_0)) (wr IntKind.i64 (isub c_1 a_1)))) (wr IntKind.i64 (imul (wr IntKind.i64 (isub b_1 a_1)) (wr IntKind.i64 (isub c_0 a_0))))))
def spec_pgTurn_ok (L : Nat) (C : CF) : Prop := ∀ (a_0 : Int) (a_1 : Int) (b_0 : Int) (b_1 : Int) (c_0 : Int) (c_1 : Int), C 73 ([.agg [.int .i64 a_0, .int .i64 a_1], .agg [.int .i64 b_0, .int .i64 b_1], .agg [.int .i64 c_0, .int .i64 c_1]]) ([]) = Option.map (fun r : Int => ((.int .i64 r, []) : AV × List Blk)) (spec_pgTurn L a_0 a_1 b_0 b_1 c_0 c_1)
theorem spec_pgTurn_run (L : Nat) (C : CF) : ∀ (a_0 : Int) (a_1 : Int) (b_0 : Int) (b_1 : Int) (c_0 : Int) (c_1 : Int), run T C sh (keep 73) L Tryz.f73 ([.agg [.int .i64 a_0, .int .i64 a_1], .agg [.int .i64 b_0, .int .i64 b_1], .agg [.int .i64 c_0, .int .i64 c_1]]) ([]) = Option.map (fun r : Int => ((.int .i64 r, []) : AV × List Blk)) (spec_pgTurn L a_0 a_1 b_0 b_1 c_0 c_1) := by
 intro a_0 a_1 b_0 b_1 c_0 c_1
 unfold spec_pgTurn
 conv => lhs; whnf
 exact t_ret (by first | rfl | simp only [ml] <;> rfl)
noncomputable def spec_bdBand_l2 (L : Nat) (κ1 : (List Pt) → Int → Int → Int → Int → Int → Int → (List Pt) → Option ((List Pt))) (v31 : List Pt) (v4o1 : Int) (v51 : Int) (v6 : Int) (v22 : Int) (v23 : Int) (w01 : List Pt) (p1 : Pt) : Nat → Int → Option ((List Pt))
  | 0, _ => none
  | m2 + 1, v4n2 => bif ilt (wr IntKind.i64 (iadd v6 1)) v4n2 then (bif ile 0 (wr IntKind.i64 (isub v4n2 2)) && ilt (wr IntKind.i64 (isub v4n2 2)) v4n2 then (gbind (lget w01 (iadd v4o1 (wr IntKind.i64 (isub v4n2 2)))) fun p2 => bif ile 0 (wr IntKind.i64 (isub v4n2 1)) && ilt (wr IntKind.i64 (isub v4n2 1)) v4n2 then (gbind (lget w01 (iadd v4o1 (wr IntKind.i64 (isub v4n2 1)))) fun p3 => gbind (spec_pgTurn L (Pt.x p2) (Pt.y p2) (Pt.x p3) (Pt.y p3) (Pt.x p1) (Pt.y p1)) fun r1 => bif ile r1 0 then (bif !false && ile 0 (wr IntKind.i64 (isub v4n2 1)) && ile (iadd v4o1 (wr IntKind.i64 (isub v4n2 1))) (ilen (List.map ep w01)) then (spec_bdBand_l2 L κ1 v31 v4o1 v51 v6 v22 v23 w01 p1 m2 (wr IntKind.i64 (isub v4n2 1))) else (none)) else (bif fits (iadd v4n2 (ilen [AV.agg [AV.int IntKind.i64 (Pt.x p1), AV.int IntKind.i64 (Pt.y p1)]])) 16 then (bif ieq (iadd v4o1 v4n2) (ilen (List.map ep w01)) then (κ1 v31 0 (ilen (lcat (lsub (List.map ep w01) v4o1 (iadd v4o1 v4n2)) [AV.agg [AV.int IntKind.i64 (Pt.x p1), AV.int IntKind.i64 (Pt.y p1)]])) v51 v6 v22 (wr IntKind.i64 (iadd v23 1)) (lcat (lsub w01 v4o1 (iadd v4o1 v4n2)) (p1 :: []))) else (bif ile (iadd (iadd v4o1 v4n2) (ilen [AV.agg [AV.int IntKind.i64 (Pt.x p1), AV.int IntKind.i64 (Pt.y p1)]])) (ilen (List.map ep w01)) then (κ1 v31 v4o1 (iadd v4n2 (ilen [AV.agg [AV.int IntKind.i64 (Pt.x p1), AV.int IntKind.i64 (Pt.y p1)]])) v51 v6 v22 (wr IntKind.i64 (iadd v23 1)) (lcat (lcat (lsub w01 0 (iadd v4o1 v4n2)) (p1 :: [])) (lsub w01 (iadd (iadd v4o1 v4n2) (ilen [AV.agg [AV.int IntKind.i64 (Pt.x p1), AV.int IntKind.i64 (Pt.y p1)]])) (ilen (List.map ep w01))))) else (none))) else (none))) else (none)) else (none)) else (bif fits (iadd v4n2 (ilen [AV.agg [AV.int IntKind.i64 (Pt.x p1), AV.int IntKind.i64 (Pt.y p1)]])) 16 then (bif ieq (iadd v4o1 v4n2) (ilen (List.map ep w01)) then (κ1 v31 0 (ilen (lcat (lsub (List.map ep w01) v4o1 (iadd v4o1 v4n2)) [AV.agg [AV.int IntKind.i64 (Pt.x p1), AV.int IntKind.i64 (Pt.y p1)]])) v51 v6 v22 (wr IntKind.i64 (iadd v23 1)) (lcat (lsub w01 v4o1 (iadd v4o1 v4n2)) (p1 :: []))) else (bif ile (iadd (iadd v4o1 v4n2) (ilen [AV.agg [AV.int IntKind.i64 (Pt.x p1), AV.int IntKind.i64 (Pt.y p1)]])) (ilen (List.map ep w01)) then (κ1 v31 v4o1 (iadd v4n2 (ilen [AV.agg [AV.int IntKind.i64 (Pt.x p1), AV.int IntKind.i64 (Pt.y p1)]])) v51 v6 v22 (wr IntKind.i64 (iadd v23 1)) (lcat (lcat (lsub w01 0 (iadd v4o1 v4n2)) (p1 :: [])) (lsub w01 (iadd (iadd v4o1 v4n2) (ilen [AV.agg [AV.int IntKind.i64 (Pt.x p1), AV.int IntKind.i64 (Pt.y p1)]])) (ilen (List.map ep w01))))) else (none))) else (none))
noncomputable def spec_bdBand_l3 (L : Nat) (κ1 : (List Pt) → Int → Int → Int → Int → Int → Int → (List Pt) → Option ((List Pt))) (v31 : List Pt) (v4o1 : Int) (v51 : Int) (v6 : Int) (v22 : Int) (v23 : Int) (w01 : List Pt) (p : Pt) : Nat → Int → Option ((List Pt))
  | 0, _ => none
  | m3 + 1, v4n3 => bif ilt (wr IntKind.i64 (iadd v6 1)) v4n3 then (bif ile 0 (wr IntKind.i64 (isub v4n3 2)) && ilt (wr IntKind.i64 (isub v4n3 2)) v4n3 then (gbind (lget w01 (iadd v4o1 (wr IntKind.i64 (isub v4n3 2)))) fun p4 => bif ile 0 (wr IntKind.i64 (isub v4n3 1)) && ilt (wr IntKind.i64 (isub v4n3 1)) v4n3 then (gbind (lget w01 (iadd v4o1 (wr IntKind.i64 (isub v4n3 1)))) fun p5 => gbind (spec_pgTurn L (Pt.x p4) (Pt.y p4) (Pt.x p5) (Pt.y p5) (Pt.x p) (Pt.y p)) fun r2 => bif ile r2 0 then (bif !false && ile 0 (wr IntKind.i64 (isub v4n3 1)) && ile (iadd v4o1 (wr IntKind.i64 (isub v4n3 1))) (ilen (List.map ep w01)) then (spec_bdBand_l3 L κ1 v31 v4o1 v51 v6 v22 v23 w01 p m3 (wr IntKind.i64 (isub v4n3 1))) else (none)) else (bif fits (iadd v4n3 (ilen [AV.agg [AV.int IntKind.i64 (Pt.x p), AV.int IntKind.i64 (Pt.y p)]])) 16 then (bif ieq (iadd v4o1 v4n3) (ilen (List.map ep w01)) then (κ1 v31 0 (ilen (lcat (lsub (List.map ep w01) v4o1 (iadd v4o1 v4n3)) [AV.agg [AV.int IntKind.i64 (Pt.x p), AV.int IntKind.i64 (Pt.y p)]])) v51 v6 v22 (wr IntKind.i64 (iadd v23 1)) (lcat (lsub w01 v4o1 (iadd v4o1 v4n3)) (p :: []))) else (bif ile (iadd (iadd v4o1 v4n3) (ilen [AV.agg [AV.int IntKind.i64 (Pt.x p), AV.int IntKind.i64 (Pt.y p)]])) (ilen (List.map ep w01)) then (κ1 v31 v4o1 (iadd v4n3 (ilen [AV.agg [AV.int IntKind.i64 (Pt.x p), AV.int IntKind.i64 (Pt.y p)]])) v51 v6 v22 (wr IntKind.i64 (iadd v23 1)) (lcat (lcat (lsub w01 0 (iadd v4o1 v4n3)) (p :: [])) (lsub w01 (iadd (iadd v4o1 v4n3) (ilen [AV.agg [AV.int IntKind.i64 (Pt.x p), AV.int IntKind.i64 (Pt.y p)]])) (ilen (List.map ep w01))))) else (none))) else (none))) else (none)) else (none)) else (bif fits (iadd v4n3 (ilen [AV.agg [AV.int IntKind.i64 (Pt.x p), AV.int IntKind.i64 (Pt.y p)]])) 16 then (bif ieq (iadd v4o1 v4n3) (ilen (List.map ep w01)) then (κ1 v31 0 (ilen (lcat (lsub (List.map ep w01) v4o1 (iadd v4o1 v4n3)) [AV.agg [AV.int IntKind.i64 (Pt.x p), AV.int IntKind.i64 (Pt.y p)]])) v51 v6 v22 (wr IntKind.i64 (iadd v23 1)) (lcat (lsub w01 v4o1 (iadd v4o1 v4n3)) (p :: []))) else (bif ile (iadd (iadd v4o1 v4n3) (ilen [AV.agg [AV.int IntKind.i64 (Pt.x p), AV.int IntKind.i64 (Pt.y p)]])) (ilen (List.map ep w01)) then (κ1 v31 v4o1 (iadd v4n3 (ilen [AV.agg [AV.int IntKind.i64 (Pt.x p), AV.int IntKind.i64 (Pt.y p)]])) v51 v6 v22 (wr IntKind.i64 (iadd v23 1)) (lcat (lcat (lsub w01 0 (iadd v4o1 v4n3)) (p :: [])) (lsub w01 (iadd (iadd v4o1 v4n3) (ilen [AV.agg [AV.int IntKind.i64 (Pt.x p), AV.int IntKind.i64 (Pt.y p)]])) (ilen (List.map ep w01))))) else (none))) else (none))
noncomputable def spec_bdBand_l1 (L : Nat) (κ0 : (List Pt) → Int → Int → Int → (List Pt) → Option ((List Pt))) : Nat → (List Pt) → Int → Int → Int → Int → Int → Int → (List Pt) → Option ((List Pt))
  | 0, _, _, _, _, _, _, _, _ => none
  | m1 + 1, v31, v4o1, v4n1, v51, v6, v22, v23, w01 => bif ilt v23 v22 then (gbind (lget v31 v23) fun p => bif ieq v51 1 then (gbind (lget v31 (wr IntKind.i64 (isub (wr IntKind.i64 (isub (ilen (List.map ep v31)) 1)) v23))) fun p1 => spec_bdBand_l2 L (spec_bdBand_l1 L κ0 m1) v31 v4o1 v51 v6 v22 v23 w01 p1 L v4n1) else (spec_bdBand_l3 L (spec_bdBand_l1 L κ0 m1) v31 v4o1 v51 v6 v22 v23 w01 p L v4n1)) else (bif !false && ile 0 (wr IntKind.i64 (isub v4n1 1)) && ile (iadd v4o1 (wr IntKind.i64 (isub v4n1 1))) (ilen (List.map ep w01)) then (κ0 v31 v4o1 (wr IntKind.i64 (isub v4n1 1)) (wr IntKind.i64 (iadd v51 1)) w01) else (none))
noncomputable def spec_bdBand_l0 (L : Nat) : Nat → (List Pt) → Int → Int → Int → (List Pt) → Option ((List Pt))
  | 0, _, _, _, _, _ => none
  | m + 1, v3, v4o, v4n, v5, w0 => bif ilt v5 2 then (spec_bdBand_l1 L (spec_bdBand_l0 L m) L v3 v4o v4n v5 v4n (ilen (List.map ep v3)) 0 w0) else (some (lsub w0 v4o (iadd v4o v4n)))
noncomputable def spec_bdBand (L : Nat) (a : List Pt) : Option ((List Pt)) := gbind (spec_bdSorted L a) fun r => bif ilt (ilen (List.map ep r)) 3 then (some r) else (spec_bdBand_l0 L L r 0 (ilen ([] : List AV)) 0 [])
def spec_bdBand_ok (L : Nat) (C : CF) : Prop := ∀ (oa : Bool) (ca : Bool) (x_a : List AV) (a : List Pt) (_ : x_a = List.map ep a), C 40 ([.lst oa ca 2 x_a]) ([]) = Option.map (fun r : (List Pt) => ((.lst false false 2 (List.map ep r), []) : AV × List Blk)) (spec_bdBand L a)
theorem spec_bdBand_run (L : Nat) (C : CF) (h_spec_bdSorted : spec_bdSorted_ok L C) (h_spec_pgTurn : spec_pgTurn_ok L C) : ∀ (oa : Bool) (ca : Bool) (x_a : List AV) (a : List Pt) (_ : x_a = List.map ep a), run T C sh (keep 40) L Tryz.f40 ([.lst oa ca 2 x_a]) ([]) = Option.map (fun r : (List Pt) => ((.lst false false 2 (List.map ep r), []) : AV × List Blk)) (spec_bdBand L a) := by
 intro oa ca x_a a hx_a
 subst hx_a
 unfold spec_bdBand
 conv => lhs; whnf
 refine t_call (h_spec_bdSorted _ _ _ a (by first | rfl | simp only [ml] <;> rfl)) fun r => ?_
 conv => lhs; whnf
 refine t_cond ?_ ?_
 ·conv => lhs; whnf
  exact t_ret (by first | rfl | simp only [ml] <;> rfl)
 ·conv => lhs; whnf
  refine t_loop (fun (⟨v3, v4o, v4n, v5, w0⟩ : (List Pt) × Int × Int × Int × (List Pt)) => (topA 3 (AV.lst false false 2 (List.map ep v3) :: AV.own 0 2 (some (v4o, v4n)) false :: AV.int IntKind.i64 v5 :: tops 72), [Blk.rows Mode.live 2 (List.map ep w0)])) (fun m (⟨v3, v4o, v4n, v5, w0⟩ : (List Pt) × Int × Int × Int × (List Pt)) => spec_bdBand_l0 L m v3 v4o v4n v5 w0) (fun _ => rfl) (fun m s rec hrec => ?_) L ((r, 0, ilen ([] : List AV), 0, [])) ?_ ?_
  rotate_left
  ·first | rfl | simp only [ml] <;> rfl
  ·first | rfl | simp only [ml] <;> rfl
  obtain ⟨v3, v4o, v4n, v5, w0⟩ := s
  show _ = Option.map _ (spec_bdBand_l0 L (m + 1) v3 v4o v4n v5 w0)
  rw [spec_bdBand_l0.eq_2]
  conv => lhs; whnf
  refine t_cond ?_ ?_
  ·conv => lhs; whnf
   refine t_loop (fun (⟨v31, v4o1, v4n1, v51, v6, v22, v23, w01⟩ : (List Pt) × Int × Int × Int × Int × Int × Int × (List Pt)) => (topA 3 (AV.lst false false 2 (List.map ep v31) :: AV.own 0 2 (some (v4o1, v4n1)) false :: AV.int IntKind.i64 v51 :: AV.int IntKind.i64 v6 :: topA 15 (AV.int IntKind.i64 v22 :: AV.int IntKind.i64 v23 :: tops 54)), [Blk.rows Mode.live 2 (List.map ep w01)])) (fun m1 (⟨v31, v4o1, v4n1, v51, v6, v22, v23, w01⟩ : (List Pt) × Int × Int × Int × Int × Int × Int × (List Pt)) => spec_bdBand_l1 L (spec_bdBand_l0 L m) m1 v31 v4o1 v4n1 v51 v6 v22 v23 w01) (fun _ => rfl) (fun m1 s1 rec1 hrec1 => ?_) L ((v3, v4o, v4n, v5, v4n, ilen (List.map ep v3), 0, w0)) ?_ ?_
   rotate_left
   ·first | rfl | simp only [ml] <;> rfl
   ·first | rfl | simp only [ml] <;> rfl
   obtain ⟨v31, v4o1, v4n1, v51, v6, v22, v23, w01⟩ := s1
   show _ = Option.map _ (spec_bdBand_l1 L (spec_bdBand_l0 L m) (m1 + 1) v31 v4o1 v4n1 v51 v6 v22 v23 w01)
   rw [spec_bdBand_l1.eq_2]
   conv => lhs; whnf
   refine t_cond ?_ ?_
   ·conv => lhs; whnf
    refine t_get (en := ep) (l := v31) (by first | rfl | simp only [ml] <;> rfl) fun p => ?_
    conv => lhs; whnf
    refine t_cond ?_ ?_
    ·conv => lhs; whnf
     refine t_get (en := ep) (l := v31) (by first | rfl | simp only [ml] <;> rfl) fun p1 => ?_
     conv => lhs; whnf
     refine t_loop (fun (v4n2 : Int) => (topA 3 (AV.lst false false 2 (List.map ep v31) :: AV.own 0 2 (some (v4o1, v4n2)) false :: AV.int IntKind.i64 v51 :: AV.int IntKind.i64 v6 :: AV.top :: AV.ptr 1 0 0 2 :: topA 13 (AV.int IntKind.i64 v22 :: AV.int IntKind.i64 v23 :: tops 54)), [Blk.rows Mode.live 2 (List.map ep w01), Blk.box (AV.agg [AV.int IntKind.i64 (Pt.x p1), AV.int IntKind.i64 (Pt.y p1)])])) (fun m2 (v4n2 : Int) => spec_bdBand_l2 L (spec_bdBand_l1 L (spec_bdBand_l0 L m) m1) v31 v4o1 v51 v6 v22 v23 w01 p1 m2 v4n2) (fun _ => rfl) (fun m2 v4n2 rec2 hrec2 => ?_) L v4n1 ?_ ?_
     rotate_left
     ·first | rfl | simp only [ml] <;> rfl
     ·first | rfl | simp only [ml] <;> rfl
     show _ = Option.map _ (spec_bdBand_l2 L (spec_bdBand_l1 L (spec_bdBand_l0 L m) m1) v31 v4o1 v51 v6 v22 v23 w01 p1 (m2 + 1) v4n2)
     rw [spec_bdBand_l2.eq_2]
     conv => lhs; whnf
     refine t_cond ?_ ?_
     ·conv => lhs; whnf
      refine t_cond ?_ ?_
      ·conv => lhs; whnf
       refine t_get (en := ep) (l := w01) (by first | rfl | simp only [ml] <;> rfl) fun p2 => ?_
       conv => lhs; whnf
       refine t_cond ?_ ?_
       ·conv => lhs; whnf
        refine t_get (en := ep) (l := w01) (by first | rfl | simp only [ml] <;> rfl) fun p3 => ?_
        conv => lhs; whnf
        refine t_call (h_spec_pgTurn (Pt.x p2) (Pt.y p2) (Pt.x p3) (Pt.y p3) (Pt.x p1) (Pt.y p1)) fun r1 => ?_
        conv => lhs; whnf
        refine t_cond ?_ ?_
        ·conv => lhs; whnf
         refine t_cond ?_ ?_
         ·conv => lhs; whnf
          exact hrec2 (wr IntKind.i64 (isub v4n2 1)) _ _ (by first | rfl | simp only [ml] <;> rfl) (by first | rfl | simp only [ml] <;> rfl)
         ·conv => lhs; whnf
          exact t_none
        ·conv => lhs; whnf
         refine t_cond ?_ ?_
         ·conv => lhs; whnf
          refine t_cond ?_ ?_
          ·conv => lhs; whnf
           exact hrec1 ((v31, 0, ilen (lcat (lsub (List.map ep w01) v4o1 (iadd v4o1 v4n2)) [AV.agg [AV.int IntKind.i64 (Pt.x p1), AV.int IntKind.i64 (Pt.y p1)]]), v51, v6, v22, wr IntKind.i64 (iadd v23 1), lcat (lsub w01 v4o1 (iadd v4o1 v4n2)) (p1 :: []))) _ _ (by first | rfl | simp only [ml] <;> rfl) (by first | rfl | simp only [ml] <;> rfl)
          ·conv => lhs; whnf
           refine t_cond ?_ ?_
           ·conv => lhs; whnf
            exact hrec1 ((v31, v4o1, iadd v4n2 (ilen [AV.agg [AV.int IntKind.i64 (Pt.x p1), AV.int IntKind.i64 (Pt.y p1)]]), v51, v6, v22, wr IntKind.i64 (iadd v23 1), lcat (lcat (lsub w01 0 (iadd v4o1 v4n2)) (p1 :: [])) (lsub w01 (iadd (iadd v4o1 v4n2) (ilen [AV.agg [AV.int IntKind.i64 (Pt.x p1), AV.int IntKind.i64 (Pt.y p1)]])) (ilen (List.map ep w01))))) _ _ (by first | rfl | simp only [ml] <;> rfl) (by first | rfl | simp only [ml] <;> rfl)
           ·conv => lhs; whnf
            exact t_none
         ·conv => lhs; whnf
          exact t_none
       ·conv => lhs; whnf
        exact t_none
      ·conv => lhs; whnf
       exact t_none
     ·conv => lhs; whnf
      refine t_cond ?_ ?_
      ·conv => lhs; whnf
       refine t_cond ?_ ?_
       ·conv => lhs; whnf
        exact hrec1 ((v31, 0, ilen (lcat (lsub (List.map ep w01) v4o1 (iadd v4o1 v4n2)) [AV.agg [AV.int IntKind.i64 (Pt.x p1), AV.int IntKind.i64 (Pt.y p1)]]), v51, v6, v22, wr IntKind.i64 (iadd v23 1), lcat (lsub w01 v4o1 (iadd v4o1 v4n2)) (p1 :: []))) _ _ (by first | rfl | simp only [ml] <;> rfl) (by first | rfl | simp only [ml] <;> rfl)
       ·conv => lhs; whnf
        refine t_cond ?_ ?_
        ·conv => lhs; whnf
         exact hrec1 ((v31, v4o1, iadd v4n2 (ilen [AV.agg [AV.int IntKind.i64 (Pt.x p1), AV.int IntKind.i64 (Pt.y p1)]]), v51, v6, v22, wr IntKind.i64 (iadd v23 1), lcat (lcat (lsub w01 0 (iadd v4o1 v4n2)) (p1 :: [])) (lsub w01 (iadd (iadd v4o1 v4n2) (ilen [AV.agg [AV.int IntKind.i64 (Pt.x p1), AV.int IntKind.i64 (Pt.y p1)]])) (ilen (List.map ep w01))))) _ _ (by first | rfl | simp only [ml] <;> rfl) (by first | rfl | simp only [ml] <;> rfl)
        ·conv => lhs; whnf
         exact t_none
      ·conv => lhs; whnf
       exact t_none
    ·conv => lhs; whnf
     refine t_loop (fun (v4n3 : Int) => (topA 3 (AV.lst false false 2 (List.map ep v31) :: AV.own 0 2 (some (v4o1, v4n3)) false :: AV.int IntKind.i64 v51 :: AV.int IntKind.i64 v6 :: AV.top :: AV.ptr 1 0 0 2 :: topA 13 (AV.int IntKind.i64 v22 :: AV.int IntKind.i64 v23 :: tops 54)), [Blk.rows Mode.live 2 (List.map ep w01), Blk.box (AV.agg [AV.int IntKind.i64 (Pt.x p), AV.int IntKind.i64 (Pt.y p)])])) (fun m3 (v4n3 : Int) => spec_bdBand_l3 L (spec_bdBand_l1 L (spec_bdBand_l0 L m) m1) v31 v4o1 v51 v6 v22 v23 w01 p m3 v4n3) (fun _ => rfl) (fun m3 v4n3 rec3 hrec3 => ?_) L v4n1 ?_ ?_
     rotate_left
     ·first | rfl | simp only [ml] <;> rfl
     ·first | rfl | simp only [ml] <;> rfl
     show _ = Option.map _ (spec_bdBand_l3 L (spec_bdBand_l1 L (spec_bdBand_l0 L m) m1) v31 v4o1 v51 v6 v22 v23 w01 p (m3 + 1) v4n3)
     rw [spec_bdBand_l3.eq_2]
     conv => lhs; whnf
     refine t_cond ?_ ?_
     ·conv => lhs; whnf
      refine t_cond ?_ ?_
      ·conv => lhs; whnf
       refine t_get (en := ep) (l := w01) (by first | rfl | simp only [ml] <;> rfl) fun p4 => ?_
       conv => lhs; whnf
       refine t_cond ?_ ?_
       ·conv => lhs; whnf
        refine t_get (en := ep) (l := w01) (by first | rfl | simp only [ml] <;> rfl) fun p5 => ?_
        conv => lhs; whnf
        refine t_call (h_spec_pgTurn (Pt.x p4) (Pt.y p4) (Pt.x p5) (Pt.y p5) (Pt.x p) (Pt.y p)) fun r2 => ?_
        conv => lhs; whnf
        refine t_cond ?_ ?_
        ·conv => lhs; whnf
         refine t_cond ?_ ?_
         ·conv => lhs; whnf
          exact hrec3 (wr IntKind.i64 (isub v4n3 1)) _ _ (by first | rfl | simp only [ml] <;> rfl) (by first | rfl | simp only [ml] <;> rfl)
         ·conv => lhs; whnf
          exact t_none
        ·conv => lhs; whnf
         refine t_cond ?_ ?_
         ·conv => lhs; whnf
          refine t_cond ?_ ?_
          ·conv => lhs; whnf
           exact hrec1 ((v31, 0, ilen (lcat (lsub (List.map ep w01) v4o1 (iadd v4o1 v4n3)) [AV.agg [AV.int IntKind.i64 (Pt.x p), AV.int IntKind.i64 (Pt.y p)]]), v51, v6, v22, wr IntKind.i64 (iadd v23 1), lcat (lsub w01 v4o1 (iadd v4o1 v4n3)) (p :: []))) _ _ (by first | rfl | simp only [ml] <;> rfl) (by first | rfl | simp only [ml] <;> rfl)
          ·conv => lhs; whnf
           refine t_cond ?_ ?_
           ·conv => lhs; whnf
            exact hrec1 ((v31, v4o1, iadd v4n3 (ilen [AV.agg [AV.int IntKind.i64 (Pt.x p), AV.int IntKind.i64 (Pt.y p)]]), v51, v6, v22, wr IntKind.i64 (iadd v23 1), lcat (lcat (lsub w01 0 (iadd v4o1 v4n3)) (p :: [])) (lsub w01 (iadd (iadd v4o1 v4n3) (ilen [AV.agg [AV.int IntKind.i64 (Pt.x p), AV.int IntKind.i64 (Pt.y p)]])) (ilen (List.map ep w01))))) _ _ (by first | rfl | simp only [ml] <;> rfl) (by first | rfl | simp only [ml] <;> rfl)
           ·conv => lhs; whnf
            exact t_none
         ·conv => lhs; whnf
          exact t_none
       ·conv => lhs; whnf
        exact t_none
      ·conv => lhs; whnf
       exact t_none
     ·conv => lhs; whnf
      refine t_cond ?_ ?_
      ·conv => lhs; whnf
       refine t_cond ?_ ?_
       ·conv => lhs; whnf
        exact hrec1 ((v31, 0, ilen (lcat (lsub (List.map ep w01) v4o1 (iadd v4o1 v4n3)) [AV.agg [AV.int IntKind.i64 (Pt.x p), AV.int IntKind.i64 (Pt.y p)]]), v51, v6, v22, wr IntKind.i64 (iadd v23 1), lcat (lsub w01 v4o1 (iadd v4o1 v4n3)) (p :: []))) _ _ (by first | rfl | simp only [ml] <;> rfl) (by first | rfl | simp only [ml] <;> rfl)
       ·conv => lhs; whnf
        refine t_cond ?_ ?_
        ·conv => lhs; whnf
         exact hrec1 ((v31, v4o1, iadd v4n3 (ilen [AV.agg [AV.int IntKind.i64 (Pt.x p), AV.int IntKind.i64 (Pt.y p)]]), v51, v6, v22, wr IntKind.i64 (iadd v23 1), lcat (lcat (lsub w01 0 (iadd v4o1 v4n3)) (p :: [])) (lsub w01 (iadd (iadd v4o1 v4n3) (ilen [AV.agg [AV.int IntKind.i64 (Pt.x p), AV.int IntKind.i64 (Pt.y p)]])) (ilen (List.map ep w01))))) _ _ (by first | rfl | simp only [ml] <;> rfl) (by first | rfl | simp only [ml] <;> rfl)
        ·conv => lhs; whnf
         exact t_none
      ·conv => lhs; whnf
       exact t_none
   ·conv => lhs; whnf
    refine t_cond ?_ ?_
    ·conv => lhs; whnf
     exact hrec ((v31, v4o1, wr IntKind.i64 (isub v4n1 1), wr IntKind.i64 (iadd v51 1), w01)) _ _ (by first | rfl | simp only [ml] <;> rfl) (by first | rfl | simp only [ml] <;> rfl)
    ·conv => lhs; whnf
     exact t_none
  ·conv => lhs; whnf
   exact t_ret (by first | rfl | simp only [ml] <;> rfl)
noncomputable def spec_BandOf (L : Nat) (a : List Pt) : Option ((List Pt) × Bool) := gbind (spec_bdGood L a) fun r => bif !r then (some (([], false))) else (gbind (spec_bdBand L a) fun r1 => some ((r1, true)))
def spec_BandOf_ok (L : Nat) (C : CF) : Prop := ∀ (oa : Bool) (ca : Bool) (x_a : List AV) (a : List Pt) (_ : x_a = List.map ep a), C 7 ([.lst oa ca 2 x_a]) ([]) = Option.map (fun r : (List Pt) × Bool => ((.tup [.lst false false 2 (List.map ep (r.1)), .bool (r.2)], []) : AV × List Blk)) (spec_BandOf L a)
theorem spec_BandOf_run (L : Nat) (C : CF) (h_spec_bdGood : spec_bdGood_ok L C) (h_spec_bdBand : spec_bdBand_ok L C) : ∀ (oa : Bool) (ca : Bool) (x_a : List AV) (a : List Pt) (_ : x_a = List.map ep a), run T C sh (keep 7) L Tryz.f7 ([.lst oa ca 2 x_a]) ([]) = Option.map (fun r : (List Pt) × Bool => ((.tup [.lst false false 2 (List.map ep (r.1)), .bool (r.2)], []) : AV × List Blk)) (spec_BandOf L a) := by
 intro oa ca x_a a hx_a
 subst hx_a
 unfold spec_BandOf
 conv => lhs; whnf
 refine t_call (h_spec_bdGood _ _ _ a (by first | rfl | simp only [ml] <;> rfl)) fun r => ?_
 conv => lhs; whnf
 refine t_cond ?_ ?_
 ·conv => lhs; whnf
  exact t_ret (by first | rfl | simp only [ml] <;> rfl)
 ·conv => lhs; whnf
  refine t_call (h_spec_bdBand _ _ _ a (by first | rfl | simp only [ml] <;> rfl)) fun r1 => ?_
  conv => lhs; whnf
  exact t_ret (by first | rfl | simp only [ml] <;> rfl)
noncomputable def impl_at (L : Nat) (a : List Pt) (b : Int) : Option (Int × Int) := bif ieq (ilen (List.map ep a)) 0 then (none) else (bif ieq (ilen (List.map ep a)) 0 then (none) else (gbind (lget a (irem (wr IntKind.i64 (iadd (irem b (ilen (List.map ep a))) (ilen (List.map ep a)))) (ilen (List.map ep a)))) fun p => some ((Pt.x p, Pt.y p))))
def impl_at_ok (L : Nat) (C : CF) : Prop := ∀ (oa : Bool) (ca : Bool) (x_a : List AV) (a : List Pt) (_ : x_a = List.map ep a) (b : Int), C 76 ([.lst oa ca 2 x_a, .int .i64 b]) ([]) = Option.map (fun r : Int × Int => ((.agg [.int .i64 (r.1), .int .i64 (r.2)], []) : AV × List Blk)) (impl_at L a b)
theorem impl_at_run (L : Nat) (C : CF) : ∀ (oa : Bool) (ca : Bool) (x_a : List AV) (a : List Pt) (_ : x_a = List.map ep a) (b : Int), run T C sh (keep 76) L Tryz.f76 ([.lst oa ca 2 x_a, .int .i64 b]) ([]) = Option.map (fun r : Int × Int => ((.agg [.int .i64 (r.1), .int .i64 (r.2)], []) : AV × List Blk)) (impl_at L a b) := by
 intro oa ca x_a a hx_a b
 subst hx_a
 unfold impl_at
 conv => lhs; whnf
 refine t_cond ?_ ?_
 ·conv => lhs; whnf
  exact t_none
 ·conv => lhs; whnf
  refine t_cond ?_ ?_
  ·conv => lhs; whnf
   exact t_none
  ·conv => lhs; whnf
   refine t_get (en := ep) (l := a) (by first | rfl | simp only [ml] <;> rfl) fun p => ?_
   conv => lhs; whnf
   exact t_ret (by first | rfl | simp only [ml] <;> rfl)
noncomputable def impl_isOn (L : Nat) (a_0 : Int) (a_1 : Int) (b_0 : Int) (b_1 : Int) (c_0 : Int) (c_1 : Int) : Option (Bool) := gbind (impl_turn L a_0 a_1 b_0 b_1 c_0 c_1) fun r => bif ieq r 0 then (gbind (impl_within L c_0 (imin a_0 b_0) (imax a_0 b_0)) fun r1 => bif r1 then (gbind (impl_within L c_1 (imin a_1 b_1) (imax a_1 b_1)) fun r2 => some r2) else (some false)) else (some false)
def impl_isOn_ok (L : Nat) (C : CF) : Prop := ∀ (a_0 : Int) (a_1 : Int) (b_0 : Int) (b_1 : Int) (c_0 : Int) (c_1 : Int), C 98 ([.agg [.int .i64 a_0, .int .i64 a_1], .agg [.int .i64 b_0, .int .i64 b_1], .agg [.int .i64 c_0, .int .i64 c_1]]) ([]) = Option.map (fun r : Bool => ((.bool r, []) : AV × List Blk)) (impl_isOn L a_0 a_1 b_0 b_1 c_0 c_1)
theorem impl_isOn_run (L : Nat) (C : CF) (h_impl_within : impl_within_ok L C) (h_impl_turn : impl_turn_ok L C) : ∀ (a_0 : Int) (a_1 : Int) (b_0 : Int) (b_1 : Int) (c_0 : Int) (c_1 : Int), run T C sh (keep 98) L Tryz.f98 ([.agg [.int .i64 a_0, .int .i64 a_1], .agg [.int .i64 b_0, .int .i64 b_1], .agg [.int .i64 c_0, .int .i64 c_1]]) ([]) = Option.map (fun r : Bool => ((.bool r, []) : AV × List Blk)) (impl_isOn L a_0 a_1 b_0 b_1 c_0 c_1) := by
 intro a_0 a_1 b_0 b_1 c_0 c_1
 unfold impl_isOn
 conv => lhs; whnf
 refine t_call (h_impl_turn a_0 a_1 b_0 b_1 c_0 c_1) fun r => ?_
 conv => lhs; whnf
 refine t_cond ?_ ?_
 ·conv => lhs; whnf
  refine t_call (h_impl_within c_0 (imin a_0 b_0) (imax a_0 b_0)) fun r1 => ?_
  conv => lhs; whnf
  refine t_cond ?_ ?_
  ·conv => lhs; whnf
   refine t_call (h_impl_within c_1 (imin a_1 b_1) (imax a_1 b_1)) fun r2 => ?_
   conv => lhs; whnf
   exact t_ret (by first | rfl | simp only [ml] <;> rfl)
  ·conv => lhs; whnf
   exact t_ret (by first | rfl | simp only [ml] <;> rfl)
 ·conv => lhs; whnf
  exact t_ret (by first | rfl | simp only [ml] <;> rfl)
noncomputable def impl_where_l0 (L : Nat) (a : List Pt) (b_0 : Int) (b_1 : Int) : Nat → Int → Int → Option Int
  | 0, _, _ => none
  | m + 1, v5, v11 => bif ilt v11 (ilen (List.map ep a)) then (gbind (lget a v11) fun p => gbind (impl_at L a (wr IntKind.i64 (iadd v11 1))) fun r => gbind (impl_isOn L (Pt.x p) (Pt.y p) (Prod.fst r) (Prod.snd r) b_0 b_1) fun r1 => bif r1 then (some 0) else (bif !beqb (ilt b_1 (Pt.y p)) (ilt b_1 (Prod.snd r)) then (gbind (impl_turn L (Pt.x p) (Pt.y p) (Prod.fst r) (Prod.snd r) b_0 b_1) fun r2 => bif beqb (ilt 0 r2) (ilt (Pt.y p) (Prod.snd r)) then (impl_where_l0 L a b_0 b_1 m (wr IntKind.i64 (isub 0 v5)) (wr IntKind.i64 (iadd v11 1))) else (impl_where_l0 L a b_0 b_1 m v5 (wr IntKind.i64 (iadd v11 1)))) else (impl_where_l0 L a b_0 b_1 m v5 (wr IntKind.i64 (iadd v11 1))))) else (some v5)
noncomputable def impl_where (L : Nat) (a : List Pt) (b_0 : Int) (b_1 : Int) : Option (Int) := impl_where_l0 L a b_0 b_1 L (-1) 0
def impl_where_ok (L : Nat) (C : CF) : Prop := ∀ (oa : Bool) (ca : Bool) (x_a : List AV) (a : List Pt) (_ : x_a = List.map ep a) (b_0 : Int) (b_1 : Int), C 82 ([.lst oa ca 2 x_a, .agg [.int .i64 b_0, .int .i64 b_1]]) ([]) = Option.map (fun r : Int => ((.int .i64 r, []) : AV × List Blk)) (impl_where L a b_0 b_1)
theorem impl_where_run (L : Nat) (C : CF) (h_impl_turn : impl_turn_ok L C) (h_impl_at : impl_at_ok L C) (h_impl_isOn : impl_isOn_ok L C) : ∀ (oa : Bool) (ca : Bool) (x_a : List AV) (a : List Pt) (_ : x_a = List.map ep a) (b_0 : Int) (b_1 : Int), run T C sh (keep 82) L Tryz.f82 ([.lst oa ca 2 x_a, .agg [.int .i64 b_0, .int .i64 b_1]]) ([]) = Option.map (fun r : Int => ((.int .i64 r, []) : AV × List Blk)) (impl_where L a b_0 b_1) := by
 intro oa ca x_a a hx_a b_0 b_1
 subst hx_a
 unfold impl_where
 conv => lhs; whnf
 refine t_loop (fun (⟨v5, v11⟩ : Int × Int) => (AV.lst oa ca 2 (List.map ep a) :: topA 2 (AV.ptr 0 0 0 2 :: AV.top :: AV.int IntKind.i64 v5 :: topA 3 (AV.lst oa ca 2 (List.map ep a) :: AV.int IntKind.i64 (ilen (List.map ep a)) :: AV.int IntKind.i64 v11 :: tops 40)), [Blk.box (AV.agg [AV.int IntKind.i64 b_0, AV.int IntKind.i64 b_1])])) (fun m (⟨v5, v11⟩ : Int × Int) => impl_where_l0 L a b_0 b_1 m v5 v11) (fun _ => rfl) (fun m s rec hrec => ?_) L ((-1, 0)) ?_ ?_
 rotate_left
 ·first | rfl | simp only [ml] <;> rfl
 ·first | rfl | simp only [ml] <;> rfl
 obtain ⟨v5, v11⟩ := s
 show _ = Option.map _ (impl_where_l0 L a b_0 b_1 (m + 1) v5 v11)
 rw [impl_where_l0.eq_2]
 conv => lhs; whnf
 refine t_cond ?_ ?_
 ·conv => lhs; whnf
  refine t_get (en := ep) (l := a) (by first | rfl | simp only [ml] <;> rfl) fun p => ?_
  conv => lhs; whnf
  refine t_call (h_impl_at _ _ _ a (by first | rfl | simp only [ml] <;> rfl) (wr IntKind.i64 (iadd v11 1))) fun r => ?_
  conv => lhs; whnf
  refine t_call (h_impl_isOn (Pt.x p) (Pt.y p) (Prod.fst r) (Prod.snd r) b_0 b_1) fun r1 => ?_
  conv => lhs; whnf
  refine t_cond ?_ ?_
  ·conv => lhs; whnf
   exact t_ret (by first | rfl | simp only [ml] <;> rfl)
  ·conv => lhs; whnf
   refine t_cond ?_ ?_
   ·conv => lhs; whnf
    refine t_call (h_impl_turn (Pt.x p) (Pt.y p) (Prod.fst r) (Prod.snd r) b_0 b_1) fun r2 => ?_
    conv => lhs; whnf
    refine t_cond ?_ ?_
    ·conv => lhs; whnf
     exact hrec ((wr IntKind.i64 (isub 0 v5), wr IntKind.i64 (iadd v11 1))) _ _ (by first | rfl | simp only [ml] <;> rfl) (by first | rfl | simp only [ml] <;> rfl)
    ·conv => lhs; whnf
     exact hrec ((v5, wr IntKind.i64 (iadd v11 1))) _ _ (by first | rfl | simp only [ml] <;> rfl) (by first | rfl | simp only [ml] <;> rfl)
   ·conv => lhs; whnf
    exact hrec ((v5, wr IntKind.i64 (iadd v11 1))) _ _ (by first | rfl | simp only [ml] <;> rfl) (by first | rfl | simp only [ml] <;> rfl)
 ·conv => lhs; whnf
  exact t_ret (by first | rfl | simp only [ml] <;> rfl)
noncomputable def impl_bandWhere (L : Nat) (a : List Pt) (b_0 : Int) (b_1 : Int) : Option (Int) := bif ieq (ilen (List.map ep a)) 1 then (gbind (lget a 0) fun p => bif ieq b_0 (Pt.x p) && ieq b_1 (Pt.y p) then (some 0) else (bif ieq (ilen (List.map ep a)) 1 then (some (-1)) else (gbind (impl_where L a b_0 b_1) fun r => some r))) else (bif ieq (ilen (List.map ep a)) 1 then (some (-1)) else (gbind (impl_where L a b_0 b_1) fun r1 => some r1))
def impl_bandWhere_ok (L : Nat) (C : CF) : Prop := ∀ (oa : Bool) (ca : Bool) (x_a : List AV) (a : List Pt) (_ : x_a = List.map ep a) (b_0 : Int) (b_1 : Int), C 54 ([.lst oa ca 2 x_a, .agg [.int .i64 b_0, .int .i64 b_1]]) ([]) = Option.map (fun r : Int => ((.int .i64 r, []) : AV × List Blk)) (impl_bandWhere L a b_0 b_1)
theorem impl_bandWhere_run (L : Nat) (C : CF) (h_impl_where : impl_where_ok L C) : ∀ (oa : Bool) (ca : Bool) (x_a : List AV) (a : List Pt) (_ : x_a = List.map ep a) (b_0 : Int) (b_1 : Int), run T C sh (keep 54) L Tryz.f54 ([.lst oa ca 2 x_a, .agg [.int .i64 b_0, .int .i64 b_1]]) ([]) = Option.map (fun r : Int => ((.int .i64 r, []) : AV × List Blk)) (impl_bandWhere L a b_0 b_1) := by
 intro oa ca x_a a hx_a b_0 b_1
 subst hx_a
 unfold impl_bandWhere
 conv => lhs; whnf
 refine t_cond ?_ ?_
 ·conv => lhs; whnf
  refine t_get (en := ep) (l := a) (by first | rfl | simp only [ml] <;> rfl) fun p => ?_
  conv => lhs; whnf
  refine t_cond ?_ ?_
  ·conv => lhs; whnf
   exact t_ret (by first | rfl | simp only [ml] <;> rfl)
  ·conv => lhs; whnf
   refine t_cond ?_ ?_
   ·conv => lhs; whnf
    exact t_ret (by first | rfl | simp only [ml] <;> rfl)
   ·conv => lhs; whnf
    refine t_call (h_impl_where _ _ _ a (by first | rfl | simp only [ml] <;> rfl) b_0 b_1) fun r => ?_
    conv => lhs; whnf
    exact t_ret (by first | rfl | simp only [ml] <;> rfl)
 ·conv => lhs; whnf
  refine t_cond ?_ ?_
  ·conv => lhs; whnf
   exact t_ret (by first | rfl | simp only [ml] <;> rfl)
  ·conv => lhs; whnf
   refine t_call (h_impl_where _ _ _ a (by first | rfl | simp only [ml] <;> rfl) b_0 b_1) fun r1 => ?_
   conv => lhs; whnf
   exact t_ret (by first | rfl | simp only [ml] <;> rfl)
noncomputable def impl_onBand_l0 (L : Nat) (r : List Pt) (r1 : List Pt) : Nat → Int → (List Pt) → (List Pt) → Option ((List Pt) × (List Pt))
  | 0, _, _, _ => none
  | m + 1, v16, w1, w2 => bif ilt v16 (ilen (List.map ep r1)) then (bif ile 0 v16 && ilt v16 (ilen (List.map ep r1)) then (gbind (lget r1 v16) fun p => gbind (impl_bandWhere L r (Pt.x p) (Pt.y p)) fun r2 => bif ieq r2 0 then (bif fits (iadd (ilen (List.map ep w1)) (ilen [AV.agg [AV.int IntKind.i64 (Pt.x p), AV.int IntKind.i64 (Pt.y p)]])) 16 then (impl_onBand_l0 L r r1 m (wr IntKind.i64 (iadd v16 1)) (lcat w1 (p :: [])) w2) else (none)) else (bif fits (iadd (ilen (List.map ep w2)) (ilen [AV.agg [AV.int IntKind.i64 (Pt.x p), AV.int IntKind.i64 (Pt.y p)]])) 16 then (impl_onBand_l0 L r r1 m (wr IntKind.i64 (iadd v16 1)) w1 (lcat w2 (p :: []))) else (none))) else (none)) else (some ((w1, w2)))
noncomputable def impl_onBand (L : Nat) (a : List Pt) : Option ((List Pt) × (List Pt)) := gbind (impl_band L a) fun r => gbind (impl_sorted L a) fun r1 => impl_onBand_l0 L r r1 L 0 [] []
def impl_onBand_ok (L : Nat) (C : CF) : Prop := ∀ (oa : Bool) (ca : Bool) (x_a : List AV) (a : List Pt) (_ : x_a = List.map ep a), C 41 ([.lst oa ca 2 x_a]) ([]) = Option.map (fun r : (List Pt) × (List Pt) => ((.tup [.frs 2 (List.map ep (r.1)), .frs 2 (List.map ep (r.2))], []) : AV × List Blk)) (impl_onBand L a)
theorem impl_onBand_run (L : Nat) (C : CF) (h_impl_sorted : impl_sorted_ok L C) (h_impl_band : impl_band_ok L C) (h_impl_bandWhere : impl_bandWhere_ok L C) : ∀ (oa : Bool) (ca : Bool) (x_a : List AV) (a : List Pt) (_ : x_a = List.map ep a), run T C sh (keep 41) L Tryz.f41 ([.lst oa ca 2 x_a]) ([]) = Option.map (fun r : (List Pt) × (List Pt) => ((.tup [.frs 2 (List.map ep (r.1)), .frs 2 (List.map ep (r.2))], []) : AV × List Blk)) (impl_onBand L a) := by
 intro oa ca x_a a hx_a
 subst hx_a
 unfold impl_onBand
 conv => lhs; whnf
 refine t_call (h_impl_band _ _ _ a (by first | rfl | simp only [ml] <;> rfl)) fun r => ?_
 conv => lhs; whnf
 refine t_call (h_impl_sorted _ _ _ a (by first | rfl | simp only [ml] <;> rfl)) fun r1 => ?_
 conv => lhs; whnf
 refine t_loop (fun (⟨v16, w1, w2⟩ : Int × (List Pt) × (List Pt)) => (topA 4 (AV.own 0 2 none false :: AV.own 1 2 none false :: AV.own 2 2 none false :: topA 7 (AV.own 3 2 none false :: AV.int IntKind.i64 (ilen (List.map ep r1)) :: AV.int IntKind.i64 v16 :: tops 18)), [Blk.rows Mode.live 2 (List.map ep r), Blk.rows Mode.live 2 (List.map ep w1), Blk.rows Mode.live 2 (List.map ep w2), Blk.rows Mode.live 2 (List.map ep r1)])) (fun m (⟨v16, w1, w2⟩ : Int × (List Pt) × (List Pt)) => impl_onBand_l0 L r r1 m v16 w1 w2) (fun _ => rfl) (fun m s rec hrec => ?_) L ((0, [], [])) ?_ ?_
 rotate_left
 ·first | rfl | simp only [ml] <;> rfl
 ·first | rfl | simp only [ml] <;> rfl
 obtain ⟨v16, w1, w2⟩ := s
 show _ = Option.map _ (impl_onBand_l0 L r r1 (m + 1) v16 w1 w2)
 rw [impl_onBand_l0.eq_2]
 conv => lhs; whnf
 refine t_cond ?_ ?_
 ·conv => lhs; whnf
  refine t_cond ?_ ?_
  ·conv => lhs; whnf
   refine t_get (en := ep) (l := r1) (by first | rfl | simp only [ml] <;> rfl) fun p => ?_
   conv => lhs; whnf
   refine t_call (h_impl_bandWhere _ _ _ r (by first | rfl | simp only [ml] <;> rfl) (Pt.x p) (Pt.y p)) fun r2 => ?_
   conv => lhs; whnf
   refine t_cond ?_ ?_
   ·conv => lhs; whnf
    refine t_cond ?_ ?_
    ·conv => lhs; whnf
     exact hrec ((wr IntKind.i64 (iadd v16 1), lcat w1 (p :: []), w2)) _ _ (by first | rfl | simp only [ml] <;> rfl) (by first | rfl | simp only [ml] <;> rfl)
    ·conv => lhs; whnf
     exact t_none
   ·conv => lhs; whnf
    refine t_cond ?_ ?_
    ·conv => lhs; whnf
     exact hrec ((wr IntKind.i64 (iadd v16 1), w1, lcat w2 (p :: []))) _ _ (by first | rfl | simp only [ml] <;> rfl) (by first | rfl | simp only [ml] <;> rfl)
    ·conv => lhs; whnf
     exact t_none
  ·conv => lhs; whnf
   exact t_none
 ·conv => lhs; whnf
  exact t_ret (by first | rfl | simp only [ml] <;> rfl)
noncomputable def impl_PegsOfBand (L : Nat) (a : List Pt) : Option ((List Pt) × Bool) := gbind (impl_AreDifferent L a) fun r => bif !r then (some (([], false))) else (gbind (impl_onBand L a) fun r1 => some ((Prod.fst r1, true)))
def impl_PegsOfBand_ok (L : Nat) (C : CF) : Prop := ∀ (oa : Bool) (ca : Bool) (x_a : List AV) (a : List Pt) (_ : x_a = List.map ep a), C 8 ([.lst oa ca 2 x_a]) ([]) = Option.map (fun r : (List Pt) × Bool => ((.tup [.frs 2 (List.map ep (r.1)), .bool (r.2)], []) : AV × List Blk)) (impl_PegsOfBand L a)
theorem impl_PegsOfBand_run (L : Nat) (C : CF) (h_impl_AreDifferent : impl_AreDifferent_ok L C) (h_impl_onBand : impl_onBand_ok L C) : ∀ (oa : Bool) (ca : Bool) (x_a : List AV) (a : List Pt) (_ : x_a = List.map ep a), run T C sh (keep 8) L Tryz.f8 ([.lst oa ca 2 x_a]) ([]) = Option.map (fun r : (List Pt) × Bool => ((.tup [.frs 2 (List.map ep (r.1)), .bool (r.2)], []) : AV × List Blk)) (impl_PegsOfBand L a) := by
 intro oa ca x_a a hx_a
 subst hx_a
 unfold impl_PegsOfBand
 conv => lhs; whnf
 refine t_call (h_impl_AreDifferent _ _ _ a (by first | rfl | simp only [ml] <;> rfl)) fun r => ?_
 conv => lhs; whnf
 refine t_cond ?_ ?_
 ·conv => lhs; whnf
  exact t_ret (by first | rfl | simp only [ml] <;> rfl)
 ·conv => lhs; whnf
  refine t_call (h_impl_onBand _ _ _ a (by first | rfl | simp only [ml] <;> rfl)) fun r1 => ?_
  conv => lhs; whnf
  exact t_ret (by first | rfl | simp only [ml] <;> rfl)
noncomputable def spec_pgOn (L : Nat) (a_0 : Int) (a_1 : Int) (b_0 : Int) (b_1 : Int) (c_0 : Int) (c_1 : Int) : Option (Bool) := gbind (spec_pgTurn L a_0 a_1 b_0 b_1 c_0 c_1) fun r => bif ieq r 0 then (bif ile (wr IntKind.i64 (imul (wr IntKind.i64 (isub a_0 c_0)) (wr IntKind.i64 (isub b_0 c_0)))) 0 then (some (ile (wr IntKind.i64 (imul (wr IntKind.i64 (isub a_1 c_1)) (wr IntKind.i64 (isub b_1 c_1)))) 0)) else (some false)) else (some false)
def spec_pgOn_ok (L : Nat) (C : CF) : Prop := ∀ (a_0 : Int) (a_1 : Int) (b_0 : Int) (b_1 : Int) (c_0 : Int) (c_1 : Int), C 94 ([.agg [.int .i64 a_0, .int .i64 a_1], .agg [.int .i64 b_0, .int .i64 b_1], .agg [.int .i64 c_0, .int .i64 c_1]]) ([]) = Option.map (fun r : Bool => ((.bool r, []) : AV × List Blk)) (spec_pgOn L a_0 a_1 b_0 b_1 c_0 c_1)
theorem spec_pgOn_run (L : Nat) (C : CF) (h_spec_pgTurn : spec_pgTurn_ok L C) : ∀ (a_0 : Int) (a_1 : Int) (b_0 : Int) (b_1 : Int) (c_0 : Int) (c_1 : Int), run T C sh (keep 94) L Tryz.f94 ([.agg [.int .i64 a_0, .int .i64 a_1], .agg [.int .i64 b_0, .int .i64 b_1], .agg [.int .i64 c_0, .int .i64 c_1]]) ([]) = Option.map (fun r : Bool => ((.bool r, []) : AV × List Blk)) (spec_pgOn L a_0 a_1 b_0 b_1 c_0 c_1) := by
 intro a_0 a_1 b_0 b_1 c_0 c_1
 unfold spec_pgOn
 conv => lhs; whnf
 refine t_call (h_spec_pgTurn a_0 a_1 b_0 b_1 c_0 c_1) fun r => ?_
 conv => lhs; whnf
 refine t_cond ?_ ?_
 ·conv => lhs; whnf
  refine t_cond ?_ ?_
  ·conv => lhs; whnf
   exact t_ret (by first | rfl | simp only [ml] <;> rfl)
  ·conv => lhs; whnf
   exact t_ret (by first | rfl | simp only [ml] <;> rfl)
 ·conv => lhs; whnf
  exact t_ret (by first | rfl | simp only [ml] <;> rfl)
noncomputable def spec_bdOn_l0 (L : Nat) (a : List Pt) (b_0 : Int) (b_1 : Int) : Nat → Int → Option Bool
  | 0, _ => none
  | m + 1, v9 => bif ilt v9 (ilen (List.map ep a)) then (gbind (lget a v9) fun p => bif ieq (Pt.x p) b_0 && ieq (Pt.y p) b_1 then (some true) else (bif ilt 1 (ilen (List.map ep a)) then (bif ieq (ilen (List.map ep a)) 0 then (none) else (gbind (lget a (irem (wr IntKind.i64 (iadd v9 1)) (ilen (List.map ep a)))) fun p1 => gbind (spec_pgOn L (Pt.x p) (Pt.y p) (Pt.x p1) (Pt.y p1) b_0 b_1) fun r => bif r then (some true) else (spec_bdOn_l0 L a b_0 b_1 m (wr IntKind.i64 (iadd v9 1))))) else (spec_bdOn_l0 L a b_0 b_1 m (wr IntKind.i64 (iadd v9 1))))) else (some false)
noncomputable def spec_bdOn (L : Nat) (a : List Pt) (b_0 : Int) (b_1 : Int) : Option (Bool) := spec_bdOn_l0 L a b_0 b_1 L 0
def spec_bdOn_ok (L : Nat) (C : CF) : Prop := ∀ (oa : Bool) (ca : Bool) (x_a : List AV) (a : List Pt) (_ : x_a = List.map ep a) (b_0 : Int) (b_1 : Int), C 74 ([.lst oa ca 2 x_a, .agg [.int .i64 b_0, .int .i64 b_1]]) ([]) = Option.map (fun r : Bool => ((.bool r, []) : AV × List Blk)) (spec_bdOn L a b_0 b_1)
theorem spec_bdOn_run (L : Nat) (C : CF) (h_spec_pgOn : spec_pgOn_ok L C) : ∀ (oa : Bool) (ca : Bool) (x_a : List AV) (a : List Pt) (_ : x_a = List.map ep a) (b_0 : Int) (b_1 : Int), run T C sh (keep 74) L Tryz.f74 ([.lst oa ca 2 x_a, .agg [.int .i64 b_0, .int .i64 b_1]]) ([]) = Option.map (fun r : Bool => ((.bool r, []) : AV × List Blk)) (spec_bdOn L a b_0 b_1) := by
 intro oa ca x_a a hx_a b_0 b_1
 subst hx_a
 unfold spec_bdOn
 conv => lhs; whnf
 refine t_loop (fun (v9 : Int) => (AV.lst oa ca 2 (List.map ep a) :: topA 2 (AV.ptr 0 0 0 2 :: topA 3 (AV.lst oa ca 2 (List.map ep a) :: AV.int IntKind.i64 (ilen (List.map ep a)) :: AV.int IntKind.i64 v9 :: tops 26)), [Blk.box (AV.agg [AV.int IntKind.i64 b_0, AV.int IntKind.i64 b_1])])) (fun m (v9 : Int) => spec_bdOn_l0 L a b_0 b_1 m v9) (fun _ => rfl) (fun m v9 rec hrec => ?_) L 0 ?_ ?_
 rotate_left
 ·first | rfl | simp only [ml] <;> rfl
 ·first | rfl | simp only [ml] <;> rfl
 show _ = Option.map _ (spec_bdOn_l0 L a b_0 b_1 (m + 1) v9)
 rw [spec_bdOn_l0.eq_2]
 conv => lhs; whnf
 refine t_cond ?_ ?_
 ·conv => lhs; whnf
  refine t_get (en := ep) (l := a) (by first | rfl | simp only [ml] <;> rfl) fun p => ?_
  conv => lhs; whnf
  refine t_cond ?_ ?_
  ·conv => lhs; whnf
   exact t_ret (by first | rfl | simp only [ml] <;> rfl)
  ·conv => lhs; whnf
   refine t_cond ?_ ?_
   ·conv => lhs; whnf
    refine t_cond ?_ ?_
    ·conv => lhs; whnf
     exact t_none
    ·conv => lhs; whnf
     refine t_get (en := ep) (l := a) (by first | rfl | simp only [ml] <;> rfl) fun p1 => ?_
     conv => lhs; whnf
     refine t_call (h_spec_pgOn (Pt.x p) (Pt.y p) (Pt.x p1) (Pt.y p1) b_0 b_1) fun r => ?_
     conv => lhs; whnf
     refine t_cond ?_ ?_
     ·conv => lhs; whnf
      exact t_ret (by first | rfl | simp only [ml] <;> rfl)
     ·conv => lhs; whnf
      exact hrec (wr IntKind.i64 (iadd v9 1)) _ _ (by first | rfl | simp only [ml] <;> rfl) (by first | rfl | simp only [ml] <;> rfl)
   ·conv => lhs; whnf
    exact hrec (wr IntKind.i64 (iadd v9 1)) _ _ (by first | rfl | simp only [ml] <;> rfl) (by first | rfl | simp only [ml] <;> rfl)
 ·conv => lhs; whnf
  exact t_ret (by first | rfl | simp only [ml] <;> rfl)
noncomputable def spec_bdOuter_l0 (L : Nat) (r : List Pt) (r1 : List Pt) : Nat → Int → (List Pt) → (List Pt) → Option ((List Pt) × (List Pt))
  | 0, _, _, _ => none
  | m + 1, v14, w0, w1 => bif ilt v14 (ilen (List.map ep r1)) then (gbind (lget r1 v14) fun p => gbind (spec_bdOn L r (Pt.x p) (Pt.y p)) fun r2 => bif r2 then (bif fits (iadd (ilen (List.map ep w0)) (ilen [AV.agg [AV.int IntKind.i64 (Pt.x p), AV.int IntKind.i64 (Pt.y p)]])) 16 then (spec_bdOuter_l0 L r r1 m (wr IntKind.i64 (iadd v14 1)) (lcat w0 (p :: [])) w1) else (none)) else (bif fits (iadd (ilen (List.map ep w1)) (ilen [AV.agg [AV.int IntKind.i64 (Pt.x p), AV.int IntKind.i64 (Pt.y p)]])) 16 then (spec_bdOuter_l0 L r r1 m (wr IntKind.i64 (iadd v14 1)) w0 (lcat w1 (p :: []))) else (none))) else (some ((w0, w1)))
noncomputable def spec_bdOuter (L : Nat) (a : List Pt) : Option ((List Pt) × (List Pt)) := gbind (spec_bdBand L a) fun r => gbind (spec_bdSorted L a) fun r1 => spec_bdOuter_l0 L r r1 L 0 [] []
def spec_bdOuter_ok (L : Nat) (C : CF) : Prop := ∀ (oa : Bool) (ca : Bool) (x_a : List AV) (a : List Pt) (_ : x_a = List.map ep a), C 42 ([.lst oa ca 2 x_a]) ([]) = Option.map (fun r : (List Pt) × (List Pt) => ((.tup [.frs 2 (List.map ep (r.1)), .frs 2 (List.map ep (r.2))], []) : AV × List Blk)) (spec_bdOuter L a)
theorem spec_bdOuter_run (L : Nat) (C : CF) (h_spec_bdSorted : spec_bdSorted_ok L C) (h_spec_bdBand : spec_bdBand_ok L C) (h_spec_bdOn : spec_bdOn_ok L C) : ∀ (oa : Bool) (ca : Bool) (x_a : List AV) (a : List Pt) (_ : x_a = List.map ep a), run T C sh (keep 42) L Tryz.f42 ([.lst oa ca 2 x_a]) ([]) = Option.map (fun r : (List Pt) × (List Pt) => ((.tup [.frs 2 (List.map ep (r.1)), .frs 2 (List.map ep (r.2))], []) : AV × List Blk)) (spec_bdOuter L a) := by
 intro oa ca x_a a hx_a
 subst hx_a
 unfold spec_bdOuter
 conv => lhs; whnf
 refine t_call (h_spec_bdBand _ _ _ a (by first | rfl | simp only [ml] <;> rfl)) fun r => ?_
 conv => lhs; whnf
 refine t_call (h_spec_bdSorted _ _ _ a (by first | rfl | simp only [ml] <;> rfl)) fun r1 => ?_
 conv => lhs; whnf
 refine t_loop (fun (⟨v14, w0, w1⟩ : Int × (List Pt) × (List Pt)) => (topA 4 (AV.lst false false 2 (List.map ep r) :: AV.own 0 2 none false :: AV.own 1 2 none false :: topA 5 (AV.lst false false 2 (List.map ep r1) :: AV.int IntKind.i64 (ilen (List.map ep r1)) :: AV.int IntKind.i64 v14 :: tops 17)), [Blk.rows Mode.live 2 (List.map ep w0), Blk.rows Mode.live 2 (List.map ep w1)])) (fun m (⟨v14, w0, w1⟩ : Int × (List Pt) × (List Pt)) => spec_bdOuter_l0 L r r1 m v14 w0 w1) (fun _ => rfl) (fun m s rec hrec => ?_) L ((0, [], [])) ?_ ?_
 rotate_left
 ·first | rfl | simp only [ml] <;> rfl
 ·first | rfl | simp only [ml] <;> rfl
 obtain ⟨v14, w0, w1⟩ := s
 show _ = Option.map _ (spec_bdOuter_l0 L r r1 (m + 1) v14 w0 w1)
 rw [spec_bdOuter_l0.eq_2]
 conv => lhs; whnf
 refine t_cond ?_ ?_
 ·conv => lhs; whnf
  refine t_get (en := ep) (l := r1) (by first | rfl | simp only [ml] <;> rfl) fun p => ?_
  conv => lhs; whnf
  refine t_call (h_spec_bdOn _ _ _ r (by first | rfl | simp only [ml] <;> rfl) (Pt.x p) (Pt.y p)) fun r2 => ?_
  conv => lhs; whnf
  refine t_cond ?_ ?_
  ·conv => lhs; whnf
   refine t_cond ?_ ?_
   ·conv => lhs; whnf
    exact hrec ((wr IntKind.i64 (iadd v14 1), lcat w0 (p :: []), w1)) _ _ (by first | rfl | simp only [ml] <;> rfl) (by first | rfl | simp only [ml] <;> rfl)
   ·conv => lhs; whnf
    exact t_none
  ·conv => lhs; whnf
   refine t_cond ?_ ?_
   ·conv => lhs; whnf
    exact hrec ((wr IntKind.i64 (iadd v14 1), w0, lcat w1 (p :: []))) _ _ (by first | rfl | simp only [ml] <;> rfl) (by first | rfl | simp only [ml] <;> rfl)
   ·conv => lhs; whnf
    exact t_none
 ·conv => lhs; whnf
  exact t_ret (by first | rfl | simp only [ml] <;> rfl)
noncomputable def spec_PegsOfBand (L : Nat) (a : List Pt) : Option ((List Pt) × Bool) := gbind (spec_bdGood L a) fun r => bif !r then (some (([], false))) else (gbind (spec_bdOuter L a) fun r1 => some ((Prod.fst r1, true)))
def spec_PegsOfBand_ok (L : Nat) (C : CF) : Prop := ∀ (oa : Bool) (ca : Bool) (x_a : List AV) (a : List Pt) (_ : x_a = List.map ep a), C 9 ([.lst oa ca 2 x_a]) ([]) = Option.map (fun r : (List Pt) × Bool => ((.tup [.frs 2 (List.map ep (r.1)), .bool (r.2)], []) : AV × List Blk)) (spec_PegsOfBand L a)
theorem spec_PegsOfBand_run (L : Nat) (C : CF) (h_spec_bdGood : spec_bdGood_ok L C) (h_spec_bdOuter : spec_bdOuter_ok L C) : ∀ (oa : Bool) (ca : Bool) (x_a : List AV) (a : List Pt) (_ : x_a = List.map ep a), run T C sh (keep 9) L Tryz.f9 ([.lst oa ca 2 x_a]) ([]) = Option.map (fun r : (List Pt) × Bool => ((.tup [.frs 2 (List.map ep (r.1)), .bool (r.2)], []) : AV × List Blk)) (spec_PegsOfBand L a) := by
 intro oa ca x_a a hx_a
 subst hx_a
 unfold spec_PegsOfBand
 conv => lhs; whnf
 refine t_call (h_spec_bdGood _ _ _ a (by first | rfl | simp only [ml] <;> rfl)) fun r => ?_
 conv => lhs; whnf
 refine t_cond ?_ ?_
 ·conv => lhs; whnf
  exact t_ret (by first | rfl | simp only [ml] <;> rfl)
 ·conv => lhs; whnf
  refine t_call (h_spec_bdOuter _ _ _ a (by first | rfl | simp only [ml] <;> rfl)) fun r1 => ?_
  conv => lhs; whnf
  exact t_ret (by first | rfl | simp only [ml] <;> rfl)
noncomputable def impl_LayersOf_l0 (L : Nat) : Nat → (List Pt) → (List (List Pt)) → Option ((List (List Pt)) × Bool)
  | 0, _, _ => none
  | m + 1, v0, w0 => bif ilt 0 (ilen (List.map ep v0)) then (gbind (impl_onBand L v0) fun r1 => bif fits (iadd (ilen (List.map eLP w0)) (ilen [AV.lst false false 2 (List.map ep (Prod.fst r1))])) 24 then (impl_LayersOf_l0 L m (Prod.snd r1) (lcat w0 (Prod.fst r1 :: []))) else (none)) else (some ((w0, true)))
noncomputable def impl_LayersOf (L : Nat) (a : List Pt) : Option ((List (List Pt)) × Bool) := gbind (impl_AreDifferent L a) fun r => bif !r then (some (([], false))) else (impl_LayersOf_l0 L L a [])
def impl_LayersOf_ok (L : Nat) (C : CF) : Prop := ∀ (oa : Bool) (ca : Bool) (x_a : List AV) (a : List Pt) (_ : x_a = List.map ep a), C 10 ([.lst oa ca 2 x_a]) ([]) = Option.map (fun r : (List (List Pt)) × Bool => ((.tup [.frs 1 (List.map eLP (r.1)), .bool (r.2)], []) : AV × List Blk)) (impl_LayersOf L a)
theorem impl_LayersOf_run (L : Nat) (C : CF) (h_impl_AreDifferent : impl_AreDifferent_ok L C) (h_impl_onBand : impl_onBand_ok L C) : ∀ (oa : Bool) (ca : Bool) (x_a : List AV) (a : List Pt) (_ : x_a = List.map ep a), run T C sh (keep 10) L Tryz.f10 ([.lst oa ca 2 x_a]) ([]) = Option.map (fun r : (List (List Pt)) × Bool => ((.tup [.frs 1 (List.map eLP (r.1)), .bool (r.2)], []) : AV × List Blk)) (impl_LayersOf L a) := by
 intro oa ca x_a a hx_a
 subst hx_a
 unfold impl_LayersOf
 conv => lhs; whnf
 refine t_call (h_impl_AreDifferent _ _ _ a (by first | rfl | simp only [ml] <;> rfl)) fun r => ?_
 conv => lhs; whnf
 refine t_cond ?_ ?_
 ·conv => lhs; whnf
  exact t_ret (by first | rfl | simp only [ml] <;> rfl)
 ·conv => lhs; whnf
  refine t_loop (fun (⟨v0, w0⟩ : (List Pt) × (List (List Pt))) => (AV.lst true false 2 (List.map ep v0) :: topA 3 (AV.own 0 1 none false :: tops 20), [Blk.rows Mode.live 1 (List.map eLP w0)])) (fun m (⟨v0, w0⟩ : (List Pt) × (List (List Pt))) => impl_LayersOf_l0 L m v0 w0) (fun _ => rfl) (fun m s rec hrec => ?_) L ((a, [])) ?_ ?_
  rotate_left
  ·first | rfl | simp only [ml] <;> rfl
  ·first | rfl | simp only [ml] <;> rfl
  obtain ⟨v0, w0⟩ := s
  show _ = Option.map _ (impl_LayersOf_l0 L (m + 1) v0 w0)
  rw [impl_LayersOf_l0.eq_2]
  conv => lhs; whnf
  refine t_cond ?_ ?_
  ·conv => lhs; whnf
   refine t_call (h_impl_onBand _ _ _ v0 (by first | rfl | simp only [ml] <;> rfl)) fun r1 => ?_
   conv => lhs; whnf
   refine t_cond ?_ ?_
   ·conv => lhs; whnf
    exact hrec ((Prod.snd r1, lcat w0 (Prod.fst r1 :: []))) _ _ (by first | rfl | simp only [ml] <;> rfl) (by first | rfl | simp only [ml] <;> rfl)
   ·conv => lhs; whnf
    exact t_none
  ·conv => lhs; whnf
   exact t_ret (by first | rfl | simp only [ml] <;> rfl)
noncomputable def spec_bdLayers_l0 (L : Nat) : Nat → (List Pt) → (List (List Pt)) → Option ((List (List Pt)))
  | 0, _, _ => none
  | m + 1, v0, w0 => bif ilt 0 (ilen (List.map ep v0)) then (gbind (spec_bdOuter L v0) fun r => bif fits (iadd (ilen (List.map eLP w0)) (ilen [AV.lst false false 2 (List.map ep (Prod.fst r))])) 24 then (spec_bdLayers_l0 L m (Prod.snd r) (lcat w0 (Prod.fst r :: []))) else (none)) else (some w0)
noncomputable def spec_bdLayers (L : Nat) (a : List Pt) : Option ((List (List Pt))) := spec_bdLayers_l0 L L a []
def spec_bdLayers_ok (L : Nat) (C : CF) : Prop := ∀ (oa : Bool) (ca : Bool) (x_a : List AV) (a : List Pt) (_ : x_a = List.map ep a), C 43 ([.lst oa ca 2 x_a]) ([]) = Option.map (fun r : (List (List Pt)) => ((.frs 1 (List.map eLP r), []) : AV × List Blk)) (spec_bdLayers L a)
theorem spec_bdLayers_run (L : Nat) (C : CF) (h_spec_bdOuter : spec_bdOuter_ok L C) : ∀ (oa : Bool) (ca : Bool) (x_a : List AV) (a : List Pt) (_ : x_a = List.map ep a), run T C sh (keep 43) L Tryz.f43 ([.lst oa ca 2 x_a]) ([]) = Option.map (fun r : (List (List Pt)) => ((.frs 1 (List.map eLP r), []) : AV × List Blk)) (spec_bdLayers L a) := by
 intro oa ca x_a a hx_a
 subst hx_a
 unfold spec_bdLayers
 conv => lhs; whnf
 refine t_loop (fun (⟨v0, w0⟩ : (List Pt) × (List (List Pt))) => (AV.lst true false 2 (List.map ep v0) :: topA 2 (AV.own 0 1 none false :: tops 16), [Blk.rows Mode.live 1 (List.map eLP w0)])) (fun m (⟨v0, w0⟩ : (List Pt) × (List (List Pt))) => spec_bdLayers_l0 L m v0 w0) (fun _ => rfl) (fun m s rec hrec => ?_) L ((a, [])) ?_ ?_
 rotate_left
 ·first | rfl | simp only [ml] <;> rfl
 ·first | rfl | simp only [ml] <;> rfl
 obtain ⟨v0, w0⟩ := s
 show _ = Option.map _ (spec_bdLayers_l0 L (m + 1) v0 w0)
 rw [spec_bdLayers_l0.eq_2]
 conv => lhs; whnf
 refine t_cond ?_ ?_
 ·conv => lhs; whnf
  refine t_call (h_spec_bdOuter _ _ _ v0 (by first | rfl | simp only [ml] <;> rfl)) fun r => ?_
  conv => lhs; whnf
  refine t_cond ?_ ?_
  ·conv => lhs; whnf
   exact hrec ((Prod.snd r, lcat w0 (Prod.fst r :: []))) _ _ (by first | rfl | simp only [ml] <;> rfl) (by first | rfl | simp only [ml] <;> rfl)
  ·conv => lhs; whnf
   exact t_none
 ·conv => lhs; whnf
  exact t_ret (by first | rfl | simp only [ml] <;> rfl)
noncomputable def spec_LayersOf (L : Nat) (a : List Pt) : Option ((List (List Pt)) × Bool) := gbind (spec_bdGood L a) fun r => bif !r then (some (([], false))) else (gbind (spec_bdLayers L a) fun r1 => some ((r1, true)))
def spec_LayersOf_ok (L : Nat) (C : CF) : Prop := ∀ (oa : Bool) (ca : Bool) (x_a : List AV) (a : List Pt) (_ : x_a = List.map ep a), C 11 ([.lst oa ca 2 x_a]) ([]) = Option.map (fun r : (List (List Pt)) × Bool => ((.tup [.frs 1 (List.map eLP (r.1)), .bool (r.2)], []) : AV × List Blk)) (spec_LayersOf L a)
theorem spec_LayersOf_run (L : Nat) (C : CF) (h_spec_bdGood : spec_bdGood_ok L C) (h_spec_bdLayers : spec_bdLayers_ok L C) : ∀ (oa : Bool) (ca : Bool) (x_a : List AV) (a : List Pt) (_ : x_a = List.map ep a), run T C sh (keep 11) L Tryz.f11 ([.lst oa ca 2 x_a]) ([]) = Option.map (fun r : (List (List Pt)) × Bool => ((.tup [.frs 1 (List.map eLP (r.1)), .bool (r.2)], []) : AV × List Blk)) (spec_LayersOf L a) := by
 intro oa ca x_a a hx_a
 subst hx_a
 unfold spec_LayersOf
 conv => lhs; whnf
 refine t_call (h_spec_bdGood _ _ _ a (by first | rfl | simp only [ml] <;> rfl)) fun r => ?_
 conv => lhs; whnf
 refine t_cond ?_ ?_
 ·conv => lhs; whnf
  exact t_ret (by first | rfl | simp only [ml] <;> rfl)
 ·conv => lhs; whnf
  refine t_call (h_spec_bdLayers _ _ _ a (by first | rfl | simp only [ml] <;> rfl)) fun r1 => ?_
  conv => lhs; whnf
  exact t_ret (by first | rfl | simp only [ml] <;> rfl)
noncomputable def impl_twice_l0 (L : Nat) (a : List Pt) : Nat → Int → Int → Option Int
  | 0, _, _ => none
  | m + 1, v3, v8 => bif ilt v8 (ilen (List.map ep a)) then (gbind (lget a v8) fun p => gbind (impl_at L a (wr IntKind.i64 (iadd v8 1))) fun r => gbind (impl_cross L (Pt.x p) (Pt.y p) (Prod.fst r) (Prod.snd r)) fun r1 => impl_twice_l0 L a m (wr IntKind.i64 (iadd v3 r1)) (wr IntKind.i64 (iadd v8 1))) else (some v3)
noncomputable def impl_twice (L : Nat) (a : List Pt) : Option (Int) := impl_twice_l0 L a L 0 0
def impl_twice_ok (L : Nat) (C : CF) : Prop := ∀ (oa : Bool) (ca : Bool) (x_a : List AV) (a : List Pt) (_ : x_a = List.map ep a), C 44 ([.lst oa ca 2 x_a]) ([]) = Option.map (fun r : Int => ((.int .i64 r, []) : AV × List Blk)) (impl_twice L a)
theorem impl_twice_run (L : Nat) (C : CF) (h_impl_cross : impl_cross_ok L C) (h_impl_at : impl_at_ok L C) : ∀ (oa : Bool) (ca : Bool) (x_a : List AV) (a : List Pt) (_ : x_a = List.map ep a), run T C sh (keep 44) L Tryz.f44 ([.lst oa ca 2 x_a]) ([]) = Option.map (fun r : Int => ((.int .i64 r, []) : AV × List Blk)) (impl_twice L a) := by
 intro oa ca x_a a hx_a
 subst hx_a
 unfold impl_twice
 conv => lhs; whnf
 refine t_loop (fun (⟨v3, v8⟩ : Int × Int) => (AV.lst oa ca 2 (List.map ep a) :: topA 2 (AV.int IntKind.i64 v3 :: topA 2 (AV.lst oa ca 2 (List.map ep a) :: AV.int IntKind.i64 (ilen (List.map ep a)) :: AV.int IntKind.i64 v8 :: tops 14)), [])) (fun m (⟨v3, v8⟩ : Int × Int) => impl_twice_l0 L a m v3 v8) (fun _ => rfl) (fun m s rec hrec => ?_) L ((0, 0)) ?_ ?_
 rotate_left
 ·first | rfl | simp only [ml] <;> rfl
 ·first | rfl | simp only [ml] <;> rfl
 obtain ⟨v3, v8⟩ := s
 show _ = Option.map _ (impl_twice_l0 L a (m + 1) v3 v8)
 rw [impl_twice_l0.eq_2]
 conv => lhs; whnf
 refine t_cond ?_ ?_
 ·conv => lhs; whnf
  refine t_get (en := ep) (l := a) (by first | rfl | simp only [ml] <;> rfl) fun p => ?_
  conv => lhs; whnf
  refine t_call (h_impl_at _ _ _ a (by first | rfl | simp only [ml] <;> rfl) (wr IntKind.i64 (iadd v8 1))) fun r => ?_
  conv => lhs; whnf
  refine t_call (h_impl_cross (Pt.x p) (Pt.y p) (Prod.fst r) (Prod.snd r)) fun r1 => ?_
  conv => lhs; whnf
  exact hrec ((wr IntKind.i64 (iadd v3 r1), wr IntKind.i64 (iadd v8 1))) _ _ (by first | rfl | simp only [ml] <;> rfl) (by first | rfl | simp only [ml] <;> rfl)
 ·conv => lhs; whnf
  exact t_ret (by first | rfl | simp only [ml] <;> rfl)
noncomputable def impl_TwiceBand (L : Nat) (a : List Pt) : Option (Int × Bool) := gbind (impl_AreDifferent L a) fun r => bif !r then (some ((0, false))) else (gbind (impl_band L a) fun r1 => gbind (impl_twice L r1) fun r2 => some ((r2, true)))
def impl_TwiceBand_ok (L : Nat) (C : CF) : Prop := ∀ (oa : Bool) (ca : Bool) (x_a : List AV) (a : List Pt) (_ : x_a = List.map ep a), C 12 ([.lst oa ca 2 x_a]) ([]) = Option.map (fun r : Int × Bool => ((.tup [.int .i64 (r.1), .bool (r.2)], []) : AV × List Blk)) (impl_TwiceBand L a)
theorem impl_TwiceBand_run (L : Nat) (C : CF) (h_impl_AreDifferent : impl_AreDifferent_ok L C) (h_impl_band : impl_band_ok L C) (h_impl_twice : impl_twice_ok L C) : ∀ (oa : Bool) (ca : Bool) (x_a : List AV) (a : List Pt) (_ : x_a = List.map ep a), run T C sh (keep 12) L Tryz.f12 ([.lst oa ca 2 x_a]) ([]) = Option.map (fun r : Int × Bool => ((.tup [.int .i64 (r.1), .bool (r.2)], []) : AV × List Blk)) (impl_TwiceBand L a) := by
 intro oa ca x_a a hx_a
 subst hx_a
 unfold impl_TwiceBand
 conv => lhs; whnf
 refine t_call (h_impl_AreDifferent _ _ _ a (by first | rfl | simp only [ml] <;> rfl)) fun r => ?_
 conv => lhs; whnf
 refine t_cond ?_ ?_
 ·conv => lhs; whnf
  exact t_ret (by first | rfl | simp only [ml] <;> rfl)
 ·conv => lhs; whnf
  refine t_call (h_impl_band _ _ _ a (by first | rfl | simp only [ml] <;> rfl)) fun r1 => ?_
  conv => lhs; whnf
  refine t_call (h_impl_twice _ _ _ r1 (by first | rfl | simp only [ml] <;> rfl)) fun r2 => ?_
  conv => lhs; whnf
  exact t_ret (by first | rfl | simp only [ml] <;> rfl)
noncomputable def spec_pgArea_l0 (L : Nat) (a : List Pt) : Nat → Int → Int → Option Int
  | 0, _, _ => none
  | m + 1, v3, v4 => bif ilt v4 (ilen (List.map ep a)) then (gbind (lget a 0) fun p => gbind (lget a (wr IntKind.i64 (isub v4 1))) fun p1 => gbind (lget a v4) fun p2 => gbind (spec_pgTurn L (Pt.x p) (Pt.y p) (Pt.x p1) (Pt.y p1) (Pt.x p2) (Pt.y p2)) fun r => spec_pgArea_l0 L a m (wr IntKind.i64 (iadd v3 r)) (wr IntKind.i64 (iadd v4 1))) else (some v3)
noncomputable def spec_pgArea (L : Nat) (a : List Pt) : Option (Int) := spec_pgArea_l0 L a L 0 2
def spec_pgArea_ok (L : Nat) (C : CF) : Prop := ∀ (oa : Bool) (ca : Bool) (x_a : List AV) (a : List Pt) (_ : x_a = List.map ep a), C 45 ([.lst oa ca 2 x_a]) ([]) = Option.map (fun r : Int => ((.int .i64 r, []) : AV × List Blk)) (spec_pgArea L a)
theorem spec_pgArea_run (L : Nat) (C : CF) (h_spec_pgTurn : spec_pgTurn_ok L C) : ∀ (oa : Bool) (ca : Bool) (x_a : List AV) (a : List Pt) (_ : x_a = List.map ep a), run T C sh (keep 45) L Tryz.f45 ([.lst oa ca 2 x_a]) ([]) = Option.map (fun r : Int => ((.int .i64 r, []) : AV × List Blk)) (spec_pgArea L a) := by
 intro oa ca x_a a hx_a
 subst hx_a
 unfold spec_pgArea
 conv => lhs; whnf
 refine t_loop (fun (⟨v3, v4⟩ : Int × Int) => (AV.lst oa ca 2 (List.map ep a) :: topA 2 (AV.int IntKind.i64 v3 :: AV.int IntKind.i64 v4 :: tops 22), [])) (fun m (⟨v3, v4⟩ : Int × Int) => spec_pgArea_l0 L a m v3 v4) (fun _ => rfl) (fun m s rec hrec => ?_) L ((0, 2)) ?_ ?_
 rotate_left
 ·first | rfl | simp only [ml] <;> rfl
 ·first | rfl | simp only [ml] <;> rfl
 obtain ⟨v3, v4⟩ := s
 show _ = Option.map _ (spec_pgArea_l0 L a (m + 1) v3 v4)
 rw [spec_pgArea_l0.eq_2]
 conv => lhs; whnf
 refine t_cond ?_ ?_
 ·conv => lhs; whnf
  refine t_get (en := ep) (l := a) (by first | rfl | simp only [ml] <;> rfl) fun p => ?_
  conv => lhs; whnf
  refine t_get (en := ep) (l := a) (by first | rfl | simp only [ml] <;> rfl) fun p1 => ?_
  conv => lhs; whnf
  refine t_get (en := ep) (l := a) (by first | rfl | simp only [ml] <;> rfl) fun p2 => ?_
  conv => lhs; whnf
  refine t_call (h_spec_pgTurn (Pt.x p) (Pt.y p) (Pt.x p1) (Pt.y p1) (Pt.x p2) (Pt.y p2)) fun r => ?_
  conv => lhs; whnf
  exact hrec ((wr IntKind.i64 (iadd v3 r), wr IntKind.i64 (iadd v4 1))) _ _ (by first | rfl | simp only [ml] <;> rfl) (by first | rfl | simp only [ml] <;> rfl)
 ·conv => lhs; whnf
  exact t_ret (by first | rfl | simp only [ml] <;> rfl)
noncomputable def spec_TwiceBand (L : Nat) (a : List Pt) : Option (Int × Bool) := gbind (spec_bdGood L a) fun r => bif !r then (some ((0, false))) else (gbind (spec_bdBand L a) fun r1 => gbind (spec_pgArea L r1) fun r2 => some ((r2, true)))
def spec_TwiceBand_ok (L : Nat) (C : CF) : Prop := ∀ (oa : Bool) (ca : Bool) (x_a : List AV) (a : List Pt) (_ : x_a = List.map ep a), C 13 ([.lst oa ca 2 x_a]) ([]) = Option.map (fun r : Int × Bool => ((.tup [.int .i64 (r.1), .bool (r.2)], []) : AV × List Blk)) (spec_TwiceBand L a)
theorem spec_TwiceBand_run (L : Nat) (C : CF) (h_spec_bdGood : spec_bdGood_ok L C) (h_spec_bdBand : spec_bdBand_ok L C) (h_spec_pgArea : spec_pgArea_ok L C) : ∀ (oa : Bool) (ca : Bool) (x_a : List AV) (a : List Pt) (_ : x_a = List.map ep a), run T C sh (keep 13) L Tryz.f13 ([.lst oa ca 2 x_a]) ([]) = Option.map (fun r : Int × Bool => ((.tup [.int .i64 (r.1), .bool (r.2)], []) : AV × List Blk)) (spec_TwiceBand L a) := by
 intro oa ca x_a a hx_a
 subst hx_a
 unfold spec_TwiceBand
 conv => lhs; whnf
 refine t_call (h_spec_bdGood _ _ _ a (by first | rfl | simp only [ml] <;> rfl)) fun r => ?_
 conv => lhs; whnf
 refine t_cond ?_ ?_
 ·conv => lhs; whnf
  exact t_ret (by first | rfl | simp only [ml] <;> rfl)
 ·conv => lhs; whnf
  refine t_call (h_spec_bdBand _ _ _ a (by first | rfl | simp only [ml] <;> rfl)) fun r1 => ?_
  conv => lhs; whnf
  refine t_call (h_spec_pgArea _ _ _ r1 (by first | rfl | simp only [ml] <;> rfl)) fun r2 => ?_
  conv => lhs; whnf
  exact t_ret (by first | rfl | simp only [ml] <;> rfl)
noncomputable def impl_size (L : Nat) (a : Int) : Option (Int) := some (imax a (wr IntKind.i64 (isub 0 a)))
def impl_size_ok (L : Nat) (C : CF) : Prop := ∀ (a : Int), C 85 ([.int .i64 a]) ([]) = Option.map (fun r : Int => ((.int .i64 r, []) : AV × List Blk)) (impl_size L a)
theorem impl_size_run (L : Nat) (C : CF) : ∀ (a : Int), run T C sh (keep 85) L Tryz.f85 ([.int .i64 a]) ([]) = Option.map (fun r : Int => ((.int .i64 r, []) : AV × List Blk)) (impl_size L a) := by
 intro a
 unfold impl_size
 conv => lhs; whnf
 exact t_ret (by first | rfl | simp only [ml] <;> rfl)
noncomputable def impl_divisor_l0 (L : Nat) : Nat → Int → Int → Option Int
  | 0, _, _ => none
  | m + 1, v0, v1 => bif !ieq v1 0 then (bif ieq v1 0 then (none) else (impl_divisor_l0 L m v1 (irem v0 v1))) else (gbind (impl_size L v0) fun r => some r)
noncomputable def impl_divisor (L : Nat) (a : Int) (b : Int) : Option (Int) := impl_divisor_l0 L L a b
def impl_divisor_ok (L : Nat) (C : CF) : Prop := ∀ (a : Int) (b : Int), C 95 ([.int .i64 a, .int .i64 b]) ([]) = Option.map (fun r : Int => ((.int .i64 r, []) : AV × List Blk)) (impl_divisor L a b)
theorem impl_divisor_run (L : Nat) (C : CF) (h_impl_size : impl_size_ok L C) : ∀ (a : Int) (b : Int), run T C sh (keep 95) L Tryz.f95 ([.int .i64 a, .int .i64 b]) ([]) = Option.map (fun r : Int => ((.int .i64 r, []) : AV × List Blk)) (impl_divisor L a b) := by
 intro a b
 unfold impl_divisor
 conv => lhs; whnf
 refine t_loop (fun (⟨v0, v1⟩ : Int × Int) => (AV.int IntKind.i64 v0 :: AV.int IntKind.i64 v1 :: tops 11, [])) (fun m (⟨v0, v1⟩ : Int × Int) => impl_divisor_l0 L m v0 v1) (fun _ => rfl) (fun m s rec hrec => ?_) L ((a, b)) ?_ ?_
 rotate_left
 ·first | rfl | simp only [ml] <;> rfl
 ·first | rfl | simp only [ml] <;> rfl
 obtain ⟨v0, v1⟩ := s
 show _ = Option.map _ (impl_divisor_l0 L (m + 1) v0 v1)
 rw [impl_divisor_l0.eq_2]
 conv => lhs; whnf
 refine t_cond ?_ ?_
 ·conv => lhs; whnf
  refine t_cond ?_ ?_
  ·conv => lhs; whnf
   exact t_none
  ·conv => lhs; whnf
   exact hrec ((v1, irem v0 v1)) _ _ (by first | rfl | simp only [ml] <;> rfl) (by first | rfl | simp only [ml] <;> rfl)
 ·conv => lhs; whnf
  refine t_call (h_impl_size v0) fun r => ?_
  conv => lhs; whnf
  exact t_ret (by first | rfl | simp only [ml] <;> rfl)
noncomputable def impl_steps (L : Nat) (a_0 : Int) (a_1 : Int) (b_0 : Int) (b_1 : Int) : Option (Int) := gbind (impl_divisor L (wr IntKind.i64 (isub a_0 b_0)) (wr IntKind.i64 (isub a_1 b_1))) fun r => some r
def impl_steps_ok (L : Nat) (C : CF) : Prop := ∀ (a_0 : Int) (a_1 : Int) (b_0 : Int) (b_1 : Int), C 77 ([.agg [.int .i64 a_0, .int .i64 a_1], .agg [.int .i64 b_0, .int .i64 b_1]]) ([]) = Option.map (fun r : Int => ((.int .i64 r, []) : AV × List Blk)) (impl_steps L a_0 a_1 b_0 b_1)
theorem impl_steps_run (L : Nat) (C : CF) (h_impl_divisor : impl_divisor_ok L C) : ∀ (a_0 : Int) (a_1 : Int) (b_0 : Int) (b_1 : Int), run T C sh (keep 77) L Tryz.f77 ([.agg [.int .i64 a_0, .int .i64 a_1], .agg [.int .i64 b_0, .int .i64 b_1]]) ([]) = Option.map (fun r : Int => ((.int .i64 r, []) : AV × List Blk)) (impl_steps L a_0 a_1 b_0 b_1) := by
 intro a_0 a_1 b_0 b_1
 unfold impl_steps
 conv => lhs; whnf
 refine t_call (h_impl_divisor (wr IntKind.i64 (isub a_0 b_0)) (wr IntKind.i64 (isub a_1 b_1))) fun r => ?_
 conv => lhs; whnf
 exact t_ret (by first | rfl | simp only [ml] <;> rfl)
noncomputable def impl_around_l0 (L : Nat) (a : List Pt) : Nat → Int → Int → Option Int
  | 0, _, _ => none
  | m + 1, v3, v8 => bif ilt v8 (ilen (List.map ep a)) then (gbind (lget a v8) fun p => gbind (impl_at L a (wr IntKind.i64 (iadd v8 1))) fun r => gbind (impl_steps L (Pt.x p) (Pt.y p) (Prod.fst r) (Prod.snd r)) fun r1 => impl_around_l0 L a m (wr IntKind.i64 (iadd v3 r1)) (wr IntKind.i64 (iadd v8 1))) else (some v3)
noncomputable def impl_around (L : Nat) (a : List Pt) : Option (Int) := impl_around_l0 L a L 0 0
def impl_around_ok (L : Nat) (C : CF) : Prop := ∀ (oa : Bool) (ca : Bool) (x_a : List AV) (a : List Pt) (_ : x_a = List.map ep a), C 46 ([.lst oa ca 2 x_a]) ([]) = Option.map (fun r : Int => ((.int .i64 r, []) : AV × List Blk)) (impl_around L a)
theorem impl_around_run (L : Nat) (C : CF) (h_impl_at : impl_at_ok L C) (h_impl_steps : impl_steps_ok L C) : ∀ (oa : Bool) (ca : Bool) (x_a : List AV) (a : List Pt) (_ : x_a = List.map ep a), run T C sh (keep 46) L Tryz.f46 ([.lst oa ca 2 x_a]) ([]) = Option.map (fun r : Int => ((.int .i64 r, []) : AV × List Blk)) (impl_around L a) := by
 intro oa ca x_a a hx_a
 subst hx_a
 unfold impl_around
 conv => lhs; whnf
 refine t_loop (fun (⟨v3, v8⟩ : Int × Int) => (AV.lst oa ca 2 (List.map ep a) :: topA 2 (AV.int IntKind.i64 v3 :: topA 2 (AV.lst oa ca 2 (List.map ep a) :: AV.int IntKind.i64 (ilen (List.map ep a)) :: AV.int IntKind.i64 v8 :: tops 14)), [])) (fun m (⟨v3, v8⟩ : Int × Int) => impl_around_l0 L a m v3 v8) (fun _ => rfl) (fun m s rec hrec => ?_) L ((0, 0)) ?_ ?_
 rotate_left
 ·first | rfl | simp only [ml] <;> rfl
 ·first | rfl | simp only [ml] <;> rfl
 obtain ⟨v3, v8⟩ := s
 show _ = Option.map _ (impl_around_l0 L a (m + 1) v3 v8)
 rw [impl_around_l0.eq_2]
 conv => lhs; whnf
 refine t_cond ?_ ?_
 ·conv => lhs; whnf
  refine t_get (en := ep) (l := a) (by first | rfl | simp only [ml] <;> rfl) fun p => ?_
  conv => lhs; whnf
  refine t_call (h_impl_at _ _ _ a (by first | rfl | simp only [ml] <;> rfl) (wr IntKind.i64 (iadd v8 1))) fun r => ?_
  conv => lhs; whnf
  refine t_call (h_impl_steps (Pt.x p) (Pt.y p) (Prod.fst r) (Prod.snd r)) fun r1 => ?_
  conv => lhs; whnf
  exact hrec ((wr IntKind.i64 (iadd v3 r1), wr IntKind.i64 (iadd v8 1))) _ _ (by first | rfl | simp only [ml] <;> rfl) (by first | rfl | simp only [ml] <;> rfl)
 ·conv => lhs; whnf
  exact t_ret (by first | rfl | simp only [ml] <;> rfl)
noncomputable def impl_CountInBand (L : Nat) (a : List Pt) : Option (Int × Bool) := gbind (impl_AreDifferent L a) fun r => bif !r then (some ((0, false))) else (gbind (impl_band L a) fun r1 => gbind (impl_twice L r1) fun r2 => gbind (impl_around L r1) fun r3 => bif ieq 2 0 then (none) else (some ((wr IntKind.i64 (iadd (wr IntKind.i64 (iquo (wr IntKind.i64 (iadd r2 r3)) 2)) 1), true))))
def impl_CountInBand_ok (L : Nat) (C : CF) : Prop := ∀ (oa : Bool) (ca : Bool) (x_a : List AV) (a : List Pt) (_ : x_a = List.map ep a), C 14 ([.lst oa ca 2 x_a]) ([]) = Option.map (fun r : Int × Bool => ((.tup [.int .i64 (r.1), .bool (r.2)], []) : AV × List Blk)) (impl_CountInBand L a)
theorem impl_CountInBand_run (L : Nat) (C : CF) (h_impl_AreDifferent : impl_AreDifferent_ok L C) (h_impl_band : impl_band_ok L C) (h_impl_twice : impl_twice_ok L C) (h_impl_around : impl_around_ok L C) : ∀ (oa : Bool) (ca : Bool) (x_a : List AV) (a : List Pt) (_ : x_a = List.map ep a), run T C sh (keep 14) L Tryz.f14 ([.lst oa ca 2 x_a]) ([]) = Option.map (fun r : Int × Bool => ((.tup [.int .i64 (r.1), .bool (r.2)], []) : AV × List Blk)) (impl_CountInBand L a) := by
 intro oa ca x_a a hx_a
 subst hx_a
 unfold impl_CountInBand
 conv => lhs; whnf
 refine t_call (h_impl_AreDifferent _ _ _ a (by first | rfl | simp only [ml] <;> rfl)) fun r => ?_
 conv => lhs; whnf
 refine t_cond ?_ ?_
 ·conv => lhs; whnf
  exact t_ret (by first | rfl | simp only [ml] <;> rfl)
 ·conv => lhs; whnf
  refine t_call (h_impl_band _ _ _ a (by first | rfl | simp only [ml] <;> rfl)) fun r1 => ?_
  conv => lhs; whnf
  refine t_call (h_impl_twice _ _ _ r1 (by first | rfl | simp only [ml] <;> rfl)) fun r2 => ?_
  conv => lhs; whnf
  refine t_call (h_impl_around _ _ _ r1 (by first | rfl | simp only [ml] <;> rfl)) fun r3 => ?_
  conv => lhs; whnf
  refine t_cond ?_ ?_
  ·conv => lhs; whnf
   exact t_none
  ·conv => lhs; whnf
   exact t_ret (by first | rfl | simp only [ml] <;> rfl)
noncomputable def spec_l1Most (L : Nat) (a : Int) (b : Int) : Option (Int) := bif ilt b a then (some a) else (some b)
def spec_l1Most_ok (L : Nat) (C : CF) : Prop := ∀ (a : Int) (b : Int), C 105 ([.int .i64 a, .int .i64 b]) ([]) = Option.map (fun r : Int => ((.int .i64 r, []) : AV × List Blk)) (spec_l1Most L a b)
theorem spec_l1Most_run (L : Nat) (C : CF) : ∀ (a : Int) (b : Int), run T C sh (keep 105) L Tryz.f105 ([.int .i64 a, .int .i64 b]) ([]) = Option.map (fun r : Int => ((.int .i64 r, []) : AV × List Blk)) (spec_l1Most L a b) := by
 intro a b
 unfold spec_l1Most
 conv => lhs; whnf
 refine t_cond ?_ ?_
 ·conv => lhs; whnf
  exact t_ret (by first | rfl | simp only [ml] <;> rfl)
 ·conv => lhs; whnf
  exact t_ret (by first | rfl | simp only [ml] <;> rfl)
noncomputable def spec_l1Abs (L : Nat) (a : Int) : Option (Int) := gbind (spec_l1Most L a (wr IntKind.i64 (isub 0 a))) fun r => some r
def spec_l1Abs_ok (L : Nat) (C : CF) : Prop := ∀ (a : Int), C 96 ([.int .i64 a]) ([]) = Option.map (fun r : Int => ((.int .i64 r, []) : AV × List Blk)) (spec_l1Abs L a)
theorem spec_l1Abs_run (L : Nat) (C : CF) (h_spec_l1Most : spec_l1Most_ok L C) : ∀ (a : Int), run T C sh (keep 96) L Tryz.f96 ([.int .i64 a]) ([]) = Option.map (fun r : Int => ((.int .i64 r, []) : AV × List Blk)) (spec_l1Abs L a) := by
 intro a
 unfold spec_l1Abs
 conv => lhs; whnf
 refine t_call (h_spec_l1Most a (wr IntKind.i64 (isub 0 a))) fun r => ?_
 conv => lhs; whnf
 exact t_ret (by first | rfl | simp only [ml] <;> rfl)
noncomputable def spec_pgCommon_l0 (L : Nat) : Nat → Int → Int → Option Int
  | 0, _, _ => none
  | m + 1, v0, v1 => bif ilt 0 v1 then (bif ieq v1 0 then (none) else (spec_pgCommon_l0 L m v1 (irem v0 v1))) else (some v0)
noncomputable def spec_pgCommon (L : Nat) (a : Int) (b : Int) : Option (Int) := gbind (spec_l1Abs L a) fun r => gbind (spec_l1Abs L b) fun r1 => spec_pgCommon_l0 L L r r1
def spec_pgCommon_ok (L : Nat) (C : CF) : Prop := ∀ (a : Int) (b : Int), C 78 ([.int .i64 a, .int .i64 b]) ([]) = Option.map (fun r : Int => ((.int .i64 r, []) : AV × List Blk)) (spec_pgCommon L a b)
theorem spec_pgCommon_run (L : Nat) (C : CF) (h_spec_l1Abs : spec_l1Abs_ok L C) : ∀ (a : Int) (b : Int), run T C sh (keep 78) L Tryz.f78 ([.int .i64 a, .int .i64 b]) ([]) = Option.map (fun r : Int => ((.int .i64 r, []) : AV × List Blk)) (spec_pgCommon L a b) := by
 intro a b
 unfold spec_pgCommon
 conv => lhs; whnf
 refine t_call (h_spec_l1Abs a) fun r => ?_
 conv => lhs; whnf
 refine t_call (h_spec_l1Abs b) fun r1 => ?_
 conv => lhs; whnf
 refine t_loop (fun (⟨v0, v1⟩ : Int × Int) => (AV.int IntKind.i64 v0 :: AV.int IntKind.i64 v1 :: tops 14, [])) (fun m (⟨v0, v1⟩ : Int × Int) => spec_pgCommon_l0 L m v0 v1) (fun _ => rfl) (fun m s rec hrec => ?_) L ((r, r1)) ?_ ?_
 rotate_left
 ·first | rfl | simp only [ml] <;> rfl
 ·first | rfl | simp only [ml] <;> rfl
 obtain ⟨v0, v1⟩ := s
 show _ = Option.map _ (spec_pgCommon_l0 L (m + 1) v0 v1)
 rw [spec_pgCommon_l0.eq_2]
 conv => lhs; whnf
 refine t_cond ?_ ?_
 ·conv => lhs; whnf
  refine t_cond ?_ ?_
  ·conv => lhs; whnf
   exact t_none
  ·conv => lhs; whnf
   exact hrec ((v1, irem v0 v1)) _ _ (by first | rfl | simp only [ml] <;> rfl) (by first | rfl | simp only [ml] <;> rfl)
 ·conv => lhs; whnf
  exact t_ret (by first | rfl | simp only [ml] <;> rfl)
noncomputable def spec_pgStep (L : Nat) (a_0 : Int) (a_1 : Int) (b_0 : Int) (b_1 : Int) : Option (Int) := gbind (spec_pgCommon L (wr IntKind.i64 (isub a_0 b_0)) (wr IntKind.i64 (isub a_1 b_1))) fun r => some r
def spec_pgStep_ok (L : Nat) (C : CF) : Prop := ∀ (a_0 : Int) (a_1 : Int) (b_0 : Int) (b_1 : Int), C 47 ([.agg [.int .i64 a_0, .int .i64 a_1], .agg [.int .i64 b_0, .int .i64 b_1]]) ([]) = Option.map (fun r : Int => ((.int .i64 r, []) : AV × List Blk)) (spec_pgStep L a_0 a_1 b_0 b_1)
theorem spec_pgStep_run (L : Nat) (C : CF) (h_spec_pgCommon : spec_pgCommon_ok L C) : ∀ (a_0 : Int) (a_1 : Int) (b_0 : Int) (b_1 : Int), run T C sh (keep 47) L Tryz.f47 ([.agg [.int .i64 a_0, .int .i64 a_1], .agg [.int .i64 b_0, .int .i64 b_1]]) ([]) = Option.map (fun r : Int => ((.int .i64 r, []) : AV × List Blk)) (spec_pgStep L a_0 a_1 b_0 b_1) := by
 intro a_0 a_1 b_0 b_1
 unfold spec_pgStep
 conv => lhs; whnf
 refine t_call (h_spec_pgCommon (wr IntKind.i64 (isub a_0 b_0)) (wr IntKind.i64 (isub a_1 b_1))) fun r => ?_
 conv => lhs; whnf
 exact t_ret (by first | rfl | simp only [ml] <;> rfl)
noncomputable def spec_pgRound_l0 (L : Nat) (a : List Pt) : Nat → Int → Int → Option Int
  | 0, _, _ => none
  | m + 1, v3, v8 => bif ilt v8 (ilen (List.map ep a)) then (gbind (lget a v8) fun p => bif ieq (ilen (List.map ep a)) 0 then (none) else (gbind (lget a (irem (wr IntKind.i64 (iadd v8 1)) (ilen (List.map ep a)))) fun p1 => gbind (spec_pgStep L (Pt.x p) (Pt.y p) (Pt.x p1) (Pt.y p1)) fun r => spec_pgRound_l0 L a m (wr IntKind.i64 (iadd v3 r)) (wr IntKind.i64 (iadd v8 1)))) else (some v3)
noncomputable def spec_pgRound (L : Nat) (a : List Pt) : Option (Int) := spec_pgRound_l0 L a L 0 0
def spec_pgRound_ok (L : Nat) (C : CF) : Prop := ∀ (oa : Bool) (ca : Bool) (x_a : List AV) (a : List Pt) (_ : x_a = List.map ep a), C 48 ([.lst oa ca 2 x_a]) ([]) = Option.map (fun r : Int => ((.int .i64 r, []) : AV × List Blk)) (spec_pgRound L a)
theorem spec_pgRound_run (L : Nat) (C : CF) (h_spec_pgStep : spec_pgStep_ok L C) : ∀ (oa : Bool) (ca : Bool) (x_a : List AV) (a : List Pt) (_ : x_a = List.map ep a), run T C sh (keep 48) L Tryz.f48 ([.lst oa ca 2 x_a]) ([]) = Option.map (fun r : Int => ((.int .i64 r, []) : AV × List Blk)) (spec_pgRound L a) := by
 intro oa ca x_a a hx_a
 subst hx_a
 unfold spec_pgRound
 conv => lhs; whnf
 refine t_loop (fun (⟨v3, v8⟩ : Int × Int) => (AV.lst oa ca 2 (List.map ep a) :: topA 2 (AV.int IntKind.i64 v3 :: topA 2 (AV.lst oa ca 2 (List.map ep a) :: AV.int IntKind.i64 (ilen (List.map ep a)) :: AV.int IntKind.i64 v8 :: tops 18)), [])) (fun m (⟨v3, v8⟩ : Int × Int) => spec_pgRound_l0 L a m v3 v8) (fun _ => rfl) (fun m s rec hrec => ?_) L ((0, 0)) ?_ ?_
 rotate_left
 ·first | rfl | simp only [ml] <;> rfl
 ·first | rfl | simp only [ml] <;> rfl
 obtain ⟨v3, v8⟩ := s
 show _ = Option.map _ (spec_pgRound_l0 L a (m + 1) v3 v8)
 rw [spec_pgRound_l0.eq_2]
 conv => lhs; whnf
 refine t_cond ?_ ?_
 ·conv => lhs; whnf
  refine t_get (en := ep) (l := a) (by first | rfl | simp only [ml] <;> rfl) fun p => ?_
  conv => lhs; whnf
  refine t_cond ?_ ?_
  ·conv => lhs; whnf
   exact t_none
  ·conv => lhs; whnf
   refine t_get (en := ep) (l := a) (by first | rfl | simp only [ml] <;> rfl) fun p1 => ?_
   conv => lhs; whnf
   refine t_call (h_spec_pgStep (Pt.x p) (Pt.y p) (Pt.x p1) (Pt.y p1)) fun r => ?_
   conv => lhs; whnf
   exact hrec ((wr IntKind.i64 (iadd v3 r), wr IntKind.i64 (iadd v8 1))) _ _ (by first | rfl | simp only [ml] <;> rfl) (by first | rfl | simp only [ml] <;> rfl)
 ·conv => lhs; whnf
  exact t_ret (by first | rfl | simp only [ml] <;> rfl)
noncomputable def spec_CountInBand (L : Nat) (a : List Pt) : Option (Int × Bool) := gbind (spec_bdGood L a) fun r => bif !r then (some ((0, false))) else (gbind (spec_bdBand L a) fun r1 => bif ieq (ilen (List.map ep r1)) 1 then (some ((1, true))) else (bif ieq (ilen (List.map ep r1)) 2 then (gbind (lget r1 0) fun p => gbind (lget r1 1) fun p1 => gbind (spec_pgStep L (Pt.x p) (Pt.y p) (Pt.x p1) (Pt.y p1)) fun r2 => some ((wr IntKind.i64 (iadd r2 1), true))) else (gbind (spec_pgArea L r1) fun r3 => gbind (spec_pgRound L r1) fun r4 => bif ieq 2 0 then (none) else (some ((wr IntKind.i64 (iadd (wr IntKind.i64 (iquo (wr IntKind.i64 (iadd r3 r4)) 2)) 1), true))))))
def spec_CountInBand_ok (L : Nat) (C : CF) : Prop := ∀ (oa : Bool) (ca : Bool) (x_a : List AV) (a : List Pt) (_ : x_a = List.map ep a), C 15 ([.lst oa ca 2 x_a]) ([]) = Option.map (fun r : Int × Bool => ((.tup [.int .i64 (r.1), .bool (r.2)], []) : AV × List Blk)) (spec_CountInBand L a)
theorem spec_CountInBand_run (L : Nat) (C : CF) (h_spec_bdGood : spec_bdGood_ok L C) (h_spec_bdBand : spec_bdBand_ok L C) (h_spec_pgArea : spec_pgArea_ok L C) (h_spec_pgStep : spec_pgStep_ok L C) (h_spec_pgRound : spec_pgRound_ok L C) : ∀ (oa : Bool) (ca : Bool) (x_a : List AV) (a : List Pt) (_ : x_a = List.map ep a), run T C sh (keep 15) L Tryz.f15 ([.lst oa ca 2 x_a]) ([]) = Option.map (fun r : Int × Bool => ((.tup [.int .i64 (r.1), .bool (r.2)], []) : AV × List Blk)) (spec_CountInBand L a) := by
 intro oa ca x_a a hx_a
 subst hx_a
 unfold spec_CountInBand
 conv => lhs; whnf
 refine t_call (h_spec_bdGood _ _ _ a (by first | rfl | simp only [ml] <;> rfl)) fun r => ?_
 conv => lhs; whnf
 refine t_cond ?_ ?_
 ·conv => lhs; whnf
  exact t_ret (by first | rfl | simp only [ml] <;> rfl)
 ·conv => lhs; whnf
  refine t_call (h_spec_bdBand _ _ _ a (by first | rfl | simp only [ml] <;> rfl)) fun r1 => ?_
  conv => lhs; whnf
  refine t_cond ?_ ?_
  ·conv => lhs; whnf
   exact t_ret (by first | rfl | simp only [ml] <;> rfl)
  ·conv => lhs; whnf
   refine t_cond ?_ ?_
   ·conv => lhs; whnf
    refine t_get (en := ep) (l := r1) (by first | rfl | simp only [ml] <;> rfl) fun p => ?_
    conv => lhs; whnf
    refine t_get (en := ep) (l := r1) (by first | rfl | simp only [ml] <;> rfl) fun p1 => ?_
    conv => lhs; whnf
    refine t_call (h_spec_pgStep (Pt.x p) (Pt.y p) (Pt.x p1) (Pt.y p1)) fun r2 => ?_
    conv => lhs; whnf
    exact t_ret (by first | rfl | simp only [ml] <;> rfl)
   ·conv => lhs; whnf
    refine t_call (h_spec_pgArea _ _ _ r1 (by first | rfl | simp only [ml] <;> rfl)) fun r3 => ?_
    conv => lhs; whnf
    refine t_call (h_spec_pgRound _ _ _ r1 (by first | rfl | simp only [ml] <;> rfl)) fun r4 => ?_
    conv => lhs; whnf
    refine t_cond ?_ ?_
    ·conv => lhs; whnf
     exact t_none
    ·conv => lhs; whnf
     exact t_ret (by first | rfl | simp only [ml] <;> rfl)
noncomputable def impl_areConvex (L : Nat) (a : List Pt) : Option (Bool) := gbind (impl_band L a) fun r => some (ieq (ilen (List.map ep r)) (ilen (List.map ep a)))
def impl_areConvex_ok (L : Nat) (C : CF) : Prop := ∀ (oa : Bool) (ca : Bool) (x_a : List AV) (a : List Pt) (_ : x_a = List.map ep a), C 49 ([.lst oa ca 2 x_a]) ([]) = Option.map (fun r : Bool => ((.bool r, []) : AV × List Blk)) (impl_areConvex L a)
theorem impl_areConvex_run (L : Nat) (C : CF) (h_impl_band : impl_band_ok L C) : ∀ (oa : Bool) (ca : Bool) (x_a : List AV) (a : List Pt) (_ : x_a = List.map ep a), run T C sh (keep 49) L Tryz.f49 ([.lst oa ca 2 x_a]) ([]) = Option.map (fun r : Bool => ((.bool r, []) : AV × List Blk)) (impl_areConvex L a) := by
 intro oa ca x_a a hx_a
 subst hx_a
 unfold impl_areConvex
 conv => lhs; whnf
 refine t_call (h_impl_band _ _ _ a (by first | rfl | simp only [ml] <;> rfl)) fun r => ?_
 conv => lhs; whnf
 exact t_ret (by first | rfl | simp only [ml] <;> rfl)
noncomputable def impl_AreConvex (L : Nat) (a : List Pt) : Option (Bool × Bool) := gbind (impl_AreDifferent L a) fun r => bif !r then (some ((false, false))) else (gbind (impl_areConvex L a) fun r1 => some ((r1, true)))
def impl_AreConvex_ok (L : Nat) (C : CF) : Prop := ∀ (oa : Bool) (ca : Bool) (x_a : List AV) (a : List Pt) (_ : x_a = List.map ep a), C 16 ([.lst oa ca 2 x_a]) ([]) = Option.map (fun r : Bool × Bool => ((.tup [.bool (r.1), .bool (r.2)], []) : AV × List Blk)) (impl_AreConvex L a)
theorem impl_AreConvex_run (L : Nat) (C : CF) (h_impl_AreDifferent : impl_AreDifferent_ok L C) (h_impl_areConvex : impl_areConvex_ok L C) : ∀ (oa : Bool) (ca : Bool) (x_a : List AV) (a : List Pt) (_ : x_a = List.map ep a), run T C sh (keep 16) L Tryz.f16 ([.lst oa ca 2 x_a]) ([]) = Option.map (fun r : Bool × Bool => ((.tup [.bool (r.1), .bool (r.2)], []) : AV × List Blk)) (impl_AreConvex L a) := by
 intro oa ca x_a a hx_a
 subst hx_a
 unfold impl_AreConvex
 conv => lhs; whnf
 refine t_call (h_impl_AreDifferent _ _ _ a (by first | rfl | simp only [ml] <;> rfl)) fun r => ?_
 conv => lhs; whnf
 refine t_cond ?_ ?_
 ·conv => lhs; whnf
  exact t_ret (by first | rfl | simp only [ml] <;> rfl)
 ·conv => lhs; whnf
  refine t_call (h_impl_areConvex _ _ _ a (by first | rfl | simp only [ml] <;> rfl)) fun r1 => ?_
  conv => lhs; whnf
  exact t_ret (by first | rfl | simp only [ml] <;> rfl)
noncomputable def spec_AreConvex (L : Nat) (a : List Pt) : Option (Bool × Bool) := gbind (spec_bdGood L a) fun r => bif !r then (some ((false, false))) else (gbind (spec_bdBand L a) fun r1 => some ((ieq (ilen (List.map ep r1)) (ilen (List.map ep a)), true)))
def spec_AreConvex_ok (L : Nat) (C : CF) : Prop := ∀ (oa : Bool) (ca : Bool) (x_a : List AV) (a : List Pt) (_ : x_a = List.map ep a), C 17 ([.lst oa ca 2 x_a]) ([]) = Option.map (fun r : Bool × Bool => ((.tup [.bool (r.1), .bool (r.2)], []) : AV × List Blk)) (spec_AreConvex L a)
theorem spec_AreConvex_run (L : Nat) (C : CF) (h_spec_bdGood : spec_bdGood_ok L C) (h_spec_bdBand : spec_bdBand_ok L C) : ∀ (oa : Bool) (ca : Bool) (x_a : List AV) (a : List Pt) (_ : x_a = List.map ep a), run T C sh (keep 17) L Tryz.f17 ([.lst oa ca 2 x_a]) ([]) = Option.map (fun r : Bool × Bool => ((.tup [.bool (r.1), .bool (r.2)], []) : AV × List Blk)) (spec_AreConvex L a) := by
 intro oa ca x_a a hx_a
 subst hx_a
 unfold spec_AreConvex
 conv => lhs; whnf
 refine t_call (h_spec_bdGood _ _ _ a (by first | rfl | simp only [ml] <;> rfl)) fun r => ?_
 conv => lhs; whnf
 refine t_cond ?_ ?_
 ·conv => lhs; whnf
  exact t_ret (by first | rfl | simp only [ml] <;> rfl)
 ·conv => lhs; whnf
  refine t_call (h_spec_bdBand _ _ _ a (by first | rfl | simp only [ml] <;> rfl)) fun r1 => ?_
  conv => lhs; whnf
  exact t_ret (by first | rfl | simp only [ml] <;> rfl)
noncomputable def laws_ePegs_l0 (L : Nat) (a : List Pt) (b : List Pt) : Nat → Int → Option Bool
  | 0, _ => none
  | m + 1, v13 => bif ilt v13 (ilen (List.map ep a)) then (gbind (lget a v13) fun p => gbind (lget b v13) fun p1 => bif !(ieq (Pt.x p) (Pt.x p1) && ieq (Pt.y p) (Pt.y p1)) then (some false) else (laws_ePegs_l0 L a b m (wr IntKind.i64 (iadd v13 1)))) else (some true)
noncomputable def laws_ePegs (L : Nat) (a : List Pt) (b : List Pt) : Option (Bool) := bif !ieq (ilen (List.map ep a)) (ilen (List.map ep b)) then (some false) else (laws_ePegs_l0 L a b L 0)
def laws_ePegs_ok (L : Nat) (C : CF) : Prop := ∀ (oa : Bool) (ca : Bool) (x_a : List AV) (a : List Pt) (_ : x_a = List.map ep a) (ob : Bool) (cb : Bool) (x_b : List AV) (b : List Pt) (_ : x_b = List.map ep b), C 18 ([.lst oa ca 2 x_a, .lst ob cb 2 x_b]) ([]) = Option.map (fun r : Bool => ((.bool r, []) : AV × List Blk)) (laws_ePegs L a b)
theorem laws_ePegs_run (L : Nat) (C : CF) : ∀ (oa : Bool) (ca : Bool) (x_a : List AV) (a : List Pt) (_ : x_a = List.map ep a) (ob : Bool) (cb : Bool) (x_b : List AV) (b : List Pt) (_ : x_b = List.map ep b), run T C sh (keep 18) L Tryz.f18 ([.lst oa ca 2 x_a, .lst ob cb 2 x_b]) ([]) = Option.map (fun r : Bool => ((.bool r, []) : AV × List Blk)) (laws_ePegs L a b) := by
 intro oa ca x_a a hx_a ob cb x_b b hx_b
 subst hx_a
 subst hx_b
 unfold laws_ePegs
 conv => lhs; whnf
 refine t_cond ?_ ?_
 ·conv => lhs; whnf
  exact t_ret (by first | rfl | simp only [ml] <;> rfl)
 ·conv => lhs; whnf
  refine t_loop (fun (v13 : Int) => (AV.lst oa ca 2 (List.map ep a) :: AV.lst ob cb 2 (List.map ep b) :: topA 10 (AV.int IntKind.i64 (ilen (List.map ep a)) :: AV.int IntKind.i64 v13 :: tops 12), [])) (fun m (v13 : Int) => laws_ePegs_l0 L a b m v13) (fun _ => rfl) (fun m v13 rec hrec => ?_) L 0 ?_ ?_
  rotate_left
  ·first | rfl | simp only [ml] <;> rfl
  ·first | rfl | simp only [ml] <;> rfl
  show _ = Option.map _ (laws_ePegs_l0 L a b (m + 1) v13)
  rw [laws_ePegs_l0.eq_2]
  conv => lhs; whnf
  refine t_cond ?_ ?_
  ·conv => lhs; whnf
   refine t_get (en := ep) (l := a) (by first | rfl | simp only [ml] <;> rfl) fun p => ?_
   conv => lhs; whnf
   refine t_get (en := ep) (l := b) (by first | rfl | simp only [ml] <;> rfl) fun p1 => ?_
   conv => lhs; whnf
   refine t_cond ?_ ?_
   ·conv => lhs; whnf
    exact t_ret (by first | rfl | simp only [ml] <;> rfl)
   ·conv => lhs; whnf
    exact hrec (wr IntKind.i64 (iadd v13 1)) _ _ (by first | rfl | simp only [ml] <;> rfl) (by first | rfl | simp only [ml] <;> rfl)
  ·conv => lhs; whnf
   exact t_ret (by first | rfl | simp only [ml] <;> rfl)
noncomputable def laws_eLists_l0 (L : Nat) (a : List (List Pt)) (b : List (List Pt)) : Nat → Int → Option Bool
  | 0, _ => none
  | m + 1, v13 => bif ilt v13 (ilen (List.map eLP a)) then (gbind (lget a v13) fun p => gbind (lget b v13) fun p1 => gbind (laws_ePegs L p p1) fun r => bif !r then (some false) else (laws_eLists_l0 L a b m (wr IntKind.i64 (iadd v13 1)))) else (some true)
noncomputable def laws_eLists (L : Nat) (a : List (List Pt)) (b : List (List Pt)) : Option (Bool) := bif !ieq (ilen (List.map eLP a)) (ilen (List.map eLP b)) then (some false) else (laws_eLists_l0 L a b L 0)
def laws_eLists_ok (L : Nat) (C : CF) : Prop := ∀ (oa : Bool) (ca : Bool) (x_a : List AV) (a : List (List Pt)) (_ : x_a = List.map eLP a) (ob : Bool) (cb : Bool) (x_b : List AV) (b : List (List Pt)) (_ : x_b = List.map eLP b), C 19 ([.lst oa ca 1 x_a, .lst ob cb 1 x_b]) ([]) = Option.map (fun r : Bool => ((.bool r, []) : AV × List Blk)) (laws_eLists L a b)
theorem laws_eLists_run (L : Nat) (C : CF) (h_laws_ePegs : laws_ePegs_ok L C) : ∀ (oa : Bool) (ca : Bool) (x_a : List AV) (a : List (List Pt)) (_ : x_a = List.map eLP a) (ob : Bool) (cb : Bool) (x_b : List AV) (b : List (List Pt)) (_ : x_b = List.map eLP b), run T C sh (keep 19) L Tryz.f19 ([.lst oa ca 1 x_a, .lst ob cb 1 x_b]) ([]) = Option.map (fun r : Bool => ((.bool r, []) : AV × List Blk)) (laws_eLists L a b) := by
 intro oa ca x_a a hx_a ob cb x_b b hx_b
 subst hx_a
 subst hx_b
 unfold laws_eLists
 conv => lhs; whnf
 refine t_cond ?_ ?_
 ·conv => lhs; whnf
  exact t_ret (by first | rfl | simp only [ml] <;> rfl)
 ·conv => lhs; whnf
  refine t_loop (fun (v13 : Int) => (AV.lst oa ca 1 (List.map eLP a) :: AV.lst ob cb 1 (List.map eLP b) :: topA 10 (AV.int IntKind.i64 (ilen (List.map eLP a)) :: AV.int IntKind.i64 v13 :: tops 13), [])) (fun m (v13 : Int) => laws_eLists_l0 L a b m v13) (fun _ => rfl) (fun m v13 rec hrec => ?_) L 0 ?_ ?_
  rotate_left
  ·first | rfl | simp only [ml] <;> rfl
  ·first | rfl | simp only [ml] <;> rfl
  show _ = Option.map _ (laws_eLists_l0 L a b (m + 1) v13)
  rw [laws_eLists_l0.eq_2]
  conv => lhs; whnf
  refine t_cond ?_ ?_
  ·conv => lhs; whnf
   refine t_get (en := eLP) (l := a) (by first | rfl | simp only [ml] <;> rfl) fun p => ?_
   conv => lhs; whnf
   refine t_get (en := eLP) (l := b) (by first | rfl | simp only [ml] <;> rfl) fun p1 => ?_
   conv => lhs; whnf
   refine t_call (h_laws_ePegs _ _ _ p (by first | rfl | simp only [ml] <;> rfl) _ _ _ p1 (by first | rfl | simp only [ml] <;> rfl)) fun r => ?_
   conv => lhs; whnf
   refine t_cond ?_ ?_
   ·conv => lhs; whnf
    exact t_ret (by first | rfl | simp only [ml] <;> rfl)
   ·conv => lhs; whnf
    exact hrec (wr IntKind.i64 (iadd v13 1)) _ _ (by first | rfl | simp only [ml] <;> rfl) (by first | rfl | simp only [ml] <;> rfl)
  ·conv => lhs; whnf
   exact t_ret (by first | rfl | simp only [ml] <;> rfl)
noncomputable def spec_AreDifferent (L : Nat) (a : List Pt) : Option (Bool) := gbind (spec_bdGood L a) fun r => some r
def spec_AreDifferent_ok (L : Nat) (C : CF) : Prop := ∀ (oa : Bool) (ca : Bool) (x_a : List AV) (a : List Pt) (_ : x_a = List.map ep a), C 21 ([.lst oa ca 2 x_a]) ([]) = Option.map (fun r : Bool => ((.bool r, []) : AV × List Blk)) (spec_AreDifferent L a)
theorem spec_AreDifferent_run (L : Nat) (C : CF) (h_spec_bdGood : spec_bdGood_ok L C) : ∀ (oa : Bool) (ca : Bool) (x_a : List AV) (a : List Pt) (_ : x_a = List.map ep a), run T C sh (keep 21) L Tryz.f21 ([.lst oa ca 2 x_a]) ([]) = Option.map (fun r : Bool => ((.bool r, []) : AV × List Blk)) (spec_AreDifferent L a) := by
 intro oa ca x_a a hx_a
 subst hx_a
 unfold spec_AreDifferent
 conv => lhs; whnf
 refine t_call (h_spec_bdGood _ _ _ a (by first | rfl | simp only [ml] <;> rfl)) fun r => ?_
 conv => lhs; whnf
 exact t_ret (by first | rfl | simp only [ml] <;> rfl)
noncomputable def laws_eIn_l0 (L : Nat) (a : List Pt) (b_0 : Int) (b_1 : Int) : Nat → Int → Option Bool
  | 0, _ => none
  | m + 1, v9 => bif ilt v9 (ilen (List.map ep a)) then (gbind (lget a v9) fun p => bif ieq (Pt.x p) b_0 && ieq (Pt.y p) b_1 then (some true) else (laws_eIn_l0 L a b_0 b_1 m (wr IntKind.i64 (iadd v9 1)))) else (some false)
noncomputable def laws_eIn (L : Nat) (a : List Pt) (b_0 : Int) (b_1 : Int) : Option (Bool) := laws_eIn_l0 L a b_0 b_1 L 0
def laws_eIn_ok (L : Nat) (C : CF) : Prop := ∀ (oa : Bool) (ca : Bool) (x_a : List AV) (a : List Pt) (_ : x_a = List.map ep a) (b_0 : Int) (b_1 : Int), C 22 ([.lst oa ca 2 x_a, .agg [.int .i64 b_0, .int .i64 b_1]]) ([]) = Option.map (fun r : Bool => ((.bool r, []) : AV × List Blk)) (laws_eIn L a b_0 b_1)
theorem laws_eIn_run (L : Nat) (C : CF) : ∀ (oa : Bool) (ca : Bool) (x_a : List AV) (a : List Pt) (_ : x_a = List.map ep a) (b_0 : Int) (b_1 : Int), run T C sh (keep 22) L Tryz.f22 ([.lst oa ca 2 x_a, .agg [.int .i64 b_0, .int .i64 b_1]]) ([]) = Option.map (fun r : Bool => ((.bool r, []) : AV × List Blk)) (laws_eIn L a b_0 b_1) := by
 intro oa ca x_a a hx_a b_0 b_1
 subst hx_a
 unfold laws_eIn
 conv => lhs; whnf
 refine t_loop (fun (v9 : Int) => (topA 3 (AV.ptr 0 0 0 2 :: topA 3 (AV.lst oa ca 2 (List.map ep a) :: AV.int IntKind.i64 (ilen (List.map ep a)) :: AV.int IntKind.i64 v9 :: tops 7)), [Blk.box (AV.agg [AV.int IntKind.i64 b_0, AV.int IntKind.i64 b_1])])) (fun m (v9 : Int) => laws_eIn_l0 L a b_0 b_1 m v9) (fun _ => rfl) (fun m v9 rec hrec => ?_) L 0 ?_ ?_
 rotate_left
 ·first | rfl | simp only [ml] <;> rfl
 ·first | rfl | simp only [ml] <;> rfl
 show _ = Option.map _ (laws_eIn_l0 L a b_0 b_1 (m + 1) v9)
 rw [laws_eIn_l0.eq_2]
 conv => lhs; whnf
 refine t_cond ?_ ?_
 ·conv => lhs; whnf
  refine t_get (en := ep) (l := a) (by first | rfl | simp only [ml] <;> rfl) fun p => ?_
  conv => lhs; whnf
  refine t_cond ?_ ?_
  ·conv => lhs; whnf
   exact t_ret (by first | rfl | simp only [ml] <;> rfl)
  ·conv => lhs; whnf
   exact hrec (wr IntKind.i64 (iadd v9 1)) _ _ (by first | rfl | simp only [ml] <;> rfl) (by first | rfl | simp only [ml] <;> rfl)
 ·conv => lhs; whnf
  exact t_ret (by first | rfl | simp only [ml] <;> rfl)
noncomputable def laws_eLess (L : Nat) (a_0 : Int) (a_1 : Int) (b_0 : Int) (b_1 : Int) : Option (Bool) := bif ilt a_0 b_0 then (some true) else (bif ieq a_0 b_0 then (some (ilt a_1 b_1)) else (some false))
def laws_eLess_ok (L : Nat) (C : CF) : Prop := ∀ (a_0 : Int) (a_1 : Int) (b_0 : Int) (b_1 : Int), C 23 ([.agg [.int .i64 a_0, .int .i64 a_1], .agg [.int .i64 b_0, .int .i64 b_1]]) ([]) = Option.map (fun r : Bool => ((.bool r, []) : AV × List Blk)) (laws_eLess L a_0 a_1 b_0 b_1)
theorem laws_eLess_run (L : Nat) (C : CF) : ∀ (a_0 : Int) (a_1 : Int) (b_0 : Int) (b_1 : Int), run T C sh (keep 23) L Tryz.f23 ([.agg [.int .i64 a_0, .int .i64 a_1], .agg [.int .i64 b_0, .int .i64 b_1]]) ([]) = Option.map (fun r : Bool => ((.bool r, []) : AV × List Blk)) (laws_eLess L a_0 a_1 b_0 b_1) := by
 intro a_0 a_1 b_0 b_1
 unfold laws_eLess
 conv => lhs; whnf
 refine t_cond ?_ ?_
 ·conv => lhs; whnf
  exact t_ret (by first | rfl | simp only [ml] <;> rfl)
 ·conv => lhs; whnf
  refine t_cond ?_ ?_
  ·conv => lhs; whnf
   exact t_ret (by first | rfl | simp only [ml] <;> rfl)
  ·conv => lhs; whnf
   exact t_ret (by first | rfl | simp only [ml] <;> rfl)
noncomputable def laws_eTurn (L : Nat) (a_0 : Int) (a_1 : Int) (b_0 : Int) (b_1 : Int) (c_0 : Int) (c_1 : Int) : Option (Int) := some (wr IntKind.i64 (isub (wr IntKind.i64 (imul (wr IntKind.i64 (isub b_0 a_0)) (wr IntKind.i64 (isub c_1 a_1)))) (wr IntKind.i64 (imul (wr IntKind.i64 (isub b_1 a_1)) (wr IntKind.i64 (isub c_0 a_0))))))
def laws_eTurn_ok (L : Nat) (C : CF) : Prop := ∀ (a_0 : Int) (a_1 : Int) (b_0 : Int) (b_1 : Int) (c_0 : Int) (c_1 : Int), C 24 ([.agg [.int .i64 a_0, .int .i64 a_1], .agg [.int .i64 b_0, .int .i64 b_1], .agg [.int .i64 c_0, .int .i64 c_1]]) ([]) = Option.map (fun r : Int => ((.int .i64 r, []) : AV × List Blk)) (laws_eTurn L a_0 a_1 b_0 b_1 c_0 c_1)
theorem laws_eTurn_run (L : Nat) (C : CF) : ∀ (a_0 : Int) (a_1 : Int) (b_0 : Int) (b_1 : Int) (c_0 : Int) (c_1 : Int), run T C sh (keep 24) L Tryz.f24 ([.agg [.int .i64 a_0, .int .i64 a_1], .agg [.int .i64 b_0, .int .i64 b_1], .agg [.int .i64 c_0, .int .i64 c_1]]) ([]) = Option.map (fun r : Int => ((.int .i64 r, []) : AV × List Blk)) (laws_eTurn L a_0 a_1 b_0 b_1 c_0 c_1) := by
 intro a_0 a_1 b_0 b_1 c_0 c_1
 unfold laws_eTurn
 conv => lhs; whnf
 exact t_ret (by first | rfl | simp only [ml] <;> rfl)
noncomputable def impl_InBand (L : Nat) (a : List Pt) (b_0 : Int) (b_1 : Int) : Option (Bool × Bool) := gbind (impl_AreDifferent L a) fun r => bif !r then (some ((false, false))) else (gbind (impl_IsPeg L b_0 b_1) fun r1 => bif !r1 then (some ((false, false))) else (gbind (impl_band L a) fun r2 => gbind (impl_bandWhere L r2 b_0 b_1) fun r3 => some ((ile 0 r3, true))))
def impl_InBand_ok (L : Nat) (C : CF) : Prop := ∀ (oa : Bool) (ca : Bool) (x_a : List AV) (a : List Pt) (_ : x_a = List.map ep a) (b_0 : Int) (b_1 : Int), C 25 ([.lst oa ca 2 x_a, .agg [.int .i64 b_0, .int .i64 b_1]]) ([]) = Option.map (fun r : Bool × Bool => ((.tup [.bool (r.1), .bool (r.2)], []) : AV × List Blk)) (impl_InBand L a b_0 b_1)
theorem impl_InBand_run (L : Nat) (C : CF) (h_impl_IsPeg : impl_IsPeg_ok L C) (h_impl_AreDifferent : impl_AreDifferent_ok L C) (h_impl_band : impl_band_ok L C) (h_impl_bandWhere : impl_bandWhere_ok L C) : ∀ (oa : Bool) (ca : Bool) (x_a : List AV) (a : List Pt) (_ : x_a = List.map ep a) (b_0 : Int) (b_1 : Int), run T C sh (keep 25) L Tryz.f25 ([.lst oa ca 2 x_a, .agg [.int .i64 b_0, .int .i64 b_1]]) ([]) = Option.map (fun r : Bool × Bool => ((.tup [.bool (r.1), .bool (r.2)], []) : AV × List Blk)) (impl_InBand L a b_0 b_1) := by
 intro oa ca x_a a hx_a b_0 b_1
 subst hx_a
 unfold impl_InBand
 conv => lhs; whnf
 refine t_call (h_impl_AreDifferent _ _ _ a (by first | rfl | simp only [ml] <;> rfl)) fun r => ?_
 conv => lhs; whnf
 refine t_cond ?_ ?_
 ·conv => lhs; whnf
  exact t_ret (by first | rfl | simp only [ml] <;> rfl)
 ·conv => lhs; whnf
  refine t_call (h_impl_IsPeg b_0 b_1) fun r1 => ?_
  conv => lhs; whnf
  refine t_cond ?_ ?_
  ·conv => lhs; whnf
   exact t_ret (by first | rfl | simp only [ml] <;> rfl)
  ·conv => lhs; whnf
   refine t_call (h_impl_band _ _ _ a (by first | rfl | simp only [ml] <;> rfl)) fun r2 => ?_
   conv => lhs; whnf
   refine t_call (h_impl_bandWhere _ _ _ r2 (by first | rfl | simp only [ml] <;> rfl) b_0 b_1) fun r3 => ?_
   conv => lhs; whnf
   exact t_ret (by first | rfl | simp only [ml] <;> rfl)
noncomputable def impl_LayerOfPeg_1_v2 (L : Nat) (a : List Pt) (b_0 : Int) (b_1 : Int) : Option (Bool) := gbind (slices_Contains_impl_Peg_impl_Peg L a b_0 b_1) fun r => some r
def impl_LayerOfPeg_1_v2_ok (L : Nat) (C : CF) : Prop := ∀ (x_a : List AV) (a : List Pt) (_ : x_a = List.map ep a) (b_0 : Int) (b_1 : Int), C 56 ([(.lst false false 2 x_a), (.at (.agg [(.int .i64 b_0), (.int .i64 b_1)]) 0)]) ([]) = Option.map (fun r : Bool => ((.bool r, []) : AV × List Blk)) (impl_LayerOfPeg_1_v2 L a b_0 b_1)
theorem impl_LayerOfPeg_1_v2_run (L : Nat) (C : CF) (h_slices_Contains_impl_Peg_impl_Peg : slices_Contains_impl_Peg_impl_Peg_ok L C) : ∀ (x_a : List AV) (a : List Pt) (_ : x_a = List.map ep a) (b_0 : Int) (b_1 : Int), run T C sh (keep 56) L Tryz.f56 ([(.lst false false 2 x_a), (.at (.agg [(.int .i64 b_0), (.int .i64 b_1)]) 0)]) ([]) = Option.map (fun r : Bool => ((.bool r, []) : AV × List Blk)) (impl_LayerOfPeg_1_v2 L a b_0 b_1) := by
 intro x_a a hx_a b_0 b_1
 subst hx_a
 unfold impl_LayerOfPeg_1_v2
 conv => lhs; whnf
 refine t_call (h_slices_Contains_impl_Peg_impl_Peg _ _ _ a (by first | rfl | simp only [ml] <;> rfl) b_0 b_1) fun r => ?_
 conv => lhs; whnf
 exact t_ret (by first | rfl | simp only [ml] <;> rfl)
noncomputable def slices_IndexFunc_impl_Peg_impl_Peg_impl_LayerOfPeg_1_l0 (L : Nat) (a : List (List Pt)) (b_c0_0 : Int) (b_c0_1 : Int) : Nat → Int → Option Int
  | 0, _ => none
  | m + 1, v8 => bif ilt v8 (ilen (List.map eLP a)) then (gbind (lget a v8) fun p => gbind (impl_LayerOfPeg_1_v2 L p b_c0_0 b_c0_1) fun r => bif r then (some v8) else (slices_IndexFunc_impl_Peg_impl_Peg_impl_LayerOfPeg_1_l0 L a b_c0_0 b_c0_1 m (wr IntKind.i64 (iadd v8 1)))) else (some (-1))
noncomputable def slices_IndexFunc_impl_Peg_impl_Peg_impl_LayerOfPeg_1 (L : Nat) (a : List (List Pt)) (b_c0_0 : Int) (b_c0_1 : Int) : Option (Int) := slices_IndexFunc_impl_Peg_impl_Peg_impl_LayerOfPeg_1_l0 L a b_c0_0 b_c0_1 L 0
def slices_IndexFunc_impl_Peg_impl_Peg_impl_LayerOfPeg_1_ok (L : Nat) (C : CF) : Prop := ∀ (x_a : List AV) (a : List (List Pt)) (_ : x_a = List.map eLP a) (b_c0_0 : Int) (b_c0_1 : Int), C 55 ([(.lst true false 1 x_a), (.fn 56 [] [(.at (.agg [(.int .i64 b_c0_0), (.int .i64 b_c0_1)]) 0)])]) ([]) = Option.map (fun r : Int => ((.int .i64 r, []) : AV × List Blk)) (slices_IndexFunc_impl_Peg_impl_Peg_impl_LayerOfPeg_1 L a b_c0_0 b_c0_1)
theorem slices_IndexFunc_impl_Peg_impl_Peg_impl_LayerOfPeg_1_run (L : Nat) (C : CF) (h_impl_LayerOfPeg_1_v2 : impl_LayerOfPeg_1_v2_ok L C) : ∀ (x_a : List AV) (a : List (List Pt)) (_ : x_a = List.map eLP a) (b_c0_0 : Int) (b_c0_1 : Int), run T C sh (keep 55) L Tryz.f55 ([(.lst true false 1 x_a), (.fn 56 [] [(.at (.agg [(.int .i64 b_c0_0), (.int .i64 b_c0_1)]) 0)])]) ([]) = Option.map (fun r : Int => ((.int .i64 r, []) : AV × List Blk)) (slices_IndexFunc_impl_Peg_impl_Peg_impl_LayerOfPeg_1 L a b_c0_0 b_c0_1) := by
 intro x_a a hx_a b_c0_0 b_c0_1
 subst hx_a
 unfold slices_IndexFunc_impl_Peg_impl_Peg_impl_LayerOfPeg_1
 conv => lhs; whnf
 refine t_loop (fun (v8 : Int) => (AV.lst true false 1 (List.map eLP a) :: AV.fn 56 [] [AV.at (AV.agg [AV.int IntKind.i64 b_c0_0, AV.int IntKind.i64 b_c0_1]) 0] :: topA 5 (AV.int IntKind.i64 (ilen (List.map eLP a)) :: AV.int IntKind.i64 v8 :: tops 10), [])) (fun m (v8 : Int) => slices_IndexFunc_impl_Peg_impl_Peg_impl_LayerOfPeg_1_l0 L a b_c0_0 b_c0_1 m v8) (fun _ => rfl) (fun m v8 rec hrec => ?_) L 0 ?_ ?_
 rotate_left
 ·first | rfl | simp only [ml] <;> rfl
 ·first | rfl | simp only [ml] <;> rfl
 show _ = Option.map _ (slices_IndexFunc_impl_Peg_impl_Peg_impl_LayerOfPeg_1_l0 L a b_c0_0 b_c0_1 (m + 1) v8)
 rw [slices_IndexFunc_impl_Peg_impl_Peg_impl_LayerOfPeg_1_l0.eq_2]
 conv => lhs; whnf
 refine t_cond ?_ ?_
 ·conv => lhs; whnf
  refine t_get (en := eLP) (l := a) (by first | rfl | simp only [ml] <;> rfl) fun p => ?_
  conv => lhs; whnf
  refine t_call (h_impl_LayerOfPeg_1_v2 _ p (by first | rfl | simp only [ml] <;> rfl) b_c0_0 b_c0_1) fun r => ?_
  conv => lhs; whnf
  refine t_cond ?_ ?_
  ·conv => lhs; whnf
   exact t_ret (by first | rfl | simp only [ml] <;> rfl)
  ·conv => lhs; whnf
   exact hrec (wr IntKind.i64 (iadd v8 1)) _ _ (by first | rfl | simp only [ml] <;> rfl) (by first | rfl | simp only [ml] <;> rfl)
 ·conv => lhs; whnf
  exact t_ret (by first | rfl | simp only [ml] <;> rfl)
noncomputable def impl_LayerOfPeg (L : Nat) (a : List Pt) (b_0 : Int) (b_1 : Int) : Option (Int × Bool) := gbind (impl_LayersOf L a) fun r => gbind (slices_IndexFunc_impl_Peg_impl_Peg_impl_LayerOfPeg_1 L (Prod.fst r) b_0 b_1) fun r1 => bif Prod.snd r then (some ((wr IntKind.i64 (iadd r1 1), ile 0 r1))) else (some ((wr IntKind.i64 (iadd r1 1), false)))
def impl_LayerOfPeg_ok (L : Nat) (C : CF) : Prop := ∀ (oa : Bool) (ca : Bool) (x_a : List AV) (a : List Pt) (_ : x_a = List.map ep a) (b_0 : Int) (b_1 : Int), C 26 ([.lst oa ca 2 x_a, .agg [.int .i64 b_0, .int .i64 b_1]]) ([]) = Option.map (fun r : Int × Bool => ((.tup [.int .i64 (r.1), .bool (r.2)], []) : AV × List Blk)) (impl_LayerOfPeg L a b_0 b_1)
theorem impl_LayerOfPeg_run (L : Nat) (C : CF) (h_impl_LayersOf : impl_LayersOf_ok L C) (h_slices_IndexFunc_impl_Peg_impl_Peg_impl_LayerOfPeg_1 : slices_IndexFunc_impl_Peg_impl_Peg_impl_LayerOfPeg_1_ok L C) : ∀ (oa : Bool) (ca : Bool) (x_a : List AV) (a : List Pt) (_ : x_a = List.map ep a) (b_0 : Int) (b_1 : Int), run T C sh (keep 26) L Tryz.f26 ([.lst oa ca 2 x_a, .agg [.int .i64 b_0, .int .i64 b_1]]) ([]) = Option.map (fun r : Int × Bool => ((.tup [.int .i64 (r.1), .bool (r.2)], []) : AV × List Blk)) (impl_LayerOfPeg L a b_0 b_1) := by
 intro oa ca x_a a hx_a b_0 b_1
 subst hx_a
 unfold impl_LayerOfPeg
 conv => lhs; whnf
 refine t_call (h_impl_LayersOf _ _ _ a (by first | rfl | simp only [ml] <;> rfl)) fun r => ?_
 conv => lhs; whnf
 refine t_call (h_slices_IndexFunc_impl_Peg_impl_Peg_impl_LayerOfPeg_1 _ (Prod.fst r) (by first | rfl | simp only [ml] <;> rfl) b_0 b_1) fun r1 => ?_
 conv => lhs; whnf
 refine t_cond ?_ ?_
 ·conv => lhs; whnf
  exact t_ret (by first | rfl | simp only [ml] <;> rfl)
 ·conv => lhs; whnf
  exact t_ret (by first | rfl | simp only [ml] <;> rfl)
noncomputable def impl_sign (L : Nat) (a : Int) : Option (Int) := some (imin 1 (imax (-1) a))
def impl_sign_ok (L : Nat) (C : CF) : Prop := ∀ (a : Int), C 100 ([.int .i64 a]) ([]) = Option.map (fun r : Int => ((.int .i64 r, []) : AV × List Blk)) (impl_sign L a)
theorem impl_sign_run (L : Nat) (C : CF) : ∀ (a : Int), run T C sh (keep 100) L Tryz.f100 ([.int .i64 a]) ([]) = Option.map (fun r : Int => ((.int .i64 r, []) : AV × List Blk)) (impl_sign L a) := by
 intro a
 unfold impl_sign
 conv => lhs; whnf
 exact t_ret (by first | rfl | simp only [ml] <;> rfl)
noncomputable def impl_meet (L : Nat) (a_0 : Int) (a_1 : Int) (b_0 : Int) (b_1 : Int) (c_0 : Int) (c_1 : Int) (d_0 : Int) (d_1 : Int) : Option (Bool) := gbind (impl_turn L a_0 a_1 b_0 b_1 c_0 c_1) fun r => gbind (impl_sign L r) fun r1 => gbind (impl_turn L a_0 a_1 b_0 b_1 d_0 d_1) fun r2 => gbind (impl_sign L r2) fun r3 => bif ilt (wr IntKind.i64 (imul r1 r3)) 0 then (gbind (impl_turn L c_0 c_1 d_0 d_1 a_0 a_1) fun r4 => gbind (impl_sign L r4) fun r5 => gbind (impl_turn L c_0 c_1 d_0 d_1 b_0 b_1) fun r6 => gbind (impl_sign L r6) fun r7 => bif ilt (wr IntKind.i64 (imul r5 r7)) 0 then (some true) else (gbind (impl_isOn L a_0 a_1 b_0 b_1 c_0 c_1) fun r8 => bif r8 then (some true) else (gbind (impl_isOn L a_0 a_1 b_0 b_1 d_0 d_1) fun r9 => bif r9 then (some true) else (gbind (impl_isOn L c_0 c_1 d_0 d_1 a_0 a_1) fun r10 => bif r10 then (some true) else (gbind (impl_isOn L c_0 c_1 d_0 d_1 b_0 b_1) fun r11 => some r11))))) else (gbind (impl_isOn L a_0 a_1 b_0 b_1 c_0 c_1) fun r12 => bif r12 then (some true) else (gbind (impl_isOn L a_0 a_1 b_0 b_1 d_0 d_1) fun r13 => bif r13 then (some true) else (gbind (impl_isOn L c_0 c_1 d_0 d_1 a_0 a_1) fun r14 => bif r14 then (some true) else (gbind (impl_isOn L c_0 c_1 d_0 d_1 b_0 b_1) fun r15 => some r15))))
def impl_meet_ok (L : Nat) (C : CF) : Prop := ∀ (a_0 : Int) (a_1 : Int) (b_0 : Int) (b_1 : Int) (c_0 : Int) (c_1 : Int) (d_0 : Int) (d_1 : Int), C 84 ([.agg [.int .i64 a_0, .int .i64 a_1], .agg [.int .i64 b_0, .int .i64 b_1], .agg [.int .i64 c_0, .int .i64 c_1], .agg [.int .i64 d_0, .int .i64 d_1]]) ([]) = Option.map (fun r : Bool => ((.bool r, []) : AV × List Blk)) (impl_meet L a_0 a_1 b_0 b_1 c_0 c_1 d_0 d_1)
theorem impl_meet_run (L : Nat) (C : CF) (h_impl_turn : impl_turn_ok L C) (h_impl_isOn : impl_isOn_ok L C) (h_impl_sign : impl_sign_ok L C) : ∀ (a_0 : Int) (a_1 : Int) (b_0 : Int) (b_1 : Int) (c_0 : Int) (c_1 : Int) (d_0 : Int) (d_1 : Int), run T C sh (keep 84) L Tryz.f84 ([.agg [.int .i64 a_0, .int .i64 a_1], .agg [.int .i64 b_0, .int .i64 b_1], .agg [.int .i64 c_0, .int .i64 c_1], .agg [.int .i64 d_0, .int .i64 d_1]]) ([]) = Option.map (fun r : Bool => ((.bool r, []) : AV × List Blk)) (impl_meet L a_0 a_1 b_0 b_1 c_0 c_1 d_0 d_1) := by
 intro a_0 a_1 b_0 b_1 c_0 c_1 d_0 d_1
 unfold impl_meet
 conv => lhs; whnf
 refine t_call (h_impl_turn a_0 a_1 b_0 b_1 c_0 c_1) fun r => ?_
 conv => lhs; whnf
 refine t_call (h_impl_sign r) fun r1 => ?_
 conv => lhs; whnf
 refine t_call (h_impl_turn a_0 a_1 b_0 b_1 d_0 d_1) fun r2 => ?_
 conv => lhs; whnf
 refine t_call (h_impl_sign r2) fun r3 => ?_
 conv => lhs; whnf
 refine t_cond ?_ ?_
 ·conv => lhs; whnf
  refine t_call (h_impl_turn c_0 c_1 d_0 d_1 a_0 a_1) fun r4 => ?_
  conv => lhs; whnf
  refine t_call (h_impl_sign r4) fun r5 => ?_
  conv => lhs; whnf
  refine t_call (h_impl_turn c_0 c_1 d_0 d_1 b_0 b_1) fun r6 => ?_
  conv => lhs; whnf
  refine t_call (h_impl_sign r6) fun r7 => ?_
  conv => lhs; whnf
  refine t_cond ?_ ?_
  ·conv => lhs; whnf
   exact t_ret (by first | rfl | simp only [ml] <;> rfl)
  ·conv => lhs; whnf
   refine t_call (h_impl_isOn a_0 a_1 b_0 b_1 c_0 c_1) fun r8 => ?_
   conv => lhs; whnf
   refine t_cond ?_ ?_
   ·conv => lhs; whnf
    exact t_ret (by first | rfl | simp only [ml] <;> rfl)
   ·conv => lhs; whnf
    refine t_call (h_impl_isOn a_0 a_1 b_0 b_1 d_0 d_1) fun r9 => ?_
    conv => lhs; whnf
    refine t_cond ?_ ?_
    ·conv => lhs; whnf
     exact t_ret (by first | rfl | simp only [ml] <;> rfl)
    ·conv => lhs; whnf
     refine t_call (h_impl_isOn c_0 c_1 d_0 d_1 a_0 a_1) fun r10 => ?_
     conv => lhs; whnf
     refine t_cond ?_ ?_
     ·conv => lhs; whnf
      exact t_ret (by first | rfl | simp only [ml] <;> rfl)
     ·conv => lhs; whnf
      refine t_call (h_impl_isOn c_0 c_1 d_0 d_1 b_0 b_1) fun r11 => ?_
      conv => lhs; whnf
      exact t_ret (by first | rfl | simp only [ml] <;> rfl)
 ·conv => lhs; whnf
  refine t_call (h_impl_isOn a_0 a_1 b_0 b_1 c_0 c_1) fun r12 => ?_
  conv => lhs; whnf
  refine t_cond ?_ ?_
  ·conv => lhs; whnf
   exact t_ret (by first | rfl | simp only [ml] <;> rfl)
  ·conv => lhs; whnf
   refine t_call (h_impl_isOn a_0 a_1 b_0 b_1 d_0 d_1) fun r13 => ?_
   conv => lhs; whnf
   refine t_cond ?_ ?_
   ·conv => lhs; whnf
    exact t_ret (by first | rfl | simp only [ml] <;> rfl)
   ·conv => lhs; whnf
    refine t_call (h_impl_isOn c_0 c_1 d_0 d_1 a_0 a_1) fun r14 => ?_
    conv => lhs; whnf
    refine t_cond ?_ ?_
    ·conv => lhs; whnf
     exact t_ret (by first | rfl | simp only [ml] <;> rfl)
    ·conv => lhs; whnf
     refine t_call (h_impl_isOn c_0 c_1 d_0 d_1 b_0 b_1) fun r15 => ?_
     conv => lhs; whnf
     exact t_ret (by first | rfl | simp only [ml] <;> rfl)
noncomputable def impl_IsPolygon_l1 (L : Nat) (κ0 : (List Pt) → Int → (List Pt) → Int → Int → Option Bool) (v0 : List Pt) (v3 : Int) (v17 : List Pt) (v18 : Int) (v19 : Int) (p : Pt) : Nat → Int → Option Bool
  | 0, _ => none
  | m1 + 1, v43 => bif ilt v43 v19 then (bif ieq (wr IntKind.i64 (iadd v43 1)) v19 then (impl_IsPolygon_l1 L κ0 v0 v3 v17 v18 v19 p m1 (wr IntKind.i64 (iadd v43 1))) else (bif ieq (wr IntKind.i64 (iadd v19 1)) v3 then (bif ieq v43 0 then (impl_IsPolygon_l1 L κ0 v0 v3 v17 v18 v19 p m1 (wr IntKind.i64 (iadd v43 1))) else (gbind (lget v0 v43) fun p1 => gbind (lget v0 (wr IntKind.i64 (iadd v43 1))) fun p2 => gbind (impl_at L v0 (wr IntKind.i64 (iadd v19 1))) fun r6 => gbind (impl_meet L (Pt.x p1) (Pt.y p1) (Pt.x p2) (Pt.y p2) (Pt.x p) (Pt.y p) (Prod.fst r6) (Prod.snd r6)) fun r7 => bif r7 then (some false) else (impl_IsPolygon_l1 L κ0 v0 v3 v17 v18 v19 p m1 (wr IntKind.i64 (iadd v43 1))))) else (gbind (lget v0 v43) fun p3 => gbind (lget v0 (wr IntKind.i64 (iadd v43 1))) fun p4 => gbind (impl_at L v0 (wr IntKind.i64 (iadd v19 1))) fun r8 => gbind (impl_meet L (Pt.x p3) (Pt.y p3) (Pt.x p4) (Pt.y p4) (Pt.x p) (Pt.y p) (Prod.fst r8) (Prod.snd r8)) fun r9 => bif r9 then (some false) else (impl_IsPolygon_l1 L κ0 v0 v3 v17 v18 v19 p m1 (wr IntKind.i64 (iadd v43 1)))))) else (κ0 v0 v3 v17 v18 (wr IntKind.i64 (iadd v19 1)))
noncomputable def impl_IsPolygon_l0 (L : Nat) : Nat → (List Pt) → Int → (List Pt) → Int → Int → Option Bool
  | 0, _, _, _, _, _ => none
  | m + 1, v0, v3, v17, v18, v19 => bif ilt v19 v18 then (gbind (lget v17 v19) fun p => bif ile 0 v19 && ile v19 (ilen (List.map ep v0)) then (gbind (slices_Contains_impl_Peg_impl_Peg L (lsub v0 0 v19) (Pt.x p) (Pt.y p)) fun r2 => bif r2 then (some false) else (gbind (impl_at L v0 (wr IntKind.i64 (isub v19 1))) fun r3 => gbind (impl_at L v0 (wr IntKind.i64 (iadd v19 1))) fun r4 => gbind (impl_turn L (Prod.fst r3) (Prod.snd r3) (Pt.x p) (Pt.y p) (Prod.fst r4) (Prod.snd r4)) fun r5 => bif ieq r5 0 then (some false) else (impl_IsPolygon_l1 L (impl_IsPolygon_l0 L m) v0 v3 v17 v18 v19 p L 0))) else (none)) else (some true)
noncomputable def impl_IsPolygon (L : Nat) (a : List Pt) : Option (Bool) := gbind (impl_within L (ilen (List.map ep a)) 3 10) fun r => bif !r then (some false) else (gbind (impl_arePegs L a) fun r1 => bif !r1 then (some false) else (impl_IsPolygon_l0 L L a (ilen (List.map ep a)) a (ilen (List.map ep a)) 0))
def impl_IsPolygon_ok (L : Nat) (C : CF) : Prop := ∀ (oa : Bool) (ca : Bool) (x_a : List AV) (a : List Pt) (_ : x_a = List.map ep a), C 57 ([.lst oa ca 2 x_a]) ([]) = Option.map (fun r : Bool => ((.bool r, []) : AV × List Blk)) (impl_IsPolygon L a)
theorem impl_IsPolygon_run (L : Nat) (C : CF) (h_impl_within : impl_within_ok L C) (h_impl_arePegs : impl_arePegs_ok L C) (h_slices_Contains_impl_Peg_impl_Peg : slices_Contains_impl_Peg_impl_Peg_ok L C) (h_impl_turn : impl_turn_ok L C) (h_impl_at : impl_at_ok L C) (h_impl_meet : impl_meet_ok L C) : ∀ (oa : Bool) (ca : Bool) (x_a : List AV) (a : List Pt) (_ : x_a = List.map ep a), run T C sh (keep 57) L Tryz.f57 ([.lst oa ca 2 x_a]) ([]) = Option.map (fun r : Bool => ((.bool r, []) : AV × List Blk)) (impl_IsPolygon L a) := by
 intro oa ca x_a a hx_a
 subst hx_a
 unfold impl_IsPolygon
 conv => lhs; whnf
 refine t_call (h_impl_within (ilen (List.map ep a)) 3 10) fun r => ?_
 conv => lhs; whnf
 refine t_cond ?_ ?_
 ·conv => lhs; whnf
  exact t_ret (by first | rfl | simp only [ml] <;> rfl)
 ·conv => lhs; whnf
  refine t_call (h_impl_arePegs _ _ _ a (by first | rfl | simp only [ml] <;> rfl)) fun r1 => ?_
  conv => lhs; whnf
  refine t_cond ?_ ?_
  ·conv => lhs; whnf
   exact t_ret (by first | rfl | simp only [ml] <;> rfl)
  ·conv => lhs; whnf
   refine t_loop (fun (⟨v0, v3, v17, v18, v19⟩ : (List Pt) × Int × (List Pt) × Int × Int) => (AV.lst oa ca 2 (List.map ep v0) :: topA 2 (AV.int IntKind.i64 v3 :: topA 13 (AV.lst oa ca 2 (List.map ep v17) :: AV.int IntKind.i64 v18 :: AV.int IntKind.i64 v19 :: tops 57)), [])) (fun m (⟨v0, v3, v17, v18, v19⟩ : (List Pt) × Int × (List Pt) × Int × Int) => impl_IsPolygon_l0 L m v0 v3 v17 v18 v19) (fun _ => rfl) (fun m s rec hrec => ?_) L ((a, ilen (List.map ep a), a, ilen (List.map ep a), 0)) ?_ ?_
   rotate_left
   ·first | rfl | simp only [ml] <;> rfl
   ·first | rfl | simp only [ml] <;> rfl
   obtain ⟨v0, v3, v17, v18, v19⟩ := s
   show _ = Option.map _ (impl_IsPolygon_l0 L (m + 1) v0 v3 v17 v18 v19)
   rw [impl_IsPolygon_l0.eq_2]
   conv => lhs; whnf
   refine t_cond ?_ ?_
   ·conv => lhs; whnf
    refine t_get (en := ep) (l := v17) (by first | rfl | simp only [ml] <;> rfl) fun p => ?_
    conv => lhs; whnf
    refine t_cond ?_ ?_
    ·conv => lhs; whnf
     refine t_call (h_slices_Contains_impl_Peg_impl_Peg _ _ _ (lsub v0 0 v19) (by first | rfl | simp only [ml] <;> rfl) (Pt.x p) (Pt.y p)) fun r2 => ?_
     conv => lhs; whnf
     refine t_cond ?_ ?_
     ·conv => lhs; whnf
      exact t_ret (by first | rfl | simp only [ml] <;> rfl)
     ·conv => lhs; whnf
      refine t_call (h_impl_at _ _ _ v0 (by first | rfl | simp only [ml] <;> rfl) (wr IntKind.i64 (isub v19 1))) fun r3 => ?_
      conv => lhs; whnf
      refine t_call (h_impl_at _ _ _ v0 (by first | rfl | simp only [ml] <;> rfl) (wr IntKind.i64 (iadd v19 1))) fun r4 => ?_
      conv => lhs; whnf
      refine t_call (h_impl_turn (Prod.fst r3) (Prod.snd r3) (Pt.x p) (Pt.y p) (Prod.fst r4) (Prod.snd r4)) fun r5 => ?_
      conv => lhs; whnf
      refine t_cond ?_ ?_
      ·conv => lhs; whnf
       exact t_ret (by first | rfl | simp only [ml] <;> rfl)
      ·conv => lhs; whnf
       refine t_loop (fun (v43 : Int) => (AV.lst oa ca 2 (List.map ep v0) :: topA 2 (AV.int IntKind.i64 v3 :: AV.int IntKind.i64 v19 :: AV.ptr 0 0 0 2 :: topA 11 (AV.lst oa ca 2 (List.map ep v17) :: AV.int IntKind.i64 v18 :: AV.int IntKind.i64 v19 :: topA 22 (AV.int IntKind.i64 v19 :: AV.int IntKind.i64 v43 :: tops 33))), [Blk.box (AV.agg [AV.int IntKind.i64 (Pt.x p), AV.int IntKind.i64 (Pt.y p)])])) (fun m1 (v43 : Int) => impl_IsPolygon_l1 L (impl_IsPolygon_l0 L m) v0 v3 v17 v18 v19 p m1 v43) (fun _ => rfl) (fun m1 v43 rec1 hrec1 => ?_) L 0 ?_ ?_
       rotate_left
       ·first | rfl | simp only [ml] <;> rfl
       ·first | rfl | simp only [ml] <;> rfl
       show _ = Option.map _ (impl_IsPolygon_l1 L (impl_IsPolygon_l0 L m) v0 v3 v17 v18 v19 p (m1 + 1) v43)
       rw [impl_IsPolygon_l1.eq_2]
       conv => lhs; whnf
       refine t_cond ?_ ?_
       ·conv => lhs; whnf
        refine t_cond ?_ ?_
        ·conv => lhs; whnf
         exact hrec1 (wr IntKind.i64 (iadd v43 1)) _ _ (by first | rfl | simp only [ml] <;> rfl) (by first | rfl | simp only [ml] <;> rfl)
        ·conv => lhs; whnf
         refine t_cond ?_ ?_
         ·conv => lhs; whnf
          refine t_cond ?_ ?_
          ·conv => lhs; whnf
           exact hrec1 (wr IntKind.i64 (iadd v43 1)) _ _ (by first | rfl | simp only [ml] <;> rfl) (by first | rfl | simp only [ml] <;> rfl)
          ·conv => lhs; whnf
           refine t_get (en := ep) (l := v0) (by first | rfl | simp only [ml] <;> rfl) fun p1 => ?_
           conv => lhs; whnf
           refine t_get (en := ep) (l := v0) (by first | rfl | simp only [ml] <;> rfl) fun p2 => ?_
           conv => lhs; whnf
           refine t_call (h_impl_at _ _ _ v0 (by first | rfl | simp only [ml] <;> rfl) (wr IntKind.i64 (iadd v19 1))) fun r6 => ?_
           conv => lhs; whnf
           refine t_call (h_impl_meet (Pt.x p1) (Pt.y p1) (Pt.x p2) (Pt.y p2) (Pt.x p) (Pt.y p) (Prod.fst r6) (Prod.snd r6)) fun r7 => ?_
           conv => lhs; whnf
           refine t_cond ?_ ?_
           ·conv => lhs; whnf
            exact t_ret (by first | rfl | simp only [ml] <;> rfl)
           ·conv => lhs; whnf
            exact hrec1 (wr IntKind.i64 (iadd v43 1)) _ _ (by first | rfl | simp only [ml] <;> rfl) (by first | rfl | simp only [ml] <;> rfl)
         ·conv => lhs; whnf
          refine t_get (en := ep) (l := v0) (by first | rfl | simp only [ml] <;> rfl) fun p3 => ?_
          conv => lhs; whnf
          refine t_get (en := ep) (l := v0) (by first | rfl | simp only [ml] <;> rfl) fun p4 => ?_
          conv => lhs; whnf
          refine t_call (h_impl_at _ _ _ v0 (by first | rfl | simp only [ml] <;> rfl) (wr IntKind.i64 (iadd v19 1))) fun r8 => ?_
          conv => lhs; whnf
          refine t_call (h_impl_meet (Pt.x p3) (Pt.y p3) (Pt.x p4) (Pt.y p4) (Pt.x p) (Pt.y p) (Prod.fst r8) (Prod.snd r8)) fun r9 => ?_
          conv => lhs; whnf
          refine t_cond ?_ ?_
          ·conv => lhs; whnf
           exact t_ret (by first | rfl | simp only [ml] <;> rfl)
          ·conv => lhs; whnf
           exact hrec1 (wr IntKind.i64 (iadd v43 1)) _ _ (by first | rfl | simp only [ml] <;> rfl) (by first | rfl | simp only [ml] <;> rfl)
       ·conv => lhs; whnf
        exact hrec ((v0, v3, v17, v18, wr IntKind.i64 (iadd v19 1))) _ _ (by first | rfl | simp only [ml] <;> rfl) (by first | rfl | simp only [ml] <;> rfl)
    ·conv => lhs; whnf
     exact t_none
   ·conv => lhs; whnf
    exact t_ret (by first | rfl | simp only [ml] <;> rfl)
noncomputable def impl_TwiceArea (L : Nat) (a : List Pt) : Option (Int × Bool) := gbind (impl_IsPolygon L a) fun r => bif !r then (some ((0, false))) else (gbind (impl_twice L a) fun r1 => some ((r1, true)))
def impl_TwiceArea_ok (L : Nat) (C : CF) : Prop := ∀ (oa : Bool) (ca : Bool) (x_a : List AV) (a : List Pt) (_ : x_a = List.map ep a), C 27 ([.lst oa ca 2 x_a]) ([]) = Option.map (fun r : Int × Bool => ((.tup [.int .i64 (r.1), .bool (r.2)], []) : AV × List Blk)) (impl_TwiceArea L a)
theorem impl_TwiceArea_run (L : Nat) (C : CF) (h_impl_twice : impl_twice_ok L C) (h_impl_IsPolygon : impl_IsPolygon_ok L C) : ∀ (oa : Bool) (ca : Bool) (x_a : List AV) (a : List Pt) (_ : x_a = List.map ep a), run T C sh (keep 27) L Tryz.f27 ([.lst oa ca 2 x_a]) ([]) = Option.map (fun r : Int × Bool => ((.tup [.int .i64 (r.1), .bool (r.2)], []) : AV × List Blk)) (impl_TwiceArea L a) := by
 intro oa ca x_a a hx_a
 subst hx_a
 unfold impl_TwiceArea
 conv => lhs; whnf
 refine t_call (h_impl_IsPolygon _ _ _ a (by first | rfl | simp only [ml] <;> rfl)) fun r => ?_
 conv => lhs; whnf
 refine t_cond ?_ ?_
 ·conv => lhs; whnf
  exact t_ret (by first | rfl | simp only [ml] <;> rfl)
 ·conv => lhs; whnf
  refine t_call (h_impl_twice _ _ _ a (by first | rfl | simp only [ml] <;> rfl)) fun r1 => ?_
  conv => lhs; whnf
  exact t_ret (by first | rfl | simp only [ml] <;> rfl)
noncomputable def impl_PegsOn (L : Nat) (a : List Pt) : Option (Int × Bool) := gbind (impl_IsPolygon L a) fun r => bif !r then (some ((0, false))) else (gbind (impl_around L a) fun r1 => some ((r1, true)))
def impl_PegsOn_ok (L : Nat) (C : CF) : Prop := ∀ (oa : Bool) (ca : Bool) (x_a : List AV) (a : List Pt) (_ : x_a = List.map ep a), C 28 ([.lst oa ca 2 x_a]) ([]) = Option.map (fun r : Int × Bool => ((.tup [.int .i64 (r.1), .bool (r.2)], []) : AV × List Blk)) (impl_PegsOn L a)
theorem impl_PegsOn_run (L : Nat) (C : CF) (h_impl_around : impl_around_ok L C) (h_impl_IsPolygon : impl_IsPolygon_ok L C) : ∀ (oa : Bool) (ca : Bool) (x_a : List AV) (a : List Pt) (_ : x_a = List.map ep a), run T C sh (keep 28) L Tryz.f28 ([.lst oa ca 2 x_a]) ([]) = Option.map (fun r : Int × Bool => ((.tup [.int .i64 (r.1), .bool (r.2)], []) : AV × List Blk)) (impl_PegsOn L a) := by
 intro oa ca x_a a hx_a
 subst hx_a
 unfold impl_PegsOn
 conv => lhs; whnf
 refine t_call (h_impl_IsPolygon _ _ _ a (by first | rfl | simp only [ml] <;> rfl)) fun r => ?_
 conv => lhs; whnf
 refine t_cond ?_ ?_
 ·conv => lhs; whnf
  exact t_ret (by first | rfl | simp only [ml] <;> rfl)
 ·conv => lhs; whnf
  refine t_call (h_impl_around _ _ _ a (by first | rfl | simp only [ml] <;> rfl)) fun r1 => ?_
  conv => lhs; whnf
  exact t_ret (by first | rfl | simp only [ml] <;> rfl)
noncomputable def impl_inner (L : Nat) (a : List Pt) : Option (Int) := gbind (impl_twice L a) fun r => gbind (impl_size L r) fun r1 => gbind (impl_around L a) fun r2 => bif ieq 2 0 then (none) else (some (wr IntKind.i64 (iquo (wr IntKind.i64 (isub (wr IntKind.i64 (iadd r1 2)) r2)) 2)))
def impl_inner_ok (L : Nat) (C : CF) : Prop := ∀ (oa : Bool) (ca : Bool) (x_a : List AV) (a : List Pt) (_ : x_a = List.map ep a), C 58 ([.lst oa ca 2 x_a]) ([]) = Option.map (fun r : Int => ((.int .i64 r, []) : AV × List Blk)) (impl_inner L a)
theorem impl_inner_run (L : Nat) (C : CF) (h_impl_twice : impl_twice_ok L C) (h_impl_size : impl_size_ok L C) (h_impl_around : impl_around_ok L C) : ∀ (oa : Bool) (ca : Bool) (x_a : List AV) (a : List Pt) (_ : x_a = List.map ep a), run T C sh (keep 58) L Tryz.f58 ([.lst oa ca 2 x_a]) ([]) = Option.map (fun r : Int => ((.int .i64 r, []) : AV × List Blk)) (impl_inner L a) := by
 intro oa ca x_a a hx_a
 subst hx_a
 unfold impl_inner
 conv => lhs; whnf
 refine t_call (h_impl_twice _ _ _ a (by first | rfl | simp only [ml] <;> rfl)) fun r => ?_
 conv => lhs; whnf
 refine t_call (h_impl_size r) fun r1 => ?_
 conv => lhs; whnf
 refine t_call (h_impl_around _ _ _ a (by first | rfl | simp only [ml] <;> rfl)) fun r2 => ?_
 conv => lhs; whnf
 refine t_cond ?_ ?_
 ·conv => lhs; whnf
  exact t_none
 ·conv => lhs; whnf
  exact t_ret (by first | rfl | simp only [ml] <;> rfl)
noncomputable def impl_PegsInside (L : Nat) (a : List Pt) : Option (Int × Bool) := gbind (impl_IsPolygon L a) fun r => bif !r then (some ((0, false))) else (gbind (impl_inner L a) fun r1 => some ((r1, true)))
def impl_PegsInside_ok (L : Nat) (C : CF) : Prop := ∀ (oa : Bool) (ca : Bool) (x_a : List AV) (a : List Pt) (_ : x_a = List.map ep a), C 29 ([.lst oa ca 2 x_a]) ([]) = Option.map (fun r : Int × Bool => ((.tup [.int .i64 (r.1), .bool (r.2)], []) : AV × List Blk)) (impl_PegsInside L a)
theorem impl_PegsInside_run (L : Nat) (C : CF) (h_impl_IsPolygon : impl_IsPolygon_ok L C) (h_impl_inner : impl_inner_ok L C) : ∀ (oa : Bool) (ca : Bool) (x_a : List AV) (a : List Pt) (_ : x_a = List.map ep a), run T C sh (keep 29) L Tryz.f29 ([.lst oa ca 2 x_a]) ([]) = Option.map (fun r : Int × Bool => ((.tup [.int .i64 (r.1), .bool (r.2)], []) : AV × List Blk)) (impl_PegsInside L a) := by
 intro oa ca x_a a hx_a
 subst hx_a
 unfold impl_PegsInside
 conv => lhs; whnf
 refine t_call (h_impl_IsPolygon _ _ _ a (by first | rfl | simp only [ml] <;> rfl)) fun r => ?_
 conv => lhs; whnf
 refine t_cond ?_ ?_
 ·conv => lhs; whnf
  exact t_ret (by first | rfl | simp only [ml] <;> rfl)
 ·conv => lhs; whnf
  refine t_call (h_impl_inner _ _ _ a (by first | rfl | simp only [ml] <;> rfl)) fun r1 => ?_
  conv => lhs; whnf
  exact t_ret (by first | rfl | simp only [ml] <;> rfl)
noncomputable def spec_DrawJoinBands (L : Nat) (a : List Int) : Option ((List Pt) × (List Pt)) := gbind (spec_l1Cur_pegs L a 0 0 6 4) fun r => gbind (spec_l1Cur_pegs L a (Prod.fst (Prod.snd r)) (Prod.snd (Prod.snd r)) 6 4) fun r1 => some ((Prod.fst r, Prod.fst r1))
def spec_DrawJoinBands_ok (L : Nat) (C : CF) : Prop := ∀ (oa : Bool) (ca : Bool) (x_a : List AV) (a : List Int) (_ : x_a = List.map eU a), C 30 ([.lst oa ca 1 x_a]) ([]) = Option.map (fun r : (List Pt) × (List Pt) => ((.tup [.frs 2 (List.map ep (r.1)), .frs 2 (List.map ep (r.2))], []) : AV × List Blk)) (spec_DrawJoinBands L a)
theorem spec_DrawJoinBands_run (L : Nat) (C : CF) (h_spec_l1Cur_pegs : spec_l1Cur_pegs_ok L C) : ∀ (oa : Bool) (ca : Bool) (x_a : List AV) (a : List Int) (_ : x_a = List.map eU a), run T C sh (keep 30) L Tryz.f30 ([.lst oa ca 1 x_a]) ([]) = Option.map (fun r : (List Pt) × (List Pt) => ((.tup [.frs 2 (List.map ep (r.1)), .frs 2 (List.map ep (r.2))], []) : AV × List Blk)) (spec_DrawJoinBands L a) := by
 intro oa ca x_a a hx_a
 subst hx_a
 unfold spec_DrawJoinBands
 conv => lhs; whnf
 refine t_call (h_spec_l1Cur_pegs _ _ _ a (by first | rfl | simp only [ml] <;> rfl) 0 0 6 4) fun r => ?_
 conv => lhs; whnf
 refine t_call (h_spec_l1Cur_pegs _ _ _ a (by first | rfl | simp only [ml] <;> rfl) (Prod.fst (Prod.snd r)) (Prod.snd (Prod.snd r)) 6 4) fun r1 => ?_
 conv => lhs; whnf
 exact t_ret (by first | rfl | simp only [ml] <;> rfl)
noncomputable def slices_Compact_impl_Peg_impl_Peg_l1 (L : Nat) (a : List Pt) (v3 : Int) : Nat → Int → Int → (List Pt) → Option (Int × (List Pt))
  | 0, _, _, _ => none
  | m1 + 1, v31, v5, w0 => bif ilt v5 (isub (ilen (List.map ep a)) v3) then (bif ile 0 v5 && ilt v5 (isub (ilen (List.map ep a)) v3) then (gbind (lget w0 (iadd v3 v5)) fun p2 => bif ile 0 (wr IntKind.i64 (isub v5 1)) && ilt (wr IntKind.i64 (isub v5 1)) (isub (ilen (List.map ep a)) v3) then (gbind (lget w0 (iadd v3 (wr IntKind.i64 (isub v5 1)))) fun p3 => bif !(ieq (Pt.x p2) (Pt.x p3) && ieq (Pt.y p2) (Pt.y p3)) then (bif ile 0 v5 && ilt v5 (isub (ilen (List.map ep a)) v3) then (gbind (lget w0 (iadd v3 v5)) fun p4 => bif ile 0 v31 && ilt v31 (ilen (List.map ep w0)) then (gbind (lget w0 v31) fun p5 => slices_Compact_impl_Peg_impl_Peg_l1 L a v3 m1 (wr IntKind.i64 (iadd v31 1)) (wr IntKind.i64 (iadd v5 1)) (lset w0 v31 p4)) else (none)) else (none)) else (slices_Compact_impl_Peg_impl_Peg_l1 L a v3 m1 v31 (wr IntKind.i64 (iadd v5 1)) w0)) else (none)) else (none)) else (bif ile 0 v31 && ile v31 (ilen (List.map ep w0)) then (bif ile 0 v31 && ile v31 (ilen (lcat (lcat (lsub (List.map ep w0) 0 v31) (lrep (isub (ilen (List.map ep w0)) v31) (AV.agg [AV.int IntKind.i64 0, AV.int IntKind.i64 0]))) (lsub (List.map ep w0) (iadd v31 (isub (ilen (List.map ep w0)) v31)) (ilen (List.map ep w0))))) then (some ((v31, lcat (lcat (lsub w0 0 v31) (lrep (isub (ilen (List.map ep w0)) v31) ({ x := 0, y := 0 }))) (lsub w0 (iadd v31 (isub (ilen (List.map ep w0)) v31)) (ilen (List.map ep w0)))))) else (none)) else (none))
noncomputable def slices_Compact_impl_Peg_impl_Peg_l0 (L : Nat) (a : List Pt) : Nat → Int → Option (Int × (List Pt))
  | 0, _ => none
  | m + 1, v3 => bif ilt v3 (ilen (List.map ep a)) then (bif ile 0 v3 && ilt v3 (ilen (List.map ep a)) then (gbind (lget a v3) fun p => bif ile 0 (wr IntKind.i64 (isub v3 1)) && ilt (wr IntKind.i64 (isub v3 1)) (ilen (List.map ep a)) then (gbind (lget a (wr IntKind.i64 (isub v3 1))) fun p1 => bif ieq (Pt.x p) (Pt.x p1) && ieq (Pt.y p) (Pt.y p1) then (bif ile 0 v3 && ile v3 (ilen (List.map ep a)) then (slices_Compact_impl_Peg_impl_Peg_l1 L a v3 L v3 1 a) else (none)) else (slices_Compact_impl_Peg_impl_Peg_l0 L a m (wr IntKind.i64 (iadd v3 1)))) else (none)) else (none)) else (some ((ilen (List.map ep a), a)))
noncomputable def slices_Compact_impl_Peg_impl_Peg (L : Nat) (a : List Pt) : Option (Int × (List Pt)) := bif ilt (ilen (List.map ep a)) 2 then (some ((ilen (List.map ep a), a))) else (slices_Compact_impl_Peg_impl_Peg_l0 L a L 1)
def slices_Compact_impl_Peg_impl_Peg_ok (L : Nat) (C : CF) : Prop := ∀ (x_a : List AV) (a : List Pt) (_ : x_a = List.map ep a), C 60 ([.own 0 2 none false]) ([.rows .live 2 x_a]) = Option.map (fun r : Int × (List Pt) => ((.own 0 2 (some (0, (r.1))) false, [.rows .live 2 (List.map ep (r.2))]) : AV × List Blk)) (slices_Compact_impl_Peg_impl_Peg L a)
theorem slices_Compact_impl_Peg_impl_Peg_run (L : Nat) (C : CF) : ∀ (x_a : List AV) (a : List Pt) (_ : x_a = List.map ep a), run T C sh (keep 60) L Tryz.f60 ([.own 0 2 none false]) ([.rows .live 2 x_a]) = Option.map (fun r : Int × (List Pt) => ((.own 0 2 (some (0, (r.1))) false, [.rows .live 2 (List.map ep (r.2))]) : AV × List Blk)) (slices_Compact_impl_Peg_impl_Peg L a) := by
 intro x_a a hx_a
 subst hx_a
 unfold slices_Compact_impl_Peg_impl_Peg
 conv => lhs; whnf
 refine t_cond ?_ ?_
 ·conv => lhs; whnf
  exact t_ret (by first | rfl | simp only [ml] <;> rfl)
 ·conv => lhs; whnf
  refine t_loop (fun (v3 : Int) => (AV.own 0 2 none false :: topA 2 (AV.int IntKind.i64 v3 :: tops 57), [Blk.rows Mode.live 2 (List.map ep a)])) (fun m (v3 : Int) => slices_Compact_impl_Peg_impl_Peg_l0 L a m v3) (fun _ => rfl) (fun m v3 rec hrec => ?_) L 1 ?_ ?_
  rotate_left
  ·first | rfl | simp only [ml] <;> rfl
  ·first | rfl | simp only [ml] <;> rfl
  show _ = Option.map _ (slices_Compact_impl_Peg_impl_Peg_l0 L a (m + 1) v3)
  rw [slices_Compact_impl_Peg_impl_Peg_l0.eq_2]
  conv => lhs; whnf
  refine t_cond ?_ ?_
  ·conv => lhs; whnf
   refine t_cond ?_ ?_
   ·conv => lhs; whnf
    refine t_get (en := ep) (l := a) (by first | rfl | simp only [ml] <;> rfl) fun p => ?_
    conv => lhs; whnf
    refine t_cond ?_ ?_
    ·conv => lhs; whnf
     refine t_get (en := ep) (l := a) (by first | rfl | simp only [ml] <;> rfl) fun p1 => ?_
     conv => lhs; whnf
     refine t_cond ?_ ?_
     ·conv => lhs; whnf
      refine t_cond ?_ ?_
      ·conv => lhs; whnf
       refine t_loop (fun (⟨v31, v5, w0⟩ : Int × Int × (List Pt)) => (AV.own 0 2 none false :: topA 2 (AV.int IntKind.i64 v31 :: AV.own 0 2 (some (v3, isub (ilen (List.map ep a)) v3)) false :: AV.int IntKind.i64 v5 :: tops 55), [Blk.rows Mode.live 2 (List.map ep w0)])) (fun m1 (⟨v31, v5, w0⟩ : Int × Int × (List Pt)) => slices_Compact_impl_Peg_impl_Peg_l1 L a v3 m1 v31 v5 w0) (fun _ => rfl) (fun m1 s1 rec1 hrec1 => ?_) L ((v3, 1, a)) ?_ ?_
       rotate_left
       ·first | rfl | simp only [ml] <;> rfl
       ·first | rfl | simp only [ml] <;> rfl
       obtain ⟨v31, v5, w0⟩ := s1
       show _ = Option.map _ (slices_Compact_impl_Peg_impl_Peg_l1 L a v3 (m1 + 1) v31 v5 w0)
       rw [slices_Compact_impl_Peg_impl_Peg_l1.eq_2]
       conv => lhs; whnf
       refine t_cond ?_ ?_
       ·conv => lhs; whnf
        refine t_cond ?_ ?_
        ·conv => lhs; whnf
         refine t_get (en := ep) (l := w0) (by first | rfl | simp only [ml] <;> rfl) fun p2 => ?_
         conv => lhs; whnf
         refine t_cond ?_ ?_
         ·conv => lhs; whnf
          refine t_get (en := ep) (l := w0) (by first | rfl | simp only [ml] <;> rfl) fun p3 => ?_
          conv => lhs; whnf
          refine t_cond ?_ ?_
          ·conv => lhs; whnf
           refine t_cond ?_ ?_
           ·conv => lhs; whnf
            refine t_get (en := ep) (l := w0) (by first | rfl | simp only [ml] <;> rfl) fun p4 => ?_
            conv => lhs; whnf
            refine t_cond ?_ ?_
            ·conv => lhs; whnf
             refine t_get (en := ep) (l := w0) (by first | rfl | simp only [ml] <;> rfl) fun p5 => ?_
             conv => lhs; whnf
             exact hrec1 ((wr IntKind.i64 (iadd v31 1), wr IntKind.i64 (iadd v5 1), lset w0 v31 p4)) _ _ (by first | rfl | simp only [ml] <;> rfl) (by first | rfl | simp only [ml] <;> rfl)
            ·conv => lhs; whnf
             exact t_none
           ·conv => lhs; whnf
            exact t_none
          ·conv => lhs; whnf
           exact hrec1 ((v31, wr IntKind.i64 (iadd v5 1), w0)) _ _ (by first | rfl | simp only [ml] <;> rfl) (by first | rfl | simp only [ml] <;> rfl)
         ·conv => lhs; whnf
          exact t_none
        ·conv => lhs; whnf
         exact t_none
       ·conv => lhs; whnf
        refine t_cond ?_ ?_
        ·conv => lhs; whnf
         refine t_cond ?_ ?_
         ·conv => lhs; whnf
          exact t_ret (by first | rfl | simp only [ml] <;> rfl)
         ·conv => lhs; whnf
          exact t_none
        ·conv => lhs; whnf
         exact t_none
      ·conv => lhs; whnf
       exact t_none
     ·conv => lhs; whnf
      exact hrec (wr IntKind.i64 (iadd v3 1)) _ _ (by first | rfl | simp only [ml] <;> rfl) (by first | rfl | simp only [ml] <;> rfl)
    ·conv => lhs; whnf
     exact t_none
   ·conv => lhs; whnf
    exact t_none
  ·conv => lhs; whnf
   exact t_ret (by first | rfl | simp only [ml] <;> rfl)
noncomputable def impl_JoinBands (L : Nat) (a : List Pt) (b : List Pt) : Option ((List Pt) × Bool) := gbind (impl_AreDifferent L a) fun r => bif !r then (some (([], false))) else (gbind (impl_AreDifferent L b) fun r1 => bif !r1 then (some (([], false))) else (gbind (slices_Concat_impl_Peg_impl_Peg L (a :: (b :: []))) fun r2 => gbind (impl_sorted L r2) fun r3 => gbind (slices_Compact_impl_Peg_impl_Peg L r3) fun r4 => bif ilt 30 (Prod.fst r4) then (some (([], false))) else (gbind (impl_band L (lsub (Prod.snd r4) 0 (iadd 0 (Prod.fst r4)))) fun r5 => some ((r5, true)))))
def impl_JoinBands_ok (L : Nat) (C : CF) : Prop := ∀ (ca : Bool) (x_a : List AV) (a : List Pt) (_ : x_a = List.map ep a) (cb : Bool) (x_b : List AV) (b : List Pt) (_ : x_b = List.map ep b), C 31 ([.lst false ca 2 x_a, .lst false cb 2 x_b]) ([]) = Option.map (fun r : (List Pt) × Bool => ((.tup [.frs 2 (List.map ep (r.1)), .bool (r.2)], []) : AV × List Blk)) (impl_JoinBands L a b)
theorem impl_JoinBands_run (L : Nat) (C : CF) (h_impl_AreDifferent : impl_AreDifferent_ok L C) (h_impl_sorted : impl_sorted_ok L C) (h_slices_Concat_impl_Peg_impl_Peg : slices_Concat_impl_Peg_impl_Peg_ok L C) (h_impl_band : impl_band_ok L C) (h_slices_Compact_impl_Peg_impl_Peg : slices_Compact_impl_Peg_impl_Peg_ok L C) : ∀ (ca : Bool) (x_a : List AV) (a : List Pt) (_ : x_a = List.map ep a) (cb : Bool) (x_b : List AV) (b : List Pt) (_ : x_b = List.map ep b), run T C sh (keep 31) L Tryz.f31 ([.lst false ca 2 x_a, .lst false cb 2 x_b]) ([]) = Option.map (fun r : (List Pt) × Bool => ((.tup [.frs 2 (List.map ep (r.1)), .bool (r.2)], []) : AV × List Blk)) (impl_JoinBands L a b) := by
 intro ca x_a a hx_a cb x_b b hx_b
 subst hx_a
 subst hx_b
 unfold impl_JoinBands
 conv => lhs; whnf
 refine t_call (h_impl_AreDifferent _ _ _ a (by first | rfl | simp only [ml] <;> rfl)) fun r => ?_
 conv => lhs; whnf
 refine t_cond ?_ ?_
 ·conv => lhs; whnf
  exact t_ret (by first | rfl | simp only [ml] <;> rfl)
 ·conv => lhs; whnf
  refine t_call (h_impl_AreDifferent _ _ _ b (by first | rfl | simp only [ml] <;> rfl)) fun r1 => ?_
  conv => lhs; whnf
  refine t_cond ?_ ?_
  ·conv => lhs; whnf
   exact t_ret (by first | rfl | simp only [ml] <;> rfl)
  ·conv => lhs; whnf
   refine t_call (h_slices_Concat_impl_Peg_impl_Peg _ _ _ (a :: (b :: [])) (by first | rfl | simp only [ml] <;> rfl)) fun r2 => ?_
   conv => lhs; whnf
   refine t_call (h_impl_sorted _ _ _ r2 (by first | rfl | simp only [ml] <;> rfl)) fun r3 => ?_
   conv => lhs; whnf
   refine t_call (h_slices_Compact_impl_Peg_impl_Peg _ r3 (by first | rfl | simp only [ml] <;> rfl)) fun r4 => ?_
   conv => lhs; whnf
   refine t_cond ?_ ?_
   ·conv => lhs; whnf
    exact t_ret (by first | rfl | simp only [ml] <;> rfl)
   ·conv => lhs; whnf
    refine t_call (h_impl_band _ _ _ (lsub (Prod.snd r4) 0 (iadd 0 (Prod.fst r4))) (by first | rfl | simp only [ml] <;> rfl)) fun r5 => ?_
    conv => lhs; whnf
    exact t_ret (by first | rfl | simp only [ml] <;> rfl)
noncomputable def spec_JoinBands_l0 (L : Nat) (b : List Pt) : Nat → Int → (List Pt) → Option ((List Pt) × Bool)
  | 0, _, _ => none
  | m + 1, v22, w0 => bif ilt v22 (ilen (List.map ep b)) then (gbind (lget b v22) fun p => gbind (spec_bdHas L w0 (Pt.x p) (Pt.y p)) fun r2 => bif !r2 then (bif fits (iadd (ilen (List.map ep w0)) (ilen [AV.agg [AV.int IntKind.i64 (Pt.x p), AV.int IntKind.i64 (Pt.y p)]])) 16 then (spec_JoinBands_l0 L b m (wr IntKind.i64 (iadd v22 1)) (lcat w0 (p :: []))) else (none)) else (spec_JoinBands_l0 L b m (wr IntKind.i64 (iadd v22 1)) w0)) else (gbind (spec_bdGood L w0) fun r3 => bif !r3 then (some (([], false))) else (gbind (spec_bdBand L w0) fun r4 => some ((r4, true))))
noncomputable def spec_JoinBands (L : Nat) (a : List Pt) (b : List Pt) : Option ((List Pt) × Bool) := gbind (spec_bdGood L a) fun r => bif !r then (some (([], false))) else (gbind (spec_bdGood L b) fun r1 => bif !r1 then (some (([], false))) else (bif fits (iadd (ilen ([] : List AV)) (ilen (List.map ep a))) 16 then (spec_JoinBands_l0 L b L 0 (lcat [] a)) else (none)))
def spec_JoinBands_ok (L : Nat) (C : CF) : Prop := ∀ (oa : Bool) (ca : Bool) (x_a : List AV) (a : List Pt) (_ : x_a = List.map ep a) (ob : Bool) (cb : Bool) (x_b : List AV) (b : List Pt) (_ : x_b = List.map ep b), C 32 ([.lst oa ca 2 x_a, .lst ob cb 2 x_b]) ([]) = Option.map (fun r : (List Pt) × Bool => ((.tup [.lst false false 2 (List.map ep (r.1)), .bool (r.2)], []) : AV × List Blk)) (spec_JoinBands L a b)
theorem spec_JoinBands_run (L : Nat) (C : CF) (h_spec_bdHas : spec_bdHas_ok L C) (h_spec_bdGood : spec_bdGood_ok L C) (h_spec_bdBand : spec_bdBand_ok L C) : ∀ (oa : Bool) (ca : Bool) (x_a : List AV) (a : List Pt) (_ : x_a = List.map ep a) (ob : Bool) (cb : Bool) (x_b : List AV) (b : List Pt) (_ : x_b = List.map ep b), run T C sh (keep 32) L Tryz.f32 ([.lst oa ca 2 x_a, .lst ob cb 2 x_b]) ([]) = Option.map (fun r : (List Pt) × Bool => ((.tup [.lst false false 2 (List.map ep (r.1)), .bool (r.2)], []) : AV × List Blk)) (spec_JoinBands L a b) := by
 intro oa ca x_a a hx_a ob cb x_b b hx_b
 subst hx_a
 subst hx_b
 unfold spec_JoinBands
 conv => lhs; whnf
 refine t_call (h_spec_bdGood _ _ _ a (by first | rfl | simp only [ml] <;> rfl)) fun r => ?_
 conv => lhs; whnf
 refine t_cond ?_ ?_
 ·conv => lhs; whnf
  exact t_ret (by first | rfl | simp only [ml] <;> rfl)
 ·conv => lhs; whnf
  refine t_call (h_spec_bdGood _ _ _ b (by first | rfl | simp only [ml] <;> rfl)) fun r1 => ?_
  conv => lhs; whnf
  refine t_cond ?_ ?_
  ·conv => lhs; whnf
   exact t_ret (by first | rfl | simp only [ml] <;> rfl)
  ·conv => lhs; whnf
   refine t_cond ?_ ?_
   ·conv => lhs; whnf
    refine t_loop (fun (⟨v22, w0⟩ : Int × (List Pt)) => (topA 6 (AV.own 0 2 none false :: topA 13 (AV.lst ob cb 2 (List.map ep b) :: AV.int IntKind.i64 (ilen (List.map ep b)) :: AV.int IntKind.i64 v22 :: tops 17)), [Blk.rows Mode.live 2 (List.map ep w0)])) (fun m (⟨v22, w0⟩ : Int × (List Pt)) => spec_JoinBands_l0 L b m v22 w0) (fun _ => rfl) (fun m s rec hrec => ?_) L ((0, lcat [] a)) ?_ ?_
    rotate_left
    ·first | rfl | simp only [ml] <;> rfl
    ·first | rfl | simp only [ml] <;> rfl
    obtain ⟨v22, w0⟩ := s
    show _ = Option.map _ (spec_JoinBands_l0 L b (m + 1) v22 w0)
    rw [spec_JoinBands_l0.eq_2]
    conv => lhs; whnf
    refine t_cond ?_ ?_
    ·conv => lhs; whnf
     refine t_get (en := ep) (l := b) (by first | rfl | simp only [ml] <;> rfl) fun p => ?_
     conv => lhs; whnf
     refine t_call (h_spec_bdHas _ _ _ w0 (by first | rfl | simp only [ml] <;> rfl) (Pt.x p) (Pt.y p)) fun r2 => ?_
     conv => lhs; whnf
     refine t_cond ?_ ?_
     ·conv => lhs; whnf
      refine t_cond ?_ ?_
      ·conv => lhs; whnf
       exact hrec ((wr IntKind.i64 (iadd v22 1), lcat w0 (p :: []))) _ _ (by first | rfl | simp only [ml] <;> rfl) (by first | rfl | simp only [ml] <;> rfl)
      ·conv => lhs; whnf
       exact t_none
     ·conv => lhs; whnf
      exact hrec ((wr IntKind.i64 (iadd v22 1), w0)) _ _ (by first | rfl | simp only [ml] <;> rfl) (by first | rfl | simp only [ml] <;> rfl)
    ·conv => lhs; whnf
     refine t_call (h_spec_bdGood _ _ _ w0 (by first | rfl | simp only [ml] <;> rfl)) fun r3 => ?_
     conv => lhs; whnf
     refine t_cond ?_ ?_
     ·conv => lhs; whnf
      exact t_ret (by first | rfl | simp only [ml] <;> rfl)
     ·conv => lhs; whnf
      refine t_call (h_spec_bdBand _ _ _ w0 (by first | rfl | simp only [ml] <;> rfl)) fun r4 => ?_
      conv => lhs; whnf
      exact t_ret (by first | rfl | simp only [ml] <;> rfl)
   ·conv => lhs; whnf
    exact t_none
noncomputable def spec_DrawInBand (L : Nat) (a : List Int) : Option ((List Pt) × Int × Int) := gbind (spec_l1Cur_pegs L a 0 0 8 5) fun r => gbind (spec_l1Cur_peg L a (Prod.fst (Prod.snd r)) (Prod.snd (Prod.snd r))) fun r1 => some ((Prod.fst r, Prod.fst r1, Prod.fst (Prod.snd r1)))
def spec_DrawInBand_ok (L : Nat) (C : CF) : Prop := ∀ (oa : Bool) (ca : Bool) (x_a : List AV) (a : List Int) (_ : x_a = List.map eU a), C 33 ([.lst oa ca 1 x_a]) ([]) = Option.map (fun r : (List Pt) × Int × Int => ((.tup [.frs 2 (List.map ep (r.1)), .agg [.int .i64 (r.2.1), .int .i64 (r.2.2)]], []) : AV × List Blk)) (spec_DrawInBand L a)
theorem spec_DrawInBand_run (L : Nat) (C : CF) (h_spec_l1Cur_peg : spec_l1Cur_peg_ok L C) (h_spec_l1Cur_pegs : spec_l1Cur_pegs_ok L C) : ∀ (oa : Bool) (ca : Bool) (x_a : List AV) (a : List Int) (_ : x_a = List.map eU a), run T C sh (keep 33) L Tryz.f33 ([.lst oa ca 1 x_a]) ([]) = Option.map (fun r : (List Pt) × Int × Int => ((.tup [.frs 2 (List.map ep (r.1)), .agg [.int .i64 (r.2.1), .int .i64 (r.2.2)]], []) : AV × List Blk)) (spec_DrawInBand L a) := by
 intro oa ca x_a a hx_a
 subst hx_a
 unfold spec_DrawInBand
 conv => lhs; whnf
 refine t_call (h_spec_l1Cur_pegs _ _ _ a (by first | rfl | simp only [ml] <;> rfl) 0 0 8 5) fun r => ?_
 conv => lhs; whnf
 refine t_call (h_spec_l1Cur_peg _ _ _ a (by first | rfl | simp only [ml] <;> rfl) (Prod.fst (Prod.snd r)) (Prod.snd (Prod.snd r))) fun r1 => ?_
 conv => lhs; whnf
 exact t_ret (by first | rfl | simp only [ml] <;> rfl)
noncomputable def spec_bdIn_l0 (L : Nat) (a : List Pt) (b_0 : Int) (b_1 : Int) : Nat → Int → Option Bool
  | 0, _ => none
  | m + 1, v15 => bif ilt v15 (ilen (List.map ep a)) then (gbind (lget a v15) fun p => bif ieq (ilen (List.map ep a)) 0 then (none) else (gbind (lget a (irem (wr IntKind.i64 (iadd v15 1)) (ilen (List.map ep a)))) fun p1 => gbind (spec_pgTurn L (Pt.x p) (Pt.y p) (Pt.x p1) (Pt.y p1) b_0 b_1) fun r1 => bif ilt r1 0 then (some false) else (spec_bdIn_l0 L a b_0 b_1 m (wr IntKind.i64 (iadd v15 1))))) else (some true)
noncomputable def spec_bdIn (L : Nat) (a : List Pt) (b_0 : Int) (b_1 : Int) : Option (Bool) := bif ilt (ilen (List.map ep a)) 3 then (gbind (spec_bdOn L a b_0 b_1) fun r => some r) else (spec_bdIn_l0 L a b_0 b_1 L 0)
def spec_bdIn_ok (L : Nat) (C : CF) : Prop := ∀ (oa : Bool) (ca : Bool) (x_a : List AV) (a : List Pt) (_ : x_a = List.map ep a) (b_0 : Int) (b_1 : Int), C 66 ([.lst oa ca 2 x_a, .agg [.int .i64 b_0, .int .i64 b_1]]) ([]) = Option.map (fun r : Bool => ((.bool r, []) : AV × List Blk)) (spec_bdIn L a b_0 b_1)
theorem spec_bdIn_run (L : Nat) (C : CF) (h_spec_pgTurn : spec_pgTurn_ok L C) (h_spec_bdOn : spec_bdOn_ok L C) : ∀ (oa : Bool) (ca : Bool) (x_a : List AV) (a : List Pt) (_ : x_a = List.map ep a) (b_0 : Int) (b_1 : Int), run T C sh (keep 66) L Tryz.f66 ([.lst oa ca 2 x_a, .agg [.int .i64 b_0, .int .i64 b_1]]) ([]) = Option.map (fun r : Bool => ((.bool r, []) : AV × List Blk)) (spec_bdIn L a b_0 b_1) := by
 intro oa ca x_a a hx_a b_0 b_1
 subst hx_a
 unfold spec_bdIn
 conv => lhs; whnf
 refine t_cond ?_ ?_
 ·conv => lhs; whnf
  refine t_call (h_spec_bdOn _ _ _ a (by first | rfl | simp only [ml] <;> rfl) b_0 b_1) fun r => ?_
  conv => lhs; whnf
  exact t_ret (by first | rfl | simp only [ml] <;> rfl)
 ·conv => lhs; whnf
  refine t_loop (fun (v15 : Int) => (AV.lst oa ca 2 (List.map ep a) :: topA 2 (AV.ptr 0 0 0 2 :: topA 9 (AV.lst oa ca 2 (List.map ep a) :: AV.int IntKind.i64 (ilen (List.map ep a)) :: AV.int IntKind.i64 v15 :: tops 17)), [Blk.box (AV.agg [AV.int IntKind.i64 b_0, AV.int IntKind.i64 b_1])])) (fun m (v15 : Int) => spec_bdIn_l0 L a b_0 b_1 m v15) (fun _ => rfl) (fun m v15 rec hrec => ?_) L 0 ?_ ?_
  rotate_left
  ·first | rfl | simp only [ml] <;> rfl
  ·first | rfl | simp only [ml] <;> rfl
  show _ = Option.map _ (spec_bdIn_l0 L a b_0 b_1 (m + 1) v15)
  rw [spec_bdIn_l0.eq_2]
  conv => lhs; whnf
  refine t_cond ?_ ?_
  ·conv => lhs; whnf
   refine t_get (en := ep) (l := a) (by first | rfl | simp only [ml] <;> rfl) fun p => ?_
   conv => lhs; whnf
   refine t_cond ?_ ?_
   ·conv => lhs; whnf
    exact t_none
   ·conv => lhs; whnf
    refine t_get (en := ep) (l := a) (by first | rfl | simp only [ml] <;> rfl) fun p1 => ?_
    conv => lhs; whnf
    refine t_call (h_spec_pgTurn (Pt.x p) (Pt.y p) (Pt.x p1) (Pt.y p1) b_0 b_1) fun r1 => ?_
    conv => lhs; whnf
    refine t_cond ?_ ?_
    ·conv => lhs; whnf
     exact t_ret (by first | rfl | simp only [ml] <;> rfl)
    ·conv => lhs; whnf
     exact hrec (wr IntKind.i64 (iadd v15 1)) _ _ (by first | rfl | simp only [ml] <;> rfl) (by first | rfl | simp only [ml] <;> rfl)
  ·conv => lhs; whnf
   exact t_ret (by first | rfl | simp only [ml] <;> rfl)
noncomputable def spec_InBand (L : Nat) (a : List Pt) (b_0 : Int) (b_1 : Int) : Option (Bool × Bool) := gbind (spec_bdGood L a) fun r => bif !r then (some ((false, false))) else (gbind (spec_pgIs L b_0 b_1) fun r1 => bif !r1 then (some ((false, false))) else (gbind (spec_bdBand L a) fun r2 => gbind (spec_bdIn L r2 b_0 b_1) fun r3 => some ((r3, true))))
def spec_InBand_ok (L : Nat) (C : CF) : Prop := ∀ (oa : Bool) (ca : Bool) (x_a : List AV) (a : List Pt) (_ : x_a = List.map ep a) (b_0 : Int) (b_1 : Int), C 34 ([.lst oa ca 2 x_a, .agg [.int .i64 b_0, .int .i64 b_1]]) ([]) = Option.map (fun r : Bool × Bool => ((.tup [.bool (r.1), .bool (r.2)], []) : AV × List Blk)) (spec_InBand L a b_0 b_1)
theorem spec_InBand_run (L : Nat) (C : CF) (h_spec_pgIs : spec_pgIs_ok L C) (h_spec_bdGood : spec_bdGood_ok L C) (h_spec_bdBand : spec_bdBand_ok L C) (h_spec_bdIn : spec_bdIn_ok L C) : ∀ (oa : Bool) (ca : Bool) (x_a : List AV) (a : List Pt) (_ : x_a = List.map ep a) (b_0 : Int) (b_1 : Int), run T C sh (keep 34) L Tryz.f34 ([.lst oa ca 2 x_a, .agg [.int .i64 b_0, .int .i64 b_1]]) ([]) = Option.map (fun r : Bool × Bool => ((.tup [.bool (r.1), .bool (r.2)], []) : AV × List Blk)) (spec_InBand L a b_0 b_1) := by
 intro oa ca x_a a hx_a b_0 b_1
 subst hx_a
 unfold spec_InBand
 conv => lhs; whnf
 refine t_call (h_spec_bdGood _ _ _ a (by first | rfl | simp only [ml] <;> rfl)) fun r => ?_
 conv => lhs; whnf
 refine t_cond ?_ ?_
 ·conv => lhs; whnf
  exact t_ret (by first | rfl | simp only [ml] <;> rfl)
 ·conv => lhs; whnf
  refine t_call (h_spec_pgIs b_0 b_1) fun r1 => ?_
  conv => lhs; whnf
  refine t_cond ?_ ?_
  ·conv => lhs; whnf
   exact t_ret (by first | rfl | simp only [ml] <;> rfl)
  ·conv => lhs; whnf
   refine t_call (h_spec_bdBand _ _ _ a (by first | rfl | simp only [ml] <;> rfl)) fun r2 => ?_
   conv => lhs; whnf
   refine t_call (h_spec_bdIn _ _ _ r2 (by first | rfl | simp only [ml] <;> rfl) b_0 b_1) fun r3 => ?_
   conv => lhs; whnf
   exact t_ret (by first | rfl | simp only [ml] <;> rfl)
noncomputable def spec_DrawLayerOfPeg (L : Nat) (a : List Int) : Option ((List Pt) × Int × Int) := gbind (spec_l1Cur_pegs L a 0 0 10 4) fun r => bif ilt 0 (ilen (List.map ep (Prod.fst r))) then (gbind (spec_l1Cur_one L a (Prod.fst (Prod.snd r)) (Prod.snd (Prod.snd r)) 4) fun r1 => bif !Prod.fst r1 then (gbind (spec_l1Cur_pick L a (Prod.fst (Prod.snd r1)) (Prod.snd (Prod.snd r1)) (ilen (List.map ep (Prod.fst r)))) fun r2 => bif ile 0 (Prod.fst r2) && ilt (Prod.fst r2) (ilen (List.map ep (Prod.fst r))) then (gbind (lget (Prod.fst r) (Prod.fst r2)) fun p => some ((Prod.fst r, Pt.x p, Pt.y p))) else (none)) else (gbind (spec_l1Cur_peg L a (Prod.fst (Prod.snd r1)) (Prod.snd (Prod.snd r1))) fun r3 => some ((Prod.fst r, Prod.fst r3, Prod.fst (Prod.snd r3))))) else (gbind (spec_l1Cur_peg L a (Prod.fst (Prod.snd r)) (Prod.snd (Prod.snd r))) fun r4 => some ((Prod.fst r, Prod.fst r4, Prod.fst (Prod.snd r4))))
def spec_DrawLayerOfPeg_ok (L : Nat) (C : CF) : Prop := ∀ (oa : Bool) (ca : Bool) (x_a : List AV) (a : List Int) (_ : x_a = List.map eU a), C 35 ([.lst oa ca 1 x_a]) ([]) = Option.map (fun r : (List Pt) × Int × Int => ((.tup [.frs 2 (List.map ep (r.1)), .agg [.int .i64 (r.2.1), .int .i64 (r.2.2)]], []) : AV × List Blk)) (spec_DrawLayerOfPeg L a)
theorem spec_DrawLayerOfPeg_run (L : Nat) (C : CF) (h_spec_l1Cur_pick : spec_l1Cur_pick_ok L C) (h_spec_l1Cur_one : spec_l1Cur_one_ok L C) (h_spec_l1Cur_peg : spec_l1Cur_peg_ok L C) (h_spec_l1Cur_pegs : spec_l1Cur_pegs_ok L C) : ∀ (oa : Bool) (ca : Bool) (x_a : List AV) (a : List Int) (_ : x_a = List.map eU a), run T C sh (keep 35) L Tryz.f35 ([.lst oa ca 1 x_a]) ([]) = Option.map (fun r : (List Pt) × Int × Int => ((.tup [.frs 2 (List.map ep (r.1)), .agg [.int .i64 (r.2.1), .int .i64 (r.2.2)]], []) : AV × List Blk)) (spec_DrawLayerOfPeg L a) := by
 intro oa ca x_a a hx_a
 subst hx_a
 unfold spec_DrawLayerOfPeg
 conv => lhs; whnf
 refine t_call (h_spec_l1Cur_pegs _ _ _ a (by first | rfl | simp only [ml] <;> rfl) 0 0 10 4) fun r => ?_
 conv => lhs; whnf
 refine t_cond ?_ ?_
 ·conv => lhs; whnf
  refine t_call (h_spec_l1Cur_one _ _ _ a (by first | rfl | simp only [ml] <;> rfl) (Prod.fst (Prod.snd r)) (Prod.snd (Prod.snd r)) 4) fun r1 => ?_
  conv => lhs; whnf
  refine t_cond ?_ ?_
  ·conv => lhs; whnf
   refine t_call (h_spec_l1Cur_pick _ _ _ a (by first | rfl | simp only [ml] <;> rfl) (Prod.fst (Prod.snd r1)) (Prod.snd (Prod.snd r1)) (ilen (List.map ep (Prod.fst r)))) fun r2 => ?_
   conv => lhs; whnf
   refine t_cond ?_ ?_
   ·conv => lhs; whnf
    refine t_get (en := ep) (l := Prod.fst r) (by first | rfl | simp only [ml] <;> rfl) fun p => ?_
    conv => lhs; whnf
    exact t_ret (by first | rfl | simp only [ml] <;> rfl)
   ·conv => lhs; whnf
    exact t_none
  ·conv => lhs; whnf
   refine t_call (h_spec_l1Cur_peg _ _ _ a (by first | rfl | simp only [ml] <;> rfl) (Prod.fst (Prod.snd r1)) (Prod.snd (Prod.snd r1))) fun r3 => ?_
   conv => lhs; whnf
   exact t_ret (by first | rfl | simp only [ml] <;> rfl)
 ·conv => lhs; whnf
  refine t_call (h_spec_l1Cur_peg _ _ _ a (by first | rfl | simp only [ml] <;> rfl) (Prod.fst (Prod.snd r)) (Prod.snd (Prod.snd r))) fun r4 => ?_
  conv => lhs; whnf
  exact t_ret (by first | rfl | simp only [ml] <;> rfl)
noncomputable def spec_LayerOfPeg_l0 (L : Nat) (b_0 : Int) (b_1 : Int) (r2 : List (List Pt)) : Nat → Int → Option (Int × Bool)
  | 0, _ => none
  | m + 1, v20 => bif ilt v20 (ilen (List.map eLP r2)) then (bif ile 0 v20 && ilt v20 (ilen (List.map eLP r2)) then (gbind (lget r2 v20) fun p => gbind (spec_bdHas L p b_0 b_1) fun r3 => bif r3 then (some ((wr IntKind.i64 (iadd v20 1), true))) else (spec_LayerOfPeg_l0 L b_0 b_1 r2 m (wr IntKind.i64 (iadd v20 1)))) else (none)) else (some ((0, false)))
noncomputable def spec_LayerOfPeg (L : Nat) (a : List Pt) (b_0 : Int) (b_1 : Int) : Option (Int × Bool) := gbind (spec_bdGood L a) fun r => bif !r then (some ((0, false))) else (gbind (spec_bdHas L a b_0 b_1) fun r1 => bif !r1 then (some ((0, false))) else (gbind (spec_bdLayers L a) fun r2 => spec_LayerOfPeg_l0 L b_0 b_1 r2 L 0))
def spec_LayerOfPeg_ok (L : Nat) (C : CF) : Prop := ∀ (oa : Bool) (ca : Bool) (x_a : List AV) (a : List Pt) (_ : x_a = List.map ep a) (b_0 : Int) (b_1 : Int), C 36 ([.lst oa ca 2 x_a, .agg [.int .i64 b_0, .int .i64 b_1]]) ([]) = Option.map (fun r : Int × Bool => ((.tup [.int .i64 (r.1), .bool (r.2)], []) : AV × List Blk)) (spec_LayerOfPeg L a b_0 b_1)
theorem spec_LayerOfPeg_run (L : Nat) (C : CF) (h_spec_bdHas : spec_bdHas_ok L C) (h_spec_bdGood : spec_bdGood_ok L C) (h_spec_bdLayers : spec_bdLayers_ok L C) : ∀ (oa : Bool) (ca : Bool) (x_a : List AV) (a : List Pt) (_ : x_a = List.map ep a) (b_0 : Int) (b_1 : Int), run T C sh (keep 36) L Tryz.f36 ([.lst oa ca 2 x_a, .agg [.int .i64 b_0, .int .i64 b_1]]) ([]) = Option.map (fun r : Int × Bool => ((.tup [.int .i64 (r.1), .bool (r.2)], []) : AV × List Blk)) (spec_LayerOfPeg L a b_0 b_1) := by
 intro oa ca x_a a hx_a b_0 b_1
 subst hx_a
 unfold spec_LayerOfPeg
 conv => lhs; whnf
 refine t_call (h_spec_bdGood _ _ _ a (by first | rfl | simp only [ml] <;> rfl)) fun r => ?_
 conv => lhs; whnf
 refine t_cond ?_ ?_
 ·conv => lhs; whnf
  exact t_ret (by first | rfl | simp only [ml] <;> rfl)
 ·conv => lhs; whnf
  refine t_call (h_spec_bdHas _ _ _ a (by first | rfl | simp only [ml] <;> rfl) b_0 b_1) fun r1 => ?_
  conv => lhs; whnf
  refine t_cond ?_ ?_
  ·conv => lhs; whnf
   exact t_ret (by first | rfl | simp only [ml] <;> rfl)
  ·conv => lhs; whnf
   refine t_call (h_spec_bdLayers _ _ _ a (by first | rfl | simp only [ml] <;> rfl)) fun r2 => ?_
   conv => lhs; whnf
   refine t_loop (fun (v20 : Int) => (topA 3 (AV.ptr 0 0 0 2 :: topA 14 (AV.own 1 1 none false :: AV.int IntKind.i64 (ilen (List.map eLP r2)) :: AV.int IntKind.i64 v20 :: tops 10)), [Blk.box (AV.agg [AV.int IntKind.i64 b_0, AV.int IntKind.i64 b_1]), Blk.rows Mode.live 1 (List.map eLP r2)])) (fun m (v20 : Int) => spec_LayerOfPeg_l0 L b_0 b_1 r2 m v20) (fun _ => rfl) (fun m v20 rec hrec => ?_) L 0 ?_ ?_
   rotate_left
   ·first | rfl | simp only [ml] <;> rfl
   ·first | rfl | simp only [ml] <;> rfl
   show _ = Option.map _ (spec_LayerOfPeg_l0 L b_0 b_1 r2 (m + 1) v20)
   rw [spec_LayerOfPeg_l0.eq_2]
   conv => lhs; whnf
   refine t_cond ?_ ?_
   ·conv => lhs; whnf
    refine t_cond ?_ ?_
    ·conv => lhs; whnf
     refine t_get (en := eLP) (l := r2) (by first | rfl | simp only [ml] <;> rfl) fun p => ?_
     conv => lhs; whnf
     refine t_call (h_spec_bdHas _ _ _ p (by first | rfl | simp only [ml] <;> rfl) b_0 b_1) fun r3 => ?_
     conv => lhs; whnf
     refine t_cond ?_ ?_
     ·conv => lhs; whnf
      exact t_ret (by first | rfl | simp only [ml] <;> rfl)
     ·conv => lhs; whnf
      exact hrec (wr IntKind.i64 (iadd v20 1)) _ _ (by first | rfl | simp only [ml] <;> rfl) (by first | rfl | simp only [ml] <;> rfl)
    ·conv => lhs; whnf
     exact t_none
   ·conv => lhs; whnf
    exact t_ret (by first | rfl | simp only [ml] <;> rfl)
end Go.AM
