import Derived.Test.YtokhceheoccfhaaAmP0
set_option linter.unusedVariables false
set_option linter.unusedSimpArgs false
set_option linter.unnecessarySimpa false
set_option linter.deprecated false
set_option linter.unusedSectionVars false
open Go Go.AM Go.Proofs
namespace Go.AM
set_option maxRecDepth 400000
set_option maxHeartbeats 40000000
set_option linter.unusedVariables false
noncomputable def spec_InCircle (L : Nat) (a : List Pt) (b_0 : Int) (b_1 : Int) : Option (Int × Bool) := gbind (spec_trThree L a) fun r => bif !r then (some ((0, false))) else (gbind (spec_pgIs L b_0 b_1) fun r1 => bif !r1 then (some ((0, false))) else (gbind (spec_CircleOfThree L a) fun r2 => gbind (lget a 0) fun p => gbind (spec_l1Sign L (wr IntKind.i64 (isub (wr IntKind.i64 (iadd (wr IntKind.i64 (imul (wr IntKind.i64 (isub (wr IntKind.i64 (imul (Pt.x p) (Prod.fst (Prod.snd (Prod.snd r2))))) (Prod.fst r2))) (wr IntKind.i64 (isub (wr IntKind.i64 (imul (Pt.x p) (Prod.fst (Prod.snd (Prod.snd r2))))) (Prod.fst r2))))) (wr IntKind.i64 (imul (wr IntKind.i64 (isub (wr IntKind.i64 (imul (Pt.y p) (Prod.fst (Prod.snd (Prod.snd r2))))) (Prod.fst (Prod.snd r2)))) (wr IntKind.i64 (isub (wr IntKind.i64 (imul (Pt.y p) (Prod.fst (Prod.snd (Prod.snd r2))))) (Prod.fst (Prod.snd r2)))))))) (wr IntKind.i64 (iadd (wr IntKind.i64 (imul (wr IntKind.i64 (isub (wr IntKind.i64 (imul b_0 (Prod.fst (Prod.snd (Prod.snd r2))))) (Prod.fst r2))) (wr IntKind.i64 (isub (wr IntKind.i64 (imul b_0 (Prod.fst (Prod.snd (Prod.snd r2))))) (Prod.fst r2))))) (wr IntKind.i64 (imul (wr IntKind.i64 (isub (wr IntKind.i64 (imul b_1 (Prod.fst (Prod.snd (Prod.snd r2))))) (Prod.fst (Prod.snd r2)))) (wr IntKind.i64 (isub (wr IntKind.i64 (imul b_1 (Prod.fst (Prod.snd (Prod.snd r2))))) (Prod.fst (Prod.snd r2))))))))))) fun r3 => some ((r3, true))))


def spec_InCircle_ok (L : Nat) (C : CF) : Prop := ∀ (oa : Bool) (ca : Bool) (x_a : List AV) (a : List Pt) (_ : x_a = List.map ep a) (b_0 : Int) (b_1 : Int), C 109 ([.lst oa ca 2 x_a, .agg [.int .i64 b_0, .int .i64 b_1]]) ([]) = Option.map (fun r : Int × Bool => ((.tup [.int .i64 (r.1), .bool (r.2)], []) : AV × List Blk)) (spec_InCircle L a b_0 b_1)


theorem spec_InCircle_run (L : Nat) (C : CF) (h_spec_pgIs : spec_pgIs_ok L C) (h_spec_l1Sign : spec_l1Sign_ok L C) (h_spec_trThree : spec_trThree_ok L C) (h_spec_CircleOfThree : spec_CircleOfThree_ok L C) : ∀ (oa : Bool) (ca : Bool) (x_a : List AV) (a : List Pt) (_ : x_a = List.map ep a) (b_0 : Int) (b_1 : Int), run T C sh (keep 109) L Try.f109 ([.lst oa ca 2 x_a, .agg [.int .i64 b_0, .int .i64 b_1]]) ([]) = Option.map (fun r : Int × Bool => ((.tup [.int .i64 (r.1), .bool (r.2)], []) : AV × List Blk)) (spec_InCircle L a b_0 b_1) := by
 intro oa ca x_a a hx_a b_0 b_1
 subst hx_a
 unfold spec_InCircle
 conv => lhs; whnf
 refine t_call (h_spec_trThree _ _ _ a (by first | rfl | simp only [ml] <;> rfl)) fun r => ?_
 conv => lhs; whnf
 refine t_cond ?_ ?_
 ·conv => lhs; whnf
  exact t_ret (by first | rfl | simp only [ml] <;> rfl)
 ·conv => lhs; whnf
  refine t_call (h_spec_pgIs b_0 b_1) fun r1 => ?_
  conv => lhs; whnf
  refine t_cond ?_ ?_
  ·conv => lhs; whnf
   exact t_ret (by first | rfl | simp only [ml] <;> rfl)
  ·conv => lhs; whnf
   refine t_call (h_spec_CircleOfThree _ _ _ a (by first | rfl | simp only [ml] <;> rfl)) fun r2 => ?_
   conv => lhs; whnf
   refine t_get (en := ep) (l := a) (by first | rfl | simp only [ml] <;> rfl) fun p => ?_
   conv => lhs; whnf
   refine t_call (h_spec_l1Sign (wr IntKind.i64 (isub (wr IntKind.i64 (iadd (wr IntKind.i64 (imul (wr IntKind.i64 (isub (wr IntKind.i64 (imul (Pt.x p) (Prod.fst (Prod.snd (Prod.snd r2))))) (Prod.fst r2))) (wr IntKind.i64 (isub (wr IntKind.i64 (imul (Pt.x p) (Prod.fst (Prod.snd (Prod.snd r2))))) (Prod.fst r2))))) (wr IntKind.i64 (imul (wr IntKind.i64 (isub (wr IntKind.i64 (imul (Pt.y p) (Prod.fst (Prod.snd (Prod.snd r2))))) (Prod.fst (Prod.snd r2)))) (wr IntKind.i64 (isub (wr IntKind.i64 (imul (Pt.y p) (Prod.fst (Prod.snd (Prod.snd r2))))) (Prod.fst (Prod.snd r2)))))))) (wr IntKind.i64 (iadd (wr IntKind.i64 (imul (wr IntKind.i64 (isub (wr IntKind.i64 (imul b_0 (Prod.fst (Prod.snd (Prod.snd r2))))) (Prod.fst r2))) (wr IntKind.i64 (isub (wr IntKind.i64 (imul b_0 (Prod.fst (Prod.snd (Prod.snd r2))))) (Prod.fst r2))))) (wr IntKind.i64 (imul (wr IntKind.i64 (isub (wr IntKind.i64 (imul b_1 (Prod.fst (Prod.snd (Prod.snd r2))))) (Prod.fst (Prod.snd r2)))) (wr IntKind.i64 (isub (wr IntKind.i64 (imul b_1 (Prod.fst (Prod.snd (Prod.snd r2))))) (Prod.fst (Prod.snd r2))))))))))) fun r3 => ?_
   conv => lhs; whnf
   exact t_ret (by first | rfl | simp only [ml] <;> rfl)


noncomputable def impl_PegsInAll (L : Nat) (a : List Pt) : Option (Int × Bool) := gbind (impl_IsPolygon L a) fun r => bif !r then (some ((0, false))) else (gbind (impl_inner L a) fun r1 => gbind (impl_around L a) fun r2 => some ((wr IntKind.i64 (iadd r1 r2), true)))


def impl_PegsInAll_ok (L : Nat) (C : CF) : Prop := ∀ (oa : Bool) (ca : Bool) (x_a : List AV) (a : List Pt) (_ : x_a = List.map ep a), C 110 ([.lst oa ca 2 x_a]) ([]) = Option.map (fun r : Int × Bool => ((.tup [.int .i64 (r.1), .bool (r.2)], []) : AV × List Blk)) (impl_PegsInAll L a)


theorem impl_PegsInAll_run (L : Nat) (C : CF) (h_impl_IsPolygon : impl_IsPolygon_ok L C) (h_impl_around : impl_around_ok L C) (h_impl_inner : impl_inner_ok L C) : ∀ (oa : Bool) (ca : Bool) (x_a : List AV) (a : List Pt) (_ : x_a = List.map ep a), run T C sh (keep 110) L Try.f110 ([.lst oa ca 2 x_a]) ([]) = Option.map (fun r : Int × Bool => ((.tup [.int .i64 (r.1), .bool (r.2)], []) : AV × List Blk)) (impl_PegsInAll L a) := by
 intro oa ca x_a a hx_a
 subst hx_a
 unfold impl_PegsInAll
 conv => lhs; whnf
 refine t_call (h_impl_IsPolygon _ _ _ a (by first | rfl | simp only [ml] <;> rfl)) fun r => ?_
 conv => lhs; whnf
 refine t_cond ?_ ?_
 ·conv => lhs; whnf
  exact t_ret (by first | rfl | simp only [ml] <;> rfl)
 ·conv => lhs; whnf
  refine t_call (h_impl_inner _ _ _ a (by first | rfl | simp only [ml] <;> rfl)) fun r1 => ?_
  conv => lhs; whnf
  refine t_call (h_impl_around _ _ _ a (by first | rfl | simp only [ml] <;> rfl)) fun r2 => ?_
  conv => lhs; whnf
  exact t_ret (by first | rfl | simp only [ml] <;> rfl)



noncomputable def laws_FnThreesMeasured_j2 (L : Nat) (r18 : List Pt × Int) (r19 : List Pt × Bool) (r21 : Int × Bool) : Option Bool := bif Prod.snd r19 then (gbind (impl_PegsInAll L (Prod.fst r19)) fun r26 => bif Prod.snd r26 then (bif ieq (Prod.fst r26) (Prod.fst r21) then (bif ile 0 0 && ilt 0 (ilen (List.map ep (Prod.fst r19))) then (gbind (lget (Prod.fst r19) 0) fun p => bif ile 0 0 && ilt 0 (ilen (List.map ep (Prod.fst r18))) then (gbind (lget (Prod.fst r18) 0) fun p1 => some (ieq (Pt.x p) (Pt.x p1) && ieq (Pt.y p) (Pt.y p1))) else (none)) else (none)) else (some false)) else (some false)) else (some true)


noncomputable def laws_FnThreesMeasured_j3 (L : Nat) (r18 : List Pt × Int) (r19 : List Pt × Bool) (r21 : Int × Bool) (r24 : Int × Bool) (r25 : Int × Bool) (v603 : Bool) : Option Bool := bif v603 then (some false) else (bif !ieq (Prod.fst r24) (Prod.fst r25) then (some false) else (bif Prod.snd r19 then (bif !Prod.snd r21 then (some false) else (laws_FnThreesMeasured_j2 L r18 r19 r21)) else (laws_FnThreesMeasured_j2 L r18 r19 r21)))


noncomputable def laws_FnThreesMeasured_j1 (L : Nat) (v1 : List Int) : Option Bool := gbind (spec_DrawGrowThree L v1) fun r18 => gbind (impl_GrowThree L (Prod.fst r18) (Prod.snd r18)) fun r19 => gbind (spec_GrowThree L (Prod.fst r18) (Prod.snd r18)) fun r20 => gbind (impl_PegsOfGrown L (Prod.fst r18) (Prod.snd r18)) fun r21 => gbind (spec_PegsOfGrown L (Prod.fst r18) (Prod.snd r18)) fun r22 => gbind (spec_DrawInCircle L v1) fun r23 => gbind (impl_InCircle L (Prod.fst r23) (Prod.fst (Prod.snd r23)) (Prod.snd (Prod.snd r23))) fun r24 => gbind (spec_InCircle L (Prod.fst r23) (Prod.fst (Prod.snd r23)) (Prod.snd (Prod.snd r23))) fun r25 => bif !beqb (Prod.snd r19) (Prod.snd r20) then (laws_FnThreesMeasured_j3 L r18 r19 r21 r24 r25 true) else (gbind (laws_zPegs L (Prod.fst r19) (Prod.fst r20)) fun r27 => bif !r27 then (laws_FnThreesMeasured_j3 L r18 r19 r21 r24 r25 true) else (bif !beqb (Prod.snd r21) (Prod.snd r22) then (laws_FnThreesMeasured_j3 L r18 r19 r21 r24 r25 true) else (bif !ieq (Prod.fst r21) (Prod.fst r22) then (laws_FnThreesMeasured_j3 L r18 r19 r21 r24 r25 true) else (laws_FnThreesMeasured_j3 L r18 r19 r21 r24 r25 (!beqb (Prod.snd r24) (Prod.snd r25))))))


noncomputable def laws_FnThreesMeasured_l6 (L : Nat) (b : List Int) (r1 : List Pt) (r8 : Int × Int × Int × Bool) (r14 : List Pt × Bool) (r16 : Int × Int × Int × Int × Bool) (r28 : Int × Bool) (p11 : Pt) (p12 : Pt) (p13 : Pt) (p14 : Pt) : Nat → Int → Option Bool
  | 0, _ => none
  | m1 + 1, v444 => bif ilt v444 (ilen (List.map ep r1)) then (bif ile 0 v444 && ilt v444 (ilen (List.map ep r1)) then (gbind (lget r1 v444) fun p15 => gbind (impl_InCircle L r1 (Pt.x p15) (Pt.y p15)) fun r29 => bif !ieq (wr IntKind.i64 (iadd (wr IntKind.i64 (imul (wr IntKind.i64 (isub (wr IntKind.i64 (imul (Pt.x p15) (Prod.fst (Prod.snd (Prod.snd r8))))) (Prod.fst r8))) (wr IntKind.i64 (isub (wr IntKind.i64 (imul (Pt.x p15) (Prod.fst (Prod.snd (Prod.snd r8))))) (Prod.fst r8))))) (wr IntKind.i64 (imul (wr IntKind.i64 (isub (wr IntKind.i64 (imul (Pt.y p15) (Prod.fst (Prod.snd (Prod.snd r8))))) (Prod.fst (Prod.snd r8)))) (wr IntKind.i64 (isub (wr IntKind.i64 (imul (Pt.y p15) (Prod.fst (Prod.snd (Prod.snd r8))))) (Prod.fst (Prod.snd r8)))))))) (wr IntKind.i64 (iadd (wr IntKind.i64 (imul (wr IntKind.i64 (isub (wr IntKind.i64 (imul (Pt.x p11) (Prod.fst (Prod.snd (Prod.snd r8))))) (Prod.fst r8))) (wr IntKind.i64 (isub (wr IntKind.i64 (imul (Pt.x p12) (Prod.fst (Prod.snd (Prod.snd r8))))) (Prod.fst r8))))) (wr IntKind.i64 (imul (wr IntKind.i64 (isub (wr IntKind.i64 (imul (Pt.y p13) (Prod.fst (Prod.snd (Prod.snd r8))))) (Prod.fst (Prod.snd r8)))) (wr IntKind.i64 (isub (wr IntKind.i64 (imul (Pt.y p14) (Prod.fst (Prod.snd (Prod.snd r8))))) (Prod.fst (Prod.snd r8)))))))) then (some false) else (bif !Prod.snd r29 then (some false) else (bif !ieq (Prod.fst r29) 0 then (some false) else (bif ilt (Pt.x p15) (Prod.fst r16) then (some false) else (bif ilt (Prod.fst (Prod.snd (Prod.snd r16))) (Pt.x p15) then (some false) else (bif ilt (Pt.y p15) (Prod.fst (Prod.snd r16)) then (some false) else (bif ilt (Prod.fst (Prod.snd (Prod.snd (Prod.snd r16)))) (Pt.y p15) then (some false) else (laws_FnThreesMeasured_l6 L b r1 r8 r14 r16 r28 p11 p12 p13 p14 m1 (wr IntKind.i64 (iadd v444 1)))))))))) else (none)) else (bif Prod.snd r14 then (gbind (impl_TwiceArea L (Prod.fst r14)) fun r30 => bif !Prod.snd r30 then (some false) else (bif !ieq (wr IntKind.i64 (imul 4 (Prod.fst r30))) (Prod.fst r28) then (some false) else (laws_FnThreesMeasured_j1 L b))) else (laws_FnThreesMeasured_j1 L b))


noncomputable def laws_FnThreesMeasured_l5 (L : Nat) (b : List Int) (r1 : List Pt) (r2 : List Int × Bool) (r4 : List (List Int) × Bool) (r6 : Int × Bool) (r8 : Int × Int × Int × Bool) (r14 : List Pt × Bool) (r16 : Int × Int × Int × Int × Bool) (r28 : Int × Bool) : Nat → Int → Int → Option Bool
  | 0, _, _ => none
  | m + 1, v48, v344 => bif ilt v344 (ilen (List.map eI (Prod.fst r2))) then (bif ile 0 v344 && ilt v344 (ilen (List.map eI (Prod.fst r2))) then (gbind (lget (Prod.fst r2) v344) fun p2 => bif ile 0 v344 && ilt v344 (ilen (List.map eLI (Prod.fst r4))) then (gbind (lget (Prod.fst r4) v344) fun p3 => bif !ieq (ilen (List.map eI p3)) 2 then (some false) else (bif ile 0 v344 && ilt v344 (ilen (List.map eLI (Prod.fst r4))) then (gbind (lget (Prod.fst r4) v344) fun p4 => gbind (lget p4 0) fun p5 => bif ile 0 v344 && ilt v344 (ilen (List.map eLI (Prod.fst r4))) then (gbind (lget (Prod.fst r4) v344) fun p6 => gbind (lget p6 1) fun p7 => bif !ieq (wr IntKind.i64 (imul p5 p2)) (wr IntKind.i64 (imul (wr IntKind.i64 (imul (Prod.fst r28) (Prod.fst r28))) p7)) then (some false) else (bif ilt v48 p2 then (laws_FnThreesMeasured_l5 L b r1 r2 r4 r6 r8 r14 r16 r28 m p2 (wr IntKind.i64 (iadd v344 1))) else (laws_FnThreesMeasured_l5 L b r1 r2 r4 r6 r8 r14 r16 r28 m v48 (wr IntKind.i64 (iadd v344 1))))) else (none)) else (none))) else (none)) else (none)) else (bif ile 0 0 && ilt 0 (ilen (List.map eI (Prod.fst r2))) then (gbind (lget (Prod.fst r2) 0) fun p8 => bif ile 0 1 && ilt 1 (ilen (List.map eI (Prod.fst r2))) then (gbind (lget (Prod.fst r2) 1) fun p9 => bif ile 0 2 && ilt 2 (ilen (List.map eI (Prod.fst r2))) then (gbind (lget (Prod.fst r2) 2) fun p10 => bif !beqb (ilt 0 (Prod.fst r6)) (ilt 0 (wr IntKind.i64 (isub (wr IntKind.i64 (iadd (wr IntKind.i64 (iadd p8 p9)) p10)) (wr IntKind.i64 (imul 2 v48))))) then (some false) else (bif !beqb (ilt (Prod.fst r6) 0) (ilt (wr IntKind.i64 (isub (wr IntKind.i64 (iadd (wr IntKind.i64 (iadd p8 p9)) p10)) (wr IntKind.i64 (imul 2 v48)))) 0) then (some false) else (bif ile 0 0 && ilt 0 (ilen (List.map ep r1)) then (gbind (lget r1 0) fun p11 => bif ile 0 0 && ilt 0 (ilen (List.map ep r1)) then (gbind (lget r1 0) fun p12 => bif ile 0 0 && ilt 0 (ilen (List.map ep r1)) then (gbind (lget r1 0) fun p13 => bif ile 0 0 && ilt 0 (ilen (List.map ep r1)) then (gbind (lget r1 0) fun p14 => laws_FnThreesMeasured_l6 L b r1 r8 r14 r16 r28 p11 p12 p13 p14 L 0) else (none)) else (none)) else (none)) else (none)))) else (none)) else (none)) else (none))


noncomputable def laws_FnThreesMeasured_j4 (L : Nat) (b : List Int) (r1 : List Pt) (r2 : List Int × Bool) (r4 : List (List Int) × Bool) (r6 : Int × Bool) (r8 : Int × Int × Int × Bool) (r14 : List Pt × Bool) (r16 : Int × Int × Int × Int × Bool) (r28 : Int × Bool) : Option Bool := laws_FnThreesMeasured_l5 L b r1 r2 r4 r6 r8 r14 r16 r28 L 0 0


noncomputable def laws_FnThreesMeasured_j0 (L : Nat) (b : List Int) (r1 : List Pt) (r2 : List Int × Bool) (r4 : List (List Int) × Bool) (r6 : Int × Bool) (r8 : Int × Int × Int × Bool) (r10 : Int × Int × Bool) (r12 : Bool × Bool) (r14 : List Pt × Bool) (r16 : Int × Int × Int × Int × Bool) : Option Bool := bif Prod.snd r2 then (gbind (impl_TwiceArea L r1) fun r28 => bif !Prod.snd r28 then (some false) else (bif !ieq (ilen (List.map eI (Prod.fst r2))) 3 then (some false) else (bif !ieq (ilen (List.map eLI (Prod.fst r4))) 3 then (some false) else (bif ilt (Prod.fst (Prod.snd (Prod.snd r8))) 1 then (some false) else (bif ieq 3 0 then (none) else (bif ieq (irem (Prod.fst r10) 3) 0 then (bif ieq 3 0 then (none) else (bif !beqb (Prod.fst r12) (ieq (irem (Prod.fst (Prod.snd r10)) 3) 0) then (some false) else (laws_FnThreesMeasured_j4 L b r1 r2 r4 r6 r8 r14 r16 r28))) else (bif !beqb (Prod.fst r12) false then (some false) else (laws_FnThreesMeasured_j4 L b r1 r2 r4 r6 r8 r14 r16 r28)))))))) else (laws_FnThreesMeasured_j1 L b)


noncomputable def laws_FnThreesMeasured_j12 (L : Nat) (b : List Int) (r1 : List Pt) (r2 : List Int × Bool) (r4 : List (List Int) × Bool) (r6 : Int × Bool) (r8 : Int × Int × Int × Bool) (r10 : Int × Int × Bool) (r12 : Bool × Bool) (r14 : List Pt × Bool) (r16 : Int × Int × Int × Int × Bool) (v295 : Bool) : Option Bool := bif v295 then (some false) else (bif !beqb (Prod.snd (Prod.snd (Prod.snd (Prod.snd r16)))) (Prod.snd r2) then (some false) else (bif Prod.snd r14 then (bif !Prod.snd r2 then (some false) else (laws_FnThreesMeasured_j0 L b r1 r2 r4 r6 r8 r10 r12 r14 r16)) else (laws_FnThreesMeasured_j0 L b r1 r2 r4 r6 r8 r10 r12 r14 r16)))


noncomputable def laws_FnThreesMeasured_j11 (L : Nat) (b : List Int) (r1 : List Pt) (r2 : List Int × Bool) (r4 : List (List Int) × Bool) (r6 : Int × Bool) (r8 : Int × Int × Int × Bool) (r10 : Int × Int × Bool) (r12 : Bool × Bool) (r14 : List Pt × Bool) (r16 : Int × Int × Int × Int × Bool) (v275 : Bool) : Option Bool := bif v275 then (laws_FnThreesMeasured_j12 L b r1 r2 r4 r6 r8 r10 r12 r14 r16 true) else (bif !beqb (Prod.snd r6) (Prod.snd r2) then (laws_FnThreesMeasured_j12 L b r1 r2 r4 r6 r8 r10 r12 r14 r16 true) else (bif !beqb (Prod.snd (Prod.snd (Prod.snd r8))) (Prod.snd r2) then (laws_FnThreesMeasured_j12 L b r1 r2 r4 r6 r8 r10 r12 r14 r16 true) else (bif !beqb (Prod.snd (Prod.snd r10)) (Prod.snd r2) then (laws_FnThreesMeasured_j12 L b r1 r2 r4 r6 r8 r10 r12 r14 r16 true) else (laws_FnThreesMeasured_j12 L b r1 r2 r4 r6 r8 r10 r12 r14 r16 (!beqb (Prod.snd r12) (Prod.snd r2))))))


noncomputable def laws_FnThreesMeasured_j10 (L : Nat) (b : List Int) (r1 : List Pt) (r2 : List Int × Bool) (r4 : List (List Int) × Bool) (r6 : Int × Bool) (r8 : Int × Int × Int × Bool) (r10 : Int × Int × Bool) (r12 : Bool × Bool) (r14 : List Pt × Bool) (r16 : Int × Int × Int × Int × Bool) (r17 : Int × Int × Int × Int × Bool) (v255 : Bool) : Option Bool := bif v255 then (laws_FnThreesMeasured_j11 L b r1 r2 r4 r6 r8 r10 r12 r14 r16 true) else (bif !beqb (Prod.snd (Prod.snd (Prod.snd (Prod.snd r16)))) (Prod.snd (Prod.snd (Prod.snd (Prod.snd r17)))) then (laws_FnThreesMeasured_j11 L b r1 r2 r4 r6 r8 r10 r12 r14 r16 true) else (bif !(ieq (Prod.fst r16) (Prod.fst r17) && ieq (Prod.fst (Prod.snd r16)) (Prod.fst (Prod.snd r17))) then (laws_FnThreesMeasured_j11 L b r1 r2 r4 r6 r8 r10 r12 r14 r16 true) else (bif !(ieq (Prod.fst (Prod.snd (Prod.snd r16))) (Prod.fst (Prod.snd (Prod.snd r17))) && ieq (Prod.fst (Prod.snd (Prod.snd (Prod.snd r16)))) (Prod.fst (Prod.snd (Prod.snd (Prod.snd r17))))) then (laws_FnThreesMeasured_j11 L b r1 r2 r4 r6 r8 r10 r12 r14 r16 true) else (laws_FnThreesMeasured_j11 L b r1 r2 r4 r6 r8 r10 r12 r14 r16 (!beqb (Prod.snd r4) (Prod.snd r2))))))


noncomputable def laws_FnThreesMeasured_j9 (L : Nat) (b : List Int) (r1 : List Pt) (r2 : List Int × Bool) (r4 : List (List Int) × Bool) (r6 : Int × Bool) (r8 : Int × Int × Int × Bool) (r10 : Int × Int × Bool) (r12 : Bool × Bool) (r13 : Bool × Bool) (r14 : List Pt × Bool) (r15 : List Pt × Bool) (r16 : Int × Int × Int × Int × Bool) (r17 : Int × Int × Int × Int × Bool) (v234 : Bool) : Option Bool := bif v234 then (laws_FnThreesMeasured_j10 L b r1 r2 r4 r6 r8 r10 r12 r14 r16 r17 true) else (bif !beqb (Prod.snd r12) (Prod.snd r13) then (laws_FnThreesMeasured_j10 L b r1 r2 r4 r6 r8 r10 r12 r14 r16 r17 true) else (bif !beqb (Prod.fst r12) (Prod.fst r13) then (laws_FnThreesMeasured_j10 L b r1 r2 r4 r6 r8 r10 r12 r14 r16 r17 true) else (bif !beqb (Prod.snd r14) (Prod.snd r15) then (laws_FnThreesMeasured_j10 L b r1 r2 r4 r6 r8 r10 r12 r14 r16 r17 true) else (gbind (laws_zPegs L (Prod.fst r14) (Prod.fst r15)) fun r31 => laws_FnThreesMeasured_j10 L b r1 r2 r4 r6 r8 r10 r12 r14 r16 r17 (!r31)))))


noncomputable def laws_FnThreesMeasured_j8 (L : Nat) (b : List Int) (r1 : List Pt) (r2 : List Int × Bool) (r4 : List (List Int) × Bool) (r6 : Int × Bool) (r8 : Int × Int × Int × Bool) (r9 : Int × Int × Int × Bool) (r10 : Int × Int × Bool) (r11 : Int × Int × Bool) (r12 : Bool × Bool) (r13 : Bool × Bool) (r14 : List Pt × Bool) (r15 : List Pt × Bool) (r16 : Int × Int × Int × Int × Bool) (r17 : Int × Int × Int × Int × Bool) (v214 : Bool) : Option Bool := bif v214 then (laws_FnThreesMeasured_j9 L b r1 r2 r4 r6 r8 r10 r12 r13 r14 r15 r16 r17 true) else (bif !ieq (Prod.fst (Prod.snd (Prod.snd r8))) (Prod.fst (Prod.snd (Prod.snd r9))) then (laws_FnThreesMeasured_j9 L b r1 r2 r4 r6 r8 r10 r12 r13 r14 r15 r16 r17 true) else (bif !beqb (Prod.snd (Prod.snd r10)) (Prod.snd (Prod.snd r11)) then (laws_FnThreesMeasured_j9 L b r1 r2 r4 r6 r8 r10 r12 r13 r14 r15 r16 r17 true) else (bif !ieq (Prod.fst r10) (Prod.fst r11) then (laws_FnThreesMeasured_j9 L b r1 r2 r4 r6 r8 r10 r12 r13 r14 r15 r16 r17 true) else (laws_FnThreesMeasured_j9 L b r1 r2 r4 r6 r8 r10 r12 r13 r14 r15 r16 r17 (!ieq (Prod.fst (Prod.snd r10)) (Prod.fst (Prod.snd r11)))))))


noncomputable def laws_FnThreesMeasured_j7 (L : Nat) (b : List Int) (r1 : List Pt) (r2 : List Int × Bool) (r4 : List (List Int) × Bool) (r6 : Int × Bool) (r7 : Int × Bool) (r8 : Int × Int × Int × Bool) (r9 : Int × Int × Int × Bool) (r10 : Int × Int × Bool) (r11 : Int × Int × Bool) (r12 : Bool × Bool) (r13 : Bool × Bool) (r14 : List Pt × Bool) (r15 : List Pt × Bool) (r16 : Int × Int × Int × Int × Bool) (r17 : Int × Int × Int × Int × Bool) (v194 : Bool) : Option Bool := bif v194 then (laws_FnThreesMeasured_j8 L b r1 r2 r4 r6 r8 r9 r10 r11 r12 r13 r14 r15 r16 r17 true) else (bif !ieq (Prod.fst r6) (Prod.fst r7) then (laws_FnThreesMeasured_j8 L b r1 r2 r4 r6 r8 r9 r10 r11 r12 r13 r14 r15 r16 r17 true) else (bif !beqb (Prod.snd (Prod.snd (Prod.snd r8))) (Prod.snd (Prod.snd (Prod.snd r9))) then (laws_FnThreesMeasured_j8 L b r1 r2 r4 r6 r8 r9 r10 r11 r12 r13 r14 r15 r16 r17 true) else (bif !ieq (Prod.fst r8) (Prod.fst r9) then (laws_FnThreesMeasured_j8 L b r1 r2 r4 r6 r8 r9 r10 r11 r12 r13 r14 r15 r16 r17 true) else (laws_FnThreesMeasured_j8 L b r1 r2 r4 r6 r8 r9 r10 r11 r12 r13 r14 r15 r16 r17 (!ieq (Prod.fst (Prod.snd r8)) (Prod.fst (Prod.snd r9)))))))


noncomputable def laws_FnThreesMeasured (L : Nat) (a : List Int) (b : List Int) : Option (Bool) := gbind (laws_big L a b) fun r => bif r then (some true) else (gbind (spec_DrawSidesOfThree L a) fun r1 => gbind (impl_SidesOfThree L r1) fun r2 => gbind (spec_SidesOfThree L r1) fun r3 => gbind (impl_HeightsOfThree L r1) fun r4 => gbind (spec_HeightsOfThree L r1) fun r5 => gbind (impl_AngleKind L r1) fun r6 => gbind (spec_AngleKind L r1) fun r7 => gbind (impl_CircleOfThree L r1) fun r8 => gbind (spec_CircleOfThree L r1) fun r9 => gbind (impl_ThriceCentre L r1) fun r10 => gbind (spec_ThriceCentre L r1) fun r11 => gbind (impl_HasCentrePeg L r1) fun r12 => gbind (spec_HasCentrePeg L r1) fun r13 => gbind (impl_MiddleThree L r1) fun r14 => gbind (spec_MiddleThree L r1) fun r15 => gbind (impl_BoxOfThree L r1) fun r16 => gbind (spec_BoxOfThree L r1) fun r17 => bif !beqb (Prod.snd r2) (Prod.snd r3) then (laws_FnThreesMeasured_j7 L b r1 r2 r4 r6 r7 r8 r9 r10 r11 r12 r13 r14 r15 r16 r17 true) else (gbind (laws_zSame L (Prod.fst r2) (Prod.fst r3)) fun r32 => bif !r32 then (laws_FnThreesMeasured_j7 L b r1 r2 r4 r6 r7 r8 r9 r10 r11 r12 r13 r14 r15 r16 r17 true) else (bif !beqb (Prod.snd r4) (Prod.snd r5) then (laws_FnThreesMeasured_j7 L b r1 r2 r4 r6 r7 r8 r9 r10 r11 r12 r13 r14 r15 r16 r17 true) else (gbind (laws_zRows L (Prod.fst r4) (Prod.fst r5)) fun r33 => bif !r33 then (laws_FnThreesMeasured_j7 L b r1 r2 r4 r6 r7 r8 r9 r10 r11 r12 r13 r14 r15 r16 r17 true) else (laws_FnThreesMeasured_j7 L b r1 r2 r4 r6 r7 r8 r9 r10 r11 r12 r13 r14 r15 r16 r17 (!beqb (Prod.snd r6) (Prod.snd r7)))))))


def laws_FnThreesMeasured_ok (L : Nat) (C : CF) : Prop := ∀ (oa : Bool) (ca : Bool) (x_a : List AV) (a : List Int) (_ : x_a = List.map eU a) (ob : Bool) (cb : Bool) (x_b : List AV) (b : List Int) (_ : x_b = List.map eU b), C 8 ([.lst oa ca 1 x_a, .lst ob cb 1 x_b]) ([]) = Option.map (fun r : Bool => ((.bool r, []) : AV × List Blk)) (laws_FnThreesMeasured L a b)


theorem laws_FnThreesMeasured_run (L : Nat) (C : CF) (h_laws_big : laws_big_ok L C) (h_laws_zPegs : laws_zPegs_ok L C) (h_impl_TwiceArea : impl_TwiceArea_ok L C) (h_spec_DrawInCircle : spec_DrawInCircle_ok L C) (h_laws_zSame : laws_zSame_ok L C) (h_spec_DrawSidesOfThree : spec_DrawSidesOfThree_ok L C) (h_impl_SidesOfThree : impl_SidesOfThree_ok L C) (h_spec_SidesOfThree : spec_SidesOfThree_ok L C) (h_impl_HeightsOfThree : impl_HeightsOfThree_ok L C) (h_spec_HeightsOfThree : spec_HeightsOfThree_ok L C) (h_impl_AngleKind : impl_AngleKind_ok L C) (h_spec_AngleKind : spec_AngleKind_ok L C) (h_impl_CircleOfThree : impl_CircleOfThree_ok L C) (h_spec_CircleOfThree : spec_CircleOfThree_ok L C) (h_impl_ThriceCentre : impl_ThriceCentre_ok L C) (h_spec_ThriceCentre : spec_ThriceCentre_ok L C) (h_impl_HasCentrePeg : impl_HasCentrePeg_ok L C) (h_spec_HasCentrePeg : spec_HasCentrePeg_ok L C) (h_impl_MiddleThree : impl_MiddleThree_ok L C) (h_spec_MiddleThree : spec_MiddleThree_ok L C) (h_impl_BoxOfThree : impl_BoxOfThree_ok L C) (h_spec_BoxOfThree : spec_BoxOfThree_ok L C) (h_laws_zRows : laws_zRows_ok L C) (h_impl_InCircle : impl_InCircle_ok L C) (h_spec_DrawGrowThree : spec_DrawGrowThree_ok L C) (h_impl_GrowThree : impl_GrowThree_ok L C) (h_spec_GrowThree : spec_GrowThree_ok L C) (h_impl_PegsOfGrown : impl_PegsOfGrown_ok L C) (h_spec_PegsOfGrown : spec_PegsOfGrown_ok L C) (h_spec_InCircle : spec_InCircle_ok L C) (h_impl_PegsInAll : impl_PegsInAll_ok L C) : ∀ (oa : Bool) (ca : Bool) (x_a : List AV) (a : List Int) (_ : x_a = List.map eU a) (ob : Bool) (cb : Bool) (x_b : List AV) (b : List Int) (_ : x_b = List.map eU b), run T C sh (keep 8) L Try.f8 ([.lst oa ca 1 x_a, .lst ob cb 1 x_b]) ([]) = Option.map (fun r : Bool => ((.bool r, []) : AV × List Blk)) (laws_FnThreesMeasured L a b) := by
 intro oa ca x_a a hx_a ob cb x_b b hx_b
 subst hx_a
 subst hx_b
 unfold laws_FnThreesMeasured
 conv => lhs; whnf
 refine t_call (h_laws_big _ _ _ a (by first | rfl | simp only [ml] <;> rfl) _ _ _ b (by first | rfl | simp only [ml] <;> rfl)) fun r => ?_
 conv => lhs; whnf
 refine t_cond ?_ ?_
 ·conv => lhs; whnf
  exact t_ret (by first | rfl | simp only [ml] <;> rfl)
 ·conv => lhs; whnf
  refine t_call (h_spec_DrawSidesOfThree _ _ _ a (by first | rfl | simp only [ml] <;> rfl)) fun r1 => ?_
  conv => lhs; whnf
  refine t_call (h_impl_SidesOfThree _ _ _ r1 (by first | rfl | simp only [ml] <;> rfl)) fun r2 => ?_
  conv => lhs; whnf
  refine t_call (h_spec_SidesOfThree _ _ _ r1 (by first | rfl | simp only [ml] <;> rfl)) fun r3 => ?_
  conv => lhs; whnf
  refine t_call (h_impl_HeightsOfThree _ _ _ r1 (by first | rfl | simp only [ml] <;> rfl)) fun r4 => ?_
  conv => lhs; whnf
  refine t_call (h_spec_HeightsOfThree _ _ _ r1 (by first | rfl | simp only [ml] <;> rfl)) fun r5 => ?_
  conv => lhs; whnf
  refine t_call (h_impl_AngleKind _ _ _ r1 (by first | rfl | simp only [ml] <;> rfl)) fun r6 => ?_
  conv => lhs; whnf
  refine t_call (h_spec_AngleKind _ _ _ r1 (by first | rfl | simp only [ml] <;> rfl)) fun r7 => ?_
  conv => lhs; whnf
  refine t_call (h_impl_CircleOfThree _ _ _ r1 (by first | rfl | simp only [ml] <;> rfl)) fun r8 => ?_
  conv => lhs; whnf
  refine t_call (h_spec_CircleOfThree _ _ _ r1 (by first | rfl | simp only [ml] <;> rfl)) fun r9 => ?_
  conv => lhs; whnf
  refine t_call (h_impl_ThriceCentre _ _ _ r1 (by first | rfl | simp only [ml] <;> rfl)) fun r10 => ?_
  conv => lhs; whnf
  refine t_call (h_spec_ThriceCentre _ _ _ r1 (by first | rfl | simp only [ml] <;> rfl)) fun r11 => ?_
  conv => lhs; whnf
  refine t_call (h_impl_HasCentrePeg _ _ _ r1 (by first | rfl | simp only [ml] <;> rfl)) fun r12 => ?_
  conv => lhs; whnf
  refine t_call (h_spec_HasCentrePeg _ _ _ r1 (by first | rfl | simp only [ml] <;> rfl)) fun r13 => ?_
  conv => lhs; whnf
  refine t_call (h_impl_MiddleThree _ _ _ r1 (by first | rfl | simp only [ml] <;> rfl)) fun r14 => ?_
  conv => lhs; whnf
  refine t_call (h_spec_MiddleThree _ _ _ r1 (by first | rfl | simp only [ml] <;> rfl)) fun r15 => ?_
  conv => lhs; whnf
  refine t_call (h_impl_BoxOfThree _ _ _ r1 (by first | rfl | simp only [ml] <;> rfl)) fun r16 => ?_
  conv => lhs; whnf
  refine t_call (h_spec_BoxOfThree _ _ _ r1 (by first | rfl | simp only [ml] <;> rfl)) fun r17 => ?_
  conv => lhs; whnf
  refine t_join (fun (_ : Unit) => (AV.top :: AV.lst ob cb 1 (List.map eU b) :: topA 3 (AV.own 0 2 none false :: AV.own 1 1 none false :: AV.bool (Prod.snd r2) :: topA 2 (AV.own 2 1 none false :: topA 3 (AV.int IntKind.i64 (Prod.fst r6) :: topA 3 (AV.int IntKind.i64 (Prod.fst r8) :: AV.int IntKind.i64 (Prod.fst (Prod.snd r8)) :: AV.int IntKind.i64 (Prod.fst (Prod.snd (Prod.snd r8))) :: topA 5 (AV.int IntKind.i64 (Prod.fst r10) :: AV.int IntKind.i64 (Prod.fst (Prod.snd r10)) :: topA 4 (AV.bool (Prod.fst r12) :: topA 3 (AV.own 3 2 none false :: AV.bool (Prod.snd r14) :: topA 2 (AV.ptr 4 0 0 2 :: AV.ptr 5 0 0 2 :: tops 595)))))))), [Blk.rows Mode.live 2 (List.map ep r1), Blk.rows Mode.live 1 (List.map eI (Prod.fst r2)), Blk.rows Mode.live 1 (List.map eLI (Prod.fst r4)), Blk.rows Mode.live 2 (List.map ep (Prod.fst r14)), Blk.box (AV.agg [AV.int IntKind.i64 (Prod.fst r16), AV.int IntKind.i64 (Prod.fst (Prod.snd r16))]), Blk.box (AV.agg [AV.int IntKind.i64 (Prod.fst (Prod.snd (Prod.snd r16))), AV.int IntKind.i64 (Prod.fst (Prod.snd (Prod.snd (Prod.snd r16))))])])) (fun (_ : Unit) => laws_FnThreesMeasured_j0 L b r1 r2 r4 r6 r8 r10 r12 r14 r16) ?_ fun J hJ => ?_
  ·intro s
   show _ = Option.map _ (laws_FnThreesMeasured_j0 L b r1 r2 r4 r6 r8 r10 r12 r14 r16)
   unfold laws_FnThreesMeasured_j0
   conv => lhs; whnf
   refine t_join (fun (v1 : (List Int)) => (AV.top :: AV.lst ob cb 1 (List.map eU v1) :: tops 635, [])) (fun (v1 : (List Int)) => laws_FnThreesMeasured_j1 L v1) ?_ fun J1 hJ1 => ?_
   ·intro v1
    show _ = Option.map _ (laws_FnThreesMeasured_j1 L v1)
    unfold laws_FnThreesMeasured_j1
    conv => lhs; whnf
    refine t_call (h_spec_DrawGrowThree _ _ _ v1 (by first | rfl | simp only [ml] <;> rfl)) fun r18 => ?_
    conv => lhs; whnf
    refine t_call (h_impl_GrowThree _ _ _ (Prod.fst r18) (by first | rfl | simp only [ml] <;> rfl) (Prod.snd r18)) fun r19 => ?_
    conv => lhs; whnf
    refine t_call (h_spec_GrowThree _ _ _ (Prod.fst r18) (by first | rfl | simp only [ml] <;> rfl) (Prod.snd r18)) fun r20 => ?_
    conv => lhs; whnf
    refine t_call (h_impl_PegsOfGrown _ _ _ (Prod.fst r18) (by first | rfl | simp only [ml] <;> rfl) (Prod.snd r18)) fun r21 => ?_
    conv => lhs; whnf
    refine t_call (h_spec_PegsOfGrown _ _ _ (Prod.fst r18) (by first | rfl | simp only [ml] <;> rfl) (Prod.snd r18)) fun r22 => ?_
    conv => lhs; whnf
    refine t_call (h_spec_DrawInCircle _ _ _ v1 (by first | rfl | simp only [ml] <;> rfl)) fun r23 => ?_
    conv => lhs; whnf
    refine t_call (h_impl_InCircle _ _ _ (Prod.fst r23) (by first | rfl | simp only [ml] <;> rfl) (Prod.fst (Prod.snd r23)) (Prod.snd (Prod.snd r23))) fun r24 => ?_
    conv => lhs; whnf
    refine t_call (h_spec_InCircle _ _ _ (Prod.fst r23) (by first | rfl | simp only [ml] <;> rfl) (Prod.fst (Prod.snd r23)) (Prod.snd (Prod.snd r23))) fun r25 => ?_
    conv => lhs; whnf
    refine t_join (fun (_ : Unit) => (topA 59 (AV.own 0 2 none false :: AV.top :: AV.own 1 2 none false :: AV.bool (Prod.snd r19) :: topA 2 (AV.int IntKind.i64 (Prod.fst r21) :: tops 571)), [Blk.rows Mode.live 2 (List.map ep (Prod.fst r18)), Blk.rows Mode.live 2 (List.map ep (Prod.fst r19))])) (fun (_ : Unit) => laws_FnThreesMeasured_j2 L r18 r19 r21) ?_ fun J2 hJ2 => ?_
    ·intro s2
     show _ = Option.map _ (laws_FnThreesMeasured_j2 L r18 r19 r21)
     unfold laws_FnThreesMeasured_j2
     conv => lhs; whnf
     refine t_cond ?_ ?_
     ·conv => lhs; whnf
      refine t_call (h_impl_PegsInAll _ _ _ (Prod.fst r19) (by first | rfl | simp only [ml] <;> rfl)) fun r26 => ?_
      conv => lhs; whnf
      refine t_cond ?_ ?_
      ·conv => lhs; whnf
       refine t_cond ?_ ?_
       ·conv => lhs; whnf
        refine t_cond ?_ ?_
        ·conv => lhs; whnf
         refine t_get (en := ep) (l := Prod.fst r19) (by first | rfl | simp only [ml] <;> rfl) fun p => ?_
         conv => lhs; whnf
         refine t_cond ?_ ?_
         ·conv => lhs; whnf
          refine t_get (en := ep) (l := Prod.fst r18) (by first | rfl | simp only [ml] <;> rfl) fun p1 => ?_
          conv => lhs; whnf
          exact t_ret (by first | rfl | simp only [ml] <;> rfl)
         ·conv => lhs; whnf
          exact t_none
        ·conv => lhs; whnf
         exact t_none
       ·conv => lhs; whnf
        exact t_ret (by first | rfl | simp only [ml] <;> rfl)
      ·conv => lhs; whnf
       exact t_ret (by first | rfl | simp only [ml] <;> rfl)
     ·conv => lhs; whnf
      exact t_ret (by first | rfl | simp only [ml] <;> rfl)
    ·conv => lhs; whnf
     refine t_join (fun (v603 : Bool) => (topA 59 (AV.own 0 2 none false :: AV.top :: AV.own 1 2 none false :: AV.bool (Prod.snd r19) :: topA 2 (AV.int IntKind.i64 (Prod.fst r21) :: AV.bool (Prod.snd r21) :: topA 4 (AV.int IntKind.i64 (Prod.fst r24) :: AV.top :: AV.int IntKind.i64 (Prod.fst r25) :: topA 529 (AV.bool v603 :: tops 33)))), [Blk.rows Mode.live 2 (List.map ep (Prod.fst r18)), Blk.rows Mode.live 2 (List.map ep (Prod.fst r19))])) (fun (v603 : Bool) => laws_FnThreesMeasured_j3 L r18 r19 r21 r24 r25 v603) ?_ fun J3 hJ3 => ?_
     ·intro v603
      show _ = Option.map _ (laws_FnThreesMeasured_j3 L r18 r19 r21 r24 r25 v603)
      unfold laws_FnThreesMeasured_j3
      conv => lhs; whnf
      refine t_cond ?_ ?_
      ·conv => lhs; whnf
       exact t_ret (by first | rfl | simp only [ml] <;> rfl)
      ·conv => lhs; whnf
       refine t_cond ?_ ?_
       ·conv => lhs; whnf
        exact t_ret (by first | rfl | simp only [ml] <;> rfl)
       ·conv => lhs; whnf
        refine t_cond ?_ ?_
        ·conv => lhs; whnf
         refine t_cond ?_ ?_
         ·conv => lhs; whnf
          exact t_ret (by first | rfl | simp only [ml] <;> rfl)
         ·conv => lhs; whnf
          exact hJ2 () _ _ (by first | rfl | simp only [ml] <;> rfl) (by first | rfl | simp only [ml] <;> rfl)
        ·conv => lhs; whnf
         exact hJ2 () _ _ (by first | rfl | simp only [ml] <;> rfl) (by first | rfl | simp only [ml] <;> rfl)
     ·conv => lhs; whnf
      refine t_cond ?_ ?_
      ·conv => lhs; whnf
       exact hJ3 true _ _ (by first | rfl | simp only [ml] <;> rfl) (by first | rfl | simp only [ml] <;> rfl)
      ·conv => lhs; whnf
       refine t_call (h_laws_zPegs _ _ _ (Prod.fst r19) (by first | rfl | simp only [ml] <;> rfl) _ _ _ (Prod.fst r20) (by first | rfl | simp only [ml] <;> rfl)) fun r27 => ?_
       conv => lhs; whnf
       refine t_cond ?_ ?_
       ·conv => lhs; whnf
        exact hJ3 true _ _ (by first | rfl | simp only [ml] <;> rfl) (by first | rfl | simp only [ml] <;> rfl)
       ·conv => lhs; whnf
        refine t_cond ?_ ?_
        ·conv => lhs; whnf
         exact hJ3 true _ _ (by first | rfl | simp only [ml] <;> rfl) (by first | rfl | simp only [ml] <;> rfl)
        ·conv => lhs; whnf
         refine t_cond ?_ ?_
         ·conv => lhs; whnf
          exact hJ3 true _ _ (by first | rfl | simp only [ml] <;> rfl) (by first | rfl | simp only [ml] <;> rfl)
         ·conv => lhs; whnf
          exact hJ3 (!beqb (Prod.snd r24) (Prod.snd r25)) _ _ (by first | rfl | simp only [ml] <;> rfl) (by first | rfl | simp only [ml] <;> rfl)
   ·conv => lhs; whnf
    refine t_cond ?_ ?_
    ·conv => lhs; whnf
     refine t_call (h_impl_TwiceArea _ _ _ r1 (by first | rfl | simp only [ml] <;> rfl)) fun r28 => ?_
     conv => lhs; whnf
     refine t_join (fun (_ : Unit) => (AV.top :: AV.lst ob cb 1 (List.map eU b) :: topA 3 (AV.own 0 2 none false :: AV.own 1 1 none false :: topA 3 (AV.own 2 1 none false :: topA 3 (AV.int IntKind.i64 (Prod.fst r6) :: topA 3 (AV.int IntKind.i64 (Prod.fst r8) :: AV.int IntKind.i64 (Prod.fst (Prod.snd r8)) :: AV.int IntKind.i64 (Prod.fst (Prod.snd (Prod.snd r8))) :: topA 15 (AV.own 3 2 none false :: AV.bool (Prod.snd r14) :: topA 2 (AV.ptr 4 0 0 2 :: AV.ptr 5 0 0 2 :: topA 4 (AV.int IntKind.i64 (Prod.fst r28) :: tops 590))))))), [Blk.rows Mode.live 2 (List.map ep r1), Blk.rows Mode.live 1 (List.map eI (Prod.fst r2)), Blk.rows Mode.live 1 (List.map eLI (Prod.fst r4)), Blk.rows Mode.live 2 (List.map ep (Prod.fst r14)), Blk.box (AV.agg [AV.int IntKind.i64 (Prod.fst r16), AV.int IntKind.i64 (Prod.fst (Prod.snd r16))]), Blk.box (AV.agg [AV.int IntKind.i64 (Prod.fst (Prod.snd (Prod.snd r16))), AV.int IntKind.i64 (Prod.fst (Prod.snd (Prod.snd (Prod.snd r16))))])])) (fun (_ : Unit) => laws_FnThreesMeasured_j4 L b r1 r2 r4 r6 r8 r14 r16 r28) ?_ fun J4 hJ4 => ?_
     ·intro s4
      show _ = Option.map _ (laws_FnThreesMeasured_j4 L b r1 r2 r4 r6 r8 r14 r16 r28)
      unfold laws_FnThreesMeasured_j4
      conv => lhs; whnf
      refine t_loop (fun (⟨v48, v344⟩ : Int × Int) => (AV.top :: AV.lst ob cb 1 (List.map eU b) :: topA 3 (AV.own 0 2 none false :: AV.own 1 1 none false :: topA 3 (AV.own 2 1 none false :: topA 3 (AV.int IntKind.i64 (Prod.fst r6) :: topA 3 (AV.int IntKind.i64 (Prod.fst r8) :: AV.int IntKind.i64 (Prod.fst (Prod.snd r8)) :: AV.int IntKind.i64 (Prod.fst (Prod.snd (Prod.snd r8))) :: topA 15 (AV.own 3 2 none false :: AV.bool (Prod.snd r14) :: topA 2 (AV.ptr 4 0 0 2 :: AV.ptr 5 0 0 2 :: topA 4 (AV.int IntKind.i64 (Prod.fst r28) :: AV.top :: AV.int IntKind.i64 v48 :: topA 293 (AV.own 1 1 none false :: AV.int IntKind.i64 (ilen (List.map eI (Prod.fst r2))) :: AV.int IntKind.i64 v344 :: tops 292)))))))), [Blk.rows Mode.live 2 (List.map ep r1), Blk.rows Mode.live 1 (List.map eI (Prod.fst r2)), Blk.rows Mode.live 1 (List.map eLI (Prod.fst r4)), Blk.rows Mode.live 2 (List.map ep (Prod.fst r14)), Blk.box (AV.agg [AV.int IntKind.i64 (Prod.fst r16), AV.int IntKind.i64 (Prod.fst (Prod.snd r16))]), Blk.box (AV.agg [AV.int IntKind.i64 (Prod.fst (Prod.snd (Prod.snd r16))), AV.int IntKind.i64 (Prod.fst (Prod.snd (Prod.snd (Prod.snd r16))))])])) (fun m (⟨v48, v344⟩ : Int × Int) => laws_FnThreesMeasured_l5 L b r1 r2 r4 r6 r8 r14 r16 r28 m v48 v344) (fun _ => rfl) (fun m s5 rec hrec => ?_) L ((0, 0)) ?_ ?_
      rotate_left
      ·first | rfl | simp only [ml] <;> rfl
      ·first | rfl | simp only [ml] <;> rfl
      obtain ⟨v48, v344⟩ := s5
      show _ = Option.map _ (laws_FnThreesMeasured_l5 L b r1 r2 r4 r6 r8 r14 r16 r28 (m + 1) v48 v344)
      rw [laws_FnThreesMeasured_l5.eq_2]
      conv => lhs; whnf
      refine t_cond ?_ ?_
      ·conv => lhs; whnf
       refine t_cond ?_ ?_
       ·conv => lhs; whnf
        refine t_get (en := eI) (l := Prod.fst r2) (by first | rfl | simp only [ml] <;> rfl) fun p2 => ?_
        conv => lhs; whnf
        refine t_cond ?_ ?_
        ·conv => lhs; whnf
         refine t_get (en := eLI) (l := Prod.fst r4) (by first | rfl | simp only [ml] <;> rfl) fun p3 => ?_
         conv => lhs; whnf
         refine t_cond ?_ ?_
         ·conv => lhs; whnf
          exact t_ret (by first | rfl | simp only [ml] <;> rfl)
         ·conv => lhs; whnf
          refine t_cond ?_ ?_
          ·conv => lhs; whnf
           refine t_get (en := eLI) (l := Prod.fst r4) (by first | rfl | simp only [ml] <;> rfl) fun p4 => ?_
           conv => lhs; whnf
           refine t_get (en := eI) (l := p4) (by first | rfl | simp only [ml] <;> rfl) fun p5 => ?_
           conv => lhs; whnf
           refine t_cond ?_ ?_
           ·conv => lhs; whnf
            refine t_get (en := eLI) (l := Prod.fst r4) (by first | rfl | simp only [ml] <;> rfl) fun p6 => ?_
            conv => lhs; whnf
            refine t_get (en := eI) (l := p6) (by first | rfl | simp only [ml] <;> rfl) fun p7 => ?_
            conv => lhs; whnf
            refine t_cond ?_ ?_
            ·conv => lhs; whnf
             exact t_ret (by first | rfl | simp only [ml] <;> rfl)
            ·conv => lhs; whnf
             refine t_cond ?_ ?_
             ·conv => lhs; whnf
              exact hrec ((p2, wr IntKind.i64 (iadd v344 1))) _ _ (by first | rfl | simp only [ml] <;> rfl) (by first | rfl | simp only [ml] <;> rfl)
             ·conv => lhs; whnf
              exact hrec ((v48, wr IntKind.i64 (iadd v344 1))) _ _ (by first | rfl | simp only [ml] <;> rfl) (by first | rfl | simp only [ml] <;> rfl)
           ·conv => lhs; whnf
            exact t_none
          ·conv => lhs; whnf
           exact t_none
        ·conv => lhs; whnf
         exact t_none
       ·conv => lhs; whnf
        exact t_none
      ·conv => lhs; whnf
       refine t_cond ?_ ?_
       ·conv => lhs; whnf
        refine t_get (en := eI) (l := Prod.fst r2) (by first | rfl | simp only [ml] <;> rfl) fun p8 => ?_
        conv => lhs; whnf
        refine t_cond ?_ ?_
        ·conv => lhs; whnf
         refine t_get (en := eI) (l := Prod.fst r2) (by first | rfl | simp only [ml] <;> rfl) fun p9 => ?_
         conv => lhs; whnf
         refine t_cond ?_ ?_
         ·conv => lhs; whnf
          refine t_get (en := eI) (l := Prod.fst r2) (by first | rfl | simp only [ml] <;> rfl) fun p10 => ?_
          conv => lhs; whnf
          refine t_cond ?_ ?_
          ·conv => lhs; whnf
           exact t_ret (by first | rfl | simp only [ml] <;> rfl)
          ·conv => lhs; whnf
           refine t_cond ?_ ?_
           ·conv => lhs; whnf
            exact t_ret (by first | rfl | simp only [ml] <;> rfl)
           ·conv => lhs; whnf
            refine t_cond ?_ ?_
            ·conv => lhs; whnf
             refine t_get (en := ep) (l := r1) (by first | rfl | simp only [ml] <;> rfl) fun p11 => ?_
             conv => lhs; whnf
             refine t_cond ?_ ?_
             ·conv => lhs; whnf
              refine t_get (en := ep) (l := r1) (by first | rfl | simp only [ml] <;> rfl) fun p12 => ?_
              conv => lhs; whnf
              refine t_cond ?_ ?_
              ·conv => lhs; whnf
               refine t_get (en := ep) (l := r1) (by first | rfl | simp only [ml] <;> rfl) fun p13 => ?_
               conv => lhs; whnf
               refine t_cond ?_ ?_
               ·conv => lhs; whnf
                refine t_get (en := ep) (l := r1) (by first | rfl | simp only [ml] <;> rfl) fun p14 => ?_
                conv => lhs; whnf
                refine t_joinE ?_
                conv => lhs; whnf
                refine t_loop (fun (v444 : Int) => (AV.top :: AV.lst ob cb 1 (List.map eU b) :: topA 3 (AV.own 0 2 none false :: topA 12 (AV.int IntKind.i64 (Prod.fst r8) :: AV.int IntKind.i64 (Prod.fst (Prod.snd r8)) :: AV.int IntKind.i64 (Prod.fst (Prod.snd (Prod.snd r8))) :: topA 15 (AV.own 1 2 none false :: AV.bool (Prod.snd r14) :: topA 2 (AV.ptr 2 0 0 2 :: AV.ptr 3 0 0 2 :: topA 4 (AV.int IntKind.i64 (Prod.fst r28) :: topA 5 (AV.int IntKind.i64 (wr IntKind.i64 (iadd (wr IntKind.i64 (imul (wr IntKind.i64 (isub (wr IntKind.i64 (imul (Pt.x p11) (Prod.fst (Prod.snd (Prod.snd r8))))) (Prod.fst r8))) (wr IntKind.i64 (isub (wr IntKind.i64 (imul (Pt.x p12) (Prod.fst (Prod.snd (Prod.snd r8))))) (Prod.fst r8))))) (wr IntKind.i64 (imul (wr IntKind.i64 (isub (wr IntKind.i64 (imul (Pt.y p13) (Prod.fst (Prod.snd (Prod.snd r8))))) (Prod.fst (Prod.snd r8)))) (wr IntKind.i64 (isub (wr IntKind.i64 (imul (Pt.y p14) (Prod.fst (Prod.snd (Prod.snd r8))))) (Prod.fst (Prod.snd r8)))))))) :: topA 389 (AV.own 0 2 none false :: AV.int IntKind.i64 (ilen (List.map ep r1)) :: AV.int IntKind.i64 v444 :: tops 192))))))), [Blk.rows Mode.live 2 (List.map ep r1), Blk.rows Mode.live 2 (List.map ep (Prod.fst r14)), Blk.box (AV.agg [AV.int IntKind.i64 (Prod.fst r16), AV.int IntKind.i64 (Prod.fst (Prod.snd r16))]), Blk.box (AV.agg [AV.int IntKind.i64 (Prod.fst (Prod.snd (Prod.snd r16))), AV.int IntKind.i64 (Prod.fst (Prod.snd (Prod.snd (Prod.snd r16))))])])) (fun m1 (v444 : Int) => laws_FnThreesMeasured_l6 L b r1 r8 r14 r16 r28 p11 p12 p13 p14 m1 v444) (fun _ => rfl) (fun m1 v444 rec1 hrec1 => ?_) L 0 ?_ ?_
                rotate_left
                ·first | rfl | simp only [ml] <;> rfl
                ·first | rfl | simp only [ml] <;> rfl
                show _ = Option.map _ (laws_FnThreesMeasured_l6 L b r1 r8 r14 r16 r28 p11 p12 p13 p14 (m1 + 1) v444)
                rw [laws_FnThreesMeasured_l6.eq_2]
                conv => lhs; whnf
                refine t_cond ?_ ?_
                ·conv => lhs; whnf
                 refine t_cond ?_ ?_
                 ·conv => lhs; whnf
                  refine t_get (en := ep) (l := r1) (by first | rfl | simp only [ml] <;> rfl) fun p15 => ?_
                  conv => lhs; whnf
                  refine t_call (h_impl_InCircle _ _ _ r1 (by first | rfl | simp only [ml] <;> rfl) (Pt.x p15) (Pt.y p15)) fun r29 => ?_
                  conv => lhs; whnf
                  refine t_cond ?_ ?_
                  ·conv => lhs; whnf
                   exact t_ret (by first | rfl | simp only [ml] <;> rfl)
                  ·conv => lhs; whnf
                   refine t_cond ?_ ?_
                   ·conv => lhs; whnf
                    exact t_ret (by first | rfl | simp only [ml] <;> rfl)
                   ·conv => lhs; whnf
                    refine t_cond ?_ ?_
                    ·conv => lhs; whnf
                     exact t_ret (by first | rfl | simp only [ml] <;> rfl)
                    ·conv => lhs; whnf
                     refine t_cond ?_ ?_
                     ·conv => lhs; whnf
                      exact t_ret (by first | rfl | simp only [ml] <;> rfl)
                     ·conv => lhs; whnf
                      refine t_cond ?_ ?_
                      ·conv => lhs; whnf
                       exact t_ret (by first | rfl | simp only [ml] <;> rfl)
                      ·conv => lhs; whnf
                       refine t_cond ?_ ?_
                       ·conv => lhs; whnf
                        exact t_ret (by first | rfl | simp only [ml] <;> rfl)
                       ·conv => lhs; whnf
                        refine t_cond ?_ ?_
                        ·conv => lhs; whnf
                         exact t_ret (by first | rfl | simp only [ml] <;> rfl)
                        ·conv => lhs; whnf
                         exact hrec1 (wr IntKind.i64 (iadd v444 1)) _ _ (by first | rfl | simp only [ml] <;> rfl) (by first | rfl | simp only [ml] <;> rfl)
                 ·conv => lhs; whnf
                  exact t_none
                ·conv => lhs; whnf
                 refine t_cond ?_ ?_
                 ·conv => lhs; whnf
                  refine t_call (h_impl_TwiceArea _ _ _ (Prod.fst r14) (by first | rfl | simp only [ml] <;> rfl)) fun r30 => ?_
                  conv => lhs; whnf
                  refine t_cond ?_ ?_
                  ·conv => lhs; whnf
                   exact t_ret (by first | rfl | simp only [ml] <;> rfl)
                  ·conv => lhs; whnf
                   refine t_cond ?_ ?_
                   ·conv => lhs; whnf
                    exact t_ret (by first | rfl | simp only [ml] <;> rfl)
                   ·conv => lhs; whnf
                    exact hJ1 b _ _ (by first | rfl | simp only [ml] <;> rfl) (by first | rfl | simp only [ml] <;> rfl)
                 ·conv => lhs; whnf
                  exact hJ1 b _ _ (by first | rfl | simp only [ml] <;> rfl) (by first | rfl | simp only [ml] <;> rfl)
               ·conv => lhs; whnf
                exact t_none
              ·conv => lhs; whnf
               exact t_none
             ·conv => lhs; whnf
              exact t_none
            ·conv => lhs; whnf
             exact t_none
         ·conv => lhs; whnf
          exact t_none
        ·conv => lhs; whnf
         exact t_none
       ·conv => lhs; whnf
        exact t_none
     ·conv => lhs; whnf
      refine t_cond ?_ ?_
      ·conv => lhs; whnf
       exact t_ret (by first | rfl | simp only [ml] <;> rfl)
      ·conv => lhs; whnf
       refine t_cond ?_ ?_
       ·conv => lhs; whnf
        exact t_ret (by first | rfl | simp only [ml] <;> rfl)
       ·conv => lhs; whnf
        refine t_cond ?_ ?_
        ·conv => lhs; whnf
         exact t_ret (by first | rfl | simp only [ml] <;> rfl)
        ·conv => lhs; whnf
         refine t_cond ?_ ?_
         ·conv => lhs; whnf
          exact t_ret (by first | rfl | simp only [ml] <;> rfl)
         ·conv => lhs; whnf
          refine t_cond ?_ ?_
          ·conv => lhs; whnf
           exact t_none
          ·conv => lhs; whnf
           refine t_cond ?_ ?_
           ·conv => lhs; whnf
            refine t_cond ?_ ?_
            ·conv => lhs; whnf
             exact t_none
            ·conv => lhs; whnf
             refine t_cond ?_ ?_
             ·conv => lhs; whnf
              exact t_ret (by first | rfl | simp only [ml] <;> rfl)
             ·conv => lhs; whnf
              exact hJ4 () _ _ (by first | rfl | simp only [ml] <;> rfl) (by first | rfl | simp only [ml] <;> rfl)
           ·conv => lhs; whnf
            refine t_cond ?_ ?_
            ·conv => lhs; whnf
             exact t_ret (by first | rfl | simp only [ml] <;> rfl)
            ·conv => lhs; whnf
             exact hJ4 () _ _ (by first | rfl | simp only [ml] <;> rfl) (by first | rfl | simp only [ml] <;> rfl)
    ·conv => lhs; whnf
     exact hJ1 b _ _ (by first | rfl | simp only [ml] <;> rfl) (by first | rfl | simp only [ml] <;> rfl)
  ·conv => lhs; whnf
   refine t_join (fun (v194 : Bool) => (AV.top :: AV.lst ob cb 1 (List.map eU b) :: topA 3 (AV.own 0 2 none false :: AV.own 1 1 none false :: AV.bool (Prod.snd r2) :: topA 2 (AV.own 2 1 none false :: AV.bool (Prod.snd r4) :: topA 2 (AV.int IntKind.i64 (Prod.fst r6) :: AV.bool (Prod.snd r6) :: AV.int IntKind.i64 (Prod.fst r7) :: AV.top :: AV.int IntKind.i64 (Prod.fst r8) :: AV.int IntKind.i64 (Prod.fst (Prod.snd r8)) :: AV.int IntKind.i64 (Prod.fst (Prod.snd (Prod.snd r8))) :: AV.bool (Prod.snd (Prod.snd (Prod.snd r8))) :: AV.int IntKind.i64 (Prod.fst r9) :: AV.int IntKind.i64 (Prod.fst (Prod.snd r9)) :: AV.int IntKind.i64 (Prod.fst (Prod.snd (Prod.snd r9))) :: AV.bool (Prod.snd (Prod.snd (Prod.snd r9))) :: AV.int IntKind.i64 (Prod.fst r10) :: AV.int IntKind.i64 (Prod.fst (Prod.snd r10)) :: AV.bool (Prod.snd (Prod.snd r10)) :: AV.int IntKind.i64 (Prod.fst r11) :: AV.int IntKind.i64 (Prod.fst (Prod.snd r11)) :: AV.bool (Prod.snd (Prod.snd r11)) :: AV.bool (Prod.fst r12) :: AV.bool (Prod.snd r12) :: AV.bool (Prod.fst r13) :: AV.bool (Prod.snd r13) :: AV.own 3 2 none false :: AV.bool (Prod.snd r14) :: AV.own 4 2 none false :: AV.bool (Prod.snd r15) :: AV.ptr 5 0 0 2 :: AV.ptr 6 0 0 2 :: AV.bool (Prod.snd (Prod.snd (Prod.snd (Prod.snd r16)))) :: AV.ptr 7 0 0 2 :: AV.ptr 8 0 0 2 :: AV.bool (Prod.snd (Prod.snd (Prod.snd (Prod.snd r17)))) :: topA 148 (AV.bool v194 :: tops 442)))), [Blk.rows Mode.live 2 (List.map ep r1), Blk.rows Mode.live 1 (List.map eI (Prod.fst r2)), Blk.rows Mode.live 1 (List.map eLI (Prod.fst r4)), Blk.rows Mode.live 2 (List.map ep (Prod.fst r14)), Blk.rows Mode.live 2 (List.map ep (Prod.fst r15)), Blk.box (AV.agg [AV.int IntKind.i64 (Prod.fst r16), AV.int IntKind.i64 (Prod.fst (Prod.snd r16))]), Blk.box (AV.agg [AV.int IntKind.i64 (Prod.fst (Prod.snd (Prod.snd r16))), AV.int IntKind.i64 (Prod.fst (Prod.snd (Prod.snd (Prod.snd r16))))]), Blk.box (AV.agg [AV.int IntKind.i64 (Prod.fst r17), AV.int IntKind.i64 (Prod.fst (Prod.snd r17))]), Blk.box (AV.agg [AV.int IntKind.i64 (Prod.fst (Prod.snd (Prod.snd r17))), AV.int IntKind.i64 (Prod.fst (Prod.snd (Prod.snd (Prod.snd r17))))])])) (fun (v194 : Bool) => laws_FnThreesMeasured_j7 L b r1 r2 r4 r6 r7 r8 r9 r10 r11 r12 r13 r14 r15 r16 r17 v194) ?_ fun J5 hJ5 => ?_
   ·intro v194
    show _ = Option.map _ (laws_FnThreesMeasured_j7 L b r1 r2 r4 r6 r7 r8 r9 r10 r11 r12 r13 r14 r15 r16 r17 v194)
    unfold laws_FnThreesMeasured_j7
    conv => lhs; whnf
    refine t_join (fun (v214 : Bool) => (AV.top :: AV.lst ob cb 1 (List.map eU b) :: topA 3 (AV.own 0 2 none false :: AV.own 1 1 none false :: AV.bool (Prod.snd r2) :: topA 2 (AV.own 2 1 none false :: AV.bool (Prod.snd r4) :: topA 2 (AV.int IntKind.i64 (Prod.fst r6) :: AV.bool (Prod.snd r6) :: topA 2 (AV.int IntKind.i64 (Prod.fst r8) :: AV.int IntKind.i64 (Prod.fst (Prod.snd r8)) :: AV.int IntKind.i64 (Prod.fst (Prod.snd (Prod.snd r8))) :: AV.bool (Prod.snd (Prod.snd (Prod.snd r8))) :: topA 2 (AV.int IntKind.i64 (Prod.fst (Prod.snd (Prod.snd r9))) :: AV.top :: AV.int IntKind.i64 (Prod.fst r10) :: AV.int IntKind.i64 (Prod.fst (Prod.snd r10)) :: AV.bool (Prod.snd (Prod.snd r10)) :: AV.int IntKind.i64 (Prod.fst r11) :: AV.int IntKind.i64 (Prod.fst (Prod.snd r11)) :: AV.bool (Prod.snd (Prod.snd r11)) :: AV.bool (Prod.fst r12) :: AV.bool (Prod.snd r12) :: AV.bool (Prod.fst r13) :: AV.bool (Prod.snd r13) :: AV.own 3 2 none false :: AV.bool (Prod.snd r14) :: AV.own 4 2 none false :: AV.bool (Prod.snd r15) :: AV.ptr 5 0 0 2 :: AV.ptr 6 0 0 2 :: AV.bool (Prod.snd (Prod.snd (Prod.snd (Prod.snd r16)))) :: AV.ptr 7 0 0 2 :: AV.ptr 8 0 0 2 :: AV.bool (Prod.snd (Prod.snd (Prod.snd (Prod.snd r17)))) :: topA 168 (AV.bool v214 :: tops 422)))))), [Blk.rows Mode.live 2 (List.map ep r1), Blk.rows Mode.live 1 (List.map eI (Prod.fst r2)), Blk.rows Mode.live 1 (List.map eLI (Prod.fst r4)), Blk.rows Mode.live 2 (List.map ep (Prod.fst r14)), Blk.rows Mode.live 2 (List.map ep (Prod.fst r15)), Blk.box (AV.agg [AV.int IntKind.i64 (Prod.fst r16), AV.int IntKind.i64 (Prod.fst (Prod.snd r16))]), Blk.box (AV.agg [AV.int IntKind.i64 (Prod.fst (Prod.snd (Prod.snd r16))), AV.int IntKind.i64 (Prod.fst (Prod.snd (Prod.snd (Prod.snd r16))))]), Blk.box (AV.agg [AV.int IntKind.i64 (Prod.fst r17), AV.int IntKind.i64 (Prod.fst (Prod.snd r17))]), Blk.box (AV.agg [AV.int IntKind.i64 (Prod.fst (Prod.snd (Prod.snd r17))), AV.int IntKind.i64 (Prod.fst (Prod.snd (Prod.snd (Prod.snd r17))))])])) (fun (v214 : Bool) => laws_FnThreesMeasured_j8 L b r1 r2 r4 r6 r8 r9 r10 r11 r12 r13 r14 r15 r16 r17 v214) ?_ fun J6 hJ6 => ?_
    ·intro v214
     show _ = Option.map _ (laws_FnThreesMeasured_j8 L b r1 r2 r4 r6 r8 r9 r10 r11 r12 r13 r14 r15 r16 r17 v214)
     unfold laws_FnThreesMeasured_j8
     conv => lhs; whnf
     refine t_join (fun (v234 : Bool) => (AV.top :: AV.lst ob cb 1 (List.map eU b) :: topA 3 (AV.own 0 2 none false :: AV.own 1 1 none false :: AV.bool (Prod.snd r2) :: topA 2 (AV.own 2 1 none false :: AV.bool (Prod.snd r4) :: topA 2 (AV.int IntKind.i64 (Prod.fst r6) :: AV.bool (Prod.snd r6) :: topA 2 (AV.int IntKind.i64 (Prod.fst r8) :: AV.int IntKind.i64 (Prod.fst (Prod.snd r8)) :: AV.int IntKind.i64 (Prod.fst (Prod.snd (Prod.snd r8))) :: AV.bool (Prod.snd (Prod.snd (Prod.snd r8))) :: topA 4 (AV.int IntKind.i64 (Prod.fst r10) :: AV.int IntKind.i64 (Prod.fst (Prod.snd r10)) :: AV.bool (Prod.snd (Prod.snd r10)) :: topA 3 (AV.bool (Prod.fst r12) :: AV.bool (Prod.snd r12) :: AV.bool (Prod.fst r13) :: AV.bool (Prod.snd r13) :: AV.own 3 2 none false :: AV.bool (Prod.snd r14) :: AV.own 4 2 none false :: AV.bool (Prod.snd r15) :: AV.ptr 5 0 0 2 :: AV.ptr 6 0 0 2 :: AV.bool (Prod.snd (Prod.snd (Prod.snd (Prod.snd r16)))) :: AV.ptr 7 0 0 2 :: AV.ptr 8 0 0 2 :: AV.bool (Prod.snd (Prod.snd (Prod.snd (Prod.snd r17)))) :: topA 188 (AV.bool v234 :: tops 402))))))), [Blk.rows Mode.live 2 (List.map ep r1), Blk.rows Mode.live 1 (List.map eI (Prod.fst r2)), Blk.rows Mode.live 1 (List.map eLI (Prod.fst r4)), Blk.rows Mode.live 2 (List.map ep (Prod.fst r14)), Blk.rows Mode.live 2 (List.map ep (Prod.fst r15)), Blk.box (AV.agg [AV.int IntKind.i64 (Prod.fst r16), AV.int IntKind.i64 (Prod.fst (Prod.snd r16))]), Blk.box (AV.agg [AV.int IntKind.i64 (Prod.fst (Prod.snd (Prod.snd r16))), AV.int IntKind.i64 (Prod.fst (Prod.snd (Prod.snd (Prod.snd r16))))]), Blk.box (AV.agg [AV.int IntKind.i64 (Prod.fst r17), AV.int IntKind.i64 (Prod.fst (Prod.snd r17))]), Blk.box (AV.agg [AV.int IntKind.i64 (Prod.fst (Prod.snd (Prod.snd r17))), AV.int IntKind.i64 (Prod.fst (Prod.snd (Prod.snd (Prod.snd r17))))])])) (fun (v234 : Bool) => laws_FnThreesMeasured_j9 L b r1 r2 r4 r6 r8 r10 r12 r13 r14 r15 r16 r17 v234) ?_ fun J7 hJ7 => ?_
     ·intro v234
      show _ = Option.map _ (laws_FnThreesMeasured_j9 L b r1 r2 r4 r6 r8 r10 r12 r13 r14 r15 r16 r17 v234)
      unfold laws_FnThreesMeasured_j9
      conv => lhs; whnf
      refine t_join (fun (v255 : Bool) => (AV.top :: AV.lst ob cb 1 (List.map eU b) :: topA 3 (AV.own 0 2 none false :: AV.own 1 1 none false :: AV.bool (Prod.snd r2) :: topA 2 (AV.own 2 1 none false :: AV.bool (Prod.snd r4) :: topA 2 (AV.int IntKind.i64 (Prod.fst r6) :: AV.bool (Prod.snd r6) :: topA 2 (AV.int IntKind.i64 (Prod.fst r8) :: AV.int IntKind.i64 (Prod.fst (Prod.snd r8)) :: AV.int IntKind.i64 (Prod.fst (Prod.snd (Prod.snd r8))) :: AV.bool (Prod.snd (Prod.snd (Prod.snd r8))) :: topA 4 (AV.int IntKind.i64 (Prod.fst r10) :: AV.int IntKind.i64 (Prod.fst (Prod.snd r10)) :: AV.bool (Prod.snd (Prod.snd r10)) :: topA 3 (AV.bool (Prod.fst r12) :: AV.bool (Prod.snd r12) :: topA 2 (AV.own 3 2 none false :: AV.bool (Prod.snd r14) :: topA 2 (AV.ptr 4 0 0 2 :: AV.ptr 5 0 0 2 :: AV.bool (Prod.snd (Prod.snd (Prod.snd (Prod.snd r16)))) :: AV.ptr 6 0 0 2 :: AV.ptr 7 0 0 2 :: AV.bool (Prod.snd (Prod.snd (Prod.snd (Prod.snd r17)))) :: topA 209 (AV.bool v255 :: tops 381))))))))), [Blk.rows Mode.live 2 (List.map ep r1), Blk.rows Mode.live 1 (List.map eI (Prod.fst r2)), Blk.rows Mode.live 1 (List.map eLI (Prod.fst r4)), Blk.rows Mode.live 2 (List.map ep (Prod.fst r14)), Blk.box (AV.agg [AV.int IntKind.i64 (Prod.fst r16), AV.int IntKind.i64 (Prod.fst (Prod.snd r16))]), Blk.box (AV.agg [AV.int IntKind.i64 (Prod.fst (Prod.snd (Prod.snd r16))), AV.int IntKind.i64 (Prod.fst (Prod.snd (Prod.snd (Prod.snd r16))))]), Blk.box (AV.agg [AV.int IntKind.i64 (Prod.fst r17), AV.int IntKind.i64 (Prod.fst (Prod.snd r17))]), Blk.box (AV.agg [AV.int IntKind.i64 (Prod.fst (Prod.snd (Prod.snd r17))), AV.int IntKind.i64 (Prod.fst (Prod.snd (Prod.snd (Prod.snd r17))))])])) (fun (v255 : Bool) => laws_FnThreesMeasured_j10 L b r1 r2 r4 r6 r8 r10 r12 r14 r16 r17 v255) ?_ fun J8 hJ8 => ?_
      ·intro v255
       show _ = Option.map _ (laws_FnThreesMeasured_j10 L b r1 r2 r4 r6 r8 r10 r12 r14 r16 r17 v255)
       unfold laws_FnThreesMeasured_j10
       conv => lhs; whnf
       refine t_join (fun (v275 : Bool) => (AV.top :: AV.lst ob cb 1 (List.map eU b) :: topA 3 (AV.own 0 2 none false :: AV.own 1 1 none false :: AV.bool (Prod.snd r2) :: topA 2 (AV.own 2 1 none false :: topA 3 (AV.int IntKind.i64 (Prod.fst r6) :: AV.bool (Prod.snd r6) :: topA 2 (AV.int IntKind.i64 (Prod.fst r8) :: AV.int IntKind.i64 (Prod.fst (Prod.snd r8)) :: AV.int IntKind.i64 (Prod.fst (Prod.snd (Prod.snd r8))) :: AV.bool (Prod.snd (Prod.snd (Prod.snd r8))) :: topA 4 (AV.int IntKind.i64 (Prod.fst r10) :: AV.int IntKind.i64 (Prod.fst (Prod.snd r10)) :: AV.bool (Prod.snd (Prod.snd r10)) :: topA 3 (AV.bool (Prod.fst r12) :: AV.bool (Prod.snd r12) :: topA 2 (AV.own 3 2 none false :: AV.bool (Prod.snd r14) :: topA 2 (AV.ptr 4 0 0 2 :: AV.ptr 5 0 0 2 :: AV.bool (Prod.snd (Prod.snd (Prod.snd (Prod.snd r16)))) :: topA 232 (AV.bool v275 :: tops 361))))))))), [Blk.rows Mode.live 2 (List.map ep r1), Blk.rows Mode.live 1 (List.map eI (Prod.fst r2)), Blk.rows Mode.live 1 (List.map eLI (Prod.fst r4)), Blk.rows Mode.live 2 (List.map ep (Prod.fst r14)), Blk.box (AV.agg [AV.int IntKind.i64 (Prod.fst r16), AV.int IntKind.i64 (Prod.fst (Prod.snd r16))]), Blk.box (AV.agg [AV.int IntKind.i64 (Prod.fst (Prod.snd (Prod.snd r16))), AV.int IntKind.i64 (Prod.fst (Prod.snd (Prod.snd (Prod.snd r16))))])])) (fun (v275 : Bool) => laws_FnThreesMeasured_j11 L b r1 r2 r4 r6 r8 r10 r12 r14 r16 v275) ?_ fun J9 hJ9 => ?_
       ·intro v275
        show _ = Option.map _ (laws_FnThreesMeasured_j11 L b r1 r2 r4 r6 r8 r10 r12 r14 r16 v275)
        unfold laws_FnThreesMeasured_j11
        conv => lhs; whnf
        refine t_join (fun (v295 : Bool) => (AV.top :: AV.lst ob cb 1 (List.map eU b) :: topA 3 (AV.own 0 2 none false :: AV.own 1 1 none false :: AV.bool (Prod.snd r2) :: topA 2 (AV.own 2 1 none false :: topA 3 (AV.int IntKind.i64 (Prod.fst r6) :: topA 3 (AV.int IntKind.i64 (Prod.fst r8) :: AV.int IntKind.i64 (Prod.fst (Prod.snd r8)) :: AV.int IntKind.i64 (Prod.fst (Prod.snd (Prod.snd r8))) :: topA 5 (AV.int IntKind.i64 (Prod.fst r10) :: AV.int IntKind.i64 (Prod.fst (Prod.snd r10)) :: topA 4 (AV.bool (Prod.fst r12) :: topA 3 (AV.own 3 2 none false :: AV.bool (Prod.snd r14) :: topA 2 (AV.ptr 4 0 0 2 :: AV.ptr 5 0 0 2 :: AV.bool (Prod.snd (Prod.snd (Prod.snd (Prod.snd r16)))) :: topA 252 (AV.bool v295 :: tops 341))))))))), [Blk.rows Mode.live 2 (List.map ep r1), Blk.rows Mode.live 1 (List.map eI (Prod.fst r2)), Blk.rows Mode.live 1 (List.map eLI (Prod.fst r4)), Blk.rows Mode.live 2 (List.map ep (Prod.fst r14)), Blk.box (AV.agg [AV.int IntKind.i64 (Prod.fst r16), AV.int IntKind.i64 (Prod.fst (Prod.snd r16))]), Blk.box (AV.agg [AV.int IntKind.i64 (Prod.fst (Prod.snd (Prod.snd r16))), AV.int IntKind.i64 (Prod.fst (Prod.snd (Prod.snd (Prod.snd r16))))])])) (fun (v295 : Bool) => laws_FnThreesMeasured_j12 L b r1 r2 r4 r6 r8 r10 r12 r14 r16 v295) ?_ fun J10 hJ10 => ?_
        ·intro v295
         show _ = Option.map _ (laws_FnThreesMeasured_j12 L b r1 r2 r4 r6 r8 r10 r12 r14 r16 v295)
         unfold laws_FnThreesMeasured_j12
         conv => lhs; whnf
         refine t_cond ?_ ?_
         ·conv => lhs; whnf
          exact t_ret (by first | rfl | simp only [ml] <;> rfl)
         ·conv => lhs; whnf
          refine t_cond ?_ ?_
          ·conv => lhs; whnf
           exact t_ret (by first | rfl | simp only [ml] <;> rfl)
          ·conv => lhs; whnf
           refine t_cond ?_ ?_
           ·conv => lhs; whnf
            refine t_cond ?_ ?_
            ·conv => lhs; whnf
             exact t_ret (by first | rfl | simp only [ml] <;> rfl)
            ·conv => lhs; whnf
             exact hJ () _ _ (by first | rfl | simp only [ml] <;> rfl) (by first | rfl | simp only [ml] <;> rfl)
           ·conv => lhs; whnf
            exact hJ () _ _ (by first | rfl | simp only [ml] <;> rfl) (by first | rfl | simp only [ml] <;> rfl)
        ·conv => lhs; whnf
         refine t_cond ?_ ?_
         ·conv => lhs; whnf
          exact hJ10 true _ _ (by first | rfl | simp only [ml] <;> rfl) (by first | rfl | simp only [ml] <;> rfl)
         ·conv => lhs; whnf
          refine t_cond ?_ ?_
          ·conv => lhs; whnf
           exact hJ10 true _ _ (by first | rfl | simp only [ml] <;> rfl) (by first | rfl | simp only [ml] <;> rfl)
          ·conv => lhs; whnf
           refine t_cond ?_ ?_
           ·conv => lhs; whnf
            exact hJ10 true _ _ (by first | rfl | simp only [ml] <;> rfl) (by first | rfl | simp only [ml] <;> rfl)
           ·conv => lhs; whnf
            refine t_cond ?_ ?_
            ·conv => lhs; whnf
             exact hJ10 true _ _ (by first | rfl | simp only [ml] <;> rfl) (by first | rfl | simp only [ml] <;> rfl)
            ·conv => lhs; whnf
             exact hJ10 (!beqb (Prod.snd r12) (Prod.snd r2)) _ _ (by first | rfl | simp only [ml] <;> rfl) (by first | rfl | simp only [ml] <;> rfl)
       ·conv => lhs; whnf
        refine t_cond ?_ ?_
        ·conv => lhs; whnf
         exact hJ9 true _ _ (by first | rfl | simp only [ml] <;> rfl) (by first | rfl | simp only [ml] <;> rfl)
        ·conv => lhs; whnf
         refine t_cond ?_ ?_
         ·conv => lhs; whnf
          exact hJ9 true _ _ (by first | rfl | simp only [ml] <;> rfl) (by first | rfl | simp only [ml] <;> rfl)
         ·conv => lhs; whnf
          refine t_cond ?_ ?_
          ·conv => lhs; whnf
           exact hJ9 true _ _ (by first | rfl | simp only [ml] <;> rfl) (by first | rfl | simp only [ml] <;> rfl)
          ·conv => lhs; whnf
           refine t_cond ?_ ?_
           ·conv => lhs; whnf
            exact hJ9 true _ _ (by first | rfl | simp only [ml] <;> rfl) (by first | rfl | simp only [ml] <;> rfl)
           ·conv => lhs; whnf
            exact hJ9 (!beqb (Prod.snd r4) (Prod.snd r2)) _ _ (by first | rfl | simp only [ml] <;> rfl) (by first | rfl | simp only [ml] <;> rfl)
      ·conv => lhs; whnf
       refine t_cond ?_ ?_
       ·conv => lhs; whnf
        exact hJ8 true _ _ (by first | rfl | simp only [ml] <;> rfl) (by first | rfl | simp only [ml] <;> rfl)
       ·conv => lhs; whnf
        refine t_cond ?_ ?_
        ·conv => lhs; whnf
         exact hJ8 true _ _ (by first | rfl | simp only [ml] <;> rfl) (by first | rfl | simp only [ml] <;> rfl)
        ·conv => lhs; whnf
         refine t_cond ?_ ?_
         ·conv => lhs; whnf
          exact hJ8 true _ _ (by first | rfl | simp only [ml] <;> rfl) (by first | rfl | simp only [ml] <;> rfl)
         ·conv => lhs; whnf
          refine t_cond ?_ ?_
          ·conv => lhs; whnf
           exact hJ8 true _ _ (by first | rfl | simp only [ml] <;> rfl) (by first | rfl | simp only [ml] <;> rfl)
          ·conv => lhs; whnf
           refine t_call (h_laws_zPegs _ _ _ (Prod.fst r14) (by first | rfl | simp only [ml] <;> rfl) _ _ _ (Prod.fst r15) (by first | rfl | simp only [ml] <;> rfl)) fun r31 => ?_
           conv => lhs; whnf
           exact hJ8 (!r31) _ _ (by first | rfl | simp only [ml] <;> rfl) (by first | rfl | simp only [ml] <;> rfl)
     ·conv => lhs; whnf
      refine t_cond ?_ ?_
      ·conv => lhs; whnf
       exact hJ7 true _ _ (by first | rfl | simp only [ml] <;> rfl) (by first | rfl | simp only [ml] <;> rfl)
      ·conv => lhs; whnf
       refine t_cond ?_ ?_
       ·conv => lhs; whnf
        exact hJ7 true _ _ (by first | rfl | simp only [ml] <;> rfl) (by first | rfl | simp only [ml] <;> rfl)
       ·conv => lhs; whnf
        refine t_cond ?_ ?_
        ·conv => lhs; whnf
         exact hJ7 true _ _ (by first | rfl | simp only [ml] <;> rfl) (by first | rfl | simp only [ml] <;> rfl)
        ·conv => lhs; whnf
         refine t_cond ?_ ?_
         ·conv => lhs; whnf
          exact hJ7 true _ _ (by first | rfl | simp only [ml] <;> rfl) (by first | rfl | simp only [ml] <;> rfl)
         ·conv => lhs; whnf
          exact hJ7 (!ieq (Prod.fst (Prod.snd r10)) (Prod.fst (Prod.snd r11))) _ _ (by first | rfl | simp only [ml] <;> rfl) (by first | rfl | simp only [ml] <;> rfl)
    ·conv => lhs; whnf
     refine t_cond ?_ ?_
     ·conv => lhs; whnf
      exact hJ6 true _ _ (by first | rfl | simp only [ml] <;> rfl) (by first | rfl | simp only [ml] <;> rfl)
     ·conv => lhs; whnf
      refine t_cond ?_ ?_
      ·conv => lhs; whnf
       exact hJ6 true _ _ (by first | rfl | simp only [ml] <;> rfl) (by first | rfl | simp only [ml] <;> rfl)
      ·conv => lhs; whnf
       refine t_cond ?_ ?_
       ·conv => lhs; whnf
        exact hJ6 true _ _ (by first | rfl | simp only [ml] <;> rfl) (by first | rfl | simp only [ml] <;> rfl)
       ·conv => lhs; whnf
        refine t_cond ?_ ?_
        ·conv => lhs; whnf
         exact hJ6 true _ _ (by first | rfl | simp only [ml] <;> rfl) (by first | rfl | simp only [ml] <;> rfl)
        ·conv => lhs; whnf
         exact hJ6 (!ieq (Prod.fst (Prod.snd r8)) (Prod.fst (Prod.snd r9))) _ _ (by first | rfl | simp only [ml] <;> rfl) (by first | rfl | simp only [ml] <;> rfl)
   ·conv => lhs; whnf
    refine t_cond ?_ ?_
    ·conv => lhs; whnf
     exact hJ5 true _ _ (by first | rfl | simp only [ml] <;> rfl) (by first | rfl | simp only [ml] <;> rfl)
    ·conv => lhs; whnf
     refine t_call (h_laws_zSame _ _ _ (Prod.fst r2) (by first | rfl | simp only [ml] <;> rfl) _ _ _ (Prod.fst r3) (by first | rfl | simp only [ml] <;> rfl)) fun r32 => ?_
     conv => lhs; whnf
     refine t_cond ?_ ?_
     ·conv => lhs; whnf
      exact hJ5 true _ _ (by first | rfl | simp only [ml] <;> rfl) (by first | rfl | simp only [ml] <;> rfl)
     ·conv => lhs; whnf
      refine t_cond ?_ ?_
      ·conv => lhs; whnf
       exact hJ5 true _ _ (by first | rfl | simp only [ml] <;> rfl) (by first | rfl | simp only [ml] <;> rfl)
      ·conv => lhs; whnf
       refine t_call (h_laws_zRows _ _ _ (Prod.fst r4) (by first | rfl | simp only [ml] <;> rfl) _ _ _ (Prod.fst r5) (by first | rfl | simp only [ml] <;> rfl)) fun r33 => ?_
       conv => lhs; whnf
       refine t_cond ?_ ?_
       ·conv => lhs; whnf
        exact hJ5 true _ _ (by first | rfl | simp only [ml] <;> rfl) (by first | rfl | simp only [ml] <;> rfl)
       ·conv => lhs; whnf
        exact hJ5 (!beqb (Prod.snd r6) (Prod.snd r7)) _ _ (by first | rfl | simp only [ml] <;> rfl) (by first | rfl | simp only [ml] <;> rfl)


end Go.AM
