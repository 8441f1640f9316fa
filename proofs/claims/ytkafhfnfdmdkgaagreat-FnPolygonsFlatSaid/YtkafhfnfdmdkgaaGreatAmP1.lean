import Derived.Test.YtkafhfnfdmdkgaaGreatAmP0
set_option linter.unusedVariables false
set_option linter.unusedSimpArgs false
set_option linter.unnecessarySimpa false
set_option linter.deprecated false
set_option linter.unusedSectionVars false
open Go Go.AM Go.Proofs
namespace Go.AM
set_option maxRecDepth 400000
set_option maxHeartbeats 40000000
noncomputable def spec_mvBefore_l0 (L : Nat) (a : List Pt) (b : List Pt) : Nat → Int → Option Bool
  | 0, _ => none
  | m + 1, v8 => bif ilt v8 (ilen (List.map ep a)) then (gbind (lget a v8) fun p => gbind (lget b v8) fun p1 => bif !(ieq p.x p1.x && ieq p.y p1.y) then (gbind (lget a v8) fun p2 => gbind (lget b v8) fun p3 => gbind (spec_pgLess L p2.x p2.y p3.x p3.y) fun r => some r) else (spec_mvBefore_l0 L a b m (wr .i64 (iadd v8 1)))) else (some false)
noncomputable def spec_mvBefore (L : Nat) (a : List Pt) (b : List Pt) : Option (Bool) := spec_mvBefore_l0 L a b L 0
def spec_mvBefore_ok (L : Nat) (C : CF) : Prop := ∀ (oa : Bool) (ca : Bool) (x_a : List AV) (a : List Pt) (_ : x_a = List.map ep a) (ob : Bool) (cb : Bool) (x_b : List AV) (b : List Pt) (_ : x_b = List.map ep b), C 86 ([.lst oa ca 2 x_a, .lst ob cb 2 x_b]) ([]) = Option.map (fun r : Bool => ((.bool r, []) : AV × List Blk)) (spec_mvBefore L a b)
theorem spec_mvBefore_run (L : Nat) (C : CF) (h_spec_pgLess : spec_pgLess_ok L C) : spec_mvBefore_ok L (fun _ => run T C sh (keep 86) L Tryz.f86) := by
 intro oa ca x_a a hx_a ob cb x_b b hx_b
 subst hx_a
 subst hx_b
 unfold spec_mvBefore
 conv=>lhs;whnf
 refine t_loop (fun (v8 : Int) => (AV.lst oa ca 2 (List.map ep a) :: AV.lst ob cb 2 (List.map ep b) :: topA 5 (AV.int .i64 (ilen (List.map ep a)) :: AV.int .i64 v8 :: tops 21), [])) (fun m (v8 : Int) => spec_mvBefore_l0 L a b m v8) (fun _ => rfl) (fun m v8 rec hrec => ?_) L 0 ?_ ?_
 rotate_left
 ·rfl
 ·rfl
 show _ = Option.map _ (spec_mvBefore_l0 L a b (m + 1) v8)
 rw [spec_mvBefore_l0.eq_2]
 conv=>lhs;whnf
 refine t_cond ?_ ?_
 ·conv=>lhs;whnf
  refine t_get (en := ep) (l := a) (by rfl) fun p => ?_
  conv=>lhs;whnf
  refine t_get (en := ep) (l := b) (by rfl) fun p1 => ?_
  conv=>lhs;whnf
  refine t_cond ?_ ?_
  ·conv=>lhs;whnf
   refine t_get (en := ep) (l := a) (by rfl) fun p2 => ?_
   conv=>lhs;whnf
   refine t_get (en := ep) (l := b) (by rfl) fun p3 => ?_
   conv=>lhs;whnf
   refine t_call (h_spec_pgLess p2.x p2.y p3.x p3.y) fun r => ?_
   conv=>lhs;whnf
   exact t_ret (by rfl)
  ·conv=>lhs;whnf
   exact hrec (wr .i64 (iadd v8 1)) _ _ (by rfl) (by rfl)
 ·conv=>lhs;whnf
  exact t_ret (by rfl)
noncomputable def spec_wiFar_l1 (L : Nat) (κ0 : (List Pt) → Int → (List Pt) → Int → Int → Int → Int → Int → Int → Int → Int → Int → Int → Option (Int × Int × Int × Int)) (v0 : List Pt) (v12 : List Pt) (v13 : Int) (v14 : Int) (b0_0 : Int) (b0_1 : Int) (b1_0 : Int) (b1_1 : Int) (p : Pt) : Nat → Int → Int → Int → Int → Int → Int → Option (Int × Int × Int × Int)
  | 0, _, _, _, _, _, _ => none
  | m1 + 1, v61, v20, b2_01, b2_11, b3_01, b3_11 => bif ilt v20 (ilen (List.map ep v0)) then (gbind (lget v0 v20) fun p1 => gbind (spec_trSquare L p.x p.y p1.x p1.y) fun r => gbind (spec_pgLess L p.x p.y p1.x p1.y) fun r1 => bif !r1 then (spec_wiFar_l1 L κ0 v0 v12 v13 v14 b0_0 b0_1 b1_0 b1_1 p m1 v61 (wr .i64 (iadd v20 1)) b2_01 b2_11 b3_01 b3_11) else (bif ilt r v61 then (spec_wiFar_l1 L κ0 v0 v12 v13 v14 b0_0 b0_1 b1_0 b1_1 p m1 v61 (wr .i64 (iadd v20 1)) b2_01 b2_11 b3_01 b3_11) else (bif ilt v61 r then (spec_wiFar_l1 L κ0 v0 v12 v13 v14 b0_0 b0_1 b1_0 b1_1 p m1 r (wr .i64 (iadd v20 1)) p.x p.y p1.x p1.y) else (gbind (spec_mvBefore L (p :: (p1 :: [])) ({ x := b2_01, y := b2_11 } :: ({ x := b3_01, y := b3_11 } :: []))) fun r2 => bif r2 then (spec_wiFar_l1 L κ0 v0 v12 v13 v14 b0_0 b0_1 b1_0 b1_1 p m1 r (wr .i64 (iadd v20 1)) p.x p.y p1.x p1.y) else (spec_wiFar_l1 L κ0 v0 v12 v13 v14 b0_0 b0_1 b1_0 b1_1 p m1 v61 (wr .i64 (iadd v20 1)) b2_01 b2_11 b3_01 b3_11))))) else (κ0 v0 v61 v12 v13 (wr .i64 (iadd v14 1)) b0_0 b0_1 b1_0 b1_1 b2_01 b2_11 b3_01 b3_11)
noncomputable def spec_wiFar_l0 (L : Nat) : Nat → (List Pt) → Int → (List Pt) → Int → Int → Int → Int → Int → Int → Int → Int → Int → Int → Option (Int × Int × Int × Int)
  | 0, _, _, _, _, _, _, _, _, _, _, _, _, _ => none
  | m + 1, v0, v6, v12, v13, v14, b0_0, b0_1, b1_0, b1_1, b2_0, b2_1, b3_0, b3_1 => bif ilt v14 v13 then (gbind (lget v12 v14) fun p => spec_wiFar_l1 L (spec_wiFar_l0 L m) v0 v12 v13 v14 b0_0 b0_1 b1_0 b1_1 p L v6 0 b2_0 b2_1 b3_0 b3_1) else (some ((b2_0, b2_1, b3_0, b3_1)))
noncomputable def spec_wiFar (L : Nat) (a : List Pt) : Option (Int × Int × Int × Int) := spec_wiFar_l0 L L a 0 a (ilen (List.map ep a)) 0 0 0 0 0 0 0 0 0
def spec_wiFar_ok (L : Nat) (C : CF) : Prop := ∀ (oa : Bool) (ca : Bool) (x_a : List AV) (a : List Pt) (_ : x_a = List.map ep a), C 45 ([.lst oa ca 2 x_a]) ([]) = Option.map (fun r : Int × Int × Int × Int => ((.tup [.agg [.int .i64 (r.1), .int .i64 (r.2.1)], .agg [.int .i64 (r.2.2.1), .int .i64 (r.2.2.2)]], []) : AV × List Blk)) (spec_wiFar L a)
theorem spec_wiFar_run (L : Nat) (C : CF) (h_spec_trSquare : spec_trSquare_ok L C) (h_spec_pgLess : spec_pgLess_ok L C) (h_spec_mvBefore : spec_mvBefore_ok L C) : spec_wiFar_ok L (fun _ => run T C sh (keep 45) L Tryz.f45) := by
 intro oa ca x_a a hx_a
 subst hx_a
 unfold spec_wiFar
 conv=>lhs;whnf
 refine t_loop (fun (⟨v0, v6, v12, v13, v14, b0_0, b0_1, b1_0, b1_1, b2_0, b2_1, b3_0, b3_1⟩ : (List Pt) × Int × (List Pt) × Int × Int × Int × Int × Int × Int × Int × Int × Int × Int) => (AV.lst oa ca 2 (List.map ep v0) :: AV.top :: AV.ptr 0 0 0 2 :: AV.ptr 1 0 0 2 :: AV.ptr 2 0 0 2 :: AV.ptr 3 0 0 2 :: AV.int .i64 v6 :: topA 5 (AV.lst oa ca 2 (List.map ep v12) :: AV.int .i64 v13 :: AV.int .i64 v14 :: tops 40), [Blk.box (AV.agg [AV.int .i64 b0_0, AV.int .i64 b0_1]), Blk.box (AV.agg [AV.int .i64 b1_0, AV.int .i64 b1_1]), Blk.box (AV.agg [AV.int .i64 b2_0, AV.int .i64 b2_1]), Blk.box (AV.agg [AV.int .i64 b3_0, AV.int .i64 b3_1])])) (fun m (⟨v0, v6, v12, v13, v14, b0_0, b0_1, b1_0, b1_1, b2_0, b2_1, b3_0, b3_1⟩ : (List Pt) × Int × (List Pt) × Int × Int × Int × Int × Int × Int × Int × Int × Int × Int) => spec_wiFar_l0 L m v0 v6 v12 v13 v14 b0_0 b0_1 b1_0 b1_1 b2_0 b2_1 b3_0 b3_1) (fun _ => rfl) (fun m s rec hrec => ?_) L ((a, 0, a, ilen (List.map ep a), 0, 0, 0, 0, 0, 0, 0, 0, 0)) ?_ ?_
 rotate_left
 ·rfl
 ·rfl
 obtain ⟨v0, v6, v12, v13, v14, b0_0, b0_1, b1_0, b1_1, b2_0, b2_1, b3_0, b3_1⟩ := s
 show _ = Option.map _ (spec_wiFar_l0 L (m + 1) v0 v6 v12 v13 v14 b0_0 b0_1 b1_0 b1_1 b2_0 b2_1 b3_0 b3_1)
 rw [spec_wiFar_l0.eq_2]
 conv=>lhs;whnf
 refine t_cond ?_ ?_
 ·conv=>lhs;whnf
  refine t_get (en := ep) (l := v12) (by rfl) fun p => ?_
  conv=>lhs;whnf
  refine t_loop (fun (⟨v61, v20, b2_01, b2_11, b3_01, b3_11⟩ : Int × Int × Int × Int × Int × Int) => (AV.lst oa ca 2 (List.map ep v0) :: AV.top :: AV.ptr 0 0 0 2 :: AV.ptr 1 0 0 2 :: AV.ptr 2 0 0 2 :: AV.ptr 3 0 0 2 :: AV.int .i64 v61 :: AV.top :: AV.ptr 4 0 0 2 :: topA 3 (AV.lst oa ca 2 (List.map ep v12) :: AV.int .i64 v13 :: AV.int .i64 v14 :: topA 3 (AV.lst oa ca 2 (List.map ep v0) :: AV.int .i64 (ilen (List.map ep v0)) :: AV.int .i64 v20 :: tops 34)), [Blk.box (AV.agg [AV.int .i64 b0_0, AV.int .i64 b0_1]), Blk.box (AV.agg [AV.int .i64 b1_0, AV.int .i64 b1_1]), Blk.box (AV.agg [AV.int .i64 b2_01, AV.int .i64 b2_11]), Blk.box (AV.agg [AV.int .i64 b3_01, AV.int .i64 b3_11]), Blk.box (AV.agg [AV.int .i64 p.x, AV.int .i64 p.y])])) (fun m1 (⟨v61, v20, b2_01, b2_11, b3_01, b3_11⟩ : Int × Int × Int × Int × Int × Int) => spec_wiFar_l1 L (spec_wiFar_l0 L m) v0 v12 v13 v14 b0_0 b0_1 b1_0 b1_1 p m1 v61 v20 b2_01 b2_11 b3_01 b3_11) (fun _ => rfl) (fun m1 s1 rec1 hrec1 => ?_) L ((v6, 0, b2_0, b2_1, b3_0, b3_1)) ?_ ?_
  rotate_left
  ·rfl
  ·rfl
  obtain ⟨v61, v20, b2_01, b2_11, b3_01, b3_11⟩ := s1
  show _ = Option.map _ (spec_wiFar_l1 L (spec_wiFar_l0 L m) v0 v12 v13 v14 b0_0 b0_1 b1_0 b1_1 p (m1 + 1) v61 v20 b2_01 b2_11 b3_01 b3_11)
  rw [spec_wiFar_l1.eq_2]
  conv=>lhs;whnf
  refine t_cond ?_ ?_
  ·conv=>lhs;whnf
   refine t_get (en := ep) (l := v0) (by rfl) fun p1 => ?_
   conv=>lhs;whnf
   refine t_call (h_spec_trSquare p.x p.y p1.x p1.y) fun r => ?_
   conv=>lhs;whnf
   refine t_call (h_spec_pgLess p.x p.y p1.x p1.y) fun r1 => ?_
   conv=>lhs;whnf
   refine t_cond ?_ ?_
   ·conv=>lhs;whnf
    exact hrec1 ((v61, wr .i64 (iadd v20 1), b2_01, b2_11, b3_01, b3_11)) _ _ (by rfl) (by rfl)
   ·conv=>lhs;whnf
    refine t_cond ?_ ?_
    ·conv=>lhs;whnf
     exact hrec1 ((v61, wr .i64 (iadd v20 1), b2_01, b2_11, b3_01, b3_11)) _ _ (by rfl) (by rfl)
    ·conv=>lhs;whnf
     refine t_cond ?_ ?_
     ·conv=>lhs;whnf
      exact hrec1 ((r, wr .i64 (iadd v20 1), p.x, p.y, p1.x, p1.y)) _ _ (by rfl) (by rfl)
     ·conv=>lhs;whnf
      refine t_call (h_spec_mvBefore _ _ _ (p :: (p1 :: [])) (by rfl) _ _ _ ({ x := b2_01, y := b2_11 } :: ({ x := b3_01, y := b3_11 } :: [])) (by rfl)) fun r2 => ?_
      conv=>lhs;whnf
      refine t_cond ?_ ?_
      ·conv=>lhs;whnf
       exact hrec1 ((r, wr .i64 (iadd v20 1), p.x, p.y, p1.x, p1.y)) _ _ (by rfl) (by rfl)
      ·conv=>lhs;whnf
       exact hrec1 ((v61, wr .i64 (iadd v20 1), b2_01, b2_11, b3_01, b3_11)) _ _ (by rfl) (by rfl)
  ·conv=>lhs;whnf
   exact hrec ((v0, v61, v12, v13, wr .i64 (iadd v14 1), b0_0, b0_1, b1_0, b1_1, b2_01, b2_11, b3_01, b3_11)) _ _ (by rfl) (by rfl)
 ·conv=>lhs;whnf
  exact t_ret (by rfl)
noncomputable def spec_FarthestCorners (L : Nat) (a : List Pt) : Option (Int × Int × Int × Int × Bool) := gbind (spec_pgGood L a) fun r => bif !r then (some ((0, 0, 0, 0, false))) else (gbind (spec_wiFar L a) fun r1 => some ((r1.1, r1.2.1, r1.2.2.1, r1.2.2.2, true)))
def spec_FarthestCorners_ok (L : Nat) (C : CF) : Prop := ∀ (oa : Bool) (ca : Bool) (x_a : List AV) (a : List Pt) (_ : x_a = List.map ep a), C 20 ([.lst oa ca 2 x_a]) ([]) = Option.map (fun r : Int × Int × Int × Int × Bool => ((.tup [.agg [.int .i64 (r.1), .int .i64 (r.2.1)], .agg [.int .i64 (r.2.2.1), .int .i64 (r.2.2.2.1)], .bool (r.2.2.2.2)], []) : AV × List Blk)) (spec_FarthestCorners L a)
theorem spec_FarthestCorners_run (L : Nat) (C : CF) (h_spec_pgGood : spec_pgGood_ok L C) (h_spec_wiFar : spec_wiFar_ok L C) : spec_FarthestCorners_ok L (fun _ => run T C sh (keep 20) L Tryz.f20) := by
 intro oa ca x_a a hx_a
 subst hx_a
 unfold spec_FarthestCorners
 conv=>lhs;whnf
 refine t_call (h_spec_pgGood _ _ _ a (by rfl)) fun r => ?_
 conv=>lhs;whnf
 refine t_cond ?_ ?_
 ·conv=>lhs;whnf
  exact t_ret (by rfl)
 ·conv=>lhs;whnf
  refine t_call (h_spec_wiFar _ _ _ a (by rfl)) fun r1 => ?_
  conv=>lhs;whnf
  exact t_ret (by rfl)
noncomputable def impl_FarSquare (L : Nat) (a : List Pt) : Option (Int × Bool) := gbind (impl_FarthestCorners L a) fun r => gbind (impl_Peg_less L r.1 r.2.1 r.2.2.1 r.2.2.2.1) fun r1 => gbind (impl_Peg_square L r1.1 r1.2) fun r2 => some ((r2, r.2.2.2.2))
def impl_FarSquare_ok (L : Nat) (C : CF) : Prop := ∀ (oa : Bool) (ca : Bool) (x_a : List AV) (a : List Pt) (_ : x_a = List.map ep a), C 21 ([.lst oa ca 2 x_a]) ([]) = Option.map (fun r : Int × Bool => ((.tup [.int .i64 (r.1), .bool (r.2)], []) : AV × List Blk)) (impl_FarSquare L a)
theorem impl_FarSquare_run (L : Nat) (C : CF) (h_impl_Peg_less : impl_Peg_less_ok L C) (h_impl_Peg_square : impl_Peg_square_ok L C) (h_impl_FarthestCorners : impl_FarthestCorners_ok L C) : impl_FarSquare_ok L (fun _ => run T C sh (keep 21) L Tryz.f21) := by
 intro oa ca x_a a hx_a
 subst hx_a
 unfold impl_FarSquare
 conv=>lhs;whnf
 refine t_call (h_impl_FarthestCorners _ _ _ a (by rfl)) fun r => ?_
 conv=>lhs;whnf
 refine t_call (h_impl_Peg_less r.1 r.2.1 r.2.2.1 r.2.2.2.1) fun r1 => ?_
 conv=>lhs;whnf
 refine t_call (h_impl_Peg_square r1.1 r1.2) fun r2 => ?_
 conv=>lhs;whnf
 exact t_ret (by rfl)
noncomputable def spec_FarSquare (L : Nat) (a : List Pt) : Option (Int × Bool) := gbind (spec_pgGood L a) fun r => bif !r then (some ((0, false))) else (gbind (spec_wiFar L a) fun r1 => gbind (spec_trSquare L r1.1 r1.2.1 r1.2.2.1 r1.2.2.2) fun r2 => some ((r2, true)))
def spec_FarSquare_ok (L : Nat) (C : CF) : Prop := ∀ (oa : Bool) (ca : Bool) (x_a : List AV) (a : List Pt) (_ : x_a = List.map ep a), C 22 ([.lst oa ca 2 x_a]) ([]) = Option.map (fun r : Int × Bool => ((.tup [.int .i64 (r.1), .bool (r.2)], []) : AV × List Blk)) (spec_FarSquare L a)
theorem spec_FarSquare_run (L : Nat) (C : CF) (h_spec_pgGood : spec_pgGood_ok L C) (h_spec_trSquare : spec_trSquare_ok L C) (h_spec_wiFar : spec_wiFar_ok L C) : spec_FarSquare_ok L (fun _ => run T C sh (keep 22) L Tryz.f22) := by
 intro oa ca x_a a hx_a
 subst hx_a
 unfold spec_FarSquare
 conv=>lhs;whnf
 refine t_call (h_spec_pgGood _ _ _ a (by rfl)) fun r => ?_
 conv=>lhs;whnf
 refine t_cond ?_ ?_
 ·conv=>lhs;whnf
  exact t_ret (by rfl)
 ·conv=>lhs;whnf
  refine t_call (h_spec_wiFar _ _ _ a (by rfl)) fun r1 => ?_
  conv=>lhs;whnf
  refine t_call (h_spec_trSquare r1.1 r1.2.1 r1.2.2.1 r1.2.2.2) fun r2 => ?_
  conv=>lhs;whnf
  exact t_ret (by rfl)
noncomputable def spec_BoxOf (L : Nat) (a : List Pt) : Option (Int × Int × Int × Int × Bool) := gbind (spec_pgGood L a) fun r => bif !r then (some ((0, 0, 0, 0, false))) else (gbind (spec_wiRange L a 1 0) fun r1 => gbind (spec_wiRange L a 0 1) fun r2 => some ((r1.1, r2.1, r1.2, r2.2, true)))
def spec_BoxOf_ok (L : Nat) (C : CF) : Prop := ∀ (oa : Bool) (ca : Bool) (x_a : List AV) (a : List Pt) (_ : x_a = List.map ep a), C 23 ([.lst oa ca 2 x_a]) ([]) = Option.map (fun r : Int × Int × Int × Int × Bool => ((.tup [.agg [.int .i64 (r.1), .int .i64 (r.2.1)], .agg [.int .i64 (r.2.2.1), .int .i64 (r.2.2.2.1)], .bool (r.2.2.2.2)], []) : AV × List Blk)) (spec_BoxOf L a)
theorem spec_BoxOf_run (L : Nat) (C : CF) (h_spec_pgGood : spec_pgGood_ok L C) (h_spec_wiRange : spec_wiRange_ok L C) : spec_BoxOf_ok L (fun _ => run T C sh (keep 23) L Tryz.f23) := by
 intro oa ca x_a a hx_a
 subst hx_a
 unfold spec_BoxOf
 conv=>lhs;whnf
 refine t_call (h_spec_pgGood _ _ _ a (by rfl)) fun r => ?_
 conv=>lhs;whnf
 refine t_cond ?_ ?_
 ·conv=>lhs;whnf
  exact t_ret (by rfl)
 ·conv=>lhs;whnf
  refine t_call (h_spec_wiRange _ _ _ a (by rfl) 1 0) fun r1 => ?_
  conv=>lhs;whnf
  refine t_call (h_spec_wiRange _ _ _ a (by rfl) 0 1) fun r2 => ?_
  conv=>lhs;whnf
  exact t_ret (by rfl)
noncomputable def laws_zLess_l0 (L : Nat) (a : List Pt) (b : List Pt) : Nat → Int → Option Bool
  | 0, _ => none
  | m + 1, v8 => bif ilt v8 (ilen (List.map ep a)) then (gbind (lget a v8) fun p => gbind (lget b v8) fun p1 => bif !(ieq p.x p1.x && ieq p.y p1.y) then (gbind (lget a v8) fun p2 => gbind (lget b v8) fun p3 => bif ilt p2.x p3.x then (some true) else (gbind (lget a v8) fun p4 => gbind (lget b v8) fun p5 => bif ieq p4.x p5.x then (gbind (lget a v8) fun p6 => gbind (lget b v8) fun p7 => some (ilt p6.y p7.y)) else (some false))) else (laws_zLess_l0 L a b m (wr .i64 (iadd v8 1)))) else (some false)
noncomputable def laws_zLess (L : Nat) (a : List Pt) (b : List Pt) : Option (Bool) := laws_zLess_l0 L a b L 0
def laws_zLess_ok (L : Nat) (C : CF) : Prop := ∀ (oa : Bool) (ca : Bool) (x_a : List AV) (a : List Pt) (_ : x_a = List.map ep a) (ob : Bool) (cb : Bool) (x_b : List AV) (b : List Pt) (_ : x_b = List.map ep b), C 24 ([.lst oa ca 2 x_a, .lst ob cb 2 x_b]) ([]) = Option.map (fun r : Bool => ((.bool r, []) : AV × List Blk)) (laws_zLess L a b)
theorem laws_zLess_run (L : Nat) (C : CF) : laws_zLess_ok L (fun _ => run T C sh (keep 24) L Tryz.f24) := by
 intro oa ca x_a a hx_a ob cb x_b b hx_b
 subst hx_a
 subst hx_b
 unfold laws_zLess
 conv=>lhs;whnf
 refine t_loop (fun (v8 : Int) => (AV.lst oa ca 2 (List.map ep a) :: AV.lst ob cb 2 (List.map ep b) :: topA 5 (AV.int .i64 (ilen (List.map ep a)) :: AV.int .i64 v8 :: tops 49), [])) (fun m (v8 : Int) => laws_zLess_l0 L a b m v8) (fun _ => rfl) (fun m v8 rec hrec => ?_) L 0 ?_ ?_
 rotate_left
 ·rfl
 ·rfl
 show _ = Option.map _ (laws_zLess_l0 L a b (m + 1) v8)
 rw [laws_zLess_l0.eq_2]
 conv=>lhs;whnf
 refine t_cond ?_ ?_
 ·conv=>lhs;whnf
  refine t_get (en := ep) (l := a) (by rfl) fun p => ?_
  conv=>lhs;whnf
  refine t_get (en := ep) (l := b) (by rfl) fun p1 => ?_
  conv=>lhs;whnf
  refine t_cond ?_ ?_
  ·conv=>lhs;whnf
   refine t_get (en := ep) (l := a) (by rfl) fun p2 => ?_
   conv=>lhs;whnf
   refine t_get (en := ep) (l := b) (by rfl) fun p3 => ?_
   conv=>lhs;whnf
   refine t_cond ?_ ?_
   ·conv=>lhs;whnf
    exact t_ret (by rfl)
   ·conv=>lhs;whnf
    refine t_get (en := ep) (l := a) (by rfl) fun p4 => ?_
    conv=>lhs;whnf
    refine t_get (en := ep) (l := b) (by rfl) fun p5 => ?_
    conv=>lhs;whnf
    refine t_cond ?_ ?_
    ·conv=>lhs;whnf
     refine t_get (en := ep) (l := a) (by rfl) fun p6 => ?_
     conv=>lhs;whnf
     refine t_get (en := ep) (l := b) (by rfl) fun p7 => ?_
     conv=>lhs;whnf
     exact t_ret (by rfl)
    ·conv=>lhs;whnf
     exact t_ret (by rfl)
  ·conv=>lhs;whnf
   exact hrec (wr .i64 (iadd v8 1)) _ _ (by rfl) (by rfl)
 ·conv=>lhs;whnf
  exact t_ret (by rfl)
noncomputable def impl_isDirection (L : Nat) (a : Int) (b : Int) : Option (Bool) := gbind (impl_within L a (-200) 200) fun r => bif r then (gbind (impl_within L b (-200) 200) fun r1 => bif r1 then (gbind (impl_divisor L a b) fun r2 => some (ieq r2 1)) else (some false)) else (some false)
def impl_isDirection_ok (L : Nat) (C : CF) : Prop := ∀ (a : Int) (b : Int), C 89 ([.int .i64 a, .int .i64 b]) ([]) = Option.map (fun r : Bool => ((.bool r, []) : AV × List Blk)) (impl_isDirection L a b)
theorem impl_isDirection_run (L : Nat) (C : CF) (h_impl_within : impl_within_ok L C) (h_impl_divisor : impl_divisor_ok L C) : impl_isDirection_ok L (fun _ => run T C sh (keep 89) L Tryz.f89) := by
 intro a b
 unfold impl_isDirection
 conv=>lhs;whnf
 refine t_call (h_impl_within a (-200) 200) fun r => ?_
 conv=>lhs;whnf
 refine t_cond ?_ ?_
 ·conv=>lhs;whnf
  refine t_call (h_impl_within b (-200) 200) fun r1 => ?_
  conv=>lhs;whnf
  refine t_cond ?_ ?_
  ·conv=>lhs;whnf
   refine t_call (h_impl_divisor a b) fun r2 => ?_
   conv=>lhs;whnf
   exact t_ret (by rfl)
  ·conv=>lhs;whnf
   exact t_ret (by rfl)
 ·conv=>lhs;whnf
  exact t_ret (by rfl)
noncomputable def impl_isWide (L : Nat) (a : List Pt) (b : Int) (c : Int) : Option (Bool) := gbind (impl_IsPolygon L a) fun r => bif r then (gbind (impl_isDirection L b c) fun r1 => some r1) else (some false)
def impl_isWide_ok (L : Nat) (C : CF) : Prop := ∀ (oa : Bool) (ca : Bool) (x_a : List AV) (a : List Pt) (_ : x_a = List.map ep a) (b : Int) (c : Int), C 50 ([.lst oa ca 2 x_a, .int .i64 b, .int .i64 c]) ([]) = Option.map (fun r : Bool => ((.bool r, []) : AV × List Blk)) (impl_isWide L a b c)
theorem impl_isWide_run (L : Nat) (C : CF) (h_impl_IsPolygon : impl_IsPolygon_ok L C) (h_impl_isDirection : impl_isDirection_ok L C) : impl_isWide_ok L (fun _ => run T C sh (keep 50) L Tryz.f50) := by
 intro oa ca x_a a hx_a b c
 subst hx_a
 unfold impl_isWide
 conv=>lhs;whnf
 refine t_call (h_impl_IsPolygon _ _ _ a (by rfl)) fun r => ?_
 conv=>lhs;whnf
 refine t_cond ?_ ?_
 ·conv=>lhs;whnf
  refine t_call (h_impl_isDirection b c) fun r1 => ?_
  conv=>lhs;whnf
  exact t_ret (by rfl)
 ·conv=>lhs;whnf
  exact t_ret (by rfl)
noncomputable def impl_WidthIn (L : Nat) (a : List Pt) (b : Int) (c : Int) : Option (Int × Bool) := gbind (impl_isWide L a b c) fun r => bif !r then (some ((0, false))) else (gbind (impl_width L a b c) fun r1 => some ((r1, true)))
def impl_WidthIn_ok (L : Nat) (C : CF) : Prop := ∀ (oa : Bool) (ca : Bool) (x_a : List AV) (a : List Pt) (_ : x_a = List.map ep a) (b : Int) (c : Int), C 25 ([.lst oa ca 2 x_a, .int .i64 b, .int .i64 c]) ([]) = Option.map (fun r : Int × Bool => ((.tup [.int .i64 (r.1), .bool (r.2)], []) : AV × List Blk)) (impl_WidthIn L a b c)
theorem impl_WidthIn_run (L : Nat) (C : CF) (h_impl_width : impl_width_ok L C) (h_impl_isWide : impl_isWide_ok L C) : impl_WidthIn_ok L (fun _ => run T C sh (keep 25) L Tryz.f25) := by
 intro oa ca x_a a hx_a b c
 subst hx_a
 unfold impl_WidthIn
 conv=>lhs;whnf
 refine t_call (h_impl_isWide _ _ _ a (by rfl) b c) fun r => ?_
 conv=>lhs;whnf
 refine t_cond ?_ ?_
 ·conv=>lhs;whnf
  exact t_ret (by rfl)
 ·conv=>lhs;whnf
  refine t_call (h_impl_width _ _ _ a (by rfl) b c) fun r1 => ?_
  conv=>lhs;whnf
  exact t_ret (by rfl)
noncomputable def laws_FnPolygonsFlat_l6 (L : Nat) (κ0 : Int → Int → Int → (List Pt) → Int → Int → Int → Int → Option Bool) (v40 : Int) (v365 : Int) (v366 : Int) (w0 : List Pt) (b1_0 : Int) (b1_1 : Int) (b2_0 : Int) (b2_1 : Int) (p : Pt) : Nat → Int → Option Bool
  | 0, _ => none
  | m1 + 1, v401 => bif ilt v401 v366 then (bif ile 0 v401 && ilt v401 v366 then (gbind (lget w0 (iadd 0 v401)) fun p1 => bif ilt v40 (wr .i64 (iadd (wr .i64 (imul (wr .i64 (isub p.x p1.x)) (wr .i64 (isub p.x p1.x)))) (wr .i64 (imul (wr .i64 (isub p.y p1.y)) (wr .i64 (isub p.y p1.y)))))) then (some false) else (laws_FnPolygonsFlat_l6 L κ0 v40 v365 v366 w0 b1_0 b1_1 b2_0 b2_1 p m1 (wr .i64 (iadd v401 1)))) else (none)) else (κ0 v40 v365 (wr .i64 (iadd v366 1)) w0 b1_0 b1_1 b2_0 b2_1)
noncomputable def laws_FnPolygonsFlat_l5 (L : Nat) : Nat → Int → Int → Int → (List Pt) → Int → Int → Int → Int → Option Bool
  | 0, _, _, _, _, _, _, _, _ => none
  | m + 1, v40, v365, v366, w0, b1_0, b1_1, b2_0, b2_1 => bif ilt v366 v365 then (bif ile 0 v366 && ilt v366 (ilen (List.map ep w0)) then (gbind (lget w0 v366) fun p => bif ilt p.x b1_0 then (some false) else (bif ilt b2_0 p.x then (some false) else (bif ilt p.y b1_1 then (some false) else (bif ilt b2_1 p.y then (some false) else (bif ile 0 v366 && ile v366 (ilen (List.map ep w0)) then (laws_FnPolygonsFlat_l6 L (laws_FnPolygonsFlat_l5 L m) v40 v365 v366 w0 b1_0 b1_1 b2_0 b2_1 p L 0) else (none)))))) else (none)) else (gbind (impl_WidthIn L w0 1 0) fun r14 => gbind (impl_WidthIn L w0 0 1) fun r15 => bif r14.2 then (bif ieq r14.1 (wr .i64 (isub b2_0 b1_0)) then (bif r15.2 then (some (ieq r15.1 (wr .i64 (isub b2_1 b1_1)))) else (some false)) else (some false)) else (some false))
noncomputable def laws_FnPolygonsFlat_j4 (L : Nat) (r6 : List Pt) (r7 : Int × Int × Int × Int × Bool) (r9 : Int × Bool) (r11 : Int × Int × Int × Int × Bool) (r12 : Int × Int × Int × Int × Bool) (v314 : Bool) : Option Bool := bif v314 then (some false) else (bif !(ieq r11.2.2.1 r12.2.2.1 && ieq r11.2.2.2.1 r12.2.2.2.1) then (some false) else (bif !beqb r9.2 r7.2.2.2.2 then (some false) else (bif !beqb r11.2.2.2.2 r7.2.2.2.2 then (some false) else (bif r7.2.2.2.2 then (bif !ieq (wr .i64 (iadd (wr .i64 (imul (wr .i64 (isub r7.1 r7.2.2.1)) (wr .i64 (isub r7.1 r7.2.2.1)))) (wr .i64 (imul (wr .i64 (isub r7.2.1 r7.2.2.2.1)) (wr .i64 (isub r7.2.1 r7.2.2.2.1)))))) r9.1 then (some false) else (gbind (laws_zLess L ({ x := r7.1, y := r7.2.1 } :: []) ({ x := r7.2.2.1, y := r7.2.2.2.1 } :: [])) fun r13 => bif !r13 then (some false) else (laws_FnPolygonsFlat_l5 L L r9.1 (ilen (List.map ep r6)) 0 r6 r11.1 r11.2.1 r11.2.2.1 r11.2.2.2.1))) else (some true)))))
noncomputable def laws_FnPolygonsFlat_j3 (L : Nat) (r6 : List Pt) (r7 : Int × Int × Int × Int × Bool) (r9 : Int × Bool) (r10 : Int × Bool) (r11 : Int × Int × Int × Int × Bool) (r12 : Int × Int × Int × Int × Bool) (v299 : Bool) : Option Bool := bif v299 then (laws_FnPolygonsFlat_j4 L r6 r7 r9 r11 r12 true) else (bif !ieq r9.1 r10.1 then (laws_FnPolygonsFlat_j4 L r6 r7 r9 r11 r12 true) else (bif !beqb r11.2.2.2.2 r12.2.2.2.2 then (laws_FnPolygonsFlat_j4 L r6 r7 r9 r11 r12 true) else (laws_FnPolygonsFlat_j4 L r6 r7 r9 r11 r12 (!(ieq r11.1 r12.1 && ieq r11.2.1 r12.2.1)))))
noncomputable def laws_FnPolygonsFlat_j2 (L : Nat) (b : List Int) : Option Bool := gbind (spec_DrawFarthestCorners L b) fun r6 => gbind (impl_FarthestCorners L r6) fun r7 => gbind (spec_FarthestCorners L r6) fun r8 => gbind (impl_FarSquare L r6) fun r9 => gbind (spec_FarSquare L r6) fun r10 => gbind (impl_BoxOf L r6) fun r11 => gbind (spec_BoxOf L r6) fun r12 => bif !beqb r7.2.2.2.2 r8.2.2.2.2 then (laws_FnPolygonsFlat_j3 L r6 r7 r9 r10 r11 r12 true) else (bif !(ieq r7.1 r8.1 && ieq r7.2.1 r8.2.1) then (laws_FnPolygonsFlat_j3 L r6 r7 r9 r10 r11 r12 true) else (bif !(ieq r7.2.2.1 r8.2.2.1 && ieq r7.2.2.2.1 r8.2.2.2.1) then (laws_FnPolygonsFlat_j3 L r6 r7 r9 r10 r11 r12 true) else (laws_FnPolygonsFlat_j3 L r6 r7 r9 r10 r11 r12 (!beqb r9.2 r10.2))))
noncomputable def laws_FnPolygonsFlat_j8 (L : Nat) (b : List Int) (r2 : List Pt × Bool) (r21 : Bool × Bool) (r22 : List Pt × Bool) (v227 : Bool) : Option Bool := bif v227 then (some false) else (bif !r21.2 then (some false) else (bif !r21.1 then (some false) else (bif !r22.2 then (some false) else (gbind (laws_zPegs L r22.1 r2.1) fun r23 => bif !r23 then (some false) else (laws_FnPolygonsFlat_j2 L b)))))
noncomputable def laws_FnPolygonsFlat_j7 (L : Nat) (b : List Int) (r2 : List Pt × Bool) (r17 : Int × Bool) (r18 : Int × Bool) (r19 : Int × Bool) (r20 : Int × Bool) (r21 : Bool × Bool) (r22 : List Pt × Bool) (v209 : Bool) : Option Bool := bif v209 then (laws_FnPolygonsFlat_j8 L b r2 r21 r22 true) else (bif !ieq r18.1 r17.1 then (laws_FnPolygonsFlat_j8 L b r2 r21 r22 true) else (bif !r19.2 then (laws_FnPolygonsFlat_j8 L b r2 r21 r22 true) else (bif !r20.2 then (laws_FnPolygonsFlat_j8 L b r2 r21 r22 true) else (laws_FnPolygonsFlat_j8 L b r2 r21 r22 (!ieq r19.1 r20.1)))))
noncomputable def laws_FnPolygonsFlat_j1 (L : Nat) (b : List Int) (r1 : List Pt) (r2 : List Pt × Bool) (r4 : Int × Int × Int × Int × Int × Int × Bool) : Option Bool := bif r2.2 then (gbind (impl_BoxOf L r2.1) fun r16 => gbind (impl_LeastWidth L r1) fun r17 => gbind (impl_LeastWidth L r2.1) fun r18 => gbind (impl_PegsInAll L r1) fun r19 => gbind (impl_PegsInAll L r2.1) fun r20 => gbind (impl_AreAlike L r1 r2.1) fun r21 => gbind (impl_MoveCorners L r4.1 r4.2.1 r4.2.2.1 r4.2.2.2.1 r4.2.2.2.2.1 r4.2.2.2.2.2.1 r1) fun r22 => bif !r16.2.2.2.2 then (laws_FnPolygonsFlat_j7 L b r2 r17 r18 r19 r20 r21 r22 true) else (bif !(ieq r16.1 0 && ieq r16.2.1 0) then (laws_FnPolygonsFlat_j7 L b r2 r17 r18 r19 r20 r21 r22 true) else (bif !r17.2 then (laws_FnPolygonsFlat_j7 L b r2 r17 r18 r19 r20 r21 r22 true) else (bif !ieq r16.2.2.2.1 r17.1 then (laws_FnPolygonsFlat_j7 L b r2 r17 r18 r19 r20 r21 r22 true) else (laws_FnPolygonsFlat_j7 L b r2 r17 r18 r19 r20 r21 r22 (!r18.2)))))) else (laws_FnPolygonsFlat_j2 L b)
noncomputable def laws_FnPolygonsFlat_j0 (L : Nat) (b : List Int) (r1 : List Pt) (r2 : List Pt × Bool) (r4 : Int × Int × Int × Int × Int × Int × Bool) : Option Bool := bif r4.2.2.2.2.2.2 then (gbind (impl_SideOfMove L r4.1 r4.2.1 r4.2.2.1 r4.2.2.2.1 r4.2.2.2.2.1 r4.2.2.2.2.2.1) fun r24 => gbind (impl_DirectionsOfWidth L r1) fun r25 => bif !r24.2 then (some false) else (bif !ieq r24.1 1 then (some false) else (bif !r25.2 then (some false) else (bif ile 0 0 && ilt 0 (ilen (List.map eLI r25.1)) then (gbind (lget r25.1 0) fun p2 => gbind (lget p2 0) fun p3 => bif !ieq r4.2.2.1 p3 then (some false) else (bif ile 0 0 && ilt 0 (ilen (List.map eLI r25.1)) then (gbind (lget r25.1 0) fun p4 => gbind (lget p4 1) fun p5 => bif !ieq r4.2.2.2.1 p5 then (some false) else (laws_FnPolygonsFlat_j1 L b r1 r2 r4)) else (none))) else (none))))) else (laws_FnPolygonsFlat_j1 L b r1 r2 r4)
noncomputable def laws_FnPolygonsFlat_j9 (L : Nat) (b : List Int) (r1 : List Pt) (r2 : List Pt × Bool) (r4 : Int × Int × Int × Int × Int × Int × Bool) (v101 : Bool) : Option Bool := bif v101 then (some false) else (bif r2.2 then (bif !r4.2.2.2.2.2.2 then (some false) else (laws_FnPolygonsFlat_j0 L b r1 r2 r4)) else (laws_FnPolygonsFlat_j0 L b r1 r2 r4))
noncomputable def laws_FnPolygonsFlat (L : Nat) (a : List Int) (b : List Int) : Option (Bool) := gbind (laws_big L a b) fun r => bif r then (some true) else (gbind (spec_DrawFlatPolygon L a) fun r1 => gbind (impl_FlatPolygon L r1) fun r2 => gbind (spec_FlatPolygon L r1) fun r3 => gbind (impl_FlatMove L r1) fun r4 => gbind (spec_FlatMove L r1) fun r5 => bif !beqb r2.2 r3.2 then (laws_FnPolygonsFlat_j9 L b r1 r2 r4 true) else (gbind (laws_zPegs L r2.1 r3.1) fun r26 => bif !r26 then (laws_FnPolygonsFlat_j9 L b r1 r2 r4 true) else (bif !beqb r4.2.2.2.2.2.2 r5.2.2.2.2.2.2 then (laws_FnPolygonsFlat_j9 L b r1 r2 r4 true) else (laws_FnPolygonsFlat_j9 L b r1 r2 r4 (!(ieq r4.1 r5.1 && (ieq r4.2.1 r5.2.1 && (ieq r4.2.2.1 r5.2.2.1 && (ieq r4.2.2.2.1 r5.2.2.2.1 && (ieq r4.2.2.2.2.1 r5.2.2.2.2.1 && ieq r4.2.2.2.2.2.1 r5.2.2.2.2.2.1))))))))))
def laws_FnPolygonsFlat_ok (L : Nat) (C : CF) : Prop := ∀ (oa : Bool) (ca : Bool) (x_a : List AV) (a : List Int) (_ : x_a = List.map eU a) (ob : Bool) (cb : Bool) (x_b : List AV) (b : List Int) (_ : x_b = List.map eU b), C 3 ([.lst oa ca 1 x_a, .lst ob cb 1 x_b]) ([]) = Option.map (fun r : Bool => ((.bool r, []) : AV × List Blk)) (laws_FnPolygonsFlat L a b)
theorem laws_FnPolygonsFlat_run (L : Nat) (C : CF) (h_laws_big : laws_big_ok L C) (h_spec_DrawFlatPolygon : spec_DrawFlatPolygon_ok L C) (h_impl_FlatMove : impl_FlatMove_ok L C) (h_impl_FlatPolygon : impl_FlatPolygon_ok L C) (h_spec_FlatMove : spec_FlatMove_ok L C) (h_spec_FlatPolygon : spec_FlatPolygon_ok L C) (h_laws_zPegs : laws_zPegs_ok L C) (h_impl_SideOfMove : impl_SideOfMove_ok L C) (h_impl_DirectionsOfWidth : impl_DirectionsOfWidth_ok L C) (h_impl_BoxOf : impl_BoxOf_ok L C) (h_impl_LeastWidth : impl_LeastWidth_ok L C) (h_impl_PegsInAll : impl_PegsInAll_ok L C) (h_impl_AreAlike : impl_AreAlike_ok L C) (h_impl_MoveCorners : impl_MoveCorners_ok L C) (h_spec_DrawFarthestCorners : spec_DrawFarthestCorners_ok L C) (h_impl_FarthestCorners : impl_FarthestCorners_ok L C) (h_spec_FarthestCorners : spec_FarthestCorners_ok L C) (h_impl_FarSquare : impl_FarSquare_ok L C) (h_spec_FarSquare : spec_FarSquare_ok L C) (h_spec_BoxOf : spec_BoxOf_ok L C) (h_laws_zLess : laws_zLess_ok L C) (h_impl_WidthIn : impl_WidthIn_ok L C) : laws_FnPolygonsFlat_ok L (fun _ => run T C sh (keep 3) L Tryz.f3) := by
 intro oa ca x_a a hx_a ob cb x_b b hx_b
 subst hx_a
 subst hx_b
 unfold laws_FnPolygonsFlat
 conv=>lhs;whnf
 refine t_call (h_laws_big _ _ _ a (by first | rfl | simp only [ml] <;> rfl) _ _ _ b (by first | rfl | simp only [ml] <;> rfl)) fun r => ?_
 conv=>lhs;whnf
 refine t_cond ?_ ?_
 ·conv=>lhs;whnf
  exact t_ret (by first | rfl | simp only [ml] <;> rfl)
 ·conv=>lhs;whnf
  refine t_call (h_spec_DrawFlatPolygon _ _ _ a (by first | rfl | simp only [ml] <;> rfl)) fun r1 => ?_
  conv=>lhs;whnf
  refine t_call (h_impl_FlatPolygon _ _ _ r1 (by first | rfl | simp only [ml] <;> rfl)) fun r2 => ?_
  conv=>lhs;whnf
  refine t_call (h_spec_FlatPolygon _ _ _ r1 (by first | rfl | simp only [ml] <;> rfl)) fun r3 => ?_
  conv=>lhs;whnf
  refine t_call (h_impl_FlatMove _ _ _ r1 (by first | rfl | simp only [ml] <;> rfl)) fun r4 => ?_
  conv=>lhs;whnf
  refine t_call (h_spec_FlatMove _ _ _ r1 (by first | rfl | simp only [ml] <;> rfl)) fun r5 => ?_
  conv=>lhs;whnf
  refine t_join (fun (_ : Unit) => (AV.top :: AV.lst ob cb 1 (List.map eU b) :: topA 3 (AV.own 0 2 none false :: AV.own 1 2 none false :: AV.bool r2.2 :: topA 2 (AV.ptr 2 0 0 6 :: AV.bool r4.2.2.2.2.2.2 :: tops 452)), [Blk.rows Mode.live 2 (List.map ep r1), Blk.rows Mode.live 2 (List.map ep r2.1), Blk.box (AV.agg [AV.int .i64 r4.1, AV.int .i64 r4.2.1, AV.int .i64 r4.2.2.1, AV.int .i64 r4.2.2.2.1, AV.int .i64 r4.2.2.2.2.1, AV.int .i64 r4.2.2.2.2.2.1])])) (fun (_ : Unit) => laws_FnPolygonsFlat_j0 L b r1 r2 r4) ?_ fun J hJ => ?_
  ·intro s
   show _ = Option.map _ (laws_FnPolygonsFlat_j0 L b r1 r2 r4)
   unfold laws_FnPolygonsFlat_j0
   conv=>lhs;whnf
   refine t_join (fun (_ : Unit) => (AV.top :: AV.lst ob cb 1 (List.map eU b) :: topA 3 (AV.own 0 2 none false :: AV.own 1 2 none false :: AV.bool r2.2 :: topA 2 (AV.ptr 2 0 0 6 :: tops 453)), [Blk.rows Mode.live 2 (List.map ep r1), Blk.rows Mode.live 2 (List.map ep r2.1), Blk.box (AV.agg [AV.int .i64 r4.1, AV.int .i64 r4.2.1, AV.int .i64 r4.2.2.1, AV.int .i64 r4.2.2.2.1, AV.int .i64 r4.2.2.2.2.1, AV.int .i64 r4.2.2.2.2.2.1])])) (fun (_ : Unit) => laws_FnPolygonsFlat_j1 L b r1 r2 r4) ?_ fun J1 hJ1 => ?_
   ·intro s1
    show _ = Option.map _ (laws_FnPolygonsFlat_j1 L b r1 r2 r4)
    unfold laws_FnPolygonsFlat_j1
    conv=>lhs;whnf
    refine t_join (fun (_ : Unit) => (AV.top :: AV.lst ob cb 1 (List.map eU b) :: tops 462, [])) (fun (_ : Unit) => laws_FnPolygonsFlat_j2 L b) ?_ fun J2 hJ2 => ?_
    ·intro s2
     show _ = Option.map _ (laws_FnPolygonsFlat_j2 L b)
     unfold laws_FnPolygonsFlat_j2
     conv=>lhs;whnf
     refine t_call (h_spec_DrawFarthestCorners _ _ _ b (by first | rfl | simp only [ml] <;> rfl)) fun r6 => ?_
     conv=>lhs;whnf
     refine t_call (h_impl_FarthestCorners _ _ _ r6 (by first | rfl | simp only [ml] <;> rfl)) fun r7 => ?_
     conv=>lhs;whnf
     refine t_call (h_spec_FarthestCorners _ _ _ r6 (by first | rfl | simp only [ml] <;> rfl)) fun r8 => ?_
     conv=>lhs;whnf
     refine t_call (h_impl_FarSquare _ _ _ r6 (by first | rfl | simp only [ml] <;> rfl)) fun r9 => ?_
     conv=>lhs;whnf
     refine t_call (h_spec_FarSquare _ _ _ r6 (by first | rfl | simp only [ml] <;> rfl)) fun r10 => ?_
     conv=>lhs;whnf
     refine t_call (h_impl_BoxOf _ _ _ r6 (by first | rfl | simp only [ml] <;> rfl)) fun r11 => ?_
     conv=>lhs;whnf
     refine t_call (h_spec_BoxOf _ _ _ r6 (by first | rfl | simp only [ml] <;> rfl)) fun r12 => ?_
     conv=>lhs;whnf
     refine t_join (fun (v299 : Bool) => (topA 33 (AV.own 0 2 none false :: AV.ptr 1 0 0 2 :: AV.ptr 2 0 0 2 :: AV.bool r7.2.2.2.2 :: topA 3 (AV.int .i64 r9.1 :: AV.bool r9.2 :: AV.int .i64 r10.1 :: AV.top :: AV.ptr 3 0 0 2 :: AV.ptr 4 0 0 2 :: AV.bool r11.2.2.2.2 :: AV.ptr 5 0 0 2 :: AV.ptr 6 0 0 2 :: AV.bool r12.2.2.2.2 :: topA 249 (AV.bool v299 :: tops 164))), [Blk.rows Mode.live 2 (List.map ep r6), Blk.box (AV.agg [AV.int .i64 r7.1, AV.int .i64 r7.2.1]), Blk.box (AV.agg [AV.int .i64 r7.2.2.1, AV.int .i64 r7.2.2.2.1]), Blk.box (AV.agg [AV.int .i64 r11.1, AV.int .i64 r11.2.1]), Blk.box (AV.agg [AV.int .i64 r11.2.2.1, AV.int .i64 r11.2.2.2.1]), Blk.box (AV.agg [AV.int .i64 r12.1, AV.int .i64 r12.2.1]), Blk.box (AV.agg [AV.int .i64 r12.2.2.1, AV.int .i64 r12.2.2.2.1])])) (fun (v299 : Bool) => laws_FnPolygonsFlat_j3 L r6 r7 r9 r10 r11 r12 v299) ?_ fun J3 hJ3 => ?_
     ·intro v299
      show _ = Option.map _ (laws_FnPolygonsFlat_j3 L r6 r7 r9 r10 r11 r12 v299)
      unfold laws_FnPolygonsFlat_j3
      conv=>lhs;whnf
      refine t_join (fun (v314 : Bool) => (topA 33 (AV.own 0 2 none false :: AV.ptr 1 0 0 2 :: AV.ptr 2 0 0 2 :: AV.bool r7.2.2.2.2 :: topA 3 (AV.int .i64 r9.1 :: AV.bool r9.2 :: topA 2 (AV.ptr 3 0 0 2 :: AV.ptr 4 0 0 2 :: AV.bool r11.2.2.2.2 :: AV.top :: AV.ptr 5 0 0 2 :: topA 265 (AV.bool v314 :: tops 149)))), [Blk.rows Mode.live 2 (List.map ep r6), Blk.box (AV.agg [AV.int .i64 r7.1, AV.int .i64 r7.2.1]), Blk.box (AV.agg [AV.int .i64 r7.2.2.1, AV.int .i64 r7.2.2.2.1]), Blk.box (AV.agg [AV.int .i64 r11.1, AV.int .i64 r11.2.1]), Blk.box (AV.agg [AV.int .i64 r11.2.2.1, AV.int .i64 r11.2.2.2.1]), Blk.box (AV.agg [AV.int .i64 r12.2.2.1, AV.int .i64 r12.2.2.2.1])])) (fun (v314 : Bool) => laws_FnPolygonsFlat_j4 L r6 r7 r9 r11 r12 v314) ?_ fun J4 hJ4 => ?_
      ·intro v314
       show _ = Option.map _ (laws_FnPolygonsFlat_j4 L r6 r7 r9 r11 r12 v314)
       unfold laws_FnPolygonsFlat_j4
       conv=>lhs;whnf
       refine t_cond ?_ ?_
       ·conv=>lhs;whnf
        exact t_ret (by first | rfl | simp only [ml] <;> rfl)
       ·conv=>lhs;whnf
        refine t_cond ?_ ?_
        ·conv=>lhs;whnf
         exact t_ret (by first | rfl | simp only [ml] <;> rfl)
        ·conv=>lhs;whnf
         refine t_cond ?_ ?_
         ·conv=>lhs;whnf
          exact t_ret (by first | rfl | simp only [ml] <;> rfl)
         ·conv=>lhs;whnf
          refine t_cond ?_ ?_
          ·conv=>lhs;whnf
           exact t_ret (by first | rfl | simp only [ml] <;> rfl)
          ·conv=>lhs;whnf
           refine t_cond ?_ ?_
           ·conv=>lhs;whnf
            refine t_cond ?_ ?_
            ·conv=>lhs;whnf
             exact t_ret (by first | rfl | simp only [ml] <;> rfl)
            ·conv=>lhs;whnf
             refine t_call (h_laws_zLess _ _ _ ({ x := r7.1, y := r7.2.1 } :: []) (by first | rfl | simp only [ml] <;> rfl) _ _ _ ({ x := r7.2.2.1, y := r7.2.2.2.1 } :: []) (by first | rfl | simp only [ml] <;> rfl)) fun r13 => ?_
             conv=>lhs;whnf
             refine t_cond ?_ ?_
             ·conv=>lhs;whnf
              exact t_ret (by first | rfl | simp only [ml] <;> rfl)
             ·conv=>lhs;whnf
              refine t_loop (fun (⟨v40, v365, v366, w0, b1_0, b1_1, b2_0, b2_1⟩ : Int × Int × Int × (List Pt) × Int × Int × Int × Int) => (topA 33 (AV.own 0 2 none false :: topA 6 (AV.int .i64 v40 :: topA 3 (AV.ptr 1 0 0 2 :: AV.ptr 2 0 0 2 :: topA 318 (AV.own 0 2 none false :: AV.int .i64 v365 :: AV.int .i64 v366 :: tops 97)))), [Blk.rows Mode.live 2 (List.map ep w0), Blk.box (AV.agg [AV.int .i64 b1_0, AV.int .i64 b1_1]), Blk.box (AV.agg [AV.int .i64 b2_0, AV.int .i64 b2_1])])) (fun m (⟨v40, v365, v366, w0, b1_0, b1_1, b2_0, b2_1⟩ : Int × Int × Int × (List Pt) × Int × Int × Int × Int) => laws_FnPolygonsFlat_l5 L m v40 v365 v366 w0 b1_0 b1_1 b2_0 b2_1) (fun _ => rfl) (fun m s5 rec hrec => ?_) L ((r9.1, ilen (List.map ep r6), 0, r6, r11.1, r11.2.1, r11.2.2.1, r11.2.2.2.1)) ?_ ?_
              rotate_left
              ·first | rfl | simp only [ml] <;> rfl
              ·first | rfl | simp only [ml] <;> rfl
              obtain ⟨v40, v365, v366, w0, b1_0, b1_1, b2_0, b2_1⟩ := s5
              show _ = Option.map _ (laws_FnPolygonsFlat_l5 L (m + 1) v40 v365 v366 w0 b1_0 b1_1 b2_0 b2_1)
              rw [laws_FnPolygonsFlat_l5.eq_2]
              conv=>lhs;whnf
              refine t_cond ?_ ?_
              ·conv=>lhs;whnf
               refine t_cond ?_ ?_
               ·conv=>lhs;whnf
                refine t_get (en := ep) (l := w0) (by first | rfl | simp only [ml] <;> rfl) fun p => ?_
                conv=>lhs;whnf
                refine t_cond ?_ ?_
                ·conv=>lhs;whnf
                 exact t_ret (by first | rfl | simp only [ml] <;> rfl)
                ·conv=>lhs;whnf
                 refine t_cond ?_ ?_
                 ·conv=>lhs;whnf
                  exact t_ret (by first | rfl | simp only [ml] <;> rfl)
                 ·conv=>lhs;whnf
                  refine t_cond ?_ ?_
                  ·conv=>lhs;whnf
                   exact t_ret (by first | rfl | simp only [ml] <;> rfl)
                  ·conv=>lhs;whnf
                   refine t_cond ?_ ?_
                   ·conv=>lhs;whnf
                    exact t_ret (by first | rfl | simp only [ml] <;> rfl)
                   ·conv=>lhs;whnf
                    refine t_cond ?_ ?_
                    ·conv=>lhs;whnf
                     refine t_loop (fun (v401 : Int) => (topA 33 (AV.own 0 2 none false :: topA 6 (AV.int .i64 v40 :: topA 3 (AV.ptr 1 0 0 2 :: AV.ptr 2 0 0 2 :: topA 5 (AV.ptr 3 0 0 2 :: topA 312 (AV.own 0 2 none false :: AV.int .i64 v365 :: AV.int .i64 v366 :: topA 32 (AV.own 0 2 (some (0, v366)) false :: AV.int .i64 v366 :: AV.int .i64 v401 :: tops 62)))))), [Blk.rows Mode.live 2 (List.map ep w0), Blk.box (AV.agg [AV.int .i64 b1_0, AV.int .i64 b1_1]), Blk.box (AV.agg [AV.int .i64 b2_0, AV.int .i64 b2_1]), Blk.box (AV.agg [AV.int .i64 p.x, AV.int .i64 p.y])])) (fun m1 (v401 : Int) => laws_FnPolygonsFlat_l6 L (laws_FnPolygonsFlat_l5 L m) v40 v365 v366 w0 b1_0 b1_1 b2_0 b2_1 p m1 v401) (fun _ => rfl) (fun m1 v401 rec1 hrec1 => ?_) L 0 ?_ ?_
                     rotate_left
                     ·first | rfl | simp only [ml] <;> rfl
                     ·first | rfl | simp only [ml] <;> rfl
                     show _ = Option.map _ (laws_FnPolygonsFlat_l6 L (laws_FnPolygonsFlat_l5 L m) v40 v365 v366 w0 b1_0 b1_1 b2_0 b2_1 p (m1 + 1) v401)
                     rw [laws_FnPolygonsFlat_l6.eq_2]
                     conv=>lhs;whnf
                     refine t_cond ?_ ?_
                     ·conv=>lhs;whnf
                      refine t_cond ?_ ?_
                      ·conv=>lhs;whnf
                       refine t_get (en := ep) (l := w0) (by first | rfl | simp only [ml] <;> rfl) fun p1 => ?_
                       conv=>lhs;whnf
                       refine t_cond ?_ ?_
                       ·conv=>lhs;whnf
                        exact t_ret (by first | rfl | simp only [ml] <;> rfl)
                       ·conv=>lhs;whnf
                        exact hrec1 (wr .i64 (iadd v401 1)) _ _ (by first | rfl | simp only [ml] <;> rfl) (by first | rfl | simp only [ml] <;> rfl)
                      ·conv=>lhs;whnf
                       exact t_none
                     ·conv=>lhs;whnf
                      exact hrec ((v40, v365, wr .i64 (iadd v366 1), w0, b1_0, b1_1, b2_0, b2_1)) _ _ (by first | rfl | simp only [ml] <;> rfl) (by first | rfl | simp only [ml] <;> rfl)
                    ·conv=>lhs;whnf
                     exact t_none
               ·conv=>lhs;whnf
                exact t_none
              ·conv=>lhs;whnf
               refine t_call (h_impl_WidthIn _ _ _ w0 (by first | rfl | simp only [ml] <;> rfl) 1 0) fun r14 => ?_
               conv=>lhs;whnf
               refine t_call (h_impl_WidthIn _ _ _ w0 (by first | rfl | simp only [ml] <;> rfl) 0 1) fun r15 => ?_
               conv=>lhs;whnf
               refine t_cond ?_ ?_
               ·conv=>lhs;whnf
                refine t_cond ?_ ?_
                ·conv=>lhs;whnf
                 refine t_cond ?_ ?_
                 ·conv=>lhs;whnf
                  exact t_ret (by first | rfl | simp only [ml] <;> rfl)
                 ·conv=>lhs;whnf
                  exact t_ret (by first | rfl | simp only [ml] <;> rfl)
                ·conv=>lhs;whnf
                 exact t_ret (by first | rfl | simp only [ml] <;> rfl)
               ·conv=>lhs;whnf
                exact t_ret (by first | rfl | simp only [ml] <;> rfl)
           ·conv=>lhs;whnf
            exact t_ret (by first | rfl | simp only [ml] <;> rfl)
      ·conv=>lhs;whnf
       refine t_cond ?_ ?_
       ·conv=>lhs;whnf
        exact hJ4 true _ _ (by first | rfl | simp only [ml] <;> rfl) (by first | rfl | simp only [ml] <;> rfl)
       ·conv=>lhs;whnf
        refine t_cond ?_ ?_
        ·conv=>lhs;whnf
         exact hJ4 true _ _ (by first | rfl | simp only [ml] <;> rfl) (by first | rfl | simp only [ml] <;> rfl)
        ·conv=>lhs;whnf
         refine t_cond ?_ ?_
         ·conv=>lhs;whnf
          exact hJ4 true _ _ (by first | rfl | simp only [ml] <;> rfl) (by first | rfl | simp only [ml] <;> rfl)
         ·conv=>lhs;whnf
          exact hJ4 (!(ieq r11.1 r12.1 && ieq r11.2.1 r12.2.1)) _ _ (by first | rfl | simp only [ml] <;> rfl) (by first | rfl | simp only [ml] <;> rfl)
     ·conv=>lhs;whnf
      refine t_cond ?_ ?_
      ·conv=>lhs;whnf
       exact hJ3 true _ _ (by first | rfl | simp only [ml] <;> rfl) (by first | rfl | simp only [ml] <;> rfl)
      ·conv=>lhs;whnf
       refine t_cond ?_ ?_
       ·conv=>lhs;whnf
        exact hJ3 true _ _ (by first | rfl | simp only [ml] <;> rfl) (by first | rfl | simp only [ml] <;> rfl)
       ·conv=>lhs;whnf
        refine t_cond ?_ ?_
        ·conv=>lhs;whnf
         exact hJ3 true _ _ (by first | rfl | simp only [ml] <;> rfl) (by first | rfl | simp only [ml] <;> rfl)
        ·conv=>lhs;whnf
         exact hJ3 (!beqb r9.2 r10.2) _ _ (by first | rfl | simp only [ml] <;> rfl) (by first | rfl | simp only [ml] <;> rfl)
    ·conv=>lhs;whnf
     refine t_cond ?_ ?_
     ·conv=>lhs;whnf
      refine t_call (h_impl_BoxOf _ _ _ r2.1 (by first | rfl | simp only [ml] <;> rfl)) fun r16 => ?_
      conv=>lhs;whnf
      refine t_call (h_impl_LeastWidth _ _ _ r1 (by first | rfl | simp only [ml] <;> rfl)) fun r17 => ?_
      conv=>lhs;whnf
      refine t_call (h_impl_LeastWidth _ _ _ r2.1 (by first | rfl | simp only [ml] <;> rfl)) fun r18 => ?_
      conv=>lhs;whnf
      refine t_call (h_impl_PegsInAll _ _ _ r1 (by first | rfl | simp only [ml] <;> rfl)) fun r19 => ?_
      conv=>lhs;whnf
      refine t_call (h_impl_PegsInAll _ _ _ r2.1 (by first | rfl | simp only [ml] <;> rfl)) fun r20 => ?_
      conv=>lhs;whnf
      refine t_call (h_impl_AreAlike _ _ _ r1 (by first | rfl | simp only [ml] <;> rfl) _ _ _ r2.1 (by first | rfl | simp only [ml] <;> rfl)) fun r21 => ?_
      conv=>lhs;whnf
      refine t_call (h_impl_MoveCorners r4.1 r4.2.1 r4.2.2.1 r4.2.2.2.1 r4.2.2.2.2.1 r4.2.2.2.2.2.1 _ _ _ r1 (by first | rfl | simp only [ml] <;> rfl)) fun r22 => ?_
      conv=>lhs;whnf
      refine t_join (fun (v209 : Bool) => (AV.top :: AV.lst ob cb 1 (List.map eU b) :: topA 4 (AV.own 0 2 none false :: topA 14 (AV.int .i64 r17.1 :: AV.top :: AV.int .i64 r18.1 :: AV.top :: AV.int .i64 r19.1 :: AV.bool r19.2 :: AV.int .i64 r20.1 :: AV.bool r20.2 :: AV.bool r21.1 :: AV.bool r21.2 :: AV.own 1 2 none false :: AV.bool r22.2 :: topA 176 (AV.bool v209 :: tops 254))), [Blk.rows Mode.live 2 (List.map ep r2.1), Blk.rows Mode.live 2 (List.map ep r22.1)])) (fun (v209 : Bool) => laws_FnPolygonsFlat_j7 L b r2 r17 r18 r19 r20 r21 r22 v209) ?_ fun J5 hJ5 => ?_
      ·intro v209
       show _ = Option.map _ (laws_FnPolygonsFlat_j7 L b r2 r17 r18 r19 r20 r21 r22 v209)
       unfold laws_FnPolygonsFlat_j7
       conv=>lhs;whnf
       refine t_join (fun (v227 : Bool) => (AV.top :: AV.lst ob cb 1 (List.map eU b) :: topA 4 (AV.own 0 2 none false :: topA 22 (AV.bool r21.1 :: AV.bool r21.2 :: AV.own 1 2 none false :: AV.bool r22.2 :: topA 194 (AV.bool v227 :: tops 236))), [Blk.rows Mode.live 2 (List.map ep r2.1), Blk.rows Mode.live 2 (List.map ep r22.1)])) (fun (v227 : Bool) => laws_FnPolygonsFlat_j8 L b r2 r21 r22 v227) ?_ fun J6 hJ6 => ?_
       ·intro v227
        show _ = Option.map _ (laws_FnPolygonsFlat_j8 L b r2 r21 r22 v227)
        unfold laws_FnPolygonsFlat_j8
        conv=>lhs;whnf
        refine t_cond ?_ ?_
        ·conv=>lhs;whnf
         exact t_ret (by first | rfl | simp only [ml] <;> rfl)
        ·conv=>lhs;whnf
         refine t_cond ?_ ?_
         ·conv=>lhs;whnf
          exact t_ret (by first | rfl | simp only [ml] <;> rfl)
         ·conv=>lhs;whnf
          refine t_cond ?_ ?_
          ·conv=>lhs;whnf
           exact t_ret (by first | rfl | simp only [ml] <;> rfl)
          ·conv=>lhs;whnf
           refine t_cond ?_ ?_
           ·conv=>lhs;whnf
            exact t_ret (by first | rfl | simp only [ml] <;> rfl)
           ·conv=>lhs;whnf
            refine t_call (h_laws_zPegs _ _ _ r22.1 (by first | rfl | simp only [ml] <;> rfl) _ _ _ r2.1 (by first | rfl | simp only [ml] <;> rfl)) fun r23 => ?_
            conv=>lhs;whnf
            refine t_cond ?_ ?_
            ·conv=>lhs;whnf
             exact t_ret (by first | rfl | simp only [ml] <;> rfl)
            ·conv=>lhs;whnf
             exact hJ2 () _ _ (by first | rfl | simp only [ml] <;> rfl) (by first | rfl | simp only [ml] <;> rfl)
       ·conv=>lhs;whnf
        refine t_cond ?_ ?_
        ·conv=>lhs;whnf
         exact hJ6 true _ _ (by first | rfl | simp only [ml] <;> rfl) (by first | rfl | simp only [ml] <;> rfl)
        ·conv=>lhs;whnf
         refine t_cond ?_ ?_
         ·conv=>lhs;whnf
          exact hJ6 true _ _ (by first | rfl | simp only [ml] <;> rfl) (by first | rfl | simp only [ml] <;> rfl)
         ·conv=>lhs;whnf
          refine t_cond ?_ ?_
          ·conv=>lhs;whnf
           exact hJ6 true _ _ (by first | rfl | simp only [ml] <;> rfl) (by first | rfl | simp only [ml] <;> rfl)
          ·conv=>lhs;whnf
           refine t_cond ?_ ?_
           ·conv=>lhs;whnf
            exact hJ6 true _ _ (by first | rfl | simp only [ml] <;> rfl) (by first | rfl | simp only [ml] <;> rfl)
           ·conv=>lhs;whnf
            exact hJ6 (!ieq r19.1 r20.1) _ _ (by first | rfl | simp only [ml] <;> rfl) (by first | rfl | simp only [ml] <;> rfl)
      ·conv=>lhs;whnf
       refine t_cond ?_ ?_
       ·conv=>lhs;whnf
        exact hJ5 true _ _ (by first | rfl | simp only [ml] <;> rfl) (by first | rfl | simp only [ml] <;> rfl)
       ·conv=>lhs;whnf
        refine t_cond ?_ ?_
        ·conv=>lhs;whnf
         exact hJ5 true _ _ (by first | rfl | simp only [ml] <;> rfl) (by first | rfl | simp only [ml] <;> rfl)
        ·conv=>lhs;whnf
         refine t_cond ?_ ?_
         ·conv=>lhs;whnf
          exact hJ5 true _ _ (by first | rfl | simp only [ml] <;> rfl) (by first | rfl | simp only [ml] <;> rfl)
         ·conv=>lhs;whnf
          refine t_cond ?_ ?_
          ·conv=>lhs;whnf
           exact hJ5 true _ _ (by first | rfl | simp only [ml] <;> rfl) (by first | rfl | simp only [ml] <;> rfl)
          ·conv=>lhs;whnf
           exact hJ5 (!r18.2) _ _ (by first | rfl | simp only [ml] <;> rfl) (by first | rfl | simp only [ml] <;> rfl)
     ·conv=>lhs;whnf
      exact hJ2 () _ _ (by first | rfl | simp only [ml] <;> rfl) (by first | rfl | simp only [ml] <;> rfl)
   ·conv=>lhs;whnf
    refine t_cond ?_ ?_
    ·conv=>lhs;whnf
     refine t_call (h_impl_SideOfMove r4.1 r4.2.1 r4.2.2.1 r4.2.2.2.1 r4.2.2.2.2.1 r4.2.2.2.2.2.1) fun r24 => ?_
     conv=>lhs;whnf
     refine t_call (h_impl_DirectionsOfWidth _ _ _ r1 (by first | rfl | simp only [ml] <;> rfl)) fun r25 => ?_
     conv=>lhs;whnf
     refine t_cond ?_ ?_
     ·conv=>lhs;whnf
      exact t_ret (by first | rfl | simp only [ml] <;> rfl)
     ·conv=>lhs;whnf
      refine t_cond ?_ ?_
      ·conv=>lhs;whnf
       exact t_ret (by first | rfl | simp only [ml] <;> rfl)
      ·conv=>lhs;whnf
       refine t_cond ?_ ?_
       ·conv=>lhs;whnf
        exact t_ret (by first | rfl | simp only [ml] <;> rfl)
       ·conv=>lhs;whnf
        refine t_cond ?_ ?_
        ·conv=>lhs;whnf
         refine t_get (en := eLI) (l := r25.1) (by first | rfl | simp only [ml] <;> rfl) fun p2 => ?_
         conv=>lhs;whnf
         refine t_get (en := eI) (l := p2) (by first | rfl | simp only [ml] <;> rfl) fun p3 => ?_
         conv=>lhs;whnf
         refine t_cond ?_ ?_
         ·conv=>lhs;whnf
          exact t_ret (by first | rfl | simp only [ml] <;> rfl)
         ·conv=>lhs;whnf
          refine t_cond ?_ ?_
          ·conv=>lhs;whnf
           refine t_get (en := eLI) (l := r25.1) (by first | rfl | simp only [ml] <;> rfl) fun p4 => ?_
           conv=>lhs;whnf
           refine t_get (en := eI) (l := p4) (by first | rfl | simp only [ml] <;> rfl) fun p5 => ?_
           conv=>lhs;whnf
           refine t_cond ?_ ?_
           ·conv=>lhs;whnf
            exact t_ret (by first | rfl | simp only [ml] <;> rfl)
           ·conv=>lhs;whnf
            exact hJ1 () _ _ (by first | rfl | simp only [ml] <;> rfl) (by first | rfl | simp only [ml] <;> rfl)
          ·conv=>lhs;whnf
           exact t_none
        ·conv=>lhs;whnf
         exact t_none
    ·conv=>lhs;whnf
     exact hJ1 () _ _ (by first | rfl | simp only [ml] <;> rfl) (by first | rfl | simp only [ml] <;> rfl)
  ·conv=>lhs;whnf
   refine t_join (fun (v101 : Bool) => (AV.top :: AV.lst ob cb 1 (List.map eU b) :: topA 3 (AV.own 0 2 none false :: AV.own 1 2 none false :: AV.bool r2.2 :: topA 2 (AV.ptr 2 0 0 6 :: AV.bool r4.2.2.2.2.2.2 :: topA 89 (AV.bool v101 :: tops 362))), [Blk.rows Mode.live 2 (List.map ep r1), Blk.rows Mode.live 2 (List.map ep r2.1), Blk.box (AV.agg [AV.int .i64 r4.1, AV.int .i64 r4.2.1, AV.int .i64 r4.2.2.1, AV.int .i64 r4.2.2.2.1, AV.int .i64 r4.2.2.2.2.1, AV.int .i64 r4.2.2.2.2.2.1])])) (fun (v101 : Bool) => laws_FnPolygonsFlat_j9 L b r1 r2 r4 v101) ?_ fun J7 hJ7 => ?_
   ·intro v101
    show _ = Option.map _ (laws_FnPolygonsFlat_j9 L b r1 r2 r4 v101)
    unfold laws_FnPolygonsFlat_j9
    conv=>lhs;whnf
    refine t_cond ?_ ?_
    ·conv=>lhs;whnf
     exact t_ret (by first | rfl | simp only [ml] <;> rfl)
    ·conv=>lhs;whnf
     refine t_cond ?_ ?_
     ·conv=>lhs;whnf
      refine t_cond ?_ ?_
      ·conv=>lhs;whnf
       exact t_ret (by first | rfl | simp only [ml] <;> rfl)
      ·conv=>lhs;whnf
       exact hJ () _ _ (by first | rfl | simp only [ml] <;> rfl) (by first | rfl | simp only [ml] <;> rfl)
     ·conv=>lhs;whnf
      exact hJ () _ _ (by first | rfl | simp only [ml] <;> rfl) (by first | rfl | simp only [ml] <;> rfl)
   ·conv=>lhs;whnf
    refine t_cond ?_ ?_
    ·conv=>lhs;whnf
     exact hJ7 true _ _ (by first | rfl | simp only [ml] <;> rfl) (by first | rfl | simp only [ml] <;> rfl)
    ·conv=>lhs;whnf
     refine t_call (h_laws_zPegs _ _ _ r2.1 (by first | rfl | simp only [ml] <;> rfl) _ _ _ r3.1 (by first | rfl | simp only [ml] <;> rfl)) fun r26 => ?_
     conv=>lhs;whnf
     refine t_cond ?_ ?_
     ·conv=>lhs;whnf
      exact hJ7 true _ _ (by first | rfl | simp only [ml] <;> rfl) (by first | rfl | simp only [ml] <;> rfl)
     ·conv=>lhs;whnf
      refine t_cond ?_ ?_
      ·conv=>lhs;whnf
       exact hJ7 true _ _ (by first | rfl | simp only [ml] <;> rfl) (by first | rfl | simp only [ml] <;> rfl)
      ·conv=>lhs;whnf
       exact hJ7 (!(ieq r4.1 r5.1 && (ieq r4.2.1 r5.2.1 && (ieq r4.2.2.1 r5.2.2.1 && (ieq r4.2.2.2.1 r5.2.2.2.1 && (ieq r4.2.2.2.2.1 r5.2.2.2.2.1 && ieq r4.2.2.2.2.2.1 r5.2.2.2.2.2.1)))))) _ _ (by first | rfl | simp only [ml] <;> rfl) (by first | rfl | simp only [ml] <;> rfl)
end Go.AM
