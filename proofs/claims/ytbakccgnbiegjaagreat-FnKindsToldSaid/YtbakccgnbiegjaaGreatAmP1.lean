import Derived.Test.YtbakccgnbiegjaaGreatAmP0
set_option linter.unusedVariables false
set_option linter.unusedSimpArgs false
set_option linter.unnecessarySimpa false
set_option linter.deprecated false
set_option linter.unusedSectionVars false
open Go Go.AM Go.Proofs
namespace Go.AM
set_option maxRecDepth 400000
set_option maxHeartbeats 40000000
noncomputable def spec_KindOfPolygon_l0 (L : Nat) (r1 : List Pt) : Nat → Int → Option ((List Pt) × Bool)
  | 0, _ => none
  | m + 1, v14 => bif ilt v14 (ilen (List.map ep r1)) then (gbind (lget r1 v14) fun p => gbind (spec_pgIs L p.x p.y) fun r2 => bif !r2 then (some (([], false))) else (spec_KindOfPolygon_l0 L r1 m (wr .i64 (iadd v14 1)))) else (some ((r1, true)))
noncomputable def spec_KindOfPolygon (L : Nat) (a : List Pt) : Option ((List Pt) × Bool) := gbind (spec_pgGood L a) fun r => bif !r then (some (([], false))) else (gbind (spec_mvKind L a) fun r1 => spec_KindOfPolygon_l0 L r1 L 0)
def spec_KindOfPolygon_ok (L : Nat) (C : CF) : Prop := ∀ (ca : Bool) (x_a : List AV) (a : List Pt) (_ : x_a = List.map ep a), C 28 ([.lst false ca 2 x_a]) ([]) = Option.map (fun r : (List Pt) × Bool => ((.tup [.lst false false 2 (List.map ep (r.1)), .bool (r.2)], []) : AV × List Blk)) (spec_KindOfPolygon L a)
theorem spec_KindOfPolygon_run (L : Nat) (C : CF) (h_spec_pgIs : spec_pgIs_ok L C) (h_spec_pgGood : spec_pgGood_ok L C) (h_spec_mvKind : spec_mvKind_ok L C) : ∀ (ca : Bool) (x_a : List AV) (a : List Pt) (_ : x_a = List.map ep a), run T C sh (keep 28) L Tryz.f28 ([.lst false ca 2 x_a]) ([]) = Option.map (fun r : (List Pt) × Bool => ((.tup [.lst false false 2 (List.map ep (r.1)), .bool (r.2)], []) : AV × List Blk)) (spec_KindOfPolygon L a) := by
 intro ca x_a a hx_a
 subst hx_a
 unfold spec_KindOfPolygon
 conv=>lhs;whnf
 refine t_call (h_spec_pgGood _ _ _ a (by rfl)) fun r => ?_
 conv=>lhs;whnf
 refine t_cond ?_ ?_
 ·conv=>lhs;whnf
  exact t_ret (by rfl)
 ·conv=>lhs;whnf
  refine t_call (h_spec_mvKind _ _ a (by rfl)) fun r1 => ?_
  conv=>lhs;whnf
  refine t_loop (fun (v14 : Int) => (topA 4 (AV.lst false false 2 (List.map ep r1) :: topA 7 (AV.lst false false 2 (List.map ep r1) :: AV.int .i64 (ilen (List.map ep r1)) :: AV.int .i64 v14 :: tops 8)), [])) (fun m (v14 : Int) => spec_KindOfPolygon_l0 L r1 m v14) (fun _ => rfl) (fun m v14 rec hrec => ?_) L 0 ?_ ?_
  rotate_left
  ·rfl
  ·rfl
  show _ = Option.map _ (spec_KindOfPolygon_l0 L r1 (m + 1) v14)
  rw [spec_KindOfPolygon_l0.eq_2]
  conv=>lhs;whnf
  refine t_cond ?_ ?_
  ·conv=>lhs;whnf
   refine t_get (en := ep) (l := r1) (by rfl) fun p => ?_
   conv=>lhs;whnf
   refine t_call (h_spec_pgIs p.x p.y) fun r2 => ?_
   conv=>lhs;whnf
   refine t_cond ?_ ?_
   ·conv=>lhs;whnf
    exact t_ret (by rfl)
   ·conv=>lhs;whnf
    exact hrec (wr .i64 (iadd v14 1)) _ _ (by rfl) (by rfl)
  ·conv=>lhs;whnf
   exact t_ret (by rfl)
noncomputable def laws_zRows_l0 (L : Nat) (a : List (List Int)) (b : List (List Int)) : Nat → Int → Option Bool
  | 0, _ => none
  | m + 1, v13 => bif ilt v13 (ilen (List.map eLI a)) then (gbind (lget a v13) fun p => gbind (lget b v13) fun p1 => gbind (laws_zSame L p p1) fun r => bif !r then (some false) else (laws_zRows_l0 L a b m (wr .i64 (iadd v13 1)))) else (some true)
noncomputable def laws_zRows (L : Nat) (a : List (List Int)) (b : List (List Int)) : Option (Bool) := bif !ieq (ilen (List.map eLI a)) (ilen (List.map eLI b)) then (some false) else (laws_zRows_l0 L a b L 0)
def laws_zRows_ok (L : Nat) (C : CF) : Prop := ∀ (oa : Bool) (ca : Bool) (x_a : List AV) (a : List (List Int)) (_ : x_a = List.map eLI a) (ob : Bool) (cb : Bool) (x_b : List AV) (b : List (List Int)) (_ : x_b = List.map eLI b), C 29 ([.lst oa ca 1 x_a, .lst ob cb 1 x_b]) ([]) = Option.map (fun r : Bool => ((.bool r, []) : AV × List Blk)) (laws_zRows L a b)
theorem laws_zRows_run (L : Nat) (C : CF) (h_laws_zSame : laws_zSame_ok L C) : ∀ (oa : Bool) (ca : Bool) (x_a : List AV) (a : List (List Int)) (_ : x_a = List.map eLI a) (ob : Bool) (cb : Bool) (x_b : List AV) (b : List (List Int)) (_ : x_b = List.map eLI b), run T C sh (keep 29) L Tryz.f29 ([.lst oa ca 1 x_a, .lst ob cb 1 x_b]) ([]) = Option.map (fun r : Bool => ((.bool r, []) : AV × List Blk)) (laws_zRows L a b) := by
 intro oa ca x_a a hx_a ob cb x_b b hx_b
 subst hx_a
 subst hx_b
 unfold laws_zRows
 conv=>lhs;whnf
 refine t_cond ?_ ?_
 ·conv=>lhs;whnf
  exact t_ret (by rfl)
 ·conv=>lhs;whnf
  refine t_loop (fun (v13 : Int) => (AV.lst oa ca 1 (List.map eLI a) :: AV.lst ob cb 1 (List.map eLI b) :: topA 10 (AV.int .i64 (ilen (List.map eLI a)) :: AV.int .i64 v13 :: tops 13), [])) (fun m (v13 : Int) => laws_zRows_l0 L a b m v13) (fun _ => rfl) (fun m v13 rec hrec => ?_) L 0 ?_ ?_
  rotate_left
  ·rfl
  ·rfl
  show _ = Option.map _ (laws_zRows_l0 L a b (m + 1) v13)
  rw [laws_zRows_l0.eq_2]
  conv=>lhs;whnf
  refine t_cond ?_ ?_
  ·conv=>lhs;whnf
   refine t_get (en := eLI) (l := a) (by rfl) fun p => ?_
   conv=>lhs;whnf
   refine t_get (en := eLI) (l := b) (by rfl) fun p1 => ?_
   conv=>lhs;whnf
   refine t_call (h_laws_zSame _ _ _ p (by rfl) _ _ _ p1 (by rfl)) fun r => ?_
   conv=>lhs;whnf
   refine t_cond ?_ ?_
   ·conv=>lhs;whnf
    exact t_ret (by rfl)
   ·conv=>lhs;whnf
    exact hrec (wr .i64 (iadd v13 1)) _ _ (by rfl) (by rfl)
  ·conv=>lhs;whnf
   exact t_ret (by rfl)
noncomputable def laws_zPegs_l0 (L : Nat) (a : List Pt) (b : List Pt) : Nat → Int → Option Bool
  | 0, _ => none
  | m + 1, v13 => bif ilt v13 (ilen (List.map ep a)) then (gbind (lget a v13) fun p => gbind (lget b v13) fun p1 => bif !(ieq p.x p1.x && ieq p.y p1.y) then (some false) else (laws_zPegs_l0 L a b m (wr .i64 (iadd v13 1)))) else (some true)
noncomputable def laws_zPegs (L : Nat) (a : List Pt) (b : List Pt) : Option (Bool) := bif !ieq (ilen (List.map ep a)) (ilen (List.map ep b)) then (some false) else (laws_zPegs_l0 L a b L 0)
def laws_zPegs_ok (L : Nat) (C : CF) : Prop := ∀ (oa : Bool) (ca : Bool) (x_a : List AV) (a : List Pt) (_ : x_a = List.map ep a) (ob : Bool) (cb : Bool) (x_b : List AV) (b : List Pt) (_ : x_b = List.map ep b), C 30 ([.lst oa ca 2 x_a, .lst ob cb 2 x_b]) ([]) = Option.map (fun r : Bool => ((.bool r, []) : AV × List Blk)) (laws_zPegs L a b)
theorem laws_zPegs_run (L : Nat) (C : CF) : ∀ (oa : Bool) (ca : Bool) (x_a : List AV) (a : List Pt) (_ : x_a = List.map ep a) (ob : Bool) (cb : Bool) (x_b : List AV) (b : List Pt) (_ : x_b = List.map ep b), run T C sh (keep 30) L Tryz.f30 ([.lst oa ca 2 x_a, .lst ob cb 2 x_b]) ([]) = Option.map (fun r : Bool => ((.bool r, []) : AV × List Blk)) (laws_zPegs L a b) := by
 intro oa ca x_a a hx_a ob cb x_b b hx_b
 subst hx_a
 subst hx_b
 unfold laws_zPegs
 conv=>lhs;whnf
 refine t_cond ?_ ?_
 ·conv=>lhs;whnf
  exact t_ret (by rfl)
 ·conv=>lhs;whnf
  refine t_loop (fun (v13 : Int) => (AV.lst oa ca 2 (List.map ep a) :: AV.lst ob cb 2 (List.map ep b) :: topA 10 (AV.int .i64 (ilen (List.map ep a)) :: AV.int .i64 v13 :: tops 12), [])) (fun m (v13 : Int) => laws_zPegs_l0 L a b m v13) (fun _ => rfl) (fun m v13 rec hrec => ?_) L 0 ?_ ?_
  rotate_left
  ·rfl
  ·rfl
  show _ = Option.map _ (laws_zPegs_l0 L a b (m + 1) v13)
  rw [laws_zPegs_l0.eq_2]
  conv=>lhs;whnf
  refine t_cond ?_ ?_
  ·conv=>lhs;whnf
   refine t_get (en := ep) (l := a) (by rfl) fun p => ?_
   conv=>lhs;whnf
   refine t_get (en := ep) (l := b) (by rfl) fun p1 => ?_
   conv=>lhs;whnf
   refine t_cond ?_ ?_
   ·conv=>lhs;whnf
    exact t_ret (by rfl)
   ·conv=>lhs;whnf
    exact hrec (wr .i64 (iadd v13 1)) _ _ (by rfl) (by rfl)
  ·conv=>lhs;whnf
   exact t_ret (by rfl)
noncomputable def impl_changed_impl_Move_bring_l0 (L : Nat) (a : List Pt) (b_a0_0 : Int) (b_a0_1 : Int) (b_a0_2 : Int) (b_a0_3 : Int) (b_a0_4 : Int) (b_a0_5 : Int) : Nat → Int → (List Pt) → Option ((List Pt) × Bool)
  | 0, _, _ => none
  | m + 1, v15, w0 => bif ilt v15 (ilen (List.map ep a)) then (gbind (lget a v15) fun p => gbind (impl_Move_bring L b_a0_0 b_a0_1 b_a0_2 b_a0_3 b_a0_4 b_a0_5 p.x p.y) fun r1 => bif fits (iadd (ilen (List.map ep w0)) (ilen [AV.agg [AV.int .i64 r1.1, AV.int .i64 r1.2]])) 16 then (impl_changed_impl_Move_bring_l0 L a b_a0_0 b_a0_1 b_a0_2 b_a0_3 b_a0_4 b_a0_5 m (wr .i64 (iadd v15 1)) (lcat w0 ({ x := r1.1, y := r1.2 } :: []))) else (none)) else (gbind (impl_arePegs L w0) fun r2 => bif !r2 then (some (([], false))) else (some ((w0, true))))
noncomputable def impl_changed_impl_Move_bring (L : Nat) (a : List Pt) (b_a0_0 : Int) (b_a0_1 : Int) (b_a0_2 : Int) (b_a0_3 : Int) (b_a0_4 : Int) (b_a0_5 : Int) : Option ((List Pt) × Bool) := gbind (impl_IsPolygon L a) fun r => bif !r then (some (([], false))) else (impl_changed_impl_Move_bring_l0 L a b_a0_0 b_a0_1 b_a0_2 b_a0_3 b_a0_4 b_a0_5 L 0 [])
def impl_changed_impl_Move_bring_ok (L : Nat) (C : CF) : Prop := ∀ (oa : Bool) (ca : Bool) (x_a : List AV) (a : List Pt) (_ : x_a = List.map ep a) (b_a0_0 : Int) (b_a0_1 : Int) (b_a0_2 : Int) (b_a0_3 : Int) (b_a0_4 : Int) (b_a0_5 : Int), C 84 ([(.lst oa ca 2 x_a), (.fn 85 [(.agg [(.int .i64 b_a0_0), (.int .i64 b_a0_1), (.int .i64 b_a0_2), (.int .i64 b_a0_3), (.int .i64 b_a0_4), (.int .i64 b_a0_5)])] [])]) ([]) = Option.map (fun r : (List Pt) × Bool => ((.tup [.frs 2 (List.map ep (r.1)), .bool (r.2)], []) : AV × List Blk)) (impl_changed_impl_Move_bring L a b_a0_0 b_a0_1 b_a0_2 b_a0_3 b_a0_4 b_a0_5)
theorem impl_changed_impl_Move_bring_run (L : Nat) (C : CF) (h_impl_arePegs : impl_arePegs_ok L C) (h_impl_IsPolygon : impl_IsPolygon_ok L C) (h_impl_Move_bring : impl_Move_bring_ok L C) : ∀ (oa : Bool) (ca : Bool) (x_a : List AV) (a : List Pt) (_ : x_a = List.map ep a) (b_a0_0 : Int) (b_a0_1 : Int) (b_a0_2 : Int) (b_a0_3 : Int) (b_a0_4 : Int) (b_a0_5 : Int), run T C sh (keep 84) L Tryz.f84 ([(.lst oa ca 2 x_a), (.fn 85 [(.agg [(.int .i64 b_a0_0), (.int .i64 b_a0_1), (.int .i64 b_a0_2), (.int .i64 b_a0_3), (.int .i64 b_a0_4), (.int .i64 b_a0_5)])] [])]) ([]) = Option.map (fun r : (List Pt) × Bool => ((.tup [.frs 2 (List.map ep (r.1)), .bool (r.2)], []) : AV × List Blk)) (impl_changed_impl_Move_bring L a b_a0_0 b_a0_1 b_a0_2 b_a0_3 b_a0_4 b_a0_5) := by
 intro oa ca x_a a hx_a b_a0_0 b_a0_1 b_a0_2 b_a0_3 b_a0_4 b_a0_5
 subst hx_a
 unfold impl_changed_impl_Move_bring
 conv=>lhs;whnf
 refine t_call (h_impl_IsPolygon _ _ _ a (by rfl)) fun r => ?_
 conv=>lhs;whnf
 refine t_cond ?_ ?_
 ·conv=>lhs;whnf
  exact t_ret (by rfl)
 ·conv=>lhs;whnf
  refine t_loop (fun (⟨v15, w0⟩ : Int × (List Pt)) => (AV.top :: AV.fn 85 [AV.agg [AV.int .i64 b_a0_0, AV.int .i64 b_a0_1, AV.int .i64 b_a0_2, AV.int .i64 b_a0_3, AV.int .i64 b_a0_4, AV.int .i64 b_a0_5]] [] :: topA 4 (AV.own 0 2 none false :: topA 6 (AV.lst oa ca 2 (List.map ep a) :: AV.int .i64 (ilen (List.map ep a)) :: AV.int .i64 v15 :: tops 14)), [Blk.rows Mode.live 2 (List.map ep w0)])) (fun m (⟨v15, w0⟩ : Int × (List Pt)) => impl_changed_impl_Move_bring_l0 L a b_a0_0 b_a0_1 b_a0_2 b_a0_3 b_a0_4 b_a0_5 m v15 w0) (fun _ => rfl) (fun m s rec hrec => ?_) L ((0, [])) ?_ ?_
  rotate_left
  ·rfl
  ·rfl
  obtain ⟨v15, w0⟩ := s
  show _ = Option.map _ (impl_changed_impl_Move_bring_l0 L a b_a0_0 b_a0_1 b_a0_2 b_a0_3 b_a0_4 b_a0_5 (m + 1) v15 w0)
  rw [impl_changed_impl_Move_bring_l0.eq_2]
  conv=>lhs;whnf
  refine t_cond ?_ ?_
  ·conv=>lhs;whnf
   refine t_get (en := ep) (l := a) (by rfl) fun p => ?_
   conv=>lhs;whnf
   refine t_call (h_impl_Move_bring b_a0_0 b_a0_1 b_a0_2 b_a0_3 b_a0_4 b_a0_5 p.x p.y) fun r1 => ?_
   conv=>lhs;whnf
   refine t_cond ?_ ?_
   ·conv=>lhs;whnf
    exact hrec ((wr .i64 (iadd v15 1), lcat w0 ({ x := r1.1, y := r1.2 } :: []))) _ _ (by rfl) (by first | rfl | simp only [ml] <;> rfl)
   ·conv=>lhs;whnf
    exact t_none
  ·conv=>lhs;whnf
   refine t_call (h_impl_arePegs _ _ _ w0 (by rfl)) fun r2 => ?_
   conv=>lhs;whnf
   refine t_cond ?_ ?_
   ·conv=>lhs;whnf
    exact t_ret (by rfl)
   ·conv=>lhs;whnf
    exact t_ret (by rfl)
noncomputable def impl_MoveCorners (L : Nat) (a_0 : Int) (a_1 : Int) (a_2 : Int) (a_3 : Int) (a_4 : Int) (a_5 : Int) (b : List Pt) : Option ((List Pt) × Bool) := gbind (impl_IsMove L a_0 a_1 a_2 a_3 a_4 a_5) fun r => bif !r then (some (([], false))) else (gbind (impl_changed_impl_Move_bring L b a_0 a_1 a_2 a_3 a_4 a_5) fun r1 => some ((r1.1, r1.2)))
def impl_MoveCorners_ok (L : Nat) (C : CF) : Prop := ∀ (a_0 : Int) (a_1 : Int) (a_2 : Int) (a_3 : Int) (a_4 : Int) (a_5 : Int) (ob : Bool) (cb : Bool) (x_b : List AV) (b : List Pt) (_ : x_b = List.map ep b), C 31 ([.agg [.int .i64 a_0, .int .i64 a_1, .int .i64 a_2, .int .i64 a_3, .int .i64 a_4, .int .i64 a_5], .lst ob cb 2 x_b]) ([]) = Option.map (fun r : (List Pt) × Bool => ((.tup [.frs 2 (List.map ep (r.1)), .bool (r.2)], []) : AV × List Blk)) (impl_MoveCorners L a_0 a_1 a_2 a_3 a_4 a_5 b)
theorem impl_MoveCorners_run (L : Nat) (C : CF) (h_impl_IsMove : impl_IsMove_ok L C) (h_impl_changed_impl_Move_bring : impl_changed_impl_Move_bring_ok L C) : ∀ (a_0 : Int) (a_1 : Int) (a_2 : Int) (a_3 : Int) (a_4 : Int) (a_5 : Int) (ob : Bool) (cb : Bool) (x_b : List AV) (b : List Pt) (_ : x_b = List.map ep b), run T C sh (keep 31) L Tryz.f31 ([.agg [.int .i64 a_0, .int .i64 a_1, .int .i64 a_2, .int .i64 a_3, .int .i64 a_4, .int .i64 a_5], .lst ob cb 2 x_b]) ([]) = Option.map (fun r : (List Pt) × Bool => ((.tup [.frs 2 (List.map ep (r.1)), .bool (r.2)], []) : AV × List Blk)) (impl_MoveCorners L a_0 a_1 a_2 a_3 a_4 a_5 b) := by
 intro a_0 a_1 a_2 a_3 a_4 a_5 ob cb x_b b hx_b
 subst hx_b
 unfold impl_MoveCorners
 conv=>lhs;whnf
 refine t_call (h_impl_IsMove a_0 a_1 a_2 a_3 a_4 a_5) fun r => ?_
 conv=>lhs;whnf
 refine t_cond ?_ ?_
 ·conv=>lhs;whnf
  exact t_ret (by rfl)
 ·conv=>lhs;whnf
  refine t_call (h_impl_changed_impl_Move_bring _ _ _ b (by rfl) a_0 a_1 a_2 a_3 a_4 a_5) fun r1 => ?_
  conv=>lhs;whnf
  exact t_ret (by rfl)
noncomputable def impl_first_l0 (L : Nat) (a : List Pt) : Nat → Int → Int → Option Int
  | 0, _, _ => none
  | m + 1, v3, v8 => bif ilt v8 (ilen (List.map ep a)) then (gbind (lget a v8) fun p => gbind (lget a v3) fun p1 => gbind (impl_comparePegs L p.x p.y p1.x p1.y) fun r => bif ilt r 0 then (impl_first_l0 L a m v8 (wr .i64 (iadd v8 1))) else (impl_first_l0 L a m v3 (wr .i64 (iadd v8 1)))) else (some v3)
noncomputable def impl_first (L : Nat) (a : List Pt) : Option (Int) := impl_first_l0 L a L 0 0
def impl_first_ok (L : Nat) (C : CF) : Prop := ∀ (oa : Bool) (ca : Bool) (x_a : List AV) (a : List Pt) (_ : x_a = List.map ep a), C 121 ([.lst oa ca 2 x_a]) ([]) = Option.map (fun r : Int => ((.int .i64 r, []) : AV × List Blk)) (impl_first L a)
theorem impl_first_run (L : Nat) (C : CF) (h_impl_comparePegs : impl_comparePegs_ok L C) : ∀ (oa : Bool) (ca : Bool) (x_a : List AV) (a : List Pt) (_ : x_a = List.map ep a), run T C sh (keep 121) L Tryz.f121 ([.lst oa ca 2 x_a]) ([]) = Option.map (fun r : Int => ((.int .i64 r, []) : AV × List Blk)) (impl_first L a) := by
 intro oa ca x_a a hx_a
 subst hx_a
 unfold impl_first
 conv=>lhs;whnf
 refine t_loop (fun (⟨v3, v8⟩ : Int × Int) => (AV.lst oa ca 2 (List.map ep a) :: topA 2 (AV.int .i64 v3 :: topA 2 (AV.lst oa ca 2 (List.map ep a) :: AV.int .i64 (ilen (List.map ep a)) :: AV.int .i64 v8 :: tops 14)), [])) (fun m (⟨v3, v8⟩ : Int × Int) => impl_first_l0 L a m v3 v8) (fun _ => rfl) (fun m s rec hrec => ?_) L ((0, 0)) ?_ ?_
 rotate_left
 ·rfl
 ·rfl
 obtain ⟨v3, v8⟩ := s
 show _ = Option.map _ (impl_first_l0 L a (m + 1) v3 v8)
 rw [impl_first_l0.eq_2]
 conv=>lhs;whnf
 refine t_cond ?_ ?_
 ·conv=>lhs;whnf
  refine t_get (en := ep) (l := a) (by rfl) fun p => ?_
  conv=>lhs;whnf
  refine t_get (en := ep) (l := a) (by rfl) fun p1 => ?_
  conv=>lhs;whnf
  refine t_call (h_impl_comparePegs p.x p.y p1.x p1.y) fun r => ?_
  conv=>lhs;whnf
  refine t_cond ?_ ?_
  ·conv=>lhs;whnf
   exact hrec ((v8, wr .i64 (iadd v8 1))) _ _ (by rfl) (by rfl)
  ·conv=>lhs;whnf
   exact hrec ((v3, wr .i64 (iadd v8 1))) _ _ (by rfl) (by rfl)
 ·conv=>lhs;whnf
  exact t_ret (by rfl)
noncomputable def impl_tellFirst (L : Nat) (a : List Pt) : Option ((List Pt)) := gbind (impl_first L a) fun r => gbind (impl_twice L a) fun r1 => gbind (impl_sign L r1) fun r2 => gbind (impl_told L a r r2) fun r3 => some r3
def impl_tellFirst_ok (L : Nat) (C : CF) : Prop := ∀ (oa : Bool) (ca : Bool) (x_a : List AV) (a : List Pt) (_ : x_a = List.map ep a), C 86 ([.lst oa ca 2 x_a]) ([]) = Option.map (fun r : (List Pt) => ((.frs 2 (List.map ep r), []) : AV × List Blk)) (impl_tellFirst L a)
theorem impl_tellFirst_run (L : Nat) (C : CF) (h_impl_sign : impl_sign_ok L C) (h_impl_told : impl_told_ok L C) (h_impl_twice : impl_twice_ok L C) (h_impl_first : impl_first_ok L C) : ∀ (oa : Bool) (ca : Bool) (x_a : List AV) (a : List Pt) (_ : x_a = List.map ep a), run T C sh (keep 86) L Tryz.f86 ([.lst oa ca 2 x_a]) ([]) = Option.map (fun r : (List Pt) => ((.frs 2 (List.map ep r), []) : AV × List Blk)) (impl_tellFirst L a) := by
 intro oa ca x_a a hx_a
 subst hx_a
 unfold impl_tellFirst
 conv=>lhs;whnf
 refine t_call (h_impl_first _ _ _ a (by rfl)) fun r => ?_
 conv=>lhs;whnf
 refine t_call (h_impl_twice _ _ _ a (by rfl)) fun r1 => ?_
 conv=>lhs;whnf
 refine t_call (h_impl_sign r1) fun r2 => ?_
 conv=>lhs;whnf
 refine t_call (h_impl_told _ _ _ a (by rfl) r r2) fun r3 => ?_
 conv=>lhs;whnf
 exact t_ret (by rfl)
noncomputable def impl_TellFirst (L : Nat) (a : List Pt) : Option ((List Pt) × Bool) := gbind (impl_IsPolygon L a) fun r => bif !r then (some (([], false))) else (gbind (impl_tellFirst L a) fun r1 => some ((r1, true)))
def impl_TellFirst_ok (L : Nat) (C : CF) : Prop := ∀ (oa : Bool) (ca : Bool) (x_a : List AV) (a : List Pt) (_ : x_a = List.map ep a), C 32 ([.lst oa ca 2 x_a]) ([]) = Option.map (fun r : (List Pt) × Bool => ((.tup [.frs 2 (List.map ep (r.1)), .bool (r.2)], []) : AV × List Blk)) (impl_TellFirst L a)
theorem impl_TellFirst_run (L : Nat) (C : CF) (h_impl_IsPolygon : impl_IsPolygon_ok L C) (h_impl_tellFirst : impl_tellFirst_ok L C) : ∀ (oa : Bool) (ca : Bool) (x_a : List AV) (a : List Pt) (_ : x_a = List.map ep a), run T C sh (keep 32) L Tryz.f32 ([.lst oa ca 2 x_a]) ([]) = Option.map (fun r : (List Pt) × Bool => ((.tup [.frs 2 (List.map ep (r.1)), .bool (r.2)], []) : AV × List Blk)) (impl_TellFirst L a) := by
 intro oa ca x_a a hx_a
 subst hx_a
 unfold impl_TellFirst
 conv=>lhs;whnf
 refine t_call (h_impl_IsPolygon _ _ _ a (by rfl)) fun r => ?_
 conv=>lhs;whnf
 refine t_cond ?_ ?_
 ·conv=>lhs;whnf
  exact t_ret (by rfl)
 ·conv=>lhs;whnf
  refine t_call (h_impl_tellFirst _ _ _ a (by rfl)) fun r1 => ?_
  conv=>lhs;whnf
  exact t_ret (by rfl)
noncomputable def laws_FnKindsTold_j7 (L : Nat) (v47 : Bool) (w4 : List Pt) (w5 : List Pt) : Option Bool := bif v47 then (gbind (impl_AreAlike L w5 w4) fun r21 => gbind (impl_KindOfPolygon L w5) fun r22 => bif r21.2 then (bif r21.1 then (bif r22.2 then (gbind (laws_zPegs L r22.1 w5) fun r23 => bif r23 then (bif ile 0 0 && ilt 0 (ilen (List.map ep w5)) then (gbind (lget w5 0) fun p => bif ieq p.x 0 && ieq p.y 0 then (bif ile 0 1 && ilt 1 (ilen (List.map ep w5)) then (gbind (lget w5 1) fun p1 => bif ieq p1.y 0 then (bif ile 0 1 && ilt 1 (ilen (List.map ep w5)) then (gbind (lget w5 1) fun p2 => some (ilt 0 p2.x)) else (none)) else (some false)) else (none)) else (some false)) else (none)) else (some false)) else (some false)) else (some false)) else (some false)) else (some true)
noncomputable def laws_FnKindsTold_j6 (L : Nat) (v42 : Bool) (v47 : Bool) (w1 : List Pt) (w2 : List Pt) (b3_0 : Int) (b3_1 : Int) (b3_2 : Int) (b3_3 : Int) (b3_4 : Int) (b3_5 : Int) (w4 : List Pt) (w5 : List Pt) : Option Bool := bif v42 then (gbind (impl_MoveCorners L b3_0 b3_1 b3_2 b3_3 b3_4 b3_5 w1) fun r24 => gbind (impl_TellFirst L r24.1) fun r25 => gbind (impl_TellFirst L w2) fun r26 => bif !r24.2 then (some false) else (bif !r25.2 then (some false) else (bif !r26.2 then (some false) else (gbind (laws_zPegs L r25.1 r26.1) fun r27 => bif !r27 then (some false) else (laws_FnKindsTold_j7 L v47 w4 w5))))) else (laws_FnKindsTold_j7 L v47 w4 w5)
noncomputable def laws_FnKindsTold_j8 (L : Nat) (v37 : Bool) (v42 : Bool) (v47 : Bool) (w1 : List Pt) (w2 : List Pt) (b3_0 : Int) (b3_1 : Int) (b3_2 : Int) (b3_3 : Int) (b3_4 : Int) (b3_5 : Int) (w4 : List Pt) (w5 : List Pt) (r29 : Int × Bool) (r30 : Int × Bool) (v451 : Bool) : Option Bool := bif v451 then (some false) else (bif v37 then (gbind (laws_zAbs L r29.1) fun r31 => gbind (laws_zAbs L r30.1) fun r32 => bif !ieq r31 r32 then (some false) else (bif !ieq (ilen (List.map ep w1)) (ilen (List.map ep w2)) then (some false) else (laws_FnKindsTold_j6 L v42 v47 w1 w2 b3_0 b3_1 b3_2 b3_3 b3_4 b3_5 w4 w5))) else (laws_FnKindsTold_j6 L v42 v47 w1 w2 b3_0 b3_1 b3_2 b3_3 b3_4 b3_5 w4 w5))
noncomputable def laws_FnKindsTold_j5 (L : Nat) (v37 : Bool) (v38 : Bool) (v42 : Bool) (v47 : Bool) (w1 : List Pt) (w2 : List Pt) (b3_0 : Int) (b3_1 : Int) (b3_2 : Int) (b3_3 : Int) (b3_4 : Int) (b3_5 : Int) (w4 : List Pt) (w5 : List Pt) : Option Bool := bif v38 then (gbind (impl_AreAlike L w2 w1) fun r28 => gbind (impl_TwiceArea L w1) fun r29 => gbind (impl_TwiceArea L w2) fun r30 => bif !r28.2 then (laws_FnKindsTold_j8 L v37 v42 v47 w1 w2 b3_0 b3_1 b3_2 b3_3 b3_4 b3_5 w4 w5 r29 r30 true) else (bif !beqb r28.1 v37 then (laws_FnKindsTold_j8 L v37 v42 v47 w1 w2 b3_0 b3_1 b3_2 b3_3 b3_4 b3_5 w4 w5 r29 r30 true) else (bif !r29.2 then (laws_FnKindsTold_j8 L v37 v42 v47 w1 w2 b3_0 b3_1 b3_2 b3_3 b3_4 b3_5 w4 w5 r29 r30 true) else (laws_FnKindsTold_j8 L v37 v42 v47 w1 w2 b3_0 b3_1 b3_2 b3_3 b3_4 b3_5 w4 w5 r29 r30 (!r30.2))))) else (laws_FnKindsTold_j6 L v42 v47 w1 w2 b3_0 b3_1 b3_2 b3_3 b3_4 b3_5 w4 w5)
noncomputable def laws_FnKindsTold_j4 (L : Nat) (v30 : List Int) (v32 : Bool) (v37 : Bool) (v38 : Bool) (v42 : Bool) (v47 : Bool) (w0 : List Pt) (w1 : List Pt) (w2 : List Pt) (b3_0 : Int) (b3_1 : Int) (b3_2 : Int) (b3_3 : Int) (b3_4 : Int) (b3_5 : Int) (w4 : List Pt) (w5 : List Pt) : Option Bool := bif v32 then (gbind (impl_KindOfTriangle L w0) fun r33 => bif !r33.2 then (some false) else (gbind (laws_zSame L r33.1 v30) fun r34 => bif !r34 then (some false) else (laws_FnKindsTold_j5 L v37 v38 v42 v47 w1 w2 b3_0 b3_1 b3_2 b3_3 b3_4 b3_5 w4 w5))) else (laws_FnKindsTold_j5 L v37 v38 v42 v47 w1 w2 b3_0 b3_1 b3_2 b3_3 b3_4 b3_5 w4 w5)
noncomputable def laws_FnKindsTold_l9 (L : Nat) (r5 : Int) (r6 : List (List Int) × Bool) (r10 : List Int) (r11 : List Pt × Bool) (r13 : List Pt × List Pt) (r14 : Bool × Bool) (r16 : Int × Int × Int × Int × Int × Int × Bool) (r18 : List Pt) (r19 : List Pt × Bool) : Nat → Int → Option Bool
  | 0, _ => none
  | m + 1, v348 => bif ilt v348 (ilen (List.map eLI r6.1)) then (bif ile 0 v348 && ilt v348 (ilen (List.map eLI r6.1)) then (gbind (lget r6.1 v348) fun p3 => gbind (lget p3 0) fun p4 => gbind (lget p3 2) fun p5 => bif !ieq (wr .i64 (imul p4 p5)) r5 then (some false) else (bif ilt 0 v348 then (bif ile 0 (wr .i64 (isub v348 1)) && ilt (wr .i64 (isub v348 1)) (ilen (List.map eLI r6.1)) then (gbind (lget r6.1 (wr .i64 (isub v348 1))) fun p6 => gbind (lget p6 0) fun p7 => gbind (lget p3 0) fun p8 => bif ilt p8 p7 then (some false) else (bif ile 0 (wr .i64 (isub v348 1)) && ilt (wr .i64 (isub v348 1)) (ilen (List.map eLI r6.1)) then (gbind (lget r6.1 (wr .i64 (isub v348 1))) fun p9 => gbind (lget p9 0) fun p10 => gbind (lget p3 0) fun p11 => bif ieq p10 p11 then (bif ile 0 (wr .i64 (isub v348 1)) && ilt (wr .i64 (isub v348 1)) (ilen (List.map eLI r6.1)) then (gbind (lget r6.1 (wr .i64 (isub v348 1))) fun p12 => gbind (lget p12 1) fun p13 => gbind (lget p3 1) fun p14 => bif ile p14 p13 then (some false) else (laws_FnKindsTold_l9 L r5 r6 r10 r11 r13 r14 r16 r18 r19 m (wr .i64 (iadd v348 1)))) else (none)) else (laws_FnKindsTold_l9 L r5 r6 r10 r11 r13 r14 r16 r18 r19 m (wr .i64 (iadd v348 1)))) else (none))) else (none)) else (laws_FnKindsTold_l9 L r5 r6 r10 r11 r13 r14 r16 r18 r19 m (wr .i64 (iadd v348 1))))) else (none)) else (laws_FnKindsTold_j4 L r10 r11.2 r14.1 r14.2 r16.2.2.2.2.2.2 r19.2 r11.1 r13.1 r13.2 r16.1 r16.2.1 r16.2.2.1 r16.2.2.2.1 r16.2.2.2.2.1 r16.2.2.2.2.2.1 r18 r19.1)
noncomputable def laws_FnKindsTold_j13 (L : Nat) (v471 : Bool) (w41 : List Pt) (w51 : List Pt) : Option Bool := bif v471 then (gbind (impl_AreAlike L w51 w41) fun r35 => gbind (impl_KindOfPolygon L w51) fun r36 => bif r35.2 then (bif r35.1 then (bif r36.2 then (gbind (laws_zPegs L r36.1 w51) fun r37 => bif r37 then (bif ile 0 0 && ilt 0 (ilen (List.map ep w51)) then (gbind (lget w51 0) fun p15 => bif ieq p15.x 0 && ieq p15.y 0 then (bif ile 0 1 && ilt 1 (ilen (List.map ep w51)) then (gbind (lget w51 1) fun p16 => bif ieq p16.y 0 then (bif ile 0 1 && ilt 1 (ilen (List.map ep w51)) then (gbind (lget w51 1) fun p17 => some (ilt 0 p17.x)) else (none)) else (some false)) else (none)) else (some false)) else (none)) else (some false)) else (some false)) else (some false)) else (some false)) else (some true)
noncomputable def laws_FnKindsTold_j12 (L : Nat) (v421 : Bool) (v471 : Bool) (w11 : List Pt) (w21 : List Pt) (b3_01 : Int) (b3_11 : Int) (b3_21 : Int) (b3_31 : Int) (b3_41 : Int) (b3_51 : Int) (w41 : List Pt) (w51 : List Pt) : Option Bool := bif v421 then (gbind (impl_MoveCorners L b3_01 b3_11 b3_21 b3_31 b3_41 b3_51 w11) fun r38 => gbind (impl_TellFirst L r38.1) fun r39 => gbind (impl_TellFirst L w21) fun r40 => bif !r38.2 then (some false) else (bif !r39.2 then (some false) else (bif !r40.2 then (some false) else (gbind (laws_zPegs L r39.1 r40.1) fun r41 => bif !r41 then (some false) else (laws_FnKindsTold_j13 L v471 w41 w51))))) else (laws_FnKindsTold_j13 L v471 w41 w51)
noncomputable def laws_FnKindsTold_j14 (L : Nat) (v371 : Bool) (v421 : Bool) (v471 : Bool) (w11 : List Pt) (w21 : List Pt) (b3_01 : Int) (b3_11 : Int) (b3_21 : Int) (b3_31 : Int) (b3_41 : Int) (b3_51 : Int) (w41 : List Pt) (w51 : List Pt) (r43 : Int × Bool) (r44 : Int × Bool) (v4511 : Bool) : Option Bool := bif v4511 then (some false) else (bif v371 then (gbind (laws_zAbs L r43.1) fun r45 => gbind (laws_zAbs L r44.1) fun r46 => bif !ieq r45 r46 then (some false) else (bif !ieq (ilen (List.map ep w11)) (ilen (List.map ep w21)) then (some false) else (laws_FnKindsTold_j12 L v421 v471 w11 w21 b3_01 b3_11 b3_21 b3_31 b3_41 b3_51 w41 w51))) else (laws_FnKindsTold_j12 L v421 v471 w11 w21 b3_01 b3_11 b3_21 b3_31 b3_41 b3_51 w41 w51))
noncomputable def laws_FnKindsTold_j11 (L : Nat) (v371 : Bool) (v381 : Bool) (v421 : Bool) (v471 : Bool) (w11 : List Pt) (w21 : List Pt) (b3_01 : Int) (b3_11 : Int) (b3_21 : Int) (b3_31 : Int) (b3_41 : Int) (b3_51 : Int) (w41 : List Pt) (w51 : List Pt) : Option Bool := bif v381 then (gbind (impl_AreAlike L w21 w11) fun r42 => gbind (impl_TwiceArea L w11) fun r43 => gbind (impl_TwiceArea L w21) fun r44 => bif !r42.2 then (laws_FnKindsTold_j14 L v371 v421 v471 w11 w21 b3_01 b3_11 b3_21 b3_31 b3_41 b3_51 w41 w51 r43 r44 true) else (bif !beqb r42.1 v371 then (laws_FnKindsTold_j14 L v371 v421 v471 w11 w21 b3_01 b3_11 b3_21 b3_31 b3_41 b3_51 w41 w51 r43 r44 true) else (bif !r43.2 then (laws_FnKindsTold_j14 L v371 v421 v471 w11 w21 b3_01 b3_11 b3_21 b3_31 b3_41 b3_51 w41 w51 r43 r44 true) else (laws_FnKindsTold_j14 L v371 v421 v471 w11 w21 b3_01 b3_11 b3_21 b3_31 b3_41 b3_51 w41 w51 r43 r44 (!r44.2))))) else (laws_FnKindsTold_j12 L v421 v471 w11 w21 b3_01 b3_11 b3_21 b3_31 b3_41 b3_51 w41 w51)
noncomputable def laws_FnKindsTold_j10 (L : Nat) (v301 : List Int) (v321 : Bool) (v371 : Bool) (v381 : Bool) (v421 : Bool) (v471 : Bool) (w01 : List Pt) (w11 : List Pt) (w21 : List Pt) (b3_01 : Int) (b3_11 : Int) (b3_21 : Int) (b3_31 : Int) (b3_41 : Int) (b3_51 : Int) (w41 : List Pt) (w51 : List Pt) : Option Bool := bif v321 then (gbind (impl_KindOfTriangle L w01) fun r47 => bif !r47.2 then (some false) else (gbind (laws_zSame L r47.1 v301) fun r48 => bif !r48 then (some false) else (laws_FnKindsTold_j11 L v371 v381 v421 v471 w11 w21 b3_01 b3_11 b3_21 b3_31 b3_41 b3_51 w41 w51))) else (laws_FnKindsTold_j11 L v371 v381 v421 v471 w11 w21 b3_01 b3_11 b3_21 b3_31 b3_41 b3_51 w41 w51)
noncomputable def laws_FnKindsTold_l15 (L : Nat) (r5 : Int) (r6 : List (List Int) × Bool) (r10 : List Int) (r11 : List Pt × Bool) (r13 : List Pt × List Pt) (r14 : Bool × Bool) (r16 : Int × Int × Int × Int × Int × Int × Bool) (r18 : List Pt) (r19 : List Pt × Bool) : Nat → Int → Option Bool
  | 0, _ => none
  | m1 + 1, v3481 => bif ilt v3481 (ilen (List.map eLI r6.1)) then (bif ile 0 v3481 && ilt v3481 (ilen (List.map eLI r6.1)) then (gbind (lget r6.1 v3481) fun p18 => gbind (lget p18 0) fun p19 => gbind (lget p18 2) fun p20 => bif !ieq (wr .i64 (imul p19 p20)) r5 then (some false) else (bif ilt 0 v3481 then (bif ile 0 (wr .i64 (isub v3481 1)) && ilt (wr .i64 (isub v3481 1)) (ilen (List.map eLI r6.1)) then (gbind (lget r6.1 (wr .i64 (isub v3481 1))) fun p21 => gbind (lget p21 0) fun p22 => gbind (lget p18 0) fun p23 => bif ilt p23 p22 then (some false) else (bif ile 0 (wr .i64 (isub v3481 1)) && ilt (wr .i64 (isub v3481 1)) (ilen (List.map eLI r6.1)) then (gbind (lget r6.1 (wr .i64 (isub v3481 1))) fun p24 => gbind (lget p24 0) fun p25 => gbind (lget p18 0) fun p26 => bif ieq p25 p26 then (bif ile 0 (wr .i64 (isub v3481 1)) && ilt (wr .i64 (isub v3481 1)) (ilen (List.map eLI r6.1)) then (gbind (lget r6.1 (wr .i64 (isub v3481 1))) fun p27 => gbind (lget p27 1) fun p28 => gbind (lget p18 1) fun p29 => bif ile p29 p28 then (some false) else (laws_FnKindsTold_l15 L r5 r6 r10 r11 r13 r14 r16 r18 r19 m1 (wr .i64 (iadd v3481 1)))) else (none)) else (laws_FnKindsTold_l15 L r5 r6 r10 r11 r13 r14 r16 r18 r19 m1 (wr .i64 (iadd v3481 1)))) else (none))) else (none)) else (laws_FnKindsTold_l15 L r5 r6 r10 r11 r13 r14 r16 r18 r19 m1 (wr .i64 (iadd v3481 1))))) else (none)) else (laws_FnKindsTold_j10 L r10 r11.2 r14.1 r14.2 r16.2.2.2.2.2.2 r19.2 r11.1 r13.1 r13.2 r16.1 r16.2.1 r16.2.2.1 r16.2.2.2.1 r16.2.2.2.2.1 r16.2.2.2.2.2.1 r18 r19.1)
noncomputable def laws_FnKindsTold_j3 (L : Nat) (r5 : Int) (r6 : List (List Int) × Bool) (r8 : Int × Bool) (r10 : List Int) (r11 : List Pt × Bool) (r13 : List Pt × List Pt) (r14 : Bool × Bool) (r16 : Int × Int × Int × Int × Int × Int × Bool) (r18 : List Pt) (r19 : List Pt × Bool) (v326 : Bool) : Option Bool := bif v326 then (some false) else (bif r16.2.2.2.2.2.2 then (bif r14.2 then (bif !r14.1 then (some false) else (bif r6.2 then (bif !ieq (ilen (List.map eLI r6.1)) r8.1 then (some false) else (bif ilt r8.1 1 then (some false) else (laws_FnKindsTold_l9 L r5 r6 r10 r11 r13 r14 r16 r18 r19 L 0))) else (laws_FnKindsTold_j4 L r10 r11.2 r14.1 r14.2 r16.2.2.2.2.2.2 r19.2 r11.1 r13.1 r13.2 r16.1 r16.2.1 r16.2.2.1 r16.2.2.2.1 r16.2.2.2.2.1 r16.2.2.2.2.2.1 r18 r19.1))) else (some false)) else (bif r6.2 then (bif !ieq (ilen (List.map eLI r6.1)) r8.1 then (some false) else (bif ilt r8.1 1 then (some false) else (laws_FnKindsTold_l15 L r5 r6 r10 r11 r13 r14 r16 r18 r19 L 0))) else (laws_FnKindsTold_j10 L r10 r11.2 r14.1 r14.2 r16.2.2.2.2.2.2 r19.2 r11.1 r13.1 r13.2 r16.1 r16.2.1 r16.2.2.1 r16.2.2.2.1 r16.2.2.2.2.1 r16.2.2.2.2.2.1 r18 r19.1)))
noncomputable def laws_FnKindsTold_j2 (L : Nat) (r5 : Int) (r6 : List (List Int) × Bool) (r8 : Int × Bool) (r10 : List Int) (r11 : List Pt × Bool) (r13 : List Pt × List Pt) (r14 : Bool × Bool) (r16 : Int × Int × Int × Int × Int × Int × Bool) (r17 : Int × Int × Int × Int × Int × Int × Bool) (r18 : List Pt) (r19 : List Pt × Bool) (r20 : List Pt × Bool) (v305 : Bool) : Option Bool := bif v305 then (laws_FnKindsTold_j3 L r5 r6 r8 r10 r11 r13 r14 r16 r18 r19 true) else (bif !(ieq r16.1 r17.1 && (ieq r16.2.1 r17.2.1 && (ieq r16.2.2.1 r17.2.2.1 && (ieq r16.2.2.2.1 r17.2.2.2.1 && (ieq r16.2.2.2.2.1 r17.2.2.2.2.1 && ieq r16.2.2.2.2.2.1 r17.2.2.2.2.2.1))))) then (laws_FnKindsTold_j3 L r5 r6 r8 r10 r11 r13 r14 r16 r18 r19 true) else (bif !beqb r19.2 r20.2 then (laws_FnKindsTold_j3 L r5 r6 r8 r10 r11 r13 r14 r16 r18 r19 true) else (gbind (laws_zPegs L r19.1 r20.1) fun r49 => bif !r49 then (laws_FnKindsTold_j3 L r5 r6 r8 r10 r11 r13 r14 r16 r18 r19 true) else (laws_FnKindsTold_j3 L r5 r6 r8 r10 r11 r13 r14 r16 r18 r19 (!beqb r8.2 r6.2)))))
noncomputable def laws_FnKindsTold_j1 (L : Nat) (r5 : Int) (r6 : List (List Int) × Bool) (r8 : Int × Bool) (r10 : List Int) (r11 : List Pt × Bool) (r12 : List Pt × Bool) (r13 : List Pt × List Pt) (r14 : Bool × Bool) (r15 : Bool × Bool) (r16 : Int × Int × Int × Int × Int × Int × Bool) (r17 : Int × Int × Int × Int × Int × Int × Bool) (r18 : List Pt) (r19 : List Pt × Bool) (r20 : List Pt × Bool) (v284 : Bool) : Option Bool := bif v284 then (laws_FnKindsTold_j2 L r5 r6 r8 r10 r11 r13 r14 r16 r17 r18 r19 r20 true) else (gbind (laws_zPegs L r11.1 r12.1) fun r50 => bif !r50 then (laws_FnKindsTold_j2 L r5 r6 r8 r10 r11 r13 r14 r16 r17 r18 r19 r20 true) else (bif !beqb r14.2 r15.2 then (laws_FnKindsTold_j2 L r5 r6 r8 r10 r11 r13 r14 r16 r17 r18 r19 r20 true) else (bif !beqb r14.1 r15.1 then (laws_FnKindsTold_j2 L r5 r6 r8 r10 r11 r13 r14 r16 r17 r18 r19 r20 true) else (laws_FnKindsTold_j2 L r5 r6 r8 r10 r11 r13 r14 r16 r17 r18 r19 r20 (!beqb r16.2.2.2.2.2.2 r17.2.2.2.2.2.2)))))
noncomputable def laws_FnKindsTold_j0 (L : Nat) (v1 : List Int) : Option Bool := gbind (spec_DrawKindsOfArea L v1) fun r5 => gbind (impl_KindsOfArea L r5) fun r6 => gbind (spec_KindsOfArea L r5) fun r7 => gbind (impl_CountKinds L r5) fun r8 => gbind (spec_CountKinds L r5) fun r9 => gbind (spec_DrawTriangleOfKind L v1) fun r10 => gbind (impl_TriangleOfKind L r10) fun r11 => gbind (spec_TriangleOfKind L r10) fun r12 => gbind (spec_DrawAreAlike L v1) fun r13 => gbind (impl_AreAlike L r13.1 r13.2) fun r14 => gbind (spec_AreAlike L r13.1 r13.2) fun r15 => gbind (impl_MoveBetween L r13.1 r13.2) fun r16 => gbind (spec_MoveBetween L r13.1 r13.2) fun r17 => gbind (spec_DrawKindOfPolygon L v1) fun r18 => gbind (impl_KindOfPolygon L r18) fun r19 => gbind (spec_KindOfPolygon L r18) fun r20 => bif !beqb r6.2 r7.2 then (laws_FnKindsTold_j1 L r5 r6 r8 r10 r11 r12 r13 r14 r15 r16 r17 r18 r19 r20 true) else (gbind (laws_zRows L r6.1 r7.1) fun r51 => bif !r51 then (laws_FnKindsTold_j1 L r5 r6 r8 r10 r11 r12 r13 r14 r15 r16 r17 r18 r19 r20 true) else (bif !beqb r8.2 r9.2 then (laws_FnKindsTold_j1 L r5 r6 r8 r10 r11 r12 r13 r14 r15 r16 r17 r18 r19 r20 true) else (bif !ieq r8.1 r9.1 then (laws_FnKindsTold_j1 L r5 r6 r8 r10 r11 r12 r13 r14 r15 r16 r17 r18 r19 r20 true) else (laws_FnKindsTold_j1 L r5 r6 r8 r10 r11 r12 r13 r14 r15 r16 r17 r18 r19 r20 (!beqb r11.2 r12.2)))))
noncomputable def laws_FnKindsTold_l17 (L : Nat) (b : List Int) (r2 : List Int × Bool) (r56 : List (List Int) × Bool) : Nat → Bool → Int → Option Bool
  | 0, _, _ => none
  | m2 + 1, v18, v169 => bif ilt v169 (ilen (List.map eLI r56.1)) then (bif ile 0 v169 && ilt v169 (ilen (List.map eLI r56.1)) then (gbind (lget r56.1 v169) fun p36 => bif v18 then (laws_FnKindsTold_l17 L b r2 r56 m2 true (wr .i64 (iadd v169 1))) else (gbind (laws_zSame L p36 r2.1) fun r57 => laws_FnKindsTold_l17 L b r2 r56 m2 r57 (wr .i64 (iadd v169 1)))) else (none)) else (bif !r56.2 then (some false) else (bif !v18 then (some false) else (laws_FnKindsTold_j0 L b)))
noncomputable def laws_FnKindsTold_j16 (L : Nat) (b : List Int) (r2 : List Int × Bool) (r52 : Int × Bool) : Option Bool := gbind (laws_zAbs L r52.1) fun r54 => bif ile r54 60 then (gbind (laws_zAbs L r52.1) fun r55 => gbind (impl_KindsOfArea L r55) fun r56 => laws_FnKindsTold_l17 L b r2 r56 L false 0) else (laws_FnKindsTold_j0 L b)
noncomputable def laws_FnKindsTold (L : Nat) (a : List Int) (b : List Int) : Option (Bool) := gbind (laws_big L a b) fun r => bif r then (some true) else (gbind (spec_DrawKindOfTriangle L a) fun r1 => gbind (impl_KindOfTriangle L r1) fun r2 => gbind (spec_KindOfTriangle L r1) fun r3 => bif !beqb r2.2 r3.2 then (some false) else (gbind (laws_zSame L r2.1 r3.1) fun r4 => bif !r4 then (some false) else (bif r2.2 then (gbind (impl_TwiceArea L r1) fun r52 => bif !r52.2 then (some false) else (bif !ieq (ilen (List.map eI r2.1)) 3 then (some false) else (bif ile 0 0 && ilt 0 (ilen (List.map eI r2.1)) then (gbind (lget r2.1 0) fun p30 => bif ile 0 2 && ilt 2 (ilen (List.map eI r2.1)) then (gbind (lget r2.1 2) fun p31 => gbind (laws_zAbs L r52.1) fun r53 => bif !ieq (wr .i64 (imul p30 p31)) r53 then (some false) else (bif ile 0 0 && ilt 0 (ilen (List.map eI r2.1)) then (gbind (lget r2.1 0) fun p32 => bif ilt p32 1 then (some false) else (bif ile 0 1 && ilt 1 (ilen (List.map eI r2.1)) then (gbind (lget r2.1 1) fun p33 => bif ilt p33 0 then (some false) else (bif ile 0 1 && ilt 1 (ilen (List.map eI r2.1)) then (gbind (lget r2.1 1) fun p34 => bif ile 0 2 && ilt 2 (ilen (List.map eI r2.1)) then (gbind (lget r2.1 2) fun p35 => bif ile p35 p34 then (some false) else (gbind (impl_TriangleOfKind L r2.1) fun r58 => bif r58.2 then (gbind (impl_AreAlike L r1 r58.1) fun r59 => bif !r59.2 then (some false) else (bif !r59.1 then (some false) else (laws_FnKindsTold_j16 L b r2 r52))) else (laws_FnKindsTold_j16 L b r2 r52))) else (none)) else (none))) else (none))) else (none))) else (none)) else (none)))) else (laws_FnKindsTold_j0 L b))))
def laws_FnKindsTold_ok (L : Nat) (C : CF) : Prop := ∀ (oa : Bool) (ca : Bool) (x_a : List AV) (a : List Int) (_ : x_a = List.map eU a) (ob : Bool) (cb : Bool) (x_b : List AV) (b : List Int) (_ : x_b = List.map eU b), C 3 ([.lst oa ca 1 x_a, .lst ob cb 1 x_b]) ([]) = Option.map (fun r : Bool => ((.bool r, []) : AV × List Blk)) (laws_FnKindsTold L a b)
theorem laws_FnKindsTold_run (L : Nat) (C : CF) (h_laws_big : laws_big_ok L C) (h_spec_DrawKindOfTriangle : spec_DrawKindOfTriangle_ok L C) (h_impl_KindOfTriangle : impl_KindOfTriangle_ok L C) (h_spec_KindOfTriangle : spec_KindOfTriangle_ok L C) (h_laws_zSame : laws_zSame_ok L C) (h_impl_TwiceArea : impl_TwiceArea_ok L C) (h_laws_zAbs : laws_zAbs_ok L C) (h_impl_TriangleOfKind : impl_TriangleOfKind_ok L C) (h_impl_AreAlike : impl_AreAlike_ok L C) (h_impl_KindsOfArea : impl_KindsOfArea_ok L C) (h_spec_DrawKindsOfArea : spec_DrawKindsOfArea_ok L C) (h_spec_KindsOfArea : spec_KindsOfArea_ok L C) (h_impl_CountKinds : impl_CountKinds_ok L C) (h_spec_CountKinds : spec_CountKinds_ok L C) (h_spec_DrawTriangleOfKind : spec_DrawTriangleOfKind_ok L C) (h_spec_TriangleOfKind : spec_TriangleOfKind_ok L C) (h_spec_DrawAreAlike : spec_DrawAreAlike_ok L C) (h_spec_AreAlike : spec_AreAlike_ok L C) (h_impl_MoveBetween : impl_MoveBetween_ok L C) (h_spec_MoveBetween : spec_MoveBetween_ok L C) (h_spec_DrawKindOfPolygon : spec_DrawKindOfPolygon_ok L C) (h_impl_KindOfPolygon : impl_KindOfPolygon_ok L C) (h_spec_KindOfPolygon : spec_KindOfPolygon_ok L C) (h_laws_zRows : laws_zRows_ok L C) (h_laws_zPegs : laws_zPegs_ok L C) (h_impl_MoveCorners : impl_MoveCorners_ok L C) (h_impl_TellFirst : impl_TellFirst_ok L C) : ∀ (oa : Bool) (ca : Bool) (x_a : List AV) (a : List Int) (_ : x_a = List.map eU a) (ob : Bool) (cb : Bool) (x_b : List AV) (b : List Int) (_ : x_b = List.map eU b), run T C sh (keep 3) L Tryz.f3 ([.lst oa ca 1 x_a, .lst ob cb 1 x_b]) ([]) = Option.map (fun r : Bool => ((.bool r, []) : AV × List Blk)) (laws_FnKindsTold L a b) := by
 intro oa ca x_a a hx_a ob cb x_b b hx_b
 subst hx_a
 subst hx_b
 unfold laws_FnKindsTold
 conv=>lhs;whnf
 refine t_call (h_laws_big _ _ _ a (by rfl) _ _ _ b (by rfl)) fun r => ?_
 conv=>lhs;whnf
 refine t_cond ?_ ?_
 ·conv=>lhs;whnf
  exact t_ret (by rfl)
 ·conv=>lhs;whnf
  refine t_call (h_spec_DrawKindOfTriangle _ _ _ a (by rfl)) fun r1 => ?_
  conv=>lhs;whnf
  refine t_call (h_impl_KindOfTriangle _ _ _ r1 (by rfl)) fun r2 => ?_
  conv=>lhs;whnf
  refine t_call (h_spec_KindOfTriangle _ _ r1 (by rfl)) fun r3 => ?_
  conv=>lhs;whnf
  refine t_cond ?_ ?_
  ·conv=>lhs;whnf
   exact t_ret (by rfl)
  ·conv=>lhs;whnf
   refine t_call (h_laws_zSame _ _ _ r2.1 (by rfl) _ _ _ r3.1 (by rfl)) fun r4 => ?_
   conv=>lhs;whnf
   refine t_cond ?_ ?_
   ·conv=>lhs;whnf
    exact t_ret (by rfl)
   ·conv=>lhs;whnf
    refine t_join (fun (v1 : (List Int)) => (AV.top :: AV.lst ob cb 1 (List.map eU v1) :: tops 545, [])) (fun (v1 : (List Int)) => laws_FnKindsTold_j0 L v1) ?_ fun J hJ => ?_
    ·intro v1
     show _ = Option.map _ (laws_FnKindsTold_j0 L v1)
     unfold laws_FnKindsTold_j0
     conv=>lhs;whnf
     refine t_call (h_spec_DrawKindsOfArea _ _ _ v1 (by rfl)) fun r5 => ?_
     conv=>lhs;whnf
     refine t_call (h_impl_KindsOfArea r5) fun r6 => ?_
     conv=>lhs;whnf
     refine t_call (h_spec_KindsOfArea r5) fun r7 => ?_
     conv=>lhs;whnf
     refine t_call (h_impl_CountKinds r5) fun r8 => ?_
     conv=>lhs;whnf
     refine t_call (h_spec_CountKinds r5) fun r9 => ?_
     conv=>lhs;whnf
     refine t_call (h_spec_DrawTriangleOfKind _ _ _ v1 (by rfl)) fun r10 => ?_
     conv=>lhs;whnf
     refine t_call (h_impl_TriangleOfKind _ _ _ r10 (by rfl)) fun r11 => ?_
     conv=>lhs;whnf
     refine t_call (h_spec_TriangleOfKind _ _ _ r10 (by rfl)) fun r12 => ?_
     conv=>lhs;whnf
     refine t_call (h_spec_DrawAreAlike _ _ _ v1 (by rfl)) fun r13 => ?_
     conv=>lhs;whnf
     refine t_call (h_impl_AreAlike _ _ _ r13.1 (by rfl) _ _ _ r13.2 (by rfl)) fun r14 => ?_
     conv=>lhs;whnf
     refine t_call (h_spec_AreAlike _ _ r13.1 (by rfl) _ _ r13.2 (by rfl)) fun r15 => ?_
     conv=>lhs;whnf
     refine t_call (h_impl_MoveBetween _ _ _ r13.1 (by rfl) _ _ _ r13.2 (by rfl)) fun r16 => ?_
     conv=>lhs;whnf
     refine t_call (h_spec_MoveBetween _ _ _ r13.1 (by rfl) _ _ _ r13.2 (by rfl)) fun r17 => ?_
     conv=>lhs;whnf
     refine t_call (h_spec_DrawKindOfPolygon _ _ _ v1 (by rfl)) fun r18 => ?_
     conv=>lhs;whnf
     refine t_call (h_impl_KindOfPolygon _ _ _ r18 (by rfl)) fun r19 => ?_
     conv=>lhs;whnf
     refine t_call (h_spec_KindOfPolygon _ _ r18 (by rfl)) fun r20 => ?_
     conv=>lhs;whnf
     refine t_join (fun (v284 : Bool) => (topA 21 (AV.int .i64 r5 :: AV.own 0 1 none false :: AV.bool r6.2 :: topA 2 (AV.int .i64 r8.1 :: AV.bool r8.2 :: topA 2 (AV.lst false false 1 (List.map eI r10) :: AV.own 1 2 none false :: AV.bool r11.2 :: AV.lst false false 2 (List.map ep r12.1) :: AV.top :: AV.own 2 2 none false :: AV.own 3 2 none false :: AV.bool r14.1 :: AV.bool r14.2 :: AV.bool r15.1 :: AV.bool r15.2 :: AV.ptr 4 0 0 6 :: AV.bool r16.2.2.2.2.2.2 :: AV.ptr 5 0 0 6 :: AV.bool r17.2.2.2.2.2.2 :: AV.own 6 2 none false :: AV.own 7 2 none false :: AV.bool r19.2 :: AV.lst false false 2 (List.map ep r20.1) :: AV.bool r20.2 :: topA 234 (AV.bool v284 :: tops 262)))), [Blk.rows Mode.live 1 (List.map eLI r6.1), Blk.rows Mode.live 2 (List.map ep r11.1), Blk.rows Mode.frozen 2 (List.map ep r13.1), Blk.rows Mode.frozen 2 (List.map ep r13.2), Blk.box (AV.agg [AV.int .i64 r16.1, AV.int .i64 r16.2.1, AV.int .i64 r16.2.2.1, AV.int .i64 r16.2.2.2.1, AV.int .i64 r16.2.2.2.2.1, AV.int .i64 r16.2.2.2.2.2.1]), Blk.box (AV.agg [AV.int .i64 r17.1, AV.int .i64 r17.2.1, AV.int .i64 r17.2.2.1, AV.int .i64 r17.2.2.2.1, AV.int .i64 r17.2.2.2.2.1, AV.int .i64 r17.2.2.2.2.2.1]), Blk.rows Mode.frozen 2 (List.map ep r18), Blk.rows Mode.live 2 (List.map ep r19.1)])) (fun (v284 : Bool) => laws_FnKindsTold_j1 L r5 r6 r8 r10 r11 r12 r13 r14 r15 r16 r17 r18 r19 r20 v284) ?_ fun J1 hJ1 => ?_
     ·intro v284
      show _ = Option.map _ (laws_FnKindsTold_j1 L r5 r6 r8 r10 r11 r12 r13 r14 r15 r16 r17 r18 r19 r20 v284)
      unfold laws_FnKindsTold_j1
      conv=>lhs;whnf
      refine t_join (fun (v305 : Bool) => (topA 21 (AV.int .i64 r5 :: AV.own 0 1 none false :: AV.bool r6.2 :: topA 2 (AV.int .i64 r8.1 :: AV.bool r8.2 :: topA 2 (AV.lst false false 1 (List.map eI r10) :: AV.own 1 2 none false :: AV.bool r11.2 :: topA 2 (AV.own 2 2 none false :: AV.own 3 2 none false :: AV.bool r14.1 :: AV.bool r14.2 :: topA 2 (AV.ptr 4 0 0 6 :: AV.bool r16.2.2.2.2.2.2 :: AV.ptr 5 0 0 6 :: AV.top :: AV.own 6 2 none false :: AV.own 7 2 none false :: AV.bool r19.2 :: AV.lst false false 2 (List.map ep r20.1) :: AV.bool r20.2 :: topA 255 (AV.bool v305 :: tops 241)))))), [Blk.rows Mode.live 1 (List.map eLI r6.1), Blk.rows Mode.live 2 (List.map ep r11.1), Blk.rows Mode.frozen 2 (List.map ep r13.1), Blk.rows Mode.frozen 2 (List.map ep r13.2), Blk.box (AV.agg [AV.int .i64 r16.1, AV.int .i64 r16.2.1, AV.int .i64 r16.2.2.1, AV.int .i64 r16.2.2.2.1, AV.int .i64 r16.2.2.2.2.1, AV.int .i64 r16.2.2.2.2.2.1]), Blk.box (AV.agg [AV.int .i64 r17.1, AV.int .i64 r17.2.1, AV.int .i64 r17.2.2.1, AV.int .i64 r17.2.2.2.1, AV.int .i64 r17.2.2.2.2.1, AV.int .i64 r17.2.2.2.2.2.1]), Blk.rows Mode.frozen 2 (List.map ep r18), Blk.rows Mode.live 2 (List.map ep r19.1)])) (fun (v305 : Bool) => laws_FnKindsTold_j2 L r5 r6 r8 r10 r11 r13 r14 r16 r17 r18 r19 r20 v305) ?_ fun J2 hJ2 => ?_
      ·intro v305
       show _ = Option.map _ (laws_FnKindsTold_j2 L r5 r6 r8 r10 r11 r13 r14 r16 r17 r18 r19 r20 v305)
       unfold laws_FnKindsTold_j2
       conv=>lhs;whnf
       refine t_join (fun (v326 : Bool) => (topA 21 (AV.int .i64 r5 :: AV.own 0 1 none false :: AV.bool r6.2 :: topA 2 (AV.int .i64 r8.1 :: topA 3 (AV.lst false false 1 (List.map eI r10) :: AV.own 1 2 none false :: AV.bool r11.2 :: topA 2 (AV.own 2 2 none false :: AV.own 3 2 none false :: AV.bool r14.1 :: AV.bool r14.2 :: topA 2 (AV.ptr 4 0 0 6 :: AV.bool r16.2.2.2.2.2.2 :: topA 2 (AV.own 5 2 none false :: AV.own 6 2 none false :: AV.bool r19.2 :: topA 278 (AV.bool v326 :: tops 220))))))), [Blk.rows Mode.live 1 (List.map eLI r6.1), Blk.rows Mode.live 2 (List.map ep r11.1), Blk.rows Mode.frozen 2 (List.map ep r13.1), Blk.rows Mode.frozen 2 (List.map ep r13.2), Blk.box (AV.agg [AV.int .i64 r16.1, AV.int .i64 r16.2.1, AV.int .i64 r16.2.2.1, AV.int .i64 r16.2.2.2.1, AV.int .i64 r16.2.2.2.2.1, AV.int .i64 r16.2.2.2.2.2.1]), Blk.rows Mode.frozen 2 (List.map ep r18), Blk.rows Mode.live 2 (List.map ep r19.1)])) (fun (v326 : Bool) => laws_FnKindsTold_j3 L r5 r6 r8 r10 r11 r13 r14 r16 r18 r19 v326) ?_ fun J3 hJ3 => ?_
       ·intro v326
        show _ = Option.map _ (laws_FnKindsTold_j3 L r5 r6 r8 r10 r11 r13 r14 r16 r18 r19 v326)
        unfold laws_FnKindsTold_j3
        conv=>lhs;whnf
        refine t_cond ?_ ?_
        ·conv=>lhs;whnf
         exact t_ret (by rfl)
        ·conv=>lhs;whnf
         refine t_cond ?_ ?_
         ·conv=>lhs;whnf
          refine t_cond ?_ ?_
          ·conv=>lhs;whnf
           refine t_cond ?_ ?_
           ·conv=>lhs;whnf
            exact t_ret (by rfl)
           ·conv=>lhs;whnf
            refine t_join (fun (⟨v30, v32, v37, v38, v42, v47, w0, w1, w2, b3_0, b3_1, b3_2, b3_3, b3_4, b3_5, w4, w5⟩ : (List Int) × Bool × Bool × Bool × Bool × Bool × (List Pt) × (List Pt) × (List Pt) × Int × Int × Int × Int × Int × Int × (List Pt) × (List Pt)) => (topA 30 (AV.lst false false 1 (List.map eI v30) :: AV.own 0 2 none false :: AV.bool v32 :: topA 2 (AV.own 1 2 none false :: AV.own 2 2 none false :: AV.bool v37 :: AV.bool v38 :: topA 2 (AV.ptr 3 0 0 6 :: AV.bool v42 :: topA 2 (AV.own 4 2 none false :: AV.own 5 2 none false :: AV.bool v47 :: tops 499)))), [Blk.rows Mode.live 2 (List.map ep w0), Blk.rows Mode.frozen 2 (List.map ep w1), Blk.rows Mode.frozen 2 (List.map ep w2), Blk.box (AV.agg [AV.int .i64 b3_0, AV.int .i64 b3_1, AV.int .i64 b3_2, AV.int .i64 b3_3, AV.int .i64 b3_4, AV.int .i64 b3_5]), Blk.rows Mode.frozen 2 (List.map ep w4), Blk.rows Mode.live 2 (List.map ep w5)])) (fun (⟨v30, v32, v37, v38, v42, v47, w0, w1, w2, b3_0, b3_1, b3_2, b3_3, b3_4, b3_5, w4, w5⟩ : (List Int) × Bool × Bool × Bool × Bool × Bool × (List Pt) × (List Pt) × (List Pt) × Int × Int × Int × Int × Int × Int × (List Pt) × (List Pt)) => laws_FnKindsTold_j4 L v30 v32 v37 v38 v42 v47 w0 w1 w2 b3_0 b3_1 b3_2 b3_3 b3_4 b3_5 w4 w5) ?_ fun J4 hJ4 => ?_
            ·intro s4
             obtain ⟨v30, v32, v37, v38, v42, v47, w0, w1, w2, b3_0, b3_1, b3_2, b3_3, b3_4, b3_5, w4, w5⟩ := s4
             show _ = Option.map _ (laws_FnKindsTold_j4 L v30 v32 v37 v38 v42 v47 w0 w1 w2 b3_0 b3_1 b3_2 b3_3 b3_4 b3_5 w4 w5)
             unfold laws_FnKindsTold_j4
             conv=>lhs;whnf
             refine t_join (fun (_ : Unit) => (topA 35 (AV.own 0 2 none false :: AV.own 1 2 none false :: AV.bool v37 :: AV.bool v38 :: topA 2 (AV.ptr 2 0 0 6 :: AV.bool v42 :: topA 2 (AV.own 3 2 none false :: AV.own 4 2 none false :: AV.bool v47 :: tops 499))), [Blk.rows Mode.frozen 2 (List.map ep w1), Blk.rows Mode.frozen 2 (List.map ep w2), Blk.box (AV.agg [AV.int .i64 b3_0, AV.int .i64 b3_1, AV.int .i64 b3_2, AV.int .i64 b3_3, AV.int .i64 b3_4, AV.int .i64 b3_5]), Blk.rows Mode.frozen 2 (List.map ep w4), Blk.rows Mode.live 2 (List.map ep w5)])) (fun (_ : Unit) => laws_FnKindsTold_j5 L v37 v38 v42 v47 w1 w2 b3_0 b3_1 b3_2 b3_3 b3_4 b3_5 w4 w5) ?_ fun J5 hJ5 => ?_
             ·intro s5
              show _ = Option.map _ (laws_FnKindsTold_j5 L v37 v38 v42 v47 w1 w2 b3_0 b3_1 b3_2 b3_3 b3_4 b3_5 w4 w5)
              unfold laws_FnKindsTold_j5
              conv=>lhs;whnf
              refine t_join (fun (_ : Unit) => (topA 35 (AV.own 0 2 none false :: AV.own 1 2 none false :: topA 4 (AV.ptr 2 0 0 6 :: AV.bool v42 :: topA 2 (AV.own 3 2 none false :: AV.own 4 2 none false :: AV.bool v47 :: tops 499))), [Blk.rows Mode.frozen 2 (List.map ep w1), Blk.rows Mode.frozen 2 (List.map ep w2), Blk.box (AV.agg [AV.int .i64 b3_0, AV.int .i64 b3_1, AV.int .i64 b3_2, AV.int .i64 b3_3, AV.int .i64 b3_4, AV.int .i64 b3_5]), Blk.rows Mode.frozen 2 (List.map ep w4), Blk.rows Mode.live 2 (List.map ep w5)])) (fun (_ : Unit) => laws_FnKindsTold_j6 L v42 v47 w1 w2 b3_0 b3_1 b3_2 b3_3 b3_4 b3_5 w4 w5) ?_ fun J6 hJ6 => ?_
              ·intro s6
               show _ = Option.map _ (laws_FnKindsTold_j6 L v42 v47 w1 w2 b3_0 b3_1 b3_2 b3_3 b3_4 b3_5 w4 w5)
               unfold laws_FnKindsTold_j6
               conv=>lhs;whnf
               refine t_join (fun (_ : Unit) => (topA 45 (AV.own 0 2 none false :: AV.own 1 2 none false :: AV.bool v47 :: tops 499), [Blk.rows Mode.frozen 2 (List.map ep w4), Blk.rows Mode.live 2 (List.map ep w5)])) (fun (_ : Unit) => laws_FnKindsTold_j7 L v47 w4 w5) ?_ fun J7 hJ7 => ?_
               ·intro s7
                show _ = Option.map _ (laws_FnKindsTold_j7 L v47 w4 w5)
                unfold laws_FnKindsTold_j7
                conv=>lhs;whnf
                refine t_cond ?_ ?_
                ·conv=>lhs;whnf
                 refine t_call (h_impl_AreAlike _ _ _ w5 (by rfl) _ _ _ w4 (by rfl)) fun r21 => ?_
                 conv=>lhs;whnf
                 refine t_call (h_impl_KindOfPolygon _ _ _ w5 (by rfl)) fun r22 => ?_
                 conv=>lhs;whnf
                 refine t_cond ?_ ?_
                 ·conv=>lhs;whnf
                  refine t_cond ?_ ?_
                  ·conv=>lhs;whnf
                   refine t_cond ?_ ?_
                   ·conv=>lhs;whnf
                    refine t_call (h_laws_zPegs _ _ _ r22.1 (by rfl) _ _ _ w5 (by rfl)) fun r23 => ?_
                    conv=>lhs;whnf
                    refine t_cond ?_ ?_
                    ·conv=>lhs;whnf
                     refine t_cond ?_ ?_
                     ·conv=>lhs;whnf
                      refine t_get (en := ep) (l := w5) (by rfl) fun p => ?_
                      conv=>lhs;whnf
                      refine t_cond ?_ ?_
                      ·conv=>lhs;whnf
                       refine t_cond ?_ ?_
                       ·conv=>lhs;whnf
                        refine t_get (en := ep) (l := w5) (by rfl) fun p1 => ?_
                        conv=>lhs;whnf
                        refine t_cond ?_ ?_
                        ·conv=>lhs;whnf
                         refine t_cond ?_ ?_
                         ·conv=>lhs;whnf
                          refine t_get (en := ep) (l := w5) (by rfl) fun p2 => ?_
                          conv=>lhs;whnf
                          exact t_ret (by rfl)
                         ·conv=>lhs;whnf
                          exact t_none
                        ·conv=>lhs;whnf
                         exact t_ret (by rfl)
                       ·conv=>lhs;whnf
                        exact t_none
                      ·conv=>lhs;whnf
                       exact t_ret (by rfl)
                     ·conv=>lhs;whnf
                      exact t_none
                    ·conv=>lhs;whnf
                     exact t_ret (by rfl)
                   ·conv=>lhs;whnf
                    exact t_ret (by rfl)
                  ·conv=>lhs;whnf
                   exact t_ret (by rfl)
                 ·conv=>lhs;whnf
                  exact t_ret (by rfl)
                ·conv=>lhs;whnf
                 exact t_ret (by rfl)
               ·conv=>lhs;whnf
                refine t_cond ?_ ?_
                ·conv=>lhs;whnf
                 refine t_call (h_impl_MoveCorners b3_0 b3_1 b3_2 b3_3 b3_4 b3_5 _ _ _ w1 (by rfl)) fun r24 => ?_
                 conv=>lhs;whnf
                 refine t_call (h_impl_TellFirst _ _ _ r24.1 (by rfl)) fun r25 => ?_
                 conv=>lhs;whnf
                 refine t_call (h_impl_TellFirst _ _ _ w2 (by rfl)) fun r26 => ?_
                 conv=>lhs;whnf
                 refine t_cond ?_ ?_
                 ·conv=>lhs;whnf
                  exact t_ret (by rfl)
                 ·conv=>lhs;whnf
                  refine t_cond ?_ ?_
                  ·conv=>lhs;whnf
                   exact t_ret (by rfl)
                  ·conv=>lhs;whnf
                   refine t_cond ?_ ?_
                   ·conv=>lhs;whnf
                    exact t_ret (by rfl)
                   ·conv=>lhs;whnf
                    refine t_call (h_laws_zPegs _ _ _ r25.1 (by rfl) _ _ _ r26.1 (by rfl)) fun r27 => ?_
                    conv=>lhs;whnf
                    refine t_cond ?_ ?_
                    ·conv=>lhs;whnf
                     exact t_ret (by rfl)
                    ·conv=>lhs;whnf
                     exact hJ7 () _ _ (by rfl) (by rfl)
                ·conv=>lhs;whnf
                 exact hJ7 () _ _ (by rfl) (by rfl)
              ·conv=>lhs;whnf
               refine t_cond ?_ ?_
               ·conv=>lhs;whnf
                refine t_call (h_impl_AreAlike _ _ _ w2 (by rfl) _ _ _ w1 (by rfl)) fun r28 => ?_
                conv=>lhs;whnf
                refine t_call (h_impl_TwiceArea _ _ _ w1 (by rfl)) fun r29 => ?_
                conv=>lhs;whnf
                refine t_call (h_impl_TwiceArea _ _ _ w2 (by rfl)) fun r30 => ?_
                conv=>lhs;whnf
                refine t_join (fun (v451 : Bool) => (topA 35 (AV.own 0 2 none false :: AV.own 1 2 none false :: AV.bool v37 :: topA 3 (AV.ptr 2 0 0 6 :: AV.bool v42 :: topA 2 (AV.own 3 2 none false :: AV.own 4 2 none false :: AV.bool v47 :: topA 8 (AV.int .i64 r29.1 :: AV.top :: AV.int .i64 r30.1 :: topA 392 (AV.bool v451 :: tops 95))))), [Blk.rows Mode.frozen 2 (List.map ep w1), Blk.rows Mode.frozen 2 (List.map ep w2), Blk.box (AV.agg [AV.int .i64 b3_0, AV.int .i64 b3_1, AV.int .i64 b3_2, AV.int .i64 b3_3, AV.int .i64 b3_4, AV.int .i64 b3_5]), Blk.rows Mode.frozen 2 (List.map ep w4), Blk.rows Mode.live 2 (List.map ep w5)])) (fun (v451 : Bool) => laws_FnKindsTold_j8 L v37 v42 v47 w1 w2 b3_0 b3_1 b3_2 b3_3 b3_4 b3_5 w4 w5 r29 r30 v451) ?_ fun J8 hJ8 => ?_
                ·intro v451
                 show _ = Option.map _ (laws_FnKindsTold_j8 L v37 v42 v47 w1 w2 b3_0 b3_1 b3_2 b3_3 b3_4 b3_5 w4 w5 r29 r30 v451)
                 unfold laws_FnKindsTold_j8
                 conv=>lhs;whnf
                 refine t_cond ?_ ?_
                 ·conv=>lhs;whnf
                  exact t_ret (by rfl)
                 ·conv=>lhs;whnf
                  refine t_cond ?_ ?_
                  ·conv=>lhs;whnf
                   refine t_call (h_laws_zAbs r29.1) fun r31 => ?_
                   conv=>lhs;whnf
                   refine t_call (h_laws_zAbs r30.1) fun r32 => ?_
                   conv=>lhs;whnf
                   refine t_cond ?_ ?_
                   ·conv=>lhs;whnf
                    exact t_ret (by rfl)
                   ·conv=>lhs;whnf
                    refine t_cond ?_ ?_
                    ·conv=>lhs;whnf
                     exact t_ret (by rfl)
                    ·conv=>lhs;whnf
                     exact hJ6 () _ _ (by rfl) (by rfl)
                  ·conv=>lhs;whnf
                   exact hJ6 () _ _ (by rfl) (by rfl)
                ·conv=>lhs;whnf
                 refine t_cond ?_ ?_
                 ·conv=>lhs;whnf
                  exact hJ8 true _ _ (by rfl) (by rfl)
                 ·conv=>lhs;whnf
                  refine t_cond ?_ ?_
                  ·conv=>lhs;whnf
                   exact hJ8 true _ _ (by rfl) (by rfl)
                  ·conv=>lhs;whnf
                   refine t_cond ?_ ?_
                   ·conv=>lhs;whnf
                    exact hJ8 true _ _ (by rfl) (by rfl)
                   ·conv=>lhs;whnf
                    exact hJ8 (!r30.2) _ _ (by rfl) (by rfl)
               ·conv=>lhs;whnf
                exact hJ6 () _ _ (by rfl) (by rfl)
             ·conv=>lhs;whnf
              refine t_cond ?_ ?_
              ·conv=>lhs;whnf
               refine t_call (h_impl_KindOfTriangle _ _ _ w0 (by rfl)) fun r33 => ?_
               conv=>lhs;whnf
               refine t_cond ?_ ?_
               ·conv=>lhs;whnf
                exact t_ret (by rfl)
               ·conv=>lhs;whnf
                refine t_call (h_laws_zSame _ _ _ r33.1 (by rfl) _ _ _ v30 (by rfl)) fun r34 => ?_
                conv=>lhs;whnf
                refine t_cond ?_ ?_
                ·conv=>lhs;whnf
                 exact t_ret (by rfl)
                ·conv=>lhs;whnf
                 exact hJ5 () _ _ (by rfl) (by rfl)
              ·conv=>lhs;whnf
               exact hJ5 () _ _ (by rfl) (by rfl)
            ·conv=>lhs;whnf
             refine t_cond ?_ ?_
             ·conv=>lhs;whnf
              refine t_cond ?_ ?_
              ·conv=>lhs;whnf
               exact t_ret (by rfl)
              ·conv=>lhs;whnf
               refine t_cond ?_ ?_
               ·conv=>lhs;whnf
                exact t_ret (by rfl)
               ·conv=>lhs;whnf
                refine t_loop (fun (v348 : Int) => (topA 21 (AV.int .i64 r5 :: AV.own 0 1 none false :: topA 7 (AV.lst false false 1 (List.map eI r10) :: AV.own 1 2 none false :: AV.bool r11.2 :: topA 2 (AV.own 2 2 none false :: AV.own 3 2 none false :: AV.bool r14.1 :: AV.bool r14.2 :: topA 2 (AV.ptr 4 0 0 6 :: AV.bool r16.2.2.2.2.2.2 :: topA 2 (AV.own 5 2 none false :: AV.own 6 2 none false :: AV.bool r19.2 :: topA 298 (AV.own 0 1 none false :: AV.int .i64 (ilen (List.map eLI r6.1)) :: AV.int .i64 v348 :: tops 198)))))), [Blk.rows Mode.live 1 (List.map eLI r6.1), Blk.rows Mode.live 2 (List.map ep r11.1), Blk.rows Mode.frozen 2 (List.map ep r13.1), Blk.rows Mode.frozen 2 (List.map ep r13.2), Blk.box (AV.agg [AV.int .i64 r16.1, AV.int .i64 r16.2.1, AV.int .i64 r16.2.2.1, AV.int .i64 r16.2.2.2.1, AV.int .i64 r16.2.2.2.2.1, AV.int .i64 r16.2.2.2.2.2.1]), Blk.rows Mode.frozen 2 (List.map ep r18), Blk.rows Mode.live 2 (List.map ep r19.1)])) (fun m (v348 : Int) => laws_FnKindsTold_l9 L r5 r6 r10 r11 r13 r14 r16 r18 r19 m v348) (fun _ => rfl) (fun m v348 rec hrec => ?_) L 0 ?_ ?_
                rotate_left
                ·rfl
                ·rfl
                show _ = Option.map _ (laws_FnKindsTold_l9 L r5 r6 r10 r11 r13 r14 r16 r18 r19 (m + 1) v348)
                rw [laws_FnKindsTold_l9.eq_2]
                conv=>lhs;whnf
                refine t_cond ?_ ?_
                ·conv=>lhs;whnf
                 refine t_cond ?_ ?_
                 ·conv=>lhs;whnf
                  refine t_get (en := eLI) (l := r6.1) (by rfl) fun p3 => ?_
                  conv=>lhs;whnf
                  refine t_get (en := eI) (l := p3) (by rfl) fun p4 => ?_
                  conv=>lhs;whnf
                  refine t_get (en := eI) (l := p3) (by rfl) fun p5 => ?_
                  conv=>lhs;whnf
                  refine t_cond ?_ ?_
                  ·conv=>lhs;whnf
                   exact t_ret (by rfl)
                  ·conv=>lhs;whnf
                   refine t_cond ?_ ?_
                   ·conv=>lhs;whnf
                    refine t_cond ?_ ?_
                    ·conv=>lhs;whnf
                     refine t_get (en := eLI) (l := r6.1) (by rfl) fun p6 => ?_
                     conv=>lhs;whnf
                     refine t_get (en := eI) (l := p6) (by rfl) fun p7 => ?_
                     conv=>lhs;whnf
                     refine t_get (en := eI) (l := p3) (by rfl) fun p8 => ?_
                     conv=>lhs;whnf
                     refine t_cond ?_ ?_
                     ·conv=>lhs;whnf
                      exact t_ret (by rfl)
                     ·conv=>lhs;whnf
                      refine t_cond ?_ ?_
                      ·conv=>lhs;whnf
                       refine t_get (en := eLI) (l := r6.1) (by rfl) fun p9 => ?_
                       conv=>lhs;whnf
                       refine t_get (en := eI) (l := p9) (by rfl) fun p10 => ?_
                       conv=>lhs;whnf
                       refine t_get (en := eI) (l := p3) (by rfl) fun p11 => ?_
                       conv=>lhs;whnf
                       refine t_cond ?_ ?_
                       ·conv=>lhs;whnf
                        refine t_cond ?_ ?_
                        ·conv=>lhs;whnf
                         refine t_get (en := eLI) (l := r6.1) (by rfl) fun p12 => ?_
                         conv=>lhs;whnf
                         refine t_get (en := eI) (l := p12) (by rfl) fun p13 => ?_
                         conv=>lhs;whnf
                         refine t_get (en := eI) (l := p3) (by rfl) fun p14 => ?_
                         conv=>lhs;whnf
                         refine t_cond ?_ ?_
                         ·conv=>lhs;whnf
                          exact t_ret (by rfl)
                         ·conv=>lhs;whnf
                          exact hrec (wr .i64 (iadd v348 1)) _ _ (by rfl) (by rfl)
                        ·conv=>lhs;whnf
                         exact t_none
                       ·conv=>lhs;whnf
                        exact hrec (wr .i64 (iadd v348 1)) _ _ (by rfl) (by rfl)
                      ·conv=>lhs;whnf
                       exact t_none
                    ·conv=>lhs;whnf
                     exact t_none
                   ·conv=>lhs;whnf
                    exact hrec (wr .i64 (iadd v348 1)) _ _ (by rfl) (by rfl)
                 ·conv=>lhs;whnf
                  exact t_none
                ·conv=>lhs;whnf
                 exact hJ4 ((r10, r11.2, r14.1, r14.2, r16.2.2.2.2.2.2, r19.2, r11.1, r13.1, r13.2, r16.1, r16.2.1, r16.2.2.1, r16.2.2.2.1, r16.2.2.2.2.1, r16.2.2.2.2.2.1, r18, r19.1)) _ _ (by rfl) (by rfl)
             ·conv=>lhs;whnf
              exact hJ4 ((r10, r11.2, r14.1, r14.2, r16.2.2.2.2.2.2, r19.2, r11.1, r13.1, r13.2, r16.1, r16.2.1, r16.2.2.1, r16.2.2.2.1, r16.2.2.2.2.1, r16.2.2.2.2.2.1, r18, r19.1)) _ _ (by rfl) (by rfl)
          ·conv=>lhs;whnf
           exact t_ret (by rfl)
         ·conv=>lhs;whnf
          refine t_join (fun (⟨v301, v321, v371, v381, v421, v471, w01, w11, w21, b3_01, b3_11, b3_21, b3_31, b3_41, b3_51, w41, w51⟩ : (List Int) × Bool × Bool × Bool × Bool × Bool × (List Pt) × (List Pt) × (List Pt) × Int × Int × Int × Int × Int × Int × (List Pt) × (List Pt)) => (topA 30 (AV.lst false false 1 (List.map eI v301) :: AV.own 0 2 none false :: AV.bool v321 :: topA 2 (AV.own 1 2 none false :: AV.own 2 2 none false :: AV.bool v371 :: AV.bool v381 :: topA 2 (AV.ptr 3 0 0 6 :: AV.bool v421 :: topA 2 (AV.own 4 2 none false :: AV.own 5 2 none false :: AV.bool v471 :: tops 499)))), [Blk.rows Mode.live 2 (List.map ep w01), Blk.rows Mode.frozen 2 (List.map ep w11), Blk.rows Mode.frozen 2 (List.map ep w21), Blk.box (AV.agg [AV.int .i64 b3_01, AV.int .i64 b3_11, AV.int .i64 b3_21, AV.int .i64 b3_31, AV.int .i64 b3_41, AV.int .i64 b3_51]), Blk.rows Mode.frozen 2 (List.map ep w41), Blk.rows Mode.live 2 (List.map ep w51)])) (fun (⟨v301, v321, v371, v381, v421, v471, w01, w11, w21, b3_01, b3_11, b3_21, b3_31, b3_41, b3_51, w41, w51⟩ : (List Int) × Bool × Bool × Bool × Bool × Bool × (List Pt) × (List Pt) × (List Pt) × Int × Int × Int × Int × Int × Int × (List Pt) × (List Pt)) => laws_FnKindsTold_j10 L v301 v321 v371 v381 v421 v471 w01 w11 w21 b3_01 b3_11 b3_21 b3_31 b3_41 b3_51 w41 w51) ?_ fun J9 hJ9 => ?_
          ·intro s10
           obtain ⟨v301, v321, v371, v381, v421, v471, w01, w11, w21, b3_01, b3_11, b3_21, b3_31, b3_41, b3_51, w41, w51⟩ := s10
           show _ = Option.map _ (laws_FnKindsTold_j10 L v301 v321 v371 v381 v421 v471 w01 w11 w21 b3_01 b3_11 b3_21 b3_31 b3_41 b3_51 w41 w51)
           unfold laws_FnKindsTold_j10
           conv=>lhs;whnf
           refine t_join (fun (_ : Unit) => (topA 35 (AV.own 0 2 none false :: AV.own 1 2 none false :: AV.bool v371 :: AV.bool v381 :: topA 2 (AV.ptr 2 0 0 6 :: AV.bool v421 :: topA 2 (AV.own 3 2 none false :: AV.own 4 2 none false :: AV.bool v471 :: tops 499))), [Blk.rows Mode.frozen 2 (List.map ep w11), Blk.rows Mode.frozen 2 (List.map ep w21), Blk.box (AV.agg [AV.int .i64 b3_01, AV.int .i64 b3_11, AV.int .i64 b3_21, AV.int .i64 b3_31, AV.int .i64 b3_41, AV.int .i64 b3_51]), Blk.rows Mode.frozen 2 (List.map ep w41), Blk.rows Mode.live 2 (List.map ep w51)])) (fun (_ : Unit) => laws_FnKindsTold_j11 L v371 v381 v421 v471 w11 w21 b3_01 b3_11 b3_21 b3_31 b3_41 b3_51 w41 w51) ?_ fun J10 hJ10 => ?_
           ·intro s11
            show _ = Option.map _ (laws_FnKindsTold_j11 L v371 v381 v421 v471 w11 w21 b3_01 b3_11 b3_21 b3_31 b3_41 b3_51 w41 w51)
            unfold laws_FnKindsTold_j11
            conv=>lhs;whnf
            refine t_join (fun (_ : Unit) => (topA 35 (AV.own 0 2 none false :: AV.own 1 2 none false :: topA 4 (AV.ptr 2 0 0 6 :: AV.bool v421 :: topA 2 (AV.own 3 2 none false :: AV.own 4 2 none false :: AV.bool v471 :: tops 499))), [Blk.rows Mode.frozen 2 (List.map ep w11), Blk.rows Mode.frozen 2 (List.map ep w21), Blk.box (AV.agg [AV.int .i64 b3_01, AV.int .i64 b3_11, AV.int .i64 b3_21, AV.int .i64 b3_31, AV.int .i64 b3_41, AV.int .i64 b3_51]), Blk.rows Mode.frozen 2 (List.map ep w41), Blk.rows Mode.live 2 (List.map ep w51)])) (fun (_ : Unit) => laws_FnKindsTold_j12 L v421 v471 w11 w21 b3_01 b3_11 b3_21 b3_31 b3_41 b3_51 w41 w51) ?_ fun J11 hJ11 => ?_
            ·intro s12
             show _ = Option.map _ (laws_FnKindsTold_j12 L v421 v471 w11 w21 b3_01 b3_11 b3_21 b3_31 b3_41 b3_51 w41 w51)
             unfold laws_FnKindsTold_j12
             conv=>lhs;whnf
             refine t_join (fun (_ : Unit) => (topA 45 (AV.own 0 2 none false :: AV.own 1 2 none false :: AV.bool v471 :: tops 499), [Blk.rows Mode.frozen 2 (List.map ep w41), Blk.rows Mode.live 2 (List.map ep w51)])) (fun (_ : Unit) => laws_FnKindsTold_j13 L v471 w41 w51) ?_ fun J12 hJ12 => ?_
             ·intro s13
              show _ = Option.map _ (laws_FnKindsTold_j13 L v471 w41 w51)
              unfold laws_FnKindsTold_j13
              conv=>lhs;whnf
              refine t_cond ?_ ?_
              ·conv=>lhs;whnf
               refine t_call (h_impl_AreAlike _ _ _ w51 (by rfl) _ _ _ w41 (by rfl)) fun r35 => ?_
               conv=>lhs;whnf
               refine t_call (h_impl_KindOfPolygon _ _ _ w51 (by rfl)) fun r36 => ?_
               conv=>lhs;whnf
               refine t_cond ?_ ?_
               ·conv=>lhs;whnf
                refine t_cond ?_ ?_
                ·conv=>lhs;whnf
                 refine t_cond ?_ ?_
                 ·conv=>lhs;whnf
                  refine t_call (h_laws_zPegs _ _ _ r36.1 (by rfl) _ _ _ w51 (by rfl)) fun r37 => ?_
                  conv=>lhs;whnf
                  refine t_cond ?_ ?_
                  ·conv=>lhs;whnf
                   refine t_cond ?_ ?_
                   ·conv=>lhs;whnf
                    refine t_get (en := ep) (l := w51) (by rfl) fun p15 => ?_
                    conv=>lhs;whnf
                    refine t_cond ?_ ?_
                    ·conv=>lhs;whnf
                     refine t_cond ?_ ?_
                     ·conv=>lhs;whnf
                      refine t_get (en := ep) (l := w51) (by rfl) fun p16 => ?_
                      conv=>lhs;whnf
                      refine t_cond ?_ ?_
                      ·conv=>lhs;whnf
                       refine t_cond ?_ ?_
                       ·conv=>lhs;whnf
                        refine t_get (en := ep) (l := w51) (by rfl) fun p17 => ?_
                        conv=>lhs;whnf
                        exact t_ret (by rfl)
                       ·conv=>lhs;whnf
                        exact t_none
                      ·conv=>lhs;whnf
                       exact t_ret (by rfl)
                     ·conv=>lhs;whnf
                      exact t_none
                    ·conv=>lhs;whnf
                     exact t_ret (by rfl)
                   ·conv=>lhs;whnf
                    exact t_none
                  ·conv=>lhs;whnf
                   exact t_ret (by rfl)
                 ·conv=>lhs;whnf
                  exact t_ret (by rfl)
                ·conv=>lhs;whnf
                 exact t_ret (by rfl)
               ·conv=>lhs;whnf
                exact t_ret (by rfl)
              ·conv=>lhs;whnf
               exact t_ret (by rfl)
             ·conv=>lhs;whnf
              refine t_cond ?_ ?_
              ·conv=>lhs;whnf
               refine t_call (h_impl_MoveCorners b3_01 b3_11 b3_21 b3_31 b3_41 b3_51 _ _ _ w11 (by rfl)) fun r38 => ?_
               conv=>lhs;whnf
               refine t_call (h_impl_TellFirst _ _ _ r38.1 (by rfl)) fun r39 => ?_
               conv=>lhs;whnf
               refine t_call (h_impl_TellFirst _ _ _ w21 (by rfl)) fun r40 => ?_
               conv=>lhs;whnf
               refine t_cond ?_ ?_
               ·conv=>lhs;whnf
                exact t_ret (by rfl)
               ·conv=>lhs;whnf
                refine t_cond ?_ ?_
                ·conv=>lhs;whnf
                 exact t_ret (by rfl)
                ·conv=>lhs;whnf
                 refine t_cond ?_ ?_
                 ·conv=>lhs;whnf
                  exact t_ret (by rfl)
                 ·conv=>lhs;whnf
                  refine t_call (h_laws_zPegs _ _ _ r39.1 (by rfl) _ _ _ r40.1 (by rfl)) fun r41 => ?_
                  conv=>lhs;whnf
                  refine t_cond ?_ ?_
                  ·conv=>lhs;whnf
                   exact t_ret (by rfl)
                  ·conv=>lhs;whnf
                   exact hJ12 () _ _ (by rfl) (by rfl)
              ·conv=>lhs;whnf
               exact hJ12 () _ _ (by rfl) (by rfl)
            ·conv=>lhs;whnf
             refine t_cond ?_ ?_
             ·conv=>lhs;whnf
              refine t_call (h_impl_AreAlike _ _ _ w21 (by rfl) _ _ _ w11 (by rfl)) fun r42 => ?_
              conv=>lhs;whnf
              refine t_call (h_impl_TwiceArea _ _ _ w11 (by rfl)) fun r43 => ?_
              conv=>lhs;whnf
              refine t_call (h_impl_TwiceArea _ _ _ w21 (by rfl)) fun r44 => ?_
              conv=>lhs;whnf
              refine t_join (fun (v4511 : Bool) => (topA 35 (AV.own 0 2 none false :: AV.own 1 2 none false :: AV.bool v371 :: topA 3 (AV.ptr 2 0 0 6 :: AV.bool v421 :: topA 2 (AV.own 3 2 none false :: AV.own 4 2 none false :: AV.bool v471 :: topA 8 (AV.int .i64 r43.1 :: AV.top :: AV.int .i64 r44.1 :: topA 392 (AV.bool v4511 :: tops 95))))), [Blk.rows Mode.frozen 2 (List.map ep w11), Blk.rows Mode.frozen 2 (List.map ep w21), Blk.box (AV.agg [AV.int .i64 b3_01, AV.int .i64 b3_11, AV.int .i64 b3_21, AV.int .i64 b3_31, AV.int .i64 b3_41, AV.int .i64 b3_51]), Blk.rows Mode.frozen 2 (List.map ep w41), Blk.rows Mode.live 2 (List.map ep w51)])) (fun (v4511 : Bool) => laws_FnKindsTold_j14 L v371 v421 v471 w11 w21 b3_01 b3_11 b3_21 b3_31 b3_41 b3_51 w41 w51 r43 r44 v4511) ?_ fun J13 hJ13 => ?_
              ·intro v4511
               show _ = Option.map _ (laws_FnKindsTold_j14 L v371 v421 v471 w11 w21 b3_01 b3_11 b3_21 b3_31 b3_41 b3_51 w41 w51 r43 r44 v4511)
               unfold laws_FnKindsTold_j14
               conv=>lhs;whnf
               refine t_cond ?_ ?_
               ·conv=>lhs;whnf
                exact t_ret (by rfl)
               ·conv=>lhs;whnf
                refine t_cond ?_ ?_
                ·conv=>lhs;whnf
                 refine t_call (h_laws_zAbs r43.1) fun r45 => ?_
                 conv=>lhs;whnf
                 refine t_call (h_laws_zAbs r44.1) fun r46 => ?_
                 conv=>lhs;whnf
                 refine t_cond ?_ ?_
                 ·conv=>lhs;whnf
                  exact t_ret (by rfl)
                 ·conv=>lhs;whnf
                  refine t_cond ?_ ?_
                  ·conv=>lhs;whnf
                   exact t_ret (by rfl)
                  ·conv=>lhs;whnf
                   exact hJ11 () _ _ (by rfl) (by rfl)
                ·conv=>lhs;whnf
                 exact hJ11 () _ _ (by rfl) (by rfl)
              ·conv=>lhs;whnf
               refine t_cond ?_ ?_
               ·conv=>lhs;whnf
                exact hJ13 true _ _ (by rfl) (by rfl)
               ·conv=>lhs;whnf
                refine t_cond ?_ ?_
                ·conv=>lhs;whnf
                 exact hJ13 true _ _ (by rfl) (by rfl)
                ·conv=>lhs;whnf
                 refine t_cond ?_ ?_
                 ·conv=>lhs;whnf
                  exact hJ13 true _ _ (by rfl) (by rfl)
                 ·conv=>lhs;whnf
                  exact hJ13 (!r44.2) _ _ (by rfl) (by rfl)
             ·conv=>lhs;whnf
              exact hJ11 () _ _ (by rfl) (by rfl)
           ·conv=>lhs;whnf
            refine t_cond ?_ ?_
            ·conv=>lhs;whnf
             refine t_call (h_impl_KindOfTriangle _ _ _ w01 (by rfl)) fun r47 => ?_
             conv=>lhs;whnf
             refine t_cond ?_ ?_
             ·conv=>lhs;whnf
              exact t_ret (by rfl)
             ·conv=>lhs;whnf
              refine t_call (h_laws_zSame _ _ _ r47.1 (by rfl) _ _ _ v301 (by rfl)) fun r48 => ?_
              conv=>lhs;whnf
              refine t_cond ?_ ?_
              ·conv=>lhs;whnf
               exact t_ret (by rfl)
              ·conv=>lhs;whnf
               exact hJ10 () _ _ (by rfl) (by rfl)
            ·conv=>lhs;whnf
             exact hJ10 () _ _ (by rfl) (by rfl)
          ·conv=>lhs;whnf
           refine t_cond ?_ ?_
           ·conv=>lhs;whnf
            refine t_cond ?_ ?_
            ·conv=>lhs;whnf
             exact t_ret (by rfl)
            ·conv=>lhs;whnf
             refine t_cond ?_ ?_
             ·conv=>lhs;whnf
              exact t_ret (by rfl)
             ·conv=>lhs;whnf
              refine t_loop (fun (v3481 : Int) => (topA 21 (AV.int .i64 r5 :: AV.own 0 1 none false :: topA 7 (AV.lst false false 1 (List.map eI r10) :: AV.own 1 2 none false :: AV.bool r11.2 :: topA 2 (AV.own 2 2 none false :: AV.own 3 2 none false :: AV.bool r14.1 :: AV.bool r14.2 :: topA 2 (AV.ptr 4 0 0 6 :: AV.bool r16.2.2.2.2.2.2 :: topA 2 (AV.own 5 2 none false :: AV.own 6 2 none false :: AV.bool r19.2 :: topA 298 (AV.own 0 1 none false :: AV.int .i64 (ilen (List.map eLI r6.1)) :: AV.int .i64 v3481 :: tops 198)))))), [Blk.rows Mode.live 1 (List.map eLI r6.1), Blk.rows Mode.live 2 (List.map ep r11.1), Blk.rows Mode.frozen 2 (List.map ep r13.1), Blk.rows Mode.frozen 2 (List.map ep r13.2), Blk.box (AV.agg [AV.int .i64 r16.1, AV.int .i64 r16.2.1, AV.int .i64 r16.2.2.1, AV.int .i64 r16.2.2.2.1, AV.int .i64 r16.2.2.2.2.1, AV.int .i64 r16.2.2.2.2.2.1]), Blk.rows Mode.frozen 2 (List.map ep r18), Blk.rows Mode.live 2 (List.map ep r19.1)])) (fun m1 (v3481 : Int) => laws_FnKindsTold_l15 L r5 r6 r10 r11 r13 r14 r16 r18 r19 m1 v3481) (fun _ => rfl) (fun m1 v3481 rec1 hrec1 => ?_) L 0 ?_ ?_
              rotate_left
              ·rfl
              ·rfl
              show _ = Option.map _ (laws_FnKindsTold_l15 L r5 r6 r10 r11 r13 r14 r16 r18 r19 (m1 + 1) v3481)
              rw [laws_FnKindsTold_l15.eq_2]
              conv=>lhs;whnf
              refine t_cond ?_ ?_
              ·conv=>lhs;whnf
               refine t_cond ?_ ?_
               ·conv=>lhs;whnf
                refine t_get (en := eLI) (l := r6.1) (by rfl) fun p18 => ?_
                conv=>lhs;whnf
                refine t_get (en := eI) (l := p18) (by rfl) fun p19 => ?_
                conv=>lhs;whnf
                refine t_get (en := eI) (l := p18) (by rfl) fun p20 => ?_
                conv=>lhs;whnf
                refine t_cond ?_ ?_
                ·conv=>lhs;whnf
                 exact t_ret (by rfl)
                ·conv=>lhs;whnf
                 refine t_cond ?_ ?_
                 ·conv=>lhs;whnf
                  refine t_cond ?_ ?_
                  ·conv=>lhs;whnf
                   refine t_get (en := eLI) (l := r6.1) (by rfl) fun p21 => ?_
                   conv=>lhs;whnf
                   refine t_get (en := eI) (l := p21) (by rfl) fun p22 => ?_
                   conv=>lhs;whnf
                   refine t_get (en := eI) (l := p18) (by rfl) fun p23 => ?_
                   conv=>lhs;whnf
                   refine t_cond ?_ ?_
                   ·conv=>lhs;whnf
                    exact t_ret (by rfl)
                   ·conv=>lhs;whnf
                    refine t_cond ?_ ?_
                    ·conv=>lhs;whnf
                     refine t_get (en := eLI) (l := r6.1) (by rfl) fun p24 => ?_
                     conv=>lhs;whnf
                     refine t_get (en := eI) (l := p24) (by rfl) fun p25 => ?_
                     conv=>lhs;whnf
                     refine t_get (en := eI) (l := p18) (by rfl) fun p26 => ?_
                     conv=>lhs;whnf
                     refine t_cond ?_ ?_
                     ·conv=>lhs;whnf
                      refine t_cond ?_ ?_
                      ·conv=>lhs;whnf
                       refine t_get (en := eLI) (l := r6.1) (by rfl) fun p27 => ?_
                       conv=>lhs;whnf
                       refine t_get (en := eI) (l := p27) (by rfl) fun p28 => ?_
                       conv=>lhs;whnf
                       refine t_get (en := eI) (l := p18) (by rfl) fun p29 => ?_
                       conv=>lhs;whnf
                       refine t_cond ?_ ?_
                       ·conv=>lhs;whnf
                        exact t_ret (by rfl)
                       ·conv=>lhs;whnf
                        exact hrec1 (wr .i64 (iadd v3481 1)) _ _ (by rfl) (by rfl)
                      ·conv=>lhs;whnf
                       exact t_none
                     ·conv=>lhs;whnf
                      exact hrec1 (wr .i64 (iadd v3481 1)) _ _ (by rfl) (by rfl)
                    ·conv=>lhs;whnf
                     exact t_none
                  ·conv=>lhs;whnf
                   exact t_none
                 ·conv=>lhs;whnf
                  exact hrec1 (wr .i64 (iadd v3481 1)) _ _ (by rfl) (by rfl)
               ·conv=>lhs;whnf
                exact t_none
              ·conv=>lhs;whnf
               exact hJ9 ((r10, r11.2, r14.1, r14.2, r16.2.2.2.2.2.2, r19.2, r11.1, r13.1, r13.2, r16.1, r16.2.1, r16.2.2.1, r16.2.2.2.1, r16.2.2.2.2.1, r16.2.2.2.2.2.1, r18, r19.1)) _ _ (by rfl) (by rfl)
           ·conv=>lhs;whnf
            exact hJ9 ((r10, r11.2, r14.1, r14.2, r16.2.2.2.2.2.2, r19.2, r11.1, r13.1, r13.2, r16.1, r16.2.1, r16.2.2.1, r16.2.2.2.1, r16.2.2.2.2.1, r16.2.2.2.2.2.1, r18, r19.1)) _ _ (by rfl) (by rfl)
       ·conv=>lhs;whnf
        refine t_cond ?_ ?_
        ·conv=>lhs;whnf
         exact hJ3 true _ _ (by rfl) (by rfl)
        ·conv=>lhs;whnf
         refine t_cond ?_ ?_
         ·conv=>lhs;whnf
          exact hJ3 true _ _ (by rfl) (by rfl)
         ·conv=>lhs;whnf
          refine t_cond ?_ ?_
          ·conv=>lhs;whnf
           exact hJ3 true _ _ (by rfl) (by rfl)
          ·conv=>lhs;whnf
           refine t_call (h_laws_zPegs _ _ _ r19.1 (by rfl) _ _ _ r20.1 (by rfl)) fun r49 => ?_
           conv=>lhs;whnf
           refine t_cond ?_ ?_
           ·conv=>lhs;whnf
            exact hJ3 true _ _ (by rfl) (by rfl)
           ·conv=>lhs;whnf
            exact hJ3 (!beqb r8.2 r6.2) _ _ (by rfl) (by rfl)
      ·conv=>lhs;whnf
       refine t_cond ?_ ?_
       ·conv=>lhs;whnf
        exact hJ2 true _ _ (by rfl) (by rfl)
       ·conv=>lhs;whnf
        refine t_call (h_laws_zPegs _ _ _ r11.1 (by rfl) _ _ _ r12.1 (by rfl)) fun r50 => ?_
        conv=>lhs;whnf
        refine t_cond ?_ ?_
        ·conv=>lhs;whnf
         exact hJ2 true _ _ (by rfl) (by rfl)
        ·conv=>lhs;whnf
         refine t_cond ?_ ?_
         ·conv=>lhs;whnf
          exact hJ2 true _ _ (by rfl) (by rfl)
         ·conv=>lhs;whnf
          refine t_cond ?_ ?_
          ·conv=>lhs;whnf
           exact hJ2 true _ _ (by rfl) (by rfl)
          ·conv=>lhs;whnf
           exact hJ2 (!beqb r16.2.2.2.2.2.2 r17.2.2.2.2.2.2) _ _ (by rfl) (by rfl)
     ·conv=>lhs;whnf
      refine t_cond ?_ ?_
      ·conv=>lhs;whnf
       exact hJ1 true _ _ (by rfl) (by rfl)
      ·conv=>lhs;whnf
       refine t_call (h_laws_zRows _ _ _ r6.1 (by rfl) _ _ _ r7.1 (by rfl)) fun r51 => ?_
       conv=>lhs;whnf
       refine t_cond ?_ ?_
       ·conv=>lhs;whnf
        exact hJ1 true _ _ (by rfl) (by rfl)
       ·conv=>lhs;whnf
        refine t_cond ?_ ?_
        ·conv=>lhs;whnf
         exact hJ1 true _ _ (by rfl) (by rfl)
        ·conv=>lhs;whnf
         refine t_cond ?_ ?_
         ·conv=>lhs;whnf
          exact hJ1 true _ _ (by rfl) (by rfl)
         ·conv=>lhs;whnf
          exact hJ1 (!beqb r11.2 r12.2) _ _ (by rfl) (by rfl)
    ·conv=>lhs;whnf
     refine t_cond ?_ ?_
     ·conv=>lhs;whnf
      refine t_call (h_impl_TwiceArea _ _ _ r1 (by rfl)) fun r52 => ?_
      conv=>lhs;whnf
      refine t_cond ?_ ?_
      ·conv=>lhs;whnf
       exact t_ret (by rfl)
      ·conv=>lhs;whnf
       refine t_cond ?_ ?_
       ·conv=>lhs;whnf
        exact t_ret (by rfl)
       ·conv=>lhs;whnf
        refine t_cond ?_ ?_
        ·conv=>lhs;whnf
         refine t_get (en := eI) (l := r2.1) (by rfl) fun p30 => ?_
         conv=>lhs;whnf
         refine t_cond ?_ ?_
         ·conv=>lhs;whnf
          refine t_get (en := eI) (l := r2.1) (by rfl) fun p31 => ?_
          conv=>lhs;whnf
          refine t_call (h_laws_zAbs r52.1) fun r53 => ?_
          conv=>lhs;whnf
          refine t_cond ?_ ?_
          ·conv=>lhs;whnf
           exact t_ret (by rfl)
          ·conv=>lhs;whnf
           refine t_cond ?_ ?_
           ·conv=>lhs;whnf
            refine t_get (en := eI) (l := r2.1) (by rfl) fun p32 => ?_
            conv=>lhs;whnf
            refine t_cond ?_ ?_
            ·conv=>lhs;whnf
             exact t_ret (by rfl)
            ·conv=>lhs;whnf
             refine t_cond ?_ ?_
             ·conv=>lhs;whnf
              refine t_get (en := eI) (l := r2.1) (by rfl) fun p33 => ?_
              conv=>lhs;whnf
              refine t_cond ?_ ?_
              ·conv=>lhs;whnf
               exact t_ret (by rfl)
              ·conv=>lhs;whnf
               refine t_cond ?_ ?_
               ·conv=>lhs;whnf
                refine t_get (en := eI) (l := r2.1) (by rfl) fun p34 => ?_
                conv=>lhs;whnf
                refine t_cond ?_ ?_
                ·conv=>lhs;whnf
                 refine t_get (en := eI) (l := r2.1) (by rfl) fun p35 => ?_
                 conv=>lhs;whnf
                 refine t_cond ?_ ?_
                 ·conv=>lhs;whnf
                  exact t_ret (by rfl)
                 ·conv=>lhs;whnf
                  refine t_join (fun (_ : Unit) => (AV.top :: AV.lst ob cb 1 (List.map eU b) :: topA 4 (AV.own 0 1 none false :: topA 3 (AV.int .i64 r52.1 :: tops 536)), [Blk.rows Mode.live 1 (List.map eI r2.1)])) (fun (_ : Unit) => laws_FnKindsTold_j16 L b r2 r52) ?_ fun J14 hJ14 => ?_
                  ·intro s16
                   show _ = Option.map _ (laws_FnKindsTold_j16 L b r2 r52)
                   unfold laws_FnKindsTold_j16
                   conv=>lhs;whnf
                   refine t_call (h_laws_zAbs r52.1) fun r54 => ?_
                   conv=>lhs;whnf
                   refine t_cond ?_ ?_
                   ·conv=>lhs;whnf
                    refine t_call (h_laws_zAbs r52.1) fun r55 => ?_
                    conv=>lhs;whnf
                    refine t_call (h_impl_KindsOfArea r55) fun r56 => ?_
                    conv=>lhs;whnf
                    refine t_loop (fun (⟨v18, v169⟩ : Bool × Int) => (AV.top :: AV.lst ob cb 1 (List.map eU b) :: topA 4 (AV.own 0 1 none false :: topA 10 (AV.bool r56.2 :: AV.bool v18 :: topA 148 (AV.own 1 1 none false :: AV.int .i64 (ilen (List.map eLI r56.1)) :: AV.int .i64 v169 :: tops 377))), [Blk.rows Mode.live 1 (List.map eI r2.1), Blk.rows Mode.live 1 (List.map eLI r56.1)])) (fun m2 (⟨v18, v169⟩ : Bool × Int) => laws_FnKindsTold_l17 L b r2 r56 m2 v18 v169) (fun _ => rfl) (fun m2 s17 rec2 hrec2 => ?_) L ((false, 0)) ?_ ?_
                    rotate_left
                    ·rfl
                    ·rfl
                    obtain ⟨v18, v169⟩ := s17
                    show _ = Option.map _ (laws_FnKindsTold_l17 L b r2 r56 (m2 + 1) v18 v169)
                    rw [laws_FnKindsTold_l17.eq_2]
                    conv=>lhs;whnf
                    refine t_cond ?_ ?_
                    ·conv=>lhs;whnf
                     refine t_cond ?_ ?_
                     ·conv=>lhs;whnf
                      refine t_get (en := eLI) (l := r56.1) (by rfl) fun p36 => ?_
                      conv=>lhs;whnf
                      refine t_cond ?_ ?_
                      ·conv=>lhs;whnf
                       exact hrec2 ((true, wr .i64 (iadd v169 1))) _ _ (by rfl) (by rfl)
                      ·conv=>lhs;whnf
                       refine t_call (h_laws_zSame _ _ _ p36 (by rfl) _ _ _ r2.1 (by rfl)) fun r57 => ?_
                       conv=>lhs;whnf
                       exact hrec2 ((r57, wr .i64 (iadd v169 1))) _ _ (by rfl) (by rfl)
                     ·conv=>lhs;whnf
                      exact t_none
                    ·conv=>lhs;whnf
                     refine t_cond ?_ ?_
                     ·conv=>lhs;whnf
                      exact t_ret (by rfl)
                     ·conv=>lhs;whnf
                      refine t_cond ?_ ?_
                      ·conv=>lhs;whnf
                       exact t_ret (by rfl)
                      ·conv=>lhs;whnf
                       exact hJ b _ _ (by rfl) (by rfl)
                   ·conv=>lhs;whnf
                    exact hJ b _ _ (by rfl) (by rfl)
                  ·conv=>lhs;whnf
                   refine t_call (h_impl_TriangleOfKind _ _ _ r2.1 (by rfl)) fun r58 => ?_
                   conv=>lhs;whnf
                   refine t_cond ?_ ?_
                   ·conv=>lhs;whnf
                    refine t_call (h_impl_AreAlike _ _ _ r1 (by rfl) _ _ _ r58.1 (by rfl)) fun r59 => ?_
                    conv=>lhs;whnf
                    refine t_cond ?_ ?_
                    ·conv=>lhs;whnf
                     exact t_ret (by rfl)
                    ·conv=>lhs;whnf
                     refine t_cond ?_ ?_
                     ·conv=>lhs;whnf
                      exact t_ret (by rfl)
                     ·conv=>lhs;whnf
                      exact hJ14 () _ _ (by rfl) (by rfl)
                   ·conv=>lhs;whnf
                    exact hJ14 () _ _ (by rfl) (by rfl)
                ·conv=>lhs;whnf
                 exact t_none
               ·conv=>lhs;whnf
                exact t_none
             ·conv=>lhs;whnf
              exact t_none
           ·conv=>lhs;whnf
            exact t_none
         ·conv=>lhs;whnf
          exact t_none
        ·conv=>lhs;whnf
         exact t_none
     ·conv=>lhs;whnf
      exact hJ b _ _ (by rfl) (by rfl)
end Go.AM
