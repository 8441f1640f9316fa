import Derived.Test.YtlacambjecjdbaaAmP0
set_option linter.unusedVariables false
set_option linter.unusedSimpArgs false
set_option linter.unnecessarySimpa false
open Go Go.AM Go.Proofs
namespace Go.AM
set_option maxRecDepth 10000
set_option linter.unusedVariables false
noncomputable def slices_Equal_int_int_l0 (L : Nat) (a : List Int) (b : List Int) : Nat → Int → Option Bool
  | 0, _ => none
  | m + 1, v13 => bif ilt v13 (ilen (List.map eI a)) then (gbind (lget a v13) fun p => gbind (lget b v13) fun p1 => bif !ieq p p1 then (some false) else (slices_Equal_int_int_l0 L a b m (wr IntKind.i64 (iadd v13 1)))) else (some true)


noncomputable def slices_Equal_int_int (L : Nat) (a : List Int) (b : List Int) : Option (Bool) := bif !ieq (ilen (List.map eI a)) (ilen (List.map eI b)) then (some false) else (slices_Equal_int_int_l0 L a b L 0)


def slices_Equal_int_int_ok (L : Nat) (C : CF) : Prop := ∀ (oa : Bool) (ca : Bool) (x_a : List AV) (a : List Int) (_ : x_a = List.map eI a) (ob : Bool) (cb : Bool) (x_b : List AV) (b : List Int) (_ : x_b = List.map eI b), C 46 ([.lst oa ca 1 x_a, .lst ob cb 1 x_b]) ([]) = Option.map (fun r : Bool => ((.bool r, []) : AV × List Blk)) (slices_Equal_int_int L a b)


theorem slices_Equal_int_int_run (L : Nat) (C : CF) : ∀ (oa : Bool) (ca : Bool) (x_a : List AV) (a : List Int) (_ : x_a = List.map eI a) (ob : Bool) (cb : Bool) (x_b : List AV) (b : List Int) (_ : x_b = List.map eI b), run T C sh (keep 46) L Try.f46 ([.lst oa ca 1 x_a, .lst ob cb 1 x_b]) ([]) = Option.map (fun r : Bool => ((.bool r, []) : AV × List Blk)) (slices_Equal_int_int L a b) := by
  intro oa ca x_a a hx_a ob cb x_b b hx_b
  subst hx_a
  subst hx_b
  unfold slices_Equal_int_int
  conv => lhs; whnf
  refine t_cond ?_ ?_
  · conv => lhs; whnf
    exact t_ret (by first | rfl | (simp only [ml]))
  · conv => lhs; whnf
    refine t_loop (fun (v13 : Int) => (AV.lst oa ca 1 (List.map eI a) :: AV.lst ob cb 1 (List.map eI b) :: topA 10 (AV.int IntKind.i64 (ilen (List.map eI a)) :: AV.int IntKind.i64 v13 :: tops 12), [])) (fun m (v13 : Int) => slices_Equal_int_int_l0 L a b m v13) (fun _ => rfl) (fun m v13 rec hrec => ?_) L 0 ?_ ?_
    rotate_left
    · first | rfl | (simp only [ml])
    · first | rfl | (simp only [ml])
    show _ = Option.map _ (slices_Equal_int_int_l0 L a b (m + 1) v13)
    rw [slices_Equal_int_int_l0.eq_2]
    conv => lhs; whnf
    refine t_cond ?_ ?_
    · conv => lhs; whnf
      refine t_get (en := eI) (l := a) (by first | rfl | (simp only [ml])) fun p => ?_
      conv => lhs; whnf
      refine t_get (en := eI) (l := b) (by first | rfl | (simp only [ml])) fun p1 => ?_
      conv => lhs; whnf
      refine t_cond ?_ ?_
      · conv => lhs; whnf
        exact t_ret (by first | rfl | (simp only [ml]))
      · conv => lhs; whnf
        exact hrec (wr IntKind.i64 (iadd v13 1)) _ _ (by first | rfl | (simp only [ml])) (by first | rfl | (simp only [ml]))
    · conv => lhs; whnf
      exact t_ret (by first | rfl | (simp only [ml]))


noncomputable def impl_TriangleOfKind (L : Nat) (a : List Int) : Option ((List Pt) × Bool) := bif !ieq (ilen (List.map eI a)) 3 then (some (([], false))) else (gbind (lget a 0) fun p => gbind (lget a 1) fun p1 => gbind (lget a 2) fun p2 => gbind (impl_triangle L p p1 p2) fun r => gbind (impl_isThree L r) fun r1 => bif !r1 then (some (([], false))) else (gbind (impl_kindOf L r) fun r2 => gbind (slices_Equal_int_int L r2 a) fun r3 => bif !r3 then (some (([], false))) else (some ((r, true)))))


def impl_TriangleOfKind_ok (L : Nat) (C : CF) : Prop := ∀ (oa : Bool) (ca : Bool) (x_a : List AV) (a : List Int) (_ : x_a = List.map eI a), C 24 ([.lst oa ca 1 x_a]) ([]) = Option.map (fun r : (List Pt) × Bool => ((.tup [.frs 2 (List.map ep (r.1)), .bool (r.2)], []) : AV × List Blk)) (impl_TriangleOfKind L a)


theorem impl_TriangleOfKind_run (L : Nat) (C : CF) (h_impl_isThree : impl_isThree_ok L C) (h_impl_kindOf : impl_kindOf_ok L C) (h_impl_triangle : impl_triangle_ok L C) (h_slices_Equal_int_int : slices_Equal_int_int_ok L C) : ∀ (oa : Bool) (ca : Bool) (x_a : List AV) (a : List Int) (_ : x_a = List.map eI a), run T C sh (keep 24) L Try.f24 ([.lst oa ca 1 x_a]) ([]) = Option.map (fun r : (List Pt) × Bool => ((.tup [.frs 2 (List.map ep (r.1)), .bool (r.2)], []) : AV × List Blk)) (impl_TriangleOfKind L a) := by
  intro oa ca x_a a hx_a
  subst hx_a
  unfold impl_TriangleOfKind
  conv => lhs; whnf
  refine t_cond ?_ ?_
  · conv => lhs; whnf
    exact t_ret (by first | rfl | (simp only [ml]))
  · conv => lhs; whnf
    refine t_get (en := eI) (l := a) (by first | rfl | (simp only [ml])) fun p => ?_
    conv => lhs; whnf
    refine t_get (en := eI) (l := a) (by first | rfl | (simp only [ml])) fun p1 => ?_
    conv => lhs; whnf
    refine t_get (en := eI) (l := a) (by first | rfl | (simp only [ml])) fun p2 => ?_
    conv => lhs; whnf
    refine t_call (h_impl_triangle p p1 p2) fun r => ?_
    conv => lhs; whnf
    refine t_call (h_impl_isThree _ _ _ r (by first | rfl | (simp only [ml]))) fun r1 => ?_
    conv => lhs; whnf
    refine t_cond ?_ ?_
    · conv => lhs; whnf
      exact t_ret (by first | rfl | (simp only [ml]))
    · conv => lhs; whnf
      refine t_call (h_impl_kindOf _ _ _ r (by first | rfl | (simp only [ml]))) fun r2 => ?_
      conv => lhs; whnf
      refine t_call (h_slices_Equal_int_int _ _ _ r2 (by first | rfl | (simp only [ml])) _ _ _ a (by first | rfl | (simp only [ml]))) fun r3 => ?_
      conv => lhs; whnf
      refine t_cond ?_ ?_
      · conv => lhs; whnf
        exact t_ret (by first | rfl | (simp only [ml]))
      · conv => lhs; whnf
        exact t_ret (by first | rfl | (simp only [ml]))


noncomputable def laws_FnExactTriangleOfKind (L : Nat) (a : List Int) : Option (Bool) := bif ilt 1048576 (ilen (List.map eI a)) then (some true) else (gbind (laws_toIntS L a) fun r => gbind (spec_TriangleOfKind L r) fun r1 => gbind (laws_toIntS L a) fun r2 => gbind (impl_TriangleOfKind L r2) fun r3 => gbind (laws_eqPegS L (Prod.fst r3) (Prod.fst r1)) fun r4 => bif !r4 then (some false) else (bif !beqb (Prod.snd r3) (Prod.snd r1) then (some false) else (gbind (laws_toIntS L a) fun r5 => gbind (laws_eqIntS L r2 r5) fun r6 => bif !r6 then (some false) else (gbind (laws_markIntS L r2 1) fun r7 => bif ilt (Prod.fst r7) 0 then (some false) else (gbind (laws_eqPegS L (Prod.fst r3) (Prod.fst r1)) fun r8 => bif !r8 then (some false) else (bif !beqb (Prod.snd r3) (Prod.snd r1) then (some false) else (gbind (laws_markPegS L (Prod.fst r3) 1) fun r9 => gbind (laws_heldPegS L (Prod.snd r9) 1) fun r10 => bif ilt r10 0 then (some false) else (bif !ieq r10 (Prod.fst r9) then (some false) else (gbind (laws_toIntS L a) fun r11 => gbind (impl_TriangleOfKind L r11) fun r12 => gbind (laws_eqPegS L (Prod.fst r12) (Prod.fst r1)) fun r13 => bif !r13 then (some false) else (bif !beqb (Prod.snd r12) (Prod.snd r1) then (some false) else (gbind (laws_heldPegS L (Prod.snd r9) 1) fun r14 => bif ilt r14 0 then (some false) else (bif !ieq r14 (Prod.fst r9) then (some false) else (some true)))))))))))))


def laws_FnExactTriangleOfKind_ok (L : Nat) (C : CF) : Prop := ∀ (oa : Bool) (ca : Bool) (x_a : List AV) (a : List Int) (_ : x_a = List.map eI a), C 6 ([.lst oa ca 1 x_a]) ([]) = Option.map (fun r : Bool => ((.bool r, []) : AV × List Blk)) (laws_FnExactTriangleOfKind L a)


theorem laws_FnExactTriangleOfKind_run (L : Nat) (C : CF) (h_laws_eqPegS : laws_eqPegS_ok L C) (h_laws_markPegS : laws_markPegS_ok L C) (h_laws_heldPegS : laws_heldPegS_ok L C) (h_laws_eqIntS : laws_eqIntS_ok L C) (h_laws_markIntS : laws_markIntS_ok L C) (h_laws_toIntS : laws_toIntS_ok L C) (h_spec_TriangleOfKind : spec_TriangleOfKind_ok L C) (h_impl_TriangleOfKind : impl_TriangleOfKind_ok L C) : ∀ (oa : Bool) (ca : Bool) (x_a : List AV) (a : List Int) (_ : x_a = List.map eI a), run T C sh (keep 6) L Try.f6 ([.lst oa ca 1 x_a]) ([]) = Option.map (fun r : Bool => ((.bool r, []) : AV × List Blk)) (laws_FnExactTriangleOfKind L a) := by
  intro oa ca x_a a hx_a
  subst hx_a
  unfold laws_FnExactTriangleOfKind
  conv => lhs; whnf
  refine t_cond ?_ ?_
  · conv => lhs; whnf
    exact t_ret (by first | rfl | (simp only [ml]))
  · conv => lhs; whnf
    refine t_call (h_laws_toIntS _ _ _ a (by first | rfl | (simp only [ml]))) fun r => ?_
    conv => lhs; whnf
    refine t_call (h_spec_TriangleOfKind _ _ _ r (by first | rfl | (simp only [ml]))) fun r1 => ?_
    conv => lhs; whnf
    refine t_call (h_laws_toIntS _ _ _ a (by first | rfl | (simp only [ml]))) fun r2 => ?_
    conv => lhs; whnf
    refine t_call (h_impl_TriangleOfKind _ _ _ r2 (by first | rfl | (simp only [ml]))) fun r3 => ?_
    conv => lhs; whnf
    refine t_call (h_laws_eqPegS _ _ _ (Prod.fst r3) (by first | rfl | (simp only [ml])) _ _ _ (Prod.fst r1) (by first | rfl | (simp only [ml]))) fun r4 => ?_
    conv => lhs; whnf
    refine t_cond ?_ ?_
    · conv => lhs; whnf
      exact t_ret (by first | rfl | (simp only [ml]))
    · conv => lhs; whnf
      refine t_cond ?_ ?_
      · conv => lhs; whnf
        exact t_ret (by first | rfl | (simp only [ml]))
      · conv => lhs; whnf
        refine t_call (h_laws_toIntS _ _ _ a (by first | rfl | (simp only [ml]))) fun r5 => ?_
        conv => lhs; whnf
        refine t_call (h_laws_eqIntS _ _ _ r2 (by first | rfl | (simp only [ml])) _ _ _ r5 (by first | rfl | (simp only [ml]))) fun r6 => ?_
        conv => lhs; whnf
        refine t_cond ?_ ?_
        · conv => lhs; whnf
          exact t_ret (by first | rfl | (simp only [ml]))
        · conv => lhs; whnf
          refine t_call (h_laws_markIntS _ _ r2 (by first | rfl | (simp only [ml])) 1) fun r7 => ?_
          conv => lhs; whnf
          refine t_cond ?_ ?_
          · conv => lhs; whnf
            exact t_ret (by first | rfl | (simp only [ml]))
          · conv => lhs; whnf
            refine t_call (h_laws_eqPegS _ _ _ (Prod.fst r3) (by first | rfl | (simp only [ml])) _ _ _ (Prod.fst r1) (by first | rfl | (simp only [ml]))) fun r8 => ?_
            conv => lhs; whnf
            refine t_cond ?_ ?_
            · conv => lhs; whnf
              exact t_ret (by first | rfl | (simp only [ml]))
            · conv => lhs; whnf
              refine t_cond ?_ ?_
              · conv => lhs; whnf
                exact t_ret (by first | rfl | (simp only [ml]))
              · conv => lhs; whnf
                refine t_call (h_laws_markPegS _ _ (Prod.fst r3) (by first | rfl | (simp only [ml])) 1) fun r9 => ?_
                conv => lhs; whnf
                refine t_call (h_laws_heldPegS _ _ _ (Prod.snd r9) (by first | rfl | (simp only [ml])) 1) fun r10 => ?_
                conv => lhs; whnf
                refine t_cond ?_ ?_
                · conv => lhs; whnf
                  exact t_ret (by first | rfl | (simp only [ml]))
                · conv => lhs; whnf
                  refine t_cond ?_ ?_
                  · conv => lhs; whnf
                    exact t_ret (by first | rfl | (simp only [ml]))
                  · conv => lhs; whnf
                    refine t_call (h_laws_toIntS _ _ _ a (by first | rfl | (simp only [ml]))) fun r11 => ?_
                    conv => lhs; whnf
                    refine t_call (h_impl_TriangleOfKind _ _ _ r11 (by first | rfl | (simp only [ml]))) fun r12 => ?_
                    conv => lhs; whnf
                    refine t_call (h_laws_eqPegS _ _ _ (Prod.fst r12) (by first | rfl | (simp only [ml])) _ _ _ (Prod.fst r1) (by first | rfl | (simp only [ml]))) fun r13 => ?_
                    conv => lhs; whnf
                    refine t_cond ?_ ?_
                    · conv => lhs; whnf
                      exact t_ret (by first | rfl | (simp only [ml]))
                    · conv => lhs; whnf
                      refine t_cond ?_ ?_
                      · conv => lhs; whnf
                        exact t_ret (by first | rfl | (simp only [ml]))
                      · conv => lhs; whnf
                        refine t_call (h_laws_heldPegS _ _ _ (Prod.snd r9) (by first | rfl | (simp only [ml])) 1) fun r14 => ?_
                        conv => lhs; whnf
                        refine t_cond ?_ ?_
                        · conv => lhs; whnf
                          exact t_ret (by first | rfl | (simp only [ml]))
                        · conv => lhs; whnf
                          refine t_cond ?_ ?_
                          · conv => lhs; whnf
                            exact t_ret (by first | rfl | (simp only [ml]))
                          · conv => lhs; whnf
                            exact t_ret (by first | rfl | (simp only [ml]))



end Go.AM
