import Derived.Test.YtlacambjecjdbaaAmP0
set_option linter.unusedVariables false
set_option linter.unusedSimpArgs false
set_option linter.unnecessarySimpa false
open Go Go.AM Go.Proofs
namespace Go.AM
set_option maxRecDepth 10000
set_option linter.unusedVariables false
noncomputable def laws_FnExactKindOfTriangle (L : Nat) (a : List Pt) : Option (Bool) := gbind (laws_szPegS L a 1048576) fun r => bif ilt r 0 then (some true) else (gbind (laws_toPegS L a) fun r1 => gbind (spec_KindOfTriangle L r1) fun r2 => gbind (laws_toPegS L a) fun r3 => gbind (impl_KindOfTriangle L r3) fun r4 => gbind (laws_eqIntS L (Prod.fst r4) (Prod.fst r2)) fun r5 => bif !r5 then (some false) else (bif !beqb (Prod.snd r4) (Prod.snd r2) then (some false) else (gbind (laws_toPegS L a) fun r6 => gbind (laws_eqPegS L r3 r6) fun r7 => bif !r7 then (some false) else (gbind (laws_markPegS L r3 1) fun r8 => bif ilt (Prod.fst r8) 0 then (some false) else (gbind (laws_eqIntS L (Prod.fst r4) (Prod.fst r2)) fun r9 => bif !r9 then (some false) else (bif !beqb (Prod.snd r4) (Prod.snd r2) then (some false) else (gbind (laws_markIntS L (Prod.fst r4) 1) fun r10 => gbind (laws_heldIntS L (Prod.snd r10) 1) fun r11 => bif ilt r11 0 then (some false) else (bif !ieq r11 (Prod.fst r10) then (some false) else (gbind (laws_toPegS L a) fun r12 => gbind (impl_KindOfTriangle L r12) fun r13 => gbind (laws_eqIntS L (Prod.fst r13) (Prod.fst r2)) fun r14 => bif !r14 then (some false) else (bif !beqb (Prod.snd r13) (Prod.snd r2) then (some false) else (gbind (laws_heldIntS L (Prod.snd r10) 1) fun r15 => bif ilt r15 0 then (some false) else (bif !ieq r15 (Prod.fst r10) then (some false) else (some true)))))))))))))


def laws_FnExactKindOfTriangle_ok (L : Nat) (C : CF) : Prop := ∀ (oa : Bool) (ca : Bool) (x_a : List AV) (a : List Pt) (_ : x_a = List.map ep a), C 5 ([.lst oa ca 2 x_a]) ([]) = Option.map (fun r : Bool => ((.bool r, []) : AV × List Blk)) (laws_FnExactKindOfTriangle L a)


theorem laws_FnExactKindOfTriangle_run (L : Nat) (C : CF) (h_laws_szPegS : laws_szPegS_ok L C) (h_laws_toPegS : laws_toPegS_ok L C) (h_laws_eqPegS : laws_eqPegS_ok L C) (h_laws_markPegS : laws_markPegS_ok L C) (h_spec_KindOfTriangle : spec_KindOfTriangle_ok L C) (h_impl_KindOfTriangle : impl_KindOfTriangle_ok L C) (h_laws_eqIntS : laws_eqIntS_ok L C) (h_laws_markIntS : laws_markIntS_ok L C) (h_laws_heldIntS : laws_heldIntS_ok L C) : ∀ (oa : Bool) (ca : Bool) (x_a : List AV) (a : List Pt) (_ : x_a = List.map ep a), run T C sh (keep 5) L Try.f5 ([.lst oa ca 2 x_a]) ([]) = Option.map (fun r : Bool => ((.bool r, []) : AV × List Blk)) (laws_FnExactKindOfTriangle L a) := by
  intro oa ca x_a a hx_a
  subst hx_a
  unfold laws_FnExactKindOfTriangle
  conv => lhs; whnf
  refine t_call (h_laws_szPegS _ _ _ a (by first | rfl | (simp only [ml])) 1048576) fun r => ?_
  conv => lhs; whnf
  refine t_cond ?_ ?_
  · conv => lhs; whnf
    exact t_ret (by first | rfl | (simp only [ml]))
  · conv => lhs; whnf
    refine t_call (h_laws_toPegS _ _ _ a (by first | rfl | (simp only [ml]))) fun r1 => ?_
    conv => lhs; whnf
    refine t_call (h_spec_KindOfTriangle _ _ r1 (by first | rfl | (simp only [ml]))) fun r2 => ?_
    conv => lhs; whnf
    refine t_call (h_laws_toPegS _ _ _ a (by first | rfl | (simp only [ml]))) fun r3 => ?_
    conv => lhs; whnf
    refine t_call (h_impl_KindOfTriangle _ _ _ r3 (by first | rfl | (simp only [ml]))) fun r4 => ?_
    conv => lhs; whnf
    refine t_call (h_laws_eqIntS _ _ _ (Prod.fst r4) (by first | rfl | (simp only [ml])) _ _ _ (Prod.fst r2) (by first | rfl | (simp only [ml]))) fun r5 => ?_
    conv => lhs; whnf
    refine t_cond ?_ ?_
    · conv => lhs; whnf
      exact t_ret (by first | rfl | (simp only [ml]))
    · conv => lhs; whnf
      refine t_cond ?_ ?_
      · conv => lhs; whnf
        exact t_ret (by first | rfl | (simp only [ml]))
      · conv => lhs; whnf
        refine t_call (h_laws_toPegS _ _ _ a (by first | rfl | (simp only [ml]))) fun r6 => ?_
        conv => lhs; whnf
        refine t_call (h_laws_eqPegS _ _ _ r3 (by first | rfl | (simp only [ml])) _ _ _ r6 (by first | rfl | (simp only [ml]))) fun r7 => ?_
        conv => lhs; whnf
        refine t_cond ?_ ?_
        · conv => lhs; whnf
          exact t_ret (by first | rfl | (simp only [ml]))
        · conv => lhs; whnf
          refine t_call (h_laws_markPegS _ _ r3 (by first | rfl | (simp only [ml])) 1) fun r8 => ?_
          conv => lhs; whnf
          refine t_cond ?_ ?_
          · conv => lhs; whnf
            exact t_ret (by first | rfl | (simp only [ml]))
          · conv => lhs; whnf
            refine t_call (h_laws_eqIntS _ _ _ (Prod.fst r4) (by first | rfl | (simp only [ml])) _ _ _ (Prod.fst r2) (by first | rfl | (simp only [ml]))) fun r9 => ?_
            conv => lhs; whnf
            refine t_cond ?_ ?_
            · conv => lhs; whnf
              exact t_ret (by first | rfl | (simp only [ml]))
            · conv => lhs; whnf
              refine t_cond ?_ ?_
              · conv => lhs; whnf
                exact t_ret (by first | rfl | (simp only [ml]))
              · conv => lhs; whnf
                refine t_call (h_laws_markIntS _ _ (Prod.fst r4) (by first | rfl | (simp only [ml])) 1) fun r10 => ?_
                conv => lhs; whnf
                refine t_call (h_laws_heldIntS _ _ _ (Prod.snd r10) (by first | rfl | (simp only [ml])) 1) fun r11 => ?_
                conv => lhs; whnf
                refine t_cond ?_ ?_
                · conv => lhs; whnf
                  exact t_ret (by first | rfl | (simp only [ml]))
                · conv => lhs; whnf
                  refine t_cond ?_ ?_
                  · conv => lhs; whnf
                    exact t_ret (by first | rfl | (simp only [ml]))
                  · conv => lhs; whnf
                    refine t_call (h_laws_toPegS _ _ _ a (by first | rfl | (simp only [ml]))) fun r12 => ?_
                    conv => lhs; whnf
                    refine t_call (h_impl_KindOfTriangle _ _ _ r12 (by first | rfl | (simp only [ml]))) fun r13 => ?_
                    conv => lhs; whnf
                    refine t_call (h_laws_eqIntS _ _ _ (Prod.fst r13) (by first | rfl | (simp only [ml])) _ _ _ (Prod.fst r2) (by first | rfl | (simp only [ml]))) fun r14 => ?_
                    conv => lhs; whnf
                    refine t_cond ?_ ?_
                    · conv => lhs; whnf
                      exact t_ret (by first | rfl | (simp only [ml]))
                    · conv => lhs; whnf
                      refine t_cond ?_ ?_
                      · conv => lhs; whnf
                        exact t_ret (by first | rfl | (simp only [ml]))
                      · conv => lhs; whnf
                        refine t_call (h_laws_heldIntS _ _ _ (Prod.snd r10) (by first | rfl | (simp only [ml])) 1) fun r15 => ?_
                        conv => lhs; whnf
                        refine t_cond ?_ ?_
                        · conv => lhs; whnf
                          exact t_ret (by first | rfl | (simp only [ml]))
                        · conv => lhs; whnf
                          refine t_cond ?_ ?_
                          · conv => lhs; whnf
                            exact t_ret (by first | rfl | (simp only [ml]))
                          · conv => lhs; whnf
                            exact t_ret (by first | rfl | (simp only [ml]))


noncomputable def laws_toIntS_l0 (L : Nat) (a : List Int) : Nat → Int → (List Int) → Option ((List Int))
  | 0, _, _ => none
  | m + 1, v4, w0 => bif ilt v4 (ilen (List.map eI a)) then (gbind (lget a v4) fun p => bif ile 0 v4 && ilt v4 (ilen (List.map eI w0)) then (gbind (lget w0 v4) fun p1 => laws_toIntS_l0 L a m (wr IntKind.i64 (iadd v4 1)) (lset w0 v4 p)) else (none)) else (some w0)


noncomputable def laws_toIntS (L : Nat) (a : List Int) : Option ((List Int)) := bif ile 0 (ilen (List.map eI a)) && ile (ilen (List.map eI a)) (ilen (List.map eI a)) && fits (ilen (List.map eI a)) 8 then (laws_toIntS_l0 L a L 0 (lrep (ilen (List.map eI a)) 0)) else (none)


def laws_toIntS_ok (L : Nat) (C : CF) : Prop := ∀ (oa : Bool) (ca : Bool) (x_a : List AV) (a : List Int) (_ : x_a = List.map eI a), C 23 ([.lst oa ca 1 x_a]) ([]) = Option.map (fun r : (List Int) => ((.frs 1 (List.map eI r), []) : AV × List Blk)) (laws_toIntS L a)


theorem laws_toIntS_run (L : Nat) (C : CF) : ∀ (oa : Bool) (ca : Bool) (x_a : List AV) (a : List Int) (_ : x_a = List.map eI a), run T C sh (keep 23) L Try.f23 ([.lst oa ca 1 x_a]) ([]) = Option.map (fun r : (List Int) => ((.frs 1 (List.map eI r), []) : AV × List Blk)) (laws_toIntS L a) := by
  intro oa ca x_a a hx_a
  subst hx_a
  unfold laws_toIntS
  conv => lhs; whnf
  refine t_cond ?_ ?_
  · conv => lhs; whnf
    refine t_loop (fun (⟨v4, w0⟩ : Int × (List Int)) => (AV.lst oa ca 1 (List.map eI a) :: topA 2 (AV.own 0 1 none false :: AV.int IntKind.i64 v4 :: tops 17), [Blk.rows Mode.live 1 (List.map eI w0)])) (fun m (⟨v4, w0⟩ : Int × (List Int)) => laws_toIntS_l0 L a m v4 w0) (fun _ => rfl) (fun m s rec hrec => ?_) L ((0, lrep (ilen (List.map eI a)) 0)) ?_ ?_
    rotate_left
    · first | rfl | (simp only [ml])
    · first | rfl | (simp only [ml])
    obtain ⟨v4, w0⟩ := s
    show _ = Option.map _ (laws_toIntS_l0 L a (m + 1) v4 w0)
    rw [laws_toIntS_l0.eq_2]
    conv => lhs; whnf
    refine t_cond ?_ ?_
    · conv => lhs; whnf
      refine t_get (en := eI) (l := a) (by first | rfl | (simp only [ml])) fun p => ?_
      conv => lhs; whnf
      refine t_cond ?_ ?_
      · conv => lhs; whnf
        refine t_get (en := eI) (l := w0) (by first | rfl | (simp only [ml])) fun p1 => ?_
        conv => lhs; whnf
        exact hrec ((wr IntKind.i64 (iadd v4 1), lset w0 v4 p)) _ _ (by first | rfl | (simp only [ml])) (by first | rfl | (simp only [ml]))
      · conv => lhs; whnf
        exact t_none
    · conv => lhs; whnf
      exact t_ret (by first | rfl | (simp only [ml]))
  · conv => lhs; whnf
    exact t_none


noncomputable def spec_l1All_l0 (L : Nat) (a : List Int) (b : Int) (c : Int) : Nat → Int → Option Bool
  | 0, _ => none
  | m + 1, v11 => bif ilt v11 (ilen (List.map eI a)) then (gbind (lget a v11) fun p => gbind (spec_l1In L p b c) fun r => bif !r then (some false) else (spec_l1All_l0 L a b c m (wr IntKind.i64 (iadd v11 1)))) else (some true)


noncomputable def spec_l1All (L : Nat) (a : List Int) (b : Int) (c : Int) : Option (Bool) := spec_l1All_l0 L a b c L 0


def spec_l1All_ok (L : Nat) (C : CF) : Prop := ∀ (oa : Bool) (ca : Bool) (x_a : List AV) (a : List Int) (_ : x_a = List.map eI a) (b : Int) (c : Int), C 42 ([.lst oa ca 1 x_a, .int .i64 b, .int .i64 c]) ([]) = Option.map (fun r : Bool => ((.bool r, []) : AV × List Blk)) (spec_l1All L a b c)


theorem spec_l1All_run (L : Nat) (C : CF) (h_spec_l1In : spec_l1In_ok L C) : ∀ (oa : Bool) (ca : Bool) (x_a : List AV) (a : List Int) (_ : x_a = List.map eI a) (b : Int) (c : Int), run T C sh (keep 42) L Try.f42 ([.lst oa ca 1 x_a, .int .i64 b, .int .i64 c]) ([]) = Option.map (fun r : Bool => ((.bool r, []) : AV × List Blk)) (spec_l1All L a b c) := by
  intro oa ca x_a a hx_a b c
  subst hx_a
  unfold spec_l1All
  conv => lhs; whnf
  refine t_loop (fun (v11 : Int) => (AV.top :: AV.int IntKind.i64 b :: AV.int IntKind.i64 c :: topA 6 (AV.lst oa ca 1 (List.map eI a) :: AV.int IntKind.i64 (ilen (List.map eI a)) :: AV.int IntKind.i64 v11 :: tops 9), [])) (fun m (v11 : Int) => spec_l1All_l0 L a b c m v11) (fun _ => rfl) (fun m v11 rec hrec => ?_) L 0 ?_ ?_
  rotate_left
  · first | rfl | (simp only [ml])
  · first | rfl | (simp only [ml])
  show _ = Option.map _ (spec_l1All_l0 L a b c (m + 1) v11)
  rw [spec_l1All_l0.eq_2]
  conv => lhs; whnf
  refine t_cond ?_ ?_
  · conv => lhs; whnf
    refine t_get (en := eI) (l := a) (by first | rfl | (simp only [ml])) fun p => ?_
    conv => lhs; whnf
    refine t_call (h_spec_l1In p b c) fun r => ?_
    conv => lhs; whnf
    refine t_cond ?_ ?_
    · conv => lhs; whnf
      exact t_ret (by first | rfl | (simp only [ml]))
    · conv => lhs; whnf
      exact hrec (wr IntKind.i64 (iadd v11 1)) _ _ (by first | rfl | (simp only [ml])) (by first | rfl | (simp only [ml]))
  · conv => lhs; whnf
    exact t_ret (by first | rfl | (simp only [ml]))


noncomputable def spec_mvMade (L : Nat) (a : Int) (b : Int) (c : Int) : Option ((List Pt)) := some ({ x := 0, y := 0 } :: ({ x := a, y := 0 } :: ({ x := b, y := c } :: [])))


def spec_mvMade_ok (L : Nat) (C : CF) : Prop := ∀ (a : Int) (b : Int) (c : Int), C 43 ([.int .i64 a, .int .i64 b, .int .i64 c]) ([]) = Option.map (fun r : (List Pt) => ((.frs 2 (List.map ep r), []) : AV × List Blk)) (spec_mvMade L a b c)


theorem spec_mvMade_run (L : Nat) (C : CF) : ∀ (a : Int) (b : Int) (c : Int), run T C sh (keep 43) L Try.f43 ([.int .i64 a, .int .i64 b, .int .i64 c]) ([]) = Option.map (fun r : (List Pt) => ((.frs 2 (List.map ep r), []) : AV × List Blk)) (spec_mvMade L a b c) := by
  intro a b c
  unfold spec_mvMade
  conv => lhs; whnf
  exact t_ret (by first | rfl | (simp only [ml]))


noncomputable def spec_l1Same_l0 (L : Nat) (a : List Int) (b : List Int) : Nat → Int → Option Bool
  | 0, _ => none
  | m + 1, v13 => bif ilt v13 (ilen (List.map eI a)) then (gbind (lget a v13) fun p => gbind (lget b v13) fun p1 => bif !ieq p p1 then (some false) else (spec_l1Same_l0 L a b m (wr IntKind.i64 (iadd v13 1)))) else (some true)


noncomputable def spec_l1Same (L : Nat) (a : List Int) (b : List Int) : Option (Bool) := bif !ieq (ilen (List.map eI a)) (ilen (List.map eI b)) then (some false) else (spec_l1Same_l0 L a b L 0)


def spec_l1Same_ok (L : Nat) (C : CF) : Prop := ∀ (oa : Bool) (ca : Bool) (x_a : List AV) (a : List Int) (_ : x_a = List.map eI a) (ob : Bool) (cb : Bool) (x_b : List AV) (b : List Int) (_ : x_b = List.map eI b), C 44 ([.lst oa ca 1 x_a, .lst ob cb 1 x_b]) ([]) = Option.map (fun r : Bool => ((.bool r, []) : AV × List Blk)) (spec_l1Same L a b)


theorem spec_l1Same_run (L : Nat) (C : CF) : ∀ (oa : Bool) (ca : Bool) (x_a : List AV) (a : List Int) (_ : x_a = List.map eI a) (ob : Bool) (cb : Bool) (x_b : List AV) (b : List Int) (_ : x_b = List.map eI b), run T C sh (keep 44) L Try.f44 ([.lst oa ca 1 x_a, .lst ob cb 1 x_b]) ([]) = Option.map (fun r : Bool => ((.bool r, []) : AV × List Blk)) (spec_l1Same L a b) := by
  intro oa ca x_a a hx_a ob cb x_b b hx_b
  subst hx_a
  subst hx_b
  unfold spec_l1Same
  conv => lhs; whnf
  refine t_cond ?_ ?_
  · conv => lhs; whnf
    exact t_ret (by first | rfl | (simp only [ml]))
  · conv => lhs; whnf
    refine t_loop (fun (v13 : Int) => (AV.lst oa ca 1 (List.map eI a) :: AV.lst ob cb 1 (List.map eI b) :: topA 10 (AV.int IntKind.i64 (ilen (List.map eI a)) :: AV.int IntKind.i64 v13 :: tops 12), [])) (fun m (v13 : Int) => spec_l1Same_l0 L a b m v13) (fun _ => rfl) (fun m v13 rec hrec => ?_) L 0 ?_ ?_
    rotate_left
    · first | rfl | (simp only [ml])
    · first | rfl | (simp only [ml])
    show _ = Option.map _ (spec_l1Same_l0 L a b (m + 1) v13)
    rw [spec_l1Same_l0.eq_2]
    conv => lhs; whnf
    refine t_cond ?_ ?_
    · conv => lhs; whnf
      refine t_get (en := eI) (l := a) (by first | rfl | (simp only [ml])) fun p => ?_
      conv => lhs; whnf
      refine t_get (en := eI) (l := b) (by first | rfl | (simp only [ml])) fun p1 => ?_
      conv => lhs; whnf
      refine t_cond ?_ ?_
      · conv => lhs; whnf
        exact t_ret (by first | rfl | (simp only [ml]))
      · conv => lhs; whnf
        exact hrec (wr IntKind.i64 (iadd v13 1)) _ _ (by first | rfl | (simp only [ml])) (by first | rfl | (simp only [ml]))
    · conv => lhs; whnf
      exact t_ret (by first | rfl | (simp only [ml]))


noncomputable def spec_TriangleOfKind (L : Nat) (a : List Int) : Option ((List Pt) × Bool) := bif !ieq (ilen (List.map eI a)) 3 then (some (([], false))) else (gbind (spec_l1All L a 0 40) fun r => bif !r then (some (([], false))) else (gbind (lget a 0) fun p => gbind (lget a 1) fun p1 => gbind (lget a 2) fun p2 => gbind (spec_mvMade L p p1 p2) fun r1 => gbind (spec_mvThree L r1) fun r2 => bif !r2 then (some (([], false))) else (gbind (spec_mvList L r1) fun r3 => gbind (spec_l1Same L r3 a) fun r4 => bif !r4 then (some (([], false))) else (some ((r1, true))))))


def spec_TriangleOfKind_ok (L : Nat) (C : CF) : Prop := ∀ (oa : Bool) (ca : Bool) (x_a : List AV) (a : List Int) (_ : x_a = List.map eI a), C 22 ([.lst oa ca 1 x_a]) ([]) = Option.map (fun r : (List Pt) × Bool => ((.tup [.lst false false 2 (List.map ep (r.1)), .bool (r.2)], []) : AV × List Blk)) (spec_TriangleOfKind L a)


theorem spec_TriangleOfKind_run (L : Nat) (C : CF) (h_spec_mvThree : spec_mvThree_ok L C) (h_spec_mvList : spec_mvList_ok L C) (h_spec_l1All : spec_l1All_ok L C) (h_spec_mvMade : spec_mvMade_ok L C) (h_spec_l1Same : spec_l1Same_ok L C) : ∀ (oa : Bool) (ca : Bool) (x_a : List AV) (a : List Int) (_ : x_a = List.map eI a), run T C sh (keep 22) L Try.f22 ([.lst oa ca 1 x_a]) ([]) = Option.map (fun r : (List Pt) × Bool => ((.tup [.lst false false 2 (List.map ep (r.1)), .bool (r.2)], []) : AV × List Blk)) (spec_TriangleOfKind L a) := by
  intro oa ca x_a a hx_a
  subst hx_a
  unfold spec_TriangleOfKind
  conv => lhs; whnf
  refine t_cond ?_ ?_
  · conv => lhs; whnf
    exact t_ret (by first | rfl | (simp only [ml]))
  · conv => lhs; whnf
    refine t_call (h_spec_l1All _ _ _ a (by first | rfl | (simp only [ml])) 0 40) fun r => ?_
    conv => lhs; whnf
    refine t_cond ?_ ?_
    · conv => lhs; whnf
      exact t_ret (by first | rfl | (simp only [ml]))
    · conv => lhs; whnf
      refine t_get (en := eI) (l := a) (by first | rfl | (simp only [ml])) fun p => ?_
      conv => lhs; whnf
      refine t_get (en := eI) (l := a) (by first | rfl | (simp only [ml])) fun p1 => ?_
      conv => lhs; whnf
      refine t_get (en := eI) (l := a) (by first | rfl | (simp only [ml])) fun p2 => ?_
      conv => lhs; whnf
      refine t_call (h_spec_mvMade p p1 p2) fun r1 => ?_
      conv => lhs; whnf
      refine t_call (h_spec_mvThree _ _ _ r1 (by first | rfl | (simp only [ml]))) fun r2 => ?_
      conv => lhs; whnf
      refine t_cond ?_ ?_
      · conv => lhs; whnf
        exact t_ret (by first | rfl | (simp only [ml]))
      · conv => lhs; whnf
        refine t_call (h_spec_mvList _ _ r1 (by first | rfl | (simp only [ml]))) fun r3 => ?_
        conv => lhs; whnf
        refine t_call (h_spec_l1Same _ _ _ r3 (by first | rfl | (simp only [ml])) _ _ _ a (by first | rfl | (simp only [ml]))) fun r4 => ?_
        conv => lhs; whnf
        refine t_cond ?_ ?_
        · conv => lhs; whnf
          exact t_ret (by first | rfl | (simp only [ml]))
        · conv => lhs; whnf
          exact t_ret (by first | rfl | (simp only [ml]))


noncomputable def impl_triangle (L : Nat) (a : Int) (b : Int) (c : Int) : Option ((List Pt)) := some ({ x := 0, y := 0 } :: ({ x := a, y := 0 } :: ({ x := b, y := c } :: [])))


def impl_triangle_ok (L : Nat) (C : CF) : Prop := ∀ (a : Int) (b : Int) (c : Int), C 45 ([.int .i64 a, .int .i64 b, .int .i64 c]) ([]) = Option.map (fun r : (List Pt) => ((.frs 2 (List.map ep r), []) : AV × List Blk)) (impl_triangle L a b c)


theorem impl_triangle_run (L : Nat) (C : CF) : ∀ (a : Int) (b : Int) (c : Int), run T C sh (keep 45) L Try.f45 ([.int .i64 a, .int .i64 b, .int .i64 c]) ([]) = Option.map (fun r : (List Pt) => ((.frs 2 (List.map ep r), []) : AV × List Blk)) (impl_triangle L a b c) := by
  intro a b c
  unfold impl_triangle
  conv => lhs; whnf
  exact t_ret (by first | rfl | (simp only [ml]))


noncomputable def slices_Equal_int_int_l0 (L : Nat) (a : List Int) (b : List Int) : Nat → Int → Option Bool
  | 0, _ => none
  | m + 1, v13 => bif ilt v13 (ilen (List.map eI a)) then (gbind (lget a v13) fun p => gbind (lget b v13) fun p1 => bif !ieq p p1 then (some false) else (slices_Equal_int_int_l0 L a b m (wr IntKind.i64 (iadd v13 1)))) else (some true)


noncomputable def slices_Equal_int_int (L : Nat) (a : List Int) (b : List Int) : Option (Bool) := bif !ieq (ilen (List.map eI a)) (ilen (List.map eI b)) then (some false) else (slices_Equal_int_int_l0 L a b L 0)


def slices_Equal_int_int_ok (L : Nat) (C : CF) : Prop := ∀ (oa : Bool) (ca : Bool) (x_a : List AV) (a : List Int) (_ : x_a = List.map eI a) (ob : Bool) (cb : Bool) (x_b : List AV) (b : List Int) (_ : x_b = List.map eI b), C 46 ([.lst oa ca 1 x_a, .lst ob cb 1 x_b]) ([]) = Option.map (fun r : Bool => ((.bool r, []) : AV × List Blk)) (slices_Equal_int_int L a b)


theorem slices_Equal_int_int_run (L : Nat) (C : CF) : ∀ (oa : Bool) (ca : Bool) (x_a : List AV) (a : List Int) (_ : x_a = List.map eI a) (ob : Bool) (cb : Bool) (x_b : List AV) (b : List Int) (_ : x_b = List.map eI b), run T C sh (keep 46) L Try.f46 ([.lst oa ca 1 x_a, .lst ob cb 1 x_b]) ([]) = Option.map (fun r : Bool => ((.bool r, []) : AV × List Blk)) (slices_Equal_int_int L a b) := by
  intro oa ca x_a a hx_a ob cb x_b b hx_b
  subst hx_a
  subst hx_b
  unfold slices_Equal_int_int
  conv => lhs; whnf
  refine t_cond ?_ ?_
  · conv => lhs; whnf
    exact t_ret (by first | rfl | (simp only [ml]))
  · conv => lhs; whnf
    refine t_loop (fun (v13 : Int) => (AV.lst oa ca 1 (List.map eI a) :: AV.lst ob cb 1 (List.map eI b) :: topA 10 (AV.int IntKind.i64 (ilen (List.map eI a)) :: AV.int IntKind.i64 v13 :: tops 12), [])) (fun m (v13 : Int) => slices_Equal_int_int_l0 L a b m v13) (fun _ => rfl) (fun m v13 rec hrec => ?_) L 0 ?_ ?_
    rotate_left
    · first | rfl | (simp only [ml])
    · first | rfl | (simp only [ml])
    show _ = Option.map _ (slices_Equal_int_int_l0 L a b (m + 1) v13)
    rw [slices_Equal_int_int_l0.eq_2]
    conv => lhs; whnf
    refine t_cond ?_ ?_
    · conv => lhs; whnf
      refine t_get (en := eI) (l := a) (by first | rfl | (simp only [ml])) fun p => ?_
      conv => lhs; whnf
      refine t_get (en := eI) (l := b) (by first | rfl | (simp only [ml])) fun p1 => ?_
      conv => lhs; whnf
      refine t_cond ?_ ?_
      · conv => lhs; whnf
        exact t_ret (by first | rfl | (simp only [ml]))
      · conv => lhs; whnf
        exact hrec (wr IntKind.i64 (iadd v13 1)) _ _ (by first | rfl | (simp only [ml])) (by first | rfl | (simp only [ml]))
    · conv => lhs; whnf
      exact t_ret (by first | rfl | (simp only [ml]))


noncomputable def impl_TriangleOfKind (L : Nat) (a : List Int) : Option ((List Pt) × Bool) := bif !ieq (ilen (List.map eI a)) 3 then (some (([], false))) else (gbind (lget a 0) fun p => gbind (lget a 1) fun p1 => gbind (lget a 2) fun p2 => gbind (impl_triangle L p p1 p2) fun r => gbind (impl_isThree L r) fun r1 => bif !r1 then (some (([], false))) else (gbind (impl_kindOf L r) fun r2 => gbind (slices_Equal_int_int L r2 a) fun r3 => bif !r3 then (some (([], false))) else (some ((r, true)))))


def impl_TriangleOfKind_ok (L : Nat) (C : CF) : Prop := ∀ (oa : Bool) (ca : Bool) (x_a : List AV) (a : List Int) (_ : x_a = List.map eI a), C 24 ([.lst oa ca 1 x_a]) ([]) = Option.map (fun r : (List Pt) × Bool => ((.tup [.frs 2 (List.map ep (r.1)), .bool (r.2)], []) : AV × List Blk)) (impl_TriangleOfKind L a)


theorem impl_TriangleOfKind_run (L : Nat) (C : CF) (h_impl_isThree : impl_isThree_ok L C) (h_impl_kindOf : impl_kindOf_ok L C) (h_impl_triangle : impl_triangle_ok L C) (h_slices_Equal_int_int : slices_Equal_int_int_ok L C) : ∀ (oa : Bool) (ca : Bool) (x_a : List AV) (a : List Int) (_ : x_a = List.map eI a), run T C sh (keep 24) L Try.f24 ([.lst oa ca 1 x_a]) ([]) = Option.map (fun r : (List Pt) × Bool => ((.tup [.frs 2 (List.map ep (r.1)), .bool (r.2)], []) : AV × List Blk)) (impl_TriangleOfKind L a) := by
  intro oa ca x_a a hx_a
  subst hx_a
  unfold impl_TriangleOfKind
  conv => lhs; whnf
  refine t_cond ?_ ?_
  · conv => lhs; whnf
    exact t_ret (by first | rfl | (simp only [ml]))
  · conv => lhs; whnf
    refine t_get (en := eI) (l := a) (by first | rfl | (simp only [ml])) fun p => ?_
    conv => lhs; whnf
    refine t_get (en := eI) (l := a) (by first | rfl | (simp only [ml])) fun p1 => ?_
    conv => lhs; whnf
    refine t_get (en := eI) (l := a) (by first | rfl | (simp only [ml])) fun p2 => ?_
    conv => lhs; whnf
    refine t_call (h_impl_triangle p p1 p2) fun r => ?_
    conv => lhs; whnf
    refine t_call (h_impl_isThree _ _ _ r (by first | rfl | (simp only [ml]))) fun r1 => ?_
    conv => lhs; whnf
    refine t_cond ?_ ?_
    · conv => lhs; whnf
      exact t_ret (by first | rfl | (simp only [ml]))
    · conv => lhs; whnf
      refine t_call (h_impl_kindOf _ _ _ r (by first | rfl | (simp only [ml]))) fun r2 => ?_
      conv => lhs; whnf
      refine t_call (h_slices_Equal_int_int _ _ _ r2 (by first | rfl | (simp only [ml])) _ _ _ a (by first | rfl | (simp only [ml]))) fun r3 => ?_
      conv => lhs; whnf
      refine t_cond ?_ ?_
      · conv => lhs; whnf
        exact t_ret (by first | rfl | (simp only [ml]))
      · conv => lhs; whnf
        exact t_ret (by first | rfl | (simp only [ml]))


noncomputable def laws_FnExactTriangleOfKind (L : Nat) (a : List Int) : Option (Bool) := bif ilt 1048576 (ilen (List.map eI a)) then (some true) else (gbind (laws_toIntS L a) fun r => gbind (spec_TriangleOfKind L r) fun r1 => gbind (laws_toIntS L a) fun r2 => gbind (impl_TriangleOfKind L r2) fun r3 => gbind (laws_eqPegS L (Prod.fst r3) (Prod.fst r1)) fun r4 => bif !r4 then (some false) else (bif !beqb (Prod.snd r3) (Prod.snd r1) then (some false) else (gbind (laws_toIntS L a) fun r5 => gbind (laws_eqIntS L r2 r5) fun r6 => bif !r6 then (some false) else (gbind (laws_markIntS L r2 1) fun r7 => bif ilt (Prod.fst r7) 0 then (some false) else (gbind (laws_eqPegS L (Prod.fst r3) (Prod.fst r1)) fun r8 => bif !r8 then (some false) else (bif !beqb (Prod.snd r3) (Prod.snd r1) then (some false) else (gbind (laws_markPegS L (Prod.fst r3) 1) fun r9 => gbind (laws_heldPegS L (Prod.snd r9) 1) fun r10 => bif ilt r10 0 then (some false) else (bif !ieq r10 (Prod.fst r9) then (some false) else (gbind (laws_toIntS L a) fun r11 => gbind (impl_TriangleOfKind L r11) fun r12 => gbind (laws_eqPegS L (Prod.fst r12) (Prod.fst r1)) fun r13 => bif !r13 then (some false) else (bif !beqb (Prod.snd r12) (Prod.snd r1) then (some false) else (gbind (laws_heldPegS L (Prod.snd r9) 1) fun r14 => bif ilt r14 0 then (some false) else (bif !ieq r14 (Prod.fst r9) then (some false) else (some true)))))))))))))


def laws_FnExactTriangleOfKind_ok (L : Nat) (C : CF) : Prop := ∀ (oa : Bool) (ca : Bool) (x_a : List AV) (a : List Int) (_ : x_a = List.map eI a), C 6 ([.lst oa ca 1 x_a]) ([]) = Option.map (fun r : Bool => ((.bool r, []) : AV × List Blk)) (laws_FnExactTriangleOfKind L a)


theorem laws_FnExactTriangleOfKind_run (L : Nat) (C : CF) (h_laws_eqPegS : laws_eqPegS_ok L C) (h_laws_markPegS : laws_markPegS_ok L C) (h_laws_heldPegS : laws_heldPegS_ok L C) (h_laws_eqIntS : laws_eqIntS_ok L C) (h_laws_markIntS : laws_markIntS_ok L C) (h_laws_toIntS : laws_toIntS_ok L C) (h_spec_TriangleOfKind : spec_TriangleOfKind_ok L C) (h_impl_TriangleOfKind : impl_TriangleOfKind_ok L C) : ∀ (oa : Bool) (ca : Bool) (x_a : List AV) (a : List Int) (_ : x_a = List.map eI a), run T C sh (keep 6) L Try.f6 ([.lst oa ca 1 x_a]) ([]) = Option.map (fun r : Bool => ((.bool r, []) : AV × List Blk)) (laws_FnExactTriangleOfKind L a) := by
  intro oa ca x_a a hx_a
  subst hx_a
  unfold laws_FnExactTriangleOfKind
  conv => lhs; whnf
  refine t_cond ?_ ?_
  · conv => lhs; whnf
    exact t_ret (by first | rfl | (simp only [ml]))
  · conv => lhs; whnf
    refine t_call (h_laws_toIntS _ _ _ a (by first | rfl | (simp only [ml]))) fun r => ?_
    conv => lhs; whnf
    refine t_call (h_spec_TriangleOfKind _ _ _ r (by first | rfl | (simp only [ml]))) fun r1 => ?_
    conv => lhs; whnf
    refine t_call (h_laws_toIntS _ _ _ a (by first | rfl | (simp only [ml]))) fun r2 => ?_
    conv => lhs; whnf
    refine t_call (h_impl_TriangleOfKind _ _ _ r2 (by first | rfl | (simp only [ml]))) fun r3 => ?_
    conv => lhs; whnf
    refine t_call (h_laws_eqPegS _ _ _ (Prod.fst r3) (by first | rfl | (simp only [ml])) _ _ _ (Prod.fst r1) (by first | rfl | (simp only [ml]))) fun r4 => ?_
    conv => lhs; whnf
    refine t_cond ?_ ?_
    · conv => lhs; whnf
      exact t_ret (by first | rfl | (simp only [ml]))
    · conv => lhs; whnf
      refine t_cond ?_ ?_
      · conv => lhs; whnf
        exact t_ret (by first | rfl | (simp only [ml]))
      · conv => lhs; whnf
        refine t_call (h_laws_toIntS _ _ _ a (by first | rfl | (simp only [ml]))) fun r5 => ?_
        conv => lhs; whnf
        refine t_call (h_laws_eqIntS _ _ _ r2 (by first | rfl | (simp only [ml])) _ _ _ r5 (by first | rfl | (simp only [ml]))) fun r6 => ?_
        conv => lhs; whnf
        refine t_cond ?_ ?_
        · conv => lhs; whnf
          exact t_ret (by first | rfl | (simp only [ml]))
        · conv => lhs; whnf
          refine t_call (h_laws_markIntS _ _ r2 (by first | rfl | (simp only [ml])) 1) fun r7 => ?_
          conv => lhs; whnf
          refine t_cond ?_ ?_
          · conv => lhs; whnf
            exact t_ret (by first | rfl | (simp only [ml]))
          · conv => lhs; whnf
            refine t_call (h_laws_eqPegS _ _ _ (Prod.fst r3) (by first | rfl | (simp only [ml])) _ _ _ (Prod.fst r1) (by first | rfl | (simp only [ml]))) fun r8 => ?_
            conv => lhs; whnf
            refine t_cond ?_ ?_
            · conv => lhs; whnf
              exact t_ret (by first | rfl | (simp only [ml]))
            · conv => lhs; whnf
              refine t_cond ?_ ?_
              · conv => lhs; whnf
                exact t_ret (by first | rfl | (simp only [ml]))
              · conv => lhs; whnf
                refine t_call (h_laws_markPegS _ _ (Prod.fst r3) (by first | rfl | (simp only [ml])) 1) fun r9 => ?_
                conv => lhs; whnf
                refine t_call (h_laws_heldPegS _ _ _ (Prod.snd r9) (by first | rfl | (simp only [ml])) 1) fun r10 => ?_
                conv => lhs; whnf
                refine t_cond ?_ ?_
                · conv => lhs; whnf
                  exact t_ret (by first | rfl | (simp only [ml]))
                · conv => lhs; whnf
                  refine t_cond ?_ ?_
                  · conv => lhs; whnf
                    exact t_ret (by first | rfl | (simp only [ml]))
                  · conv => lhs; whnf
                    refine t_call (h_laws_toIntS _ _ _ a (by first | rfl | (simp only [ml]))) fun r11 => ?_
                    conv => lhs; whnf
                    refine t_call (h_impl_TriangleOfKind _ _ _ r11 (by first | rfl | (simp only [ml]))) fun r12 => ?_
                    conv => lhs; whnf
                    refine t_call (h_laws_eqPegS _ _ _ (Prod.fst r12) (by first | rfl | (simp only [ml])) _ _ _ (Prod.fst r1) (by first | rfl | (simp only [ml]))) fun r13 => ?_
                    conv => lhs; whnf
                    refine t_cond ?_ ?_
                    · conv => lhs; whnf
                      exact t_ret (by first | rfl | (simp only [ml]))
                    · conv => lhs; whnf
                      refine t_cond ?_ ?_
                      · conv => lhs; whnf
                        exact t_ret (by first | rfl | (simp only [ml]))
                      · conv => lhs; whnf
                        refine t_call (h_laws_heldPegS _ _ _ (Prod.snd r9) (by first | rfl | (simp only [ml])) 1) fun r14 => ?_
                        conv => lhs; whnf
                        refine t_cond ?_ ?_
                        · conv => lhs; whnf
                          exact t_ret (by first | rfl | (simp only [ml]))
                        · conv => lhs; whnf
                          refine t_cond ?_ ?_
                          · conv => lhs; whnf
                            exact t_ret (by first | rfl | (simp only [ml]))
                          · conv => lhs; whnf
                            exact t_ret (by first | rfl | (simp only [ml]))


noncomputable def spec_duNumbers_l0 (L : Nat) (a : List Pt) : Nat → Int → (List Int) → Option ((List Int))
  | 0, _, _ => none
  | m + 1, v13, w0 => bif ilt v13 (ilen (List.map ep a)) then (gbind (lget a v13) fun p => bif ieq (ilen (List.map ep a)) 0 then (none) else (gbind (lget a (irem (wr IntKind.i64 (iadd v13 1)) (ilen (List.map ep a)))) fun p1 => bif ieq (ilen (List.map ep a)) 0 then (none) else (gbind (lget a (irem (wr IntKind.i64 (isub (wr IntKind.i64 (iadd v13 (ilen (List.map ep a)))) 1)) (ilen (List.map ep a)))) fun p2 => bif !ieq (Pt.x p) 0 then (bif ieq (Pt.x p) 0 then (none) else (bif fits (iadd (ilen (List.map eI w0)) (ilen [AV.int IntKind.i64 (wr IntKind.i64 (iquo (wr IntKind.i64 (iadd (Pt.x p2) (Pt.x p1))) (Pt.x p)))])) 8 then (spec_duNumbers_l0 L a m (wr IntKind.i64 (iadd v13 1)) (lcat w0 (wr IntKind.i64 (iquo (wr IntKind.i64 (iadd (Pt.x p2) (Pt.x p1))) (Pt.x p)) :: []))) else (none))) else (bif ieq (Pt.y p) 0 then (none) else (bif fits (iadd (ilen (List.map eI w0)) (ilen [AV.int IntKind.i64 (wr IntKind.i64 (iquo (wr IntKind.i64 (iadd (Pt.y p2) (Pt.y p1))) (Pt.y p)))])) 8 then (spec_duNumbers_l0 L a m (wr IntKind.i64 (iadd v13 1)) (lcat w0 (wr IntKind.i64 (iquo (wr IntKind.i64 (iadd (Pt.y p2) (Pt.y p1))) (Pt.y p)) :: []))) else (none)))))) else (some w0)


noncomputable def spec_duNumbers (L : Nat) (a : List Pt) : Option ((List Int)) := spec_duNumbers_l0 L a L 0 []


def spec_duNumbers_ok (L : Nat) (C : CF) : Prop := ∀ (oa : Bool) (ca : Bool) (x_a : List AV) (a : List Pt) (_ : x_a = List.map ep a), C 47 ([.lst oa ca 2 x_a]) ([]) = Option.map (fun r : (List Int) => ((.frs 1 (List.map eI r), []) : AV × List Blk)) (spec_duNumbers L a)


theorem spec_duNumbers_run (L : Nat) (C : CF) : ∀ (oa : Bool) (ca : Bool) (x_a : List AV) (a : List Pt) (_ : x_a = List.map ep a), run T C sh (keep 47) L Try.f47 ([.lst oa ca 2 x_a]) ([]) = Option.map (fun r : (List Int) => ((.frs 1 (List.map eI r), []) : AV × List Blk)) (spec_duNumbers L a) := by
  intro oa ca x_a a hx_a
  subst hx_a
  unfold spec_duNumbers
  conv => lhs; whnf
  refine t_loop (fun (⟨v13, w0⟩ : Int × (List Int)) => (AV.lst oa ca 2 (List.map ep a) :: topA 2 (AV.int IntKind.i64 (ilen (List.map ep a)) :: AV.own 0 1 none false :: topA 6 (AV.lst oa ca 2 (List.map ep a) :: AV.int IntKind.i64 (ilen (List.map ep a)) :: AV.int IntKind.i64 v13 :: tops 47)), [Blk.rows Mode.live 1 (List.map eI w0)])) (fun m (⟨v13, w0⟩ : Int × (List Int)) => spec_duNumbers_l0 L a m v13 w0) (fun _ => rfl) (fun m s rec hrec => ?_) L ((0, [])) ?_ ?_
  rotate_left
  · first | rfl | (simp only [ml])
  · first | rfl | (simp only [ml])
  obtain ⟨v13, w0⟩ := s
  show _ = Option.map _ (spec_duNumbers_l0 L a (m + 1) v13 w0)
  rw [spec_duNumbers_l0.eq_2]
  conv => lhs; whnf
  refine t_cond ?_ ?_
  · conv => lhs; whnf
    refine t_get (en := ep) (l := a) (by first | rfl | (simp only [ml])) fun p => ?_
    conv => lhs; whnf
    refine t_cond ?_ ?_
    · conv => lhs; whnf
      exact t_none
    · conv => lhs; whnf
      refine t_get (en := ep) (l := a) (by first | rfl | (simp only [ml])) fun p1 => ?_
      conv => lhs; whnf
      refine t_cond ?_ ?_
      · conv => lhs; whnf
        exact t_none
      · conv => lhs; whnf
        refine t_get (en := ep) (l := a) (by first | rfl | (simp only [ml])) fun p2 => ?_
        conv => lhs; whnf
        refine t_cond ?_ ?_
        · conv => lhs; whnf
          refine t_cond ?_ ?_
          · conv => lhs; whnf
            exact t_none
          · conv => lhs; whnf
            refine t_cond ?_ ?_
            · conv => lhs; whnf
              exact hrec ((wr IntKind.i64 (iadd v13 1), lcat w0 (wr IntKind.i64 (iquo (wr IntKind.i64 (iadd (Pt.x p2) (Pt.x p1))) (Pt.x p)) :: []))) _ _ (by first | rfl | (simp only [ml])) (by first | rfl | (simp only [ml]))
            · conv => lhs; whnf
              exact t_none
        · conv => lhs; whnf
          refine t_cond ?_ ?_
          · conv => lhs; whnf
            exact t_none
          · conv => lhs; whnf
            refine t_cond ?_ ?_
            · conv => lhs; whnf
              exact hrec ((wr IntKind.i64 (iadd v13 1), lcat w0 (wr IntKind.i64 (iquo (wr IntKind.i64 (iadd (Pt.y p2) (Pt.y p1))) (Pt.y p)) :: []))) _ _ (by first | rfl | (simp only [ml])) (by first | rfl | (simp only [ml]))
            · conv => lhs; whnf
              exact t_none
  · conv => lhs; whnf
    exact t_ret (by first | rfl | (simp only [ml]))


noncomputable def spec_NumbersAround (L : Nat) (a : List Pt) : Option ((List Int) × Bool) := gbind (spec_duOne L a) fun r => bif !r then (some (([], false))) else (gbind (spec_duAround L a) fun r1 => gbind (spec_duNumbers L r1) fun r2 => some ((r2, true)))


def spec_NumbersAround_ok (L : Nat) (C : CF) : Prop := ∀ (oa : Bool) (ca : Bool) (x_a : List AV) (a : List Pt) (_ : x_a = List.map ep a), C 25 ([.lst oa ca 2 x_a]) ([]) = Option.map (fun r : (List Int) × Bool => ((.tup [.frs 1 (List.map eI (r.1)), .bool (r.2)], []) : AV × List Blk)) (spec_NumbersAround L a)


theorem spec_NumbersAround_run (L : Nat) (C : CF) (h_spec_duOne : spec_duOne_ok L C) (h_spec_duAround : spec_duAround_ok L C) (h_spec_duNumbers : spec_duNumbers_ok L C) : ∀ (oa : Bool) (ca : Bool) (x_a : List AV) (a : List Pt) (_ : x_a = List.map ep a), run T C sh (keep 25) L Try.f25 ([.lst oa ca 2 x_a]) ([]) = Option.map (fun r : (List Int) × Bool => ((.tup [.frs 1 (List.map eI (r.1)), .bool (r.2)], []) : AV × List Blk)) (spec_NumbersAround L a) := by
  intro oa ca x_a a hx_a
  subst hx_a
  unfold spec_NumbersAround
  conv => lhs; whnf
  refine t_call (h_spec_duOne _ _ _ a (by first | rfl | (simp only [ml]))) fun r => ?_
  conv => lhs; whnf
  refine t_cond ?_ ?_
  · conv => lhs; whnf
    exact t_ret (by first | rfl | (simp only [ml]))
  · conv => lhs; whnf
    refine t_call (h_spec_duAround _ _ _ a (by first | rfl | (simp only [ml]))) fun r1 => ?_
    conv => lhs; whnf
    refine t_call (h_spec_duNumbers _ _ _ r1 (by first | rfl | (simp only [ml]))) fun r2 => ?_
    conv => lhs; whnf
    exact t_ret (by first | rfl | (simp only [ml]))


noncomputable def impl_ratios_l0 (L : Nat) (a : List Pt) : Nat → Int → (List Int) → Option ((List Int))
  | 0, _, _ => none
  | m + 1, v10, w0 => bif ilt v10 (ilen (List.map ep a)) then (gbind (lget a v10) fun p => gbind (impl_at L a (wr IntKind.i64 (isub v10 1))) fun r => gbind (impl_at L a (wr IntKind.i64 (iadd v10 1))) fun r1 => gbind (impl_Peg_plus L (Prod.fst r) (Prod.snd r) (Prod.fst r1) (Prod.snd r1)) fun r2 => bif !ieq (Pt.x p) 0 then (bif ieq (Pt.x p) 0 then (none) else (bif fits (iadd (ilen (List.map eI w0)) (ilen [AV.int IntKind.i64 (wr IntKind.i64 (iquo (Prod.fst r2) (Pt.x p)))])) 8 then (impl_ratios_l0 L a m (wr IntKind.i64 (iadd v10 1)) (lcat w0 (wr IntKind.i64 (iquo (Prod.fst r2) (Pt.x p)) :: []))) else (none))) else (bif ieq (Pt.y p) 0 then (none) else (bif fits (iadd (ilen (List.map eI w0)) (ilen [AV.int IntKind.i64 (wr IntKind.i64 (iquo (Prod.snd r2) (Pt.y p)))])) 8 then (impl_ratios_l0 L a m (wr IntKind.i64 (iadd v10 1)) (lcat w0 (wr IntKind.i64 (iquo (Prod.snd r2) (Pt.y p)) :: []))) else (none)))) else (some w0)


noncomputable def impl_ratios (L : Nat) (a : List Pt) : Option ((List Int)) := impl_ratios_l0 L a L 0 []


def impl_ratios_ok (L : Nat) (C : CF) : Prop := ∀ (oa : Bool) (ca : Bool) (x_a : List AV) (a : List Pt) (_ : x_a = List.map ep a), C 48 ([.lst oa ca 2 x_a]) ([]) = Option.map (fun r : (List Int) => ((.frs 1 (List.map eI r), []) : AV × List Blk)) (impl_ratios L a)


theorem impl_ratios_run (L : Nat) (C : CF) (h_impl_at : impl_at_ok L C) (h_impl_Peg_plus : impl_Peg_plus_ok L C) : ∀ (oa : Bool) (ca : Bool) (x_a : List AV) (a : List Pt) (_ : x_a = List.map ep a), run T C sh (keep 48) L Try.f48 ([.lst oa ca 2 x_a]) ([]) = Option.map (fun r : (List Int) => ((.frs 1 (List.map eI r), []) : AV × List Blk)) (impl_ratios L a) := by
  intro oa ca x_a a hx_a
  subst hx_a
  unfold impl_ratios
  conv => lhs; whnf
  refine t_loop (fun (⟨v10, w0⟩ : Int × (List Int)) => (AV.lst oa ca 2 (List.map ep a) :: topA 2 (AV.own 0 1 none false :: topA 4 (AV.lst oa ca 2 (List.map ep a) :: AV.int IntKind.i64 (ilen (List.map ep a)) :: AV.int IntKind.i64 v10 :: tops 34)), [Blk.rows Mode.live 1 (List.map eI w0)])) (fun m (⟨v10, w0⟩ : Int × (List Int)) => impl_ratios_l0 L a m v10 w0) (fun _ => rfl) (fun m s rec hrec => ?_) L ((0, [])) ?_ ?_
  rotate_left
  · first | rfl | (simp only [ml])
  · first | rfl | (simp only [ml])
  obtain ⟨v10, w0⟩ := s
  show _ = Option.map _ (impl_ratios_l0 L a (m + 1) v10 w0)
  rw [impl_ratios_l0.eq_2]
  conv => lhs; whnf
  refine t_cond ?_ ?_
  · conv => lhs; whnf
    refine t_get (en := ep) (l := a) (by first | rfl | (simp only [ml])) fun p => ?_
    conv => lhs; whnf
    refine t_call (h_impl_at _ _ _ a (by first | rfl | (simp only [ml])) (wr IntKind.i64 (isub v10 1))) fun r => ?_
    conv => lhs; whnf
    refine t_call (h_impl_at _ _ _ a (by first | rfl | (simp only [ml])) (wr IntKind.i64 (iadd v10 1))) fun r1 => ?_
    conv => lhs; whnf
    refine t_call (h_impl_Peg_plus (Prod.fst r) (Prod.snd r) (Prod.fst r1) (Prod.snd r1)) fun r2 => ?_
    conv => lhs; whnf
    refine t_cond ?_ ?_
    · conv => lhs; whnf
      refine t_cond ?_ ?_
      · conv => lhs; whnf
        exact t_none
      · conv => lhs; whnf
        refine t_cond ?_ ?_
        · conv => lhs; whnf
          exact hrec ((wr IntKind.i64 (iadd v10 1), lcat w0 (wr IntKind.i64 (iquo (Prod.fst r2) (Pt.x p)) :: []))) _ _ (by first | rfl | (simp only [ml])) (by first | rfl | (simp only [ml]))
        · conv => lhs; whnf
          exact t_none
    · conv => lhs; whnf
      refine t_cond ?_ ?_
      · conv => lhs; whnf
        exact t_none
      · conv => lhs; whnf
        refine t_cond ?_ ?_
        · conv => lhs; whnf
          exact hrec ((wr IntKind.i64 (iadd v10 1), lcat w0 (wr IntKind.i64 (iquo (Prod.snd r2) (Pt.y p)) :: []))) _ _ (by first | rfl | (simp only [ml])) (by first | rfl | (simp only [ml]))
        · conv => lhs; whnf
          exact t_none
  · conv => lhs; whnf
    exact t_ret (by first | rfl | (simp only [ml]))


noncomputable def impl_NumbersAround (L : Nat) (a : List Pt) : Option ((List Int) × Bool) := gbind (impl_AroundOf L a) fun r => bif !Prod.snd r then (some (([], false))) else (gbind (impl_ratios L (Prod.fst r)) fun r1 => some ((r1, true)))


def impl_NumbersAround_ok (L : Nat) (C : CF) : Prop := ∀ (oa : Bool) (ca : Bool) (x_a : List AV) (a : List Pt) (_ : x_a = List.map ep a), C 26 ([.lst oa ca 2 x_a]) ([]) = Option.map (fun r : (List Int) × Bool => ((.tup [.frs 1 (List.map eI (r.1)), .bool (r.2)], []) : AV × List Blk)) (impl_NumbersAround L a)


theorem impl_NumbersAround_run (L : Nat) (C : CF) (h_impl_AroundOf : impl_AroundOf_ok L C) (h_impl_ratios : impl_ratios_ok L C) : ∀ (oa : Bool) (ca : Bool) (x_a : List AV) (a : List Pt) (_ : x_a = List.map ep a), run T C sh (keep 26) L Try.f26 ([.lst oa ca 2 x_a]) ([]) = Option.map (fun r : (List Int) × Bool => ((.tup [.frs 1 (List.map eI (r.1)), .bool (r.2)], []) : AV × List Blk)) (impl_NumbersAround L a) := by
  intro oa ca x_a a hx_a
  subst hx_a
  unfold impl_NumbersAround
  conv => lhs; whnf
  refine t_call (h_impl_AroundOf _ _ _ a (by first | rfl | (simp only [ml]))) fun r => ?_
  conv => lhs; whnf
  refine t_cond ?_ ?_
  · conv => lhs; whnf
    exact t_ret (by first | rfl | (simp only [ml]))
  · conv => lhs; whnf
    refine t_call (h_impl_ratios _ _ _ (Prod.fst r) (by first | rfl | (simp only [ml]))) fun r1 => ?_
    conv => lhs; whnf
    exact t_ret (by first | rfl | (simp only [ml]))


noncomputable def laws_FnExactNumbersAround (L : Nat) (a : List Pt) : Option (Bool) := gbind (laws_szPegS L a 1048576) fun r => bif ilt r 0 then (some true) else (gbind (laws_toPegS L a) fun r1 => gbind (spec_NumbersAround L r1) fun r2 => gbind (laws_toPegS L a) fun r3 => gbind (impl_NumbersAround L r3) fun r4 => gbind (laws_eqIntS L (Prod.fst r4) (Prod.fst r2)) fun r5 => bif !r5 then (some false) else (bif !beqb (Prod.snd r4) (Prod.snd r2) then (some false) else (gbind (laws_toPegS L a) fun r6 => gbind (laws_eqPegS L r3 r6) fun r7 => bif !r7 then (some false) else (gbind (laws_markPegS L r3 1) fun r8 => bif ilt (Prod.fst r8) 0 then (some false) else (gbind (laws_eqIntS L (Prod.fst r4) (Prod.fst r2)) fun r9 => bif !r9 then (some false) else (bif !beqb (Prod.snd r4) (Prod.snd r2) then (some false) else (gbind (laws_markIntS L (Prod.fst r4) 1) fun r10 => gbind (laws_heldIntS L (Prod.snd r10) 1) fun r11 => bif ilt r11 0 then (some false) else (bif !ieq r11 (Prod.fst r10) then (some false) else (gbind (laws_toPegS L a) fun r12 => gbind (impl_NumbersAround L r12) fun r13 => gbind (laws_eqIntS L (Prod.fst r13) (Prod.fst r2)) fun r14 => bif !r14 then (some false) else (bif !beqb (Prod.snd r13) (Prod.snd r2) then (some false) else (gbind (laws_heldIntS L (Prod.snd r10) 1) fun r15 => bif ilt r15 0 then (some false) else (bif !ieq r15 (Prod.fst r10) then (some false) else (some true)))))))))))))


def laws_FnExactNumbersAround_ok (L : Nat) (C : CF) : Prop := ∀ (oa : Bool) (ca : Bool) (x_a : List AV) (a : List Pt) (_ : x_a = List.map ep a), C 7 ([.lst oa ca 2 x_a]) ([]) = Option.map (fun r : Bool => ((.bool r, []) : AV × List Blk)) (laws_FnExactNumbersAround L a)


theorem laws_FnExactNumbersAround_run (L : Nat) (C : CF) (h_laws_szPegS : laws_szPegS_ok L C) (h_laws_toPegS : laws_toPegS_ok L C) (h_laws_eqPegS : laws_eqPegS_ok L C) (h_laws_markPegS : laws_markPegS_ok L C) (h_laws_eqIntS : laws_eqIntS_ok L C) (h_laws_markIntS : laws_markIntS_ok L C) (h_laws_heldIntS : laws_heldIntS_ok L C) (h_spec_NumbersAround : spec_NumbersAround_ok L C) (h_impl_NumbersAround : impl_NumbersAround_ok L C) : ∀ (oa : Bool) (ca : Bool) (x_a : List AV) (a : List Pt) (_ : x_a = List.map ep a), run T C sh (keep 7) L Try.f7 ([.lst oa ca 2 x_a]) ([]) = Option.map (fun r : Bool => ((.bool r, []) : AV × List Blk)) (laws_FnExactNumbersAround L a) := by
  intro oa ca x_a a hx_a
  subst hx_a
  unfold laws_FnExactNumbersAround
  conv => lhs; whnf
  refine t_call (h_laws_szPegS _ _ _ a (by first | rfl | (simp only [ml])) 1048576) fun r => ?_
  conv => lhs; whnf
  refine t_cond ?_ ?_
  · conv => lhs; whnf
    exact t_ret (by first | rfl | (simp only [ml]))
  · conv => lhs; whnf
    refine t_call (h_laws_toPegS _ _ _ a (by first | rfl | (simp only [ml]))) fun r1 => ?_
    conv => lhs; whnf
    refine t_call (h_spec_NumbersAround _ _ _ r1 (by first | rfl | (simp only [ml]))) fun r2 => ?_
    conv => lhs; whnf
    refine t_call (h_laws_toPegS _ _ _ a (by first | rfl | (simp only [ml]))) fun r3 => ?_
    conv => lhs; whnf
    refine t_call (h_impl_NumbersAround _ _ _ r3 (by first | rfl | (simp only [ml]))) fun r4 => ?_
    conv => lhs; whnf
    refine t_call (h_laws_eqIntS _ _ _ (Prod.fst r4) (by first | rfl | (simp only [ml])) _ _ _ (Prod.fst r2) (by first | rfl | (simp only [ml]))) fun r5 => ?_
    conv => lhs; whnf
    refine t_cond ?_ ?_
    · conv => lhs; whnf
      exact t_ret (by first | rfl | (simp only [ml]))
    · conv => lhs; whnf
      refine t_cond ?_ ?_
      · conv => lhs; whnf
        exact t_ret (by first | rfl | (simp only [ml]))
      · conv => lhs; whnf
        refine t_call (h_laws_toPegS _ _ _ a (by first | rfl | (simp only [ml]))) fun r6 => ?_
        conv => lhs; whnf
        refine t_call (h_laws_eqPegS _ _ _ r3 (by first | rfl | (simp only [ml])) _ _ _ r6 (by first | rfl | (simp only [ml]))) fun r7 => ?_
        conv => lhs; whnf
        refine t_cond ?_ ?_
        · conv => lhs; whnf
          exact t_ret (by first | rfl | (simp only [ml]))
        · conv => lhs; whnf
          refine t_call (h_laws_markPegS _ _ r3 (by first | rfl | (simp only [ml])) 1) fun r8 => ?_
          conv => lhs; whnf
          refine t_cond ?_ ?_
          · conv => lhs; whnf
            exact t_ret (by first | rfl | (simp only [ml]))
          · conv => lhs; whnf
            refine t_call (h_laws_eqIntS _ _ _ (Prod.fst r4) (by first | rfl | (simp only [ml])) _ _ _ (Prod.fst r2) (by first | rfl | (simp only [ml]))) fun r9 => ?_
            conv => lhs; whnf
            refine t_cond ?_ ?_
            · conv => lhs; whnf
              exact t_ret (by first | rfl | (simp only [ml]))
            · conv => lhs; whnf
              refine t_cond ?_ ?_
              · conv => lhs; whnf
                exact t_ret (by first | rfl | (simp only [ml]))
              · conv => lhs; whnf
                refine t_call (h_laws_markIntS _ _ (Prod.fst r4) (by first | rfl | (simp only [ml])) 1) fun r10 => ?_
                conv => lhs; whnf
                refine t_call (h_laws_heldIntS _ _ _ (Prod.snd r10) (by first | rfl | (simp only [ml])) 1) fun r11 => ?_
                conv => lhs; whnf
                refine t_cond ?_ ?_
                · conv => lhs; whnf
                  exact t_ret (by first | rfl | (simp only [ml]))
                · conv => lhs; whnf
                  refine t_cond ?_ ?_
                  · conv => lhs; whnf
                    exact t_ret (by first | rfl | (simp only [ml]))
                  · conv => lhs; whnf
                    refine t_call (h_laws_toPegS _ _ _ a (by first | rfl | (simp only [ml]))) fun r12 => ?_
                    conv => lhs; whnf
                    refine t_call (h_impl_NumbersAround _ _ _ r12 (by first | rfl | (simp only [ml]))) fun r13 => ?_
                    conv => lhs; whnf
                    refine t_call (h_laws_eqIntS _ _ _ (Prod.fst r13) (by first | rfl | (simp only [ml])) _ _ _ (Prod.fst r2) (by first | rfl | (simp only [ml]))) fun r14 => ?_
                    conv => lhs; whnf
                    refine t_cond ?_ ?_
                    · conv => lhs; whnf
                      exact t_ret (by first | rfl | (simp only [ml]))
                    · conv => lhs; whnf
                      refine t_cond ?_ ?_
                      · conv => lhs; whnf
                        exact t_ret (by first | rfl | (simp only [ml]))
                      · conv => lhs; whnf
                        refine t_call (h_laws_heldIntS _ _ _ (Prod.snd r10) (by first | rfl | (simp only [ml])) 1) fun r15 => ?_
                        conv => lhs; whnf
                        refine t_cond ?_ ?_
                        · conv => lhs; whnf
                          exact t_ret (by first | rfl | (simp only [ml]))
                        · conv => lhs; whnf
                          refine t_cond ?_ ?_
                          · conv => lhs; whnf
                            exact t_ret (by first | rfl | (simp only [ml]))
                          · conv => lhs; whnf
                            exact t_ret (by first | rfl | (simp only [ml]))



end Go.AM
