import Derived.Test.YtnhlmmnaanallaaAmSeat
set_option linter.unusedVariables false
set_option linter.unusedSimpArgs false
set_option linter.unnecessarySimpa false
set_option linter.deprecated false
set_option linter.unusedSectionVars false
open Go Go.AM Go.Proofs
namespace Go.AM
set_option maxRecDepth 40000
set_option maxHeartbeats 2000000
set_option linter.unusedVariables false
noncomputable def laws_szPegS (L : Nat) (a : List Pt) (b : Int) : Option (Int) := bif ilt (wr IntKind.i64 (isub b (ilen (List.map ep a)))) 0 then (some (-1)) else (some (wr IntKind.i64 (isub b (ilen (List.map ep a)))))


def laws_szPegS_ok (L : Nat) (C : CF) : Prop := ∀ (oa : Bool) (ca : Bool) (x_a : List AV) (a : List Pt) (_ : x_a = List.map ep a) (b : Int), C 15 ([.lst oa ca 2 x_a, .int .i64 b]) ([]) = Option.map (fun r : Int => ((.int .i64 r, []) : AV × List Blk)) (laws_szPegS L a b)


theorem laws_szPegS_run (L : Nat) (C : CF) : ∀ (oa : Bool) (ca : Bool) (x_a : List AV) (a : List Pt) (_ : x_a = List.map ep a) (b : Int), run T C sh (keep 15) L Try.f15 ([.lst oa ca 2 x_a, .int .i64 b]) ([]) = Option.map (fun r : Int => ((.int .i64 r, []) : AV × List Blk)) (laws_szPegS L a b) := by
  intro oa ca x_a a hx_a b
  subst hx_a
  unfold laws_szPegS
  conv => lhs; whnf
  refine t_cond ?_ ?_
  · conv => lhs; whnf
    exact t_ret (by first | rfl | (simp only [ml]; done) | (simp only [ml]; rfl))
  · conv => lhs; whnf
    exact t_ret (by first | rfl | (simp only [ml]; done) | (simp only [ml]; rfl))


noncomputable def laws_toPeg (L : Nat) (a_0 : Int) (a_1 : Int) : Option (Int × Int) := some ((a_0, a_1))


def laws_toPeg_ok (L : Nat) (C : CF) : Prop := ∀ (a_0 : Int) (a_1 : Int), C 21 ([.agg [.int .i64 a_0, .int .i64 a_1]]) ([]) = Option.map (fun r : Int × Int => ((.agg [.int .i64 (r.1), .int .i64 (r.2)], []) : AV × List Blk)) (laws_toPeg L a_0 a_1)


theorem laws_toPeg_run (L : Nat) (C : CF) : ∀ (a_0 : Int) (a_1 : Int), run T C sh (keep 21) L Try.f21 ([.agg [.int .i64 a_0, .int .i64 a_1]]) ([]) = Option.map (fun r : Int × Int => ((.agg [.int .i64 (r.1), .int .i64 (r.2)], []) : AV × List Blk)) (laws_toPeg L a_0 a_1) := by
  intro a_0 a_1
  unfold laws_toPeg
  conv => lhs; whnf
  exact t_ret (by first | rfl | (simp only [ml]; done) | (simp only [ml]; rfl))


noncomputable def laws_toPegS_l0 (L : Nat) (a : List Pt) : Nat → Int → (List Pt) → Option ((List Pt))
  | 0, _, _ => none
  | m + 1, v4, w0 => bif ilt v4 (ilen (List.map ep a)) then (gbind (lget a v4) fun p => gbind (laws_toPeg L (Pt.x p) (Pt.y p)) fun r => bif ile 0 v4 && ilt v4 (ilen (List.map ep w0)) then (gbind (lget w0 v4) fun p1 => laws_toPegS_l0 L a m (wr IntKind.i64 (iadd v4 1)) (lset w0 v4 ({ x := Prod.fst r, y := Prod.snd r }))) else (none)) else (some w0)


noncomputable def laws_toPegS (L : Nat) (a : List Pt) : Option ((List Pt)) := bif ile 0 (ilen (List.map ep a)) && ile (ilen (List.map ep a)) (ilen (List.map ep a)) && fits (ilen (List.map ep a)) 16 then (laws_toPegS_l0 L a L 0 (lrep (ilen (List.map ep a)) ({ x := 0, y := 0 }))) else (none)


def laws_toPegS_ok (L : Nat) (C : CF) : Prop := ∀ (oa : Bool) (ca : Bool) (x_a : List AV) (a : List Pt) (_ : x_a = List.map ep a), C 17 ([.lst oa ca 2 x_a]) ([]) = Option.map (fun r : (List Pt) => ((.frs 2 (List.map ep r), []) : AV × List Blk)) (laws_toPegS L a)


theorem laws_toPegS_run (L : Nat) (C : CF) (h_laws_toPeg : laws_toPeg_ok L C) : ∀ (oa : Bool) (ca : Bool) (x_a : List AV) (a : List Pt) (_ : x_a = List.map ep a), run T C sh (keep 17) L Try.f17 ([.lst oa ca 2 x_a]) ([]) = Option.map (fun r : (List Pt) => ((.frs 2 (List.map ep r), []) : AV × List Blk)) (laws_toPegS L a) := by
  intro oa ca x_a a hx_a
  subst hx_a
  unfold laws_toPegS
  conv => lhs; whnf
  refine t_cond ?_ ?_
  · conv => lhs; whnf
    refine t_loop (fun (⟨v4, w0⟩ : Int × (List Pt)) => (AV.lst oa ca 2 (List.map ep a) :: topA 2 (AV.own 0 2 none false :: AV.int IntKind.i64 v4 :: tops 18), [Blk.rows Mode.live 2 (List.map ep w0)])) (fun m (⟨v4, w0⟩ : Int × (List Pt)) => laws_toPegS_l0 L a m v4 w0) (fun _ => rfl) (fun m s rec hrec => ?_) L ((0, lrep (ilen (List.map ep a)) ({ x := 0, y := 0 }))) ?_ ?_
    rotate_left
    · first | rfl | (simp only [ml]; done) | (simp only [ml]; rfl)
    · first | rfl | (simp only [ml]; done) | (simp only [ml]; rfl)
    obtain ⟨v4, w0⟩ := s
    show _ = Option.map _ (laws_toPegS_l0 L a (m + 1) v4 w0)
    rw [laws_toPegS_l0.eq_2]
    conv => lhs; whnf
    refine t_cond ?_ ?_
    · conv => lhs; whnf
      refine t_get (en := ep) (l := a) (by first | rfl | (simp only [ml]; done) | (simp only [ml]; rfl)) fun p => ?_
      conv => lhs; whnf
      refine t_call (h_laws_toPeg (Pt.x p) (Pt.y p)) fun r => ?_
      conv => lhs; whnf
      refine t_cond ?_ ?_
      · conv => lhs; whnf
        refine t_get (en := ep) (l := w0) (by first | rfl | (simp only [ml]; done) | (simp only [ml]; rfl)) fun p1 => ?_
        conv => lhs; whnf
        exact hrec ((wr IntKind.i64 (iadd v4 1), lset w0 v4 ({ x := Prod.fst r, y := Prod.snd r }))) _ _ (by first | rfl | (simp only [ml]; done) | (simp only [ml]; rfl)) (by first | rfl | (simp only [ml]; done) | (simp only [ml]; rfl))
      · conv => lhs; whnf
        exact t_none
    · conv => lhs; whnf
      exact t_ret (by first | rfl | (simp only [ml]; done) | (simp only [ml]; rfl))
  · conv => lhs; whnf
    exact t_none


noncomputable def spec_l1In (L : Nat) (a : Int) (b : Int) (c : Int) : Option (Bool) := bif ile b a then (some (ile a c)) else (some false)


def spec_l1In_ok (L : Nat) (C : CF) : Prop := ∀ (a : Int) (b : Int) (c : Int), C 56 ([.int .i64 a, .int .i64 b, .int .i64 c]) ([]) = Option.map (fun r : Bool => ((.bool r, []) : AV × List Blk)) (spec_l1In L a b c)


theorem spec_l1In_run (L : Nat) (C : CF) : ∀ (a : Int) (b : Int) (c : Int), run T C sh (keep 56) L Try.f56 ([.int .i64 a, .int .i64 b, .int .i64 c]) ([]) = Option.map (fun r : Bool => ((.bool r, []) : AV × List Blk)) (spec_l1In L a b c) := by
  intro a b c
  unfold spec_l1In
  conv => lhs; whnf
  refine t_cond ?_ ?_
  · conv => lhs; whnf
    exact t_ret (by first | rfl | (simp only [ml]; done) | (simp only [ml]; rfl))
  · conv => lhs; whnf
    exact t_ret (by first | rfl | (simp only [ml]; done) | (simp only [ml]; rfl))


noncomputable def spec_pgIs (L : Nat) (a_0 : Int) (a_1 : Int) : Option (Bool) := gbind (spec_l1In L a_0 (-40) 40) fun r => bif r then (gbind (spec_l1In L a_1 (-40) 40) fun r1 => some r1) else (some false)


def spec_pgIs_ok (L : Nat) (C : CF) : Prop := ∀ (a_0 : Int) (a_1 : Int), C 62 ([.agg [.int .i64 a_0, .int .i64 a_1]]) ([]) = Option.map (fun r : Bool => ((.bool r, []) : AV × List Blk)) (spec_pgIs L a_0 a_1)


theorem spec_pgIs_run (L : Nat) (C : CF) (h_spec_l1In : spec_l1In_ok L C) : ∀ (a_0 : Int) (a_1 : Int), run T C sh (keep 62) L Try.f62 ([.agg [.int .i64 a_0, .int .i64 a_1]]) ([]) = Option.map (fun r : Bool => ((.bool r, []) : AV × List Blk)) (spec_pgIs L a_0 a_1) := by
  intro a_0 a_1
  unfold spec_pgIs
  conv => lhs; whnf
  refine t_call (h_spec_l1In a_0 (-40) 40) fun r => ?_
  conv => lhs; whnf
  refine t_cond ?_ ?_
  · conv => lhs; whnf
    refine t_call (h_spec_l1In a_1 (-40) 40) fun r1 => ?_
    conv => lhs; whnf
    exact t_ret (by first | rfl | (simp only [ml]; done) | (simp only [ml]; rfl))
  · conv => lhs; whnf
    exact t_ret (by first | rfl | (simp only [ml]; done) | (simp only [ml]; rfl))


noncomputable def spec_pgTurn (L : Nat) (a_0 : Int) (a_1 : Int) (b_0 : Int) (b_1 : Int) (c_0 : Int) (c_1 : Int) : Option (Int) := some (wr IntKind.i64 (isub (wr IntKind.i64 (imul (wr IntKind.i64 (isub b_0 a_0)) (wr IntKind.i64 (isub c_1 a_1)))) (wr IntKind.i64 (imul (wr IntKind.i64 (isub b_1 a_1)) (wr IntKind.i64 (isub c_0 a_0))))))


def spec_pgTurn_ok (L : Nat) (C : CF) : Prop := ∀ (a_0 : Int) (a_1 : Int) (b_0 : Int) (b_1 : Int) (c_0 : Int) (c_1 : Int), C 72 ([.agg [.int .i64 a_0, .int .i64 a_1], .agg [.int .i64 b_0, .int .i64 b_1], .agg [.int .i64 c_0, .int .i64 c_1]]) ([]) = Option.map (fun r : Int => ((.int .i64 r, []) : AV × List Blk)) (spec_pgTurn L a_0 a_1 b_0 b_1 c_0 c_1)


theorem spec_pgTurn_run (L : Nat) (C : CF) : ∀ (a_0 : Int) (a_1 : Int) (b_0 : Int) (b_1 : Int) (c_0 : Int) (c_1 : Int), run T C sh (keep 72) L Try.f72 ([.agg [.int .i64 a_0, .int .i64 a_1], .agg [.int .i64 b_0, .int .i64 b_1], .agg [.int .i64 c_0, .int .i64 c_1]]) ([]) = Option.map (fun r : Int => ((.int .i64 r, []) : AV × List Blk)) (spec_pgTurn L a_0 a_1 b_0 b_1 c_0 c_1) := by
  intro a_0 a_1 b_0 b_1 c_0 c_1
  unfold spec_pgTurn
  conv => lhs; whnf
  exact t_ret (by first | rfl | (simp only [ml]; done) | (simp only [ml]; rfl))


noncomputable def spec_pgOn (L : Nat) (a_0 : Int) (a_1 : Int) (b_0 : Int) (b_1 : Int) (c_0 : Int) (c_1 : Int) : Option (Bool) := gbind (spec_pgTurn L a_0 a_1 b_0 b_1 c_0 c_1) fun r => bif ieq r 0 then (bif ile (wr IntKind.i64 (imul (wr IntKind.i64 (isub a_0 c_0)) (wr IntKind.i64 (isub b_0 c_0)))) 0 then (some (ile (wr IntKind.i64 (imul (wr IntKind.i64 (isub a_1 c_1)) (wr IntKind.i64 (isub b_1 c_1)))) 0)) else (some false)) else (some false)


def spec_pgOn_ok (L : Nat) (C : CF) : Prop := ∀ (a_0 : Int) (a_1 : Int) (b_0 : Int) (b_1 : Int) (c_0 : Int) (c_1 : Int), C 156 ([.agg [.int .i64 a_0, .int .i64 a_1], .agg [.int .i64 b_0, .int .i64 b_1], .agg [.int .i64 c_0, .int .i64 c_1]]) ([]) = Option.map (fun r : Bool => ((.bool r, []) : AV × List Blk)) (spec_pgOn L a_0 a_1 b_0 b_1 c_0 c_1)


theorem spec_pgOn_run (L : Nat) (C : CF) (h_spec_pgTurn : spec_pgTurn_ok L C) : ∀ (a_0 : Int) (a_1 : Int) (b_0 : Int) (b_1 : Int) (c_0 : Int) (c_1 : Int), run T C sh (keep 156) L Try.f156 ([.agg [.int .i64 a_0, .int .i64 a_1], .agg [.int .i64 b_0, .int .i64 b_1], .agg [.int .i64 c_0, .int .i64 c_1]]) ([]) = Option.map (fun r : Bool => ((.bool r, []) : AV × List Blk)) (spec_pgOn L a_0 a_1 b_0 b_1 c_0 c_1) := by
  intro a_0 a_1 b_0 b_1 c_0 c_1
  unfold spec_pgOn
  conv => lhs; whnf
  refine t_call (h_spec_pgTurn a_0 a_1 b_0 b_1 c_0 c_1) fun r => ?_
  conv => lhs; whnf
  refine t_cond ?_ ?_
  · conv => lhs; whnf
    refine t_cond ?_ ?_
    · conv => lhs; whnf
      exact t_ret (by first | rfl | (simp only [ml]; done) | (simp only [ml]; rfl))
    · conv => lhs; whnf
      exact t_ret (by first | rfl | (simp only [ml]; done) | (simp only [ml]; rfl))
  · conv => lhs; whnf
    exact t_ret (by first | rfl | (simp only [ml]; done) | (simp only [ml]; rfl))


noncomputable def impl_within (L : Nat) (a : Int) (b : Int) (c : Int) : Option (Bool) := bif ile b a then (some (ile a c)) else (some false)


def impl_within_ok (L : Nat) (C : CF) : Prop := ∀ (a : Int) (b : Int) (c : Int), C 59 ([.int .i64 a, .int .i64 b, .int .i64 c]) ([]) = Option.map (fun r : Bool => ((.bool r, []) : AV × List Blk)) (impl_within L a b c)


theorem impl_within_run (L : Nat) (C : CF) : ∀ (a : Int) (b : Int) (c : Int), run T C sh (keep 59) L Try.f59 ([.int .i64 a, .int .i64 b, .int .i64 c]) ([]) = Option.map (fun r : Bool => ((.bool r, []) : AV × List Blk)) (impl_within L a b c) := by
  intro a b c
  unfold impl_within
  conv => lhs; whnf
  refine t_cond ?_ ?_
  · conv => lhs; whnf
    exact t_ret (by first | rfl | (simp only [ml]; done) | (simp only [ml]; rfl))
  · conv => lhs; whnf
    exact t_ret (by first | rfl | (simp only [ml]; done) | (simp only [ml]; rfl))


noncomputable def impl_IsPeg (L : Nat) (a_0 : Int) (a_1 : Int) : Option (Bool) := gbind (impl_within L a_0 (-40) 40) fun r => bif r then (gbind (impl_within L a_1 (-40) 40) fun r1 => some r1) else (some false)


def impl_IsPeg_ok (L : Nat) (C : CF) : Prop := ∀ (a_0 : Int) (a_1 : Int), C 67 ([.agg [.int .i64 a_0, .int .i64 a_1]]) ([]) = Option.map (fun r : Bool => ((.bool r, []) : AV × List Blk)) (impl_IsPeg L a_0 a_1)


theorem impl_IsPeg_run (L : Nat) (C : CF) (h_impl_within : impl_within_ok L C) : ∀ (a_0 : Int) (a_1 : Int), run T C sh (keep 67) L Try.f67 ([.agg [.int .i64 a_0, .int .i64 a_1]]) ([]) = Option.map (fun r : Bool => ((.bool r, []) : AV × List Blk)) (impl_IsPeg L a_0 a_1) := by
  intro a_0 a_1
  unfold impl_IsPeg
  conv => lhs; whnf
  refine t_call (h_impl_within a_0 (-40) 40) fun r => ?_
  conv => lhs; whnf
  refine t_cond ?_ ?_
  · conv => lhs; whnf
    refine t_call (h_impl_within a_1 (-40) 40) fun r1 => ?_
    conv => lhs; whnf
    exact t_ret (by first | rfl | (simp only [ml]; done) | (simp only [ml]; rfl))
  · conv => lhs; whnf
    exact t_ret (by first | rfl | (simp only [ml]; done) | (simp only [ml]; rfl))


noncomputable def impl_arePegs_1 (L : Nat) (a_0 : Int) (a_1 : Int) : Option (Bool) := gbind (impl_IsPeg L a_0 a_1) fun r => some (!r)


def impl_arePegs_1_ok (L : Nat) (C : CF) : Prop := ∀ (a_0 : Int) (a_1 : Int), C 159 ([.agg [.int .i64 a_0, .int .i64 a_1]]) ([]) = Option.map (fun r : Bool => ((.bool r, []) : AV × List Blk)) (impl_arePegs_1 L a_0 a_1)


theorem impl_arePegs_1_run (L : Nat) (C : CF) (h_impl_IsPeg : impl_IsPeg_ok L C) : ∀ (a_0 : Int) (a_1 : Int), run T C sh (keep 159) L Try.f159 ([.agg [.int .i64 a_0, .int .i64 a_1]]) ([]) = Option.map (fun r : Bool => ((.bool r, []) : AV × List Blk)) (impl_arePegs_1 L a_0 a_1) := by
  intro a_0 a_1
  unfold impl_arePegs_1
  conv => lhs; whnf
  refine t_call (h_impl_IsPeg a_0 a_1) fun r => ?_
  conv => lhs; whnf
  exact t_ret (by first | rfl | (simp only [ml]; done) | (simp only [ml]; rfl))


noncomputable def slices_IndexFunc_impl_Peg_impl_Peg_172_arePegs_l0 (L : Nat) (a : List Pt) : Nat → Int → Option Int
  | 0, _ => none
  | m + 1, v8 => bif ilt v8 (ilen (List.map ep a)) then (gbind (lget a v8) fun p => gbind (impl_arePegs_1 L (Pt.x p) (Pt.y p)) fun r => bif r then (some v8) else (slices_IndexFunc_impl_Peg_impl_Peg_172_arePegs_l0 L a m (wr IntKind.i64 (iadd v8 1)))) else (some (-1))


noncomputable def slices_IndexFunc_impl_Peg_impl_Peg_172_arePegs (L : Nat) (a : List Pt) : Option (Int) := slices_IndexFunc_impl_Peg_impl_Peg_172_arePegs_l0 L a L 0


def slices_IndexFunc_impl_Peg_impl_Peg_172_arePegs_ok (L : Nat) (C : CF) : Prop := ∀ (o1 : Bool) (c1 : Bool) (x_a : List AV) (a : List Pt) (_ : x_a = List.map ep a), C 172 ([.lst o1 c1 2 x_a, .fn 159 [] []]) ([]) = Option.map (fun r : Int => ((.int .i64 r, []) : AV × List Blk)) (slices_IndexFunc_impl_Peg_impl_Peg_172_arePegs L a)


theorem slices_IndexFunc_impl_Peg_impl_Peg_172_arePegs_run (L : Nat) (C : CF) (h_impl_arePegs_1 : impl_arePegs_1_ok L C) : ∀ (o1 : Bool) (c1 : Bool) (x_a : List AV) (a : List Pt) (_ : x_a = List.map ep a), run T C sh (keep 172) L Try.f172 ([.lst o1 c1 2 x_a, .fn 159 [] []]) ([]) = Option.map (fun r : Int => ((.int .i64 r, []) : AV × List Blk)) (slices_IndexFunc_impl_Peg_impl_Peg_172_arePegs L a) := by
  intro o1 c1 x_a a hx_a
  subst hx_a
  unfold slices_IndexFunc_impl_Peg_impl_Peg_172_arePegs
  conv => lhs; whnf
  refine t_loop (fun (v8 : Int) => (AV.lst o1 c1 2 (List.map ep a) :: AV.fn 159 [] [] :: topA 5 (AV.int IntKind.i64 (ilen (List.map ep a)) :: AV.int IntKind.i64 v8 :: tops 10), [])) (fun m (v8 : Int) => slices_IndexFunc_impl_Peg_impl_Peg_172_arePegs_l0 L a m v8) (fun _ => rfl) (fun m v8 rec hrec => ?_) L 0 ?_ ?_
  rotate_left
  · first | rfl | (simp only [ml]; done) | (simp only [ml]; rfl)
  · first | rfl | (simp only [ml]; done) | (simp only [ml]; rfl)
  show _ = Option.map _ (slices_IndexFunc_impl_Peg_impl_Peg_172_arePegs_l0 L a (m + 1) v8)
  rw [slices_IndexFunc_impl_Peg_impl_Peg_172_arePegs_l0.eq_2]
  conv => lhs; whnf
  refine t_cond ?_ ?_
  · conv => lhs; whnf
    refine t_get (en := ep) (l := a) (by first | rfl | (simp only [ml]; done) | (simp only [ml]; rfl)) fun p => ?_
    conv => lhs; whnf
    refine t_call (h_impl_arePegs_1 (Pt.x p) (Pt.y p)) fun r => ?_
    conv => lhs; whnf
    refine t_cond ?_ ?_
    · conv => lhs; whnf
      exact t_ret (by first | rfl | (simp only [ml]; done) | (simp only [ml]; rfl))
    · conv => lhs; whnf
      exact hrec (wr IntKind.i64 (iadd v8 1)) _ _ (by first | rfl | (simp only [ml]; done) | (simp only [ml]; rfl)) (by first | rfl | (simp only [ml]; done) | (simp only [ml]; rfl))
  · conv => lhs; whnf
    exact t_ret (by first | rfl | (simp only [ml]; done) | (simp only [ml]; rfl))


noncomputable def slices_ContainsFunc_impl_Peg_impl_Peg_158_arePegs (L : Nat) (a : List Pt) : Option (Bool) := gbind (slices_IndexFunc_impl_Peg_impl_Peg_172_arePegs L a) fun r => some (ile 0 r)


def slices_ContainsFunc_impl_Peg_impl_Peg_158_arePegs_ok (L : Nat) (C : CF) : Prop := ∀ (o1 : Bool) (c1 : Bool) (x_a : List AV) (a : List Pt) (_ : x_a = List.map ep a), C 158 ([.lst o1 c1 2 x_a, .fn 159 [] []]) ([]) = Option.map (fun r : Bool => ((.bool r, []) : AV × List Blk)) (slices_ContainsFunc_impl_Peg_impl_Peg_158_arePegs L a)


theorem slices_ContainsFunc_impl_Peg_impl_Peg_158_arePegs_run (L : Nat) (C : CF) (h_slices_IndexFunc_impl_Peg_impl_Peg_172_arePegs : slices_IndexFunc_impl_Peg_impl_Peg_172_arePegs_ok L C) : ∀ (o1 : Bool) (c1 : Bool) (x_a : List AV) (a : List Pt) (_ : x_a = List.map ep a), run T C sh (keep 158) L Try.f158 ([.lst o1 c1 2 x_a, .fn 159 [] []]) ([]) = Option.map (fun r : Bool => ((.bool r, []) : AV × List Blk)) (slices_ContainsFunc_impl_Peg_impl_Peg_158_arePegs L a) := by
  intro o1 c1 x_a a hx_a
  subst hx_a
  unfold slices_ContainsFunc_impl_Peg_impl_Peg_158_arePegs
  conv => lhs; whnf
  refine t_call (h_slices_IndexFunc_impl_Peg_impl_Peg_172_arePegs _ _ _ a (by first | rfl | (simp only [ml]; done) | (simp only [ml]; rfl))) fun r => ?_
  conv => lhs; whnf
  exact t_ret (by first | rfl | (simp only [ml]; done) | (simp only [ml]; rfl))


noncomputable def impl_arePegs (L : Nat) (a : List Pt) : Option (Bool) := gbind (slices_ContainsFunc_impl_Peg_impl_Peg_158_arePegs L a) fun r => some (!r)


def impl_arePegs_ok (L : Nat) (C : CF) : Prop := ∀ (oa : Bool) (ca : Bool) (x_a : List AV) (a : List Pt) (_ : x_a = List.map ep a), C 110 ([.lst oa ca 2 x_a]) ([]) = Option.map (fun r : Bool => ((.bool r, []) : AV × List Blk)) (impl_arePegs L a)


theorem impl_arePegs_run (L : Nat) (C : CF) (h_slices_ContainsFunc_impl_Peg_impl_Peg_158_arePegs : slices_ContainsFunc_impl_Peg_impl_Peg_158_arePegs_ok L C) : ∀ (oa : Bool) (ca : Bool) (x_a : List AV) (a : List Pt) (_ : x_a = List.map ep a), run T C sh (keep 110) L Try.f110 ([.lst oa ca 2 x_a]) ([]) = Option.map (fun r : Bool => ((.bool r, []) : AV × List Blk)) (impl_arePegs L a) := by
  intro oa ca x_a a hx_a
  subst hx_a
  unfold impl_arePegs
  conv => lhs; whnf
  refine t_call (h_slices_ContainsFunc_impl_Peg_impl_Peg_158_arePegs _ _ _ a (by first | rfl | (simp only [ml]; done) | (simp only [ml]; rfl))) fun r => ?_
  conv => lhs; whnf
  exact t_ret (by first | rfl | (simp only [ml]; done) | (simp only [ml]; rfl))


noncomputable def slices_Index_impl_Peg_impl_Peg_l0 (L : Nat) (a : List Pt) (b_0 : Int) (b_1 : Int) : Nat → Int → Option Int
  | 0, _ => none
  | m + 1, v8 => bif ilt v8 (ilen (List.map ep a)) then (gbind (lget a v8) fun p => bif ieq b_0 (Pt.x p) && ieq b_1 (Pt.y p) then (some v8) else (slices_Index_impl_Peg_impl_Peg_l0 L a b_0 b_1 m (wr IntKind.i64 (iadd v8 1)))) else (some (-1))


noncomputable def slices_Index_impl_Peg_impl_Peg (L : Nat) (a : List Pt) (b_0 : Int) (b_1 : Int) : Option (Int) := slices_Index_impl_Peg_impl_Peg_l0 L a b_0 b_1 L 0


def slices_Index_impl_Peg_impl_Peg_ok (L : Nat) (C : CF) : Prop := ∀ (oa : Bool) (ca : Bool) (x_a : List AV) (a : List Pt) (_ : x_a = List.map ep a) (b_0 : Int) (b_1 : Int), C 127 ([.lst oa ca 2 x_a, .agg [.int .i64 b_0, .int .i64 b_1]]) ([]) = Option.map (fun r : Int => ((.int .i64 r, []) : AV × List Blk)) (slices_Index_impl_Peg_impl_Peg L a b_0 b_1)


theorem slices_Index_impl_Peg_impl_Peg_run (L : Nat) (C : CF) : ∀ (oa : Bool) (ca : Bool) (x_a : List AV) (a : List Pt) (_ : x_a = List.map ep a) (b_0 : Int) (b_1 : Int), run T C sh (keep 127) L Try.f127 ([.lst oa ca 2 x_a, .agg [.int .i64 b_0, .int .i64 b_1]]) ([]) = Option.map (fun r : Int => ((.int .i64 r, []) : AV × List Blk)) (slices_Index_impl_Peg_impl_Peg L a b_0 b_1) := by
  intro oa ca x_a a hx_a b_0 b_1
  subst hx_a
  unfold slices_Index_impl_Peg_impl_Peg
  conv => lhs; whnf
  refine t_loop (fun (v8 : Int) => (AV.lst oa ca 2 (List.map ep a) :: topA 2 (AV.ptr 0 0 0 2 :: topA 3 (AV.int IntKind.i64 (ilen (List.map ep a)) :: AV.int IntKind.i64 v8 :: tops 10)), [Blk.box (AV.agg [AV.int IntKind.i64 b_0, AV.int IntKind.i64 b_1])])) (fun m (v8 : Int) => slices_Index_impl_Peg_impl_Peg_l0 L a b_0 b_1 m v8) (fun _ => rfl) (fun m v8 rec hrec => ?_) L 0 ?_ ?_
  rotate_left
  · first | rfl | (simp only [ml]; done) | (simp only [ml]; rfl)
  · first | rfl | (simp only [ml]; done) | (simp only [ml]; rfl)
  show _ = Option.map _ (slices_Index_impl_Peg_impl_Peg_l0 L a b_0 b_1 (m + 1) v8)
  rw [slices_Index_impl_Peg_impl_Peg_l0.eq_2]
  conv => lhs; whnf
  refine t_cond ?_ ?_
  · conv => lhs; whnf
    refine t_get (en := ep) (l := a) (by first | rfl | (simp only [ml]; done) | (simp only [ml]; rfl)) fun p => ?_
    conv => lhs; whnf
    refine t_cond ?_ ?_
    · conv => lhs; whnf
      exact t_ret (by first | rfl | (simp only [ml]; done) | (simp only [ml]; rfl))
    · conv => lhs; whnf
      exact hrec (wr IntKind.i64 (iadd v8 1)) _ _ (by first | rfl | (simp only [ml]; done) | (simp only [ml]; rfl)) (by first | rfl | (simp only [ml]; done) | (simp only [ml]; rfl))
  · conv => lhs; whnf
    exact t_ret (by first | rfl | (simp only [ml]; done) | (simp only [ml]; rfl))


noncomputable def slices_Contains_impl_Peg_impl_Peg (L : Nat) (a : List Pt) (b_0 : Int) (b_1 : Int) : Option (Bool) := gbind (slices_Index_impl_Peg_impl_Peg L a b_0 b_1) fun r => some (ile 0 r)


def slices_Contains_impl_Peg_impl_Peg_ok (L : Nat) (C : CF) : Prop := ∀ (oa : Bool) (ca : Bool) (x_a : List AV) (a : List Pt) (_ : x_a = List.map ep a) (b_0 : Int) (b_1 : Int), C 90 ([.lst oa ca 2 x_a, .agg [.int .i64 b_0, .int .i64 b_1]]) ([]) = Option.map (fun r : Bool => ((.bool r, []) : AV × List Blk)) (slices_Contains_impl_Peg_impl_Peg L a b_0 b_1)


theorem slices_Contains_impl_Peg_impl_Peg_run (L : Nat) (C : CF) (h_slices_Index_impl_Peg_impl_Peg : slices_Index_impl_Peg_impl_Peg_ok L C) : ∀ (oa : Bool) (ca : Bool) (x_a : List AV) (a : List Pt) (_ : x_a = List.map ep a) (b_0 : Int) (b_1 : Int), run T C sh (keep 90) L Try.f90 ([.lst oa ca 2 x_a, .agg [.int .i64 b_0, .int .i64 b_1]]) ([]) = Option.map (fun r : Bool => ((.bool r, []) : AV × List Blk)) (slices_Contains_impl_Peg_impl_Peg L a b_0 b_1) := by
  intro oa ca x_a a hx_a b_0 b_1
  subst hx_a
  unfold slices_Contains_impl_Peg_impl_Peg
  conv => lhs; whnf
  refine t_call (h_slices_Index_impl_Peg_impl_Peg _ _ _ a (by first | rfl | (simp only [ml]; done) | (simp only [ml]; rfl)) b_0 b_1) fun r => ?_
  conv => lhs; whnf
  exact t_ret (by first | rfl | (simp only [ml]; done) | (simp only [ml]; rfl))


noncomputable def impl_at (L : Nat) (a : List Pt) (b : Int) : Option (Int × Int) := bif ieq (ilen (List.map ep a)) 0 then (none) else (bif ieq (ilen (List.map ep a)) 0 then (none) else (gbind (lget a (irem (wr IntKind.i64 (iadd (irem b (ilen (List.map ep a))) (ilen (List.map ep a)))) (ilen (List.map ep a)))) fun p => some ((Pt.x p, Pt.y p))))


def impl_at_ok (L : Nat) (C : CF) : Prop := ∀ (oa : Bool) (ca : Bool) (x_a : List AV) (a : List Pt) (_ : x_a = List.map ep a) (b : Int), C 111 ([.lst oa ca 2 x_a, .int .i64 b]) ([]) = Option.map (fun r : Int × Int => ((.agg [.int .i64 (r.1), .int .i64 (r.2)], []) : AV × List Blk)) (impl_at L a b)


theorem impl_at_run (L : Nat) (C : CF) : ∀ (oa : Bool) (ca : Bool) (x_a : List AV) (a : List Pt) (_ : x_a = List.map ep a) (b : Int), run T C sh (keep 111) L Try.f111 ([.lst oa ca 2 x_a, .int .i64 b]) ([]) = Option.map (fun r : Int × Int => ((.agg [.int .i64 (r.1), .int .i64 (r.2)], []) : AV × List Blk)) (impl_at L a b) := by
  intro oa ca x_a a hx_a b
  subst hx_a
  unfold impl_at
  conv => lhs; whnf
  refine t_cond ?_ ?_
  · conv => lhs; whnf
    exact t_none
  · conv => lhs; whnf
    refine t_cond ?_ ?_
    · conv => lhs; whnf
      exact t_none
    · conv => lhs; whnf
      refine t_get (en := ep) (l := a) (by first | rfl | (simp only [ml]; done) | (simp only [ml]; rfl)) fun p => ?_
      conv => lhs; whnf
      exact t_ret (by first | rfl | (simp only [ml]; done) | (simp only [ml]; rfl))


noncomputable def impl_Peg_less (L : Nat) (a_0 : Int) (a_1 : Int) (b_0 : Int) (b_1 : Int) : Option (Int × Int) := some ((wr IntKind.i64 (isub a_0 b_0), wr IntKind.i64 (isub a_1 b_1)))


def impl_Peg_less_ok (L : Nat) (C : CF) : Prop := ∀ (a_0 : Int) (a_1 : Int) (b_0 : Int) (b_1 : Int), C 81 ([.agg [.int .i64 a_0, .int .i64 a_1], .agg [.int .i64 b_0, .int .i64 b_1]]) ([]) = Option.map (fun r : Int × Int => ((.agg [.int .i64 (r.1), .int .i64 (r.2)], []) : AV × List Blk)) (impl_Peg_less L a_0 a_1 b_0 b_1)


theorem impl_Peg_less_run (L : Nat) (C : CF) : ∀ (a_0 : Int) (a_1 : Int) (b_0 : Int) (b_1 : Int), run T C sh (keep 81) L Try.f81 ([.agg [.int .i64 a_0, .int .i64 a_1], .agg [.int .i64 b_0, .int .i64 b_1]]) ([]) = Option.map (fun r : Int × Int => ((.agg [.int .i64 (r.1), .int .i64 (r.2)], []) : AV × List Blk)) (impl_Peg_less L a_0 a_1 b_0 b_1) := by
  intro a_0 a_1 b_0 b_1
  unfold impl_Peg_less
  conv => lhs; whnf
  exact t_ret (by first | rfl | (simp only [ml]; done) | (simp only [ml]; rfl))


noncomputable def impl_cross (L : Nat) (a_0 : Int) (a_1 : Int) (b_0 : Int) (b_1 : Int) : Option (Int) := some (wr IntKind.i64 (isub (wr IntKind.i64 (imul a_0 b_1)) (wr IntKind.i64 (imul a_1 b_0))))


def impl_cross_ok (L : Nat) (C : CF) : Prop := ∀ (a_0 : Int) (a_1 : Int) (b_0 : Int) (b_1 : Int), C 113 ([.agg [.int .i64 a_0, .int .i64 a_1], .agg [.int .i64 b_0, .int .i64 b_1]]) ([]) = Option.map (fun r : Int => ((.int .i64 r, []) : AV × List Blk)) (impl_cross L a_0 a_1 b_0 b_1)


theorem impl_cross_run (L : Nat) (C : CF) : ∀ (a_0 : Int) (a_1 : Int) (b_0 : Int) (b_1 : Int), run T C sh (keep 113) L Try.f113 ([.agg [.int .i64 a_0, .int .i64 a_1], .agg [.int .i64 b_0, .int .i64 b_1]]) ([]) = Option.map (fun r : Int => ((.int .i64 r, []) : AV × List Blk)) (impl_cross L a_0 a_1 b_0 b_1) := by
  intro a_0 a_1 b_0 b_1
  unfold impl_cross
  conv => lhs; whnf
  exact t_ret (by first | rfl | (simp only [ml]; done) | (simp only [ml]; rfl))


noncomputable def impl_turn (L : Nat) (a_0 : Int) (a_1 : Int) (b_0 : Int) (b_1 : Int) (c_0 : Int) (c_1 : Int) : Option (Int) := gbind (impl_Peg_less L b_0 b_1 a_0 a_1) fun r => gbind (impl_Peg_less L c_0 c_1 a_0 a_1) fun r1 => gbind (impl_cross L (Prod.fst r) (Prod.snd r) (Prod.fst r1) (Prod.snd r1)) fun r2 => some r2


def impl_turn_ok (L : Nat) (C : CF) : Prop := ∀ (a_0 : Int) (a_1 : Int) (b_0 : Int) (b_1 : Int) (c_0 : Int) (c_1 : Int), C 79 ([.agg [.int .i64 a_0, .int .i64 a_1], .agg [.int .i64 b_0, .int .i64 b_1], .agg [.int .i64 c_0, .int .i64 c_1]]) ([]) = Option.map (fun r : Int => ((.int .i64 r, []) : AV × List Blk)) (impl_turn L a_0 a_1 b_0 b_1 c_0 c_1)


theorem impl_turn_run (L : Nat) (C : CF) (h_impl_Peg_less : impl_Peg_less_ok L C) (h_impl_cross : impl_cross_ok L C) : ∀ (a_0 : Int) (a_1 : Int) (b_0 : Int) (b_1 : Int) (c_0 : Int) (c_1 : Int), run T C sh (keep 79) L Try.f79 ([.agg [.int .i64 a_0, .int .i64 a_1], .agg [.int .i64 b_0, .int .i64 b_1], .agg [.int .i64 c_0, .int .i64 c_1]]) ([]) = Option.map (fun r : Int => ((.int .i64 r, []) : AV × List Blk)) (impl_turn L a_0 a_1 b_0 b_1 c_0 c_1) := by
  intro a_0 a_1 b_0 b_1 c_0 c_1
  unfold impl_turn
  conv => lhs; whnf
  refine t_call (h_impl_Peg_less b_0 b_1 a_0 a_1) fun r => ?_
  conv => lhs; whnf
  refine t_call (h_impl_Peg_less c_0 c_1 a_0 a_1) fun r1 => ?_
  conv => lhs; whnf
  refine t_call (h_impl_cross (Prod.fst r) (Prod.snd r) (Prod.fst r1) (Prod.snd r1)) fun r2 => ?_
  conv => lhs; whnf
  exact t_ret (by first | rfl | (simp only [ml]; done) | (simp only [ml]; rfl))


noncomputable def impl_isOn (L : Nat) (a_0 : Int) (a_1 : Int) (b_0 : Int) (b_1 : Int) (c_0 : Int) (c_1 : Int) : Option (Bool) := gbind (impl_turn L a_0 a_1 b_0 b_1 c_0 c_1) fun r => bif ieq r 0 then (gbind (impl_within L c_0 (imin a_0 b_0) (imax a_0 b_0)) fun r1 => bif r1 then (gbind (impl_within L c_1 (imin a_1 b_1) (imax a_1 b_1)) fun r2 => some r2) else (some false)) else (some false)


def impl_isOn_ok (L : Nat) (C : CF) : Prop := ∀ (a_0 : Int) (a_1 : Int) (b_0 : Int) (b_1 : Int) (c_0 : Int) (c_1 : Int), C 119 ([.agg [.int .i64 a_0, .int .i64 a_1], .agg [.int .i64 b_0, .int .i64 b_1], .agg [.int .i64 c_0, .int .i64 c_1]]) ([]) = Option.map (fun r : Bool => ((.bool r, []) : AV × List Blk)) (impl_isOn L a_0 a_1 b_0 b_1 c_0 c_1)


theorem impl_isOn_run (L : Nat) (C : CF) (h_impl_within : impl_within_ok L C) (h_impl_turn : impl_turn_ok L C) : ∀ (a_0 : Int) (a_1 : Int) (b_0 : Int) (b_1 : Int) (c_0 : Int) (c_1 : Int), run T C sh (keep 119) L Try.f119 ([.agg [.int .i64 a_0, .int .i64 a_1], .agg [.int .i64 b_0, .int .i64 b_1], .agg [.int .i64 c_0, .int .i64 c_1]]) ([]) = Option.map (fun r : Bool => ((.bool r, []) : AV × List Blk)) (impl_isOn L a_0 a_1 b_0 b_1 c_0 c_1) := by
  intro a_0 a_1 b_0 b_1 c_0 c_1
  unfold impl_isOn
  conv => lhs; whnf
  refine t_call (h_impl_turn a_0 a_1 b_0 b_1 c_0 c_1) fun r => ?_
  conv => lhs; whnf
  refine t_cond ?_ ?_
  · conv => lhs; whnf
    refine t_call (h_impl_within c_0 (imin a_0 b_0) (imax a_0 b_0)) fun r1 => ?_
    conv => lhs; whnf
    refine t_cond ?_ ?_
    · conv => lhs; whnf
      refine t_call (h_impl_within c_1 (imin a_1 b_1) (imax a_1 b_1)) fun r2 => ?_
      conv => lhs; whnf
      exact t_ret (by first | rfl | (simp only [ml]; done) | (simp only [ml]; rfl))
    · conv => lhs; whnf
      exact t_ret (by first | rfl | (simp only [ml]; done) | (simp only [ml]; rfl))
  · conv => lhs; whnf
    exact t_ret (by first | rfl | (simp only [ml]; done) | (simp only [ml]; rfl))


noncomputable def slices_Clone_impl_Peg_impl_Peg (L : Nat) (a : List Pt) : Option ((List Pt)) := bif ieq (ilen (List.map ep a)) 0 then (none) else (bif fits (iadd (ilen ([] : List AV)) (ilen (List.map ep a))) 16 then (some (lcat [] a)) else (none))


def slices_Clone_impl_Peg_impl_Peg_ok (L : Nat) (C : CF) : Prop := ∀ (oa : Bool) (ca : Bool) (x_a : List AV) (a : List Pt) (_ : x_a = List.map ep a), C 121 ([.lst oa ca 2 x_a]) ([]) = Option.map (fun r : (List Pt) => ((.frs 2 (List.map ep r), []) : AV × List Blk)) (slices_Clone_impl_Peg_impl_Peg L a)


theorem slices_Clone_impl_Peg_impl_Peg_run (L : Nat) (C : CF) : ∀ (oa : Bool) (ca : Bool) (x_a : List AV) (a : List Pt) (_ : x_a = List.map ep a), run T C sh (keep 121) L Try.f121 ([.lst oa ca 2 x_a]) ([]) = Option.map (fun r : (List Pt) => ((.frs 2 (List.map ep r), []) : AV × List Blk)) (slices_Clone_impl_Peg_impl_Peg L a) := by
  intro oa ca x_a a hx_a
  subst hx_a
  unfold slices_Clone_impl_Peg_impl_Peg
  conv => lhs; whnf
  refine t_cond ?_ ?_
  · conv => lhs; whnf
    exact t_none
  · conv => lhs; whnf
    refine t_cond ?_ ?_
    · conv => lhs; whnf
      exact t_ret (by first | rfl | (simp only [ml]; done) | (simp only [ml]; rfl))
    · conv => lhs; whnf
      exact t_none


noncomputable def cmp_isNaN_int (L : Nat) (a : Int) : Option (Bool) := some (!ieq a a)


def cmp_isNaN_int_ok (L : Nat) (C : CF) : Prop := ∀ (a : Int), C 125 ([.int .i64 a]) ([]) = Option.map (fun r : Bool => ((.bool r, []) : AV × List Blk)) (cmp_isNaN_int L a)


theorem cmp_isNaN_int_run (L : Nat) (C : CF) : ∀ (a : Int), run T C sh (keep 125) L Try.f125 ([.int .i64 a]) ([]) = Option.map (fun r : Bool => ((.bool r, []) : AV × List Blk)) (cmp_isNaN_int L a) := by
  intro a
  unfold cmp_isNaN_int
  conv => lhs; whnf
  exact t_ret (by first | rfl | (simp only [ml]; done) | (simp only [ml]; rfl))


noncomputable def cmp_Compare_int (L : Nat) (a : Int) (b : Int) : Option (Int) := gbind (cmp_isNaN_int L a) fun r => gbind (cmp_isNaN_int L b) fun r1 => bif r then (bif r1 then (some 0) else (some (-1))) else (bif r1 then (some 1) else (bif ilt a b then (some (-1)) else (bif ilt b a then (some 1) else (some 0))))


def cmp_Compare_int_ok (L : Nat) (C : CF) : Prop := ∀ (a : Int) (b : Int), C 80 ([.int .i64 a, .int .i64 b]) ([]) = Option.map (fun r : Int => ((.int .i64 r, []) : AV × List Blk)) (cmp_Compare_int L a b)


theorem cmp_Compare_int_run (L : Nat) (C : CF) (h_cmp_isNaN_int : cmp_isNaN_int_ok L C) : ∀ (a : Int) (b : Int), run T C sh (keep 80) L Try.f80 ([.int .i64 a, .int .i64 b]) ([]) = Option.map (fun r : Int => ((.int .i64 r, []) : AV × List Blk)) (cmp_Compare_int L a b) := by
  intro a b
  unfold cmp_Compare_int
  conv => lhs; whnf
  refine t_call (h_cmp_isNaN_int a) fun r => ?_
  conv => lhs; whnf
  refine t_call (h_cmp_isNaN_int b) fun r1 => ?_
  conv => lhs; whnf
  refine t_cond ?_ ?_
  · conv => lhs; whnf
    refine t_cond ?_ ?_
    · conv => lhs; whnf
      exact t_ret (by first | rfl | (simp only [ml]; done) | (simp only [ml]; rfl))
    · conv => lhs; whnf
      exact t_ret (by first | rfl | (simp only [ml]; done) | (simp only [ml]; rfl))
  · conv => lhs; whnf
    refine t_cond ?_ ?_
    · conv => lhs; whnf
      exact t_ret (by first | rfl | (simp only [ml]; done) | (simp only [ml]; rfl))
    · conv => lhs; whnf
      refine t_cond ?_ ?_
      · conv => lhs; whnf
        exact t_ret (by first | rfl | (simp only [ml]; done) | (simp only [ml]; rfl))
      · conv => lhs; whnf
        refine t_cond ?_ ?_
        · conv => lhs; whnf
          exact t_ret (by first | rfl | (simp only [ml]; done) | (simp only [ml]; rfl))
        · conv => lhs; whnf
          exact t_ret (by first | rfl | (simp only [ml]; done) | (simp only [ml]; rfl))


noncomputable def cmp_Or_int_l0 (L : Nat) (a : List Int) : Nat → Int → Option Int
  | 0, _ => none
  | m + 1, v8 => bif ilt v8 (ilen (List.map eI a)) then (gbind (lget a v8) fun p => bif !ieq p 0 then (some p) else (cmp_Or_int_l0 L a m (wr IntKind.i64 (iadd v8 1)))) else (some 0)


noncomputable def cmp_Or_int (L : Nat) (a : List Int) : Option (Int) := cmp_Or_int_l0 L a L 0


def cmp_Or_int_ok (L : Nat) (C : CF) : Prop := ∀ (oa : Bool) (ca : Bool) (x_a : List AV) (a : List Int) (_ : x_a = List.map eI a), C 77 ([.lst oa ca 1 x_a]) ([]) = Option.map (fun r : Int => ((.int .i64 r, []) : AV × List Blk)) (cmp_Or_int L a)


theorem cmp_Or_int_run (L : Nat) (C : CF) : ∀ (oa : Bool) (ca : Bool) (x_a : List AV) (a : List Int) (_ : x_a = List.map eI a), run T C sh (keep 77) L Try.f77 ([.lst oa ca 1 x_a]) ([]) = Option.map (fun r : Int => ((.int .i64 r, []) : AV × List Blk)) (cmp_Or_int L a) := by
  intro oa ca x_a a hx_a
  subst hx_a
  unfold cmp_Or_int
  conv => lhs; whnf
  refine t_loop (fun (v8 : Int) => (topA 3 (AV.int IntKind.i64 0 :: topA 2 (AV.lst oa ca 1 (List.map eI a) :: AV.int IntKind.i64 (ilen (List.map eI a)) :: AV.int IntKind.i64 v8 :: tops 9)), [])) (fun m (v8 : Int) => cmp_Or_int_l0 L a m v8) (fun _ => rfl) (fun m v8 rec hrec => ?_) L 0 ?_ ?_
  rotate_left
  · first | rfl | (simp only [ml]; done) | (simp only [ml]; rfl)
  · first | rfl | (simp only [ml]; done) | (simp only [ml]; rfl)
  show _ = Option.map _ (cmp_Or_int_l0 L a (m + 1) v8)
  rw [cmp_Or_int_l0.eq_2]
  conv => lhs; whnf
  refine t_cond ?_ ?_
  · conv => lhs; whnf
    refine t_get (en := eI) (l := a) (by first | rfl | (simp only [ml]; done) | (simp only [ml]; rfl)) fun p => ?_
    conv => lhs; whnf
    refine t_cond ?_ ?_
    · conv => lhs; whnf
      exact t_ret (by first | rfl | (simp only [ml]; done) | (simp only [ml]; rfl))
    · conv => lhs; whnf
      exact hrec (wr IntKind.i64 (iadd v8 1)) _ _ (by first | rfl | (simp only [ml]; done) | (simp only [ml]; rfl)) (by first | rfl | (simp only [ml]; done) | (simp only [ml]; rfl))
  · conv => lhs; whnf
    exact t_ret (by first | rfl | (simp only [ml]; done) | (simp only [ml]; rfl))


noncomputable def impl_comparePegs (L : Nat) (a_0 : Int) (a_1 : Int) (b_0 : Int) (b_1 : Int) : Option (Int) := gbind (cmp_Compare_int L a_0 b_0) fun r => gbind (cmp_Compare_int L a_1 b_1) fun r1 => gbind (cmp_Or_int L (r :: (r1 :: []))) fun r2 => some r2


def impl_comparePegs_ok (L : Nat) (C : CF) : Prop := ∀ (a_0 : Int) (a_1 : Int) (b_0 : Int) (b_1 : Int), C 122 ([.agg [.int .i64 a_0, .int .i64 a_1], .agg [.int .i64 b_0, .int .i64 b_1]]) ([]) = Option.map (fun r : Int => ((.int .i64 r, []) : AV × List Blk)) (impl_comparePegs L a_0 a_1 b_0 b_1)


theorem impl_comparePegs_run (L : Nat) (C : CF) (h_cmp_Compare_int : cmp_Compare_int_ok L C) (h_cmp_Or_int : cmp_Or_int_ok L C) : ∀ (a_0 : Int) (a_1 : Int) (b_0 : Int) (b_1 : Int), run T C sh (keep 122) L Try.f122 ([.agg [.int .i64 a_0, .int .i64 a_1], .agg [.int .i64 b_0, .int .i64 b_1]]) ([]) = Option.map (fun r : Int => ((.int .i64 r, []) : AV × List Blk)) (impl_comparePegs L a_0 a_1 b_0 b_1) := by
  intro a_0 a_1 b_0 b_1
  unfold impl_comparePegs
  conv => lhs; whnf
  refine t_call (h_cmp_Compare_int a_0 b_0) fun r => ?_
  conv => lhs; whnf
  refine t_call (h_cmp_Compare_int a_1 b_1) fun r1 => ?_
  conv => lhs; whnf
  refine t_call (h_cmp_Or_int _ _ _ (r :: (r1 :: [])) (by first | rfl | (simp only [ml]; done) | (simp only [ml]; rfl))) fun r2 => ?_
  conv => lhs; whnf
  exact t_ret (by first | rfl | (simp only [ml]; done) | (simp only [ml]; rfl))


-- EXT slices_SortFunc_impl_Peg_impl_Peg
noncomputable def slices_SortFunc_impl_Peg_impl_Peg (L : Nat) (a : List Pt) : Option (List Pt) := sortP a

def slices_SortFunc_impl_Peg_impl_Peg_ok (L : Nat) (C : CF) : Prop := ∀ (c1 : Bool) (x_a : List AV) (a : List Pt) (_ : x_a = List.map ep a), C 75 ([.own 0 2 none c1, .fn 122 [] []]) ([.rows .live 2 x_a]) = Option.map (fun r : (List Pt) => ((.tup [], [.rows .live 2 (List.map ep r)]) : AV × List Blk)) (slices_SortFunc_impl_Peg_impl_Peg L a)


noncomputable def impl_sorted (L : Nat) (a : List Pt) : Option ((List Pt)) := gbind (slices_Clone_impl_Peg_impl_Peg L a) fun r => gbind (slices_SortFunc_impl_Peg_impl_Peg L r) fun r1 => some r1


def impl_sorted_ok (L : Nat) (C : CF) : Prop := ∀ (oa : Bool) (ca : Bool) (x_a : List AV) (a : List Pt) (_ : x_a = List.map ep a), C 74 ([.lst oa ca 2 x_a]) ([]) = Option.map (fun r : (List Pt) => ((.frs 2 (List.map ep r), []) : AV × List Blk)) (impl_sorted L a)


theorem impl_sorted_run (L : Nat) (C : CF) (h_slices_Clone_impl_Peg_impl_Peg : slices_Clone_impl_Peg_impl_Peg_ok L C) (h_slices_SortFunc_impl_Peg_impl_Peg : slices_SortFunc_impl_Peg_impl_Peg_ok L C) : ∀ (oa : Bool) (ca : Bool) (x_a : List AV) (a : List Pt) (_ : x_a = List.map ep a), run T C sh (keep 74) L Try.f74 ([.lst oa ca 2 x_a]) ([]) = Option.map (fun r : (List Pt) => ((.frs 2 (List.map ep r), []) : AV × List Blk)) (impl_sorted L a) := by
  intro oa ca x_a a hx_a
  subst hx_a
  unfold impl_sorted
  conv => lhs; whnf
  refine t_call (h_slices_Clone_impl_Peg_impl_Peg _ _ _ a (by first | rfl | (simp only [ml]; done) | (simp only [ml]; rfl))) fun r => ?_
  conv => lhs; whnf
  refine t_call (h_slices_SortFunc_impl_Peg_impl_Peg _ _ r (by first | rfl | (simp only [ml]; done) | (simp only [ml]; rfl))) fun r1 => ?_
  conv => lhs; whnf
  exact t_ret (by first | rfl | (simp only [ml]; done) | (simp only [ml]; rfl))


noncomputable def laws_eqPeg (L : Nat) (a_0 : Int) (a_1 : Int) (b_0 : Int) (b_1 : Int) : Option (Bool) := bif !ieq a_0 b_0 then (some false) else (bif !ieq a_1 b_1 then (some false) else (some true))


def laws_eqPeg_ok (L : Nat) (C : CF) : Prop := ∀ (a_0 : Int) (a_1 : Int) (b_0 : Int) (b_1 : Int), C 23 ([.agg [.int .i64 a_0, .int .i64 a_1], .agg [.int .i64 b_0, .int .i64 b_1]]) ([]) = Option.map (fun r : Bool => ((.bool r, []) : AV × List Blk)) (laws_eqPeg L a_0 a_1 b_0 b_1)


theorem laws_eqPeg_run (L : Nat) (C : CF) : ∀ (a_0 : Int) (a_1 : Int) (b_0 : Int) (b_1 : Int), run T C sh (keep 23) L Try.f23 ([.agg [.int .i64 a_0, .int .i64 a_1], .agg [.int .i64 b_0, .int .i64 b_1]]) ([]) = Option.map (fun r : Bool => ((.bool r, []) : AV × List Blk)) (laws_eqPeg L a_0 a_1 b_0 b_1) := by
  intro a_0 a_1 b_0 b_1
  unfold laws_eqPeg
  conv => lhs; whnf
  refine t_cond ?_ ?_
  · conv => lhs; whnf
    exact t_ret (by first | rfl | (simp only [ml]; done) | (simp only [ml]; rfl))
  · conv => lhs; whnf
    refine t_cond ?_ ?_
    · conv => lhs; whnf
      exact t_ret (by first | rfl | (simp only [ml]; done) | (simp only [ml]; rfl))
    · conv => lhs; whnf
      exact t_ret (by first | rfl | (simp only [ml]; done) | (simp only [ml]; rfl))


noncomputable def laws_eqPegS_l0 (L : Nat) (a : List Pt) (b : List Pt) : Nat → Int → Option Bool
  | 0, _ => none
  | m + 1, v5 => bif ilt v5 (ilen (List.map ep a)) then (gbind (lget a v5) fun p => gbind (lget b v5) fun p1 => gbind (laws_eqPeg L (Pt.x p) (Pt.y p) (Pt.x p1) (Pt.y p1)) fun r => bif !r then (some false) else (laws_eqPegS_l0 L a b m (wr IntKind.i64 (iadd v5 1)))) else (some true)


noncomputable def laws_eqPegS (L : Nat) (a : List Pt) (b : List Pt) : Option (Bool) := bif !ieq (ilen (List.map ep a)) (ilen (List.map ep b)) then (some false) else (laws_eqPegS_l0 L a b L 0)


def laws_eqPegS_ok (L : Nat) (C : CF) : Prop := ∀ (oa : Bool) (ca : Bool) (x_a : List AV) (a : List Pt) (_ : x_a = List.map ep a) (ob : Bool) (cb : Bool) (x_b : List AV) (b : List Pt) (_ : x_b = List.map ep b), C 19 ([.lst oa ca 2 x_a, .lst ob cb 2 x_b]) ([]) = Option.map (fun r : Bool => ((.bool r, []) : AV × List Blk)) (laws_eqPegS L a b)


theorem laws_eqPegS_run (L : Nat) (C : CF) (h_laws_eqPeg : laws_eqPeg_ok L C) : ∀ (oa : Bool) (ca : Bool) (x_a : List AV) (a : List Pt) (_ : x_a = List.map ep a) (ob : Bool) (cb : Bool) (x_b : List AV) (b : List Pt) (_ : x_b = List.map ep b), run T C sh (keep 19) L Try.f19 ([.lst oa ca 2 x_a, .lst ob cb 2 x_b]) ([]) = Option.map (fun r : Bool => ((.bool r, []) : AV × List Blk)) (laws_eqPegS L a b) := by
  intro oa ca x_a a hx_a ob cb x_b b hx_b
  subst hx_a
  subst hx_b
  unfold laws_eqPegS
  conv => lhs; whnf
  refine t_cond ?_ ?_
  · conv => lhs; whnf
    exact t_ret (by first | rfl | (simp only [ml]; done) | (simp only [ml]; rfl))
  · conv => lhs; whnf
    refine t_loop (fun (v5 : Int) => (AV.lst oa ca 2 (List.map ep a) :: AV.lst ob cb 2 (List.map ep b) :: topA 3 (AV.int IntKind.i64 v5 :: tops 21), [])) (fun m (v5 : Int) => laws_eqPegS_l0 L a b m v5) (fun _ => rfl) (fun m v5 rec hrec => ?_) L 0 ?_ ?_
    rotate_left
    · first | rfl | (simp only [ml]; done) | (simp only [ml]; rfl)
    · first | rfl | (simp only [ml]; done) | (simp only [ml]; rfl)
    show _ = Option.map _ (laws_eqPegS_l0 L a b (m + 1) v5)
    rw [laws_eqPegS_l0.eq_2]
    conv => lhs; whnf
    refine t_cond ?_ ?_
    · conv => lhs; whnf
      refine t_get (en := ep) (l := a) (by first | rfl | (simp only [ml]; done) | (simp only [ml]; rfl)) fun p => ?_
      conv => lhs; whnf
      refine t_get (en := ep) (l := b) (by first | rfl | (simp only [ml]; done) | (simp only [ml]; rfl)) fun p1 => ?_
      conv => lhs; whnf
      refine t_call (h_laws_eqPeg (Pt.x p) (Pt.y p) (Pt.x p1) (Pt.y p1)) fun r => ?_
      conv => lhs; whnf
      refine t_cond ?_ ?_
      · conv => lhs; whnf
        exact t_ret (by first | rfl | (simp only [ml]; done) | (simp only [ml]; rfl))
      · conv => lhs; whnf
        exact hrec (wr IntKind.i64 (iadd v5 1)) _ _ (by first | rfl | (simp only [ml]; done) | (simp only [ml]; rfl)) (by first | rfl | (simp only [ml]; done) | (simp only [ml]; rfl))
    · conv => lhs; whnf
      exact t_ret (by first | rfl | (simp only [ml]; done) | (simp only [ml]; rfl))


noncomputable def spec_bdGood_l1 (L : Nat) (κ0 : (List Pt) → (List Pt) → Int → Int → Option Bool) (v0 : List Pt) (v11 : List Pt) (v12 : Int) (v13 : Int) (p : Pt) : Nat → Int → Option Bool
  | 0, _ => none
  | m1 + 1, v25 => bif ilt v25 (ilen (lsub (List.map ep v0) 0 v13)) then (gbind (lget (lsub v0 0 v13) v25) fun p1 => bif ieq (Pt.x p) (Pt.x p1) && ieq (Pt.y p) (Pt.y p1) then (some false) else (spec_bdGood_l1 L κ0 v0 v11 v12 v13 p m1 (wr IntKind.i64 (iadd v25 1)))) else (κ0 v0 v11 v12 (wr IntKind.i64 (iadd v13 1)))


noncomputable def spec_bdGood_l0 (L : Nat) : Nat → (List Pt) → (List Pt) → Int → Int → Option Bool
  | 0, _, _, _, _ => none
  | m + 1, v0, v11, v12, v13 => bif ilt v13 v12 then (gbind (lget v11 v13) fun p => gbind (spec_pgIs L (Pt.x p) (Pt.y p)) fun r1 => bif !r1 then (some false) else (bif ile 0 v13 && ile v13 (ilen (List.map ep v0)) then (spec_bdGood_l1 L (spec_bdGood_l0 L m) v0 v11 v12 v13 p L 0) else (none))) else (some true)


noncomputable def spec_bdGood (L : Nat) (a : List Pt) : Option (Bool) := gbind (spec_l1In L (ilen (List.map ep a)) 1 30) fun r => bif !r then (some false) else (spec_bdGood_l0 L L a a (ilen (List.map ep a)) 0)


def spec_bdGood_ok (L : Nat) (C : CF) : Prop := ∀ (oa : Bool) (ca : Bool) (x_a : List AV) (a : List Pt) (_ : x_a = List.map ep a), C 61 ([.lst oa ca 2 x_a]) ([]) = Option.map (fun r : Bool => ((.bool r, []) : AV × List Blk)) (spec_bdGood L a)


theorem spec_bdGood_run (L : Nat) (C : CF) (h_spec_l1In : spec_l1In_ok L C) (h_spec_pgIs : spec_pgIs_ok L C) : ∀ (oa : Bool) (ca : Bool) (x_a : List AV) (a : List Pt) (_ : x_a = List.map ep a), run T C sh (keep 61) L Try.f61 ([.lst oa ca 2 x_a]) ([]) = Option.map (fun r : Bool => ((.bool r, []) : AV × List Blk)) (spec_bdGood L a) := by
  intro oa ca x_a a hx_a
  subst hx_a
  unfold spec_bdGood
  conv => lhs; whnf
  refine t_call (h_spec_l1In (ilen (List.map ep a)) 1 30) fun r => ?_
  conv => lhs; whnf
  refine t_cond ?_ ?_
  · conv => lhs; whnf
    exact t_ret (by first | rfl | (simp only [ml]; done) | (simp only [ml]; rfl))
  · conv => lhs; whnf
    refine t_loop (fun (⟨v0, v11, v12, v13⟩ : (List Pt) × (List Pt) × Int × Int) => (AV.lst oa ca 2 (List.map ep v0) :: topA 10 (AV.lst oa ca 2 (List.map ep v11) :: AV.int IntKind.i64 v12 :: AV.int IntKind.i64 v13 :: tops 20), [])) (fun m (⟨v0, v11, v12, v13⟩ : (List Pt) × (List Pt) × Int × Int) => spec_bdGood_l0 L m v0 v11 v12 v13) (fun _ => rfl) (fun m s rec hrec => ?_) L ((a, a, ilen (List.map ep a), 0)) ?_ ?_
    rotate_left
    · first | rfl | (simp only [ml]; done) | (simp only [ml]; rfl)
    · first | rfl | (simp only [ml]; done) | (simp only [ml]; rfl)
    obtain ⟨v0, v11, v12, v13⟩ := s
    show _ = Option.map _ (spec_bdGood_l0 L (m + 1) v0 v11 v12 v13)
    rw [spec_bdGood_l0.eq_2]
    conv => lhs; whnf
    refine t_cond ?_ ?_
    · conv => lhs; whnf
      refine t_get (en := ep) (l := v11) (by first | rfl | (simp only [ml]; done) | (simp only [ml]; rfl)) fun p => ?_
      conv => lhs; whnf
      refine t_call (h_spec_pgIs (Pt.x p) (Pt.y p)) fun r1 => ?_
      conv => lhs; whnf
      refine t_cond ?_ ?_
      · conv => lhs; whnf
        exact t_ret (by first | rfl | (simp only [ml]; done) | (simp only [ml]; rfl))
      · conv => lhs; whnf
        refine t_cond ?_ ?_
        · conv => lhs; whnf
          refine t_loop (fun (v25 : Int) => (AV.lst oa ca 2 (List.map ep v0) :: topA 3 (AV.ptr 0 0 0 2 :: topA 6 (AV.lst oa ca 2 (List.map ep v11) :: AV.int IntKind.i64 v12 :: AV.int IntKind.i64 v13 :: topA 9 (AV.lst oa false 2 (lsub (List.map ep v0) 0 v13) :: AV.int IntKind.i64 (ilen (lsub (List.map ep v0) 0 v13)) :: AV.int IntKind.i64 v25 :: tops 8))), [Blk.box (AV.agg [AV.int IntKind.i64 (Pt.x p), AV.int IntKind.i64 (Pt.y p)])])) (fun m1 (v25 : Int) => spec_bdGood_l1 L (spec_bdGood_l0 L m) v0 v11 v12 v13 p m1 v25) (fun _ => rfl) (fun m1 v25 rec1 hrec1 => ?_) L 0 ?_ ?_
          rotate_left
          · first | rfl | (simp only [ml]; done) | (simp only [ml]; rfl)
          · first | rfl | (simp only [ml]; done) | (simp only [ml]; rfl)
          show _ = Option.map _ (spec_bdGood_l1 L (spec_bdGood_l0 L m) v0 v11 v12 v13 p (m1 + 1) v25)
          rw [spec_bdGood_l1.eq_2]
          conv => lhs; whnf
          refine t_cond ?_ ?_
          · conv => lhs; whnf
            refine t_get (en := ep) (l := lsub v0 0 v13) (by first | rfl | (simp only [ml]; done) | (simp only [ml]; rfl)) fun p1 => ?_
            conv => lhs; whnf
            refine t_cond ?_ ?_
            · conv => lhs; whnf
              exact t_ret (by first | rfl | (simp only [ml]; done) | (simp only [ml]; rfl))
            · conv => lhs; whnf
              exact hrec1 (wr IntKind.i64 (iadd v25 1)) _ _ (by first | rfl | (simp only [ml]; done) | (simp only [ml]; rfl)) (by first | rfl | (simp only [ml]; done) | (simp only [ml]; rfl))
          · conv => lhs; whnf
            exact hrec ((v0, v11, v12, wr IntKind.i64 (iadd v13 1))) _ _ (by first | rfl | (simp only [ml]; done) | (simp only [ml]; rfl)) (by first | rfl | (simp only [ml]; done) | (simp only [ml]; rfl))
        · conv => lhs; whnf
          exact t_none
    · conv => lhs; whnf
      exact t_ret (by first | rfl | (simp only [ml]; done) | (simp only [ml]; rfl))


noncomputable def spec_pgLess (L : Nat) (a_0 : Int) (a_1 : Int) (b_0 : Int) (b_1 : Int) : Option (Bool) := bif ilt a_0 b_0 then (some true) else (bif ieq a_0 b_0 then (some (ilt a_1 b_1)) else (some false))


def spec_pgLess_ok (L : Nat) (C : CF) : Prop := ∀ (a_0 : Int) (a_1 : Int) (b_0 : Int) (b_1 : Int), C 120 ([.agg [.int .i64 a_0, .int .i64 a_1], .agg [.int .i64 b_0, .int .i64 b_1]]) ([]) = Option.map (fun r : Bool => ((.bool r, []) : AV × List Blk)) (spec_pgLess L a_0 a_1 b_0 b_1)


theorem spec_pgLess_run (L : Nat) (C : CF) : ∀ (a_0 : Int) (a_1 : Int) (b_0 : Int) (b_1 : Int), run T C sh (keep 120) L Try.f120 ([.agg [.int .i64 a_0, .int .i64 a_1], .agg [.int .i64 b_0, .int .i64 b_1]]) ([]) = Option.map (fun r : Bool => ((.bool r, []) : AV × List Blk)) (spec_pgLess L a_0 a_1 b_0 b_1) := by
  intro a_0 a_1 b_0 b_1
  unfold spec_pgLess
  conv => lhs; whnf
  refine t_cond ?_ ?_
  · conv => lhs; whnf
    exact t_ret (by first | rfl | (simp only [ml]; done) | (simp only [ml]; rfl))
  · conv => lhs; whnf
    refine t_cond ?_ ?_
    · conv => lhs; whnf
      exact t_ret (by first | rfl | (simp only [ml]; done) | (simp only [ml]; rfl))
    · conv => lhs; whnf
      exact t_ret (by first | rfl | (simp only [ml]; done) | (simp only [ml]; rfl))


noncomputable def spec_bdSorted_l1 (L : Nat) (κ0 : (List Pt) → (List Pt) → Int → Int → Option ((List Pt))) (v3 : List Pt) (v8 : List Pt) (v9 : Int) (v10 : Int) (p : Pt) : Nat → Int → Option ((List Pt))
  | 0, _ => none
  | m1 + 1, v6 => bif ilt v6 (ilen (List.map ep v3)) then (gbind (lget v3 v6) fun p1 => gbind (spec_pgLess L (Pt.x p1) (Pt.y p1) (Pt.x p) (Pt.y p)) fun r => bif r then (spec_bdSorted_l1 L κ0 v3 v8 v9 v10 p m1 (wr IntKind.i64 (iadd v6 1))) else (bif ile 0 v6 && ile v6 (ilen (List.map ep v3)) then (bif ieq (ilen (lsub (List.map ep v3) 0 v6)) 0 then (bif fits (ilen ([] : List AV)) 16 then (bif fits (iadd (ilen ([] : List AV)) (ilen [AV.agg [AV.int IntKind.i64 (Pt.x p), AV.int IntKind.i64 (Pt.y p)]])) 16 then (bif ile 0 v6 && ile v6 (ilen (List.map ep v3)) then (bif fits (iadd (ilen (lcat [] [AV.agg [AV.int IntKind.i64 (Pt.x p), AV.int IntKind.i64 (Pt.y p)]])) (ilen (lsub (List.map ep v3) v6 (ilen (List.map ep v3))))) 16 then (κ0 (lcat (lcat [] (p :: [])) (lsub v3 v6 (ilen (List.map ep v3)))) v8 v9 (wr IntKind.i64 (iadd v10 1))) else (none)) else (none)) else (none)) else (none)) else (bif fits (iadd (ilen ([] : List AV)) (ilen (lsub (List.map ep v3) 0 v6))) 16 then (bif fits (iadd (ilen (lcat [] (lsub (List.map ep v3) 0 v6))) (ilen [AV.agg [AV.int IntKind.i64 (Pt.x p), AV.int IntKind.i64 (Pt.y p)]])) 16 then (bif ile 0 v6 && ile v6 (ilen (List.map ep v3)) then (bif fits (iadd (ilen (lcat (lcat [] (lsub (List.map ep v3) 0 v6)) [AV.agg [AV.int IntKind.i64 (Pt.x p), AV.int IntKind.i64 (Pt.y p)]])) (ilen (lsub (List.map ep v3) v6 (ilen (List.map ep v3))))) 16 then (κ0 (lcat (lcat (lcat [] (lsub v3 0 v6)) (p :: [])) (lsub v3 v6 (ilen (List.map ep v3)))) v8 v9 (wr IntKind.i64 (iadd v10 1))) else (none)) else (none)) else (none)) else (none))) else (none))) else (bif ile 0 v6 && ile v6 (ilen (List.map ep v3)) then (bif ieq (ilen (lsub (List.map ep v3) 0 v6)) 0 then (bif fits (ilen ([] : List AV)) 16 then (bif fits (iadd (ilen ([] : List AV)) (ilen [AV.agg [AV.int IntKind.i64 (Pt.x p), AV.int IntKind.i64 (Pt.y p)]])) 16 then (bif ile 0 v6 && ile v6 (ilen (List.map ep v3)) then (bif fits (iadd (ilen (lcat [] [AV.agg [AV.int IntKind.i64 (Pt.x p), AV.int IntKind.i64 (Pt.y p)]])) (ilen (lsub (List.map ep v3) v6 (ilen (List.map ep v3))))) 16 then (κ0 (lcat (lcat [] (p :: [])) (lsub v3 v6 (ilen (List.map ep v3)))) v8 v9 (wr IntKind.i64 (iadd v10 1))) else (none)) else (none)) else (none)) else (none)) else (bif fits (iadd (ilen ([] : List AV)) (ilen (lsub (List.map ep v3) 0 v6))) 16 then (bif fits (iadd (ilen (lcat [] (lsub (List.map ep v3) 0 v6))) (ilen [AV.agg [AV.int IntKind.i64 (Pt.x p), AV.int IntKind.i64 (Pt.y p)]])) 16 then (bif ile 0 v6 && ile v6 (ilen (List.map ep v3)) then (bif fits (iadd (ilen (lcat (lcat [] (lsub (List.map ep v3) 0 v6)) [AV.agg [AV.int IntKind.i64 (Pt.x p), AV.int IntKind.i64 (Pt.y p)]])) (ilen (lsub (List.map ep v3) v6 (ilen (List.map ep v3))))) 16 then (κ0 (lcat (lcat (lcat [] (lsub v3 0 v6)) (p :: [])) (lsub v3 v6 (ilen (List.map ep v3)))) v8 v9 (wr IntKind.i64 (iadd v10 1))) else (none)) else (none)) else (none)) else (none))) else (none))


noncomputable def spec_bdSorted_l0 (L : Nat) : Nat → (List Pt) → (List Pt) → Int → Int → Option ((List Pt))
  | 0, _, _, _, _ => none
  | m + 1, v3, v8, v9, v10 => bif ilt v10 v9 then (gbind (lget v8 v10) fun p => spec_bdSorted_l1 L (spec_bdSorted_l0 L m) v3 v8 v9 v10 p L 0) else (some v3)


noncomputable def spec_bdSorted (L : Nat) (a : List Pt) : Option ((List Pt)) := spec_bdSorted_l0 L L [] a (ilen (List.map ep a)) 0


def spec_bdSorted_ok (L : Nat) (C : CF) : Prop := ∀ (oa : Bool) (ca : Bool) (x_a : List AV) (a : List Pt) (_ : x_a = List.map ep a), C 71 ([.lst oa ca 2 x_a]) ([]) = Option.map (fun r : (List Pt) => ((.lst false false 2 (List.map ep r), []) : AV × List Blk)) (spec_bdSorted L a)


theorem spec_bdSorted_run (L : Nat) (C : CF) (h_spec_pgLess : spec_pgLess_ok L C) : ∀ (oa : Bool) (ca : Bool) (x_a : List AV) (a : List Pt) (_ : x_a = List.map ep a), run T C sh (keep 71) L Try.f71 ([.lst oa ca 2 x_a]) ([]) = Option.map (fun r : (List Pt) => ((.lst false false 2 (List.map ep r), []) : AV × List Blk)) (spec_bdSorted L a) := by
  intro oa ca x_a a hx_a
  subst hx_a
  unfold spec_bdSorted
  conv => lhs; whnf
  refine t_loop (fun (⟨v3, v8, v9, v10⟩ : (List Pt) × (List Pt) × Int × Int) => (topA 3 (AV.lst false false 2 (List.map ep v3) :: topA 4 (AV.lst oa ca 2 (List.map ep v8) :: AV.int IntKind.i64 v9 :: AV.int IntKind.i64 v10 :: tops 32)), [])) (fun m (⟨v3, v8, v9, v10⟩ : (List Pt) × (List Pt) × Int × Int) => spec_bdSorted_l0 L m v3 v8 v9 v10) (fun _ => rfl) (fun m s rec hrec => ?_) L (([], a, ilen (List.map ep a), 0)) ?_ ?_
  rotate_left
  · first | rfl | (simp only [ml]; done) | (simp only [ml]; rfl)
  · first | rfl | (simp only [ml]; done) | (simp only [ml]; rfl)
  obtain ⟨v3, v8, v9, v10⟩ := s
  show _ = Option.map _ (spec_bdSorted_l0 L (m + 1) v3 v8 v9 v10)
  rw [spec_bdSorted_l0.eq_2]
  conv => lhs; whnf
  refine t_cond ?_ ?_
  · conv => lhs; whnf
    refine t_get (en := ep) (l := v8) (by first | rfl | (simp only [ml]; done) | (simp only [ml]; rfl)) fun p => ?_
    conv => lhs; whnf
    refine t_loop (fun (v6 : Int) => (topA 3 (AV.lst false false 2 (List.map ep v3) :: AV.top :: AV.ptr 0 0 0 2 :: AV.int IntKind.i64 v6 :: AV.top :: AV.lst oa ca 2 (List.map ep v8) :: AV.int IntKind.i64 v9 :: AV.int IntKind.i64 v10 :: tops 32), [Blk.box (AV.agg [AV.int IntKind.i64 (Pt.x p), AV.int IntKind.i64 (Pt.y p)])])) (fun m1 (v6 : Int) => spec_bdSorted_l1 L (spec_bdSorted_l0 L m) v3 v8 v9 v10 p m1 v6) (fun _ => rfl) (fun m1 v6 rec1 hrec1 => ?_) L 0 ?_ ?_
    rotate_left
    · first | rfl | (simp only [ml]; done) | (simp only [ml]; rfl)
    · first | rfl | (simp only [ml]; done) | (simp only [ml]; rfl)
    show _ = Option.map _ (spec_bdSorted_l1 L (spec_bdSorted_l0 L m) v3 v8 v9 v10 p (m1 + 1) v6)
    rw [spec_bdSorted_l1.eq_2]
    conv => lhs; whnf
    refine t_cond ?_ ?_
    · conv => lhs; whnf
      refine t_get (en := ep) (l := v3) (by first | rfl | (simp only [ml]; done) | (simp only [ml]; rfl)) fun p1 => ?_
      conv => lhs; whnf
      refine t_call (h_spec_pgLess (Pt.x p1) (Pt.y p1) (Pt.x p) (Pt.y p)) fun r => ?_
      conv => lhs; whnf
      refine t_cond ?_ ?_
      · conv => lhs; whnf
        exact hrec1 (wr IntKind.i64 (iadd v6 1)) _ _ (by first | rfl | (simp only [ml]; done) | (simp only [ml]; rfl)) (by first | rfl | (simp only [ml]; done) | (simp only [ml]; rfl))
      · conv => lhs; whnf
        refine t_cond ?_ ?_
        · conv => lhs; whnf
          refine t_cond ?_ ?_
          · conv => lhs; whnf
            refine t_cond ?_ ?_
            · conv => lhs; whnf
              refine t_cond ?_ ?_
              · conv => lhs; whnf
                refine t_cond ?_ ?_
                · conv => lhs; whnf
                  refine t_cond ?_ ?_
                  · conv => lhs; whnf
                    exact hrec ((lcat (lcat [] (p :: [])) (lsub v3 v6 (ilen (List.map ep v3))), v8, v9, wr IntKind.i64 (iadd v10 1))) _ _ (by first | rfl | (simp only [ml]; done) | (simp only [ml]; rfl)) (by first | rfl | (simp only [ml]; done) | (simp only [ml]; rfl))
                  · conv => lhs; whnf
                    exact t_none
                · conv => lhs; whnf
                  exact t_none
              · conv => lhs; whnf
                exact t_none
            · conv => lhs; whnf
              exact t_none
          · conv => lhs; whnf
            refine t_cond ?_ ?_
            · conv => lhs; whnf
              refine t_cond ?_ ?_
              · conv => lhs; whnf
                refine t_cond ?_ ?_
                · conv => lhs; whnf
                  refine t_cond ?_ ?_
                  · conv => lhs; whnf
                    exact hrec ((lcat (lcat (lcat [] (lsub v3 0 v6)) (p :: [])) (lsub v3 v6 (ilen (List.map ep v3))), v8, v9, wr IntKind.i64 (iadd v10 1))) _ _ (by first | rfl | (simp only [ml]; done) | (simp only [ml]; rfl)) (by first | rfl | (simp only [ml]; done) | (simp only [ml]; rfl))
                  · conv => lhs; whnf
                    exact t_none
                · conv => lhs; whnf
                  exact t_none
              · conv => lhs; whnf
                exact t_none
            · conv => lhs; whnf
              exact t_none
        · conv => lhs; whnf
          exact t_none
    · conv => lhs; whnf
      refine t_cond ?_ ?_
      · conv => lhs; whnf
        refine t_cond ?_ ?_
        · conv => lhs; whnf
          refine t_cond ?_ ?_
          · conv => lhs; whnf
            refine t_cond ?_ ?_
            · conv => lhs; whnf
              refine t_cond ?_ ?_
              · conv => lhs; whnf
                refine t_cond ?_ ?_
                · conv => lhs; whnf
                  exact hrec ((lcat (lcat [] (p :: [])) (lsub v3 v6 (ilen (List.map ep v3))), v8, v9, wr IntKind.i64 (iadd v10 1))) _ _ (by first | rfl | (simp only [ml]; done) | (simp only [ml]; rfl)) (by first | rfl | (simp only [ml]; done) | (simp only [ml]; rfl))
                · conv => lhs; whnf
                  exact t_none
              · conv => lhs; whnf
                exact t_none
            · conv => lhs; whnf
              exact t_none
          · conv => lhs; whnf
            exact t_none
        · conv => lhs; whnf
          refine t_cond ?_ ?_
          · conv => lhs; whnf
            refine t_cond ?_ ?_
            · conv => lhs; whnf
              refine t_cond ?_ ?_
              · conv => lhs; whnf
                refine t_cond ?_ ?_
                · conv => lhs; whnf
                  exact hrec ((lcat (lcat (lcat [] (lsub v3 0 v6)) (p :: [])) (lsub v3 v6 (ilen (List.map ep v3))), v8, v9, wr IntKind.i64 (iadd v10 1))) _ _ (by first | rfl | (simp only [ml]; done) | (simp only [ml]; rfl)) (by first | rfl | (simp only [ml]; done) | (simp only [ml]; rfl))
                · conv => lhs; whnf
                  exact t_none
              · conv => lhs; whnf
                exact t_none
            · conv => lhs; whnf
              exact t_none
          · conv => lhs; whnf
            exact t_none
      · conv => lhs; whnf
        exact t_none
  · conv => lhs; whnf
    exact t_ret (by first | rfl | (simp only [ml]; done) | (simp only [ml]; rfl))


noncomputable def spec_bdBand_l2 (L : Nat) (κ1 : (List Pt) → Int → Int → Int → Int → Int → Int → (List Pt) → Option ((List Pt))) (v31 : List Pt) (v4o1 : Int) (v51 : Int) (v6 : Int) (v22 : Int) (v23 : Int) (w01 : List Pt) (p1 : Pt) : Nat → Int → Option ((List Pt))
  | 0, _ => none
  | m2 + 1, v4n2 => bif ilt (wr IntKind.i64 (iadd v6 1)) v4n2 then (bif ile 0 (wr IntKind.i64 (isub v4n2 2)) && ilt (wr IntKind.i64 (isub v4n2 2)) v4n2 then (gbind (lget w01 (iadd v4o1 (wr IntKind.i64 (isub v4n2 2)))) fun p2 => bif ile 0 (wr IntKind.i64 (isub v4n2 1)) && ilt (wr IntKind.i64 (isub v4n2 1)) v4n2 then (gbind (lget w01 (iadd v4o1 (wr IntKind.i64 (isub v4n2 1)))) fun p3 => gbind (spec_pgTurn L (Pt.x p2) (Pt.y p2) (Pt.x p3) (Pt.y p3) (Pt.x p1) (Pt.y p1)) fun r1 => bif ile r1 0 then (bif !false && ile 0 (wr IntKind.i64 (isub v4n2 1)) && ile (iadd v4o1 (wr IntKind.i64 (isub v4n2 1))) (ilen (List.map ep w01)) then (spec_bdBand_l2 L κ1 v31 v4o1 v51 v6 v22 v23 w01 p1 m2 (wr IntKind.i64 (isub v4n2 1))) else (none)) else (bif fits (iadd v4n2 (ilen [AV.agg [AV.int IntKind.i64 (Pt.x p1), AV.int IntKind.i64 (Pt.y p1)]])) 16 then (bif ieq (iadd v4o1 v4n2) (ilen (List.map ep w01)) then (κ1 v31 0 (ilen (lcat (lsub (List.map ep w01) v4o1 (iadd v4o1 v4n2)) [AV.agg [AV.int IntKind.i64 (Pt.x p1), AV.int IntKind.i64 (Pt.y p1)]])) v51 v6 v22 (wr IntKind.i64 (iadd v23 1)) (lcat (lsub w01 v4o1 (iadd v4o1 v4n2)) (p1 :: []))) else (bif ile (iadd (iadd v4o1 v4n2) (ilen [AV.agg [AV.int IntKind.i64 (Pt.x p1), AV.int IntKind.i64 (Pt.y p1)]])) (ilen (List.map ep w01)) then (κ1 v31 v4o1 (iadd v4n2 (ilen [AV.agg [AV.int IntKind.i64 (Pt.x p1), AV.int IntKind.i64 (Pt.y p1)]])) v51 v6 v22 (wr IntKind.i64 (iadd v23 1)) (lcat (lcat (lsub w01 0 (iadd v4o1 v4n2)) (p1 :: [])) (lsub w01 (iadd (iadd v4o1 v4n2) (ilen [AV.agg [AV.int IntKind.i64 (Pt.x p1), AV.int IntKind.i64 (Pt.y p1)]])) (ilen (List.map ep w01))))) else (none))) else (none))) else (none)) else (none)) else (bif fits (iadd v4n2 (ilen [AV.agg [AV.int IntKind.i64 (Pt.x p1), AV.int IntKind.i64 (Pt.y p1)]])) 16 then (bif ieq (iadd v4o1 v4n2) (ilen (List.map ep w01)) then (κ1 v31 0 (ilen (lcat (lsub (List.map ep w01) v4o1 (iadd v4o1 v4n2)) [AV.agg [AV.int IntKind.i64 (Pt.x p1), AV.int IntKind.i64 (Pt.y p1)]])) v51 v6 v22 (wr IntKind.i64 (iadd v23 1)) (lcat (lsub w01 v4o1 (iadd v4o1 v4n2)) (p1 :: []))) else (bif ile (iadd (iadd v4o1 v4n2) (ilen [AV.agg [AV.int IntKind.i64 (Pt.x p1), AV.int IntKind.i64 (Pt.y p1)]])) (ilen (List.map ep w01)) then (κ1 v31 v4o1 (iadd v4n2 (ilen [AV.agg [AV.int IntKind.i64 (Pt.x p1), AV.int IntKind.i64 (Pt.y p1)]])) v51 v6 v22 (wr IntKind.i64 (iadd v23 1)) (lcat (lcat (lsub w01 0 (iadd v4o1 v4n2)) (p1 :: [])) (lsub w01 (iadd (iadd v4o1 v4n2) (ilen [AV.agg [AV.int IntKind.i64 (Pt.x p1), AV.int IntKind.i64 (Pt.y p1)]])) (ilen (List.map ep w01))))) else (none))) else (none))


noncomputable def spec_bdBand_l3 (L : Nat) (κ1 : (List Pt) → Int → Int → Int → Int → Int → Int → (List Pt) → Option ((List Pt))) (v31 : List Pt) (v4o1 : Int) (v51 : Int) (v6 : Int) (v22 : Int) (v23 : Int) (w01 : List Pt) (p : Pt) : Nat → Int → Option ((List Pt))
  | 0, _ => none
  | m3 + 1, v4n3 => bif ilt (wr IntKind.i64 (iadd v6 1)) v4n3 then (bif ile 0 (wr IntKind.i64 (isub v4n3 2)) && ilt (wr IntKind.i64 (isub v4n3 2)) v4n3 then (gbind (lget w01 (iadd v4o1 (wr IntKind.i64 (isub v4n3 2)))) fun p4 => bif ile 0 (wr IntKind.i64 (isub v4n3 1)) && ilt (wr IntKind.i64 (isub v4n3 1)) v4n3 then (gbind (lget w01 (iadd v4o1 (wr IntKind.i64 (isub v4n3 1)))) fun p5 => gbind (spec_pgTurn L (Pt.x p4) (Pt.y p4) (Pt.x p5) (Pt.y p5) (Pt.x p) (Pt.y p)) fun r2 => bif ile r2 0 then (bif !false && ile 0 (wr IntKind.i64 (isub v4n3 1)) && ile (iadd v4o1 (wr IntKind.i64 (isub v4n3 1))) (ilen (List.map ep w01)) then (spec_bdBand_l3 L κ1 v31 v4o1 v51 v6 v22 v23 w01 p m3 (wr IntKind.i64 (isub v4n3 1))) else (none)) else (bif fits (iadd v4n3 (ilen [AV.agg [AV.int IntKind.i64 (Pt.x p), AV.int IntKind.i64 (Pt.y p)]])) 16 then (bif ieq (iadd v4o1 v4n3) (ilen (List.map ep w01)) then (κ1 v31 0 (ilen (lcat (lsub (List.map ep w01) v4o1 (iadd v4o1 v4n3)) [AV.agg [AV.int IntKind.i64 (Pt.x p), AV.int IntKind.i64 (Pt.y p)]])) v51 v6 v22 (wr IntKind.i64 (iadd v23 1)) (lcat (lsub w01 v4o1 (iadd v4o1 v4n3)) (p :: []))) else (bif ile (iadd (iadd v4o1 v4n3) (ilen [AV.agg [AV.int IntKind.i64 (Pt.x p), AV.int IntKind.i64 (Pt.y p)]])) (ilen (List.map ep w01)) then (κ1 v31 v4o1 (iadd v4n3 (ilen [AV.agg [AV.int IntKind.i64 (Pt.x p), AV.int IntKind.i64 (Pt.y p)]])) v51 v6 v22 (wr IntKind.i64 (iadd v23 1)) (lcat (lcat (lsub w01 0 (iadd v4o1 v4n3)) (p :: [])) (lsub w01 (iadd (iadd v4o1 v4n3) (ilen [AV.agg [AV.int IntKind.i64 (Pt.x p), AV.int IntKind.i64 (Pt.y p)]])) (ilen (List.map ep w01))))) else (none))) else (none))) else (none)) else (none)) else (bif fits (iadd v4n3 (ilen [AV.agg [AV.int IntKind.i64 (Pt.x p), AV.int IntKind.i64 (Pt.y p)]])) 16 then (bif ieq (iadd v4o1 v4n3) (ilen (List.map ep w01)) then (κ1 v31 0 (ilen (lcat (lsub (List.map ep w01) v4o1 (iadd v4o1 v4n3)) [AV.agg [AV.int IntKind.i64 (Pt.x p), AV.int IntKind.i64 (Pt.y p)]])) v51 v6 v22 (wr IntKind.i64 (iadd v23 1)) (lcat (lsub w01 v4o1 (iadd v4o1 v4n3)) (p :: []))) else (bif ile (iadd (iadd v4o1 v4n3) (ilen [AV.agg [AV.int IntKind.i64 (Pt.x p), AV.int IntKind.i64 (Pt.y p)]])) (ilen (List.map ep w01)) then (κ1 v31 v4o1 (iadd v4n3 (ilen [AV.agg [AV.int IntKind.i64 (Pt.x p), AV.int IntKind.i64 (Pt.y p)]])) v51 v6 v22 (wr IntKind.i64 (iadd v23 1)) (lcat (lcat (lsub w01 0 (iadd v4o1 v4n3)) (p :: [])) (lsub w01 (iadd (iadd v4o1 v4n3) (ilen [AV.agg [AV.int IntKind.i64 (Pt.x p), AV.int IntKind.i64 (Pt.y p)]])) (ilen (List.map ep w01))))) else (none))) else (none))


noncomputable def spec_bdBand_l1 (L : Nat) (κ0 : (List Pt) → Int → Int → Int → (List Pt) → Option ((List Pt))) : Nat → (List Pt) → Int → Int → Int → Int → Int → Int → (List Pt) → Option ((List Pt))
  | 0, _, _, _, _, _, _, _, _ => none
  | m1 + 1, v31, v4o1, v4n1, v51, v6, v22, v23, w01 => bif ilt v23 v22 then (gbind (lget v31 v23) fun p => bif ieq v51 1 then (gbind (lget v31 (wr IntKind.i64 (isub (wr IntKind.i64 (isub (ilen (List.map ep v31)) 1)) v23))) fun p1 => spec_bdBand_l2 L (spec_bdBand_l1 L κ0 m1) v31 v4o1 v51 v6 v22 v23 w01 p1 L v4n1) else (spec_bdBand_l3 L (spec_bdBand_l1 L κ0 m1) v31 v4o1 v51 v6 v22 v23 w01 p L v4n1)) else (bif !false && ile 0 (wr IntKind.i64 (isub v4n1 1)) && ile (iadd v4o1 (wr IntKind.i64 (isub v4n1 1))) (ilen (List.map ep w01)) then (κ0 v31 v4o1 (wr IntKind.i64 (isub v4n1 1)) (wr IntKind.i64 (iadd v51 1)) w01) else (none))


noncomputable def spec_bdBand_l0 (L : Nat) : Nat → (List Pt) → Int → Int → Int → (List Pt) → Option ((List Pt))
  | 0, _, _, _, _, _ => none
  | m + 1, v3, v4o, v4n, v5, w0 => bif ilt v5 2 then (spec_bdBand_l1 L (spec_bdBand_l0 L m) L v3 v4o v4n v5 v4n (ilen (List.map ep v3)) 0 w0) else (some (lsub w0 v4o (iadd v4o v4n)))


noncomputable def spec_bdBand (L : Nat) (a : List Pt) : Option ((List Pt)) := gbind (spec_bdSorted L a) fun r => bif ilt (ilen (List.map ep r)) 3 then (some r) else (spec_bdBand_l0 L L r 0 (ilen ([] : List AV)) 0 [])


def spec_bdBand_ok (L : Nat) (C : CF) : Prop := ∀ (oa : Bool) (ca : Bool) (x_a : List AV) (a : List Pt) (_ : x_a = List.map ep a), C 63 ([.lst oa ca 2 x_a]) ([]) = Option.map (fun r : (List Pt) => ((.lst false false 2 (List.map ep r), []) : AV × List Blk)) (spec_bdBand L a)


theorem spec_bdBand_run (L : Nat) (C : CF) (h_spec_pgTurn : spec_pgTurn_ok L C) (h_spec_bdSorted : spec_bdSorted_ok L C) : ∀ (oa : Bool) (ca : Bool) (x_a : List AV) (a : List Pt) (_ : x_a = List.map ep a), run T C sh (keep 63) L Try.f63 ([.lst oa ca 2 x_a]) ([]) = Option.map (fun r : (List Pt) => ((.lst false false 2 (List.map ep r), []) : AV × List Blk)) (spec_bdBand L a) := by
  intro oa ca x_a a hx_a
  subst hx_a
  unfold spec_bdBand
  conv => lhs; whnf
  refine t_call (h_spec_bdSorted _ _ _ a (by first | rfl | (simp only [ml]; done) | (simp only [ml]; rfl))) fun r => ?_
  conv => lhs; whnf
  refine t_cond ?_ ?_
  · conv => lhs; whnf
    exact t_ret (by first | rfl | (simp only [ml]; done) | (simp only [ml]; rfl))
  · conv => lhs; whnf
    refine t_loop (fun (⟨v3, v4o, v4n, v5, w0⟩ : (List Pt) × Int × Int × Int × (List Pt)) => (topA 3 (AV.lst false false 2 (List.map ep v3) :: AV.own 0 2 (some (v4o, v4n)) false :: AV.int IntKind.i64 v5 :: tops 72), [Blk.rows Mode.live 2 (List.map ep w0)])) (fun m (⟨v3, v4o, v4n, v5, w0⟩ : (List Pt) × Int × Int × Int × (List Pt)) => spec_bdBand_l0 L m v3 v4o v4n v5 w0) (fun _ => rfl) (fun m s rec hrec => ?_) L ((r, 0, ilen ([] : List AV), 0, [])) ?_ ?_
    rotate_left
    · first | rfl | (simp only [ml]; done) | (simp only [ml]; rfl)
    · first | rfl | (simp only [ml]; done) | (simp only [ml]; rfl)
    obtain ⟨v3, v4o, v4n, v5, w0⟩ := s
    show _ = Option.map _ (spec_bdBand_l0 L (m + 1) v3 v4o v4n v5 w0)
    rw [spec_bdBand_l0.eq_2]
    conv => lhs; whnf
    refine t_cond ?_ ?_
    · conv => lhs; whnf
      refine t_loop (fun (⟨v31, v4o1, v4n1, v51, v6, v22, v23, w01⟩ : (List Pt) × Int × Int × Int × Int × Int × Int × (List Pt)) => (topA 3 (AV.lst false false 2 (List.map ep v31) :: AV.own 0 2 (some (v4o1, v4n1)) false :: AV.int IntKind.i64 v51 :: AV.int IntKind.i64 v6 :: topA 15 (AV.int IntKind.i64 v22 :: AV.int IntKind.i64 v23 :: tops 54)), [Blk.rows Mode.live 2 (List.map ep w01)])) (fun m1 (⟨v31, v4o1, v4n1, v51, v6, v22, v23, w01⟩ : (List Pt) × Int × Int × Int × Int × Int × Int × (List Pt)) => spec_bdBand_l1 L (spec_bdBand_l0 L m) m1 v31 v4o1 v4n1 v51 v6 v22 v23 w01) (fun _ => rfl) (fun m1 s1 rec1 hrec1 => ?_) L ((v3, v4o, v4n, v5, v4n, ilen (List.map ep v3), 0, w0)) ?_ ?_
      rotate_left
      · first | rfl | (simp only [ml]; done) | (simp only [ml]; rfl)
      · first | rfl | (simp only [ml]; done) | (simp only [ml]; rfl)
      obtain ⟨v31, v4o1, v4n1, v51, v6, v22, v23, w01⟩ := s1
      show _ = Option.map _ (spec_bdBand_l1 L (spec_bdBand_l0 L m) (m1 + 1) v31 v4o1 v4n1 v51 v6 v22 v23 w01)
      rw [spec_bdBand_l1.eq_2]
      conv => lhs; whnf
      refine t_cond ?_ ?_
      · conv => lhs; whnf
        refine t_get (en := ep) (l := v31) (by first | rfl | (simp only [ml]; done) | (simp only [ml]; rfl)) fun p => ?_
        conv => lhs; whnf
        refine t_cond ?_ ?_
        · conv => lhs; whnf
          refine t_get (en := ep) (l := v31) (by first | rfl | (simp only [ml]; done) | (simp only [ml]; rfl)) fun p1 => ?_
          conv => lhs; whnf
          refine t_loop (fun (v4n2 : Int) => (topA 3 (AV.lst false false 2 (List.map ep v31) :: AV.own 0 2 (some (v4o1, v4n2)) false :: AV.int IntKind.i64 v51 :: AV.int IntKind.i64 v6 :: AV.top :: AV.ptr 1 0 0 2 :: topA 13 (AV.int IntKind.i64 v22 :: AV.int IntKind.i64 v23 :: tops 54)), [Blk.rows Mode.live 2 (List.map ep w01), Blk.box (AV.agg [AV.int IntKind.i64 (Pt.x p1), AV.int IntKind.i64 (Pt.y p1)])])) (fun m2 (v4n2 : Int) => spec_bdBand_l2 L (spec_bdBand_l1 L (spec_bdBand_l0 L m) m1) v31 v4o1 v51 v6 v22 v23 w01 p1 m2 v4n2) (fun _ => rfl) (fun m2 v4n2 rec2 hrec2 => ?_) L v4n1 ?_ ?_
          rotate_left
          · first | rfl | (simp only [ml]; done) | (simp only [ml]; rfl)
          · first | rfl | (simp only [ml]; done) | (simp only [ml]; rfl)
          show _ = Option.map _ (spec_bdBand_l2 L (spec_bdBand_l1 L (spec_bdBand_l0 L m) m1) v31 v4o1 v51 v6 v22 v23 w01 p1 (m2 + 1) v4n2)
          rw [spec_bdBand_l2.eq_2]
          conv => lhs; whnf
          refine t_cond ?_ ?_
          · conv => lhs; whnf
            refine t_cond ?_ ?_
            · conv => lhs; whnf
              refine t_get (en := ep) (l := w01) (by first | rfl | (simp only [ml]; done) | (simp only [ml]; rfl)) fun p2 => ?_
              conv => lhs; whnf
              refine t_cond ?_ ?_
              · conv => lhs; whnf
                refine t_get (en := ep) (l := w01) (by first | rfl | (simp only [ml]; done) | (simp only [ml]; rfl)) fun p3 => ?_
                conv => lhs; whnf
                refine t_call (h_spec_pgTurn (Pt.x p2) (Pt.y p2) (Pt.x p3) (Pt.y p3) (Pt.x p1) (Pt.y p1)) fun r1 => ?_
                conv => lhs; whnf
                refine t_cond ?_ ?_
                · conv => lhs; whnf
                  refine t_cond ?_ ?_
                  · conv => lhs; whnf
                    exact hrec2 (wr IntKind.i64 (isub v4n2 1)) _ _ (by first | rfl | (simp only [ml]; done) | (simp only [ml]; rfl)) (by first | rfl | (simp only [ml]; done) | (simp only [ml]; rfl))
                  · conv => lhs; whnf
                    exact t_none
                · conv => lhs; whnf
                  refine t_cond ?_ ?_
                  · conv => lhs; whnf
                    refine t_cond ?_ ?_
                    · conv => lhs; whnf
                      exact hrec1 ((v31, 0, ilen (lcat (lsub (List.map ep w01) v4o1 (iadd v4o1 v4n2)) [AV.agg [AV.int IntKind.i64 (Pt.x p1), AV.int IntKind.i64 (Pt.y p1)]]), v51, v6, v22, wr IntKind.i64 (iadd v23 1), lcat (lsub w01 v4o1 (iadd v4o1 v4n2)) (p1 :: []))) _ _ (by first | rfl | (simp only [ml]; done) | (simp only [ml]; rfl)) (by first | rfl | (simp only [ml]; done) | (simp only [ml]; rfl))
                    · conv => lhs; whnf
                      refine t_cond ?_ ?_
                      · conv => lhs; whnf
                        exact hrec1 ((v31, v4o1, iadd v4n2 (ilen [AV.agg [AV.int IntKind.i64 (Pt.x p1), AV.int IntKind.i64 (Pt.y p1)]]), v51, v6, v22, wr IntKind.i64 (iadd v23 1), lcat (lcat (lsub w01 0 (iadd v4o1 v4n2)) (p1 :: [])) (lsub w01 (iadd (iadd v4o1 v4n2) (ilen [AV.agg [AV.int IntKind.i64 (Pt.x p1), AV.int IntKind.i64 (Pt.y p1)]])) (ilen (List.map ep w01))))) _ _ (by first | rfl | (simp only [ml]; done) | (simp only [ml]; rfl)) (by first | rfl | (simp only [ml]; done) | (simp only [ml]; rfl))
                      · conv => lhs; whnf
                        exact t_none
                  · conv => lhs; whnf
                    exact t_none
              · conv => lhs; whnf
                exact t_none
            · conv => lhs; whnf
              exact t_none
          · conv => lhs; whnf
            refine t_cond ?_ ?_
            · conv => lhs; whnf
              refine t_cond ?_ ?_
              · conv => lhs; whnf
                exact hrec1 ((v31, 0, ilen (lcat (lsub (List.map ep w01) v4o1 (iadd v4o1 v4n2)) [AV.agg [AV.int IntKind.i64 (Pt.x p1), AV.int IntKind.i64 (Pt.y p1)]]), v51, v6, v22, wr IntKind.i64 (iadd v23 1), lcat (lsub w01 v4o1 (iadd v4o1 v4n2)) (p1 :: []))) _ _ (by first | rfl | (simp only [ml]; done) | (simp only [ml]; rfl)) (by first | rfl | (simp only [ml]; done) | (simp only [ml]; rfl))
              · conv => lhs; whnf
                refine t_cond ?_ ?_
                · conv => lhs; whnf
                  exact hrec1 ((v31, v4o1, iadd v4n2 (ilen [AV.agg [AV.int IntKind.i64 (Pt.x p1), AV.int IntKind.i64 (Pt.y p1)]]), v51, v6, v22, wr IntKind.i64 (iadd v23 1), lcat (lcat (lsub w01 0 (iadd v4o1 v4n2)) (p1 :: [])) (lsub w01 (iadd (iadd v4o1 v4n2) (ilen [AV.agg [AV.int IntKind.i64 (Pt.x p1), AV.int IntKind.i64 (Pt.y p1)]])) (ilen (List.map ep w01))))) _ _ (by first | rfl | (simp only [ml]; done) | (simp only [ml]; rfl)) (by first | rfl | (simp only [ml]; done) | (simp only [ml]; rfl))
                · conv => lhs; whnf
                  exact t_none
            · conv => lhs; whnf
              exact t_none
        · conv => lhs; whnf
          refine t_loop (fun (v4n3 : Int) => (topA 3 (AV.lst false false 2 (List.map ep v31) :: AV.own 0 2 (some (v4o1, v4n3)) false :: AV.int IntKind.i64 v51 :: AV.int IntKind.i64 v6 :: AV.top :: AV.ptr 1 0 0 2 :: topA 13 (AV.int IntKind.i64 v22 :: AV.int IntKind.i64 v23 :: tops 54)), [Blk.rows Mode.live 2 (List.map ep w01), Blk.box (AV.agg [AV.int IntKind.i64 (Pt.x p), AV.int IntKind.i64 (Pt.y p)])])) (fun m3 (v4n3 : Int) => spec_bdBand_l3 L (spec_bdBand_l1 L (spec_bdBand_l0 L m) m1) v31 v4o1 v51 v6 v22 v23 w01 p m3 v4n3) (fun _ => rfl) (fun m3 v4n3 rec3 hrec3 => ?_) L v4n1 ?_ ?_
          rotate_left
          · first | rfl | (simp only [ml]; done) | (simp only [ml]; rfl)
          · first | rfl | (simp only [ml]; done) | (simp only [ml]; rfl)
          show _ = Option.map _ (spec_bdBand_l3 L (spec_bdBand_l1 L (spec_bdBand_l0 L m) m1) v31 v4o1 v51 v6 v22 v23 w01 p (m3 + 1) v4n3)
          rw [spec_bdBand_l3.eq_2]
          conv => lhs; whnf
          refine t_cond ?_ ?_
          · conv => lhs; whnf
            refine t_cond ?_ ?_
            · conv => lhs; whnf
              refine t_get (en := ep) (l := w01) (by first | rfl | (simp only [ml]; done) | (simp only [ml]; rfl)) fun p4 => ?_
              conv => lhs; whnf
              refine t_cond ?_ ?_
              · conv => lhs; whnf
                refine t_get (en := ep) (l := w01) (by first | rfl | (simp only [ml]; done) | (simp only [ml]; rfl)) fun p5 => ?_
                conv => lhs; whnf
                refine t_call (h_spec_pgTurn (Pt.x p4) (Pt.y p4) (Pt.x p5) (Pt.y p5) (Pt.x p) (Pt.y p)) fun r2 => ?_
                conv => lhs; whnf
                refine t_cond ?_ ?_
                · conv => lhs; whnf
                  refine t_cond ?_ ?_
                  · conv => lhs; whnf
                    exact hrec3 (wr IntKind.i64 (isub v4n3 1)) _ _ (by first | rfl | (simp only [ml]; done) | (simp only [ml]; rfl)) (by first | rfl | (simp only [ml]; done) | (simp only [ml]; rfl))
                  · conv => lhs; whnf
                    exact t_none
                · conv => lhs; whnf
                  refine t_cond ?_ ?_
                  · conv => lhs; whnf
                    refine t_cond ?_ ?_
                    · conv => lhs; whnf
                      exact hrec1 ((v31, 0, ilen (lcat (lsub (List.map ep w01) v4o1 (iadd v4o1 v4n3)) [AV.agg [AV.int IntKind.i64 (Pt.x p), AV.int IntKind.i64 (Pt.y p)]]), v51, v6, v22, wr IntKind.i64 (iadd v23 1), lcat (lsub w01 v4o1 (iadd v4o1 v4n3)) (p :: []))) _ _ (by first | rfl | (simp only [ml]; done) | (simp only [ml]; rfl)) (by first | rfl | (simp only [ml]; done) | (simp only [ml]; rfl))
                    · conv => lhs; whnf
                      refine t_cond ?_ ?_
                      · conv => lhs; whnf
                        exact hrec1 ((v31, v4o1, iadd v4n3 (ilen [AV.agg [AV.int IntKind.i64 (Pt.x p), AV.int IntKind.i64 (Pt.y p)]]), v51, v6, v22, wr IntKind.i64 (iadd v23 1), lcat (lcat (lsub w01 0 (iadd v4o1 v4n3)) (p :: [])) (lsub w01 (iadd (iadd v4o1 v4n3) (ilen [AV.agg [AV.int IntKind.i64 (Pt.x p), AV.int IntKind.i64 (Pt.y p)]])) (ilen (List.map ep w01))))) _ _ (by first | rfl | (simp only [ml]; done) | (simp only [ml]; rfl)) (by first | rfl | (simp only [ml]; done) | (simp only [ml]; rfl))
                      · conv => lhs; whnf
                        exact t_none
                  · conv => lhs; whnf
                    exact t_none
              · conv => lhs; whnf
                exact t_none
            · conv => lhs; whnf
              exact t_none
          · conv => lhs; whnf
            refine t_cond ?_ ?_
            · conv => lhs; whnf
              refine t_cond ?_ ?_
              · conv => lhs; whnf
                exact hrec1 ((v31, 0, ilen (lcat (lsub (List.map ep w01) v4o1 (iadd v4o1 v4n3)) [AV.agg [AV.int IntKind.i64 (Pt.x p), AV.int IntKind.i64 (Pt.y p)]]), v51, v6, v22, wr IntKind.i64 (iadd v23 1), lcat (lsub w01 v4o1 (iadd v4o1 v4n3)) (p :: []))) _ _ (by first | rfl | (simp only [ml]; done) | (simp only [ml]; rfl)) (by first | rfl | (simp only [ml]; done) | (simp only [ml]; rfl))
              · conv => lhs; whnf
                refine t_cond ?_ ?_
                · conv => lhs; whnf
                  exact hrec1 ((v31, v4o1, iadd v4n3 (ilen [AV.agg [AV.int IntKind.i64 (Pt.x p), AV.int IntKind.i64 (Pt.y p)]]), v51, v6, v22, wr IntKind.i64 (iadd v23 1), lcat (lcat (lsub w01 0 (iadd v4o1 v4n3)) (p :: [])) (lsub w01 (iadd (iadd v4o1 v4n3) (ilen [AV.agg [AV.int IntKind.i64 (Pt.x p), AV.int IntKind.i64 (Pt.y p)]])) (ilen (List.map ep w01))))) _ _ (by first | rfl | (simp only [ml]; done) | (simp only [ml]; rfl)) (by first | rfl | (simp only [ml]; done) | (simp only [ml]; rfl))
                · conv => lhs; whnf
                  exact t_none
            · conv => lhs; whnf
              exact t_none
      · conv => lhs; whnf
        refine t_cond ?_ ?_
        · conv => lhs; whnf
          exact hrec ((v31, v4o1, wr IntKind.i64 (isub v4n1 1), wr IntKind.i64 (iadd v51 1), w01)) _ _ (by first | rfl | (simp only [ml]; done) | (simp only [ml]; rfl)) (by first | rfl | (simp only [ml]; done) | (simp only [ml]; rfl))
        · conv => lhs; whnf
          exact t_none
    · conv => lhs; whnf
      exact t_ret (by first | rfl | (simp only [ml]; done) | (simp only [ml]; rfl))


noncomputable def spec_bdOn_l0 (L : Nat) (a : List Pt) (b_0 : Int) (b_1 : Int) : Nat → Int → Option Bool
  | 0, _ => none
  | m + 1, v9 => bif ilt v9 (ilen (List.map ep a)) then (gbind (lget a v9) fun p => bif ieq (Pt.x p) b_0 && ieq (Pt.y p) b_1 then (some true) else (bif ilt 1 (ilen (List.map ep a)) then (bif ieq (ilen (List.map ep a)) 0 then (none) else (gbind (lget a (irem (wr IntKind.i64 (iadd v9 1)) (ilen (List.map ep a)))) fun p1 => gbind (spec_pgOn L (Pt.x p) (Pt.y p) (Pt.x p1) (Pt.y p1) b_0 b_1) fun r => bif r then (some true) else (spec_bdOn_l0 L a b_0 b_1 m (wr IntKind.i64 (iadd v9 1))))) else (spec_bdOn_l0 L a b_0 b_1 m (wr IntKind.i64 (iadd v9 1))))) else (some false)


noncomputable def spec_bdOn (L : Nat) (a : List Pt) (b_0 : Int) (b_1 : Int) : Option (Bool) := spec_bdOn_l0 L a b_0 b_1 L 0


def spec_bdOn_ok (L : Nat) (C : CF) : Prop := ∀ (oa : Bool) (ca : Bool) (x_a : List AV) (a : List Pt) (_ : x_a = List.map ep a) (b_0 : Int) (b_1 : Int), C 116 ([.lst oa ca 2 x_a, .agg [.int .i64 b_0, .int .i64 b_1]]) ([]) = Option.map (fun r : Bool => ((.bool r, []) : AV × List Blk)) (spec_bdOn L a b_0 b_1)


theorem spec_bdOn_run (L : Nat) (C : CF) (h_spec_pgOn : spec_pgOn_ok L C) : ∀ (oa : Bool) (ca : Bool) (x_a : List AV) (a : List Pt) (_ : x_a = List.map ep a) (b_0 : Int) (b_1 : Int), run T C sh (keep 116) L Try.f116 ([.lst oa ca 2 x_a, .agg [.int .i64 b_0, .int .i64 b_1]]) ([]) = Option.map (fun r : Bool => ((.bool r, []) : AV × List Blk)) (spec_bdOn L a b_0 b_1) := by
  intro oa ca x_a a hx_a b_0 b_1
  subst hx_a
  unfold spec_bdOn
  conv => lhs; whnf
  refine t_loop (fun (v9 : Int) => (AV.lst oa ca 2 (List.map ep a) :: topA 2 (AV.ptr 0 0 0 2 :: topA 3 (AV.lst oa ca 2 (List.map ep a) :: AV.int IntKind.i64 (ilen (List.map ep a)) :: AV.int IntKind.i64 v9 :: tops 26)), [Blk.box (AV.agg [AV.int IntKind.i64 b_0, AV.int IntKind.i64 b_1])])) (fun m (v9 : Int) => spec_bdOn_l0 L a b_0 b_1 m v9) (fun _ => rfl) (fun m v9 rec hrec => ?_) L 0 ?_ ?_
  rotate_left
  · first | rfl | (simp only [ml]; done) | (simp only [ml]; rfl)
  · first | rfl | (simp only [ml]; done) | (simp only [ml]; rfl)
  show _ = Option.map _ (spec_bdOn_l0 L a b_0 b_1 (m + 1) v9)
  rw [spec_bdOn_l0.eq_2]
  conv => lhs; whnf
  refine t_cond ?_ ?_
  · conv => lhs; whnf
    refine t_get (en := ep) (l := a) (by first | rfl | (simp only [ml]; done) | (simp only [ml]; rfl)) fun p => ?_
    conv => lhs; whnf
    refine t_cond ?_ ?_
    · conv => lhs; whnf
      exact t_ret (by first | rfl | (simp only [ml]; done) | (simp only [ml]; rfl))
    · conv => lhs; whnf
      refine t_cond ?_ ?_
      · conv => lhs; whnf
        refine t_cond ?_ ?_
        · conv => lhs; whnf
          exact t_none
        · conv => lhs; whnf
          refine t_get (en := ep) (l := a) (by first | rfl | (simp only [ml]; done) | (simp only [ml]; rfl)) fun p1 => ?_
          conv => lhs; whnf
          refine t_call (h_spec_pgOn (Pt.x p) (Pt.y p) (Pt.x p1) (Pt.y p1) b_0 b_1) fun r => ?_
          conv => lhs; whnf
          refine t_cond ?_ ?_
          · conv => lhs; whnf
            exact t_ret (by first | rfl | (simp only [ml]; done) | (simp only [ml]; rfl))
          · conv => lhs; whnf
            exact hrec (wr IntKind.i64 (iadd v9 1)) _ _ (by first | rfl | (simp only [ml]; done) | (simp only [ml]; rfl)) (by first | rfl | (simp only [ml]; done) | (simp only [ml]; rfl))
      · conv => lhs; whnf
        exact hrec (wr IntKind.i64 (iadd v9 1)) _ _ (by first | rfl | (simp only [ml]; done) | (simp only [ml]; rfl)) (by first | rfl | (simp only [ml]; done) | (simp only [ml]; rfl))
  · conv => lhs; whnf
    exact t_ret (by first | rfl | (simp only [ml]; done) | (simp only [ml]; rfl))


noncomputable def spec_bdIn_l0 (L : Nat) (a : List Pt) (b_0 : Int) (b_1 : Int) : Nat → Int → Option Bool
  | 0, _ => none
  | m + 1, v15 => bif ilt v15 (ilen (List.map ep a)) then (gbind (lget a v15) fun p => bif ieq (ilen (List.map ep a)) 0 then (none) else (gbind (lget a (irem (wr IntKind.i64 (iadd v15 1)) (ilen (List.map ep a)))) fun p1 => gbind (spec_pgTurn L (Pt.x p) (Pt.y p) (Pt.x p1) (Pt.y p1) b_0 b_1) fun r1 => bif ilt r1 0 then (some false) else (spec_bdIn_l0 L a b_0 b_1 m (wr IntKind.i64 (iadd v15 1))))) else (some true)


noncomputable def spec_bdIn (L : Nat) (a : List Pt) (b_0 : Int) (b_1 : Int) : Option (Bool) := bif ilt (ilen (List.map ep a)) 3 then (gbind (spec_bdOn L a b_0 b_1) fun r => some r) else (spec_bdIn_l0 L a b_0 b_1 L 0)


def spec_bdIn_ok (L : Nat) (C : CF) : Prop := ∀ (oa : Bool) (ca : Bool) (x_a : List AV) (a : List Pt) (_ : x_a = List.map ep a) (b_0 : Int) (b_1 : Int), C 64 ([.lst oa ca 2 x_a, .agg [.int .i64 b_0, .int .i64 b_1]]) ([]) = Option.map (fun r : Bool => ((.bool r, []) : AV × List Blk)) (spec_bdIn L a b_0 b_1)


theorem spec_bdIn_run (L : Nat) (C : CF) (h_spec_pgTurn : spec_pgTurn_ok L C) (h_spec_bdOn : spec_bdOn_ok L C) : ∀ (oa : Bool) (ca : Bool) (x_a : List AV) (a : List Pt) (_ : x_a = List.map ep a) (b_0 : Int) (b_1 : Int), run T C sh (keep 64) L Try.f64 ([.lst oa ca 2 x_a, .agg [.int .i64 b_0, .int .i64 b_1]]) ([]) = Option.map (fun r : Bool => ((.bool r, []) : AV × List Blk)) (spec_bdIn L a b_0 b_1) := by
  intro oa ca x_a a hx_a b_0 b_1
  subst hx_a
  unfold spec_bdIn
  conv => lhs; whnf
  refine t_cond ?_ ?_
  · conv => lhs; whnf
    refine t_call (h_spec_bdOn _ _ _ a (by first | rfl | (simp only [ml]; done) | (simp only [ml]; rfl)) b_0 b_1) fun r => ?_
    conv => lhs; whnf
    exact t_ret (by first | rfl | (simp only [ml]; done) | (simp only [ml]; rfl))
  · conv => lhs; whnf
    refine t_loop (fun (v15 : Int) => (AV.lst oa ca 2 (List.map ep a) :: topA 2 (AV.ptr 0 0 0 2 :: topA 9 (AV.lst oa ca 2 (List.map ep a) :: AV.int IntKind.i64 (ilen (List.map ep a)) :: AV.int IntKind.i64 v15 :: tops 17)), [Blk.box (AV.agg [AV.int IntKind.i64 b_0, AV.int IntKind.i64 b_1])])) (fun m (v15 : Int) => spec_bdIn_l0 L a b_0 b_1 m v15) (fun _ => rfl) (fun m v15 rec hrec => ?_) L 0 ?_ ?_
    rotate_left
    · first | rfl | (simp only [ml]; done) | (simp only [ml]; rfl)
    · first | rfl | (simp only [ml]; done) | (simp only [ml]; rfl)
    show _ = Option.map _ (spec_bdIn_l0 L a b_0 b_1 (m + 1) v15)
    rw [spec_bdIn_l0.eq_2]
    conv => lhs; whnf
    refine t_cond ?_ ?_
    · conv => lhs; whnf
      refine t_get (en := ep) (l := a) (by first | rfl | (simp only [ml]; done) | (simp only [ml]; rfl)) fun p => ?_
      conv => lhs; whnf
      refine t_cond ?_ ?_
      · conv => lhs; whnf
        exact t_none
      · conv => lhs; whnf
        refine t_get (en := ep) (l := a) (by first | rfl | (simp only [ml]; done) | (simp only [ml]; rfl)) fun p1 => ?_
        conv => lhs; whnf
        refine t_call (h_spec_pgTurn (Pt.x p) (Pt.y p) (Pt.x p1) (Pt.y p1) b_0 b_1) fun r1 => ?_
        conv => lhs; whnf
        refine t_cond ?_ ?_
        · conv => lhs; whnf
          exact t_ret (by first | rfl | (simp only [ml]; done) | (simp only [ml]; rfl))
        · conv => lhs; whnf
          exact hrec (wr IntKind.i64 (iadd v15 1)) _ _ (by first | rfl | (simp only [ml]; done) | (simp only [ml]; rfl)) (by first | rfl | (simp only [ml]; done) | (simp only [ml]; rfl))
    · conv => lhs; whnf
      exact t_ret (by first | rfl | (simp only [ml]; done) | (simp only [ml]; rfl))


noncomputable def spec_bdFar (L : Nat) (a_0 : Int) (a_1 : Int) (b_0 : Int) (b_1 : Int) : Option (Int) := some (wr IntKind.i64 (iadd (wr IntKind.i64 (imul (wr IntKind.i64 (isub a_0 b_0)) (wr IntKind.i64 (isub a_0 b_0)))) (wr IntKind.i64 (imul (wr IntKind.i64 (isub a_1 b_1)) (wr IntKind.i64 (isub a_1 b_1))))))


def spec_bdFar_ok (L : Nat) (C : CF) : Prop := ∀ (a_0 : Int) (a_1 : Int) (b_0 : Int) (b_1 : Int), C 73 ([.agg [.int .i64 a_0, .int .i64 a_1], .agg [.int .i64 b_0, .int .i64 b_1]]) ([]) = Option.map (fun r : Int => ((.int .i64 r, []) : AV × List Blk)) (spec_bdFar L a_0 a_1 b_0 b_1)


theorem spec_bdFar_run (L : Nat) (C : CF) : ∀ (a_0 : Int) (a_1 : Int) (b_0 : Int) (b_1 : Int), run T C sh (keep 73) L Try.f73 ([.agg [.int .i64 a_0, .int .i64 a_1], .agg [.int .i64 b_0, .int .i64 b_1]]) ([]) = Option.map (fun r : Int => ((.int .i64 r, []) : AV × List Blk)) (spec_bdFar L a_0 a_1 b_0 b_1) := by
  intro a_0 a_1 b_0 b_1
  unfold spec_bdFar
  conv => lhs; whnf
  exact t_ret (by first | rfl | (simp only [ml]; done) | (simp only [ml]; rfl))


noncomputable def spec_bdTangent_l0 (L : Nat) (a : List Pt) (b_0 : Int) (b_1 : Int) (c : Int) : Nat → Int → Int → Int → Option (Int × Int)
  | 0, _, _, _ => none
  | m + 1, v17, b2_0, b2_1 => bif ilt v17 (ilen (lsub (List.map ep a) 1 (ilen (List.map ep a)))) then (gbind (lget (lsub a 1 (ilen (List.map ep a))) v17) fun p1 => gbind (spec_pgTurn L b_0 b_1 b2_0 b2_1 (Pt.x p1) (Pt.y p1)) fun r => bif ilt 0 (wr IntKind.i64 (imul c r)) then (spec_bdTangent_l0 L a b_0 b_1 c m (wr IntKind.i64 (iadd v17 1)) (Pt.x p1) (Pt.y p1)) else (bif ieq (wr IntKind.i64 (imul c r)) 0 then (gbind (spec_bdFar L b_0 b_1 (Pt.x p1) (Pt.y p1)) fun r1 => gbind (spec_bdFar L b_0 b_1 b2_0 b2_1) fun r2 => bif ilt r1 r2 then (spec_bdTangent_l0 L a b_0 b_1 c m (wr IntKind.i64 (iadd v17 1)) (Pt.x p1) (Pt.y p1)) else (spec_bdTangent_l0 L a b_0 b_1 c m (wr IntKind.i64 (iadd v17 1)) b2_0 b2_1)) else (spec_bdTangent_l0 L a b_0 b_1 c m (wr IntKind.i64 (iadd v17 1)) b2_0 b2_1))) else (some ((b2_0, b2_1)))


noncomputable def spec_bdTangent (L : Nat) (a : List Pt) (b_0 : Int) (b_1 : Int) (c : Int) : Option (Int × Int) := gbind (lget a 0) fun p => bif ile 0 1 && ile 1 (ilen (List.map ep a)) then (spec_bdTangent_l0 L a b_0 b_1 c L 0 (Pt.x p) (Pt.y p)) else (none)


def spec_bdTangent_ok (L : Nat) (C : CF) : Prop := ∀ (oa : Bool) (ca : Bool) (x_a : List AV) (a : List Pt) (_ : x_a = List.map ep a) (b_0 : Int) (b_1 : Int) (c : Int), C 65 ([.lst oa ca 2 x_a, .agg [.int .i64 b_0, .int .i64 b_1], .int .i64 c]) ([]) = Option.map (fun r : Int × Int => ((.agg [.int .i64 (r.1), .int .i64 (r.2)], []) : AV × List Blk)) (spec_bdTangent L a b_0 b_1 c)


theorem spec_bdTangent_run (L : Nat) (C : CF) (h_spec_pgTurn : spec_pgTurn_ok L C) (h_spec_bdFar : spec_bdFar_ok L C) : ∀ (oa : Bool) (ca : Bool) (x_a : List AV) (a : List Pt) (_ : x_a = List.map ep a) (b_0 : Int) (b_1 : Int) (c : Int), run T C sh (keep 65) L Try.f65 ([.lst oa ca 2 x_a, .agg [.int .i64 b_0, .int .i64 b_1], .int .i64 c]) ([]) = Option.map (fun r : Int × Int => ((.agg [.int .i64 (r.1), .int .i64 (r.2)], []) : AV × List Blk)) (spec_bdTangent L a b_0 b_1 c) := by
  intro oa ca x_a a hx_a b_0 b_1 c
  subst hx_a
  unfold spec_bdTangent
  conv => lhs; whnf
  refine t_get (en := ep) (l := a) (by first | rfl | (simp only [ml]; done) | (simp only [ml]; rfl)) fun p => ?_
  conv => lhs; whnf
  refine t_cond ?_ ?_
  · conv => lhs; whnf
    refine t_loop (fun (⟨v17, b2_0, b2_1⟩ : Int × Int × Int) => (topA 2 (AV.int IntKind.i64 c :: AV.top :: AV.ptr 0 0 0 2 :: AV.top :: AV.ptr 1 0 0 2 :: AV.ptr 2 0 0 2 :: topA 7 (AV.lst oa ca 2 (lsub (List.map ep a) 1 (ilen (List.map ep a))) :: AV.int IntKind.i64 (ilen (lsub (List.map ep a) 1 (ilen (List.map ep a)))) :: AV.int IntKind.i64 v17 :: tops 27)), [Blk.box (AV.agg [AV.int IntKind.i64 b_0, AV.int IntKind.i64 b_1]), Blk.box (AV.agg [AV.int IntKind.i64 0, AV.int IntKind.i64 0]), Blk.box (AV.agg [AV.int IntKind.i64 b2_0, AV.int IntKind.i64 b2_1])])) (fun m (⟨v17, b2_0, b2_1⟩ : Int × Int × Int) => spec_bdTangent_l0 L a b_0 b_1 c m v17 b2_0 b2_1) (fun _ => rfl) (fun m s rec hrec => ?_) L ((0, Pt.x p, Pt.y p)) ?_ ?_
    rotate_left
    · first | rfl | (simp only [ml]; done) | (simp only [ml]; rfl)
    · first | rfl | (simp only [ml]; done) | (simp only [ml]; rfl)
    obtain ⟨v17, b2_0, b2_1⟩ := s
    show _ = Option.map _ (spec_bdTangent_l0 L a b_0 b_1 c (m + 1) v17 b2_0 b2_1)
    rw [spec_bdTangent_l0.eq_2]
    conv => lhs; whnf
    refine t_cond ?_ ?_
    · conv => lhs; whnf
      refine t_get (en := ep) (l := lsub a 1 (ilen (List.map ep a))) (by first | rfl | (simp only [ml]; done) | (simp only [ml]; rfl)) fun p1 => ?_
      conv => lhs; whnf
      refine t_call (h_spec_pgTurn b_0 b_1 b2_0 b2_1 (Pt.x p1) (Pt.y p1)) fun r => ?_
      conv => lhs; whnf
      refine t_cond ?_ ?_
      · conv => lhs; whnf
        exact hrec ((wr IntKind.i64 (iadd v17 1), Pt.x p1, Pt.y p1)) _ _ (by first | rfl | (simp only [ml]; done) | (simp only [ml]; rfl)) (by first | rfl | (simp only [ml]; done) | (simp only [ml]; rfl))
      · conv => lhs; whnf
        refine t_cond ?_ ?_
        · conv => lhs; whnf
          refine t_call (h_spec_bdFar b_0 b_1 (Pt.x p1) (Pt.y p1)) fun r1 => ?_
          conv => lhs; whnf
          refine t_call (h_spec_bdFar b_0 b_1 b2_0 b2_1) fun r2 => ?_
          conv => lhs; whnf
          refine t_cond ?_ ?_
          · conv => lhs; whnf
            exact hrec ((wr IntKind.i64 (iadd v17 1), Pt.x p1, Pt.y p1)) _ _ (by first | rfl | (simp only [ml]; done) | (simp only [ml]; rfl)) (by first | rfl | (simp only [ml]; done) | (simp only [ml]; rfl))
          · conv => lhs; whnf
            exact hrec ((wr IntKind.i64 (iadd v17 1), b2_0, b2_1)) _ _ (by first | rfl | (simp only [ml]; done) | (simp only [ml]; rfl)) (by first | rfl | (simp only [ml]; done) | (simp only [ml]; rfl))
        · conv => lhs; whnf
          exact hrec ((wr IntKind.i64 (iadd v17 1), b2_0, b2_1)) _ _ (by first | rfl | (simp only [ml]; done) | (simp only [ml]; rfl)) (by first | rfl | (simp only [ml]; done) | (simp only [ml]; rfl))
    · conv => lhs; whnf
      exact t_ret (by first | rfl | (simp only [ml]; done) | (simp only [ml]; rfl))
  · conv => lhs; whnf
    exact t_none


noncomputable def spec_TangentsFrom (L : Nat) (a : List Pt) (b_0 : Int) (b_1 : Int) : Option (Int × Int × Int × Int × Bool) := gbind (spec_bdGood L a) fun r => bif !r then (some ((0, 0, 0, 0, false))) else (gbind (spec_pgIs L b_0 b_1) fun r1 => bif !r1 then (some ((0, 0, 0, 0, false))) else (gbind (spec_bdBand L a) fun r2 => bif ilt (ilen (List.map ep r2)) 3 then (some ((0, 0, 0, 0, false))) else (gbind (spec_bdIn L r2 b_0 b_1) fun r3 => bif r3 then (some ((0, 0, 0, 0, false))) else (gbind (spec_bdTangent L r2 b_0 b_1 (-1)) fun r4 => gbind (spec_bdTangent L r2 b_0 b_1 1) fun r5 => some ((Prod.fst r4, Prod.snd r4, Prod.fst r5, Prod.snd r5, true))))))


def spec_TangentsFrom_ok (L : Nat) (C : CF) : Prop := ∀ (oa : Bool) (ca : Bool) (x_a : List AV) (a : List Pt) (_ : x_a = List.map ep a) (b_0 : Int) (b_1 : Int), C 20 ([.lst oa ca 2 x_a, .agg [.int .i64 b_0, .int .i64 b_1]]) ([]) = Option.map (fun r : Int × Int × Int × Int × Bool => ((.tup [.agg [.int .i64 (r.1), .int .i64 (r.2.1)], .agg [.int .i64 (r.2.2.1), .int .i64 (r.2.2.2.1)], .bool (r.2.2.2.2)], []) : AV × List Blk)) (spec_TangentsFrom L a b_0 b_1)


theorem spec_TangentsFrom_run (L : Nat) (C : CF) (h_spec_pgIs : spec_pgIs_ok L C) (h_spec_bdGood : spec_bdGood_ok L C) (h_spec_bdBand : spec_bdBand_ok L C) (h_spec_bdIn : spec_bdIn_ok L C) (h_spec_bdTangent : spec_bdTangent_ok L C) : ∀ (oa : Bool) (ca : Bool) (x_a : List AV) (a : List Pt) (_ : x_a = List.map ep a) (b_0 : Int) (b_1 : Int), run T C sh (keep 20) L Try.f20 ([.lst oa ca 2 x_a, .agg [.int .i64 b_0, .int .i64 b_1]]) ([]) = Option.map (fun r : Int × Int × Int × Int × Bool => ((.tup [.agg [.int .i64 (r.1), .int .i64 (r.2.1)], .agg [.int .i64 (r.2.2.1), .int .i64 (r.2.2.2.1)], .bool (r.2.2.2.2)], []) : AV × List Blk)) (spec_TangentsFrom L a b_0 b_1) := by
  intro oa ca x_a a hx_a b_0 b_1
  subst hx_a
  unfold spec_TangentsFrom
  conv => lhs; whnf
  refine t_call (h_spec_bdGood _ _ _ a (by first | rfl | (simp only [ml]; done) | (simp only [ml]; rfl))) fun r => ?_
  conv => lhs; whnf
  refine t_cond ?_ ?_
  · conv => lhs; whnf
    exact t_ret (by first | rfl | (simp only [ml]; done) | (simp only [ml]; rfl))
  · conv => lhs; whnf
    refine t_call (h_spec_pgIs b_0 b_1) fun r1 => ?_
    conv => lhs; whnf
    refine t_cond ?_ ?_
    · conv => lhs; whnf
      exact t_ret (by first | rfl | (simp only [ml]; done) | (simp only [ml]; rfl))
    · conv => lhs; whnf
      refine t_call (h_spec_bdBand _ _ _ a (by first | rfl | (simp only [ml]; done) | (simp only [ml]; rfl))) fun r2 => ?_
      conv => lhs; whnf
      refine t_cond ?_ ?_
      · conv => lhs; whnf
        exact t_ret (by first | rfl | (simp only [ml]; done) | (simp only [ml]; rfl))
      · conv => lhs; whnf
        refine t_call (h_spec_bdIn _ _ _ r2 (by first | rfl | (simp only [ml]; done) | (simp only [ml]; rfl)) b_0 b_1) fun r3 => ?_
        conv => lhs; whnf
        refine t_cond ?_ ?_
        · conv => lhs; whnf
          exact t_ret (by first | rfl | (simp only [ml]; done) | (simp only [ml]; rfl))
        · conv => lhs; whnf
          refine t_call (h_spec_bdTangent _ _ _ r2 (by first | rfl | (simp only [ml]; done) | (simp only [ml]; rfl)) b_0 b_1 (-1)) fun r4 => ?_
          conv => lhs; whnf
          refine t_call (h_spec_bdTangent _ _ _ r2 (by first | rfl | (simp only [ml]; done) | (simp only [ml]; rfl)) b_0 b_1 1) fun r5 => ?_
          conv => lhs; whnf
          exact t_ret (by first | rfl | (simp only [ml]; done) | (simp only [ml]; rfl))


noncomputable def impl_AreDifferent_l0 (L : Nat) (a : List Pt) : Nat → Int → Option Bool
  | 0, _ => none
  | m + 1, v16 => bif ilt v16 (ilen (List.map ep a)) then (gbind (lget a v16) fun p => bif ile 0 v16 && ile v16 (ilen (List.map ep a)) then (gbind (slices_Contains_impl_Peg_impl_Peg L (lsub a 0 v16) (Pt.x p) (Pt.y p)) fun r2 => bif r2 then (some false) else (impl_AreDifferent_l0 L a m (wr IntKind.i64 (iadd v16 1)))) else (none)) else (some true)


noncomputable def impl_AreDifferent (L : Nat) (a : List Pt) : Option (Bool) := gbind (impl_within L (ilen (List.map ep a)) 1 30) fun r => bif !r then (some false) else (gbind (impl_arePegs L a) fun r1 => bif !r1 then (some false) else (impl_AreDifferent_l0 L a L 0))


def impl_AreDifferent_ok (L : Nat) (C : CF) : Prop := ∀ (oa : Bool) (ca : Bool) (x_a : List AV) (a : List Pt) (_ : x_a = List.map ep a), C 66 ([.lst oa ca 2 x_a]) ([]) = Option.map (fun r : Bool => ((.bool r, []) : AV × List Blk)) (impl_AreDifferent L a)


theorem impl_AreDifferent_run (L : Nat) (C : CF) (h_impl_within : impl_within_ok L C) (h_impl_arePegs : impl_arePegs_ok L C) (h_slices_Contains_impl_Peg_impl_Peg : slices_Contains_impl_Peg_impl_Peg_ok L C) : ∀ (oa : Bool) (ca : Bool) (x_a : List AV) (a : List Pt) (_ : x_a = List.map ep a), run T C sh (keep 66) L Try.f66 ([.lst oa ca 2 x_a]) ([]) = Option.map (fun r : Bool => ((.bool r, []) : AV × List Blk)) (impl_AreDifferent L a) := by
  intro oa ca x_a a hx_a
  subst hx_a
  unfold impl_AreDifferent
  conv => lhs; whnf
  refine t_call (h_impl_within (ilen (List.map ep a)) 1 30) fun r => ?_
  conv => lhs; whnf
  refine t_cond ?_ ?_
  · conv => lhs; whnf
    exact t_ret (by first | rfl | (simp only [ml]; done) | (simp only [ml]; rfl))
  · conv => lhs; whnf
    refine t_call (h_impl_arePegs _ _ _ a (by first | rfl | (simp only [ml]; done) | (simp only [ml]; rfl))) fun r1 => ?_
    conv => lhs; whnf
    refine t_cond ?_ ?_
    · conv => lhs; whnf
      exact t_ret (by first | rfl | (simp only [ml]; done) | (simp only [ml]; rfl))
    · conv => lhs; whnf
      refine t_loop (fun (v16 : Int) => (AV.lst oa ca 2 (List.map ep a) :: topA 13 (AV.lst oa ca 2 (List.map ep a) :: AV.int IntKind.i64 (ilen (List.map ep a)) :: AV.int IntKind.i64 v16 :: tops 10), [])) (fun m (v16 : Int) => impl_AreDifferent_l0 L a m v16) (fun _ => rfl) (fun m v16 rec hrec => ?_) L 0 ?_ ?_
      rotate_left
      · first | rfl | (simp only [ml]; done) | (simp only [ml]; rfl)
      · first | rfl | (simp only [ml]; done) | (simp only [ml]; rfl)
      show _ = Option.map _ (impl_AreDifferent_l0 L a (m + 1) v16)
      rw [impl_AreDifferent_l0.eq_2]
      conv => lhs; whnf
      refine t_cond ?_ ?_
      · conv => lhs; whnf
        refine t_get (en := ep) (l := a) (by first | rfl | (simp only [ml]; done) | (simp only [ml]; rfl)) fun p => ?_
        conv => lhs; whnf
        refine t_cond ?_ ?_
        · conv => lhs; whnf
          refine t_call (h_slices_Contains_impl_Peg_impl_Peg _ _ _ (lsub a 0 v16) (by first | rfl | (simp only [ml]; done) | (simp only [ml]; rfl)) (Pt.x p) (Pt.y p)) fun r2 => ?_
          conv => lhs; whnf
          refine t_cond ?_ ?_
          · conv => lhs; whnf
            exact t_ret (by first | rfl | (simp only [ml]; done) | (simp only [ml]; rfl))
          · conv => lhs; whnf
            exact hrec (wr IntKind.i64 (iadd v16 1)) _ _ (by first | rfl | (simp only [ml]; done) | (simp only [ml]; rfl)) (by first | rfl | (simp only [ml]; done) | (simp only [ml]; rfl))
        · conv => lhs; whnf
          exact t_none
      · conv => lhs; whnf
        exact t_ret (by first | rfl | (simp only [ml]; done) | (simp only [ml]; rfl))


noncomputable def impl_chain_l1 (L : Nat) (κ0 : Int → Int → (List Pt) → Int → Int → (List Pt) → Option ((List Pt))) (v3o : Int) (v7 : List Pt) (v8 : Int) (v9 : Int) (w0 : List Pt) (p : Pt) : Nat → Int → Option ((List Pt))
  | 0, _ => none
  | m1 + 1, v3n1 => bif ilt 1 v3n1 then (bif ile 0 (wr IntKind.i64 (isub v3n1 2)) && ilt (wr IntKind.i64 (isub v3n1 2)) v3n1 then (gbind (lget w0 (iadd v3o (wr IntKind.i64 (isub v3n1 2)))) fun p1 => bif ile 0 (wr IntKind.i64 (isub v3n1 1)) && ilt (wr IntKind.i64 (isub v3n1 1)) v3n1 then (gbind (lget w0 (iadd v3o (wr IntKind.i64 (isub v3n1 1)))) fun p2 => gbind (impl_turn L (Pt.x p1) (Pt.y p1) (Pt.x p2) (Pt.y p2) (Pt.x p) (Pt.y p)) fun r => bif ile r 0 then (bif !false && ile 0 (wr IntKind.i64 (isub v3n1 1)) && ile (iadd v3o (wr IntKind.i64 (isub v3n1 1))) (ilen (List.map ep w0)) then (impl_chain_l1 L κ0 v3o v7 v8 v9 w0 p m1 (wr IntKind.i64 (isub v3n1 1))) else (none)) else (bif fits (iadd v3n1 (ilen [AV.agg [AV.int IntKind.i64 (Pt.x p), AV.int IntKind.i64 (Pt.y p)]])) 16 then (bif ieq (iadd v3o v3n1) (ilen (List.map ep w0)) then (κ0 0 (ilen (lcat (lsub (List.map ep w0) v3o (iadd v3o v3n1)) [AV.agg [AV.int IntKind.i64 (Pt.x p), AV.int IntKind.i64 (Pt.y p)]])) v7 v8 (wr IntKind.i64 (iadd v9 1)) (lcat (lsub w0 v3o (iadd v3o v3n1)) (p :: []))) else (bif ile (iadd (iadd v3o v3n1) (ilen [AV.agg [AV.int IntKind.i64 (Pt.x p), AV.int IntKind.i64 (Pt.y p)]])) (ilen (List.map ep w0)) then (κ0 v3o (iadd v3n1 (ilen [AV.agg [AV.int IntKind.i64 (Pt.x p), AV.int IntKind.i64 (Pt.y p)]])) v7 v8 (wr IntKind.i64 (iadd v9 1)) (lcat (lcat (lsub w0 0 (iadd v3o v3n1)) (p :: [])) (lsub w0 (iadd (iadd v3o v3n1) (ilen [AV.agg [AV.int IntKind.i64 (Pt.x p), AV.int IntKind.i64 (Pt.y p)]])) (ilen (List.map ep w0))))) else (none))) else (none))) else (none)) else (none)) else (bif fits (iadd v3n1 (ilen [AV.agg [AV.int IntKind.i64 (Pt.x p), AV.int IntKind.i64 (Pt.y p)]])) 16 then (bif ieq (iadd v3o v3n1) (ilen (List.map ep w0)) then (κ0 0 (ilen (lcat (lsub (List.map ep w0) v3o (iadd v3o v3n1)) [AV.agg [AV.int IntKind.i64 (Pt.x p), AV.int IntKind.i64 (Pt.y p)]])) v7 v8 (wr IntKind.i64 (iadd v9 1)) (lcat (lsub w0 v3o (iadd v3o v3n1)) (p :: []))) else (bif ile (iadd (iadd v3o v3n1) (ilen [AV.agg [AV.int IntKind.i64 (Pt.x p), AV.int IntKind.i64 (Pt.y p)]])) (ilen (List.map ep w0)) then (κ0 v3o (iadd v3n1 (ilen [AV.agg [AV.int IntKind.i64 (Pt.x p), AV.int IntKind.i64 (Pt.y p)]])) v7 v8 (wr IntKind.i64 (iadd v9 1)) (lcat (lcat (lsub w0 0 (iadd v3o v3n1)) (p :: [])) (lsub w0 (iadd (iadd v3o v3n1) (ilen [AV.agg [AV.int IntKind.i64 (Pt.x p), AV.int IntKind.i64 (Pt.y p)]])) (ilen (List.map ep w0))))) else (none))) else (none))


noncomputable def impl_chain_l0 (L : Nat) : Nat → Int → Int → (List Pt) → Int → Int → (List Pt) → Option ((List Pt))
  | 0, _, _, _, _, _, _ => none
  | m + 1, v3o, v3n, v7, v8, v9, w0 => bif ilt v9 v8 then (gbind (lget v7 v9) fun p => impl_chain_l1 L (impl_chain_l0 L m) v3o v7 v8 v9 w0 p L v3n) else (some (lsub w0 v3o (iadd v3o v3n)))


noncomputable def impl_chain (L : Nat) (a : List Pt) : Option ((List Pt)) := impl_chain_l0 L L 0 (ilen ([] : List AV)) a (ilen (List.map ep a)) 0 []


def impl_chain_ok (L : Nat) (C : CF) : Prop := ∀ (oa : Bool) (ca : Bool) (x_a : List AV) (a : List Pt) (_ : x_a = List.map ep a), C 117 ([.lst oa ca 2 x_a]) ([]) = Option.map (fun r : (List Pt) => ((.frs 2 (List.map ep r), []) : AV × List Blk)) (impl_chain L a)


theorem impl_chain_run (L : Nat) (C : CF) (h_impl_turn : impl_turn_ok L C) : ∀ (oa : Bool) (ca : Bool) (x_a : List AV) (a : List Pt) (_ : x_a = List.map ep a), run T C sh (keep 117) L Try.f117 ([.lst oa ca 2 x_a]) ([]) = Option.map (fun r : (List Pt) => ((.frs 2 (List.map ep r), []) : AV × List Blk)) (impl_chain L a) := by
  intro oa ca x_a a hx_a
  subst hx_a
  unfold impl_chain
  conv => lhs; whnf
  refine t_loop (fun (⟨v3o, v3n, v7, v8, v9, w0⟩ : Int × Int × (List Pt) × Int × Int × (List Pt)) => (topA 3 (AV.own 0 2 (some (v3o, v3n)) false :: topA 3 (AV.lst oa ca 2 (List.map ep v7) :: AV.int IntKind.i64 v8 :: AV.int IntKind.i64 v9 :: tops 34)), [Blk.rows Mode.live 2 (List.map ep w0)])) (fun m (⟨v3o, v3n, v7, v8, v9, w0⟩ : Int × Int × (List Pt) × Int × Int × (List Pt)) => impl_chain_l0 L m v3o v3n v7 v8 v9 w0) (fun _ => rfl) (fun m s rec hrec => ?_) L ((0, ilen ([] : List AV), a, ilen (List.map ep a), 0, [])) ?_ ?_
  rotate_left
  · first | rfl | (simp only [ml]; done) | (simp only [ml]; rfl)
  · first | rfl | (simp only [ml]; done) | (simp only [ml]; rfl)
  obtain ⟨v3o, v3n, v7, v8, v9, w0⟩ := s
  show _ = Option.map _ (impl_chain_l0 L (m + 1) v3o v3n v7 v8 v9 w0)
  rw [impl_chain_l0.eq_2]
  conv => lhs; whnf
  refine t_cond ?_ ?_
  · conv => lhs; whnf
    refine t_get (en := ep) (l := v7) (by first | rfl | (simp only [ml]; done) | (simp only [ml]; rfl)) fun p => ?_
    conv => lhs; whnf
    refine t_loop (fun (v3n1 : Int) => (topA 3 (AV.own 0 2 (some (v3o, v3n1)) false :: AV.top :: AV.ptr 1 0 0 2 :: AV.top :: AV.lst oa ca 2 (List.map ep v7) :: AV.int IntKind.i64 v8 :: AV.int IntKind.i64 v9 :: tops 34), [Blk.rows Mode.live 2 (List.map ep w0), Blk.box (AV.agg [AV.int IntKind.i64 (Pt.x p), AV.int IntKind.i64 (Pt.y p)])])) (fun m1 (v3n1 : Int) => impl_chain_l1 L (impl_chain_l0 L m) v3o v7 v8 v9 w0 p m1 v3n1) (fun _ => rfl) (fun m1 v3n1 rec1 hrec1 => ?_) L v3n ?_ ?_
    rotate_left
    · first | rfl | (simp only [ml]; done) | (simp only [ml]; rfl)
    · first | rfl | (simp only [ml]; done) | (simp only [ml]; rfl)
    show _ = Option.map _ (impl_chain_l1 L (impl_chain_l0 L m) v3o v7 v8 v9 w0 p (m1 + 1) v3n1)
    rw [impl_chain_l1.eq_2]
    conv => lhs; whnf
    refine t_cond ?_ ?_
    · conv => lhs; whnf
      refine t_cond ?_ ?_
      · conv => lhs; whnf
        refine t_get (en := ep) (l := w0) (by first | rfl | (simp only [ml]; done) | (simp only [ml]; rfl)) fun p1 => ?_
        conv => lhs; whnf
        refine t_cond ?_ ?_
        · conv => lhs; whnf
          refine t_get (en := ep) (l := w0) (by first | rfl | (simp only [ml]; done) | (simp only [ml]; rfl)) fun p2 => ?_
          conv => lhs; whnf
          refine t_call (h_impl_turn (Pt.x p1) (Pt.y p1) (Pt.x p2) (Pt.y p2) (Pt.x p) (Pt.y p)) fun r => ?_
          conv => lhs; whnf
          refine t_cond ?_ ?_
          · conv => lhs; whnf
            refine t_cond ?_ ?_
            · conv => lhs; whnf
              exact hrec1 (wr IntKind.i64 (isub v3n1 1)) _ _ (by first | rfl | (simp only [ml]; done) | (simp only [ml]; rfl)) (by first | rfl | (simp only [ml]; done) | (simp only [ml]; rfl))
            · conv => lhs; whnf
              exact t_none
          · conv => lhs; whnf
            refine t_cond ?_ ?_
            · conv => lhs; whnf
              refine t_cond ?_ ?_
              · conv => lhs; whnf
                exact hrec ((0, ilen (lcat (lsub (List.map ep w0) v3o (iadd v3o v3n1)) [AV.agg [AV.int IntKind.i64 (Pt.x p), AV.int IntKind.i64 (Pt.y p)]]), v7, v8, wr IntKind.i64 (iadd v9 1), lcat (lsub w0 v3o (iadd v3o v3n1)) (p :: []))) _ _ (by first | rfl | (simp only [ml]; done) | (simp only [ml]; rfl)) (by first | rfl | (simp only [ml]; done) | (simp only [ml]; rfl))
              · conv => lhs; whnf
                refine t_cond ?_ ?_
                · conv => lhs; whnf
                  exact hrec ((v3o, iadd v3n1 (ilen [AV.agg [AV.int IntKind.i64 (Pt.x p), AV.int IntKind.i64 (Pt.y p)]]), v7, v8, wr IntKind.i64 (iadd v9 1), lcat (lcat (lsub w0 0 (iadd v3o v3n1)) (p :: [])) (lsub w0 (iadd (iadd v3o v3n1) (ilen [AV.agg [AV.int IntKind.i64 (Pt.x p), AV.int IntKind.i64 (Pt.y p)]])) (ilen (List.map ep w0))))) _ _ (by first | rfl | (simp only [ml]; done) | (simp only [ml]; rfl)) (by first | rfl | (simp only [ml]; done) | (simp only [ml]; rfl))
                · conv => lhs; whnf
                  exact t_none
            · conv => lhs; whnf
              exact t_none
        · conv => lhs; whnf
          exact t_none
      · conv => lhs; whnf
        exact t_none
    · conv => lhs; whnf
      refine t_cond ?_ ?_
      · conv => lhs; whnf
        refine t_cond ?_ ?_
        · conv => lhs; whnf
          exact hrec ((0, ilen (lcat (lsub (List.map ep w0) v3o (iadd v3o v3n1)) [AV.agg [AV.int IntKind.i64 (Pt.x p), AV.int IntKind.i64 (Pt.y p)]]), v7, v8, wr IntKind.i64 (iadd v9 1), lcat (lsub w0 v3o (iadd v3o v3n1)) (p :: []))) _ _ (by first | rfl | (simp only [ml]; done) | (simp only [ml]; rfl)) (by first | rfl | (simp only [ml]; done) | (simp only [ml]; rfl))
        · conv => lhs; whnf
          refine t_cond ?_ ?_
          · conv => lhs; whnf
            exact hrec ((v3o, iadd v3n1 (ilen [AV.agg [AV.int IntKind.i64 (Pt.x p), AV.int IntKind.i64 (Pt.y p)]]), v7, v8, wr IntKind.i64 (iadd v9 1), lcat (lcat (lsub w0 0 (iadd v3o v3n1)) (p :: [])) (lsub w0 (iadd (iadd v3o v3n1) (ilen [AV.agg [AV.int IntKind.i64 (Pt.x p), AV.int IntKind.i64 (Pt.y p)]])) (ilen (List.map ep w0))))) _ _ (by first | rfl | (simp only [ml]; done) | (simp only [ml]; rfl)) (by first | rfl | (simp only [ml]; done) | (simp only [ml]; rfl))
          · conv => lhs; whnf
            exact t_none
      · conv => lhs; whnf
        exact t_none
  · conv => lhs; whnf
    exact t_ret (by first | rfl | (simp only [ml]; done) | (simp only [ml]; rfl))


noncomputable def slices_Reverse_impl_Peg_impl_Peg_l0 (L : Nat) : Nat → Int → Int → (List Pt) → Option ((List Pt))
  | 0, _, _, _ => none
  | m + 1, v2, v3, w0 => bif ilt v2 v3 then (bif ile 0 v3 && ilt v3 (ilen (List.map ep w0)) then (gbind (lget w0 v3) fun p => bif ile 0 v2 && ilt v2 (ilen (List.map ep w0)) then (gbind (lget w0 v2) fun p1 => bif ile 0 v2 && ilt v2 (ilen (List.map ep w0)) then (gbind (lget w0 v2) fun p2 => bif ile 0 v3 && ilt v3 (ilen (lset (List.map ep w0) v2 (AV.agg [AV.int IntKind.i64 (Pt.x p), AV.int IntKind.i64 (Pt.y p)]))) then (gbind (lget (lset w0 v2 p) v3) fun p3 => slices_Reverse_impl_Peg_impl_Peg_l0 L m (wr IntKind.i64 (iadd v2 1)) (wr IntKind.i64 (isub v3 1)) (lset (lset w0 v2 p) v3 p1)) else (none)) else (none)) else (none)) else (none)) else (some w0)


noncomputable def slices_Reverse_impl_Peg_impl_Peg (L : Nat) (a : List Pt) : Option ((List Pt)) := slices_Reverse_impl_Peg_impl_Peg_l0 L L 0 (wr IntKind.i64 (isub (ilen (List.map ep a)) 1)) a


def slices_Reverse_impl_Peg_impl_Peg_ok (L : Nat) (C : CF) : Prop := ∀ (c1 : Bool) (x_a : List AV) (a : List Pt) (_ : x_a = List.map ep a), C 83 ([.own 0 2 none c1]) ([.rows .live 2 x_a]) = Option.map (fun r : (List Pt) => ((.tup [], [.rows .live 2 (List.map ep r)]) : AV × List Blk)) (slices_Reverse_impl_Peg_impl_Peg L a)


theorem slices_Reverse_impl_Peg_impl_Peg_run (L : Nat) (C : CF) : ∀ (c1 : Bool) (x_a : List AV) (a : List Pt) (_ : x_a = List.map ep a), run T C sh (keep 83) L Try.f83 ([.own 0 2 none c1]) ([.rows .live 2 x_a]) = Option.map (fun r : (List Pt) => ((.tup [], [.rows .live 2 (List.map ep r)]) : AV × List Blk)) (slices_Reverse_impl_Peg_impl_Peg L a) := by
  intro c1 x_a a hx_a
  subst hx_a
  unfold slices_Reverse_impl_Peg_impl_Peg
  conv => lhs; whnf
  refine t_loop (fun (⟨v2, v3, w0⟩ : Int × Int × (List Pt)) => (AV.own 0 2 none c1 :: AV.top :: AV.int IntKind.i64 v2 :: AV.int IntKind.i64 v3 :: tops 24, [Blk.rows Mode.live 2 (List.map ep w0)])) (fun m (⟨v2, v3, w0⟩ : Int × Int × (List Pt)) => slices_Reverse_impl_Peg_impl_Peg_l0 L m v2 v3 w0) (fun _ => rfl) (fun m s rec hrec => ?_) L ((0, wr IntKind.i64 (isub (ilen (List.map ep a)) 1), a)) ?_ ?_
  rotate_left
  · first | rfl | (simp only [ml]; done) | (simp only [ml]; rfl)
  · first | rfl | (simp only [ml]; done) | (simp only [ml]; rfl)
  obtain ⟨v2, v3, w0⟩ := s
  show _ = Option.map _ (slices_Reverse_impl_Peg_impl_Peg_l0 L (m + 1) v2 v3 w0)
  rw [slices_Reverse_impl_Peg_impl_Peg_l0.eq_2]
  conv => lhs; whnf
  refine t_cond ?_ ?_
  · conv => lhs; whnf
    refine t_cond ?_ ?_
    · conv => lhs; whnf
      refine t_get (en := ep) (l := w0) (by first | rfl | (simp only [ml]; done) | (simp only [ml]; rfl)) fun p => ?_
      conv => lhs; whnf
      refine t_cond ?_ ?_
      · conv => lhs; whnf
        refine t_get (en := ep) (l := w0) (by first | rfl | (simp only [ml]; done) | (simp only [ml]; rfl)) fun p1 => ?_
        conv => lhs; whnf
        refine t_cond ?_ ?_
        · conv => lhs; whnf
          refine t_get (en := ep) (l := w0) (by first | rfl | (simp only [ml]; done) | (simp only [ml]; rfl)) fun p2 => ?_
          conv => lhs; whnf
          refine t_cond ?_ ?_
          · conv => lhs; whnf
            refine t_get (en := ep) (l := lset w0 v2 p) (by first | rfl | (simp only [ml]; done) | (simp only [ml]; rfl)) fun p3 => ?_
            conv => lhs; whnf
            exact hrec ((wr IntKind.i64 (iadd v2 1), wr IntKind.i64 (isub v3 1), lset (lset w0 v2 p) v3 p1)) _ _ (by first | rfl | (simp only [ml]; done) | (simp only [ml]; rfl)) (by first | rfl | (simp only [ml]; done) | (simp only [ml]; rfl))
          · conv => lhs; whnf
            exact t_none
        · conv => lhs; whnf
          exact t_none
      · conv => lhs; whnf
        exact t_none
    · conv => lhs; whnf
      exact t_none
  · conv => lhs; whnf
    exact t_ret (by first | rfl | (simp only [ml]; done) | (simp only [ml]; rfl))


noncomputable def slices_Grow_impl_Peg_impl_Peg_v2 (L : Nat) (b : Int) : Option ((List Pt)) := bif ilt b 0 then (none) else (bif ilt 0 (wr IntKind.i64 (isub b (wr IntKind.i64 (isub 0 0)))) then (bif ieq 0 0 then (bif ilt 0 (wr IntKind.i64 (isub b (wr IntKind.i64 (isub 0 0)))) && fits (wr IntKind.i64 (isub b (wr IntKind.i64 (isub 0 0)))) 16 then (bif ile 0 0 && ile 0 (ilen (lrep (wr IntKind.i64 (isub b (wr IntKind.i64 (isub 0 0)))) (AV.agg [AV.int IntKind.i64 0, AV.int IntKind.i64 0]))) then (some (lsub (lrep (wr IntKind.i64 (isub b (wr IntKind.i64 (isub 0 0)))) ({ x := 0, y := 0 })) 0 (iadd 0 0))) else (none)) else (none)) else (none)) else (some []))


def slices_Grow_impl_Peg_impl_Peg_v2_ok (L : Nat) (C : CF) : Prop := ∀ (b : Int), C 161 ([.nil, (.int .i64 b)]) ([]) = Option.map (fun r : (List Pt) => ((.frs 2 (List.map ep r), []) : AV × List Blk)) (slices_Grow_impl_Peg_impl_Peg_v2 L b)


theorem slices_Grow_impl_Peg_impl_Peg_v2_run (L : Nat) (C : CF) : ∀ (b : Int), run T C sh (keep 161) L Try.f161 ([.nil, (.int .i64 b)]) ([]) = Option.map (fun r : (List Pt) => ((.frs 2 (List.map ep r), []) : AV × List Blk)) (slices_Grow_impl_Peg_impl_Peg_v2 L b) := by
  intro b
  unfold slices_Grow_impl_Peg_impl_Peg_v2
  conv => lhs; whnf
  refine t_cond ?_ ?_
  · conv => lhs; whnf
    exact t_none
  · conv => lhs; whnf
    refine t_cond ?_ ?_
    · conv => lhs; whnf
      refine t_cond ?_ ?_
      · conv => lhs; whnf
        refine t_cond ?_ ?_
        · conv => lhs; whnf
          refine t_cond ?_ ?_
          · conv => lhs; whnf
            exact t_ret (by first | rfl | (simp only [ml]; done) | (simp only [ml]; rfl))
          · conv => lhs; whnf
            exact t_none
        · conv => lhs; whnf
          exact t_none
      · conv => lhs; whnf
        exact t_none
    · conv => lhs; whnf
      exact t_ret (by first | rfl | (simp only [ml]; done) | (simp only [ml]; rfl))


noncomputable def slices_Concat_impl_Peg_impl_Peg_l1 (L : Nat) (a : List (List Pt)) : Nat → Int → (List Pt) → Option ((List Pt))
  | 0, _, _ => none
  | m1 + 1, v27, w0 => bif ilt v27 (ilen (List.map eLP a)) then (gbind (lget a v27) fun p1 => bif fits (iadd (ilen (List.map ep w0)) (ilen (List.map ep p1))) 16 then (slices_Concat_impl_Peg_impl_Peg_l1 L a m1 (wr IntKind.i64 (iadd v27 1)) (lcat w0 p1)) else (none)) else (some w0)


noncomputable def slices_Concat_impl_Peg_impl_Peg_l0 (L : Nat) (a : List (List Pt)) : Nat → Int → Int → Option ((List Pt))
  | 0, _, _ => none
  | m + 1, v3, v11 => bif ilt v11 (ilen (List.map eLP a)) then (gbind (lget a v11) fun p => bif ilt (wr IntKind.i64 (iadd v3 (ilen (List.map ep p)))) 0 then (none) else (slices_Concat_impl_Peg_impl_Peg_l0 L a m (wr IntKind.i64 (iadd v3 (ilen (List.map ep p)))) (wr IntKind.i64 (iadd v11 1)))) else (gbind (slices_Grow_impl_Peg_impl_Peg_v2 L v3) fun r => slices_Concat_impl_Peg_impl_Peg_l1 L a L 0 r)


noncomputable def slices_Concat_impl_Peg_impl_Peg (L : Nat) (a : List (List Pt)) : Option ((List Pt)) := slices_Concat_impl_Peg_impl_Peg_l0 L a L 0 0


def slices_Concat_impl_Peg_impl_Peg_ok (L : Nat) (C : CF) : Prop := ∀ (oa : Bool) (ca : Bool) (x_a : List AV) (a : List (List Pt)) (_ : x_a = List.map eLP a), C 118 ([.lst oa ca 1 x_a]) ([]) = Option.map (fun r : (List Pt) => ((.frs 2 (List.map ep r), []) : AV × List Blk)) (slices_Concat_impl_Peg_impl_Peg L a)


theorem slices_Concat_impl_Peg_impl_Peg_run (L : Nat) (C : CF) (h_slices_Grow_impl_Peg_impl_Peg_v2 : slices_Grow_impl_Peg_impl_Peg_v2_ok L C) : ∀ (oa : Bool) (ca : Bool) (x_a : List AV) (a : List (List Pt)) (_ : x_a = List.map eLP a), run T C sh (keep 118) L Try.f118 ([.lst oa ca 1 x_a]) ([]) = Option.map (fun r : (List Pt) => ((.frs 2 (List.map ep r), []) : AV × List Blk)) (slices_Concat_impl_Peg_impl_Peg L a) := by
  intro oa ca x_a a hx_a
  subst hx_a
  unfold slices_Concat_impl_Peg_impl_Peg
  conv => lhs; whnf
  refine t_loop (fun (⟨v3, v11⟩ : Int × Int) => (AV.lst oa ca 1 (List.map eLP a) :: topA 2 (AV.int IntKind.i64 v3 :: topA 5 (AV.lst oa ca 1 (List.map eLP a) :: AV.int IntKind.i64 (ilen (List.map eLP a)) :: AV.int IntKind.i64 v11 :: tops 24)), [])) (fun m (⟨v3, v11⟩ : Int × Int) => slices_Concat_impl_Peg_impl_Peg_l0 L a m v3 v11) (fun _ => rfl) (fun m s rec hrec => ?_) L ((0, 0)) ?_ ?_
  rotate_left
  · first | rfl | (simp only [ml]; done) | (simp only [ml]; rfl)
  · first | rfl | (simp only [ml]; done) | (simp only [ml]; rfl)
  obtain ⟨v3, v11⟩ := s
  show _ = Option.map _ (slices_Concat_impl_Peg_impl_Peg_l0 L a (m + 1) v3 v11)
  rw [slices_Concat_impl_Peg_impl_Peg_l0.eq_2]
  conv => lhs; whnf
  refine t_cond ?_ ?_
  · conv => lhs; whnf
    refine t_get (en := eLP) (l := a) (by first | rfl | (simp only [ml]; done) | (simp only [ml]; rfl)) fun p => ?_
    conv => lhs; whnf
    refine t_cond ?_ ?_
    · conv => lhs; whnf
      exact t_none
    · conv => lhs; whnf
      exact hrec ((wr IntKind.i64 (iadd v3 (ilen (List.map ep p))), wr IntKind.i64 (iadd v11 1))) _ _ (by first | rfl | (simp only [ml]; done) | (simp only [ml]; rfl)) (by first | rfl | (simp only [ml]; done) | (simp only [ml]; rfl))
  · conv => lhs; whnf
    refine t_call (h_slices_Grow_impl_Peg_impl_Peg_v2 v3) fun r => ?_
    conv => lhs; whnf
    refine t_loop (fun (⟨v27, w0⟩ : Int × (List Pt)) => (topA 6 (AV.own 0 2 none false :: topA 18 (AV.lst oa ca 1 (List.map eLP a) :: AV.int IntKind.i64 (ilen (List.map eLP a)) :: AV.int IntKind.i64 v27 :: tops 8)), [Blk.rows Mode.live 2 (List.map ep w0)])) (fun m1 (⟨v27, w0⟩ : Int × (List Pt)) => slices_Concat_impl_Peg_impl_Peg_l1 L a m1 v27 w0) (fun _ => rfl) (fun m1 s1 rec1 hrec1 => ?_) L ((0, r)) ?_ ?_
    rotate_left
    · first | rfl | (simp only [ml]; done) | (simp only [ml]; rfl)
    · first | rfl | (simp only [ml]; done) | (simp only [ml]; rfl)
    obtain ⟨v27, w0⟩ := s1
    show _ = Option.map _ (slices_Concat_impl_Peg_impl_Peg_l1 L a (m1 + 1) v27 w0)
    rw [slices_Concat_impl_Peg_impl_Peg_l1.eq_2]
    conv => lhs; whnf
    refine t_cond ?_ ?_
    · conv => lhs; whnf
      refine t_get (en := eLP) (l := a) (by first | rfl | (simp only [ml]; done) | (simp only [ml]; rfl)) fun p1 => ?_
      conv => lhs; whnf
      refine t_cond ?_ ?_
      · conv => lhs; whnf
        exact hrec1 ((wr IntKind.i64 (iadd v27 1), lcat w0 p1)) _ _ (by first | rfl | (simp only [ml]; done) | (simp only [ml]; rfl)) (by first | rfl | (simp only [ml]; done) | (simp only [ml]; rfl))
      · conv => lhs; whnf
        exact t_none
    · conv => lhs; whnf
      exact t_ret (by first | rfl | (simp only [ml]; done) | (simp only [ml]; rfl))


noncomputable def impl_band (L : Nat) (a : List Pt) : Option ((List Pt)) := gbind (impl_sorted L a) fun r => bif ieq (ilen (List.map ep r)) 1 then (some r) else (gbind (impl_chain L r) fun r1 => gbind (slices_Reverse_impl_Peg_impl_Peg L r) fun r2 => gbind (impl_chain L r2) fun r3 => bif ile 0 (wr IntKind.i64 (isub (ilen (List.map ep r1)) 1)) && ile (wr IntKind.i64 (isub (ilen (List.map ep r1)) 1)) (ilen (List.map ep r1)) then (bif ile 0 (wr IntKind.i64 (isub (ilen (List.map ep r3)) 1)) && ile (wr IntKind.i64 (isub (ilen (List.map ep r3)) 1)) (ilen (List.map ep r3)) then (gbind (slices_Concat_impl_Peg_impl_Peg L (lsub r1 0 (iadd 0 (wr IntKind.i64 (isub (ilen (List.map ep r1)) 1))) :: (lsub r3 0 (iadd 0 (wr IntKind.i64 (isub (ilen (List.map ep r3)) 1))) :: []))) fun r4 => some r4) else (none)) else (none))


def impl_band_ok (L : Nat) (C : CF) : Prop := ∀ (oa : Bool) (ca : Bool) (x_a : List AV) (a : List Pt) (_ : x_a = List.map ep a), C 68 ([.lst oa ca 2 x_a]) ([]) = Option.map (fun r : (List Pt) => ((.frs 2 (List.map ep r), []) : AV × List Blk)) (impl_band L a)


theorem impl_band_run (L : Nat) (C : CF) (h_impl_sorted : impl_sorted_ok L C) (h_impl_chain : impl_chain_ok L C) (h_slices_Reverse_impl_Peg_impl_Peg : slices_Reverse_impl_Peg_impl_Peg_ok L C) (h_slices_Concat_impl_Peg_impl_Peg : slices_Concat_impl_Peg_impl_Peg_ok L C) : ∀ (oa : Bool) (ca : Bool) (x_a : List AV) (a : List Pt) (_ : x_a = List.map ep a), run T C sh (keep 68) L Try.f68 ([.lst oa ca 2 x_a]) ([]) = Option.map (fun r : (List Pt) => ((.frs 2 (List.map ep r), []) : AV × List Blk)) (impl_band L a) := by
  intro oa ca x_a a hx_a
  subst hx_a
  unfold impl_band
  conv => lhs; whnf
  refine t_call (h_impl_sorted _ _ _ a (by first | rfl | (simp only [ml]; done) | (simp only [ml]; rfl))) fun r => ?_
  conv => lhs; whnf
  refine t_cond ?_ ?_
  · conv => lhs; whnf
    exact t_ret (by first | rfl | (simp only [ml]; done) | (simp only [ml]; rfl))
  · conv => lhs; whnf
    refine t_call (h_impl_chain _ _ _ r (by first | rfl | (simp only [ml]; done) | (simp only [ml]; rfl))) fun r1 => ?_
    conv => lhs; whnf
    refine t_call (h_slices_Reverse_impl_Peg_impl_Peg _ _ r (by first | rfl | (simp only [ml]; done) | (simp only [ml]; rfl))) fun r2 => ?_
    conv => lhs; whnf
    refine t_call (h_impl_chain _ _ _ r2 (by first | rfl | (simp only [ml]; done) | (simp only [ml]; rfl))) fun r3 => ?_
    conv => lhs; whnf
    refine t_cond ?_ ?_
    · conv => lhs; whnf
      refine t_cond ?_ ?_
      · conv => lhs; whnf
        refine t_call (h_slices_Concat_impl_Peg_impl_Peg _ _ _ (lsub r1 0 (iadd 0 (wr IntKind.i64 (isub (ilen (List.map ep r1)) 1))) :: (lsub r3 0 (iadd 0 (wr IntKind.i64 (isub (ilen (List.map ep r3)) 1))) :: [])) (by first | rfl | (simp only [ml]; done) | (simp only [ml]; rfl))) fun r4 => ?_
        conv => lhs; whnf
        exact t_ret (by first | rfl | (simp only [ml]; done) | (simp only [ml]; rfl))
      · conv => lhs; whnf
        exact t_none
    · conv => lhs; whnf
      exact t_none


noncomputable def impl_where_l0 (L : Nat) (a : List Pt) (b_0 : Int) (b_1 : Int) : Nat → Int → Int → Option Int
  | 0, _, _ => none
  | m + 1, v5, v11 => bif ilt v11 (ilen (List.map ep a)) then (gbind (lget a v11) fun p => gbind (impl_at L a (wr IntKind.i64 (iadd v11 1))) fun r => gbind (impl_isOn L (Pt.x p) (Pt.y p) (Prod.fst r) (Prod.snd r) b_0 b_1) fun r1 => bif r1 then (some 0) else (bif !beqb (ilt b_1 (Pt.y p)) (ilt b_1 (Prod.snd r)) then (gbind (impl_turn L (Pt.x p) (Pt.y p) (Prod.fst r) (Prod.snd r) b_0 b_1) fun r2 => bif beqb (ilt 0 r2) (ilt (Pt.y p) (Prod.snd r)) then (impl_where_l0 L a b_0 b_1 m (wr IntKind.i64 (isub 0 v5)) (wr IntKind.i64 (iadd v11 1))) else (impl_where_l0 L a b_0 b_1 m v5 (wr IntKind.i64 (iadd v11 1)))) else (impl_where_l0 L a b_0 b_1 m v5 (wr IntKind.i64 (iadd v11 1))))) else (some v5)


noncomputable def impl_where (L : Nat) (a : List Pt) (b_0 : Int) (b_1 : Int) : Option (Int) := impl_where_l0 L a b_0 b_1 L (-1) 0


def impl_where_ok (L : Nat) (C : CF) : Prop := ∀ (oa : Bool) (ca : Bool) (x_a : List AV) (a : List Pt) (_ : x_a = List.map ep a) (b_0 : Int) (b_1 : Int), C 69 ([.lst oa ca 2 x_a, .agg [.int .i64 b_0, .int .i64 b_1]]) ([]) = Option.map (fun r : Int => ((.int .i64 r, []) : AV × List Blk)) (impl_where L a b_0 b_1)


theorem impl_where_run (L : Nat) (C : CF) (h_impl_at : impl_at_ok L C) (h_impl_turn : impl_turn_ok L C) (h_impl_isOn : impl_isOn_ok L C) : ∀ (oa : Bool) (ca : Bool) (x_a : List AV) (a : List Pt) (_ : x_a = List.map ep a) (b_0 : Int) (b_1 : Int), run T C sh (keep 69) L Try.f69 ([.lst oa ca 2 x_a, .agg [.int .i64 b_0, .int .i64 b_1]]) ([]) = Option.map (fun r : Int => ((.int .i64 r, []) : AV × List Blk)) (impl_where L a b_0 b_1) := by
  intro oa ca x_a a hx_a b_0 b_1
  subst hx_a
  unfold impl_where
  conv => lhs; whnf
  refine t_loop (fun (⟨v5, v11⟩ : Int × Int) => (AV.lst oa ca 2 (List.map ep a) :: topA 2 (AV.ptr 0 0 0 2 :: AV.top :: AV.int IntKind.i64 v5 :: topA 3 (AV.lst oa ca 2 (List.map ep a) :: AV.int IntKind.i64 (ilen (List.map ep a)) :: AV.int IntKind.i64 v11 :: tops 40)), [Blk.box (AV.agg [AV.int IntKind.i64 b_0, AV.int IntKind.i64 b_1])])) (fun m (⟨v5, v11⟩ : Int × Int) => impl_where_l0 L a b_0 b_1 m v5 v11) (fun _ => rfl) (fun m s rec hrec => ?_) L ((-1, 0)) ?_ ?_
  rotate_left
  · first | rfl | (simp only [ml]; done) | (simp only [ml]; rfl)
  · first | rfl | (simp only [ml]; done) | (simp only [ml]; rfl)
  obtain ⟨v5, v11⟩ := s
  show _ = Option.map _ (impl_where_l0 L a b_0 b_1 (m + 1) v5 v11)
  rw [impl_where_l0.eq_2]
  conv => lhs; whnf
  refine t_cond ?_ ?_
  · conv => lhs; whnf
    refine t_get (en := ep) (l := a) (by first | rfl | (simp only [ml]; done) | (simp only [ml]; rfl)) fun p => ?_
    conv => lhs; whnf
    refine t_call (h_impl_at _ _ _ a (by first | rfl | (simp only [ml]; done) | (simp only [ml]; rfl)) (wr IntKind.i64 (iadd v11 1))) fun r => ?_
    conv => lhs; whnf
    refine t_call (h_impl_isOn (Pt.x p) (Pt.y p) (Prod.fst r) (Prod.snd r) b_0 b_1) fun r1 => ?_
    conv => lhs; whnf
    refine t_cond ?_ ?_
    · conv => lhs; whnf
      exact t_ret (by first | rfl | (simp only [ml]; done) | (simp only [ml]; rfl))
    · conv => lhs; whnf
      refine t_cond ?_ ?_
      · conv => lhs; whnf
        refine t_call (h_impl_turn (Pt.x p) (Pt.y p) (Prod.fst r) (Prod.snd r) b_0 b_1) fun r2 => ?_
        conv => lhs; whnf
        refine t_cond ?_ ?_
        · conv => lhs; whnf
          exact hrec ((wr IntKind.i64 (isub 0 v5), wr IntKind.i64 (iadd v11 1))) _ _ (by first | rfl | (simp only [ml]; done) | (simp only [ml]; rfl)) (by first | rfl | (simp only [ml]; done) | (simp only [ml]; rfl))
        · conv => lhs; whnf
          exact hrec ((v5, wr IntKind.i64 (iadd v11 1))) _ _ (by first | rfl | (simp only [ml]; done) | (simp only [ml]; rfl)) (by first | rfl | (simp only [ml]; done) | (simp only [ml]; rfl))
      · conv => lhs; whnf
        exact hrec ((v5, wr IntKind.i64 (iadd v11 1))) _ _ (by first | rfl | (simp only [ml]; done) | (simp only [ml]; rfl)) (by first | rfl | (simp only [ml]; done) | (simp only [ml]; rfl))
  · conv => lhs; whnf
    exact t_ret (by first | rfl | (simp only [ml]; done) | (simp only [ml]; rfl))


noncomputable def impl_Peg_square (L : Nat) (a_0 : Int) (a_1 : Int) : Option (Int) := some (wr IntKind.i64 (iadd (wr IntKind.i64 (imul a_0 a_0)) (wr IntKind.i64 (imul a_1 a_1))))


def impl_Peg_square_ok (L : Nat) (C : CF) : Prop := ∀ (a_0 : Int) (a_1 : Int), C 82 ([.agg [.int .i64 a_0, .int .i64 a_1]]) ([]) = Option.map (fun r : Int => ((.int .i64 r, []) : AV × List Blk)) (impl_Peg_square L a_0 a_1)


theorem impl_Peg_square_run (L : Nat) (C : CF) : ∀ (a_0 : Int) (a_1 : Int), run T C sh (keep 82) L Try.f82 ([.agg [.int .i64 a_0, .int .i64 a_1]]) ([]) = Option.map (fun r : Int => ((.int .i64 r, []) : AV × List Blk)) (impl_Peg_square L a_0 a_1) := by
  intro a_0 a_1
  unfold impl_Peg_square
  conv => lhs; whnf
  exact t_ret (by first | rfl | (simp only [ml]; done) | (simp only [ml]; rfl))


noncomputable def impl_tangent_l0 (L : Nat) (a : List Pt) (b_0 : Int) (b_1 : Int) (c : Int) : Nat → Int → Int → Int → Option (Int × Int)
  | 0, _, _, _ => none
  | m + 1, v17, b2_0, b2_1 => bif ilt v17 (ilen (lsub (List.map ep a) 1 (ilen (List.map ep a)))) then (gbind (lget (lsub a 1 (ilen (List.map ep a))) v17) fun p1 => gbind (impl_turn L b_0 b_1 b2_0 b2_1 (Pt.x p1) (Pt.y p1)) fun r => bif ilt 0 (wr IntKind.i64 (imul c r)) then (impl_tangent_l0 L a b_0 b_1 c m (wr IntKind.i64 (iadd v17 1)) (Pt.x p1) (Pt.y p1)) else (bif ieq (wr IntKind.i64 (imul c r)) 0 then (gbind (impl_Peg_less L (Pt.x p1) (Pt.y p1) b_0 b_1) fun r1 => gbind (impl_Peg_square L (Prod.fst r1) (Prod.snd r1)) fun r2 => gbind (impl_Peg_less L b2_0 b2_1 b_0 b_1) fun r3 => gbind (impl_Peg_square L (Prod.fst r3) (Prod.snd r3)) fun r4 => bif ilt r2 r4 then (impl_tangent_l0 L a b_0 b_1 c m (wr IntKind.i64 (iadd v17 1)) (Pt.x p1) (Pt.y p1)) else (impl_tangent_l0 L a b_0 b_1 c m (wr IntKind.i64 (iadd v17 1)) b2_0 b2_1)) else (impl_tangent_l0 L a b_0 b_1 c m (wr IntKind.i64 (iadd v17 1)) b2_0 b2_1))) else (some ((b2_0, b2_1)))


noncomputable def impl_tangent (L : Nat) (a : List Pt) (b_0 : Int) (b_1 : Int) (c : Int) : Option (Int × Int) := gbind (lget a 0) fun p => bif ile 0 1 && ile 1 (ilen (List.map ep a)) then (impl_tangent_l0 L a b_0 b_1 c L 0 (Pt.x p) (Pt.y p)) else (none)


def impl_tangent_ok (L : Nat) (C : CF) : Prop := ∀ (oa : Bool) (ca : Bool) (x_a : List AV) (a : List Pt) (_ : x_a = List.map ep a) (b_0 : Int) (b_1 : Int) (c : Int), C 70 ([.lst oa ca 2 x_a, .agg [.int .i64 b_0, .int .i64 b_1], .int .i64 c]) ([]) = Option.map (fun r : Int × Int => ((.agg [.int .i64 (r.1), .int .i64 (r.2)], []) : AV × List Blk)) (impl_tangent L a b_0 b_1 c)


theorem impl_tangent_run (L : Nat) (C : CF) (h_impl_Peg_less : impl_Peg_less_ok L C) (h_impl_turn : impl_turn_ok L C) (h_impl_Peg_square : impl_Peg_square_ok L C) : ∀ (oa : Bool) (ca : Bool) (x_a : List AV) (a : List Pt) (_ : x_a = List.map ep a) (b_0 : Int) (b_1 : Int) (c : Int), run T C sh (keep 70) L Try.f70 ([.lst oa ca 2 x_a, .agg [.int .i64 b_0, .int .i64 b_1], .int .i64 c]) ([]) = Option.map (fun r : Int × Int => ((.agg [.int .i64 (r.1), .int .i64 (r.2)], []) : AV × List Blk)) (impl_tangent L a b_0 b_1 c) := by
  intro oa ca x_a a hx_a b_0 b_1 c
  subst hx_a
  unfold impl_tangent
  conv => lhs; whnf
  refine t_get (en := ep) (l := a) (by first | rfl | (simp only [ml]; done) | (simp only [ml]; rfl)) fun p => ?_
  conv => lhs; whnf
  refine t_cond ?_ ?_
  · conv => lhs; whnf
    refine t_loop (fun (⟨v17, b2_0, b2_1⟩ : Int × Int × Int) => (topA 2 (AV.int IntKind.i64 c :: AV.top :: AV.ptr 0 0 0 2 :: AV.top :: AV.ptr 1 0 0 2 :: AV.ptr 2 0 0 2 :: topA 7 (AV.lst oa ca 2 (lsub (List.map ep a) 1 (ilen (List.map ep a))) :: AV.int IntKind.i64 (ilen (lsub (List.map ep a) 1 (ilen (List.map ep a)))) :: AV.int IntKind.i64 v17 :: tops 29)), [Blk.box (AV.agg [AV.int IntKind.i64 b_0, AV.int IntKind.i64 b_1]), Blk.box (AV.agg [AV.int IntKind.i64 0, AV.int IntKind.i64 0]), Blk.box (AV.agg [AV.int IntKind.i64 b2_0, AV.int IntKind.i64 b2_1])])) (fun m (⟨v17, b2_0, b2_1⟩ : Int × Int × Int) => impl_tangent_l0 L a b_0 b_1 c m v17 b2_0 b2_1) (fun _ => rfl) (fun m s rec hrec => ?_) L ((0, Pt.x p, Pt.y p)) ?_ ?_
    rotate_left
    · first | rfl | (simp only [ml]; done) | (simp only [ml]; rfl)
    · first | rfl | (simp only [ml]; done) | (simp only [ml]; rfl)
    obtain ⟨v17, b2_0, b2_1⟩ := s
    show _ = Option.map _ (impl_tangent_l0 L a b_0 b_1 c (m + 1) v17 b2_0 b2_1)
    rw [impl_tangent_l0.eq_2]
    conv => lhs; whnf
    refine t_cond ?_ ?_
    · conv => lhs; whnf
      refine t_get (en := ep) (l := lsub a 1 (ilen (List.map ep a))) (by first | rfl | (simp only [ml]; done) | (simp only [ml]; rfl)) fun p1 => ?_
      conv => lhs; whnf
      refine t_call (h_impl_turn b_0 b_1 b2_0 b2_1 (Pt.x p1) (Pt.y p1)) fun r => ?_
      conv => lhs; whnf
      refine t_cond ?_ ?_
      · conv => lhs; whnf
        exact hrec ((wr IntKind.i64 (iadd v17 1), Pt.x p1, Pt.y p1)) _ _ (by first | rfl | (simp only [ml]; done) | (simp only [ml]; rfl)) (by first | rfl | (simp only [ml]; done) | (simp only [ml]; rfl))
      · conv => lhs; whnf
        refine t_cond ?_ ?_
        · conv => lhs; whnf
          refine t_call (h_impl_Peg_less (Pt.x p1) (Pt.y p1) b_0 b_1) fun r1 => ?_
          conv => lhs; whnf
          refine t_call (h_impl_Peg_square (Prod.fst r1) (Prod.snd r1)) fun r2 => ?_
          conv => lhs; whnf
          refine t_call (h_impl_Peg_less b2_0 b2_1 b_0 b_1) fun r3 => ?_
          conv => lhs; whnf
          refine t_call (h_impl_Peg_square (Prod.fst r3) (Prod.snd r3)) fun r4 => ?_
          conv => lhs; whnf
          refine t_cond ?_ ?_
          · conv => lhs; whnf
            exact hrec ((wr IntKind.i64 (iadd v17 1), Pt.x p1, Pt.y p1)) _ _ (by first | rfl | (simp only [ml]; done) | (simp only [ml]; rfl)) (by first | rfl | (simp only [ml]; done) | (simp only [ml]; rfl))
          · conv => lhs; whnf
            exact hrec ((wr IntKind.i64 (iadd v17 1), b2_0, b2_1)) _ _ (by first | rfl | (simp only [ml]; done) | (simp only [ml]; rfl)) (by first | rfl | (simp only [ml]; done) | (simp only [ml]; rfl))
        · conv => lhs; whnf
          exact hrec ((wr IntKind.i64 (iadd v17 1), b2_0, b2_1)) _ _ (by first | rfl | (simp only [ml]; done) | (simp only [ml]; rfl)) (by first | rfl | (simp only [ml]; done) | (simp only [ml]; rfl))
    · conv => lhs; whnf
      exact t_ret (by first | rfl | (simp only [ml]; done) | (simp only [ml]; rfl))
  · conv => lhs; whnf
    exact t_none


noncomputable def impl_TangentsFrom (L : Nat) (a : List Pt) (b_0 : Int) (b_1 : Int) : Option (Int × Int × Int × Int × Bool) := gbind (impl_AreDifferent L a) fun r => bif !r then (some ((0, 0, 0, 0, false))) else (gbind (impl_IsPeg L b_0 b_1) fun r1 => bif !r1 then (some ((0, 0, 0, 0, false))) else (gbind (impl_band L a) fun r2 => bif ilt (ilen (List.map ep r2)) 3 then (some ((0, 0, 0, 0, false))) else (gbind (impl_where L r2 b_0 b_1) fun r3 => bif ile 0 r3 then (some ((0, 0, 0, 0, false))) else (gbind (impl_tangent L r2 b_0 b_1 (-1)) fun r4 => gbind (impl_tangent L r2 b_0 b_1 1) fun r5 => some ((Prod.fst r4, Prod.snd r4, Prod.fst r5, Prod.snd r5, true))))))


def impl_TangentsFrom_ok (L : Nat) (C : CF) : Prop := ∀ (oa : Bool) (ca : Bool) (x_a : List AV) (a : List Pt) (_ : x_a = List.map ep a) (b_0 : Int) (b_1 : Int), C 22 ([.lst oa ca 2 x_a, .agg [.int .i64 b_0, .int .i64 b_1]]) ([]) = Option.map (fun r : Int × Int × Int × Int × Bool => ((.tup [.agg [.int .i64 (r.1), .int .i64 (r.2.1)], .agg [.int .i64 (r.2.2.1), .int .i64 (r.2.2.2.1)], .bool (r.2.2.2.2)], []) : AV × List Blk)) (impl_TangentsFrom L a b_0 b_1)


theorem impl_TangentsFrom_run (L : Nat) (C : CF) (h_impl_IsPeg : impl_IsPeg_ok L C) (h_impl_AreDifferent : impl_AreDifferent_ok L C) (h_impl_band : impl_band_ok L C) (h_impl_where : impl_where_ok L C) (h_impl_tangent : impl_tangent_ok L C) : ∀ (oa : Bool) (ca : Bool) (x_a : List AV) (a : List Pt) (_ : x_a = List.map ep a) (b_0 : Int) (b_1 : Int), run T C sh (keep 22) L Try.f22 ([.lst oa ca 2 x_a, .agg [.int .i64 b_0, .int .i64 b_1]]) ([]) = Option.map (fun r : Int × Int × Int × Int × Bool => ((.tup [.agg [.int .i64 (r.1), .int .i64 (r.2.1)], .agg [.int .i64 (r.2.2.1), .int .i64 (r.2.2.2.1)], .bool (r.2.2.2.2)], []) : AV × List Blk)) (impl_TangentsFrom L a b_0 b_1) := by
  intro oa ca x_a a hx_a b_0 b_1
  subst hx_a
  unfold impl_TangentsFrom
  conv => lhs; whnf
  refine t_call (h_impl_AreDifferent _ _ _ a (by first | rfl | (simp only [ml]; done) | (simp only [ml]; rfl))) fun r => ?_
  conv => lhs; whnf
  refine t_cond ?_ ?_
  · conv => lhs; whnf
    exact t_ret (by first | rfl | (simp only [ml]; done) | (simp only [ml]; rfl))
  · conv => lhs; whnf
    refine t_call (h_impl_IsPeg b_0 b_1) fun r1 => ?_
    conv => lhs; whnf
    refine t_cond ?_ ?_
    · conv => lhs; whnf
      exact t_ret (by first | rfl | (simp only [ml]; done) | (simp only [ml]; rfl))
    · conv => lhs; whnf
      refine t_call (h_impl_band _ _ _ a (by first | rfl | (simp only [ml]; done) | (simp only [ml]; rfl))) fun r2 => ?_
      conv => lhs; whnf
      refine t_cond ?_ ?_
      · conv => lhs; whnf
        exact t_ret (by first | rfl | (simp only [ml]; done) | (simp only [ml]; rfl))
      · conv => lhs; whnf
        refine t_call (h_impl_where _ _ _ r2 (by first | rfl | (simp only [ml]; done) | (simp only [ml]; rfl)) b_0 b_1) fun r3 => ?_
        conv => lhs; whnf
        refine t_cond ?_ ?_
        · conv => lhs; whnf
          exact t_ret (by first | rfl | (simp only [ml]; done) | (simp only [ml]; rfl))
        · conv => lhs; whnf
          refine t_call (h_impl_tangent _ _ _ r2 (by first | rfl | (simp only [ml]; done) | (simp only [ml]; rfl)) b_0 b_1 (-1)) fun r4 => ?_
          conv => lhs; whnf
          refine t_call (h_impl_tangent _ _ _ r2 (by first | rfl | (simp only [ml]; done) | (simp only [ml]; rfl)) b_0 b_1 1) fun r5 => ?_
          conv => lhs; whnf
          exact t_ret (by first | rfl | (simp only [ml]; done) | (simp only [ml]; rfl))


noncomputable def laws_FnExactTangentsFrom (L : Nat) (a : List Pt) (b_0 : Int) (b_1 : Int) : Option (Bool) := gbind (laws_szPegS L a 1048576) fun r => bif ilt r 0 then (some true) else (gbind (laws_toPegS L a) fun r1 => gbind (laws_toPeg L b_0 b_1) fun r2 => gbind (spec_TangentsFrom L r1 (Prod.fst r2) (Prod.snd r2)) fun r3 => gbind (laws_toPegS L a) fun r4 => gbind (laws_toPeg L b_0 b_1) fun r5 => gbind (impl_TangentsFrom L r4 (Prod.fst r5) (Prod.snd r5)) fun r6 => gbind (laws_eqPeg L (Prod.fst r6) (Prod.fst (Prod.snd r6)) (Prod.fst r3) (Prod.fst (Prod.snd r3))) fun r7 => bif !r7 then (some false) else (gbind (laws_eqPeg L (Prod.fst (Prod.snd (Prod.snd r6))) (Prod.fst (Prod.snd (Prod.snd (Prod.snd r6)))) (Prod.fst (Prod.snd (Prod.snd r3))) (Prod.fst (Prod.snd (Prod.snd (Prod.snd r3))))) fun r8 => bif !r8 then (some false) else (bif !beqb (Prod.snd (Prod.snd (Prod.snd (Prod.snd r6)))) (Prod.snd (Prod.snd (Prod.snd (Prod.snd r3)))) then (some false) else (gbind (laws_toPegS L a) fun r9 => gbind (laws_eqPegS L r4 r9) fun r10 => bif !r10 then (some false) else (some true)))))


def laws_FnExactTangentsFrom_ok (L : Nat) (C : CF) : Prop := ∀ (oa : Bool) (ca : Bool) (x_a : List AV) (a : List Pt) (_ : x_a = List.map ep a) (b_0 : Int) (b_1 : Int), C 4 ([.lst oa ca 2 x_a, .agg [.int .i64 b_0, .int .i64 b_1]]) ([]) = Option.map (fun r : Bool => ((.bool r, []) : AV × List Blk)) (laws_FnExactTangentsFrom L a b_0 b_1)


theorem laws_FnExactTangentsFrom_run (L : Nat) (C : CF) (h_laws_szPegS : laws_szPegS_ok L C) (h_laws_toPeg : laws_toPeg_ok L C) (h_laws_toPegS : laws_toPegS_ok L C) (h_laws_eqPeg : laws_eqPeg_ok L C) (h_laws_eqPegS : laws_eqPegS_ok L C) (h_spec_TangentsFrom : spec_TangentsFrom_ok L C) (h_impl_TangentsFrom : impl_TangentsFrom_ok L C) : ∀ (oa : Bool) (ca : Bool) (x_a : List AV) (a : List Pt) (_ : x_a = List.map ep a) (b_0 : Int) (b_1 : Int), run T C sh (keep 4) L Try.f4 ([.lst oa ca 2 x_a, .agg [.int .i64 b_0, .int .i64 b_1]]) ([]) = Option.map (fun r : Bool => ((.bool r, []) : AV × List Blk)) (laws_FnExactTangentsFrom L a b_0 b_1) := by
  intro oa ca x_a a hx_a b_0 b_1
  subst hx_a
  unfold laws_FnExactTangentsFrom
  conv => lhs; whnf
  refine t_call (h_laws_szPegS _ _ _ a (by first | rfl | (simp only [ml]; done) | (simp only [ml]; rfl)) 1048576) fun r => ?_
  conv => lhs; whnf
  refine t_cond ?_ ?_
  · conv => lhs; whnf
    exact t_ret (by first | rfl | (simp only [ml]; done) | (simp only [ml]; rfl))
  · conv => lhs; whnf
    refine t_call (h_laws_toPegS _ _ _ a (by first | rfl | (simp only [ml]; done) | (simp only [ml]; rfl))) fun r1 => ?_
    conv => lhs; whnf
    refine t_call (h_laws_toPeg b_0 b_1) fun r2 => ?_
    conv => lhs; whnf
    refine t_call (h_spec_TangentsFrom _ _ _ r1 (by first | rfl | (simp only [ml]; done) | (simp only [ml]; rfl)) (Prod.fst r2) (Prod.snd r2)) fun r3 => ?_
    conv => lhs; whnf
    refine t_call (h_laws_toPegS _ _ _ a (by first | rfl | (simp only [ml]; done) | (simp only [ml]; rfl))) fun r4 => ?_
    conv => lhs; whnf
    refine t_call (h_laws_toPeg b_0 b_1) fun r5 => ?_
    conv => lhs; whnf
    refine t_call (h_impl_TangentsFrom _ _ _ r4 (by first | rfl | (simp only [ml]; done) | (simp only [ml]; rfl)) (Prod.fst r5) (Prod.snd r5)) fun r6 => ?_
    conv => lhs; whnf
    refine t_call (h_laws_eqPeg (Prod.fst r6) (Prod.fst (Prod.snd r6)) (Prod.fst r3) (Prod.fst (Prod.snd r3))) fun r7 => ?_
    conv => lhs; whnf
    refine t_cond ?_ ?_
    · conv => lhs; whnf
      exact t_ret (by first | rfl | (simp only [ml]; done) | (simp only [ml]; rfl))
    · conv => lhs; whnf
      refine t_call (h_laws_eqPeg (Prod.fst (Prod.snd (Prod.snd r6))) (Prod.fst (Prod.snd (Prod.snd (Prod.snd r6)))) (Prod.fst (Prod.snd (Prod.snd r3))) (Prod.fst (Prod.snd (Prod.snd (Prod.snd r3))))) fun r8 => ?_
      conv => lhs; whnf
      refine t_cond ?_ ?_
      · conv => lhs; whnf
        exact t_ret (by first | rfl | (simp only [ml]; done) | (simp only [ml]; rfl))
      · conv => lhs; whnf
        refine t_cond ?_ ?_
        · conv => lhs; whnf
          exact t_ret (by first | rfl | (simp only [ml]; done) | (simp only [ml]; rfl))
        · conv => lhs; whnf
          refine t_call (h_laws_toPegS _ _ _ a (by first | rfl | (simp only [ml]; done) | (simp only [ml]; rfl))) fun r9 => ?_
          conv => lhs; whnf
          refine t_call (h_laws_eqPegS _ _ _ r4 (by first | rfl | (simp only [ml]; done) | (simp only [ml]; rfl)) _ _ _ r9 (by first | rfl | (simp only [ml]; done) | (simp only [ml]; rfl))) fun r10 => ?_
          conv => lhs; whnf
          refine t_cond ?_ ?_
          · conv => lhs; whnf
            exact t_ret (by first | rfl | (simp only [ml]; done) | (simp only [ml]; rfl))
          · conv => lhs; whnf
            exact t_ret (by first | rfl | (simp only [ml]; done) | (simp only [ml]; rfl))


noncomputable def impl_bandWhere (L : Nat) (a : List Pt) (b_0 : Int) (b_1 : Int) : Option (Int) := bif ieq (ilen (List.map ep a)) 1 then (gbind (lget a 0) fun p => bif ieq b_0 (Pt.x p) && ieq b_1 (Pt.y p) then (some 0) else (bif ieq (ilen (List.map ep a)) 1 then (some (-1)) else (gbind (impl_where L a b_0 b_1) fun r => some r))) else (bif ieq (ilen (List.map ep a)) 1 then (some (-1)) else (gbind (impl_where L a b_0 b_1) fun r1 => some r1))


def impl_bandWhere_ok (L : Nat) (C : CF) : Prop := ∀ (oa : Bool) (ca : Bool) (x_a : List AV) (a : List Pt) (_ : x_a = List.map ep a) (b_0 : Int) (b_1 : Int), C 126 ([.lst oa ca 2 x_a, .agg [.int .i64 b_0, .int .i64 b_1]]) ([]) = Option.map (fun r : Int => ((.int .i64 r, []) : AV × List Blk)) (impl_bandWhere L a b_0 b_1)


theorem impl_bandWhere_run (L : Nat) (C : CF) (h_impl_where : impl_where_ok L C) : ∀ (oa : Bool) (ca : Bool) (x_a : List AV) (a : List Pt) (_ : x_a = List.map ep a) (b_0 : Int) (b_1 : Int), run T C sh (keep 126) L Try.f126 ([.lst oa ca 2 x_a, .agg [.int .i64 b_0, .int .i64 b_1]]) ([]) = Option.map (fun r : Int => ((.int .i64 r, []) : AV × List Blk)) (impl_bandWhere L a b_0 b_1) := by
  intro oa ca x_a a hx_a b_0 b_1
  subst hx_a
  unfold impl_bandWhere
  conv => lhs; whnf
  refine t_cond ?_ ?_
  · conv => lhs; whnf
    refine t_get (en := ep) (l := a) (by first | rfl | (simp only [ml]; done) | (simp only [ml]; rfl)) fun p => ?_
    conv => lhs; whnf
    refine t_cond ?_ ?_
    · conv => lhs; whnf
      exact t_ret (by first | rfl | (simp only [ml]; done) | (simp only [ml]; rfl))
    · conv => lhs; whnf
      refine t_cond ?_ ?_
      · conv => lhs; whnf
        exact t_ret (by first | rfl | (simp only [ml]; done) | (simp only [ml]; rfl))
      · conv => lhs; whnf
        refine t_call (h_impl_where _ _ _ a (by first | rfl | (simp only [ml]; done) | (simp only [ml]; rfl)) b_0 b_1) fun r => ?_
        conv => lhs; whnf
        exact t_ret (by first | rfl | (simp only [ml]; done) | (simp only [ml]; rfl))
  · conv => lhs; whnf
    refine t_cond ?_ ?_
    · conv => lhs; whnf
      exact t_ret (by first | rfl | (simp only [ml]; done) | (simp only [ml]; rfl))
    · conv => lhs; whnf
      refine t_call (h_impl_where _ _ _ a (by first | rfl | (simp only [ml]; done) | (simp only [ml]; rfl)) b_0 b_1) fun r1 => ?_
      conv => lhs; whnf
      exact t_ret (by first | rfl | (simp only [ml]; done) | (simp only [ml]; rfl))



end Go.AM
