import Derived.Test.YtnhlmmnaanallaaAmSeat
set_option linter.unusedVariables false
set_option linter.unusedSimpArgs false
set_option linter.unnecessarySimpa false
set_option linter.deprecated false
set_option linter.unusedSectionVars false
open Go Go.AM Go.Proofs
namespace Go.AM
set_option maxRecDepth 40000
set_option maxHeartbeats 2000000
set_option linter.unusedVariables false
noncomputable def laws_szPegS (L : Nat) (a : List Pt) (b : Int) : Option (Int) := bif ilt (wr IntKind.i64 (isub b (ilen (List.map ep a)))) 0 then (some (-1)) else (some (wr IntKind.i64 (isub b (ilen (List.map ep a)))))


def laws_szPegS_ok (L : Nat) (C : CF) : Prop := ∀ (oa : Bool) (ca : Bool) (x_a : List AV) (a : List Pt) (_ : x_a = List.map ep a) (b : Int), C 15 ([.lst oa ca 2 x_a, .int .i64 b]) ([]) = Option.map (fun r : Int => ((.int .i64 r, []) : AV × List Blk)) (laws_szPegS L a b)


theorem laws_szPegS_run (L : Nat) (C : CF) : ∀ (oa : Bool) (ca : Bool) (x_a : List AV) (a : List Pt) (_ : x_a = List.map ep a) (b : Int), run T C sh (keep 15) L Try.f15 ([.lst oa ca 2 x_a, .int .i64 b]) ([]) = Option.map (fun r : Int => ((.int .i64 r, []) : AV × List Blk)) (laws_szPegS L a b) := by
  intro oa ca x_a a hx_a b
  subst hx_a
  unfold laws_szPegS
  conv => lhs; whnf
  refine t_cond ?_ ?_
  · conv => lhs; whnf
    exact t_ret (by first | rfl | (simp only [ml]; done) | (simp only [ml]; rfl))
  · conv => lhs; whnf
    exact t_ret (by first | rfl | (simp only [ml]; done) | (simp only [ml]; rfl))


noncomputable def laws_toPeg (L : Nat) (a_0 : Int) (a_1 : Int) : Option (Int × Int) := some ((a_0, a_1))


def laws_toPeg_ok (L : Nat) (C : CF) : Prop := ∀ (a_0 : Int) (a_1 : Int), C 21 ([.agg [.int .i64 a_0, .int .i64 a_1]]) ([]) = Option.map (fun r : Int × Int => ((.agg [.int .i64 (r.1), .int .i64 (r.2)], []) : AV × List Blk)) (laws_toPeg L a_0 a_1)


theorem laws_toPeg_run (L : Nat) (C : CF) : ∀ (a_0 : Int) (a_1 : Int), run T C sh (keep 21) L Try.f21 ([.agg [.int .i64 a_0, .int .i64 a_1]]) ([]) = Option.map (fun r : Int × Int => ((.agg [.int .i64 (r.1), .int .i64 (r.2)], []) : AV × List Blk)) (laws_toPeg L a_0 a_1) := by
  intro a_0 a_1
  unfold laws_toPeg
  conv => lhs; whnf
  exact t_ret (by first | rfl | (simp only [ml]; done) | (simp only [ml]; rfl))


noncomputable def laws_toPegS_l0 (L : Nat) (a : List Pt) : Nat → Int → (List Pt) → Option ((List Pt))
  | 0, _, _ => none
  | m + 1, v4, w0 => bif ilt v4 (ilen (List.map ep a)) then (gbind (lget a v4) fun p => gbind (laws_toPeg L (Pt.x p) (Pt.y p)) fun r => bif ile 0 v4 && ilt v4 (ilen (List.map ep w0)) then (gbind (lget w0 v4) fun p1 => laws_toPegS_l0 L a m (wr IntKind.i64 (iadd v4 1)) (lset w0 v4 ({ x := Prod.fst r, y := Prod.snd r }))) else (none)) else (some w0)


noncomputable def laws_toPegS (L : Nat) (a : List Pt) : Option ((List Pt)) := bif ile 0 (ilen (List.map ep a)) && ile (ilen (List.map ep a)) (ilen (List.map ep a)) && fits (ilen (List.map ep a)) 16 then (laws_toPegS_l0 L a L 0 (lrep (ilen (List.map ep a)) ({ x := 0, y := 0 }))) else (none)


def laws_toPegS_ok (L : Nat) (C : CF) : Prop := ∀ (oa : Bool) (ca : Bool) (x_a : List AV) (a : List Pt) (_ : x_a = List.map ep a), C 17 ([.lst oa ca 2 x_a]) ([]) = Option.map (fun r : (List Pt) => ((.frs 2 (List.map ep r), []) : AV × List Blk)) (laws_toPegS L a)


theorem laws_toPegS_run (L : Nat) (C : CF) (h_laws_toPeg : laws_toPeg_ok L C) : ∀ (oa : Bool) (ca : Bool) (x_a : List AV) (a : List Pt) (_ : x_a = List.map ep a), run T C sh (keep 17) L Try.f17 ([.lst oa ca 2 x_a]) ([]) = Option.map (fun r : (List Pt) => ((.frs 2 (List.map ep r), []) : AV × List Blk)) (laws_toPegS L a) := by
  intro oa ca x_a a hx_a
  subst hx_a
  unfold laws_toPegS
  conv => lhs; whnf
  refine t_cond ?_ ?_
  · conv => lhs; whnf
    refine t_loop (fun (⟨v4, w0⟩ : Int × (List Pt)) => (AV.lst oa ca 2 (List.map ep a) :: topA 2 (AV.own 0 2 none false :: AV.int IntKind.i64 v4 :: tops 18), [Blk.rows Mode.live 2 (List.map ep w0)])) (fun m (⟨v4, w0⟩ : Int × (List Pt)) => laws_toPegS_l0 L a m v4 w0) (fun _ => rfl) (fun m s rec hrec => ?_) L ((0, lrep (ilen (List.map ep a)) ({ x := 0, y := 0 }))) ?_ ?_
    rotate_left
    · first | rfl | (simp only [ml]; done) | (simp only [ml]; rfl)
    · first | rfl | (simp only [ml]; done) | (simp only [ml]; rfl)
    obtain ⟨v4, w0⟩ := s
    show _ = Option.map _ (laws_toPegS_l0 L a (m + 1) v4 w0)
    rw [laws_toPegS_l0.eq_2]
    conv => lhs; whnf
    refine t_cond ?_ ?_
    · conv => lhs; whnf
      refine t_get (en := ep) (l := a) (by first | rfl | (simp only [ml]; done) | (simp only [ml]; rfl)) fun p => ?_
      conv => lhs; whnf
      refine t_call (h_laws_toPeg (Pt.x p) (Pt.y p)) fun r => ?_
      conv => lhs; whnf
      refine t_cond ?_ ?_
      · conv => lhs; whnf
        refine t_get (en := ep) (l := w0) (by first | rfl | (simp only [ml]; done) | (simp only [ml]; rfl)) fun p1 => ?_
        conv => lhs; whnf
        exact hrec ((wr IntKind.i64 (iadd v4 1), lset w0 v4 ({ x := Prod.fst r, y := Prod.snd r }))) _ _ (by first | rfl | (simp only [ml]; done) | (simp only [ml]; rfl)) (by first | rfl | (simp only [ml]; done) | (simp only [ml]; rfl))
      · conv => lhs; whnf
        exact t_none
    · conv => lhs; whnf
      exact t_ret (by first | rfl | (simp only [ml]; done) | (simp only [ml]; rfl))
  · conv => lhs; whnf
    exact t_none


noncomputable def spec_l1In (L : Nat) (a : Int) (b : Int) (c : Int) : Option (Bool) := bif ile b a then (some (ile a c)) else (some false)


def spec_l1In_ok (L : Nat) (C : CF) : Prop := ∀ (a : Int) (b : Int) (c : Int), C 56 ([.int .i64 a, .int .i64 b, .int .i64 c]) ([]) = Option.map (fun r : Bool => ((.bool r, []) : AV × List Blk)) (spec_l1In L a b c)


theorem spec_l1In_run (L : Nat) (C : CF) : ∀ (a : Int) (b : Int) (c : Int), run T C sh (keep 56) L Try.f56 ([.int .i64 a, .int .i64 b, .int .i64 c]) ([]) = Option.map (fun r : Bool => ((.bool r, []) : AV × List Blk)) (spec_l1In L a b c) := by
  intro a b c
  unfold spec_l1In
  conv => lhs; whnf
  refine t_cond ?_ ?_
  · conv => lhs; whnf
    exact t_ret (by first | rfl | (simp only [ml]; done) | (simp only [ml]; rfl))
  · conv => lhs; whnf
    exact t_ret (by first | rfl | (simp only [ml]; done) | (simp only [ml]; rfl))


noncomputable def spec_pgIs (L : Nat) (a_0 : Int) (a_1 : Int) : Option (Bool) := gbind (spec_l1In L a_0 (-40) 40) fun r => bif r then (gbind (spec_l1In L a_1 (-40) 40) fun r1 => some r1) else (some false)


def spec_pgIs_ok (L : Nat) (C : CF) : Prop := ∀ (a_0 : Int) (a_1 : Int), C 62 ([.agg [.int .i64 a_0, .int .i64 a_1]]) ([]) = Option.map (fun r : Bool => ((.bool r, []) : AV × List Blk)) (spec_pgIs L a_0 a_1)


theorem spec_pgIs_run (L : Nat) (C : CF) (h_spec_l1In : spec_l1In_ok L C) : ∀ (a_0 : Int) (a_1 : Int), run T C sh (keep 62) L Try.f62 ([.agg [.int .i64 a_0, .int .i64 a_1]]) ([]) = Option.map (fun r : Bool => ((.bool r, []) : AV × List Blk)) (spec_pgIs L a_0 a_1) := by
  intro a_0 a_1
  unfold spec_pgIs
  conv => lhs; whnf
  refine t_call (h_spec_l1In a_0 (-40) 40) fun r => ?_
  conv => lhs; whnf
  refine t_cond ?_ ?_
  · conv => lhs; whnf
    refine t_call (h_spec_l1In a_1 (-40) 40) fun r1 => ?_
    conv => lhs; whnf
    exact t_ret (by first | rfl | (simp only [ml]; done) | (simp only [ml]; rfl))
  · conv => lhs; whnf
    exact t_ret (by first | rfl | (simp only [ml]; done) | (simp only [ml]; rfl))


noncomputable def spec_pgTurn (L : Nat) (a_0 : Int) (a_1 : Int) (b_0 : Int) (b_1 : Int) (c_0 : Int) (c_1 : Int) : Option (Int) := some (wr IntKind.i64 (isub (wr IntKind.i64 (imul (wr IntKind.i64 (isub b_0 a_0)) (wr IntKind.i64 (isub c_1 a_1)))) (wr IntKind.i64 (imul (wr IntKind.i64 (isub b_1 a_1)) (wr IntKind.i64 (isub c_0 a_0))))))


def spec_pgTurn_ok (L : Nat) (C : CF) : Prop := ∀ (a_0 : Int) (a_1 : Int) (b_0 : Int) (b_1 : Int) (c_0 : Int) (c_1 : Int), C 72 ([.agg [.int .i64 a_0, .int .i64 a_1], .agg [.int .i64 b_0, .int .i64 b_1], .agg [.int .i64 c_0, .int .i64 c_1]]) ([]) = Option.map (fun r : Int => ((.int .i64 r, []) : AV × List Blk)) (spec_pgTurn L a_0 a_1 b_0 b_1 c_0 c_1)


theorem spec_pgTurn_run (L : Nat) (C : CF) : ∀ (a_0 : Int) (a_1 : Int) (b_0 : Int) (b_1 : Int) (c_0 : Int) (c_1 : Int), run T C sh (keep 72) L Try.f72 ([.agg [.int .i64 a_0, .int .i64 a_1], .agg [.int .i64 b_0, .int .i64 b_1], .agg [.int .i64 c_0, .int .i64 c_1]]) ([]) = Option.map (fun r : Int => ((.int .i64 r, []) : AV × List Blk)) (spec_pgTurn L a_0 a_1 b_0 b_1 c_0 c_1) := by
  intro a_0 a_1 b_0 b_1 c_0 c_1
  unfold spec_pgTurn
  conv => lhs; whnf
  exact t_ret (by first | rfl | (simp only [ml]; done) | (simp only [ml]; rfl))


noncomputable def spec_pgOn (L : Nat) (a_0 : Int) (a_1 : Int) (b_0 : Int) (b_1 : Int) (c_0 : Int) (c_1 : Int) : Option (Bool) := gbind (spec_pgTurn L a_0 a_1 b_0 b_1 c_0 c_1) fun r => bif ieq r 0 then (bif ile (wr IntKind.i64 (imul (wr IntKind.i64 (isub a_0 c_0)) (wr IntKind.i64 (isub b_0 c_0)))) 0 then (some (ile (wr IntKind.i64 (imul (wr IntKind.i64 (isub a_1 c_1)) (wr IntKind.i64 (isub b_1 c_1)))) 0)) else (some false)) else (some false)


def spec_pgOn_ok (L : Nat) (C : CF) : Prop := ∀ (a_0 : Int) (a_1 : Int) (b_0 : Int) (b_1 : Int) (c_0 : Int) (c_1 : Int), C 156 ([.agg [.int .i64 a_0, .int .i64 a_1], .agg [.int .i64 b_0, .int .i64 b_1], .agg [.int .i64 c_0, .int .i64 c_1]]) ([]) = Option.map (fun r : Bool => ((.bool r, []) : AV × List Blk)) (spec_pgOn L a_0 a_1 b_0 b_1 c_0 c_1)


theorem spec_pgOn_run (L : Nat) (C : CF) (h_spec_pgTurn : spec_pgTurn_ok L C) : ∀ (a_0 : Int) (a_1 : Int) (b_0 : Int) (b_1 : Int) (c_0 : Int) (c_1 : Int), run T C sh (keep 156) L Try.f156 ([.agg [.int .i64 a_0, .int .i64 a_1], .agg [.int .i64 b_0, .int .i64 b_1], .agg [.int .i64 c_0, .int .i64 c_1]]) ([]) = Option.map (fun r : Bool => ((.bool r, []) : AV × List Blk)) (spec_pgOn L a_0 a_1 b_0 b_1 c_0 c_1) := by
  intro a_0 a_1 b_0 b_1 c_0 c_1
  unfold spec_pgOn
  conv => lhs; whnf
  refine t_call (h_spec_pgTurn a_0 a_1 b_0 b_1 c_0 c_1) fun r => ?_
  conv => lhs; whnf
  refine t_cond ?_ ?_
  · conv => lhs; whnf
    refine t_cond ?_ ?_
    · conv => lhs; whnf
      exact t_ret (by first | rfl | (simp only [ml]; done) | (simp only [ml]; rfl))
    · conv => lhs; whnf
      exact t_ret (by first | rfl | (simp only [ml]; done) | (simp only [ml]; rfl))
  · conv => lhs; whnf
    exact t_ret (by first | rfl | (simp only [ml]; done) | (simp only [ml]; rfl))


noncomputable def spec_l1Sign (L : Nat) (a : Int) : Option (Int) := bif ilt 0 a then (some 1) else (bif ilt a 0 then (some (-1)) else (some 0))


def spec_l1Sign_ok (L : Nat) (C : CF) : Prop := ∀ (a : Int), C 157 ([.int .i64 a]) ([]) = Option.map (fun r : Int => ((.int .i64 r, []) : AV × List Blk)) (spec_l1Sign L a)


theorem spec_l1Sign_run (L : Nat) (C : CF) : ∀ (a : Int), run T C sh (keep 157) L Try.f157 ([.int .i64 a]) ([]) = Option.map (fun r : Int => ((.int .i64 r, []) : AV × List Blk)) (spec_l1Sign L a) := by
  intro a
  unfold spec_l1Sign
  conv => lhs; whnf
  refine t_cond ?_ ?_
  · conv => lhs; whnf
    exact t_ret (by first | rfl | (simp only [ml]; done) | (simp only [ml]; rfl))
  · conv => lhs; whnf
    refine t_cond ?_ ?_
    · conv => lhs; whnf
      exact t_ret (by first | rfl | (simp only [ml]; done) | (simp only [ml]; rfl))
    · conv => lhs; whnf
      exact t_ret (by first | rfl | (simp only [ml]; done) | (simp only [ml]; rfl))


noncomputable def spec_pgMeet (L : Nat) (a_0 : Int) (a_1 : Int) (b_0 : Int) (b_1 : Int) (c_0 : Int) (c_1 : Int) (d_0 : Int) (d_1 : Int) : Option (Bool) := gbind (spec_pgOn L a_0 a_1 b_0 b_1 c_0 c_1) fun r => bif r then (some true) else (gbind (spec_pgOn L a_0 a_1 b_0 b_1 d_0 d_1) fun r1 => bif r1 then (some true) else (gbind (spec_pgOn L c_0 c_1 d_0 d_1 a_0 a_1) fun r2 => bif r2 then (some true) else (gbind (spec_pgOn L c_0 c_1 d_0 d_1 b_0 b_1) fun r3 => bif r3 then (some true) else (gbind (spec_pgTurn L a_0 a_1 b_0 b_1 c_0 c_1) fun r4 => gbind (spec_l1Sign L r4) fun r5 => gbind (spec_pgTurn L a_0 a_1 b_0 b_1 d_0 d_1) fun r6 => gbind (spec_l1Sign L r6) fun r7 => bif ilt (wr IntKind.i64 (imul r5 r7)) 0 then (gbind (spec_pgTurn L c_0 c_1 d_0 d_1 a_0 a_1) fun r8 => gbind (spec_l1Sign L r8) fun r9 => gbind (spec_pgTurn L c_0 c_1 d_0 d_1 b_0 b_1) fun r10 => gbind (spec_l1Sign L r10) fun r11 => some (ilt (wr IntKind.i64 (imul r9 r11)) 0)) else (some false)))))


def spec_pgMeet_ok (L : Nat) (C : CF) : Prop := ∀ (a_0 : Int) (a_1 : Int) (b_0 : Int) (b_1 : Int) (c_0 : Int) (c_1 : Int) (d_0 : Int) (d_1 : Int), C 107 ([.agg [.int .i64 a_0, .int .i64 a_1], .agg [.int .i64 b_0, .int .i64 b_1], .agg [.int .i64 c_0, .int .i64 c_1], .agg [.int .i64 d_0, .int .i64 d_1]]) ([]) = Option.map (fun r : Bool => ((.bool r, []) : AV × List Blk)) (spec_pgMeet L a_0 a_1 b_0 b_1 c_0 c_1 d_0 d_1)


theorem spec_pgMeet_run (L : Nat) (C : CF) (h_spec_pgTurn : spec_pgTurn_ok L C) (h_spec_pgOn : spec_pgOn_ok L C) (h_spec_l1Sign : spec_l1Sign_ok L C) : ∀ (a_0 : Int) (a_1 : Int) (b_0 : Int) (b_1 : Int) (c_0 : Int) (c_1 : Int) (d_0 : Int) (d_1 : Int), run T C sh (keep 107) L Try.f107 ([.agg [.int .i64 a_0, .int .i64 a_1], .agg [.int .i64 b_0, .int .i64 b_1], .agg [.int .i64 c_0, .int .i64 c_1], .agg [.int .i64 d_0, .int .i64 d_1]]) ([]) = Option.map (fun r : Bool => ((.bool r, []) : AV × List Blk)) (spec_pgMeet L a_0 a_1 b_0 b_1 c_0 c_1 d_0 d_1) := by
  intro a_0 a_1 b_0 b_1 c_0 c_1 d_0 d_1
  unfold spec_pgMeet
  conv => lhs; whnf
  refine t_call (h_spec_pgOn a_0 a_1 b_0 b_1 c_0 c_1) fun r => ?_
  conv => lhs; whnf
  refine t_cond ?_ ?_
  · conv => lhs; whnf
    exact t_ret (by first | rfl | (simp only [ml]; done) | (simp only [ml]; rfl))
  · conv => lhs; whnf
    refine t_call (h_spec_pgOn a_0 a_1 b_0 b_1 d_0 d_1) fun r1 => ?_
    conv => lhs; whnf
    refine t_cond ?_ ?_
    · conv => lhs; whnf
      exact t_ret (by first | rfl | (simp only [ml]; done) | (simp only [ml]; rfl))
    · conv => lhs; whnf
      refine t_call (h_spec_pgOn c_0 c_1 d_0 d_1 a_0 a_1) fun r2 => ?_
      conv => lhs; whnf
      refine t_cond ?_ ?_
      · conv => lhs; whnf
        exact t_ret (by first | rfl | (simp only [ml]; done) | (simp only [ml]; rfl))
      · conv => lhs; whnf
        refine t_call (h_spec_pgOn c_0 c_1 d_0 d_1 b_0 b_1) fun r3 => ?_
        conv => lhs; whnf
        refine t_cond ?_ ?_
        · conv => lhs; whnf
          exact t_ret (by first | rfl | (simp only [ml]; done) | (simp only [ml]; rfl))
        · conv => lhs; whnf
          refine t_call (h_spec_pgTurn a_0 a_1 b_0 b_1 c_0 c_1) fun r4 => ?_
          conv => lhs; whnf
          refine t_call (h_spec_l1Sign r4) fun r5 => ?_
          conv => lhs; whnf
          refine t_call (h_spec_pgTurn a_0 a_1 b_0 b_1 d_0 d_1) fun r6 => ?_
          conv => lhs; whnf
          refine t_call (h_spec_l1Sign r6) fun r7 => ?_
          conv => lhs; whnf
          refine t_cond ?_ ?_
          · conv => lhs; whnf
            refine t_call (h_spec_pgTurn c_0 c_1 d_0 d_1 a_0 a_1) fun r8 => ?_
            conv => lhs; whnf
            refine t_call (h_spec_l1Sign r8) fun r9 => ?_
            conv => lhs; whnf
            refine t_call (h_spec_pgTurn c_0 c_1 d_0 d_1 b_0 b_1) fun r10 => ?_
            conv => lhs; whnf
            refine t_call (h_spec_l1Sign r10) fun r11 => ?_
            conv => lhs; whnf
            exact t_ret (by first | rfl | (simp only [ml]; done) | (simp only [ml]; rfl))
          · conv => lhs; whnf
            exact t_ret (by first | rfl | (simp only [ml]; done) | (simp only [ml]; rfl))


noncomputable def spec_pgGood_l1 (L : Nat) (κ0 : (List Pt) → Int → (List Pt) → Int → Int → Option Bool) (v0 : List Pt) (v3 : Int) (v17 : List Pt) (v18 : Int) (v19 : Int) (p : Pt) : Nat → Int → Option Bool
  | 0, _ => none
  | m1 + 1, v31 => bif ilt v31 (ilen (lsub (List.map ep v0) 0 v19)) then (gbind (lget (lsub v0 0 v19) v31) fun p1 => bif ieq (Pt.x p) (Pt.x p1) && ieq (Pt.y p) (Pt.y p1) then (some false) else (spec_pgGood_l1 L κ0 v0 v3 v17 v18 v19 p m1 (wr IntKind.i64 (iadd v31 1)))) else (κ0 v0 v3 v17 v18 (wr IntKind.i64 (iadd v19 1)))


noncomputable def spec_pgGood_l3 (L : Nat) (κ1 : (List Pt) → Int → (List Pt) → Int → Int → Option Bool) (v01 : List Pt) (v32 : Int) (v40 : List Pt) (v41 : Int) (v42 : Int) (p2 : Pt) (p3 : Pt) : Nat → Int → Option Bool
  | 0, _ => none
  | m3 + 1, v11 => bif ilt v11 v32 then (bif ilt (wr IntKind.i64 (isub v11 v42)) (wr IntKind.i64 (isub v32 1)) then (gbind (lget v01 v11) fun p5 => bif ieq v32 0 then (none) else (gbind (lget v01 (irem (wr IntKind.i64 (iadd v11 1)) v32)) fun p6 => gbind (spec_pgMeet L (Pt.x p2) (Pt.y p2) (Pt.x p3) (Pt.y p3) (Pt.x p5) (Pt.y p5) (Pt.x p6) (Pt.y p6)) fun r3 => bif r3 then (some false) else (spec_pgGood_l3 L κ1 v01 v32 v40 v41 v42 p2 p3 m3 (wr IntKind.i64 (iadd v11 1))))) else (κ1 v01 v32 v40 v41 (wr IntKind.i64 (iadd v42 1)))) else (κ1 v01 v32 v40 v41 (wr IntKind.i64 (iadd v42 1)))


noncomputable def spec_pgGood_l2 (L : Nat) : Nat → (List Pt) → Int → (List Pt) → Int → Int → Option Bool
  | 0, _, _, _, _, _ => none
  | m2 + 1, v01, v32, v40, v41, v42 => bif ilt v42 v41 then (gbind (lget v40 v42) fun p2 => bif ieq v32 0 then (none) else (gbind (lget v01 (irem (wr IntKind.i64 (iadd v42 1)) v32)) fun p3 => bif ieq v32 0 then (none) else (gbind (lget v01 (irem (wr IntKind.i64 (iadd v42 2)) v32)) fun p4 => gbind (spec_pgTurn L (Pt.x p2) (Pt.y p2) (Pt.x p3) (Pt.y p3) (Pt.x p4) (Pt.y p4)) fun r2 => bif ieq r2 0 then (some false) else (spec_pgGood_l3 L (spec_pgGood_l2 L m2) v01 v32 v40 v41 v42 p2 p3 L (wr IntKind.i64 (iadd v42 2)))))) else (some true)


noncomputable def spec_pgGood_l0 (L : Nat) : Nat → (List Pt) → Int → (List Pt) → Int → Int → Option Bool
  | 0, _, _, _, _, _ => none
  | m + 1, v0, v3, v17, v18, v19 => bif ilt v19 v18 then (gbind (lget v17 v19) fun p => gbind (spec_pgIs L (Pt.x p) (Pt.y p)) fun r1 => bif !r1 then (some false) else (bif ile 0 v19 && ile v19 (ilen (List.map ep v0)) then (spec_pgGood_l1 L (spec_pgGood_l0 L m) v0 v3 v17 v18 v19 p L 0) else (none))) else (spec_pgGood_l2 L L v0 v3 v0 (ilen (List.map ep v0)) 0)


noncomputable def spec_pgGood (L : Nat) (a : List Pt) : Option (Bool) := gbind (spec_l1In L (ilen (List.map ep a)) 3 10) fun r => bif !r then (some false) else (spec_pgGood_l0 L L a (ilen (List.map ep a)) a (ilen (List.map ep a)) 0)


def spec_pgGood_ok (L : Nat) (C : CF) : Prop := ∀ (oa : Bool) (ca : Bool) (x_a : List AV) (a : List Pt) (_ : x_a = List.map ep a), C 55 ([.lst oa ca 2 x_a]) ([]) = Option.map (fun r : Bool => ((.bool r, []) : AV × List Blk)) (spec_pgGood L a)


theorem spec_pgGood_run (L : Nat) (C : CF) (h_spec_l1In : spec_l1In_ok L C) (h_spec_pgIs : spec_pgIs_ok L C) (h_spec_pgTurn : spec_pgTurn_ok L C) (h_spec_pgMeet : spec_pgMeet_ok L C) : ∀ (oa : Bool) (ca : Bool) (x_a : List AV) (a : List Pt) (_ : x_a = List.map ep a), run T C sh (keep 55) L Try.f55 ([.lst oa ca 2 x_a]) ([]) = Option.map (fun r : Bool => ((.bool r, []) : AV × List Blk)) (spec_pgGood L a) := by
  intro oa ca x_a a hx_a
  subst hx_a
  unfold spec_pgGood
  conv => lhs; whnf
  refine t_call (h_spec_l1In (ilen (List.map ep a)) 3 10) fun r => ?_
  conv => lhs; whnf
  refine t_cond ?_ ?_
  · conv => lhs; whnf
    exact t_ret (by first | rfl | (simp only [ml]; done) | (simp only [ml]; rfl))
  · conv => lhs; whnf
    refine t_loop (fun (⟨v0, v3, v17, v18, v19⟩ : (List Pt) × Int × (List Pt) × Int × Int) => (AV.lst oa ca 2 (List.map ep v0) :: topA 2 (AV.int IntKind.i64 v3 :: topA 13 (AV.lst oa ca 2 (List.map ep v17) :: AV.int IntKind.i64 v18 :: AV.int IntKind.i64 v19 :: tops 75)), [])) (fun m (⟨v0, v3, v17, v18, v19⟩ : (List Pt) × Int × (List Pt) × Int × Int) => spec_pgGood_l0 L m v0 v3 v17 v18 v19) (fun _ => rfl) (fun m s rec hrec => ?_) L ((a, ilen (List.map ep a), a, ilen (List.map ep a), 0)) ?_ ?_
    rotate_left
    · first | rfl | (simp only [ml]; done) | (simp only [ml]; rfl)
    · first | rfl | (simp only [ml]; done) | (simp only [ml]; rfl)
    obtain ⟨v0, v3, v17, v18, v19⟩ := s
    show _ = Option.map _ (spec_pgGood_l0 L (m + 1) v0 v3 v17 v18 v19)
    rw [spec_pgGood_l0.eq_2]
    conv => lhs; whnf
    refine t_cond ?_ ?_
    · conv => lhs; whnf
      refine t_get (en := ep) (l := v17) (by first | rfl | (simp only [ml]; done) | (simp only [ml]; rfl)) fun p => ?_
      conv => lhs; whnf
      refine t_call (h_spec_pgIs (Pt.x p) (Pt.y p)) fun r1 => ?_
      conv => lhs; whnf
      refine t_cond ?_ ?_
      · conv => lhs; whnf
        exact t_ret (by first | rfl | (simp only [ml]; done) | (simp only [ml]; rfl))
      · conv => lhs; whnf
        refine t_cond ?_ ?_
        · conv => lhs; whnf
          refine t_loop (fun (v31 : Int) => (AV.lst oa ca 2 (List.map ep v0) :: topA 2 (AV.int IntKind.i64 v3 :: AV.top :: AV.ptr 0 0 0 2 :: topA 11 (AV.lst oa ca 2 (List.map ep v17) :: AV.int IntKind.i64 v18 :: AV.int IntKind.i64 v19 :: topA 9 (AV.lst oa false 2 (lsub (List.map ep v0) 0 v19) :: AV.int IntKind.i64 (ilen (lsub (List.map ep v0) 0 v19)) :: AV.int IntKind.i64 v31 :: tops 63))), [Blk.box (AV.agg [AV.int IntKind.i64 (Pt.x p), AV.int IntKind.i64 (Pt.y p)])])) (fun m1 (v31 : Int) => spec_pgGood_l1 L (spec_pgGood_l0 L m) v0 v3 v17 v18 v19 p m1 v31) (fun _ => rfl) (fun m1 v31 rec1 hrec1 => ?_) L 0 ?_ ?_
          rotate_left
          · first | rfl | (simp only [ml]; done) | (simp only [ml]; rfl)
          · first | rfl | (simp only [ml]; done) | (simp only [ml]; rfl)
          show _ = Option.map _ (spec_pgGood_l1 L (spec_pgGood_l0 L m) v0 v3 v17 v18 v19 p (m1 + 1) v31)
          rw [spec_pgGood_l1.eq_2]
          conv => lhs; whnf
          refine t_cond ?_ ?_
          · conv => lhs; whnf
            refine t_get (en := ep) (l := lsub v0 0 v19) (by first | rfl | (simp only [ml]; done) | (simp only [ml]; rfl)) fun p1 => ?_
            conv => lhs; whnf
            refine t_cond ?_ ?_
            · conv => lhs; whnf
              exact t_ret (by first | rfl | (simp only [ml]; done) | (simp only [ml]; rfl))
            · conv => lhs; whnf
              exact hrec1 (wr IntKind.i64 (iadd v31 1)) _ _ (by first | rfl | (simp only [ml]; done) | (simp only [ml]; rfl)) (by first | rfl | (simp only [ml]; done) | (simp only [ml]; rfl))
          · conv => lhs; whnf
            exact hrec ((v0, v3, v17, v18, wr IntKind.i64 (iadd v19 1))) _ _ (by first | rfl | (simp only [ml]; done) | (simp only [ml]; rfl)) (by first | rfl | (simp only [ml]; done) | (simp only [ml]; rfl))
        · conv => lhs; whnf
          exact t_none
    · conv => lhs; whnf
      refine t_loop (fun (⟨v01, v32, v40, v41, v42⟩ : (List Pt) × Int × (List Pt) × Int × Int) => (AV.lst oa ca 2 (List.map ep v01) :: topA 2 (AV.int IntKind.i64 v32 :: topA 36 (AV.lst oa ca 2 (List.map ep v40) :: AV.int IntKind.i64 v41 :: AV.int IntKind.i64 v42 :: tops 52)), [])) (fun m2 (⟨v01, v32, v40, v41, v42⟩ : (List Pt) × Int × (List Pt) × Int × Int) => spec_pgGood_l2 L m2 v01 v32 v40 v41 v42) (fun _ => rfl) (fun m2 s2 rec2 hrec2 => ?_) L ((v0, v3, v0, ilen (List.map ep v0), 0)) ?_ ?_
      rotate_left
      · first | rfl | (simp only [ml]; done) | (simp only [ml]; rfl)
      · first | rfl | (simp only [ml]; done) | (simp only [ml]; rfl)
      obtain ⟨v01, v32, v40, v41, v42⟩ := s2
      show _ = Option.map _ (spec_pgGood_l2 L (m2 + 1) v01 v32 v40 v41 v42)
      rw [spec_pgGood_l2.eq_2]
      conv => lhs; whnf
      refine t_cond ?_ ?_
      · conv => lhs; whnf
        refine t_get (en := ep) (l := v40) (by first | rfl | (simp only [ml]; done) | (simp only [ml]; rfl)) fun p2 => ?_
        conv => lhs; whnf
        refine t_cond ?_ ?_
        · conv => lhs; whnf
          exact t_none
        · conv => lhs; whnf
          refine t_get (en := ep) (l := v01) (by first | rfl | (simp only [ml]; done) | (simp only [ml]; rfl)) fun p3 => ?_
          conv => lhs; whnf
          refine t_cond ?_ ?_
          · conv => lhs; whnf
            exact t_none
          · conv => lhs; whnf
            refine t_get (en := ep) (l := v01) (by first | rfl | (simp only [ml]; done) | (simp only [ml]; rfl)) fun p4 => ?_
            conv => lhs; whnf
            refine t_call (h_spec_pgTurn (Pt.x p2) (Pt.y p2) (Pt.x p3) (Pt.y p3) (Pt.x p4) (Pt.y p4)) fun r2 => ?_
            conv => lhs; whnf
            refine t_cond ?_ ?_
            · conv => lhs; whnf
              exact t_ret (by first | rfl | (simp only [ml]; done) | (simp only [ml]; rfl))
            · conv => lhs; whnf
              refine t_loop (fun (v11 : Int) => (AV.lst oa ca 2 (List.map ep v01) :: topA 2 (AV.int IntKind.i64 v32 :: topA 4 (AV.int IntKind.i64 v42 :: AV.ptr 0 0 0 2 :: AV.ptr 1 0 0 2 :: AV.int IntKind.i64 v11 :: topA 28 (AV.lst oa ca 2 (List.map ep v40) :: AV.int IntKind.i64 v41 :: AV.int IntKind.i64 v42 :: tops 52))), [Blk.box (AV.agg [AV.int IntKind.i64 (Pt.x p2), AV.int IntKind.i64 (Pt.y p2)]), Blk.box (AV.agg [AV.int IntKind.i64 (Pt.x p3), AV.int IntKind.i64 (Pt.y p3)])])) (fun m3 (v11 : Int) => spec_pgGood_l3 L (spec_pgGood_l2 L m2) v01 v32 v40 v41 v42 p2 p3 m3 v11) (fun _ => rfl) (fun m3 v11 rec3 hrec3 => ?_) L (wr IntKind.i64 (iadd v42 2)) ?_ ?_
              rotate_left
              · first | rfl | (simp only [ml]; done) | (simp only [ml]; rfl)
              · first | rfl | (simp only [ml]; done) | (simp only [ml]; rfl)
              show _ = Option.map _ (spec_pgGood_l3 L (spec_pgGood_l2 L m2) v01 v32 v40 v41 v42 p2 p3 (m3 + 1) v11)
              rw [spec_pgGood_l3.eq_2]
              conv => lhs; whnf
              refine t_cond ?_ ?_
              · conv => lhs; whnf
                refine t_cond ?_ ?_
                · conv => lhs; whnf
                  refine t_get (en := ep) (l := v01) (by first | rfl | (simp only [ml]; done) | (simp only [ml]; rfl)) fun p5 => ?_
                  conv => lhs; whnf
                  refine t_cond ?_ ?_
                  · conv => lhs; whnf
                    exact t_none
                  · conv => lhs; whnf
                    refine t_get (en := ep) (l := v01) (by first | rfl | (simp only [ml]; done) | (simp only [ml]; rfl)) fun p6 => ?_
                    conv => lhs; whnf
                    refine t_call (h_spec_pgMeet (Pt.x p2) (Pt.y p2) (Pt.x p3) (Pt.y p3) (Pt.x p5) (Pt.y p5) (Pt.x p6) (Pt.y p6)) fun r3 => ?_
                    conv => lhs; whnf
                    refine t_cond ?_ ?_
                    · conv => lhs; whnf
                      exact t_ret (by first | rfl | (simp only [ml]; done) | (simp only [ml]; rfl))
                    · conv => lhs; whnf
                      exact hrec3 (wr IntKind.i64 (iadd v11 1)) _ _ (by first | rfl | (simp only [ml]; done) | (simp only [ml]; rfl)) (by first | rfl | (simp only [ml]; done) | (simp only [ml]; rfl))
                · conv => lhs; whnf
                  exact hrec2 ((v01, v32, v40, v41, wr IntKind.i64 (iadd v42 1))) _ _ (by first | rfl | (simp only [ml]; done) | (simp only [ml]; rfl)) (by first | rfl | (simp only [ml]; done) | (simp only [ml]; rfl))
              · conv => lhs; whnf
                exact hrec2 ((v01, v32, v40, v41, wr IntKind.i64 (iadd v42 1))) _ _ (by first | rfl | (simp only [ml]; done) | (simp only [ml]; rfl)) (by first | rfl | (simp only [ml]; done) | (simp only [ml]; rfl))
      · conv => lhs; whnf
        exact t_ret (by first | rfl | (simp only [ml]; done) | (simp only [ml]; rfl))


noncomputable def spec_l1Most (L : Nat) (a : Int) (b : Int) : Option (Int) := bif ilt b a then (some a) else (some b)


def spec_l1Most_ok (L : Nat) (C : CF) : Prop := ∀ (a : Int) (b : Int), C 174 ([.int .i64 a, .int .i64 b]) ([]) = Option.map (fun r : Int => ((.int .i64 r, []) : AV × List Blk)) (spec_l1Most L a b)


theorem spec_l1Most_run (L : Nat) (C : CF) : ∀ (a : Int) (b : Int), run T C sh (keep 174) L Try.f174 ([.int .i64 a, .int .i64 b]) ([]) = Option.map (fun r : Int => ((.int .i64 r, []) : AV × List Blk)) (spec_l1Most L a b) := by
  intro a b
  unfold spec_l1Most
  conv => lhs; whnf
  refine t_cond ?_ ?_
  · conv => lhs; whnf
    exact t_ret (by first | rfl | (simp only [ml]; done) | (simp only [ml]; rfl))
  · conv => lhs; whnf
    exact t_ret (by first | rfl | (simp only [ml]; done) | (simp only [ml]; rfl))


noncomputable def spec_l1Abs (L : Nat) (a : Int) : Option (Int) := gbind (spec_l1Most L a (wr IntKind.i64 (isub 0 a))) fun r => some r


def spec_l1Abs_ok (L : Nat) (C : CF) : Prop := ∀ (a : Int), C 132 ([.int .i64 a]) ([]) = Option.map (fun r : Int => ((.int .i64 r, []) : AV × List Blk)) (spec_l1Abs L a)


theorem spec_l1Abs_run (L : Nat) (C : CF) (h_spec_l1Most : spec_l1Most_ok L C) : ∀ (a : Int), run T C sh (keep 132) L Try.f132 ([.int .i64 a]) ([]) = Option.map (fun r : Int => ((.int .i64 r, []) : AV × List Blk)) (spec_l1Abs L a) := by
  intro a
  unfold spec_l1Abs
  conv => lhs; whnf
  refine t_call (h_spec_l1Most a (wr IntKind.i64 (isub 0 a))) fun r => ?_
  conv => lhs; whnf
  exact t_ret (by first | rfl | (simp only [ml]; done) | (simp only [ml]; rfl))


noncomputable def spec_pgCommon_l0 (L : Nat) : Nat → Int → Int → Option Int
  | 0, _, _ => none
  | m + 1, v0, v1 => bif ilt 0 v1 then (bif ieq v1 0 then (none) else (spec_pgCommon_l0 L m v1 (irem v0 v1))) else (some v0)


noncomputable def spec_pgCommon (L : Nat) (a : Int) (b : Int) : Option (Int) := gbind (spec_l1Abs L a) fun r => gbind (spec_l1Abs L b) fun r1 => spec_pgCommon_l0 L L r r1


def spec_pgCommon_ok (L : Nat) (C : CF) : Prop := ∀ (a : Int) (b : Int), C 108 ([.int .i64 a, .int .i64 b]) ([]) = Option.map (fun r : Int => ((.int .i64 r, []) : AV × List Blk)) (spec_pgCommon L a b)


theorem spec_pgCommon_run (L : Nat) (C : CF) (h_spec_l1Abs : spec_l1Abs_ok L C) : ∀ (a : Int) (b : Int), run T C sh (keep 108) L Try.f108 ([.int .i64 a, .int .i64 b]) ([]) = Option.map (fun r : Int => ((.int .i64 r, []) : AV × List Blk)) (spec_pgCommon L a b) := by
  intro a b
  unfold spec_pgCommon
  conv => lhs; whnf
  refine t_call (h_spec_l1Abs a) fun r => ?_
  conv => lhs; whnf
  refine t_call (h_spec_l1Abs b) fun r1 => ?_
  conv => lhs; whnf
  refine t_loop (fun (⟨v0, v1⟩ : Int × Int) => (AV.int IntKind.i64 v0 :: AV.int IntKind.i64 v1 :: tops 14, [])) (fun m (⟨v0, v1⟩ : Int × Int) => spec_pgCommon_l0 L m v0 v1) (fun _ => rfl) (fun m s rec hrec => ?_) L ((r, r1)) ?_ ?_
  rotate_left
  · first | rfl | (simp only [ml]; done) | (simp only [ml]; rfl)
  · first | rfl | (simp only [ml]; done) | (simp only [ml]; rfl)
  obtain ⟨v0, v1⟩ := s
  show _ = Option.map _ (spec_pgCommon_l0 L (m + 1) v0 v1)
  rw [spec_pgCommon_l0.eq_2]
  conv => lhs; whnf
  refine t_cond ?_ ?_
  · conv => lhs; whnf
    refine t_cond ?_ ?_
    · conv => lhs; whnf
      exact t_none
    · conv => lhs; whnf
      exact hrec ((v1, irem v0 v1)) _ _ (by first | rfl | (simp only [ml]; done) | (simp only [ml]; rfl)) (by first | rfl | (simp only [ml]; done) | (simp only [ml]; rfl))
  · conv => lhs; whnf
    exact t_ret (by first | rfl | (simp only [ml]; done) | (simp only [ml]; rfl))


noncomputable def spec_l1Least (L : Nat) (a : Int) (b : Int) : Option (Int) := bif ilt a b then (some a) else (some b)


def spec_l1Least_ok (L : Nat) (C : CF) : Prop := ∀ (a : Int) (b : Int), C 175 ([.int .i64 a, .int .i64 b]) ([]) = Option.map (fun r : Int => ((.int .i64 r, []) : AV × List Blk)) (spec_l1Least L a b)


theorem spec_l1Least_run (L : Nat) (C : CF) : ∀ (a : Int) (b : Int), run T C sh (keep 175) L Try.f175 ([.int .i64 a, .int .i64 b]) ([]) = Option.map (fun r : Int => ((.int .i64 r, []) : AV × List Blk)) (spec_l1Least L a b) := by
  intro a b
  unfold spec_l1Least
  conv => lhs; whnf
  refine t_cond ?_ ?_
  · conv => lhs; whnf
    exact t_ret (by first | rfl | (simp only [ml]; done) | (simp only [ml]; rfl))
  · conv => lhs; whnf
    exact t_ret (by first | rfl | (simp only [ml]; done) | (simp only [ml]; rfl))


noncomputable def spec_wiRange_l0 (L : Nat) (a : List Pt) (b : Int) (c : Int) : Nat → Int → Int → Int → Option (Int × Int)
  | 0, _, _, _ => none
  | m + 1, v8, v9, v29 => bif ilt v29 (ilen (List.map ep a)) then (gbind (lget a v29) fun p2 => gbind (spec_l1Least L v8 (wr IntKind.i64 (iadd (wr IntKind.i64 (imul b (Pt.x p2))) (wr IntKind.i64 (imul c (Pt.y p2)))))) fun r => gbind (spec_l1Most L v9 (wr IntKind.i64 (iadd (wr IntKind.i64 (imul b (Pt.x p2))) (wr IntKind.i64 (imul c (Pt.y p2)))))) fun r1 => spec_wiRange_l0 L a b c m r r1 (wr IntKind.i64 (iadd v29 1))) else (some ((v8, v9)))


noncomputable def spec_wiRange (L : Nat) (a : List Pt) (b : Int) (c : Int) : Option (Int × Int) := gbind (lget a 0) fun p => gbind (lget a 0) fun p1 => spec_wiRange_l0 L a b c L (wr IntKind.i64 (iadd (wr IntKind.i64 (imul b (Pt.x p))) (wr IntKind.i64 (imul c (Pt.y p1))))) (wr IntKind.i64 (iadd (wr IntKind.i64 (imul b (Pt.x p))) (wr IntKind.i64 (imul c (Pt.y p1))))) 0


def spec_wiRange_ok (L : Nat) (C : CF) : Prop := ∀ (oa : Bool) (ca : Bool) (x_a : List AV) (a : List Pt) (_ : x_a = List.map ep a) (b : Int) (c : Int), C 134 ([.lst oa ca 2 x_a, .int .i64 b, .int .i64 c]) ([]) = Option.map (fun r : Int × Int => ((.tup [.int .i64 (r.1), .int .i64 (r.2)], []) : AV × List Blk)) (spec_wiRange L a b c)


theorem spec_wiRange_run (L : Nat) (C : CF) (h_spec_l1Most : spec_l1Most_ok L C) (h_spec_l1Least : spec_l1Least_ok L C) : ∀ (oa : Bool) (ca : Bool) (x_a : List AV) (a : List Pt) (_ : x_a = List.map ep a) (b : Int) (c : Int), run T C sh (keep 134) L Try.f134 ([.lst oa ca 2 x_a, .int .i64 b, .int .i64 c]) ([]) = Option.map (fun r : Int × Int => ((.tup [.int .i64 (r.1), .int .i64 (r.2)], []) : AV × List Blk)) (spec_wiRange L a b c) := by
  intro oa ca x_a a hx_a b c
  subst hx_a
  unfold spec_wiRange
  conv => lhs; whnf
  refine t_get (en := ep) (l := a) (by first | rfl | (simp only [ml]; done) | (simp only [ml]; rfl)) fun p => ?_
  conv => lhs; whnf
  refine t_get (en := ep) (l := a) (by first | rfl | (simp only [ml]; done) | (simp only [ml]; rfl)) fun p1 => ?_
  conv => lhs; whnf
  refine t_loop (fun (⟨v8, v9, v29⟩ : Int × Int × Int) => (AV.top :: AV.int IntKind.i64 b :: AV.int IntKind.i64 c :: topA 5 (AV.int IntKind.i64 v8 :: AV.int IntKind.i64 v9 :: topA 17 (AV.lst oa ca 2 (List.map ep a) :: AV.int IntKind.i64 (ilen (List.map ep a)) :: AV.int IntKind.i64 v29 :: tops 21)), [])) (fun m (⟨v8, v9, v29⟩ : Int × Int × Int) => spec_wiRange_l0 L a b c m v8 v9 v29) (fun _ => rfl) (fun m s rec hrec => ?_) L ((wr IntKind.i64 (iadd (wr IntKind.i64 (imul b (Pt.x p))) (wr IntKind.i64 (imul c (Pt.y p1)))), wr IntKind.i64 (iadd (wr IntKind.i64 (imul b (Pt.x p))) (wr IntKind.i64 (imul c (Pt.y p1)))), 0)) ?_ ?_
  rotate_left
  · first | rfl | (simp only [ml]; done) | (simp only [ml]; rfl)
  · first | rfl | (simp only [ml]; done) | (simp only [ml]; rfl)
  obtain ⟨v8, v9, v29⟩ := s
  show _ = Option.map _ (spec_wiRange_l0 L a b c (m + 1) v8 v9 v29)
  rw [spec_wiRange_l0.eq_2]
  conv => lhs; whnf
  refine t_cond ?_ ?_
  · conv => lhs; whnf
    refine t_get (en := ep) (l := a) (by first | rfl | (simp only [ml]; done) | (simp only [ml]; rfl)) fun p2 => ?_
    conv => lhs; whnf
    refine t_call (h_spec_l1Least v8 (wr IntKind.i64 (iadd (wr IntKind.i64 (imul b (Pt.x p2))) (wr IntKind.i64 (imul c (Pt.y p2)))))) fun r => ?_
    conv => lhs; whnf
    refine t_call (h_spec_l1Most v9 (wr IntKind.i64 (iadd (wr IntKind.i64 (imul b (Pt.x p2))) (wr IntKind.i64 (imul c (Pt.y p2)))))) fun r1 => ?_
    conv => lhs; whnf
    exact hrec ((r, r1, wr IntKind.i64 (iadd v29 1))) _ _ (by first | rfl | (simp only [ml]; done) | (simp only [ml]; rfl)) (by first | rfl | (simp only [ml]; done) | (simp only [ml]; rfl))
  · conv => lhs; whnf
    exact t_ret (by first | rfl | (simp only [ml]; done) | (simp only [ml]; rfl))


noncomputable def spec_wiWidth (L : Nat) (a : List Pt) (b : Int) (c : Int) : Option (Int) := gbind (spec_wiRange L a b c) fun r => some (wr IntKind.i64 (isub (Prod.snd r) (Prod.fst r)))


def spec_wiWidth_ok (L : Nat) (C : CF) : Prop := ∀ (oa : Bool) (ca : Bool) (x_a : List AV) (a : List Pt) (_ : x_a = List.map ep a) (b : Int) (c : Int), C 109 ([.lst oa ca 2 x_a, .int .i64 b, .int .i64 c]) ([]) = Option.map (fun r : Int => ((.int .i64 r, []) : AV × List Blk)) (spec_wiWidth L a b c)


theorem spec_wiWidth_run (L : Nat) (C : CF) (h_spec_wiRange : spec_wiRange_ok L C) : ∀ (oa : Bool) (ca : Bool) (x_a : List AV) (a : List Pt) (_ : x_a = List.map ep a) (b : Int) (c : Int), run T C sh (keep 109) L Try.f109 ([.lst oa ca 2 x_a, .int .i64 b, .int .i64 c]) ([]) = Option.map (fun r : Int => ((.int .i64 r, []) : AV × List Blk)) (spec_wiWidth L a b c) := by
  intro oa ca x_a a hx_a b c
  subst hx_a
  unfold spec_wiWidth
  conv => lhs; whnf
  refine t_call (h_spec_wiRange _ _ _ a (by first | rfl | (simp only [ml]; done) | (simp only [ml]; rfl)) b c) fun r => ?_
  conv => lhs; whnf
  exact t_ret (by first | rfl | (simp only [ml]; done) | (simp only [ml]; rfl))


noncomputable def spec_wiAll_l2 (L : Nat) (κ1 : (List Pt) → Int → Int → (List (List Int)) → Int → Int → Int → Int → Int → Int → Option ((List (List Int)))) (v01 : List Pt) (v11 : Int) (v71 : Int) (v81 : List (List Int)) (v91 : Int) (v10 : Int) (b0_01 : Int) (b0_11 : Int) (b1_01 : Int) (b1_11 : Int) : Nat → Int → Option ((List (List Int)))
  | 0, _ => none
  | m2 + 1, v15 => bif ilt 0 v15 then (gbind (lget v81 (wr IntKind.i64 (isub v15 1))) fun p8 => gbind (lget p8 0) fun p9 => bif ilt (wr IntKind.i64 (iquo (wr IntKind.i64 (isub (wr IntKind.i64 (imul v91 b1_11)) (wr IntKind.i64 (imul v10 b0_11)))) v71)) p9 then (spec_wiAll_l2 L κ1 v01 v11 v71 v81 v91 v10 b0_01 b0_11 b1_01 b1_11 m2 (wr IntKind.i64 (isub v15 1))) else (gbind (lget v81 (wr IntKind.i64 (isub v15 1))) fun p10 => gbind (lget p10 0) fun p11 => bif ieq (wr IntKind.i64 (iquo (wr IntKind.i64 (isub (wr IntKind.i64 (imul v91 b1_11)) (wr IntKind.i64 (imul v10 b0_11)))) v71)) p11 then (gbind (lget v81 (wr IntKind.i64 (isub v15 1))) fun p12 => gbind (lget p12 1) fun p13 => bif ilt (wr IntKind.i64 (iquo (wr IntKind.i64 (isub (wr IntKind.i64 (imul v10 b0_01)) (wr IntKind.i64 (imul v91 b1_01)))) v71)) p13 then (spec_wiAll_l2 L κ1 v01 v11 v71 v81 v91 v10 b0_01 b0_11 b1_01 b1_11 m2 (wr IntKind.i64 (isub v15 1))) else (bif ile 0 v15 && ile v15 (ilen (List.map eLI v81)) then (bif fits (iadd (ilen ([] : List AV)) (ilen (lsub (List.map eLI v81) 0 v15))) 24 then (bif fits (iadd (ilen (lcat [] (lsub (List.map eLI v81) 0 v15))) (ilen [AV.lst false false 1 [AV.int IntKind.i64 (wr IntKind.i64 (iquo (wr IntKind.i64 (isub (wr IntKind.i64 (imul v91 b1_11)) (wr IntKind.i64 (imul v10 b0_11)))) v71)), AV.int IntKind.i64 (wr IntKind.i64 (iquo (wr IntKind.i64 (isub (wr IntKind.i64 (imul v10 b0_01)) (wr IntKind.i64 (imul v91 b1_01)))) v71))]])) 24 then (bif ile 0 v15 && ile v15 (ilen (List.map eLI v81)) then (bif fits (iadd (ilen (lcat (lcat [] (lsub (List.map eLI v81) 0 v15)) [AV.lst false false 1 [AV.int IntKind.i64 (wr IntKind.i64 (iquo (wr IntKind.i64 (isub (wr IntKind.i64 (imul v91 b1_11)) (wr IntKind.i64 (imul v10 b0_11)))) v71)), AV.int IntKind.i64 (wr IntKind.i64 (iquo (wr IntKind.i64 (isub (wr IntKind.i64 (imul v10 b0_01)) (wr IntKind.i64 (imul v91 b1_01)))) v71))]])) (ilen (lsub (List.map eLI v81) v15 (ilen (List.map eLI v81))))) 24 then (κ1 v01 v11 v71 (lcat (lcat (lcat [] (lsub v81 0 v15)) ((wr IntKind.i64 (iquo (wr IntKind.i64 (isub (wr IntKind.i64 (imul v91 b1_11)) (wr IntKind.i64 (imul v10 b0_11)))) v71) :: (wr IntKind.i64 (iquo (wr IntKind.i64 (isub (wr IntKind.i64 (imul v10 b0_01)) (wr IntKind.i64 (imul v91 b1_01)))) v71) :: [])) :: [])) (lsub v81 v15 (ilen (List.map eLI v81)))) v91 (wr IntKind.i64 (iadd v10 1)) b0_01 b0_11 b1_01 b1_11) else (none)) else (none)) else (none)) else (none)) else (none))) else (bif ile 0 v15 && ile v15 (ilen (List.map eLI v81)) then (bif fits (iadd (ilen ([] : List AV)) (ilen (lsub (List.map eLI v81) 0 v15))) 24 then (bif fits (iadd (ilen (lcat [] (lsub (List.map eLI v81) 0 v15))) (ilen [AV.lst false false 1 [AV.int IntKind.i64 (wr IntKind.i64 (iquo (wr IntKind.i64 (isub (wr IntKind.i64 (imul v91 b1_11)) (wr IntKind.i64 (imul v10 b0_11)))) v71)), AV.int IntKind.i64 (wr IntKind.i64 (iquo (wr IntKind.i64 (isub (wr IntKind.i64 (imul v10 b0_01)) (wr IntKind.i64 (imul v91 b1_01)))) v71))]])) 24 then (bif ile 0 v15 && ile v15 (ilen (List.map eLI v81)) then (bif fits (iadd (ilen (lcat (lcat [] (lsub (List.map eLI v81) 0 v15)) [AV.lst false false 1 [AV.int IntKind.i64 (wr IntKind.i64 (iquo (wr IntKind.i64 (isub (wr IntKind.i64 (imul v91 b1_11)) (wr IntKind.i64 (imul v10 b0_11)))) v71)), AV.int IntKind.i64 (wr IntKind.i64 (iquo (wr IntKind.i64 (isub (wr IntKind.i64 (imul v10 b0_01)) (wr IntKind.i64 (imul v91 b1_01)))) v71))]])) (ilen (lsub (List.map eLI v81) v15 (ilen (List.map eLI v81))))) 24 then (κ1 v01 v11 v71 (lcat (lcat (lcat [] (lsub v81 0 v15)) ((wr IntKind.i64 (iquo (wr IntKind.i64 (isub (wr IntKind.i64 (imul v91 b1_11)) (wr IntKind.i64 (imul v10 b0_11)))) v71) :: (wr IntKind.i64 (iquo (wr IntKind.i64 (isub (wr IntKind.i64 (imul v10 b0_01)) (wr IntKind.i64 (imul v91 b1_01)))) v71) :: [])) :: [])) (lsub v81 v15 (ilen (List.map eLI v81)))) v91 (wr IntKind.i64 (iadd v10 1)) b0_01 b0_11 b1_01 b1_11) else (none)) else (none)) else (none)) else (none)) else (none)))) else (bif ile 0 v15 && ile v15 (ilen (List.map eLI v81)) then (bif fits (iadd (ilen ([] : List AV)) (ilen (lsub (List.map eLI v81) 0 v15))) 24 then (bif fits (iadd (ilen (lcat [] (lsub (List.map eLI v81) 0 v15))) (ilen [AV.lst false false 1 [AV.int IntKind.i64 (wr IntKind.i64 (iquo (wr IntKind.i64 (isub (wr IntKind.i64 (imul v91 b1_11)) (wr IntKind.i64 (imul v10 b0_11)))) v71)), AV.int IntKind.i64 (wr IntKind.i64 (iquo (wr IntKind.i64 (isub (wr IntKind.i64 (imul v10 b0_01)) (wr IntKind.i64 (imul v91 b1_01)))) v71))]])) 24 then (bif ile 0 v15 && ile v15 (ilen (List.map eLI v81)) then (bif fits (iadd (ilen (lcat (lcat [] (lsub (List.map eLI v81) 0 v15)) [AV.lst false false 1 [AV.int IntKind.i64 (wr IntKind.i64 (iquo (wr IntKind.i64 (isub (wr IntKind.i64 (imul v91 b1_11)) (wr IntKind.i64 (imul v10 b0_11)))) v71)), AV.int IntKind.i64 (wr IntKind.i64 (iquo (wr IntKind.i64 (isub (wr IntKind.i64 (imul v10 b0_01)) (wr IntKind.i64 (imul v91 b1_01)))) v71))]])) (ilen (lsub (List.map eLI v81) v15 (ilen (List.map eLI v81))))) 24 then (κ1 v01 v11 v71 (lcat (lcat (lcat [] (lsub v81 0 v15)) ((wr IntKind.i64 (iquo (wr IntKind.i64 (isub (wr IntKind.i64 (imul v91 b1_11)) (wr IntKind.i64 (imul v10 b0_11)))) v71) :: (wr IntKind.i64 (iquo (wr IntKind.i64 (isub (wr IntKind.i64 (imul v10 b0_01)) (wr IntKind.i64 (imul v91 b1_01)))) v71) :: [])) :: [])) (lsub v81 v15 (ilen (List.map eLI v81)))) v91 (wr IntKind.i64 (iadd v10 1)) b0_01 b0_11 b1_01 b1_11) else (none)) else (none)) else (none)) else (none)) else (none))


noncomputable def spec_wiAll_l3 (L : Nat) (κ1 : (List Pt) → Int → Int → (List (List Int)) → Int → Int → Int → Int → Int → Int → Option ((List (List Int)))) (v01 : List Pt) (v11 : Int) (v71 : Int) (v81 : List (List Int)) (v91 : Int) (v10 : Int) (b0_01 : Int) (b0_11 : Int) (b1_01 : Int) (b1_11 : Int) : Nat → Int → Option ((List (List Int)))
  | 0, _ => none
  | m3 + 1, v151 => bif ilt 0 v151 then (gbind (lget v81 (wr IntKind.i64 (isub v151 1))) fun p14 => gbind (lget p14 0) fun p15 => bif ilt (wr IntKind.i64 (iquo (wr IntKind.i64 (isub (wr IntKind.i64 (imul v91 b1_11)) (wr IntKind.i64 (imul v10 b0_11)))) v71)) p15 then (spec_wiAll_l3 L κ1 v01 v11 v71 v81 v91 v10 b0_01 b0_11 b1_01 b1_11 m3 (wr IntKind.i64 (isub v151 1))) else (gbind (lget v81 (wr IntKind.i64 (isub v151 1))) fun p16 => gbind (lget p16 0) fun p17 => bif ieq (wr IntKind.i64 (iquo (wr IntKind.i64 (isub (wr IntKind.i64 (imul v91 b1_11)) (wr IntKind.i64 (imul v10 b0_11)))) v71)) p17 then (gbind (lget v81 (wr IntKind.i64 (isub v151 1))) fun p18 => gbind (lget p18 1) fun p19 => bif ilt (wr IntKind.i64 (iquo (wr IntKind.i64 (isub (wr IntKind.i64 (imul v10 b0_01)) (wr IntKind.i64 (imul v91 b1_01)))) v71)) p19 then (spec_wiAll_l3 L κ1 v01 v11 v71 v81 v91 v10 b0_01 b0_11 b1_01 b1_11 m3 (wr IntKind.i64 (isub v151 1))) else (bif ile 0 v151 && ile v151 (ilen (List.map eLI v81)) then (bif fits (iadd (ilen ([] : List AV)) (ilen (lsub (List.map eLI v81) 0 v151))) 24 then (bif fits (iadd (ilen (lcat [] (lsub (List.map eLI v81) 0 v151))) (ilen [AV.lst false false 1 [AV.int IntKind.i64 (wr IntKind.i64 (iquo (wr IntKind.i64 (isub (wr IntKind.i64 (imul v91 b1_11)) (wr IntKind.i64 (imul v10 b0_11)))) v71)), AV.int IntKind.i64 (wr IntKind.i64 (iquo (wr IntKind.i64 (isub (wr IntKind.i64 (imul v10 b0_01)) (wr IntKind.i64 (imul v91 b1_01)))) v71))]])) 24 then (bif ile 0 v151 && ile v151 (ilen (List.map eLI v81)) then (bif fits (iadd (ilen (lcat (lcat [] (lsub (List.map eLI v81) 0 v151)) [AV.lst false false 1 [AV.int IntKind.i64 (wr IntKind.i64 (iquo (wr IntKind.i64 (isub (wr IntKind.i64 (imul v91 b1_11)) (wr IntKind.i64 (imul v10 b0_11)))) v71)), AV.int IntKind.i64 (wr IntKind.i64 (iquo (wr IntKind.i64 (isub (wr IntKind.i64 (imul v10 b0_01)) (wr IntKind.i64 (imul v91 b1_01)))) v71))]])) (ilen (lsub (List.map eLI v81) v151 (ilen (List.map eLI v81))))) 24 then (κ1 v01 v11 v71 (lcat (lcat (lcat [] (lsub v81 0 v151)) ((wr IntKind.i64 (iquo (wr IntKind.i64 (isub (wr IntKind.i64 (imul v91 b1_11)) (wr IntKind.i64 (imul v10 b0_11)))) v71) :: (wr IntKind.i64 (iquo (wr IntKind.i64 (isub (wr IntKind.i64 (imul v10 b0_01)) (wr IntKind.i64 (imul v91 b1_01)))) v71) :: [])) :: [])) (lsub v81 v151 (ilen (List.map eLI v81)))) v91 (wr IntKind.i64 (iadd v10 1)) b0_01 b0_11 b1_01 b1_11) else (none)) else (none)) else (none)) else (none)) else (none))) else (bif ile 0 v151 && ile v151 (ilen (List.map eLI v81)) then (bif fits (iadd (ilen ([] : List AV)) (ilen (lsub (List.map eLI v81) 0 v151))) 24 then (bif fits (iadd (ilen (lcat [] (lsub (List.map eLI v81) 0 v151))) (ilen [AV.lst false false 1 [AV.int IntKind.i64 (wr IntKind.i64 (iquo (wr IntKind.i64 (isub (wr IntKind.i64 (imul v91 b1_11)) (wr IntKind.i64 (imul v10 b0_11)))) v71)), AV.int IntKind.i64 (wr IntKind.i64 (iquo (wr IntKind.i64 (isub (wr IntKind.i64 (imul v10 b0_01)) (wr IntKind.i64 (imul v91 b1_01)))) v71))]])) 24 then (bif ile 0 v151 && ile v151 (ilen (List.map eLI v81)) then (bif fits (iadd (ilen (lcat (lcat [] (lsub (List.map eLI v81) 0 v151)) [AV.lst false false 1 [AV.int IntKind.i64 (wr IntKind.i64 (iquo (wr IntKind.i64 (isub (wr IntKind.i64 (imul v91 b1_11)) (wr IntKind.i64 (imul v10 b0_11)))) v71)), AV.int IntKind.i64 (wr IntKind.i64 (iquo (wr IntKind.i64 (isub (wr IntKind.i64 (imul v10 b0_01)) (wr IntKind.i64 (imul v91 b1_01)))) v71))]])) (ilen (lsub (List.map eLI v81) v151 (ilen (List.map eLI v81))))) 24 then (κ1 v01 v11 v71 (lcat (lcat (lcat [] (lsub v81 0 v151)) ((wr IntKind.i64 (iquo (wr IntKind.i64 (isub (wr IntKind.i64 (imul v91 b1_11)) (wr IntKind.i64 (imul v10 b0_11)))) v71) :: (wr IntKind.i64 (iquo (wr IntKind.i64 (isub (wr IntKind.i64 (imul v10 b0_01)) (wr IntKind.i64 (imul v91 b1_01)))) v71) :: [])) :: [])) (lsub v81 v151 (ilen (List.map eLI v81)))) v91 (wr IntKind.i64 (iadd v10 1)) b0_01 b0_11 b1_01 b1_11) else (none)) else (none)) else (none)) else (none)) else (none)))) else (bif ile 0 v151 && ile v151 (ilen (List.map eLI v81)) then (bif fits (iadd (ilen ([] : List AV)) (ilen (lsub (List.map eLI v81) 0 v151))) 24 then (bif fits (iadd (ilen (lcat [] (lsub (List.map eLI v81) 0 v151))) (ilen [AV.lst false false 1 [AV.int IntKind.i64 (wr IntKind.i64 (iquo (wr IntKind.i64 (isub (wr IntKind.i64 (imul v91 b1_11)) (wr IntKind.i64 (imul v10 b0_11)))) v71)), AV.int IntKind.i64 (wr IntKind.i64 (iquo (wr IntKind.i64 (isub (wr IntKind.i64 (imul v10 b0_01)) (wr IntKind.i64 (imul v91 b1_01)))) v71))]])) 24 then (bif ile 0 v151 && ile v151 (ilen (List.map eLI v81)) then (bif fits (iadd (ilen (lcat (lcat [] (lsub (List.map eLI v81) 0 v151)) [AV.lst false false 1 [AV.int IntKind.i64 (wr IntKind.i64 (iquo (wr IntKind.i64 (isub (wr IntKind.i64 (imul v91 b1_11)) (wr IntKind.i64 (imul v10 b0_11)))) v71)), AV.int IntKind.i64 (wr IntKind.i64 (iquo (wr IntKind.i64 (isub (wr IntKind.i64 (imul v10 b0_01)) (wr IntKind.i64 (imul v91 b1_01)))) v71))]])) (ilen (lsub (List.map eLI v81) v151 (ilen (List.map eLI v81))))) 24 then (κ1 v01 v11 v71 (lcat (lcat (lcat [] (lsub v81 0 v151)) ((wr IntKind.i64 (iquo (wr IntKind.i64 (isub (wr IntKind.i64 (imul v91 b1_11)) (wr IntKind.i64 (imul v10 b0_11)))) v71) :: (wr IntKind.i64 (iquo (wr IntKind.i64 (isub (wr IntKind.i64 (imul v10 b0_01)) (wr IntKind.i64 (imul v91 b1_01)))) v71) :: [])) :: [])) (lsub v81 v151 (ilen (List.map eLI v81)))) v91 (wr IntKind.i64 (iadd v10 1)) b0_01 b0_11 b1_01 b1_11) else (none)) else (none)) else (none)) else (none)) else (none))


noncomputable def spec_wiAll_l1 (L : Nat) (κ0 : (List Pt) → Int → Int → (List (List Int)) → Int → Int → Int → Int → Int → Option ((List (List Int)))) : Nat → (List Pt) → Int → Int → (List (List Int)) → Int → Int → Int → Int → Int → Int → Option ((List (List Int)))
  | 0, _, _, _, _, _, _, _, _, _, _ => none
  | m1 + 1, v01, v11, v71, v81, v91, v10, b0_01, b0_11, b1_01, b1_11 => bif ile v10 v11 then (bif ieq v71 0 then (none) else (bif !ieq (irem (wr IntKind.i64 (isub (wr IntKind.i64 (imul v91 b1_11)) (wr IntKind.i64 (imul v10 b0_11)))) v71) 0 then (spec_wiAll_l1 L κ0 m1 v01 v11 v71 v81 v91 (wr IntKind.i64 (iadd v10 1)) b0_01 b0_11 b1_01 b1_11) else (bif ieq v71 0 then (none) else (bif !ieq (irem (wr IntKind.i64 (isub (wr IntKind.i64 (imul v10 b0_01)) (wr IntKind.i64 (imul v91 b1_01)))) v71) 0 then (spec_wiAll_l1 L κ0 m1 v01 v11 v71 v81 v91 (wr IntKind.i64 (iadd v10 1)) b0_01 b0_11 b1_01 b1_11) else (bif ieq v71 0 then (none) else (bif ieq v71 0 then (none) else (bif ilt (wr IntKind.i64 (iquo (wr IntKind.i64 (isub (wr IntKind.i64 (imul v91 b1_11)) (wr IntKind.i64 (imul v10 b0_11)))) v71)) 0 then (spec_wiAll_l1 L κ0 m1 v01 v11 v71 v81 v91 (wr IntKind.i64 (iadd v10 1)) b0_01 b0_11 b1_01 b1_11) else (bif ieq (wr IntKind.i64 (iquo (wr IntKind.i64 (isub (wr IntKind.i64 (imul v91 b1_11)) (wr IntKind.i64 (imul v10 b0_11)))) v71)) 0 then (bif ilt (wr IntKind.i64 (iquo (wr IntKind.i64 (isub (wr IntKind.i64 (imul v10 b0_01)) (wr IntKind.i64 (imul v91 b1_01)))) v71)) 1 then (spec_wiAll_l1 L κ0 m1 v01 v11 v71 v81 v91 (wr IntKind.i64 (iadd v10 1)) b0_01 b0_11 b1_01 b1_11) else (gbind (spec_pgCommon L (wr IntKind.i64 (iquo (wr IntKind.i64 (isub (wr IntKind.i64 (imul v91 b1_11)) (wr IntKind.i64 (imul v10 b0_11)))) v71)) (wr IntKind.i64 (iquo (wr IntKind.i64 (isub (wr IntKind.i64 (imul v10 b0_01)) (wr IntKind.i64 (imul v91 b1_01)))) v71))) fun r => bif !ieq r 1 then (spec_wiAll_l1 L κ0 m1 v01 v11 v71 v81 v91 (wr IntKind.i64 (iadd v10 1)) b0_01 b0_11 b1_01 b1_11) else (gbind (spec_wiWidth L v01 (wr IntKind.i64 (iquo (wr IntKind.i64 (isub (wr IntKind.i64 (imul v91 b1_11)) (wr IntKind.i64 (imul v10 b0_11)))) v71)) (wr IntKind.i64 (iquo (wr IntKind.i64 (isub (wr IntKind.i64 (imul v10 b0_01)) (wr IntKind.i64 (imul v91 b1_01)))) v71))) fun r1 => bif ilt v11 r1 then (spec_wiAll_l1 L κ0 m1 v01 v11 v71 v81 v91 (wr IntKind.i64 (iadd v10 1)) b0_01 b0_11 b1_01 b1_11) else (spec_wiAll_l2 L (spec_wiAll_l1 L κ0 m1) v01 v11 v71 v81 v91 v10 b0_01 b0_11 b1_01 b1_11 L (ilen (List.map eLI v81)))))) else (gbind (spec_pgCommon L (wr IntKind.i64 (iquo (wr IntKind.i64 (isub (wr IntKind.i64 (imul v91 b1_11)) (wr IntKind.i64 (imul v10 b0_11)))) v71)) (wr IntKind.i64 (iquo (wr IntKind.i64 (isub (wr IntKind.i64 (imul v10 b0_01)) (wr IntKind.i64 (imul v91 b1_01)))) v71))) fun r2 => bif !ieq r2 1 then (spec_wiAll_l1 L κ0 m1 v01 v11 v71 v81 v91 (wr IntKind.i64 (iadd v10 1)) b0_01 b0_11 b1_01 b1_11) else (gbind (spec_wiWidth L v01 (wr IntKind.i64 (iquo (wr IntKind.i64 (isub (wr IntKind.i64 (imul v91 b1_11)) (wr IntKind.i64 (imul v10 b0_11)))) v71)) (wr IntKind.i64 (iquo (wr IntKind.i64 (isub (wr IntKind.i64 (imul v10 b0_01)) (wr IntKind.i64 (imul v91 b1_01)))) v71))) fun r3 => bif ilt v11 r3 then (spec_wiAll_l1 L κ0 m1 v01 v11 v71 v81 v91 (wr IntKind.i64 (iadd v10 1)) b0_01 b0_11 b1_01 b1_11) else (spec_wiAll_l3 L (spec_wiAll_l1 L κ0 m1) v01 v11 v71 v81 v91 v10 b0_01 b0_11 b1_01 b1_11 L (ilen (List.map eLI v81))))))))))))) else (κ0 v01 v11 v71 v81 (wr IntKind.i64 (iadd v91 1)) b0_01 b0_11 b1_01 b1_11)


noncomputable def spec_wiAll_l0 (L : Nat) : Nat → (List Pt) → Int → Int → (List (List Int)) → Int → Int → Int → Int → Int → Option ((List (List Int)))
  | 0, _, _, _, _, _, _, _, _, _ => none
  | m + 1, v0, v1, v7, v8, v9, b0_0, b0_1, b1_0, b1_1 => bif ile v9 v1 then (spec_wiAll_l1 L (spec_wiAll_l0 L m) L v0 v1 v7 v8 v9 (wr IntKind.i64 (isub 0 v1)) b0_0 b0_1 b1_0 b1_1) else (some v8)


noncomputable def spec_wiAll (L : Nat) (a : List Pt) (b : Int) : Option ((List (List Int))) := gbind (lget a 1) fun p => gbind (lget a 0) fun p1 => gbind (lget a 1) fun p2 => gbind (lget a 0) fun p3 => gbind (lget a 2) fun p4 => gbind (lget a 0) fun p5 => gbind (lget a 2) fun p6 => gbind (lget a 0) fun p7 => spec_wiAll_l0 L L a b (wr IntKind.i64 (isub (wr IntKind.i64 (imul (wr IntKind.i64 (isub (Pt.x p) (Pt.x p1))) (wr IntKind.i64 (isub (Pt.y p6) (Pt.y p7))))) (wr IntKind.i64 (imul (wr IntKind.i64 (isub (Pt.y p2) (Pt.y p3))) (wr IntKind.i64 (isub (Pt.x p4) (Pt.x p5))))))) [] (wr IntKind.i64 (isub 0 b)) (wr IntKind.i64 (isub (Pt.x p) (Pt.x p1))) (wr IntKind.i64 (isub (Pt.y p2) (Pt.y p3))) (wr IntKind.i64 (isub (Pt.x p4) (Pt.x p5))) (wr IntKind.i64 (isub (Pt.y p6) (Pt.y p7)))


def spec_wiAll_ok (L : Nat) (C : CF) : Prop := ∀ (oa : Bool) (ca : Bool) (x_a : List AV) (a : List Pt) (_ : x_a = List.map ep a) (b : Int), C 57 ([.lst oa ca 2 x_a, .int .i64 b]) ([]) = Option.map (fun r : (List (List Int)) => ((.lst false false 1 (List.map eLI r), []) : AV × List Blk)) (spec_wiAll L a b)


theorem spec_wiAll_run (L : Nat) (C : CF) (h_spec_pgCommon : spec_pgCommon_ok L C) (h_spec_wiWidth : spec_wiWidth_ok L C) : ∀ (oa : Bool) (ca : Bool) (x_a : List AV) (a : List Pt) (_ : x_a = List.map ep a) (b : Int), run T C sh (keep 57) L Try.f57 ([.lst oa ca 2 x_a, .int .i64 b]) ([]) = Option.map (fun r : (List (List Int)) => ((.lst false false 1 (List.map eLI r), []) : AV × List Blk)) (spec_wiAll L a b) := by
  intro oa ca x_a a hx_a b
  subst hx_a
  unfold spec_wiAll
  conv => lhs; whnf
  refine t_get (en := ep) (l := a) (by first | rfl | (simp only [ml]; done) | (simp only [ml]; rfl)) fun p => ?_
  conv => lhs; whnf
  refine t_get (en := ep) (l := a) (by first | rfl | (simp only [ml]; done) | (simp only [ml]; rfl)) fun p1 => ?_
  conv => lhs; whnf
  refine t_get (en := ep) (l := a) (by first | rfl | (simp only [ml]; done) | (simp only [ml]; rfl)) fun p2 => ?_
  conv => lhs; whnf
  refine t_get (en := ep) (l := a) (by first | rfl | (simp only [ml]; done) | (simp only [ml]; rfl)) fun p3 => ?_
  conv => lhs; whnf
  refine t_get (en := ep) (l := a) (by first | rfl | (simp only [ml]; done) | (simp only [ml]; rfl)) fun p4 => ?_
  conv => lhs; whnf
  refine t_get (en := ep) (l := a) (by first | rfl | (simp only [ml]; done) | (simp only [ml]; rfl)) fun p5 => ?_
  conv => lhs; whnf
  refine t_get (en := ep) (l := a) (by first | rfl | (simp only [ml]; done) | (simp only [ml]; rfl)) fun p6 => ?_
  conv => lhs; whnf
  refine t_get (en := ep) (l := a) (by first | rfl | (simp only [ml]; done) | (simp only [ml]; rfl)) fun p7 => ?_
  conv => lhs; whnf
  refine t_loop (fun (⟨v0, v1, v7, v8, v9, b0_0, b0_1, b1_0, b1_1⟩ : (List Pt) × Int × Int × (List (List Int)) × Int × Int × Int × Int × Int) => (AV.lst oa ca 2 (List.map ep v0) :: AV.int IntKind.i64 v1 :: topA 3 (AV.ptr 0 0 0 2 :: AV.ptr 1 0 0 2 :: AV.int IntKind.i64 v7 :: AV.lst false false 1 (List.map eLI v8) :: AV.int IntKind.i64 v9 :: tops 183), [Blk.box (AV.agg [AV.int IntKind.i64 b0_0, AV.int IntKind.i64 b0_1]), Blk.box (AV.agg [AV.int IntKind.i64 b1_0, AV.int IntKind.i64 b1_1])])) (fun m (⟨v0, v1, v7, v8, v9, b0_0, b0_1, b1_0, b1_1⟩ : (List Pt) × Int × Int × (List (List Int)) × Int × Int × Int × Int × Int) => spec_wiAll_l0 L m v0 v1 v7 v8 v9 b0_0 b0_1 b1_0 b1_1) (fun _ => rfl) (fun m s rec hrec => ?_) L ((a, b, wr IntKind.i64 (isub (wr IntKind.i64 (imul (wr IntKind.i64 (isub (Pt.x p) (Pt.x p1))) (wr IntKind.i64 (isub (Pt.y p6) (Pt.y p7))))) (wr IntKind.i64 (imul (wr IntKind.i64 (isub (Pt.y p2) (Pt.y p3))) (wr IntKind.i64 (isub (Pt.x p4) (Pt.x p5)))))), [], wr IntKind.i64 (isub 0 b), wr IntKind.i64 (isub (Pt.x p) (Pt.x p1)), wr IntKind.i64 (isub (Pt.y p2) (Pt.y p3)), wr IntKind.i64 (isub (Pt.x p4) (Pt.x p5)), wr IntKind.i64 (isub (Pt.y p6) (Pt.y p7)))) ?_ ?_
  rotate_left
  · first | rfl | (simp only [ml]; done) | (simp only [ml]; rfl)
  · first | rfl | (simp only [ml]; done) | (simp only [ml]; rfl)
  obtain ⟨v0, v1, v7, v8, v9, b0_0, b0_1, b1_0, b1_1⟩ := s
  show _ = Option.map _ (spec_wiAll_l0 L (m + 1) v0 v1 v7 v8 v9 b0_0 b0_1 b1_0 b1_1)
  rw [spec_wiAll_l0.eq_2]
  conv => lhs; whnf
  refine t_cond ?_ ?_
  · conv => lhs; whnf
    refine t_loop (fun (⟨v01, v11, v71, v81, v91, v10, b0_01, b0_11, b1_01, b1_11⟩ : (List Pt) × Int × Int × (List (List Int)) × Int × Int × Int × Int × Int × Int) => (AV.lst oa ca 2 (List.map ep v01) :: AV.int IntKind.i64 v11 :: topA 3 (AV.ptr 0 0 0 2 :: AV.ptr 1 0 0 2 :: AV.int IntKind.i64 v71 :: AV.lst false false 1 (List.map eLI v81) :: AV.int IntKind.i64 v91 :: AV.int IntKind.i64 v10 :: tops 182), [Blk.box (AV.agg [AV.int IntKind.i64 b0_01, AV.int IntKind.i64 b0_11]), Blk.box (AV.agg [AV.int IntKind.i64 b1_01, AV.int IntKind.i64 b1_11])])) (fun m1 (⟨v01, v11, v71, v81, v91, v10, b0_01, b0_11, b1_01, b1_11⟩ : (List Pt) × Int × Int × (List (List Int)) × Int × Int × Int × Int × Int × Int) => spec_wiAll_l1 L (spec_wiAll_l0 L m) m1 v01 v11 v71 v81 v91 v10 b0_01 b0_11 b1_01 b1_11) (fun _ => rfl) (fun m1 s1 rec1 hrec1 => ?_) L ((v0, v1, v7, v8, v9, wr IntKind.i64 (isub 0 v1), b0_0, b0_1, b1_0, b1_1)) ?_ ?_
    rotate_left
    · first | rfl | (simp only [ml]; done) | (simp only [ml]; rfl)
    · first | rfl | (simp only [ml]; done) | (simp only [ml]; rfl)
    obtain ⟨v01, v11, v71, v81, v91, v10, b0_01, b0_11, b1_01, b1_11⟩ := s1
    show _ = Option.map _ (spec_wiAll_l1 L (spec_wiAll_l0 L m) (m1 + 1) v01 v11 v71 v81 v91 v10 b0_01 b0_11 b1_01 b1_11)
    rw [spec_wiAll_l1.eq_2]
    conv => lhs; whnf
    refine t_cond ?_ ?_
    · conv => lhs; whnf
      refine t_cond ?_ ?_
      · conv => lhs; whnf
        exact t_none
      · conv => lhs; whnf
        refine t_cond ?_ ?_
        · conv => lhs; whnf
          exact hrec1 ((v01, v11, v71, v81, v91, wr IntKind.i64 (iadd v10 1), b0_01, b0_11, b1_01, b1_11)) _ _ (by first | rfl | (simp only [ml]; done) | (simp only [ml]; rfl)) (by first | rfl | (simp only [ml]; done) | (simp only [ml]; rfl))
        · conv => lhs; whnf
          refine t_cond ?_ ?_
          · conv => lhs; whnf
            exact t_none
          · conv => lhs; whnf
            refine t_cond ?_ ?_
            · conv => lhs; whnf
              exact hrec1 ((v01, v11, v71, v81, v91, wr IntKind.i64 (iadd v10 1), b0_01, b0_11, b1_01, b1_11)) _ _ (by first | rfl | (simp only [ml]; done) | (simp only [ml]; rfl)) (by first | rfl | (simp only [ml]; done) | (simp only [ml]; rfl))
            · conv => lhs; whnf
              refine t_cond ?_ ?_
              · conv => lhs; whnf
                exact t_none
              · conv => lhs; whnf
                refine t_cond ?_ ?_
                · conv => lhs; whnf
                  exact t_none
                · conv => lhs; whnf
                  refine t_cond ?_ ?_
                  · conv => lhs; whnf
                    exact hrec1 ((v01, v11, v71, v81, v91, wr IntKind.i64 (iadd v10 1), b0_01, b0_11, b1_01, b1_11)) _ _ (by first | rfl | (simp only [ml]; done) | (simp only [ml]; rfl)) (by first | rfl | (simp only [ml]; done) | (simp only [ml]; rfl))
                  · conv => lhs; whnf
                    refine t_cond ?_ ?_
                    · conv => lhs; whnf
                      refine t_cond ?_ ?_
                      · conv => lhs; whnf
                        exact hrec1 ((v01, v11, v71, v81, v91, wr IntKind.i64 (iadd v10 1), b0_01, b0_11, b1_01, b1_11)) _ _ (by first | rfl | (simp only [ml]; done) | (simp only [ml]; rfl)) (by first | rfl | (simp only [ml]; done) | (simp only [ml]; rfl))
                      · conv => lhs; whnf
                        refine t_call (h_spec_pgCommon (wr IntKind.i64 (iquo (wr IntKind.i64 (isub (wr IntKind.i64 (imul v91 b1_11)) (wr IntKind.i64 (imul v10 b0_11)))) v71)) (wr IntKind.i64 (iquo (wr IntKind.i64 (isub (wr IntKind.i64 (imul v10 b0_01)) (wr IntKind.i64 (imul v91 b1_01)))) v71))) fun r => ?_
                        conv => lhs; whnf
                        refine t_cond ?_ ?_
                        · conv => lhs; whnf
                          exact hrec1 ((v01, v11, v71, v81, v91, wr IntKind.i64 (iadd v10 1), b0_01, b0_11, b1_01, b1_11)) _ _ (by first | rfl | (simp only [ml]; done) | (simp only [ml]; rfl)) (by first | rfl | (simp only [ml]; done) | (simp only [ml]; rfl))
                        · conv => lhs; whnf
                          refine t_call (h_spec_wiWidth _ _ _ v01 (by first | rfl | (simp only [ml]; done) | (simp only [ml]; rfl)) (wr IntKind.i64 (iquo (wr IntKind.i64 (isub (wr IntKind.i64 (imul v91 b1_11)) (wr IntKind.i64 (imul v10 b0_11)))) v71)) (wr IntKind.i64 (iquo (wr IntKind.i64 (isub (wr IntKind.i64 (imul v10 b0_01)) (wr IntKind.i64 (imul v91 b1_01)))) v71))) fun r1 => ?_
                          conv => lhs; whnf
                          refine t_cond ?_ ?_
                          · conv => lhs; whnf
                            exact hrec1 ((v01, v11, v71, v81, v91, wr IntKind.i64 (iadd v10 1), b0_01, b0_11, b1_01, b1_11)) _ _ (by first | rfl | (simp only [ml]; done) | (simp only [ml]; rfl)) (by first | rfl | (simp only [ml]; done) | (simp only [ml]; rfl))
                          · conv => lhs; whnf
                            refine t_loop (fun (v15 : Int) => (AV.lst oa ca 2 (List.map ep v01) :: AV.int IntKind.i64 v11 :: topA 3 (AV.ptr 0 0 0 2 :: AV.ptr 1 0 0 2 :: AV.int IntKind.i64 v71 :: AV.lst false false 1 (List.map eLI v81) :: AV.int IntKind.i64 v91 :: AV.int IntKind.i64 v10 :: topA 2 (AV.int IntKind.i64 (wr IntKind.i64 (iquo (wr IntKind.i64 (isub (wr IntKind.i64 (imul v91 b1_11)) (wr IntKind.i64 (imul v10 b0_11)))) v71)) :: AV.int IntKind.i64 (wr IntKind.i64 (iquo (wr IntKind.i64 (isub (wr IntKind.i64 (imul v10 b0_01)) (wr IntKind.i64 (imul v91 b1_01)))) v71)) :: AV.int IntKind.i64 v15 :: tops 177)), [Blk.box (AV.agg [AV.int IntKind.i64 b0_01, AV.int IntKind.i64 b0_11]), Blk.box (AV.agg [AV.int IntKind.i64 b1_01, AV.int IntKind.i64 b1_11])])) (fun m2 (v15 : Int) => spec_wiAll_l2 L (spec_wiAll_l1 L (spec_wiAll_l0 L m) m1) v01 v11 v71 v81 v91 v10 b0_01 b0_11 b1_01 b1_11 m2 v15) (fun _ => rfl) (fun m2 v15 rec2 hrec2 => ?_) L (ilen (List.map eLI v81)) ?_ ?_
                            rotate_left
                            · first | rfl | (simp only [ml]; done) | (simp only [ml]; rfl)
                            · first | rfl | (simp only [ml]; done) | (simp only [ml]; rfl)
                            show _ = Option.map _ (spec_wiAll_l2 L (spec_wiAll_l1 L (spec_wiAll_l0 L m) m1) v01 v11 v71 v81 v91 v10 b0_01 b0_11 b1_01 b1_11 (m2 + 1) v15)
                            rw [spec_wiAll_l2.eq_2]
                            conv => lhs; whnf
                            refine t_cond ?_ ?_
                            · conv => lhs; whnf
                              refine t_get (en := eLI) (l := v81) (by first | rfl | (simp only [ml]; done) | (simp only [ml]; rfl)) fun p8 => ?_
                              conv => lhs; whnf
                              refine t_get (en := eI) (l := p8) (by first | rfl | (simp only [ml]; done) | (simp only [ml]; rfl)) fun p9 => ?_
                              conv => lhs; whnf
                              refine t_cond ?_ ?_
                              · conv => lhs; whnf
                                exact hrec2 (wr IntKind.i64 (isub v15 1)) _ _ (by first | rfl | (simp only [ml]; done) | (simp only [ml]; rfl)) (by first | rfl | (simp only [ml]; done) | (simp only [ml]; rfl))
                              · conv => lhs; whnf
                                refine t_get (en := eLI) (l := v81) (by first | rfl | (simp only [ml]; done) | (simp only [ml]; rfl)) fun p10 => ?_
                                conv => lhs; whnf
                                refine t_get (en := eI) (l := p10) (by first | rfl | (simp only [ml]; done) | (simp only [ml]; rfl)) fun p11 => ?_
                                conv => lhs; whnf
                                refine t_cond ?_ ?_
                                · conv => lhs; whnf
                                  refine t_get (en := eLI) (l := v81) (by first | rfl | (simp only [ml]; done) | (simp only [ml]; rfl)) fun p12 => ?_
                                  conv => lhs; whnf
                                  refine t_get (en := eI) (l := p12) (by first | rfl | (simp only [ml]; done) | (simp only [ml]; rfl)) fun p13 => ?_
                                  conv => lhs; whnf
                                  refine t_cond ?_ ?_
                                  · conv => lhs; whnf
                                    exact hrec2 (wr IntKind.i64 (isub v15 1)) _ _ (by first | rfl | (simp only [ml]; done) | (simp only [ml]; rfl)) (by first | rfl | (simp only [ml]; done) | (simp only [ml]; rfl))
                                  · conv => lhs; whnf
                                    refine t_cond ?_ ?_
                                    · conv => lhs; whnf
                                      refine t_cond ?_ ?_
                                      · conv => lhs; whnf
                                        refine t_cond ?_ ?_
                                        · conv => lhs; whnf
                                          refine t_cond ?_ ?_
                                          · conv => lhs; whnf
                                            refine t_cond ?_ ?_
                                            · conv => lhs; whnf
                                              exact hrec1 ((v01, v11, v71, lcat (lcat (lcat [] (lsub v81 0 v15)) ((wr IntKind.i64 (iquo (wr IntKind.i64 (isub (wr IntKind.i64 (imul v91 b1_11)) (wr IntKind.i64 (imul v10 b0_11)))) v71) :: (wr IntKind.i64 (iquo (wr IntKind.i64 (isub (wr IntKind.i64 (imul v10 b0_01)) (wr IntKind.i64 (imul v91 b1_01)))) v71) :: [])) :: [])) (lsub v81 v15 (ilen (List.map eLI v81))), v91, wr IntKind.i64 (iadd v10 1), b0_01, b0_11, b1_01, b1_11)) _ _ (by first | rfl | (simp only [ml]; done) | (simp only [ml]; rfl)) (by first | rfl | (simp only [ml]; done) | (simp only [ml]; rfl))
                                            · conv => lhs; whnf
                                              exact t_none
                                          · conv => lhs; whnf
                                            exact t_none
                                        · conv => lhs; whnf
                                          exact t_none
                                      · conv => lhs; whnf
                                        exact t_none
                                    · conv => lhs; whnf
                                      exact t_none
                                · conv => lhs; whnf
                                  refine t_cond ?_ ?_
                                  · conv => lhs; whnf
                                    refine t_cond ?_ ?_
                                    · conv => lhs; whnf
                                      refine t_cond ?_ ?_
                                      · conv => lhs; whnf
                                        refine t_cond ?_ ?_
                                        · conv => lhs; whnf
                                          refine t_cond ?_ ?_
                                          · conv => lhs; whnf
                                            exact hrec1 ((v01, v11, v71, lcat (lcat (lcat [] (lsub v81 0 v15)) ((wr IntKind.i64 (iquo (wr IntKind.i64 (isub (wr IntKind.i64 (imul v91 b1_11)) (wr IntKind.i64 (imul v10 b0_11)))) v71) :: (wr IntKind.i64 (iquo (wr IntKind.i64 (isub (wr IntKind.i64 (imul v10 b0_01)) (wr IntKind.i64 (imul v91 b1_01)))) v71) :: [])) :: [])) (lsub v81 v15 (ilen (List.map eLI v81))), v91, wr IntKind.i64 (iadd v10 1), b0_01, b0_11, b1_01, b1_11)) _ _ (by first | rfl | (simp only [ml]; done) | (simp only [ml]; rfl)) (by first | rfl | (simp only [ml]; done) | (simp only [ml]; rfl))
                                          · conv => lhs; whnf
                                            exact t_none
                                        · conv => lhs; whnf
                                          exact t_none
                                      · conv => lhs; whnf
                                        exact t_none
                                    · conv => lhs; whnf
                                      exact t_none
                                  · conv => lhs; whnf
                                    exact t_none
                            · conv => lhs; whnf
                              refine t_cond ?_ ?_
                              · conv => lhs; whnf
                                refine t_cond ?_ ?_
                                · conv => lhs; whnf
                                  refine t_cond ?_ ?_
                                  · conv => lhs; whnf
                                    refine t_cond ?_ ?_
                                    · conv => lhs; whnf
                                      refine t_cond ?_ ?_
                                      · conv => lhs; whnf
                                        exact hrec1 ((v01, v11, v71, lcat (lcat (lcat [] (lsub v81 0 v15)) ((wr IntKind.i64 (iquo (wr IntKind.i64 (isub (wr IntKind.i64 (imul v91 b1_11)) (wr IntKind.i64 (imul v10 b0_11)))) v71) :: (wr IntKind.i64 (iquo (wr IntKind.i64 (isub (wr IntKind.i64 (imul v10 b0_01)) (wr IntKind.i64 (imul v91 b1_01)))) v71) :: [])) :: [])) (lsub v81 v15 (ilen (List.map eLI v81))), v91, wr IntKind.i64 (iadd v10 1), b0_01, b0_11, b1_01, b1_11)) _ _ (by first | rfl | (simp only [ml]; done) | (simp only [ml]; rfl)) (by first | rfl | (simp only [ml]; done) | (simp only [ml]; rfl))
                                      · conv => lhs; whnf
                                        exact t_none
                                    · conv => lhs; whnf
                                      exact t_none
                                  · conv => lhs; whnf
                                    exact t_none
                                · conv => lhs; whnf
                                  exact t_none
                              · conv => lhs; whnf
                                exact t_none
                    · conv => lhs; whnf
                      refine t_call (h_spec_pgCommon (wr IntKind.i64 (iquo (wr IntKind.i64 (isub (wr IntKind.i64 (imul v91 b1_11)) (wr IntKind.i64 (imul v10 b0_11)))) v71)) (wr IntKind.i64 (iquo (wr IntKind.i64 (isub (wr IntKind.i64 (imul v10 b0_01)) (wr IntKind.i64 (imul v91 b1_01)))) v71))) fun r2 => ?_
                      conv => lhs; whnf
                      refine t_cond ?_ ?_
                      · conv => lhs; whnf
                        exact hrec1 ((v01, v11, v71, v81, v91, wr IntKind.i64 (iadd v10 1), b0_01, b0_11, b1_01, b1_11)) _ _ (by first | rfl | (simp only [ml]; done) | (simp only [ml]; rfl)) (by first | rfl | (simp only [ml]; done) | (simp only [ml]; rfl))
                      · conv => lhs; whnf
                        refine t_call (h_spec_wiWidth _ _ _ v01 (by first | rfl | (simp only [ml]; done) | (simp only [ml]; rfl)) (wr IntKind.i64 (iquo (wr IntKind.i64 (isub (wr IntKind.i64 (imul v91 b1_11)) (wr IntKind.i64 (imul v10 b0_11)))) v71)) (wr IntKind.i64 (iquo (wr IntKind.i64 (isub (wr IntKind.i64 (imul v10 b0_01)) (wr IntKind.i64 (imul v91 b1_01)))) v71))) fun r3 => ?_
                        conv => lhs; whnf
                        refine t_cond ?_ ?_
                        · conv => lhs; whnf
                          exact hrec1 ((v01, v11, v71, v81, v91, wr IntKind.i64 (iadd v10 1), b0_01, b0_11, b1_01, b1_11)) _ _ (by first | rfl | (simp only [ml]; done) | (simp only [ml]; rfl)) (by first | rfl | (simp only [ml]; done) | (simp only [ml]; rfl))
                        · conv => lhs; whnf
                          refine t_loop (fun (v151 : Int) => (AV.lst oa ca 2 (List.map ep v01) :: AV.int IntKind.i64 v11 :: topA 3 (AV.ptr 0 0 0 2 :: AV.ptr 1 0 0 2 :: AV.int IntKind.i64 v71 :: AV.lst false false 1 (List.map eLI v81) :: AV.int IntKind.i64 v91 :: AV.int IntKind.i64 v10 :: topA 2 (AV.int IntKind.i64 (wr IntKind.i64 (iquo (wr IntKind.i64 (isub (wr IntKind.i64 (imul v91 b1_11)) (wr IntKind.i64 (imul v10 b0_11)))) v71)) :: AV.int IntKind.i64 (wr IntKind.i64 (iquo (wr IntKind.i64 (isub (wr IntKind.i64 (imul v10 b0_01)) (wr IntKind.i64 (imul v91 b1_01)))) v71)) :: AV.int IntKind.i64 v151 :: tops 177)), [Blk.box (AV.agg [AV.int IntKind.i64 b0_01, AV.int IntKind.i64 b0_11]), Blk.box (AV.agg [AV.int IntKind.i64 b1_01, AV.int IntKind.i64 b1_11])])) (fun m3 (v151 : Int) => spec_wiAll_l3 L (spec_wiAll_l1 L (spec_wiAll_l0 L m) m1) v01 v11 v71 v81 v91 v10 b0_01 b0_11 b1_01 b1_11 m3 v151) (fun _ => rfl) (fun m3 v151 rec3 hrec3 => ?_) L (ilen (List.map eLI v81)) ?_ ?_
                          rotate_left
                          · first | rfl | (simp only [ml]; done) | (simp only [ml]; rfl)
                          · first | rfl | (simp only [ml]; done) | (simp only [ml]; rfl)
                          show _ = Option.map _ (spec_wiAll_l3 L (spec_wiAll_l1 L (spec_wiAll_l0 L m) m1) v01 v11 v71 v81 v91 v10 b0_01 b0_11 b1_01 b1_11 (m3 + 1) v151)
                          rw [spec_wiAll_l3.eq_2]
                          conv => lhs; whnf
                          refine t_cond ?_ ?_
                          · conv => lhs; whnf
                            refine t_get (en := eLI) (l := v81) (by first | rfl | (simp only [ml]; done) | (simp only [ml]; rfl)) fun p14 => ?_
                            conv => lhs; whnf
                            refine t_get (en := eI) (l := p14) (by first | rfl | (simp only [ml]; done) | (simp only [ml]; rfl)) fun p15 => ?_
                            conv => lhs; whnf
                            refine t_cond ?_ ?_
                            · conv => lhs; whnf
                              exact hrec3 (wr IntKind.i64 (isub v151 1)) _ _ (by first | rfl | (simp only [ml]; done) | (simp only [ml]; rfl)) (by first | rfl | (simp only [ml]; done) | (simp only [ml]; rfl))
                            · conv => lhs; whnf
                              refine t_get (en := eLI) (l := v81) (by first | rfl | (simp only [ml]; done) | (simp only [ml]; rfl)) fun p16 => ?_
                              conv => lhs; whnf
                              refine t_get (en := eI) (l := p16) (by first | rfl | (simp only [ml]; done) | (simp only [ml]; rfl)) fun p17 => ?_
                              conv => lhs; whnf
                              refine t_cond ?_ ?_
                              · conv => lhs; whnf
                                refine t_get (en := eLI) (l := v81) (by first | rfl | (simp only [ml]; done) | (simp only [ml]; rfl)) fun p18 => ?_
                                conv => lhs; whnf
                                refine t_get (en := eI) (l := p18) (by first | rfl | (simp only [ml]; done) | (simp only [ml]; rfl)) fun p19 => ?_
                                conv => lhs; whnf
                                refine t_cond ?_ ?_
                                · conv => lhs; whnf
                                  exact hrec3 (wr IntKind.i64 (isub v151 1)) _ _ (by first | rfl | (simp only [ml]; done) | (simp only [ml]; rfl)) (by first | rfl | (simp only [ml]; done) | (simp only [ml]; rfl))
                                · conv => lhs; whnf
                                  refine t_cond ?_ ?_
                                  · conv => lhs; whnf
                                    refine t_cond ?_ ?_
                                    · conv => lhs; whnf
                                      refine t_cond ?_ ?_
                                      · conv => lhs; whnf
                                        refine t_cond ?_ ?_
                                        · conv => lhs; whnf
                                          refine t_cond ?_ ?_
                                          · conv => lhs; whnf
                                            exact hrec1 ((v01, v11, v71, lcat (lcat (lcat [] (lsub v81 0 v151)) ((wr IntKind.i64 (iquo (wr IntKind.i64 (isub (wr IntKind.i64 (imul v91 b1_11)) (wr IntKind.i64 (imul v10 b0_11)))) v71) :: (wr IntKind.i64 (iquo (wr IntKind.i64 (isub (wr IntKind.i64 (imul v10 b0_01)) (wr IntKind.i64 (imul v91 b1_01)))) v71) :: [])) :: [])) (lsub v81 v151 (ilen (List.map eLI v81))), v91, wr IntKind.i64 (iadd v10 1), b0_01, b0_11, b1_01, b1_11)) _ _ (by first | rfl | (simp only [ml]; done) | (simp only [ml]; rfl)) (by first | rfl | (simp only [ml]; done) | (simp only [ml]; rfl))
                                          · conv => lhs; whnf
                                            exact t_none
                                        · conv => lhs; whnf
                                          exact t_none
                                      · conv => lhs; whnf
                                        exact t_none
                                    · conv => lhs; whnf
                                      exact t_none
                                  · conv => lhs; whnf
                                    exact t_none
                              · conv => lhs; whnf
                                refine t_cond ?_ ?_
                                · conv => lhs; whnf
                                  refine t_cond ?_ ?_
                                  · conv => lhs; whnf
                                    refine t_cond ?_ ?_
                                    · conv => lhs; whnf
                                      refine t_cond ?_ ?_
                                      · conv => lhs; whnf
                                        refine t_cond ?_ ?_
                                        · conv => lhs; whnf
                                          exact hrec1 ((v01, v11, v71, lcat (lcat (lcat [] (lsub v81 0 v151)) ((wr IntKind.i64 (iquo (wr IntKind.i64 (isub (wr IntKind.i64 (imul v91 b1_11)) (wr IntKind.i64 (imul v10 b0_11)))) v71) :: (wr IntKind.i64 (iquo (wr IntKind.i64 (isub (wr IntKind.i64 (imul v10 b0_01)) (wr IntKind.i64 (imul v91 b1_01)))) v71) :: [])) :: [])) (lsub v81 v151 (ilen (List.map eLI v81))), v91, wr IntKind.i64 (iadd v10 1), b0_01, b0_11, b1_01, b1_11)) _ _ (by first | rfl | (simp only [ml]; done) | (simp only [ml]; rfl)) (by first | rfl | (simp only [ml]; done) | (simp only [ml]; rfl))
                                        · conv => lhs; whnf
                                          exact t_none
                                      · conv => lhs; whnf
                                        exact t_none
                                    · conv => lhs; whnf
                                      exact t_none
                                  · conv => lhs; whnf
                                    exact t_none
                                · conv => lhs; whnf
                                  exact t_none
                          · conv => lhs; whnf
                            refine t_cond ?_ ?_
                            · conv => lhs; whnf
                              refine t_cond ?_ ?_
                              · conv => lhs; whnf
                                refine t_cond ?_ ?_
                                · conv => lhs; whnf
                                  refine t_cond ?_ ?_
                                  · conv => lhs; whnf
                                    refine t_cond ?_ ?_
                                    · conv => lhs; whnf
                                      exact hrec1 ((v01, v11, v71, lcat (lcat (lcat [] (lsub v81 0 v151)) ((wr IntKind.i64 (iquo (wr IntKind.i64 (isub (wr IntKind.i64 (imul v91 b1_11)) (wr IntKind.i64 (imul v10 b0_11)))) v71) :: (wr IntKind.i64 (iquo (wr IntKind.i64 (isub (wr IntKind.i64 (imul v10 b0_01)) (wr IntKind.i64 (imul v91 b1_01)))) v71) :: [])) :: [])) (lsub v81 v151 (ilen (List.map eLI v81))), v91, wr IntKind.i64 (iadd v10 1), b0_01, b0_11, b1_01, b1_11)) _ _ (by first | rfl | (simp only [ml]; done) | (simp only [ml]; rfl)) (by first | rfl | (simp only [ml]; done) | (simp only [ml]; rfl))
                                    · conv => lhs; whnf
                                      exact t_none
                                  · conv => lhs; whnf
                                    exact t_none
                                · conv => lhs; whnf
                                  exact t_none
                              · conv => lhs; whnf
                                exact t_none
                            · conv => lhs; whnf
                              exact t_none
    · conv => lhs; whnf
      exact hrec ((v01, v11, v71, v81, wr IntKind.i64 (iadd v91 1), b0_01, b0_11, b1_01, b1_11)) _ _ (by first | rfl | (simp only [ml]; done) | (simp only [ml]; rfl)) (by first | rfl | (simp only [ml]; done) | (simp only [ml]; rfl))
  · conv => lhs; whnf
    exact t_ret (by first | rfl | (simp only [ml]; done) | (simp only [ml]; rfl))


noncomputable def impl_within (L : Nat) (a : Int) (b : Int) (c : Int) : Option (Bool) := bif ile b a then (some (ile a c)) else (some false)


def impl_within_ok (L : Nat) (C : CF) : Prop := ∀ (a : Int) (b : Int) (c : Int), C 59 ([.int .i64 a, .int .i64 b, .int .i64 c]) ([]) = Option.map (fun r : Bool => ((.bool r, []) : AV × List Blk)) (impl_within L a b c)


theorem impl_within_run (L : Nat) (C : CF) : ∀ (a : Int) (b : Int) (c : Int), run T C sh (keep 59) L Try.f59 ([.int .i64 a, .int .i64 b, .int .i64 c]) ([]) = Option.map (fun r : Bool => ((.bool r, []) : AV × List Blk)) (impl_within L a b c) := by
  intro a b c
  unfold impl_within
  conv => lhs; whnf
  refine t_cond ?_ ?_
  · conv => lhs; whnf
    exact t_ret (by first | rfl | (simp only [ml]; done) | (simp only [ml]; rfl))
  · conv => lhs; whnf
    exact t_ret (by first | rfl | (simp only [ml]; done) | (simp only [ml]; rfl))


noncomputable def impl_IsPeg (L : Nat) (a_0 : Int) (a_1 : Int) : Option (Bool) := gbind (impl_within L a_0 (-40) 40) fun r => bif r then (gbind (impl_within L a_1 (-40) 40) fun r1 => some r1) else (some false)


def impl_IsPeg_ok (L : Nat) (C : CF) : Prop := ∀ (a_0 : Int) (a_1 : Int), C 67 ([.agg [.int .i64 a_0, .int .i64 a_1]]) ([]) = Option.map (fun r : Bool => ((.bool r, []) : AV × List Blk)) (impl_IsPeg L a_0 a_1)


theorem impl_IsPeg_run (L : Nat) (C : CF) (h_impl_within : impl_within_ok L C) : ∀ (a_0 : Int) (a_1 : Int), run T C sh (keep 67) L Try.f67 ([.agg [.int .i64 a_0, .int .i64 a_1]]) ([]) = Option.map (fun r : Bool => ((.bool r, []) : AV × List Blk)) (impl_IsPeg L a_0 a_1) := by
  intro a_0 a_1
  unfold impl_IsPeg
  conv => lhs; whnf
  refine t_call (h_impl_within a_0 (-40) 40) fun r => ?_
  conv => lhs; whnf
  refine t_cond ?_ ?_
  · conv => lhs; whnf
    refine t_call (h_impl_within a_1 (-40) 40) fun r1 => ?_
    conv => lhs; whnf
    exact t_ret (by first | rfl | (simp only [ml]; done) | (simp only [ml]; rfl))
  · conv => lhs; whnf
    exact t_ret (by first | rfl | (simp only [ml]; done) | (simp only [ml]; rfl))


noncomputable def impl_arePegs_1 (L : Nat) (a_0 : Int) (a_1 : Int) : Option (Bool) := gbind (impl_IsPeg L a_0 a_1) fun r => some (!r)


def impl_arePegs_1_ok (L : Nat) (C : CF) : Prop := ∀ (a_0 : Int) (a_1 : Int), C 159 ([.agg [.int .i64 a_0, .int .i64 a_1]]) ([]) = Option.map (fun r : Bool => ((.bool r, []) : AV × List Blk)) (impl_arePegs_1 L a_0 a_1)


theorem impl_arePegs_1_run (L : Nat) (C : CF) (h_impl_IsPeg : impl_IsPeg_ok L C) : ∀ (a_0 : Int) (a_1 : Int), run T C sh (keep 159) L Try.f159 ([.agg [.int .i64 a_0, .int .i64 a_1]]) ([]) = Option.map (fun r : Bool => ((.bool r, []) : AV × List Blk)) (impl_arePegs_1 L a_0 a_1) := by
  intro a_0 a_1
  unfold impl_arePegs_1
  conv => lhs; whnf
  refine t_call (h_impl_IsPeg a_0 a_1) fun r => ?_
  conv => lhs; whnf
  exact t_ret (by first | rfl | (simp only [ml]; done) | (simp only [ml]; rfl))


noncomputable def impl_value (L : Nat) (a_0 : Int) (a_1 : Int) (b_0 : Int) (b_1 : Int) : Option (Int) := some (wr IntKind.i64 (iadd (wr IntKind.i64 (imul a_0 b_0)) (wr IntKind.i64 (imul a_1 b_1))))


def impl_value_ok (L : Nat) (C : CF) : Prop := ∀ (a_0 : Int) (a_1 : Int) (b_0 : Int) (b_1 : Int), C 187 ([.agg [.int .i64 a_0, .int .i64 a_1], .agg [.int .i64 b_0, .int .i64 b_1]]) ([]) = Option.map (fun r : Int => ((.int .i64 r, []) : AV × List Blk)) (impl_value L a_0 a_1 b_0 b_1)


theorem impl_value_run (L : Nat) (C : CF) : ∀ (a_0 : Int) (a_1 : Int) (b_0 : Int) (b_1 : Int), run T C sh (keep 187) L Try.f187 ([.agg [.int .i64 a_0, .int .i64 a_1], .agg [.int .i64 b_0, .int .i64 b_1]]) ([]) = Option.map (fun r : Int => ((.int .i64 r, []) : AV × List Blk)) (impl_value L a_0 a_1 b_0 b_1) := by
  intro a_0 a_1 b_0 b_1
  unfold impl_value
  conv => lhs; whnf
  exact t_ret (by first | rfl | (simp only [ml]; done) | (simp only [ml]; rfl))


noncomputable def impl_extent_l0 (L : Nat) (a : List Pt) (b_0 : Int) (b_1 : Int) : Nat → Int → Int → Int → Option (Int × Int)
  | 0, _, _, _ => none
  | m + 1, v6, v7, v18 => bif ilt v18 (ilen (List.map ep a)) then (gbind (lget a v18) fun p1 => gbind (impl_value L b_0 b_1 (Pt.x p1) (Pt.y p1)) fun r1 => gbind (impl_value L b_0 b_1 (Pt.x p1) (Pt.y p1)) fun r2 => impl_extent_l0 L a b_0 b_1 m (imin v6 r1) (imax v7 r2) (wr IntKind.i64 (iadd v18 1))) else (some ((v6, v7)))


noncomputable def impl_extent (L : Nat) (a : List Pt) (b_0 : Int) (b_1 : Int) : Option (Int × Int) := gbind (lget a 0) fun p => gbind (impl_value L b_0 b_1 (Pt.x p) (Pt.y p)) fun r => impl_extent_l0 L a b_0 b_1 L r r 0


def impl_extent_ok (L : Nat) (C : CF) : Prop := ∀ (oa : Bool) (ca : Bool) (x_a : List AV) (a : List Pt) (_ : x_a = List.map ep a) (b_0 : Int) (b_1 : Int), C 160 ([.lst oa ca 2 x_a, .agg [.int .i64 b_0, .int .i64 b_1]]) ([]) = Option.map (fun r : Int × Int => ((.tup [.int .i64 (r.1), .int .i64 (r.2)], []) : AV × List Blk)) (impl_extent L a b_0 b_1)


theorem impl_extent_run (L : Nat) (C : CF) (h_impl_value : impl_value_ok L C) : ∀ (oa : Bool) (ca : Bool) (x_a : List AV) (a : List Pt) (_ : x_a = List.map ep a) (b_0 : Int) (b_1 : Int), run T C sh (keep 160) L Try.f160 ([.lst oa ca 2 x_a, .agg [.int .i64 b_0, .int .i64 b_1]]) ([]) = Option.map (fun r : Int × Int => ((.tup [.int .i64 (r.1), .int .i64 (r.2)], []) : AV × List Blk)) (impl_extent L a b_0 b_1) := by
  intro oa ca x_a a hx_a b_0 b_1
  subst hx_a
  unfold impl_extent
  conv => lhs; whnf
  refine t_get (en := ep) (l := a) (by first | rfl | (simp only [ml]; done) | (simp only [ml]; rfl)) fun p => ?_
  conv => lhs; whnf
  refine t_call (h_impl_value b_0 b_1 (Pt.x p) (Pt.y p)) fun r => ?_
  conv => lhs; whnf
  refine t_loop (fun (⟨v6, v7, v18⟩ : Int × Int × Int) => (topA 3 (AV.ptr 0 0 0 2 :: topA 2 (AV.int IntKind.i64 v6 :: AV.int IntKind.i64 v7 :: topA 8 (AV.lst oa ca 2 (List.map ep a) :: AV.int IntKind.i64 (ilen (List.map ep a)) :: AV.int IntKind.i64 v18 :: tops 16))), [Blk.box (AV.agg [AV.int IntKind.i64 b_0, AV.int IntKind.i64 b_1])])) (fun m (⟨v6, v7, v18⟩ : Int × Int × Int) => impl_extent_l0 L a b_0 b_1 m v6 v7 v18) (fun _ => rfl) (fun m s rec hrec => ?_) L ((r, r, 0)) ?_ ?_
  rotate_left
  · first | rfl | (simp only [ml]; done) | (simp only [ml]; rfl)
  · first | rfl | (simp only [ml]; done) | (simp only [ml]; rfl)
  obtain ⟨v6, v7, v18⟩ := s
  show _ = Option.map _ (impl_extent_l0 L a b_0 b_1 (m + 1) v6 v7 v18)
  rw [impl_extent_l0.eq_2]
  conv => lhs; whnf
  refine t_cond ?_ ?_
  · conv => lhs; whnf
    refine t_get (en := ep) (l := a) (by first | rfl | (simp only [ml]; done) | (simp only [ml]; rfl)) fun p1 => ?_
    conv => lhs; whnf
    refine t_call (h_impl_value b_0 b_1 (Pt.x p1) (Pt.y p1)) fun r1 => ?_
    conv => lhs; whnf
    refine t_call (h_impl_value b_0 b_1 (Pt.x p1) (Pt.y p1)) fun r2 => ?_
    conv => lhs; whnf
    exact hrec ((imin v6 r1, imax v7 r2, wr IntKind.i64 (iadd v18 1))) _ _ (by first | rfl | (simp only [ml]; done) | (simp only [ml]; rfl)) (by first | rfl | (simp only [ml]; done) | (simp only [ml]; rfl))
  · conv => lhs; whnf
    exact t_ret (by first | rfl | (simp only [ml]; done) | (simp only [ml]; rfl))


noncomputable def impl_width (L : Nat) (a : List Pt) (b_0 : Int) (b_1 : Int) : Option (Int) := gbind (impl_extent L a b_0 b_1) fun r => some (wr IntKind.i64 (isub (Prod.snd r) (Prod.fst r)))


def impl_width_ok (L : Nat) (C : CF) : Prop := ∀ (oa : Bool) (ca : Bool) (x_a : List AV) (a : List Pt) (_ : x_a = List.map ep a) (b_0 : Int) (b_1 : Int), C 115 ([.lst oa ca 2 x_a, .agg [.int .i64 b_0, .int .i64 b_1]]) ([]) = Option.map (fun r : Int => ((.int .i64 r, []) : AV × List Blk)) (impl_width L a b_0 b_1)


theorem impl_width_run (L : Nat) (C : CF) (h_impl_extent : impl_extent_ok L C) : ∀ (oa : Bool) (ca : Bool) (x_a : List AV) (a : List Pt) (_ : x_a = List.map ep a) (b_0 : Int) (b_1 : Int), run T C sh (keep 115) L Try.f115 ([.lst oa ca 2 x_a, .agg [.int .i64 b_0, .int .i64 b_1]]) ([]) = Option.map (fun r : Int => ((.int .i64 r, []) : AV × List Blk)) (impl_width L a b_0 b_1) := by
  intro oa ca x_a a hx_a b_0 b_1
  subst hx_a
  unfold impl_width
  conv => lhs; whnf
  refine t_call (h_impl_extent _ _ _ a (by first | rfl | (simp only [ml]; done) | (simp only [ml]; rfl)) b_0 b_1) fun r => ?_
  conv => lhs; whnf
  exact t_ret (by first | rfl | (simp only [ml]; done) | (simp only [ml]; rfl))


noncomputable def impl_least_1_v2 (L : Nat) (a_0 : Int) (a_1 : Int) (b : List Pt) (c : Int) : Option (Bool) := gbind (impl_width L b a_0 a_1) fun r => some (ilt c r)


def impl_least_1_v2_ok (L : Nat) (C : CF) : Prop := ∀ (a_0 : Int) (a_1 : Int) (ob : Bool) (cb : Bool) (x_b : List AV) (b : List Pt) (_ : x_b = List.map ep b) (c : Int), C 129 ([(.agg [(.int .i64 a_0), (.int .i64 a_1)]), (.at (.lst ob cb 2 x_b) 0), (.at (.int .i64 c) 0)]) ([]) = Option.map (fun r : Bool => ((.bool r, []) : AV × List Blk)) (impl_least_1_v2 L a_0 a_1 b c)


theorem impl_least_1_v2_run (L : Nat) (C : CF) (h_impl_width : impl_width_ok L C) : ∀ (a_0 : Int) (a_1 : Int) (ob : Bool) (cb : Bool) (x_b : List AV) (b : List Pt) (_ : x_b = List.map ep b) (c : Int), run T C sh (keep 129) L Try.f129 ([(.agg [(.int .i64 a_0), (.int .i64 a_1)]), (.at (.lst ob cb 2 x_b) 0), (.at (.int .i64 c) 0)]) ([]) = Option.map (fun r : Bool => ((.bool r, []) : AV × List Blk)) (impl_least_1_v2 L a_0 a_1 b c) := by
  intro a_0 a_1 ob cb x_b b hx_b c
  subst hx_b
  unfold impl_least_1_v2
  conv => lhs; whnf
  refine t_call (h_impl_width _ _ _ b (by first | rfl | (simp only [ml]; done) | (simp only [ml]; rfl)) a_0 a_1) fun r => ?_
  conv => lhs; whnf
  exact t_ret (by first | rfl | (simp only [ml]; done) | (simp only [ml]; rfl))


noncomputable def slices_IndexFunc_impl_Peg_impl_Peg_172_arePegs_l0 (L : Nat) (a : List Pt) : Nat → Int → Option Int
  | 0, _ => none
  | m + 1, v8 => bif ilt v8 (ilen (List.map ep a)) then (gbind (lget a v8) fun p => gbind (impl_arePegs_1 L (Pt.x p) (Pt.y p)) fun r => bif r then (some v8) else (slices_IndexFunc_impl_Peg_impl_Peg_172_arePegs_l0 L a m (wr IntKind.i64 (iadd v8 1)))) else (some (-1))


noncomputable def slices_IndexFunc_impl_Peg_impl_Peg_172_arePegs (L : Nat) (a : List Pt) : Option (Int) := slices_IndexFunc_impl_Peg_impl_Peg_172_arePegs_l0 L a L 0


def slices_IndexFunc_impl_Peg_impl_Peg_172_arePegs_ok (L : Nat) (C : CF) : Prop := ∀ (o1 : Bool) (c1 : Bool) (x_a : List AV) (a : List Pt) (_ : x_a = List.map ep a), C 172 ([.lst o1 c1 2 x_a, .fn 159 [] []]) ([]) = Option.map (fun r : Int => ((.int .i64 r, []) : AV × List Blk)) (slices_IndexFunc_impl_Peg_impl_Peg_172_arePegs L a)


theorem slices_IndexFunc_impl_Peg_impl_Peg_172_arePegs_run (L : Nat) (C : CF) (h_impl_arePegs_1 : impl_arePegs_1_ok L C) : ∀ (o1 : Bool) (c1 : Bool) (x_a : List AV) (a : List Pt) (_ : x_a = List.map ep a), run T C sh (keep 172) L Try.f172 ([.lst o1 c1 2 x_a, .fn 159 [] []]) ([]) = Option.map (fun r : Int => ((.int .i64 r, []) : AV × List Blk)) (slices_IndexFunc_impl_Peg_impl_Peg_172_arePegs L a) := by
  intro o1 c1 x_a a hx_a
  subst hx_a
  unfold slices_IndexFunc_impl_Peg_impl_Peg_172_arePegs
  conv => lhs; whnf
  refine t_loop (fun (v8 : Int) => (AV.lst o1 c1 2 (List.map ep a) :: AV.fn 159 [] [] :: topA 5 (AV.int IntKind.i64 (ilen (List.map ep a)) :: AV.int IntKind.i64 v8 :: tops 10), [])) (fun m (v8 : Int) => slices_IndexFunc_impl_Peg_impl_Peg_172_arePegs_l0 L a m v8) (fun _ => rfl) (fun m v8 rec hrec => ?_) L 0 ?_ ?_
  rotate_left
  · first | rfl | (simp only [ml]; done) | (simp only [ml]; rfl)
  · first | rfl | (simp only [ml]; done) | (simp only [ml]; rfl)
  show _ = Option.map _ (slices_IndexFunc_impl_Peg_impl_Peg_172_arePegs_l0 L a (m + 1) v8)
  rw [slices_IndexFunc_impl_Peg_impl_Peg_172_arePegs_l0.eq_2]
  conv => lhs; whnf
  refine t_cond ?_ ?_
  · conv => lhs; whnf
    refine t_get (en := ep) (l := a) (by first | rfl | (simp only [ml]; done) | (simp only [ml]; rfl)) fun p => ?_
    conv => lhs; whnf
    refine t_call (h_impl_arePegs_1 (Pt.x p) (Pt.y p)) fun r => ?_
    conv => lhs; whnf
    refine t_cond ?_ ?_
    · conv => lhs; whnf
      exact t_ret (by first | rfl | (simp only [ml]; done) | (simp only [ml]; rfl))
    · conv => lhs; whnf
      exact hrec (wr IntKind.i64 (iadd v8 1)) _ _ (by first | rfl | (simp only [ml]; done) | (simp only [ml]; rfl)) (by first | rfl | (simp only [ml]; done) | (simp only [ml]; rfl))
  · conv => lhs; whnf
    exact t_ret (by first | rfl | (simp only [ml]; done) | (simp only [ml]; rfl))


noncomputable def slices_IndexFunc_impl_Peg_impl_Peg_172_impl_least_1_l0 (L : Nat) (a : List Pt) (b_c0 : List Pt) (b_c1 : Int) : Nat → Int → Option Int
  | 0, _ => none
  | m + 1, v8 => bif ilt v8 (ilen (List.map ep a)) then (gbind (lget a v8) fun p => gbind (impl_least_1_v2 L (Pt.x p) (Pt.y p) b_c0 b_c1) fun r => bif r then (some v8) else (slices_IndexFunc_impl_Peg_impl_Peg_172_impl_least_1_l0 L a b_c0 b_c1 m (wr IntKind.i64 (iadd v8 1)))) else (some (-1))


noncomputable def slices_IndexFunc_impl_Peg_impl_Peg_172_impl_least_1 (L : Nat) (a : List Pt) (b_c0 : List Pt) (b_c1 : Int) : Option (Int) := slices_IndexFunc_impl_Peg_impl_Peg_172_impl_least_1_l0 L a b_c0 b_c1 L 0


def slices_IndexFunc_impl_Peg_impl_Peg_172_impl_least_1_ok (L : Nat) (C : CF) : Prop := ∀ (x_a : List AV) (a : List Pt) (_ : x_a = List.map ep a) (ob_c0 : Bool) (cb_c0 : Bool) (x_b_c0 : List AV) (b_c0 : List Pt) (_ : x_b_c0 = List.map ep b_c0) (b_c1 : Int), C 172 ([(.lst true false 2 x_a), (.fn 129 [] [(.at (.lst ob_c0 cb_c0 2 x_b_c0) 0), (.at (.int .i64 b_c1) 0)])]) ([]) = Option.map (fun r : Int => ((.int .i64 r, []) : AV × List Blk)) (slices_IndexFunc_impl_Peg_impl_Peg_172_impl_least_1 L a b_c0 b_c1)


theorem slices_IndexFunc_impl_Peg_impl_Peg_172_impl_least_1_run (L : Nat) (C : CF) (h_impl_least_1_v2 : impl_least_1_v2_ok L C) : ∀ (x_a : List AV) (a : List Pt) (_ : x_a = List.map ep a) (ob_c0 : Bool) (cb_c0 : Bool) (x_b_c0 : List AV) (b_c0 : List Pt) (_ : x_b_c0 = List.map ep b_c0) (b_c1 : Int), run T C sh (keep 172) L Try.f172 ([(.lst true false 2 x_a), (.fn 129 [] [(.at (.lst ob_c0 cb_c0 2 x_b_c0) 0), (.at (.int .i64 b_c1) 0)])]) ([]) = Option.map (fun r : Int => ((.int .i64 r, []) : AV × List Blk)) (slices_IndexFunc_impl_Peg_impl_Peg_172_impl_least_1 L a b_c0 b_c1) := by
  intro x_a a hx_a ob_c0 cb_c0 x_b_c0 b_c0 hx_b_c0 b_c1
  subst hx_a
  subst hx_b_c0
  unfold slices_IndexFunc_impl_Peg_impl_Peg_172_impl_least_1
  conv => lhs; whnf
  refine t_loop (fun (v8 : Int) => (AV.lst true false 2 (List.map ep a) :: AV.fn 129 [] [AV.at (AV.lst ob_c0 cb_c0 2 (List.map ep b_c0)) 0, AV.at (AV.int IntKind.i64 b_c1) 0] :: topA 5 (AV.int IntKind.i64 (ilen (List.map ep a)) :: AV.int IntKind.i64 v8 :: tops 10), [])) (fun m (v8 : Int) => slices_IndexFunc_impl_Peg_impl_Peg_172_impl_least_1_l0 L a b_c0 b_c1 m v8) (fun _ => rfl) (fun m v8 rec hrec => ?_) L 0 ?_ ?_
  rotate_left
  · first | rfl | (simp only [ml]; done) | (simp only [ml]; rfl)
  · first | rfl | (simp only [ml]; done) | (simp only [ml]; rfl)
  show _ = Option.map _ (slices_IndexFunc_impl_Peg_impl_Peg_172_impl_least_1_l0 L a b_c0 b_c1 (m + 1) v8)
  rw [slices_IndexFunc_impl_Peg_impl_Peg_172_impl_least_1_l0.eq_2]
  conv => lhs; whnf
  refine t_cond ?_ ?_
  · conv => lhs; whnf
    refine t_get (en := ep) (l := a) (by first | rfl | (simp only [ml]; done) | (simp only [ml]; rfl)) fun p => ?_
    conv => lhs; whnf
    refine t_call (h_impl_least_1_v2 (Pt.x p) (Pt.y p) _ _ _ b_c0 (by first | rfl | (simp only [ml]; done) | (simp only [ml]; rfl)) b_c1) fun r => ?_
    conv => lhs; whnf
    refine t_cond ?_ ?_
    · conv => lhs; whnf
      exact t_ret (by first | rfl | (simp only [ml]; done) | (simp only [ml]; rfl))
    · conv => lhs; whnf
      exact hrec (wr IntKind.i64 (iadd v8 1)) _ _ (by first | rfl | (simp only [ml]; done) | (simp only [ml]; rfl)) (by first | rfl | (simp only [ml]; done) | (simp only [ml]; rfl))
  · conv => lhs; whnf
    exact t_ret (by first | rfl | (simp only [ml]; done) | (simp only [ml]; rfl))


noncomputable def slices_ContainsFunc_impl_Peg_impl_Peg_158_arePegs (L : Nat) (a : List Pt) : Option (Bool) := gbind (slices_IndexFunc_impl_Peg_impl_Peg_172_arePegs L a) fun r => some (ile 0 r)


def slices_ContainsFunc_impl_Peg_impl_Peg_158_arePegs_ok (L : Nat) (C : CF) : Prop := ∀ (o1 : Bool) (c1 : Bool) (x_a : List AV) (a : List Pt) (_ : x_a = List.map ep a), C 158 ([.lst o1 c1 2 x_a, .fn 159 [] []]) ([]) = Option.map (fun r : Bool => ((.bool r, []) : AV × List Blk)) (slices_ContainsFunc_impl_Peg_impl_Peg_158_arePegs L a)


theorem slices_ContainsFunc_impl_Peg_impl_Peg_158_arePegs_run (L : Nat) (C : CF) (h_slices_IndexFunc_impl_Peg_impl_Peg_172_arePegs : slices_IndexFunc_impl_Peg_impl_Peg_172_arePegs_ok L C) : ∀ (o1 : Bool) (c1 : Bool) (x_a : List AV) (a : List Pt) (_ : x_a = List.map ep a), run T C sh (keep 158) L Try.f158 ([.lst o1 c1 2 x_a, .fn 159 [] []]) ([]) = Option.map (fun r : Bool => ((.bool r, []) : AV × List Blk)) (slices_ContainsFunc_impl_Peg_impl_Peg_158_arePegs L a) := by
  intro o1 c1 x_a a hx_a
  subst hx_a
  unfold slices_ContainsFunc_impl_Peg_impl_Peg_158_arePegs
  conv => lhs; whnf
  refine t_call (h_slices_IndexFunc_impl_Peg_impl_Peg_172_arePegs _ _ _ a (by first | rfl | (simp only [ml]; done) | (simp only [ml]; rfl))) fun r => ?_
  conv => lhs; whnf
  exact t_ret (by first | rfl | (simp only [ml]; done) | (simp only [ml]; rfl))


noncomputable def impl_arePegs (L : Nat) (a : List Pt) : Option (Bool) := gbind (slices_ContainsFunc_impl_Peg_impl_Peg_158_arePegs L a) fun r => some (!r)


def impl_arePegs_ok (L : Nat) (C : CF) : Prop := ∀ (oa : Bool) (ca : Bool) (x_a : List AV) (a : List Pt) (_ : x_a = List.map ep a), C 110 ([.lst oa ca 2 x_a]) ([]) = Option.map (fun r : Bool => ((.bool r, []) : AV × List Blk)) (impl_arePegs L a)


theorem impl_arePegs_run (L : Nat) (C : CF) (h_slices_ContainsFunc_impl_Peg_impl_Peg_158_arePegs : slices_ContainsFunc_impl_Peg_impl_Peg_158_arePegs_ok L C) : ∀ (oa : Bool) (ca : Bool) (x_a : List AV) (a : List Pt) (_ : x_a = List.map ep a), run T C sh (keep 110) L Try.f110 ([.lst oa ca 2 x_a]) ([]) = Option.map (fun r : Bool => ((.bool r, []) : AV × List Blk)) (impl_arePegs L a) := by
  intro oa ca x_a a hx_a
  subst hx_a
  unfold impl_arePegs
  conv => lhs; whnf
  refine t_call (h_slices_ContainsFunc_impl_Peg_impl_Peg_158_arePegs _ _ _ a (by first | rfl | (simp only [ml]; done) | (simp only [ml]; rfl))) fun r => ?_
  conv => lhs; whnf
  exact t_ret (by first | rfl | (simp only [ml]; done) | (simp only [ml]; rfl))


noncomputable def slices_Index_impl_Peg_impl_Peg_l0 (L : Nat) (a : List Pt) (b_0 : Int) (b_1 : Int) : Nat → Int → Option Int
  | 0, _ => none
  | m + 1, v8 => bif ilt v8 (ilen (List.map ep a)) then (gbind (lget a v8) fun p => bif ieq b_0 (Pt.x p) && ieq b_1 (Pt.y p) then (some v8) else (slices_Index_impl_Peg_impl_Peg_l0 L a b_0 b_1 m (wr IntKind.i64 (iadd v8 1)))) else (some (-1))


noncomputable def slices_Index_impl_Peg_impl_Peg (L : Nat) (a : List Pt) (b_0 : Int) (b_1 : Int) : Option (Int) := slices_Index_impl_Peg_impl_Peg_l0 L a b_0 b_1 L 0


def slices_Index_impl_Peg_impl_Peg_ok (L : Nat) (C : CF) : Prop := ∀ (oa : Bool) (ca : Bool) (x_a : List AV) (a : List Pt) (_ : x_a = List.map ep a) (b_0 : Int) (b_1 : Int), C 127 ([.lst oa ca 2 x_a, .agg [.int .i64 b_0, .int .i64 b_1]]) ([]) = Option.map (fun r : Int => ((.int .i64 r, []) : AV × List Blk)) (slices_Index_impl_Peg_impl_Peg L a b_0 b_1)


theorem slices_Index_impl_Peg_impl_Peg_run (L : Nat) (C : CF) : ∀ (oa : Bool) (ca : Bool) (x_a : List AV) (a : List Pt) (_ : x_a = List.map ep a) (b_0 : Int) (b_1 : Int), run T C sh (keep 127) L Try.f127 ([.lst oa ca 2 x_a, .agg [.int .i64 b_0, .int .i64 b_1]]) ([]) = Option.map (fun r : Int => ((.int .i64 r, []) : AV × List Blk)) (slices_Index_impl_Peg_impl_Peg L a b_0 b_1) := by
  intro oa ca x_a a hx_a b_0 b_1
  subst hx_a
  unfold slices_Index_impl_Peg_impl_Peg
  conv => lhs; whnf
  refine t_loop (fun (v8 : Int) => (AV.lst oa ca 2 (List.map ep a) :: topA 2 (AV.ptr 0 0 0 2 :: topA 3 (AV.int IntKind.i64 (ilen (List.map ep a)) :: AV.int IntKind.i64 v8 :: tops 10)), [Blk.box (AV.agg [AV.int IntKind.i64 b_0, AV.int IntKind.i64 b_1])])) (fun m (v8 : Int) => slices_Index_impl_Peg_impl_Peg_l0 L a b_0 b_1 m v8) (fun _ => rfl) (fun m v8 rec hrec => ?_) L 0 ?_ ?_
  rotate_left
  · first | rfl | (simp only [ml]; done) | (simp only [ml]; rfl)
  · first | rfl | (simp only [ml]; done) | (simp only [ml]; rfl)
  show _ = Option.map _ (slices_Index_impl_Peg_impl_Peg_l0 L a b_0 b_1 (m + 1) v8)
  rw [slices_Index_impl_Peg_impl_Peg_l0.eq_2]
  conv => lhs; whnf
  refine t_cond ?_ ?_
  · conv => lhs; whnf
    refine t_get (en := ep) (l := a) (by first | rfl | (simp only [ml]; done) | (simp only [ml]; rfl)) fun p => ?_
    conv => lhs; whnf
    refine t_cond ?_ ?_
    · conv => lhs; whnf
      exact t_ret (by first | rfl | (simp only [ml]; done) | (simp only [ml]; rfl))
    · conv => lhs; whnf
      exact hrec (wr IntKind.i64 (iadd v8 1)) _ _ (by first | rfl | (simp only [ml]; done) | (simp only [ml]; rfl)) (by first | rfl | (simp only [ml]; done) | (simp only [ml]; rfl))
  · conv => lhs; whnf
    exact t_ret (by first | rfl | (simp only [ml]; done) | (simp only [ml]; rfl))


noncomputable def slices_Contains_impl_Peg_impl_Peg (L : Nat) (a : List Pt) (b_0 : Int) (b_1 : Int) : Option (Bool) := gbind (slices_Index_impl_Peg_impl_Peg L a b_0 b_1) fun r => some (ile 0 r)


def slices_Contains_impl_Peg_impl_Peg_ok (L : Nat) (C : CF) : Prop := ∀ (oa : Bool) (ca : Bool) (x_a : List AV) (a : List Pt) (_ : x_a = List.map ep a) (b_0 : Int) (b_1 : Int), C 90 ([.lst oa ca 2 x_a, .agg [.int .i64 b_0, .int .i64 b_1]]) ([]) = Option.map (fun r : Bool => ((.bool r, []) : AV × List Blk)) (slices_Contains_impl_Peg_impl_Peg L a b_0 b_1)


theorem slices_Contains_impl_Peg_impl_Peg_run (L : Nat) (C : CF) (h_slices_Index_impl_Peg_impl_Peg : slices_Index_impl_Peg_impl_Peg_ok L C) : ∀ (oa : Bool) (ca : Bool) (x_a : List AV) (a : List Pt) (_ : x_a = List.map ep a) (b_0 : Int) (b_1 : Int), run T C sh (keep 90) L Try.f90 ([.lst oa ca 2 x_a, .agg [.int .i64 b_0, .int .i64 b_1]]) ([]) = Option.map (fun r : Bool => ((.bool r, []) : AV × List Blk)) (slices_Contains_impl_Peg_impl_Peg L a b_0 b_1) := by
  intro oa ca x_a a hx_a b_0 b_1
  subst hx_a
  unfold slices_Contains_impl_Peg_impl_Peg
  conv => lhs; whnf
  refine t_call (h_slices_Index_impl_Peg_impl_Peg _ _ _ a (by first | rfl | (simp only [ml]; done) | (simp only [ml]; rfl)) b_0 b_1) fun r => ?_
  conv => lhs; whnf
  exact t_ret (by first | rfl | (simp only [ml]; done) | (simp only [ml]; rfl))


noncomputable def impl_at (L : Nat) (a : List Pt) (b : Int) : Option (Int × Int) := bif ieq (ilen (List.map ep a)) 0 then (none) else (bif ieq (ilen (List.map ep a)) 0 then (none) else (gbind (lget a (irem (wr IntKind.i64 (iadd (irem b (ilen (List.map ep a))) (ilen (List.map ep a)))) (ilen (List.map ep a)))) fun p => some ((Pt.x p, Pt.y p))))


def impl_at_ok (L : Nat) (C : CF) : Prop := ∀ (oa : Bool) (ca : Bool) (x_a : List AV) (a : List Pt) (_ : x_a = List.map ep a) (b : Int), C 111 ([.lst oa ca 2 x_a, .int .i64 b]) ([]) = Option.map (fun r : Int × Int => ((.agg [.int .i64 (r.1), .int .i64 (r.2)], []) : AV × List Blk)) (impl_at L a b)


theorem impl_at_run (L : Nat) (C : CF) : ∀ (oa : Bool) (ca : Bool) (x_a : List AV) (a : List Pt) (_ : x_a = List.map ep a) (b : Int), run T C sh (keep 111) L Try.f111 ([.lst oa ca 2 x_a, .int .i64 b]) ([]) = Option.map (fun r : Int × Int => ((.agg [.int .i64 (r.1), .int .i64 (r.2)], []) : AV × List Blk)) (impl_at L a b) := by
  intro oa ca x_a a hx_a b
  subst hx_a
  unfold impl_at
  conv => lhs; whnf
  refine t_cond ?_ ?_
  · conv => lhs; whnf
    exact t_none
  · conv => lhs; whnf
    refine t_cond ?_ ?_
    · conv => lhs; whnf
      exact t_none
    · conv => lhs; whnf
      refine t_get (en := ep) (l := a) (by first | rfl | (simp only [ml]; done) | (simp only [ml]; rfl)) fun p => ?_
      conv => lhs; whnf
      exact t_ret (by first | rfl | (simp only [ml]; done) | (simp only [ml]; rfl))


noncomputable def impl_Peg_less (L : Nat) (a_0 : Int) (a_1 : Int) (b_0 : Int) (b_1 : Int) : Option (Int × Int) := some ((wr IntKind.i64 (isub a_0 b_0), wr IntKind.i64 (isub a_1 b_1)))


def impl_Peg_less_ok (L : Nat) (C : CF) : Prop := ∀ (a_0 : Int) (a_1 : Int) (b_0 : Int) (b_1 : Int), C 81 ([.agg [.int .i64 a_0, .int .i64 a_1], .agg [.int .i64 b_0, .int .i64 b_1]]) ([]) = Option.map (fun r : Int × Int => ((.agg [.int .i64 (r.1), .int .i64 (r.2)], []) : AV × List Blk)) (impl_Peg_less L a_0 a_1 b_0 b_1)


theorem impl_Peg_less_run (L : Nat) (C : CF) : ∀ (a_0 : Int) (a_1 : Int) (b_0 : Int) (b_1 : Int), run T C sh (keep 81) L Try.f81 ([.agg [.int .i64 a_0, .int .i64 a_1], .agg [.int .i64 b_0, .int .i64 b_1]]) ([]) = Option.map (fun r : Int × Int => ((.agg [.int .i64 (r.1), .int .i64 (r.2)], []) : AV × List Blk)) (impl_Peg_less L a_0 a_1 b_0 b_1) := by
  intro a_0 a_1 b_0 b_1
  unfold impl_Peg_less
  conv => lhs; whnf
  exact t_ret (by first | rfl | (simp only [ml]; done) | (simp only [ml]; rfl))


noncomputable def impl_cross (L : Nat) (a_0 : Int) (a_1 : Int) (b_0 : Int) (b_1 : Int) : Option (Int) := some (wr IntKind.i64 (isub (wr IntKind.i64 (imul a_0 b_1)) (wr IntKind.i64 (imul a_1 b_0))))


def impl_cross_ok (L : Nat) (C : CF) : Prop := ∀ (a_0 : Int) (a_1 : Int) (b_0 : Int) (b_1 : Int), C 113 ([.agg [.int .i64 a_0, .int .i64 a_1], .agg [.int .i64 b_0, .int .i64 b_1]]) ([]) = Option.map (fun r : Int => ((.int .i64 r, []) : AV × List Blk)) (impl_cross L a_0 a_1 b_0 b_1)


theorem impl_cross_run (L : Nat) (C : CF) : ∀ (a_0 : Int) (a_1 : Int) (b_0 : Int) (b_1 : Int), run T C sh (keep 113) L Try.f113 ([.agg [.int .i64 a_0, .int .i64 a_1], .agg [.int .i64 b_0, .int .i64 b_1]]) ([]) = Option.map (fun r : Int => ((.int .i64 r, []) : AV × List Blk)) (impl_cross L a_0 a_1 b_0 b_1) := by
  intro a_0 a_1 b_0 b_1
  unfold impl_cross
  conv => lhs; whnf
  exact t_ret (by first | rfl | (simp only [ml]; done) | (simp only [ml]; rfl))


noncomputable def impl_turn (L : Nat) (a_0 : Int) (a_1 : Int) (b_0 : Int) (b_1 : Int) (c_0 : Int) (c_1 : Int) : Option (Int) := gbind (impl_Peg_less L b_0 b_1 a_0 a_1) fun r => gbind (impl_Peg_less L c_0 c_1 a_0 a_1) fun r1 => gbind (impl_cross L (Prod.fst r) (Prod.snd r) (Prod.fst r1) (Prod.snd r1)) fun r2 => some r2


def impl_turn_ok (L : Nat) (C : CF) : Prop := ∀ (a_0 : Int) (a_1 : Int) (b_0 : Int) (b_1 : Int) (c_0 : Int) (c_1 : Int), C 79 ([.agg [.int .i64 a_0, .int .i64 a_1], .agg [.int .i64 b_0, .int .i64 b_1], .agg [.int .i64 c_0, .int .i64 c_1]]) ([]) = Option.map (fun r : Int => ((.int .i64 r, []) : AV × List Blk)) (impl_turn L a_0 a_1 b_0 b_1 c_0 c_1)


theorem impl_turn_run (L : Nat) (C : CF) (h_impl_Peg_less : impl_Peg_less_ok L C) (h_impl_cross : impl_cross_ok L C) : ∀ (a_0 : Int) (a_1 : Int) (b_0 : Int) (b_1 : Int) (c_0 : Int) (c_1 : Int), run T C sh (keep 79) L Try.f79 ([.agg [.int .i64 a_0, .int .i64 a_1], .agg [.int .i64 b_0, .int .i64 b_1], .agg [.int .i64 c_0, .int .i64 c_1]]) ([]) = Option.map (fun r : Int => ((.int .i64 r, []) : AV × List Blk)) (impl_turn L a_0 a_1 b_0 b_1 c_0 c_1) := by
  intro a_0 a_1 b_0 b_1 c_0 c_1
  unfold impl_turn
  conv => lhs; whnf
  refine t_call (h_impl_Peg_less b_0 b_1 a_0 a_1) fun r => ?_
  conv => lhs; whnf
  refine t_call (h_impl_Peg_less c_0 c_1 a_0 a_1) fun r1 => ?_
  conv => lhs; whnf
  refine t_call (h_impl_cross (Prod.fst r) (Prod.snd r) (Prod.fst r1) (Prod.snd r1)) fun r2 => ?_
  conv => lhs; whnf
  exact t_ret (by first | rfl | (simp only [ml]; done) | (simp only [ml]; rfl))


noncomputable def impl_sign (L : Nat) (a : Int) : Option (Int) := some (imin 1 (imax (-1) a))


def impl_sign_ok (L : Nat) (C : CF) : Prop := ∀ (a : Int), C 78 ([.int .i64 a]) ([]) = Option.map (fun r : Int => ((.int .i64 r, []) : AV × List Blk)) (impl_sign L a)


theorem impl_sign_run (L : Nat) (C : CF) : ∀ (a : Int), run T C sh (keep 78) L Try.f78 ([.int .i64 a]) ([]) = Option.map (fun r : Int => ((.int .i64 r, []) : AV × List Blk)) (impl_sign L a) := by
  intro a
  unfold impl_sign
  conv => lhs; whnf
  exact t_ret (by first | rfl | (simp only [ml]; done) | (simp only [ml]; rfl))


noncomputable def impl_isOn (L : Nat) (a_0 : Int) (a_1 : Int) (b_0 : Int) (b_1 : Int) (c_0 : Int) (c_1 : Int) : Option (Bool) := gbind (impl_turn L a_0 a_1 b_0 b_1 c_0 c_1) fun r => bif ieq r 0 then (gbind (impl_within L c_0 (imin a_0 b_0) (imax a_0 b_0)) fun r1 => bif r1 then (gbind (impl_within L c_1 (imin a_1 b_1) (imax a_1 b_1)) fun r2 => some r2) else (some false)) else (some false)


def impl_isOn_ok (L : Nat) (C : CF) : Prop := ∀ (a_0 : Int) (a_1 : Int) (b_0 : Int) (b_1 : Int) (c_0 : Int) (c_1 : Int), C 119 ([.agg [.int .i64 a_0, .int .i64 a_1], .agg [.int .i64 b_0, .int .i64 b_1], .agg [.int .i64 c_0, .int .i64 c_1]]) ([]) = Option.map (fun r : Bool => ((.bool r, []) : AV × List Blk)) (impl_isOn L a_0 a_1 b_0 b_1 c_0 c_1)


theorem impl_isOn_run (L : Nat) (C : CF) (h_impl_within : impl_within_ok L C) (h_impl_turn : impl_turn_ok L C) : ∀ (a_0 : Int) (a_1 : Int) (b_0 : Int) (b_1 : Int) (c_0 : Int) (c_1 : Int), run T C sh (keep 119) L Try.f119 ([.agg [.int .i64 a_0, .int .i64 a_1], .agg [.int .i64 b_0, .int .i64 b_1], .agg [.int .i64 c_0, .int .i64 c_1]]) ([]) = Option.map (fun r : Bool => ((.bool r, []) : AV × List Blk)) (impl_isOn L a_0 a_1 b_0 b_1 c_0 c_1) := by
  intro a_0 a_1 b_0 b_1 c_0 c_1
  unfold impl_isOn
  conv => lhs; whnf
  refine t_call (h_impl_turn a_0 a_1 b_0 b_1 c_0 c_1) fun r => ?_
  conv => lhs; whnf
  refine t_cond ?_ ?_
  · conv => lhs; whnf
    refine t_call (h_impl_within c_0 (imin a_0 b_0) (imax a_0 b_0)) fun r1 => ?_
    conv => lhs; whnf
    refine t_cond ?_ ?_
    · conv => lhs; whnf
      refine t_call (h_impl_within c_1 (imin a_1 b_1) (imax a_1 b_1)) fun r2 => ?_
      conv => lhs; whnf
      exact t_ret (by first | rfl | (simp only [ml]; done) | (simp only [ml]; rfl))
    · conv => lhs; whnf
      exact t_ret (by first | rfl | (simp only [ml]; done) | (simp only [ml]; rfl))
  · conv => lhs; whnf
    exact t_ret (by first | rfl | (simp only [ml]; done) | (simp only [ml]; rfl))


noncomputable def impl_meet (L : Nat) (a_0 : Int) (a_1 : Int) (b_0 : Int) (b_1 : Int) (c_0 : Int) (c_1 : Int) (d_0 : Int) (d_1 : Int) : Option (Bool) := gbind (impl_turn L a_0 a_1 b_0 b_1 c_0 c_1) fun r => gbind (impl_sign L r) fun r1 => gbind (impl_turn L a_0 a_1 b_0 b_1 d_0 d_1) fun r2 => gbind (impl_sign L r2) fun r3 => bif ilt (wr IntKind.i64 (imul r1 r3)) 0 then (gbind (impl_turn L c_0 c_1 d_0 d_1 a_0 a_1) fun r4 => gbind (impl_sign L r4) fun r5 => gbind (impl_turn L c_0 c_1 d_0 d_1 b_0 b_1) fun r6 => gbind (impl_sign L r6) fun r7 => bif ilt (wr IntKind.i64 (imul r5 r7)) 0 then (some true) else (gbind (impl_isOn L a_0 a_1 b_0 b_1 c_0 c_1) fun r8 => bif r8 then (some true) else (gbind (impl_isOn L a_0 a_1 b_0 b_1 d_0 d_1) fun r9 => bif r9 then (some true) else (gbind (impl_isOn L c_0 c_1 d_0 d_1 a_0 a_1) fun r10 => bif r10 then (some true) else (gbind (impl_isOn L c_0 c_1 d_0 d_1 b_0 b_1) fun r11 => some r11))))) else (gbind (impl_isOn L a_0 a_1 b_0 b_1 c_0 c_1) fun r12 => bif r12 then (some true) else (gbind (impl_isOn L a_0 a_1 b_0 b_1 d_0 d_1) fun r13 => bif r13 then (some true) else (gbind (impl_isOn L c_0 c_1 d_0 d_1 a_0 a_1) fun r14 => bif r14 then (some true) else (gbind (impl_isOn L c_0 c_1 d_0 d_1 b_0 b_1) fun r15 => some r15))))


def impl_meet_ok (L : Nat) (C : CF) : Prop := ∀ (a_0 : Int) (a_1 : Int) (b_0 : Int) (b_1 : Int) (c_0 : Int) (c_1 : Int) (d_0 : Int) (d_1 : Int), C 112 ([.agg [.int .i64 a_0, .int .i64 a_1], .agg [.int .i64 b_0, .int .i64 b_1], .agg [.int .i64 c_0, .int .i64 c_1], .agg [.int .i64 d_0, .int .i64 d_1]]) ([]) = Option.map (fun r : Bool => ((.bool r, []) : AV × List Blk)) (impl_meet L a_0 a_1 b_0 b_1 c_0 c_1 d_0 d_1)


theorem impl_meet_run (L : Nat) (C : CF) (h_impl_turn : impl_turn_ok L C) (h_impl_sign : impl_sign_ok L C) (h_impl_isOn : impl_isOn_ok L C) : ∀ (a_0 : Int) (a_1 : Int) (b_0 : Int) (b_1 : Int) (c_0 : Int) (c_1 : Int) (d_0 : Int) (d_1 : Int), run T C sh (keep 112) L Try.f112 ([.agg [.int .i64 a_0, .int .i64 a_1], .agg [.int .i64 b_0, .int .i64 b_1], .agg [.int .i64 c_0, .int .i64 c_1], .agg [.int .i64 d_0, .int .i64 d_1]]) ([]) = Option.map (fun r : Bool => ((.bool r, []) : AV × List Blk)) (impl_meet L a_0 a_1 b_0 b_1 c_0 c_1 d_0 d_1) := by
  intro a_0 a_1 b_0 b_1 c_0 c_1 d_0 d_1
  unfold impl_meet
  conv => lhs; whnf
  refine t_call (h_impl_turn a_0 a_1 b_0 b_1 c_0 c_1) fun r => ?_
  conv => lhs; whnf
  refine t_call (h_impl_sign r) fun r1 => ?_
  conv => lhs; whnf
  refine t_call (h_impl_turn a_0 a_1 b_0 b_1 d_0 d_1) fun r2 => ?_
  conv => lhs; whnf
  refine t_call (h_impl_sign r2) fun r3 => ?_
  conv => lhs; whnf
  refine t_cond ?_ ?_
  · conv => lhs; whnf
    refine t_call (h_impl_turn c_0 c_1 d_0 d_1 a_0 a_1) fun r4 => ?_
    conv => lhs; whnf
    refine t_call (h_impl_sign r4) fun r5 => ?_
    conv => lhs; whnf
    refine t_call (h_impl_turn c_0 c_1 d_0 d_1 b_0 b_1) fun r6 => ?_
    conv => lhs; whnf
    refine t_call (h_impl_sign r6) fun r7 => ?_
    conv => lhs; whnf
    refine t_cond ?_ ?_
    · conv => lhs; whnf
      exact t_ret (by first | rfl | (simp only [ml]; done) | (simp only [ml]; rfl))
    · conv => lhs; whnf
      refine t_call (h_impl_isOn a_0 a_1 b_0 b_1 c_0 c_1) fun r8 => ?_
      conv => lhs; whnf
      refine t_cond ?_ ?_
      · conv => lhs; whnf
        exact t_ret (by first | rfl | (simp only [ml]; done) | (simp only [ml]; rfl))
      · conv => lhs; whnf
        refine t_call (h_impl_isOn a_0 a_1 b_0 b_1 d_0 d_1) fun r9 => ?_
        conv => lhs; whnf
        refine t_cond ?_ ?_
        · conv => lhs; whnf
          exact t_ret (by first | rfl | (simp only [ml]; done) | (simp only [ml]; rfl))
        · conv => lhs; whnf
          refine t_call (h_impl_isOn c_0 c_1 d_0 d_1 a_0 a_1) fun r10 => ?_
          conv => lhs; whnf
          refine t_cond ?_ ?_
          · conv => lhs; whnf
            exact t_ret (by first | rfl | (simp only [ml]; done) | (simp only [ml]; rfl))
          · conv => lhs; whnf
            refine t_call (h_impl_isOn c_0 c_1 d_0 d_1 b_0 b_1) fun r11 => ?_
            conv => lhs; whnf
            exact t_ret (by first | rfl | (simp only [ml]; done) | (simp only [ml]; rfl))
  · conv => lhs; whnf
    refine t_call (h_impl_isOn a_0 a_1 b_0 b_1 c_0 c_1) fun r12 => ?_
    conv => lhs; whnf
    refine t_cond ?_ ?_
    · conv => lhs; whnf
      exact t_ret (by first | rfl | (simp only [ml]; done) | (simp only [ml]; rfl))
    · conv => lhs; whnf
      refine t_call (h_impl_isOn a_0 a_1 b_0 b_1 d_0 d_1) fun r13 => ?_
      conv => lhs; whnf
      refine t_cond ?_ ?_
      · conv => lhs; whnf
        exact t_ret (by first | rfl | (simp only [ml]; done) | (simp only [ml]; rfl))
      · conv => lhs; whnf
        refine t_call (h_impl_isOn c_0 c_1 d_0 d_1 a_0 a_1) fun r14 => ?_
        conv => lhs; whnf
        refine t_cond ?_ ?_
        · conv => lhs; whnf
          exact t_ret (by first | rfl | (simp only [ml]; done) | (simp only [ml]; rfl))
        · conv => lhs; whnf
          refine t_call (h_impl_isOn c_0 c_1 d_0 d_1 b_0 b_1) fun r15 => ?_
          conv => lhs; whnf
          exact t_ret (by first | rfl | (simp only [ml]; done) | (simp only [ml]; rfl))


noncomputable def impl_IsPolygon_l1 (L : Nat) (κ0 : (List Pt) → Int → (List Pt) → Int → Int → Option Bool) (v0 : List Pt) (v3 : Int) (v17 : List Pt) (v18 : Int) (v19 : Int) (p : Pt) : Nat → Int → Option Bool
  | 0, _ => none
  | m1 + 1, v43 => bif ilt v43 v19 then (bif ieq (wr IntKind.i64 (iadd v43 1)) v19 then (impl_IsPolygon_l1 L κ0 v0 v3 v17 v18 v19 p m1 (wr IntKind.i64 (iadd v43 1))) else (bif ieq (wr IntKind.i64 (iadd v19 1)) v3 then (bif ieq v43 0 then (impl_IsPolygon_l1 L κ0 v0 v3 v17 v18 v19 p m1 (wr IntKind.i64 (iadd v43 1))) else (gbind (lget v0 v43) fun p1 => gbind (lget v0 (wr IntKind.i64 (iadd v43 1))) fun p2 => gbind (impl_at L v0 (wr IntKind.i64 (iadd v19 1))) fun r6 => gbind (impl_meet L (Pt.x p1) (Pt.y p1) (Pt.x p2) (Pt.y p2) (Pt.x p) (Pt.y p) (Prod.fst r6) (Prod.snd r6)) fun r7 => bif r7 then (some false) else (impl_IsPolygon_l1 L κ0 v0 v3 v17 v18 v19 p m1 (wr IntKind.i64 (iadd v43 1))))) else (gbind (lget v0 v43) fun p3 => gbind (lget v0 (wr IntKind.i64 (iadd v43 1))) fun p4 => gbind (impl_at L v0 (wr IntKind.i64 (iadd v19 1))) fun r8 => gbind (impl_meet L (Pt.x p3) (Pt.y p3) (Pt.x p4) (Pt.y p4) (Pt.x p) (Pt.y p) (Prod.fst r8) (Prod.snd r8)) fun r9 => bif r9 then (some false) else (impl_IsPolygon_l1 L κ0 v0 v3 v17 v18 v19 p m1 (wr IntKind.i64 (iadd v43 1)))))) else (κ0 v0 v3 v17 v18 (wr IntKind.i64 (iadd v19 1)))


noncomputable def impl_IsPolygon_l0 (L : Nat) : Nat → (List Pt) → Int → (List Pt) → Int → Int → Option Bool
  | 0, _, _, _, _, _ => none
  | m + 1, v0, v3, v17, v18, v19 => bif ilt v19 v18 then (gbind (lget v17 v19) fun p => bif ile 0 v19 && ile v19 (ilen (List.map ep v0)) then (gbind (slices_Contains_impl_Peg_impl_Peg L (lsub v0 0 v19) (Pt.x p) (Pt.y p)) fun r2 => bif r2 then (some false) else (gbind (impl_at L v0 (wr IntKind.i64 (isub v19 1))) fun r3 => gbind (impl_at L v0 (wr IntKind.i64 (iadd v19 1))) fun r4 => gbind (impl_turn L (Prod.fst r3) (Prod.snd r3) (Pt.x p) (Pt.y p) (Prod.fst r4) (Prod.snd r4)) fun r5 => bif ieq r5 0 then (some false) else (impl_IsPolygon_l1 L (impl_IsPolygon_l0 L m) v0 v3 v17 v18 v19 p L 0))) else (none)) else (some true)


noncomputable def impl_IsPolygon (L : Nat) (a : List Pt) : Option (Bool) := gbind (impl_within L (ilen (List.map ep a)) 3 10) fun r => bif !r then (some false) else (gbind (impl_arePegs L a) fun r1 => bif !r1 then (some false) else (impl_IsPolygon_l0 L L a (ilen (List.map ep a)) a (ilen (List.map ep a)) 0))


def impl_IsPolygon_ok (L : Nat) (C : CF) : Prop := ∀ (oa : Bool) (ca : Bool) (x_a : List AV) (a : List Pt) (_ : x_a = List.map ep a), C 58 ([.lst oa ca 2 x_a]) ([]) = Option.map (fun r : Bool => ((.bool r, []) : AV × List Blk)) (impl_IsPolygon L a)


theorem impl_IsPolygon_run (L : Nat) (C : CF) (h_impl_within : impl_within_ok L C) (h_impl_arePegs : impl_arePegs_ok L C) (h_slices_Contains_impl_Peg_impl_Peg : slices_Contains_impl_Peg_impl_Peg_ok L C) (h_impl_at : impl_at_ok L C) (h_impl_turn : impl_turn_ok L C) (h_impl_meet : impl_meet_ok L C) : ∀ (oa : Bool) (ca : Bool) (x_a : List AV) (a : List Pt) (_ : x_a = List.map ep a), run T C sh (keep 58) L Try.f58 ([.lst oa ca 2 x_a]) ([]) = Option.map (fun r : Bool => ((.bool r, []) : AV × List Blk)) (impl_IsPolygon L a) := by
  intro oa ca x_a a hx_a
  subst hx_a
  unfold impl_IsPolygon
  conv => lhs; whnf
  refine t_call (h_impl_within (ilen (List.map ep a)) 3 10) fun r => ?_
  conv => lhs; whnf
  refine t_cond ?_ ?_
  · conv => lhs; whnf
    exact t_ret (by first | rfl | (simp only [ml]; done) | (simp only [ml]; rfl))
  · conv => lhs; whnf
    refine t_call (h_impl_arePegs _ _ _ a (by first | rfl | (simp only [ml]; done) | (simp only [ml]; rfl))) fun r1 => ?_
    conv => lhs; whnf
    refine t_cond ?_ ?_
    · conv => lhs; whnf
      exact t_ret (by first | rfl | (simp only [ml]; done) | (simp only [ml]; rfl))
    · conv => lhs; whnf
      refine t_loop (fun (⟨v0, v3, v17, v18, v19⟩ : (List Pt) × Int × (List Pt) × Int × Int) => (AV.lst oa ca 2 (List.map ep v0) :: topA 2 (AV.int IntKind.i64 v3 :: topA 13 (AV.lst oa ca 2 (List.map ep v17) :: AV.int IntKind.i64 v18 :: AV.int IntKind.i64 v19 :: tops 57)), [])) (fun m (⟨v0, v3, v17, v18, v19⟩ : (List Pt) × Int × (List Pt) × Int × Int) => impl_IsPolygon_l0 L m v0 v3 v17 v18 v19) (fun _ => rfl) (fun m s rec hrec => ?_) L ((a, ilen (List.map ep a), a, ilen (List.map ep a), 0)) ?_ ?_
      rotate_left
      · first | rfl | (simp only [ml]; done) | (simp only [ml]; rfl)
      · first | rfl | (simp only [ml]; done) | (simp only [ml]; rfl)
      obtain ⟨v0, v3, v17, v18, v19⟩ := s
      show _ = Option.map _ (impl_IsPolygon_l0 L (m + 1) v0 v3 v17 v18 v19)
      rw [impl_IsPolygon_l0.eq_2]
      conv => lhs; whnf
      refine t_cond ?_ ?_
      · conv => lhs; whnf
        refine t_get (en := ep) (l := v17) (by first | rfl | (simp only [ml]; done) | (simp only [ml]; rfl)) fun p => ?_
        conv => lhs; whnf
        refine t_cond ?_ ?_
        · conv => lhs; whnf
          refine t_call (h_slices_Contains_impl_Peg_impl_Peg _ _ _ (lsub v0 0 v19) (by first | rfl | (simp only [ml]; done) | (simp only [ml]; rfl)) (Pt.x p) (Pt.y p)) fun r2 => ?_
          conv => lhs; whnf
          refine t_cond ?_ ?_
          · conv => lhs; whnf
            exact t_ret (by first | rfl | (simp only [ml]; done) | (simp only [ml]; rfl))
          · conv => lhs; whnf
            refine t_call (h_impl_at _ _ _ v0 (by first | rfl | (simp only [ml]; done) | (simp only [ml]; rfl)) (wr IntKind.i64 (isub v19 1))) fun r3 => ?_
            conv => lhs; whnf
            refine t_call (h_impl_at _ _ _ v0 (by first | rfl | (simp only [ml]; done) | (simp only [ml]; rfl)) (wr IntKind.i64 (iadd v19 1))) fun r4 => ?_
            conv => lhs; whnf
            refine t_call (h_impl_turn (Prod.fst r3) (Prod.snd r3) (Pt.x p) (Pt.y p) (Prod.fst r4) (Prod.snd r4)) fun r5 => ?_
            conv => lhs; whnf
            refine t_cond ?_ ?_
            · conv => lhs; whnf
              exact t_ret (by first | rfl | (simp only [ml]; done) | (simp only [ml]; rfl))
            · conv => lhs; whnf
              refine t_loop (fun (v43 : Int) => (AV.lst oa ca 2 (List.map ep v0) :: topA 2 (AV.int IntKind.i64 v3 :: AV.int IntKind.i64 v19 :: AV.ptr 0 0 0 2 :: topA 11 (AV.lst oa ca 2 (List.map ep v17) :: AV.int IntKind.i64 v18 :: AV.int IntKind.i64 v19 :: topA 22 (AV.int IntKind.i64 v19 :: AV.int IntKind.i64 v43 :: tops 33))), [Blk.box (AV.agg [AV.int IntKind.i64 (Pt.x p), AV.int IntKind.i64 (Pt.y p)])])) (fun m1 (v43 : Int) => impl_IsPolygon_l1 L (impl_IsPolygon_l0 L m) v0 v3 v17 v18 v19 p m1 v43) (fun _ => rfl) (fun m1 v43 rec1 hrec1 => ?_) L 0 ?_ ?_
              rotate_left
              · first | rfl | (simp only [ml]; done) | (simp only [ml]; rfl)
              · first | rfl | (simp only [ml]; done) | (simp only [ml]; rfl)
              show _ = Option.map _ (impl_IsPolygon_l1 L (impl_IsPolygon_l0 L m) v0 v3 v17 v18 v19 p (m1 + 1) v43)
              rw [impl_IsPolygon_l1.eq_2]
              conv => lhs; whnf
              refine t_cond ?_ ?_
              · conv => lhs; whnf
                refine t_cond ?_ ?_
                · conv => lhs; whnf
                  exact hrec1 (wr IntKind.i64 (iadd v43 1)) _ _ (by first | rfl | (simp only [ml]; done) | (simp only [ml]; rfl)) (by first | rfl | (simp only [ml]; done) | (simp only [ml]; rfl))
                · conv => lhs; whnf
                  refine t_cond ?_ ?_
                  · conv => lhs; whnf
                    refine t_cond ?_ ?_
                    · conv => lhs; whnf
                      exact hrec1 (wr IntKind.i64 (iadd v43 1)) _ _ (by first | rfl | (simp only [ml]; done) | (simp only [ml]; rfl)) (by first | rfl | (simp only [ml]; done) | (simp only [ml]; rfl))
                    · conv => lhs; whnf
                      refine t_get (en := ep) (l := v0) (by first | rfl | (simp only [ml]; done) | (simp only [ml]; rfl)) fun p1 => ?_
                      conv => lhs; whnf
                      refine t_get (en := ep) (l := v0) (by first | rfl | (simp only [ml]; done) | (simp only [ml]; rfl)) fun p2 => ?_
                      conv => lhs; whnf
                      refine t_call (h_impl_at _ _ _ v0 (by first | rfl | (simp only [ml]; done) | (simp only [ml]; rfl)) (wr IntKind.i64 (iadd v19 1))) fun r6 => ?_
                      conv => lhs; whnf
                      refine t_call (h_impl_meet (Pt.x p1) (Pt.y p1) (Pt.x p2) (Pt.y p2) (Pt.x p) (Pt.y p) (Prod.fst r6) (Prod.snd r6)) fun r7 => ?_
                      conv => lhs; whnf
                      refine t_cond ?_ ?_
                      · conv => lhs; whnf
                        exact t_ret (by first | rfl | (simp only [ml]; done) | (simp only [ml]; rfl))
                      · conv => lhs; whnf
                        exact hrec1 (wr IntKind.i64 (iadd v43 1)) _ _ (by first | rfl | (simp only [ml]; done) | (simp only [ml]; rfl)) (by first | rfl | (simp only [ml]; done) | (simp only [ml]; rfl))
                  · conv => lhs; whnf
                    refine t_get (en := ep) (l := v0) (by first | rfl | (simp only [ml]; done) | (simp only [ml]; rfl)) fun p3 => ?_
                    conv => lhs; whnf
                    refine t_get (en := ep) (l := v0) (by first | rfl | (simp only [ml]; done) | (simp only [ml]; rfl)) fun p4 => ?_
                    conv => lhs; whnf
                    refine t_call (h_impl_at _ _ _ v0 (by first | rfl | (simp only [ml]; done) | (simp only [ml]; rfl)) (wr IntKind.i64 (iadd v19 1))) fun r8 => ?_
                    conv => lhs; whnf
                    refine t_call (h_impl_meet (Pt.x p3) (Pt.y p3) (Pt.x p4) (Pt.y p4) (Pt.x p) (Pt.y p) (Prod.fst r8) (Prod.snd r8)) fun r9 => ?_
                    conv => lhs; whnf
                    refine t_cond ?_ ?_
                    · conv => lhs; whnf
                      exact t_ret (by first | rfl | (simp only [ml]; done) | (simp only [ml]; rfl))
                    · conv => lhs; whnf
                      exact hrec1 (wr IntKind.i64 (iadd v43 1)) _ _ (by first | rfl | (simp only [ml]; done) | (simp only [ml]; rfl)) (by first | rfl | (simp only [ml]; done) | (simp only [ml]; rfl))
              · conv => lhs; whnf
                exact hrec ((v0, v3, v17, v18, wr IntKind.i64 (iadd v19 1))) _ _ (by first | rfl | (simp only [ml]; done) | (simp only [ml]; rfl)) (by first | rfl | (simp only [ml]; done) | (simp only [ml]; rfl))
        · conv => lhs; whnf
          exact t_none
      · conv => lhs; whnf
        exact t_ret (by first | rfl | (simp only [ml]; done) | (simp only [ml]; rfl))


noncomputable def impl_size (L : Nat) (a : Int) : Option (Int) := some (imax a (wr IntKind.i64 (isub 0 a)))


def impl_size_ok (L : Nat) (C : CF) : Prop := ∀ (a : Int), C 148 ([.int .i64 a]) ([]) = Option.map (fun r : Int => ((.int .i64 r, []) : AV × List Blk)) (impl_size L a)


theorem impl_size_run (L : Nat) (C : CF) : ∀ (a : Int), run T C sh (keep 148) L Try.f148 ([.int .i64 a]) ([]) = Option.map (fun r : Int => ((.int .i64 r, []) : AV × List Blk)) (impl_size L a) := by
  intro a
  unfold impl_size
  conv => lhs; whnf
  exact t_ret (by first | rfl | (simp only [ml]; done) | (simp only [ml]; rfl))


noncomputable def impl_divisor_l0 (L : Nat) : Nat → Int → Int → Option Int
  | 0, _, _ => none
  | m + 1, v0, v1 => bif !ieq v1 0 then (bif ieq v1 0 then (none) else (impl_divisor_l0 L m v1 (irem v0 v1))) else (gbind (impl_size L v0) fun r => some r)


noncomputable def impl_divisor (L : Nat) (a : Int) (b : Int) : Option (Int) := impl_divisor_l0 L L a b


def impl_divisor_ok (L : Nat) (C : CF) : Prop := ∀ (a : Int) (b : Int), C 114 ([.int .i64 a, .int .i64 b]) ([]) = Option.map (fun r : Int => ((.int .i64 r, []) : AV × List Blk)) (impl_divisor L a b)


theorem impl_divisor_run (L : Nat) (C : CF) (h_impl_size : impl_size_ok L C) : ∀ (a : Int) (b : Int), run T C sh (keep 114) L Try.f114 ([.int .i64 a, .int .i64 b]) ([]) = Option.map (fun r : Int => ((.int .i64 r, []) : AV × List Blk)) (impl_divisor L a b) := by
  intro a b
  unfold impl_divisor
  conv => lhs; whnf
  refine t_loop (fun (⟨v0, v1⟩ : Int × Int) => (AV.int IntKind.i64 v0 :: AV.int IntKind.i64 v1 :: tops 11, [])) (fun m (⟨v0, v1⟩ : Int × Int) => impl_divisor_l0 L m v0 v1) (fun _ => rfl) (fun m s rec hrec => ?_) L ((a, b)) ?_ ?_
  rotate_left
  · first | rfl | (simp only [ml]; done) | (simp only [ml]; rfl)
  · first | rfl | (simp only [ml]; done) | (simp only [ml]; rfl)
  obtain ⟨v0, v1⟩ := s
  show _ = Option.map _ (impl_divisor_l0 L (m + 1) v0 v1)
  rw [impl_divisor_l0.eq_2]
  conv => lhs; whnf
  refine t_cond ?_ ?_
  · conv => lhs; whnf
    refine t_cond ?_ ?_
    · conv => lhs; whnf
      exact t_none
    · conv => lhs; whnf
      exact hrec ((v1, irem v0 v1)) _ _ (by first | rfl | (simp only [ml]; done) | (simp only [ml]; rfl)) (by first | rfl | (simp only [ml]; done) | (simp only [ml]; rfl))
  · conv => lhs; whnf
    refine t_call (h_impl_size v0) fun r => ?_
    conv => lhs; whnf
    exact t_ret (by first | rfl | (simp only [ml]; done) | (simp only [ml]; rfl))


noncomputable def slices_Clone_impl_Peg_impl_Peg (L : Nat) (a : List Pt) : Option ((List Pt)) := bif ieq (ilen (List.map ep a)) 0 then (osame (fun r : (List Pt) => ((.frs 2 (List.map ep r), []) : AV × List Blk)) (some []) (bif fits (iadd (ilen ([] : List AV)) (ilen (List.map ep a))) 16 then (some (lcat [] a)) else (none))) else (bif fits (iadd (ilen ([] : List AV)) (ilen (List.map ep a))) 16 then (some (lcat [] a)) else (none))


def slices_Clone_impl_Peg_impl_Peg_ok (L : Nat) (C : CF) : Prop := ∀ (oa : Bool) (ca : Bool) (x_a : List AV) (a : List Pt) (_ : x_a = List.map ep a), C 121 ([.lst oa ca 2 x_a]) ([]) = Option.map (fun r : (List Pt) => ((.frs 2 (List.map ep r), []) : AV × List Blk)) (slices_Clone_impl_Peg_impl_Peg L a)


theorem slices_Clone_impl_Peg_impl_Peg_run (L : Nat) (C : CF) : ∀ (oa : Bool) (ca : Bool) (x_a : List AV) (a : List Pt) (_ : x_a = List.map ep a), run T C sh (keep 121) L Try.f121 ([.lst oa ca 2 x_a]) ([]) = Option.map (fun r : (List Pt) => ((.frs 2 (List.map ep r), []) : AV × List Blk)) (slices_Clone_impl_Peg_impl_Peg L a) := by
  intro oa ca x_a a hx_a
  subst hx_a
  unfold slices_Clone_impl_Peg_impl_Peg
  conv => lhs; whnf
  refine t_cond ?_ ?_
  · conv => lhs; whnf
    refine t_same ?_ ?_
    · conv => lhs; whnf
      exact t_ret (by first | rfl | (simp only [ml]; done) | (simp only [ml]; rfl))
    · conv => lhs; whnf
      refine t_cond ?_ ?_
      · conv => lhs; whnf
        exact t_ret (by first | rfl | (simp only [ml]; done) | (simp only [ml]; rfl))
      · conv => lhs; whnf
        exact t_none
  · conv => lhs; whnf
    refine t_cond ?_ ?_
    · conv => lhs; whnf
      exact t_ret (by first | rfl | (simp only [ml]; done) | (simp only [ml]; rfl))
    · conv => lhs; whnf
      exact t_none


noncomputable def cmp_isNaN_int (L : Nat) (a : Int) : Option (Bool) := some (!ieq a a)


def cmp_isNaN_int_ok (L : Nat) (C : CF) : Prop := ∀ (a : Int), C 125 ([.int .i64 a]) ([]) = Option.map (fun r : Bool => ((.bool r, []) : AV × List Blk)) (cmp_isNaN_int L a)


theorem cmp_isNaN_int_run (L : Nat) (C : CF) : ∀ (a : Int), run T C sh (keep 125) L Try.f125 ([.int .i64 a]) ([]) = Option.map (fun r : Bool => ((.bool r, []) : AV × List Blk)) (cmp_isNaN_int L a) := by
  intro a
  unfold cmp_isNaN_int
  conv => lhs; whnf
  exact t_ret (by first | rfl | (simp only [ml]; done) | (simp only [ml]; rfl))


noncomputable def cmp_Compare_int (L : Nat) (a : Int) (b : Int) : Option (Int) := gbind (cmp_isNaN_int L a) fun r => gbind (cmp_isNaN_int L b) fun r1 => bif r then (bif r1 then (some 0) else (some (-1))) else (bif r1 then (some 1) else (bif ilt a b then (some (-1)) else (bif ilt b a then (some 1) else (some 0))))


def cmp_Compare_int_ok (L : Nat) (C : CF) : Prop := ∀ (a : Int) (b : Int), C 80 ([.int .i64 a, .int .i64 b]) ([]) = Option.map (fun r : Int => ((.int .i64 r, []) : AV × List Blk)) (cmp_Compare_int L a b)


theorem cmp_Compare_int_run (L : Nat) (C : CF) (h_cmp_isNaN_int : cmp_isNaN_int_ok L C) : ∀ (a : Int) (b : Int), run T C sh (keep 80) L Try.f80 ([.int .i64 a, .int .i64 b]) ([]) = Option.map (fun r : Int => ((.int .i64 r, []) : AV × List Blk)) (cmp_Compare_int L a b) := by
  intro a b
  unfold cmp_Compare_int
  conv => lhs; whnf
  refine t_call (h_cmp_isNaN_int a) fun r => ?_
  conv => lhs; whnf
  refine t_call (h_cmp_isNaN_int b) fun r1 => ?_
  conv => lhs; whnf
  refine t_cond ?_ ?_
  · conv => lhs; whnf
    refine t_cond ?_ ?_
    · conv => lhs; whnf
      exact t_ret (by first | rfl | (simp only [ml]; done) | (simp only [ml]; rfl))
    · conv => lhs; whnf
      exact t_ret (by first | rfl | (simp only [ml]; done) | (simp only [ml]; rfl))
  · conv => lhs; whnf
    refine t_cond ?_ ?_
    · conv => lhs; whnf
      exact t_ret (by first | rfl | (simp only [ml]; done) | (simp only [ml]; rfl))
    · conv => lhs; whnf
      refine t_cond ?_ ?_
      · conv => lhs; whnf
        exact t_ret (by first | rfl | (simp only [ml]; done) | (simp only [ml]; rfl))
      · conv => lhs; whnf
        refine t_cond ?_ ?_
        · conv => lhs; whnf
          exact t_ret (by first | rfl | (simp only [ml]; done) | (simp only [ml]; rfl))
        · conv => lhs; whnf
          exact t_ret (by first | rfl | (simp only [ml]; done) | (simp only [ml]; rfl))


noncomputable def cmp_Or_int_l0 (L : Nat) (a : List Int) : Nat → Int → Option Int
  | 0, _ => none
  | m + 1, v8 => bif ilt v8 (ilen (List.map eI a)) then (gbind (lget a v8) fun p => bif !ieq p 0 then (some p) else (cmp_Or_int_l0 L a m (wr IntKind.i64 (iadd v8 1)))) else (some 0)


noncomputable def cmp_Or_int (L : Nat) (a : List Int) : Option (Int) := cmp_Or_int_l0 L a L 0


def cmp_Or_int_ok (L : Nat) (C : CF) : Prop := ∀ (oa : Bool) (ca : Bool) (x_a : List AV) (a : List Int) (_ : x_a = List.map eI a), C 77 ([.lst oa ca 1 x_a]) ([]) = Option.map (fun r : Int => ((.int .i64 r, []) : AV × List Blk)) (cmp_Or_int L a)


theorem cmp_Or_int_run (L : Nat) (C : CF) : ∀ (oa : Bool) (ca : Bool) (x_a : List AV) (a : List Int) (_ : x_a = List.map eI a), run T C sh (keep 77) L Try.f77 ([.lst oa ca 1 x_a]) ([]) = Option.map (fun r : Int => ((.int .i64 r, []) : AV × List Blk)) (cmp_Or_int L a) := by
  intro oa ca x_a a hx_a
  subst hx_a
  unfold cmp_Or_int
  conv => lhs; whnf
  refine t_loop (fun (v8 : Int) => (topA 3 (AV.int IntKind.i64 0 :: topA 2 (AV.lst oa ca 1 (List.map eI a) :: AV.int IntKind.i64 (ilen (List.map eI a)) :: AV.int IntKind.i64 v8 :: tops 9)), [])) (fun m (v8 : Int) => cmp_Or_int_l0 L a m v8) (fun _ => rfl) (fun m v8 rec hrec => ?_) L 0 ?_ ?_
  rotate_left
  · first | rfl | (simp only [ml]; done) | (simp only [ml]; rfl)
  · first | rfl | (simp only [ml]; done) | (simp only [ml]; rfl)
  show _ = Option.map _ (cmp_Or_int_l0 L a (m + 1) v8)
  rw [cmp_Or_int_l0.eq_2]
  conv => lhs; whnf
  refine t_cond ?_ ?_
  · conv => lhs; whnf
    refine t_get (en := eI) (l := a) (by first | rfl | (simp only [ml]; done) | (simp only [ml]; rfl)) fun p => ?_
    conv => lhs; whnf
    refine t_cond ?_ ?_
    · conv => lhs; whnf
      exact t_ret (by first | rfl | (simp only [ml]; done) | (simp only [ml]; rfl))
    · conv => lhs; whnf
      exact hrec (wr IntKind.i64 (iadd v8 1)) _ _ (by first | rfl | (simp only [ml]; done) | (simp only [ml]; rfl)) (by first | rfl | (simp only [ml]; done) | (simp only [ml]; rfl))
  · conv => lhs; whnf
    exact t_ret (by first | rfl | (simp only [ml]; done) | (simp only [ml]; rfl))


noncomputable def impl_comparePegs (L : Nat) (a_0 : Int) (a_1 : Int) (b_0 : Int) (b_1 : Int) : Option (Int) := gbind (cmp_Compare_int L a_0 b_0) fun r => gbind (cmp_Compare_int L a_1 b_1) fun r1 => gbind (cmp_Or_int L (r :: (r1 :: []))) fun r2 => some r2


def impl_comparePegs_ok (L : Nat) (C : CF) : Prop := ∀ (a_0 : Int) (a_1 : Int) (b_0 : Int) (b_1 : Int), C 122 ([.agg [.int .i64 a_0, .int .i64 a_1], .agg [.int .i64 b_0, .int .i64 b_1]]) ([]) = Option.map (fun r : Int => ((.int .i64 r, []) : AV × List Blk)) (impl_comparePegs L a_0 a_1 b_0 b_1)


theorem impl_comparePegs_run (L : Nat) (C : CF) (h_cmp_Compare_int : cmp_Compare_int_ok L C) (h_cmp_Or_int : cmp_Or_int_ok L C) : ∀ (a_0 : Int) (a_1 : Int) (b_0 : Int) (b_1 : Int), run T C sh (keep 122) L Try.f122 ([.agg [.int .i64 a_0, .int .i64 a_1], .agg [.int .i64 b_0, .int .i64 b_1]]) ([]) = Option.map (fun r : Int => ((.int .i64 r, []) : AV × List Blk)) (impl_comparePegs L a_0 a_1 b_0 b_1) := by
  intro a_0 a_1 b_0 b_1
  unfold impl_comparePegs
  conv => lhs; whnf
  refine t_call (h_cmp_Compare_int a_0 b_0) fun r => ?_
  conv => lhs; whnf
  refine t_call (h_cmp_Compare_int a_1 b_1) fun r1 => ?_
  conv => lhs; whnf
  refine t_call (h_cmp_Or_int _ _ _ (r :: (r1 :: [])) (by first | rfl | (simp only [ml]; done) | (simp only [ml]; rfl))) fun r2 => ?_
  conv => lhs; whnf
  exact t_ret (by first | rfl | (simp only [ml]; done) | (simp only [ml]; rfl))


-- EXT slices_SortFunc_impl_Peg_impl_Peg
noncomputable def slices_SortFunc_impl_Peg_impl_Peg (L : Nat) (a : List Pt) : Option (List Pt) := sortP a

def slices_SortFunc_impl_Peg_impl_Peg_ok (L : Nat) (C : CF) : Prop := ∀ (c1 : Bool) (x_a : List AV) (a : List Pt) (_ : x_a = List.map ep a), C 75 ([.own 0 2 none c1, .fn 122 [] []]) ([.rows .live 2 x_a]) = Option.map (fun r : (List Pt) => ((.tup [], [.rows .live 2 (List.map ep r)]) : AV × List Blk)) (slices_SortFunc_impl_Peg_impl_Peg L a)


noncomputable def impl_sorted (L : Nat) (a : List Pt) : Option ((List Pt)) := gbind (slices_Clone_impl_Peg_impl_Peg L a) fun r => gbind (slices_SortFunc_impl_Peg_impl_Peg L r) fun r1 => some r1


def impl_sorted_ok (L : Nat) (C : CF) : Prop := ∀ (oa : Bool) (ca : Bool) (x_a : List AV) (a : List Pt) (_ : x_a = List.map ep a), C 74 ([.lst oa ca 2 x_a]) ([]) = Option.map (fun r : (List Pt) => ((.frs 2 (List.map ep r), []) : AV × List Blk)) (impl_sorted L a)


theorem impl_sorted_run (L : Nat) (C : CF) (h_slices_Clone_impl_Peg_impl_Peg : slices_Clone_impl_Peg_impl_Peg_ok L C) (h_slices_SortFunc_impl_Peg_impl_Peg : slices_SortFunc_impl_Peg_impl_Peg_ok L C) : ∀ (oa : Bool) (ca : Bool) (x_a : List AV) (a : List Pt) (_ : x_a = List.map ep a), run T C sh (keep 74) L Try.f74 ([.lst oa ca 2 x_a]) ([]) = Option.map (fun r : (List Pt) => ((.frs 2 (List.map ep r), []) : AV × List Blk)) (impl_sorted L a) := by
  intro oa ca x_a a hx_a
  subst hx_a
  unfold impl_sorted
  conv => lhs; whnf
  refine t_call (h_slices_Clone_impl_Peg_impl_Peg _ _ _ a (by first | rfl | (simp only [ml]; done) | (simp only [ml]; rfl))) fun r => ?_
  conv => lhs; whnf
  refine t_call (h_slices_SortFunc_impl_Peg_impl_Peg _ _ r (by first | rfl | (simp only [ml]; done) | (simp only [ml]; rfl))) fun r1 => ?_
  conv => lhs; whnf
  exact t_ret (by first | rfl | (simp only [ml]; done) | (simp only [ml]; rfl))


noncomputable def impl_directions_l1 (L : Nat) (κ0 : (List Pt) → Int → Int → Int → (List Pt) → Int → Int → Int → Int → Option ((List Pt))) (v0 : List Pt) (v1 : Int) (v8 : Int) (v9 : Int) (b1_0 : Int) (b1_1 : Int) (b2_0 : Int) (b2_1 : Int) : Nat → Int → (List Pt) → Option ((List Pt))
  | 0, _, _ => none
  | m1 + 1, v10, w01 => bif ile v10 v1 then (bif ieq v8 0 then (none) else (bif !ieq (irem (wr IntKind.i64 (isub (wr IntKind.i64 (imul v9 b2_1)) (wr IntKind.i64 (imul v10 b1_1)))) v8) 0 then (impl_directions_l1 L κ0 v0 v1 v8 v9 b1_0 b1_1 b2_0 b2_1 m1 (wr IntKind.i64 (iadd v10 1)) w01) else (bif ieq v8 0 then (none) else (bif !ieq (irem (wr IntKind.i64 (isub (wr IntKind.i64 (imul v10 b1_0)) (wr IntKind.i64 (imul v9 b2_0)))) v8) 0 then (impl_directions_l1 L κ0 v0 v1 v8 v9 b1_0 b1_1 b2_0 b2_1 m1 (wr IntKind.i64 (iadd v10 1)) w01) else (bif ieq v8 0 then (none) else (bif ieq v8 0 then (none) else (gbind (impl_divisor L (wr IntKind.i64 (iquo (wr IntKind.i64 (isub (wr IntKind.i64 (imul v9 b2_1)) (wr IntKind.i64 (imul v10 b1_1)))) v8)) (wr IntKind.i64 (iquo (wr IntKind.i64 (isub (wr IntKind.i64 (imul v10 b1_0)) (wr IntKind.i64 (imul v9 b2_0)))) v8))) fun r3 => bif ieq r3 1 then (bif ilt 0 (wr IntKind.i64 (iquo (wr IntKind.i64 (isub (wr IntKind.i64 (imul v9 b2_1)) (wr IntKind.i64 (imul v10 b1_1)))) v8)) then (gbind (impl_width L v0 (wr IntKind.i64 (iquo (wr IntKind.i64 (isub (wr IntKind.i64 (imul v9 b2_1)) (wr IntKind.i64 (imul v10 b1_1)))) v8)) (wr IntKind.i64 (iquo (wr IntKind.i64 (isub (wr IntKind.i64 (imul v10 b1_0)) (wr IntKind.i64 (imul v9 b2_0)))) v8))) fun r4 => bif ile r4 v1 then (bif fits (iadd (ilen (List.map ep w01)) (ilen [AV.agg [AV.int IntKind.i64 (wr IntKind.i64 (iquo (wr IntKind.i64 (isub (wr IntKind.i64 (imul v9 b2_1)) (wr IntKind.i64 (imul v10 b1_1)))) v8)), AV.int IntKind.i64 (wr IntKind.i64 (iquo (wr IntKind.i64 (isub (wr IntKind.i64 (imul v10 b1_0)) (wr IntKind.i64 (imul v9 b2_0)))) v8))]])) 16 then (impl_directions_l1 L κ0 v0 v1 v8 v9 b1_0 b1_1 b2_0 b2_1 m1 (wr IntKind.i64 (iadd v10 1)) (lcat w01 ({ x := wr IntKind.i64 (iquo (wr IntKind.i64 (isub (wr IntKind.i64 (imul v9 b2_1)) (wr IntKind.i64 (imul v10 b1_1)))) v8), y := wr IntKind.i64 (iquo (wr IntKind.i64 (isub (wr IntKind.i64 (imul v10 b1_0)) (wr IntKind.i64 (imul v9 b2_0)))) v8) } :: []))) else (none)) else (impl_directions_l1 L κ0 v0 v1 v8 v9 b1_0 b1_1 b2_0 b2_1 m1 (wr IntKind.i64 (iadd v10 1)) w01)) else (bif ieq (wr IntKind.i64 (iquo (wr IntKind.i64 (isub (wr IntKind.i64 (imul v9 b2_1)) (wr IntKind.i64 (imul v10 b1_1)))) v8)) 0 then (bif ieq (wr IntKind.i64 (iquo (wr IntKind.i64 (isub (wr IntKind.i64 (imul v10 b1_0)) (wr IntKind.i64 (imul v9 b2_0)))) v8)) 1 then (gbind (impl_width L v0 (wr IntKind.i64 (iquo (wr IntKind.i64 (isub (wr IntKind.i64 (imul v9 b2_1)) (wr IntKind.i64 (imul v10 b1_1)))) v8)) (wr IntKind.i64 (iquo (wr IntKind.i64 (isub (wr IntKind.i64 (imul v10 b1_0)) (wr IntKind.i64 (imul v9 b2_0)))) v8))) fun r5 => bif ile r5 v1 then (bif fits (iadd (ilen (List.map ep w01)) (ilen [AV.agg [AV.int IntKind.i64 (wr IntKind.i64 (iquo (wr IntKind.i64 (isub (wr IntKind.i64 (imul v9 b2_1)) (wr IntKind.i64 (imul v10 b1_1)))) v8)), AV.int IntKind.i64 (wr IntKind.i64 (iquo (wr IntKind.i64 (isub (wr IntKind.i64 (imul v10 b1_0)) (wr IntKind.i64 (imul v9 b2_0)))) v8))]])) 16 then (impl_directions_l1 L κ0 v0 v1 v8 v9 b1_0 b1_1 b2_0 b2_1 m1 (wr IntKind.i64 (iadd v10 1)) (lcat w01 ({ x := wr IntKind.i64 (iquo (wr IntKind.i64 (isub (wr IntKind.i64 (imul v9 b2_1)) (wr IntKind.i64 (imul v10 b1_1)))) v8), y := wr IntKind.i64 (iquo (wr IntKind.i64 (isub (wr IntKind.i64 (imul v10 b1_0)) (wr IntKind.i64 (imul v9 b2_0)))) v8) } :: []))) else (none)) else (impl_directions_l1 L κ0 v0 v1 v8 v9 b1_0 b1_1 b2_0 b2_1 m1 (wr IntKind.i64 (iadd v10 1)) w01)) else (impl_directions_l1 L κ0 v0 v1 v8 v9 b1_0 b1_1 b2_0 b2_1 m1 (wr IntKind.i64 (iadd v10 1)) w01)) else (impl_directions_l1 L κ0 v0 v1 v8 v9 b1_0 b1_1 b2_0 b2_1 m1 (wr IntKind.i64 (iadd v10 1)) w01))) else (impl_directions_l1 L κ0 v0 v1 v8 v9 b1_0 b1_1 b2_0 b2_1 m1 (wr IntKind.i64 (iadd v10 1)) w01)))))))) else (κ0 v0 v1 v8 (wr IntKind.i64 (iadd v9 1)) w01 b1_0 b1_1 b2_0 b2_1)


noncomputable def impl_directions_l0 (L : Nat) : Nat → (List Pt) → Int → Int → Int → (List Pt) → Int → Int → Int → Int → Option ((List Pt))
  | 0, _, _, _, _, _, _, _, _, _ => none
  | m + 1, v0, v1, v8, v9, w0, b1_0, b1_1, b2_0, b2_1 => bif ile v9 v1 then (impl_directions_l1 L (impl_directions_l0 L m) v0 v1 v8 v9 b1_0 b1_1 b2_0 b2_1 L (wr IntKind.i64 (isub 0 v1)) w0) else (gbind (impl_sorted L w0) fun r6 => some r6)


noncomputable def impl_directions (L : Nat) (a : List Pt) (b : Int) : Option ((List Pt)) := gbind (lget a 1) fun p => gbind (lget a 0) fun p1 => gbind (impl_Peg_less L (Pt.x p) (Pt.y p) (Pt.x p1) (Pt.y p1)) fun r => gbind (lget a 2) fun p2 => gbind (lget a 0) fun p3 => gbind (impl_Peg_less L (Pt.x p2) (Pt.y p2) (Pt.x p3) (Pt.y p3)) fun r1 => gbind (impl_cross L (Prod.fst r) (Prod.snd r) (Prod.fst r1) (Prod.snd r1)) fun r2 => impl_directions_l0 L L a b r2 (wr IntKind.i64 (isub 0 b)) [] (Prod.fst r) (Prod.snd r) (Prod.fst r1) (Prod.snd r1)


def impl_directions_ok (L : Nat) (C : CF) : Prop := ∀ (oa : Bool) (ca : Bool) (x_a : List AV) (a : List Pt) (_ : x_a = List.map ep a) (b : Int), C 60 ([.lst oa ca 2 x_a, .int .i64 b]) ([]) = Option.map (fun r : (List Pt) => ((.frs 2 (List.map ep r), []) : AV × List Blk)) (impl_directions L a b)


theorem impl_directions_run (L : Nat) (C : CF) (h_impl_width : impl_width_ok L C) (h_impl_Peg_less : impl_Peg_less_ok L C) (h_impl_cross : impl_cross_ok L C) (h_impl_divisor : impl_divisor_ok L C) (h_impl_sorted : impl_sorted_ok L C) : ∀ (oa : Bool) (ca : Bool) (x_a : List AV) (a : List Pt) (_ : x_a = List.map ep a) (b : Int), run T C sh (keep 60) L Try.f60 ([.lst oa ca 2 x_a, .int .i64 b]) ([]) = Option.map (fun r : (List Pt) => ((.frs 2 (List.map ep r), []) : AV × List Blk)) (impl_directions L a b) := by
  intro oa ca x_a a hx_a b
  subst hx_a
  unfold impl_directions
  conv => lhs; whnf
  refine t_get (en := ep) (l := a) (by first | rfl | (simp only [ml]; done) | (simp only [ml]; rfl)) fun p => ?_
  conv => lhs; whnf
  refine t_get (en := ep) (l := a) (by first | rfl | (simp only [ml]; done) | (simp only [ml]; rfl)) fun p1 => ?_
  conv => lhs; whnf
  refine t_call (h_impl_Peg_less (Pt.x p) (Pt.y p) (Pt.x p1) (Pt.y p1)) fun r => ?_
  conv => lhs; whnf
  refine t_get (en := ep) (l := a) (by first | rfl | (simp only [ml]; done) | (simp only [ml]; rfl)) fun p2 => ?_
  conv => lhs; whnf
  refine t_get (en := ep) (l := a) (by first | rfl | (simp only [ml]; done) | (simp only [ml]; rfl)) fun p3 => ?_
  conv => lhs; whnf
  refine t_call (h_impl_Peg_less (Pt.x p2) (Pt.y p2) (Pt.x p3) (Pt.y p3)) fun r1 => ?_
  conv => lhs; whnf
  refine t_call (h_impl_cross (Prod.fst r) (Prod.snd r) (Prod.fst r1) (Prod.snd r1)) fun r2 => ?_
  conv => lhs; whnf
  refine t_loop (fun (⟨v0, v1, v8, v9, w0, b1_0, b1_1, b2_0, b2_1⟩ : (List Pt) × Int × Int × Int × (List Pt) × Int × Int × Int × Int) => (AV.lst oa ca 2 (List.map ep v0) :: AV.int IntKind.i64 v1 :: topA 3 (AV.own 0 2 none false :: AV.ptr 1 0 0 2 :: AV.ptr 2 0 0 2 :: AV.int IntKind.i64 v8 :: AV.int IntKind.i64 v9 :: tops 105), [Blk.rows Mode.live 2 (List.map ep w0), Blk.box (AV.agg [AV.int IntKind.i64 b1_0, AV.int IntKind.i64 b1_1]), Blk.box (AV.agg [AV.int IntKind.i64 b2_0, AV.int IntKind.i64 b2_1])])) (fun m (⟨v0, v1, v8, v9, w0, b1_0, b1_1, b2_0, b2_1⟩ : (List Pt) × Int × Int × Int × (List Pt) × Int × Int × Int × Int) => impl_directions_l0 L m v0 v1 v8 v9 w0 b1_0 b1_1 b2_0 b2_1) (fun _ => rfl) (fun m s rec hrec => ?_) L ((a, b, r2, wr IntKind.i64 (isub 0 b), [], Prod.fst r, Prod.snd r, Prod.fst r1, Prod.snd r1)) ?_ ?_
  rotate_left
  · first | rfl | (simp only [ml]; done) | (simp only [ml]; rfl)
  · first | rfl | (simp only [ml]; done) | (simp only [ml]; rfl)
  obtain ⟨v0, v1, v8, v9, w0, b1_0, b1_1, b2_0, b2_1⟩ := s
  show _ = Option.map _ (impl_directions_l0 L (m + 1) v0 v1 v8 v9 w0 b1_0 b1_1 b2_0 b2_1)
  rw [impl_directions_l0.eq_2]
  conv => lhs; whnf
  refine t_cond ?_ ?_
  · conv => lhs; whnf
    refine t_loop (fun (⟨v10, w01⟩ : Int × (List Pt)) => (AV.lst oa ca 2 (List.map ep v0) :: AV.int IntKind.i64 v1 :: topA 3 (AV.own 0 2 none false :: AV.ptr 1 0 0 2 :: AV.ptr 2 0 0 2 :: AV.int IntKind.i64 v8 :: AV.int IntKind.i64 v9 :: AV.int IntKind.i64 v10 :: tops 104), [Blk.rows Mode.live 2 (List.map ep w01), Blk.box (AV.agg [AV.int IntKind.i64 b1_0, AV.int IntKind.i64 b1_1]), Blk.box (AV.agg [AV.int IntKind.i64 b2_0, AV.int IntKind.i64 b2_1])])) (fun m1 (⟨v10, w01⟩ : Int × (List Pt)) => impl_directions_l1 L (impl_directions_l0 L m) v0 v1 v8 v9 b1_0 b1_1 b2_0 b2_1 m1 v10 w01) (fun _ => rfl) (fun m1 s1 rec1 hrec1 => ?_) L ((wr IntKind.i64 (isub 0 v1), w0)) ?_ ?_
    rotate_left
    · first | rfl | (simp only [ml]; done) | (simp only [ml]; rfl)
    · first | rfl | (simp only [ml]; done) | (simp only [ml]; rfl)
    obtain ⟨v10, w01⟩ := s1
    show _ = Option.map _ (impl_directions_l1 L (impl_directions_l0 L m) v0 v1 v8 v9 b1_0 b1_1 b2_0 b2_1 (m1 + 1) v10 w01)
    rw [impl_directions_l1.eq_2]
    conv => lhs; whnf
    refine t_cond ?_ ?_
    · conv => lhs; whnf
      refine t_cond ?_ ?_
      · conv => lhs; whnf
        exact t_none
      · conv => lhs; whnf
        refine t_cond ?_ ?_
        · conv => lhs; whnf
          exact hrec1 ((wr IntKind.i64 (iadd v10 1), w01)) _ _ (by first | rfl | (simp only [ml]; done) | (simp only [ml]; rfl)) (by first | rfl | (simp only [ml]; done) | (simp only [ml]; rfl))
        · conv => lhs; whnf
          refine t_cond ?_ ?_
          · conv => lhs; whnf
            exact t_none
          · conv => lhs; whnf
            refine t_cond ?_ ?_
            · conv => lhs; whnf
              exact hrec1 ((wr IntKind.i64 (iadd v10 1), w01)) _ _ (by first | rfl | (simp only [ml]; done) | (simp only [ml]; rfl)) (by first | rfl | (simp only [ml]; done) | (simp only [ml]; rfl))
            · conv => lhs; whnf
              refine t_cond ?_ ?_
              · conv => lhs; whnf
                exact t_none
              · conv => lhs; whnf
                refine t_cond ?_ ?_
                · conv => lhs; whnf
                  exact t_none
                · conv => lhs; whnf
                  refine t_call (h_impl_divisor (wr IntKind.i64 (iquo (wr IntKind.i64 (isub (wr IntKind.i64 (imul v9 b2_1)) (wr IntKind.i64 (imul v10 b1_1)))) v8)) (wr IntKind.i64 (iquo (wr IntKind.i64 (isub (wr IntKind.i64 (imul v10 b1_0)) (wr IntKind.i64 (imul v9 b2_0)))) v8))) fun r3 => ?_
                  conv => lhs; whnf
                  refine t_cond ?_ ?_
                  · conv => lhs; whnf
                    refine t_cond ?_ ?_
                    · conv => lhs; whnf
                      refine t_call (h_impl_width _ _ _ v0 (by first | rfl | (simp only [ml]; done) | (simp only [ml]; rfl)) (wr IntKind.i64 (iquo (wr IntKind.i64 (isub (wr IntKind.i64 (imul v9 b2_1)) (wr IntKind.i64 (imul v10 b1_1)))) v8)) (wr IntKind.i64 (iquo (wr IntKind.i64 (isub (wr IntKind.i64 (imul v10 b1_0)) (wr IntKind.i64 (imul v9 b2_0)))) v8))) fun r4 => ?_
                      conv => lhs; whnf
                      refine t_cond ?_ ?_
                      · conv => lhs; whnf
                        refine t_cond ?_ ?_
                        · conv => lhs; whnf
                          exact hrec1 ((wr IntKind.i64 (iadd v10 1), lcat w01 ({ x := wr IntKind.i64 (iquo (wr IntKind.i64 (isub (wr IntKind.i64 (imul v9 b2_1)) (wr IntKind.i64 (imul v10 b1_1)))) v8), y := wr IntKind.i64 (iquo (wr IntKind.i64 (isub (wr IntKind.i64 (imul v10 b1_0)) (wr IntKind.i64 (imul v9 b2_0)))) v8) } :: []))) _ _ (by first | rfl | (simp only [ml]; done) | (simp only [ml]; rfl)) (by first | rfl | (simp only [ml]; done) | (simp only [ml]; rfl))
                        · conv => lhs; whnf
                          exact t_none
                      · conv => lhs; whnf
                        exact hrec1 ((wr IntKind.i64 (iadd v10 1), w01)) _ _ (by first | rfl | (simp only [ml]; done) | (simp only [ml]; rfl)) (by first | rfl | (simp only [ml]; done) | (simp only [ml]; rfl))
                    · conv => lhs; whnf
                      refine t_cond ?_ ?_
                      · conv => lhs; whnf
                        refine t_cond ?_ ?_
                        · conv => lhs; whnf
                          refine t_call (h_impl_width _ _ _ v0 (by first | rfl | (simp only [ml]; done) | (simp only [ml]; rfl)) (wr IntKind.i64 (iquo (wr IntKind.i64 (isub (wr IntKind.i64 (imul v9 b2_1)) (wr IntKind.i64 (imul v10 b1_1)))) v8)) (wr IntKind.i64 (iquo (wr IntKind.i64 (isub (wr IntKind.i64 (imul v10 b1_0)) (wr IntKind.i64 (imul v9 b2_0)))) v8))) fun r5 => ?_
                          conv => lhs; whnf
                          refine t_cond ?_ ?_
                          · conv => lhs; whnf
                            refine t_cond ?_ ?_
                            · conv => lhs; whnf
                              exact hrec1 ((wr IntKind.i64 (iadd v10 1), lcat w01 ({ x := wr IntKind.i64 (iquo (wr IntKind.i64 (isub (wr IntKind.i64 (imul v9 b2_1)) (wr IntKind.i64 (imul v10 b1_1)))) v8), y := wr IntKind.i64 (iquo (wr IntKind.i64 (isub (wr IntKind.i64 (imul v10 b1_0)) (wr IntKind.i64 (imul v9 b2_0)))) v8) } :: []))) _ _ (by first | rfl | (simp only [ml]; done) | (simp only [ml]; rfl)) (by first | rfl | (simp only [ml]; done) | (simp only [ml]; rfl))
                            · conv => lhs; whnf
                              exact t_none
                          · conv => lhs; whnf
                            exact hrec1 ((wr IntKind.i64 (iadd v10 1), w01)) _ _ (by first | rfl | (simp only [ml]; done) | (simp only [ml]; rfl)) (by first | rfl | (simp only [ml]; done) | (simp only [ml]; rfl))
                        · conv => lhs; whnf
                          exact hrec1 ((wr IntKind.i64 (iadd v10 1), w01)) _ _ (by first | rfl | (simp only [ml]; done) | (simp only [ml]; rfl)) (by first | rfl | (simp only [ml]; done) | (simp only [ml]; rfl))
                      · conv => lhs; whnf
                        exact hrec1 ((wr IntKind.i64 (iadd v10 1), w01)) _ _ (by first | rfl | (simp only [ml]; done) | (simp only [ml]; rfl)) (by first | rfl | (simp only [ml]; done) | (simp only [ml]; rfl))
                  · conv => lhs; whnf
                    exact hrec1 ((wr IntKind.i64 (iadd v10 1), w01)) _ _ (by first | rfl | (simp only [ml]; done) | (simp only [ml]; rfl)) (by first | rfl | (simp only [ml]; done) | (simp only [ml]; rfl))
    · conv => lhs; whnf
      exact hrec ((v0, v1, v8, wr IntKind.i64 (iadd v9 1), w01, b1_0, b1_1, b2_0, b2_1)) _ _ (by first | rfl | (simp only [ml]; done) | (simp only [ml]; rfl)) (by first | rfl | (simp only [ml]; done) | (simp only [ml]; rfl))
  · conv => lhs; whnf
    refine t_call (h_impl_sorted _ _ _ w0 (by first | rfl | (simp only [ml]; done) | (simp only [ml]; rfl))) fun r6 => ?_
    conv => lhs; whnf
    exact t_ret (by first | rfl | (simp only [ml]; done) | (simp only [ml]; rfl))


noncomputable def laws_eqPeg (L : Nat) (a_0 : Int) (a_1 : Int) (b_0 : Int) (b_1 : Int) : Option (Bool) := bif !ieq a_0 b_0 then (some false) else (bif !ieq a_1 b_1 then (some false) else (some true))


def laws_eqPeg_ok (L : Nat) (C : CF) : Prop := ∀ (a_0 : Int) (a_1 : Int) (b_0 : Int) (b_1 : Int), C 23 ([.agg [.int .i64 a_0, .int .i64 a_1], .agg [.int .i64 b_0, .int .i64 b_1]]) ([]) = Option.map (fun r : Bool => ((.bool r, []) : AV × List Blk)) (laws_eqPeg L a_0 a_1 b_0 b_1)


theorem laws_eqPeg_run (L : Nat) (C : CF) : ∀ (a_0 : Int) (a_1 : Int) (b_0 : Int) (b_1 : Int), run T C sh (keep 23) L Try.f23 ([.agg [.int .i64 a_0, .int .i64 a_1], .agg [.int .i64 b_0, .int .i64 b_1]]) ([]) = Option.map (fun r : Bool => ((.bool r, []) : AV × List Blk)) (laws_eqPeg L a_0 a_1 b_0 b_1) := by
  intro a_0 a_1 b_0 b_1
  unfold laws_eqPeg
  conv => lhs; whnf
  refine t_cond ?_ ?_
  · conv => lhs; whnf
    exact t_ret (by first | rfl | (simp only [ml]; done) | (simp only [ml]; rfl))
  · conv => lhs; whnf
    refine t_cond ?_ ?_
    · conv => lhs; whnf
      exact t_ret (by first | rfl | (simp only [ml]; done) | (simp only [ml]; rfl))
    · conv => lhs; whnf
      exact t_ret (by first | rfl | (simp only [ml]; done) | (simp only [ml]; rfl))


noncomputable def laws_eqPegS_l0 (L : Nat) (a : List Pt) (b : List Pt) : Nat → Int → Option Bool
  | 0, _ => none
  | m + 1, v5 => bif ilt v5 (ilen (List.map ep a)) then (gbind (lget a v5) fun p => gbind (lget b v5) fun p1 => gbind (laws_eqPeg L (Pt.x p) (Pt.y p) (Pt.x p1) (Pt.y p1)) fun r => bif !r then (some false) else (laws_eqPegS_l0 L a b m (wr IntKind.i64 (iadd v5 1)))) else (some true)


noncomputable def laws_eqPegS (L : Nat) (a : List Pt) (b : List Pt) : Option (Bool) := bif !ieq (ilen (List.map ep a)) (ilen (List.map ep b)) then (some false) else (laws_eqPegS_l0 L a b L 0)


def laws_eqPegS_ok (L : Nat) (C : CF) : Prop := ∀ (oa : Bool) (ca : Bool) (x_a : List AV) (a : List Pt) (_ : x_a = List.map ep a) (ob : Bool) (cb : Bool) (x_b : List AV) (b : List Pt) (_ : x_b = List.map ep b), C 19 ([.lst oa ca 2 x_a, .lst ob cb 2 x_b]) ([]) = Option.map (fun r : Bool => ((.bool r, []) : AV × List Blk)) (laws_eqPegS L a b)


theorem laws_eqPegS_run (L : Nat) (C : CF) (h_laws_eqPeg : laws_eqPeg_ok L C) : ∀ (oa : Bool) (ca : Bool) (x_a : List AV) (a : List Pt) (_ : x_a = List.map ep a) (ob : Bool) (cb : Bool) (x_b : List AV) (b : List Pt) (_ : x_b = List.map ep b), run T C sh (keep 19) L Try.f19 ([.lst oa ca 2 x_a, .lst ob cb 2 x_b]) ([]) = Option.map (fun r : Bool => ((.bool r, []) : AV × List Blk)) (laws_eqPegS L a b) := by
  intro oa ca x_a a hx_a ob cb x_b b hx_b
  subst hx_a
  subst hx_b
  unfold laws_eqPegS
  conv => lhs; whnf
  refine t_cond ?_ ?_
  · conv => lhs; whnf
    exact t_ret (by first | rfl | (simp only [ml]; done) | (simp only [ml]; rfl))
  · conv => lhs; whnf
    refine t_loop (fun (v5 : Int) => (AV.lst oa ca 2 (List.map ep a) :: AV.lst ob cb 2 (List.map ep b) :: topA 3 (AV.int IntKind.i64 v5 :: tops 21), [])) (fun m (v5 : Int) => laws_eqPegS_l0 L a b m v5) (fun _ => rfl) (fun m v5 rec hrec => ?_) L 0 ?_ ?_
    rotate_left
    · first | rfl | (simp only [ml]; done) | (simp only [ml]; rfl)
    · first | rfl | (simp only [ml]; done) | (simp only [ml]; rfl)
    show _ = Option.map _ (laws_eqPegS_l0 L a b (m + 1) v5)
    rw [laws_eqPegS_l0.eq_2]
    conv => lhs; whnf
    refine t_cond ?_ ?_
    · conv => lhs; whnf
      refine t_get (en := ep) (l := a) (by first | rfl | (simp only [ml]; done) | (simp only [ml]; rfl)) fun p => ?_
      conv => lhs; whnf
      refine t_get (en := ep) (l := b) (by first | rfl | (simp only [ml]; done) | (simp only [ml]; rfl)) fun p1 => ?_
      conv => lhs; whnf
      refine t_call (h_laws_eqPeg (Pt.x p) (Pt.y p) (Pt.x p1) (Pt.y p1)) fun r => ?_
      conv => lhs; whnf
      refine t_cond ?_ ?_
      · conv => lhs; whnf
        exact t_ret (by first | rfl | (simp only [ml]; done) | (simp only [ml]; rfl))
      · conv => lhs; whnf
        exact hrec (wr IntKind.i64 (iadd v5 1)) _ _ (by first | rfl | (simp only [ml]; done) | (simp only [ml]; rfl)) (by first | rfl | (simp only [ml]; done) | (simp only [ml]; rfl))
    · conv => lhs; whnf
      exact t_ret (by first | rfl | (simp only [ml]; done) | (simp only [ml]; rfl))


noncomputable def laws_markPegS_l0 (L : Nat) : Nat → Int → Int → (List Pt) → Option (Int × (List Pt))
  | 0, _, _, _ => none
  | m + 1, v1, v5, w0 => bif ilt v5 (ilen (List.map ep w0)) then (bif ile 0 v5 && ilt v5 (ilen (List.map ep w0)) then (gbind (lget w0 v5) fun p => bif ile 0 v5 && ilt v5 (ilen (lset (List.map ep w0) v5 (AV.agg [AV.int IntKind.i64 v1, AV.int IntKind.i64 (Pt.y p)]))) then (gbind (lget (lset w0 v5 ({ x := v1, y := Pt.y p })) v5) fun p1 => laws_markPegS_l0 L m (wr IntKind.i64 (iadd (wr IntKind.i64 (iadd v1 1)) 1)) (wr IntKind.i64 (iadd v5 1)) (lset (lset w0 v5 ({ x := v1, y := Pt.y p })) v5 ({ x := Pt.x p1, y := wr IntKind.i64 (iadd v1 1) }))) else (none)) else (none)) else (some ((v1, w0)))


noncomputable def laws_markPegS (L : Nat) (a : List Pt) (k : Int) : Option (Int × (List Pt)) := laws_markPegS_l0 L L k 0 a


def laws_markPegS_ok (L : Nat) (C : CF) : Prop := ∀ (c1 : Bool) (x_a : List AV) (a : List Pt) (_ : x_a = List.map ep a) (k : Int), C 26 ([.own 0 2 none c1, .int .i64 k]) ([.rows .live 2 x_a]) = Option.map (fun r : Int × (List Pt) => ((.int .i64 (r.1), [.rows .live 2 (List.map ep (r.2))]) : AV × List Blk)) (laws_markPegS L a k)


theorem laws_markPegS_run (L : Nat) (C : CF) : ∀ (c1 : Bool) (x_a : List AV) (a : List Pt) (_ : x_a = List.map ep a) (k : Int), run T C sh (keep 26) L Try.f26 ([.own 0 2 none c1, .int .i64 k]) ([.rows .live 2 x_a]) = Option.map (fun r : Int × (List Pt) => ((.int .i64 (r.1), [.rows .live 2 (List.map ep (r.2))]) : AV × List Blk)) (laws_markPegS L a k) := by
  intro c1 x_a a hx_a k
  subst hx_a
  unfold laws_markPegS
  conv => lhs; whnf
  refine t_loop (fun (⟨v1, v5, w0⟩ : Int × Int × (List Pt)) => (AV.own 0 2 none c1 :: AV.int IntKind.i64 v1 :: topA 3 (AV.int IntKind.i64 v5 :: tops 21), [Blk.rows Mode.live 2 (List.map ep w0)])) (fun m (⟨v1, v5, w0⟩ : Int × Int × (List Pt)) => laws_markPegS_l0 L m v1 v5 w0) (fun _ => rfl) (fun m s rec hrec => ?_) L ((k, 0, a)) ?_ ?_
  rotate_left
  · first | rfl | (simp only [ml]; done) | (simp only [ml]; rfl)
  · first | rfl | (simp only [ml]; done) | (simp only [ml]; rfl)
  obtain ⟨v1, v5, w0⟩ := s
  show _ = Option.map _ (laws_markPegS_l0 L (m + 1) v1 v5 w0)
  rw [laws_markPegS_l0.eq_2]
  conv => lhs; whnf
  refine t_cond ?_ ?_
  · conv => lhs; whnf
    refine t_cond ?_ ?_
    · conv => lhs; whnf
      refine t_get (en := ep) (l := w0) (by first | rfl | (simp only [ml]; done) | (simp only [ml]; rfl)) fun p => ?_
      conv => lhs; whnf
      refine t_cond ?_ ?_
      · conv => lhs; whnf
        refine t_get (en := ep) (l := lset w0 v5 ({ x := v1, y := Pt.y p })) (by first | rfl | (simp only [ml]; done) | (simp only [ml]; rfl)) fun p1 => ?_
        conv => lhs; whnf
        exact hrec ((wr IntKind.i64 (iadd (wr IntKind.i64 (iadd v1 1)) 1), wr IntKind.i64 (iadd v5 1), lset (lset w0 v5 ({ x := v1, y := Pt.y p })) v5 ({ x := Pt.x p1, y := wr IntKind.i64 (iadd v1 1) }))) _ _ (by first | rfl | (simp only [ml]; done) | (simp only [ml]; rfl)) (by first | rfl | (simp only [ml]; done) | (simp only [ml]; rfl))
      · conv => lhs; whnf
        exact t_none
    · conv => lhs; whnf
      exact t_none
  · conv => lhs; whnf
    exact t_ret (by first | rfl | (simp only [ml]; done) | (simp only [ml]; rfl))


noncomputable def laws_heldPegS_l0 (L : Nat) (a : List Pt) : Nat → Int → Int → Option Int
  | 0, _, _ => none
  | m + 1, v1, v5 => bif ilt v5 (ilen (List.map ep a)) then (gbind (lget a v5) fun p => bif !ieq (Pt.x p) v1 then (some (-1)) else (gbind (lget a v5) fun p1 => bif !ieq (Pt.y p1) (wr IntKind.i64 (iadd v1 1)) then (some (-1)) else (laws_heldPegS_l0 L a m (wr IntKind.i64 (iadd (wr IntKind.i64 (iadd v1 1)) 1)) (wr IntKind.i64 (iadd v5 1))))) else (some v1)


noncomputable def laws_heldPegS (L : Nat) (a : List Pt) (b : Int) : Option (Int) := laws_heldPegS_l0 L a L b 0


def laws_heldPegS_ok (L : Nat) (C : CF) : Prop := ∀ (oa : Bool) (ca : Bool) (x_a : List AV) (a : List Pt) (_ : x_a = List.map ep a) (b : Int), C 27 ([.lst oa ca 2 x_a, .int .i64 b]) ([]) = Option.map (fun r : Int => ((.int .i64 r, []) : AV × List Blk)) (laws_heldPegS L a b)


theorem laws_heldPegS_run (L : Nat) (C : CF) : ∀ (oa : Bool) (ca : Bool) (x_a : List AV) (a : List Pt) (_ : x_a = List.map ep a) (b : Int), run T C sh (keep 27) L Try.f27 ([.lst oa ca 2 x_a, .int .i64 b]) ([]) = Option.map (fun r : Int => ((.int .i64 r, []) : AV × List Blk)) (laws_heldPegS L a b) := by
  intro oa ca x_a a hx_a b
  subst hx_a
  unfold laws_heldPegS
  conv => lhs; whnf
  refine t_loop (fun (⟨v1, v5⟩ : Int × Int) => (AV.lst oa ca 2 (List.map ep a) :: AV.int IntKind.i64 v1 :: topA 3 (AV.int IntKind.i64 v5 :: tops 25), [])) (fun m (⟨v1, v5⟩ : Int × Int) => laws_heldPegS_l0 L a m v1 v5) (fun _ => rfl) (fun m s rec hrec => ?_) L ((b, 0)) ?_ ?_
  rotate_left
  · first | rfl | (simp only [ml]; done) | (simp only [ml]; rfl)
  · first | rfl | (simp only [ml]; done) | (simp only [ml]; rfl)
  obtain ⟨v1, v5⟩ := s
  show _ = Option.map _ (laws_heldPegS_l0 L a (m + 1) v1 v5)
  rw [laws_heldPegS_l0.eq_2]
  conv => lhs; whnf
  refine t_cond ?_ ?_
  · conv => lhs; whnf
    refine t_get (en := ep) (l := a) (by first | rfl | (simp only [ml]; done) | (simp only [ml]; rfl)) fun p => ?_
    conv => lhs; whnf
    refine t_cond ?_ ?_
    · conv => lhs; whnf
      exact t_ret (by first | rfl | (simp only [ml]; done) | (simp only [ml]; rfl))
    · conv => lhs; whnf
      refine t_get (en := ep) (l := a) (by first | rfl | (simp only [ml]; done) | (simp only [ml]; rfl)) fun p1 => ?_
      conv => lhs; whnf
      refine t_cond ?_ ?_
      · conv => lhs; whnf
        exact t_ret (by first | rfl | (simp only [ml]; done) | (simp only [ml]; rfl))
      · conv => lhs; whnf
        exact hrec ((wr IntKind.i64 (iadd (wr IntKind.i64 (iadd v1 1)) 1), wr IntKind.i64 (iadd v5 1))) _ _ (by first | rfl | (simp only [ml]; done) | (simp only [ml]; rfl)) (by first | rfl | (simp only [ml]; done) | (simp only [ml]; rfl))
  · conv => lhs; whnf
    exact t_ret (by first | rfl | (simp only [ml]; done) | (simp only [ml]; rfl))


noncomputable def spec_wiLeast_l0 (L : Nat) (a : List Pt) : Nat → Int → Option (Int × (List (List Int)))
  | 0, _ => none
  | m + 1, v4 => gbind (spec_wiAll L a v4) fun r => bif ilt 0 (ilen (List.map eLI r)) then (some ((v4, r))) else (spec_wiLeast_l0 L a m (wr IntKind.i64 (iadd v4 1)))


noncomputable def spec_wiLeast (L : Nat) (a : List Pt) : Option (Int × (List (List Int))) := spec_wiLeast_l0 L a L 1


def spec_wiLeast_ok (L : Nat) (C : CF) : Prop := ∀ (oa : Bool) (ca : Bool) (x_a : List AV) (a : List Pt) (_ : x_a = List.map ep a), C 91 ([.lst oa ca 2 x_a]) ([]) = Option.map (fun r : Int × (List (List Int)) => ((.tup [.int .i64 (r.1), .lst false false 1 (List.map eLI (r.2))], []) : AV × List Blk)) (spec_wiLeast L a)


theorem spec_wiLeast_run (L : Nat) (C : CF) (h_spec_wiAll : spec_wiAll_ok L C) : ∀ (oa : Bool) (ca : Bool) (x_a : List AV) (a : List Pt) (_ : x_a = List.map ep a), run T C sh (keep 91) L Try.f91 ([.lst oa ca 2 x_a]) ([]) = Option.map (fun r : Int × (List (List Int)) => ((.tup [.int .i64 (r.1), .lst false false 1 (List.map eLI (r.2))], []) : AV × List Blk)) (spec_wiLeast L a) := by
  intro oa ca x_a a hx_a
  subst hx_a
  unfold spec_wiLeast
  conv => lhs; whnf
  refine t_loop (fun (v4 : Int) => (AV.lst oa ca 2 (List.map ep a) :: topA 3 (AV.int IntKind.i64 v4 :: tops 11), [])) (fun m (v4 : Int) => spec_wiLeast_l0 L a m v4) (fun _ => rfl) (fun m v4 rec hrec => ?_) L 1 ?_ ?_
  rotate_left
  · first | rfl | (simp only [ml]; done) | (simp only [ml]; rfl)
  · first | rfl | (simp only [ml]; done) | (simp only [ml]; rfl)
  show _ = Option.map _ (spec_wiLeast_l0 L a (m + 1) v4)
  rw [spec_wiLeast_l0.eq_2]
  conv => lhs; whnf
  refine t_call (h_spec_wiAll _ _ _ a (by first | rfl | (simp only [ml]; done) | (simp only [ml]; rfl)) v4) fun r => ?_
  conv => lhs; whnf
  refine t_cond ?_ ?_
  · conv => lhs; whnf
    exact t_ret (by first | rfl | (simp only [ml]; done) | (simp only [ml]; rfl))
  · conv => lhs; whnf
    exact hrec (wr IntKind.i64 (iadd v4 1)) _ _ (by first | rfl | (simp only [ml]; done) | (simp only [ml]; rfl)) (by first | rfl | (simp only [ml]; done) | (simp only [ml]; rfl))


noncomputable def slices_DeleteFunc_impl_Peg_impl_Peg_least_l0 (L : Nat) (b : List Pt) (n : Int) : Nat → Int → Int → (List Pt) → Option (Int × (List Pt))
  | 0, _, _, _ => none
  | m + 1, v5, v6, w0 => bif ilt v6 (ilen (List.map ep w0)) then (bif ile 0 v6 && ilt v6 (ilen (List.map ep w0)) then (gbind (lget w0 v6) fun p => gbind (impl_least_1_v2 L (Pt.x p) (Pt.y p) b n) fun r1 => bif !r1 then (bif ile 0 v5 && ilt v5 (ilen (List.map ep w0)) then (gbind (lget w0 v5) fun p1 => slices_DeleteFunc_impl_Peg_impl_Peg_least_l0 L b n m (wr IntKind.i64 (iadd v5 1)) (wr IntKind.i64 (iadd v6 1)) (lset w0 v5 p)) else (none)) else (slices_DeleteFunc_impl_Peg_impl_Peg_least_l0 L b n m v5 (wr IntKind.i64 (iadd v6 1)) w0)) else (none)) else (bif ile 0 v5 && ile v5 (ilen (List.map ep w0)) then (bif ile 0 v5 && ile v5 (ilen (lcat (lcat (lsub (List.map ep w0) 0 v5) (lrep (isub (ilen (List.map ep w0)) v5) (AV.agg [AV.int IntKind.i64 0, AV.int IntKind.i64 0]))) (lsub (List.map ep w0) (iadd v5 (isub (ilen (List.map ep w0)) v5)) (ilen (List.map ep w0))))) then (some ((v5, lcat (lcat (lsub w0 0 v5) (lrep (isub (ilen (List.map ep w0)) v5) ({ x := 0, y := 0 }))) (lsub w0 (iadd v5 (isub (ilen (List.map ep w0)) v5)) (ilen (List.map ep w0)))))) else (none)) else (none))


noncomputable def slices_DeleteFunc_impl_Peg_impl_Peg_least (L : Nat) (b : List Pt) (n : Int) (a : List Pt) : Option (Int × (List Pt)) := gbind (slices_IndexFunc_impl_Peg_impl_Peg_172_impl_least_1 L a b n) fun r => bif ieq r (-1) then (some ((ilen (List.map ep a), a))) else (slices_DeleteFunc_impl_Peg_impl_Peg_least_l0 L b n L r (wr IntKind.i64 (iadd r 1)) a)


def slices_DeleteFunc_impl_Peg_impl_Peg_least_ok (L : Nat) (C : CF) : Prop := ∀ (ob : Bool) (cb : Bool) (x_b : List AV) (b : List Pt) (_ : x_b = List.map ep b) (n : Int) (x_a : List AV) (a : List Pt) (_ : x_a = List.map ep a), C 128 ([.own 0 2 none false, .fn 129 [] [.ptr 1 0 0 1, .ptr 2 0 0 1]]) ([.rows .live 2 x_a, .box (.lst ob cb 2 x_b), .box (.int .i64 n)]) = Option.map (fun r : Int × (List Pt) => ((.own 0 2 (some (0, (r.1))) false, [.rows .live 2 (List.map ep (r.2)), .box (.lst ob cb 2 x_b), .box (.int .i64 n)]) : AV × List Blk)) (slices_DeleteFunc_impl_Peg_impl_Peg_least L b n a)


theorem slices_DeleteFunc_impl_Peg_impl_Peg_least_run (L : Nat) (C : CF) (h_impl_least_1_v2 : impl_least_1_v2_ok L C) (h_slices_IndexFunc_impl_Peg_impl_Peg_172_impl_least_1 : slices_IndexFunc_impl_Peg_impl_Peg_172_impl_least_1_ok L C) : ∀ (ob : Bool) (cb : Bool) (x_b : List AV) (b : List Pt) (_ : x_b = List.map ep b) (n : Int) (x_a : List AV) (a : List Pt) (_ : x_a = List.map ep a), run T C sh (keep 128) L Try.f128 ([.own 0 2 none false, .fn 129 [] [.ptr 1 0 0 1, .ptr 2 0 0 1]]) ([.rows .live 2 x_a, .box (.lst ob cb 2 x_b), .box (.int .i64 n)]) = Option.map (fun r : Int × (List Pt) => ((.own 0 2 (some (0, (r.1))) false, [.rows .live 2 (List.map ep (r.2)), .box (.lst ob cb 2 x_b), .box (.int .i64 n)]) : AV × List Blk)) (slices_DeleteFunc_impl_Peg_impl_Peg_least L b n a) := by
  intro ob cb x_b b hx_b n x_a a hx_a
  subst hx_b
  subst hx_a
  unfold slices_DeleteFunc_impl_Peg_impl_Peg_least
  conv => lhs; whnf
  refine t_call (h_slices_IndexFunc_impl_Peg_impl_Peg_172_impl_least_1 _ a (by first | rfl | (simp only [ml]; done) | (simp only [ml]; rfl)) _ _ _ b (by first | rfl | (simp only [ml]; done) | (simp only [ml]; rfl)) n) fun r => ?_
  conv => lhs; whnf
  refine t_cond ?_ ?_
  · conv => lhs; whnf
    exact t_ret (by first | rfl | (simp only [ml]; done) | (simp only [ml]; rfl))
  · conv => lhs; whnf
    refine t_loop (fun (⟨v5, v6, w0⟩ : Int × Int × (List Pt)) => (AV.own 0 2 none false :: AV.fn 129 [] [AV.ptr 1 0 0 1, AV.ptr 2 0 0 1] :: topA 3 (AV.int IntKind.i64 v5 :: AV.int IntKind.i64 v6 :: tops 35), [Blk.rows Mode.live 2 (List.map ep w0), Blk.box (AV.lst ob cb 2 (List.map ep b)), Blk.box (AV.int IntKind.i64 n)])) (fun m (⟨v5, v6, w0⟩ : Int × Int × (List Pt)) => slices_DeleteFunc_impl_Peg_impl_Peg_least_l0 L b n m v5 v6 w0) (fun _ => rfl) (fun m s rec hrec => ?_) L ((r, wr IntKind.i64 (iadd r 1), a)) ?_ ?_
    rotate_left
    · first | rfl | (simp only [ml]; done) | (simp only [ml]; rfl)
    · first | rfl | (simp only [ml]; done) | (simp only [ml]; rfl)
    obtain ⟨v5, v6, w0⟩ := s
    show _ = Option.map _ (slices_DeleteFunc_impl_Peg_impl_Peg_least_l0 L b n (m + 1) v5 v6 w0)
    rw [slices_DeleteFunc_impl_Peg_impl_Peg_least_l0.eq_2]
    conv => lhs; whnf
    refine t_cond ?_ ?_
    · conv => lhs; whnf
      refine t_cond ?_ ?_
      · conv => lhs; whnf
        refine t_get (en := ep) (l := w0) (by first | rfl | (simp only [ml]; done) | (simp only [ml]; rfl)) fun p => ?_
        conv => lhs; whnf
        refine t_call (h_impl_least_1_v2 (Pt.x p) (Pt.y p) _ _ _ b (by first | rfl | (simp only [ml]; done) | (simp only [ml]; rfl)) n) fun r1 => ?_
        conv => lhs; whnf
        refine t_cond ?_ ?_
        · conv => lhs; whnf
          refine t_cond ?_ ?_
          · conv => lhs; whnf
            refine t_get (en := ep) (l := w0) (by first | rfl | (simp only [ml]; done) | (simp only [ml]; rfl)) fun p1 => ?_
            conv => lhs; whnf
            exact hrec ((wr IntKind.i64 (iadd v5 1), wr IntKind.i64 (iadd v6 1), lset w0 v5 p)) _ _ (by first | rfl | (simp only [ml]; done) | (simp only [ml]; rfl)) (by first | rfl | (simp only [ml]; done) | (simp only [ml]; rfl))
          · conv => lhs; whnf
            exact t_none
        · conv => lhs; whnf
          exact hrec ((v5, wr IntKind.i64 (iadd v6 1), w0)) _ _ (by first | rfl | (simp only [ml]; done) | (simp only [ml]; rfl)) (by first | rfl | (simp only [ml]; done) | (simp only [ml]; rfl))
      · conv => lhs; whnf
        exact t_none
    · conv => lhs; whnf
      refine t_cond ?_ ?_
      · conv => lhs; whnf
        refine t_cond ?_ ?_
        · conv => lhs; whnf
          exact t_ret (by first | rfl | (simp only [ml]; done) | (simp only [ml]; rfl))
        · conv => lhs; whnf
          exact t_none
      · conv => lhs; whnf
        exact t_none


noncomputable def impl_least_l0 (L : Nat) (a : List Pt) (r2 : List Pt) : Nat → Int → Int → Option ((List Pt) × Int)
  | 0, _, _ => none
  | m + 1, v24, b2 => bif ilt v24 (ilen (List.map ep r2)) then (bif ile 0 v24 && ilt v24 (ilen (List.map ep r2)) then (gbind (lget r2 v24) fun p1 => gbind (impl_width L a (Pt.x p1) (Pt.y p1)) fun r4 => impl_least_l0 L a r2 m (wr IntKind.i64 (iadd v24 1)) (imin b2 r4)) else (none)) else (osame (fun r : (List Pt) × Int => ((.tup [.frs 2 (List.map ep (r.1)), .int .i64 (r.2)], []) : AV × List Blk)) (osame (fun r : (List Pt) × Int => ((.tup [.frs 2 (List.map ep (r.1)), .int .i64 (r.2)], []) : AV × List Blk)) (osame (fun r : (List Pt) × Int => ((.tup [.frs 2 (List.map ep (r.1)), .int .i64 (r.2)], []) : AV × List Blk)) (gbind (slices_DeleteFunc_impl_Peg_impl_Peg_least L a b2 r2) fun r5 => osame (fun r : (List Pt) × Int => ((.tup [.frs 2 (List.map ep (r.1)), .int .i64 (r.2)], []) : AV × List Blk)) (some ((lsub (Prod.snd r5) 0 (iadd 0 (Prod.fst r5)), b2))) (some ((lsub (Prod.snd r5) 0 (iadd 0 (Prod.fst r5)), b2)))) (gbind (slices_DeleteFunc_impl_Peg_impl_Peg_least L a b2 r2) fun r6 => some ((lsub (Prod.snd r6) 0 (iadd 0 (Prod.fst r6)), b2)))) (gbind (slices_DeleteFunc_impl_Peg_impl_Peg_least L a b2 r2) fun r7 => some ((lsub (Prod.snd r7) 0 (iadd 0 (Prod.fst r7)), b2)))) (osame (fun r : (List Pt) × Int => ((.tup [.frs 2 (List.map ep (r.1)), .int .i64 (r.2)], []) : AV × List Blk)) (osame (fun r : (List Pt) × Int => ((.tup [.frs 2 (List.map ep (r.1)), .int .i64 (r.2)], []) : AV × List Blk)) (osame (fun r : (List Pt) × Int => ((.tup [.frs 2 (List.map ep (r.1)), .int .i64 (r.2)], []) : AV × List Blk)) (gbind (slices_DeleteFunc_impl_Peg_impl_Peg_least L a b2 r2) fun r8 => osame (fun r : (List Pt) × Int => ((.tup [.frs 2 (List.map ep (r.1)), .int .i64 (r.2)], []) : AV × List Blk)) (some ((lsub (Prod.snd r8) 0 (iadd 0 (Prod.fst r8)), b2))) (some ((lsub (Prod.snd r8) 0 (iadd 0 (Prod.fst r8)), b2)))) (gbind (slices_DeleteFunc_impl_Peg_impl_Peg_least L a b2 r2) fun r9 => some ((lsub (Prod.snd r9) 0 (iadd 0 (Prod.fst r9)), b2)))) (gbind (slices_DeleteFunc_impl_Peg_impl_Peg_least L a b2 r2) fun r10 => some ((lsub (Prod.snd r10) 0 (iadd 0 (Prod.fst r10)), b2)))) (osame (fun r : (List Pt) × Int => ((.tup [.frs 2 (List.map ep (r.1)), .int .i64 (r.2)], []) : AV × List Blk)) (gbind (slices_DeleteFunc_impl_Peg_impl_Peg_least L a b2 r2) fun r11 => some ((lsub (Prod.snd r11) 0 (iadd 0 (Prod.fst r11)), b2))) (gbind (slices_DeleteFunc_impl_Peg_impl_Peg_least L a b2 r2) fun r12 => some ((lsub (Prod.snd r12) 0 (iadd 0 (Prod.fst r12)), b2))))))


noncomputable def impl_least (L : Nat) (a : List Pt) : Option ((List Pt) × Int) := gbind (impl_width L a 1 0) fun r => gbind (impl_width L a 0 1) fun r1 => gbind (impl_directions L a (imin r r1)) fun r2 => bif ile 0 0 && ilt 0 (ilen (List.map ep r2)) then (gbind (lget r2 0) fun p => gbind (impl_width L a (Pt.x p) (Pt.y p)) fun r3 => impl_least_l0 L a r2 L 0 r3) else (none)


def impl_least_ok (L : Nat) (C : CF) : Prop := ∀ (oa : Bool) (ca : Bool) (x_a : List AV) (a : List Pt) (_ : x_a = List.map ep a), C 92 ([.lst oa ca 2 x_a]) ([]) = Option.map (fun r : (List Pt) × Int => ((.tup [.frs 2 (List.map ep (r.1)), .int .i64 (r.2)], []) : AV × List Blk)) (impl_least L a)


theorem impl_least_run (L : Nat) (C : CF) (h_impl_width : impl_width_ok L C) (h_impl_directions : impl_directions_ok L C) (h_slices_DeleteFunc_impl_Peg_impl_Peg_least : slices_DeleteFunc_impl_Peg_impl_Peg_least_ok L C) : ∀ (oa : Bool) (ca : Bool) (x_a : List AV) (a : List Pt) (_ : x_a = List.map ep a), run T C sh (keep 92) L Try.f92 ([.lst oa ca 2 x_a]) ([]) = Option.map (fun r : (List Pt) × Int => ((.tup [.frs 2 (List.map ep (r.1)), .int .i64 (r.2)], []) : AV × List Blk)) (impl_least L a) := by
  intro oa ca x_a a hx_a
  subst hx_a
  unfold impl_least
  conv => lhs; whnf
  refine t_call (h_impl_width _ _ _ a (by first | rfl | (simp only [ml]; done) | (simp only [ml]; rfl)) 1 0) fun r => ?_
  conv => lhs; whnf
  refine t_call (h_impl_width _ _ _ a (by first | rfl | (simp only [ml]; done) | (simp only [ml]; rfl)) 0 1) fun r1 => ?_
  conv => lhs; whnf
  refine t_call (h_impl_directions _ _ _ a (by first | rfl | (simp only [ml]; done) | (simp only [ml]; rfl)) (imin r r1)) fun r2 => ?_
  conv => lhs; whnf
  refine t_cond ?_ ?_
  · conv => lhs; whnf
    refine t_get (en := ep) (l := r2) (by first | rfl | (simp only [ml]; done) | (simp only [ml]; rfl)) fun p => ?_
    conv => lhs; whnf
    refine t_call (h_impl_width _ _ _ a (by first | rfl | (simp only [ml]; done) | (simp only [ml]; rfl)) (Pt.x p) (Pt.y p)) fun r3 => ?_
    conv => lhs; whnf
    refine t_loop (fun (⟨v24, b2⟩ : Int × Int) => (AV.top :: AV.ptr 0 0 0 1 :: topA 2 (AV.own 1 2 none false :: AV.ptr 2 0 0 1 :: topA 16 (AV.own 1 2 none false :: AV.int IntKind.i64 (ilen (List.map ep r2)) :: AV.int IntKind.i64 v24 :: tops 13)), [Blk.box (AV.lst oa ca 2 (List.map ep a)), Blk.rows Mode.live 2 (List.map ep r2), Blk.box (AV.int IntKind.i64 b2)])) (fun m (⟨v24, b2⟩ : Int × Int) => impl_least_l0 L a r2 m v24 b2) (fun _ => rfl) (fun m s rec hrec => ?_) L ((0, r3)) ?_ ?_
    rotate_left
    · first | rfl | (simp only [ml]; done) | (simp only [ml]; rfl)
    · first | rfl | (simp only [ml]; done) | (simp only [ml]; rfl)
    obtain ⟨v24, b2⟩ := s
    show _ = Option.map _ (impl_least_l0 L a r2 (m + 1) v24 b2)
    rw [impl_least_l0.eq_2]
    conv => lhs; whnf
    refine t_cond ?_ ?_
    · conv => lhs; whnf
      refine t_cond ?_ ?_
      · conv => lhs; whnf
        refine t_get (en := ep) (l := r2) (by first | rfl | (simp only [ml]; done) | (simp only [ml]; rfl)) fun p1 => ?_
        conv => lhs; whnf
        refine t_call (h_impl_width _ _ _ a (by first | rfl | (simp only [ml]; done) | (simp only [ml]; rfl)) (Pt.x p1) (Pt.y p1)) fun r4 => ?_
        conv => lhs; whnf
        exact hrec ((wr IntKind.i64 (iadd v24 1), imin b2 r4)) _ _ (by first | rfl | (simp only [ml]; done) | (simp only [ml]; rfl)) (by first | rfl | (simp only [ml]; done) | (simp only [ml]; rfl))
      · conv => lhs; whnf
        exact t_none
    · conv => lhs; whnf
      refine t_same ?_ ?_
      · conv => lhs; whnf
        refine t_same ?_ ?_
        · conv => lhs; whnf
          refine t_same ?_ ?_
          · conv => lhs; whnf
            refine t_call (h_slices_DeleteFunc_impl_Peg_impl_Peg_least _ _ _ a (by first | rfl | (simp only [ml]; done) | (simp only [ml]; rfl)) b2 _ r2 (by first | rfl | (simp only [ml]; done) | (simp only [ml]; rfl))) fun r5 => ?_
            conv => lhs; whnf
            refine t_same ?_ ?_
            · conv => lhs; whnf
              exact t_ret (by first | rfl | (simp only [ml]; done) | (simp only [ml]; rfl))
            · conv => lhs; whnf
              exact t_ret (by first | rfl | (simp only [ml]; done) | (simp only [ml]; rfl))
          · conv => lhs; whnf
            refine t_call (h_slices_DeleteFunc_impl_Peg_impl_Peg_least _ _ _ a (by first | rfl | (simp only [ml]; done) | (simp only [ml]; rfl)) b2 _ r2 (by first | rfl | (simp only [ml]; done) | (simp only [ml]; rfl))) fun r6 => ?_
            conv => lhs; whnf
            exact t_ret (by first | rfl | (simp only [ml]; done) | (simp only [ml]; rfl))
        · conv => lhs; whnf
          refine t_call (h_slices_DeleteFunc_impl_Peg_impl_Peg_least _ _ _ a (by first | rfl | (simp only [ml]; done) | (simp only [ml]; rfl)) b2 _ r2 (by first | rfl | (simp only [ml]; done) | (simp only [ml]; rfl))) fun r7 => ?_
          conv => lhs; whnf
          exact t_ret (by first | rfl | (simp only [ml]; done) | (simp only [ml]; rfl))
      · conv => lhs; whnf
        refine t_same ?_ ?_
        · conv => lhs; whnf
          refine t_same ?_ ?_
          · conv => lhs; whnf
            refine t_same ?_ ?_
            · conv => lhs; whnf
              refine t_call (h_slices_DeleteFunc_impl_Peg_impl_Peg_least _ _ _ a (by first | rfl | (simp only [ml]; done) | (simp only [ml]; rfl)) b2 _ r2 (by first | rfl | (simp only [ml]; done) | (simp only [ml]; rfl))) fun r8 => ?_
              conv => lhs; whnf
              refine t_same ?_ ?_
              · conv => lhs; whnf
                exact t_ret (by first | rfl | (simp only [ml]; done) | (simp only [ml]; rfl))
              · conv => lhs; whnf
                exact t_ret (by first | rfl | (simp only [ml]; done) | (simp only [ml]; rfl))
            · conv => lhs; whnf
              refine t_call (h_slices_DeleteFunc_impl_Peg_impl_Peg_least _ _ _ a (by first | rfl | (simp only [ml]; done) | (simp only [ml]; rfl)) b2 _ r2 (by first | rfl | (simp only [ml]; done) | (simp only [ml]; rfl))) fun r9 => ?_
              conv => lhs; whnf
              exact t_ret (by first | rfl | (simp only [ml]; done) | (simp only [ml]; rfl))
          · conv => lhs; whnf
            refine t_call (h_slices_DeleteFunc_impl_Peg_impl_Peg_least _ _ _ a (by first | rfl | (simp only [ml]; done) | (simp only [ml]; rfl)) b2 _ r2 (by first | rfl | (simp only [ml]; done) | (simp only [ml]; rfl))) fun r10 => ?_
            conv => lhs; whnf
            exact t_ret (by first | rfl | (simp only [ml]; done) | (simp only [ml]; rfl))
        · conv => lhs; whnf
          refine t_same ?_ ?_
          · conv => lhs; whnf
            refine t_call (h_slices_DeleteFunc_impl_Peg_impl_Peg_least _ _ _ a (by first | rfl | (simp only [ml]; done) | (simp only [ml]; rfl)) b2 _ r2 (by first | rfl | (simp only [ml]; done) | (simp only [ml]; rfl))) fun r11 => ?_
            conv => lhs; whnf
            exact t_ret (by first | rfl | (simp only [ml]; done) | (simp only [ml]; rfl))
          · conv => lhs; whnf
            refine t_call (h_slices_DeleteFunc_impl_Peg_impl_Peg_least _ _ _ a (by first | rfl | (simp only [ml]; done) | (simp only [ml]; rfl)) b2 _ r2 (by first | rfl | (simp only [ml]; done) | (simp only [ml]; rfl))) fun r12 => ?_
            conv => lhs; whnf
            exact t_ret (by first | rfl | (simp only [ml]; done) | (simp only [ml]; rfl))
  · conv => lhs; whnf
    exact t_none


noncomputable def spec_mvFull_l0 (L : Nat) : Nat → Int → Int → Int → Int → Int → Int → Option (Int × Int)
  | 0, _, _, _, _, _, _ => none
  | m + 1, v0, v1, v6, v7, v8, v9 => bif !ieq v1 0 then (bif ieq v1 0 then (none) else (spec_mvFull_l0 L m v1 (wr IntKind.i64 (isub v0 (wr IntKind.i64 (imul (wr IntKind.i64 (iquo v0 v1)) v1)))) v8 v9 (wr IntKind.i64 (isub v6 (wr IntKind.i64 (imul (wr IntKind.i64 (iquo v0 v1)) v8)))) (wr IntKind.i64 (isub v7 (wr IntKind.i64 (imul (wr IntKind.i64 (iquo v0 v1)) v9)))))) else (bif ilt v0 0 then (some ((wr IntKind.i64 (isub 0 v6), wr IntKind.i64 (isub 0 v7)))) else (some ((v6, v7))))


noncomputable def spec_mvFull (L : Nat) (a : Int) (b : Int) : Option (Int × Int) := spec_mvFull_l0 L L a b 1 0 0 1


def spec_mvFull_ok (L : Nat) (C : CF) : Prop := ∀ (a : Int) (b : Int), C 131 ([.int .i64 a, .int .i64 b]) ([]) = Option.map (fun r : Int × Int => ((.tup [.int .i64 (r.1), .int .i64 (r.2)], []) : AV × List Blk)) (spec_mvFull L a b)


theorem spec_mvFull_run (L : Nat) (C : CF) : ∀ (a : Int) (b : Int), run T C sh (keep 131) L Try.f131 ([.int .i64 a, .int .i64 b]) ([]) = Option.map (fun r : Int × Int => ((.tup [.int .i64 (r.1), .int .i64 (r.2)], []) : AV × List Blk)) (spec_mvFull L a b) := by
  intro a b
  unfold spec_mvFull
  conv => lhs; whnf
  refine t_loop (fun (⟨v0, v1, v6, v7, v8, v9⟩ : Int × Int × Int × Int × Int × Int) => (AV.int IntKind.i64 v0 :: AV.int IntKind.i64 v1 :: topA 4 (AV.int IntKind.i64 v6 :: AV.int IntKind.i64 v7 :: AV.int IntKind.i64 v8 :: AV.int IntKind.i64 v9 :: tops 38), [])) (fun m (⟨v0, v1, v6, v7, v8, v9⟩ : Int × Int × Int × Int × Int × Int) => spec_mvFull_l0 L m v0 v1 v6 v7 v8 v9) (fun _ => rfl) (fun m s rec hrec => ?_) L ((a, b, 1, 0, 0, 1)) ?_ ?_
  rotate_left
  · first | rfl | (simp only [ml]; done) | (simp only [ml]; rfl)
  · first | rfl | (simp only [ml]; done) | (simp only [ml]; rfl)
  obtain ⟨v0, v1, v6, v7, v8, v9⟩ := s
  show _ = Option.map _ (spec_mvFull_l0 L (m + 1) v0 v1 v6 v7 v8 v9)
  rw [spec_mvFull_l0.eq_2]
  conv => lhs; whnf
  refine t_cond ?_ ?_
  · conv => lhs; whnf
    refine t_cond ?_ ?_
    · conv => lhs; whnf
      exact t_none
    · conv => lhs; whnf
      exact hrec ((v1, wr IntKind.i64 (isub v0 (wr IntKind.i64 (imul (wr IntKind.i64 (iquo v0 v1)) v1))), v8, v9, wr IntKind.i64 (isub v6 (wr IntKind.i64 (imul (wr IntKind.i64 (iquo v0 v1)) v8))), wr IntKind.i64 (isub v7 (wr IntKind.i64 (imul (wr IntKind.i64 (iquo v0 v1)) v9))))) _ _ (by first | rfl | (simp only [ml]; done) | (simp only [ml]; rfl)) (by first | rfl | (simp only [ml]; done) | (simp only [ml]; rfl))
  · conv => lhs; whnf
    refine t_cond ?_ ?_
    · conv => lhs; whnf
      exact t_ret (by first | rfl | (simp only [ml]; done) | (simp only [ml]; rfl))
    · conv => lhs; whnf
      exact t_ret (by first | rfl | (simp only [ml]; done) | (simp only [ml]; rfl))


noncomputable def spec_wiNearer (L : Nat) (a : Int) (b : Int) : Option (Bool) := gbind (spec_l1Abs L a) fun r => gbind (spec_l1Abs L b) fun r1 => bif ilt r r1 then (some true) else (gbind (spec_l1Abs L a) fun r2 => gbind (spec_l1Abs L b) fun r3 => bif ieq r2 r3 then (some (ilt b a)) else (some false))


def spec_wiNearer_ok (L : Nat) (C : CF) : Prop := ∀ (a : Int) (b : Int), C 133 ([.int .i64 a, .int .i64 b]) ([]) = Option.map (fun r : Bool => ((.bool r, []) : AV × List Blk)) (spec_wiNearer L a b)


theorem spec_wiNearer_run (L : Nat) (C : CF) (h_spec_l1Abs : spec_l1Abs_ok L C) : ∀ (a : Int) (b : Int), run T C sh (keep 133) L Try.f133 ([.int .i64 a, .int .i64 b]) ([]) = Option.map (fun r : Bool => ((.bool r, []) : AV × List Blk)) (spec_wiNearer L a b) := by
  intro a b
  unfold spec_wiNearer
  conv => lhs; whnf
  refine t_call (h_spec_l1Abs a) fun r => ?_
  conv => lhs; whnf
  refine t_call (h_spec_l1Abs b) fun r1 => ?_
  conv => lhs; whnf
  refine t_cond ?_ ?_
  · conv => lhs; whnf
    exact t_ret (by first | rfl | (simp only [ml]; done) | (simp only [ml]; rfl))
  · conv => lhs; whnf
    refine t_call (h_spec_l1Abs a) fun r2 => ?_
    conv => lhs; whnf
    refine t_call (h_spec_l1Abs b) fun r3 => ?_
    conv => lhs; whnf
    refine t_cond ?_ ?_
    · conv => lhs; whnf
      exact t_ret (by first | rfl | (simp only [ml]; done) | (simp only [ml]; rfl))
    · conv => lhs; whnf
      exact t_ret (by first | rfl | (simp only [ml]; done) | (simp only [ml]; rfl))


noncomputable def spec_wiFlat_l0 (L : Nat) (a : List Pt) (p1 : Int) (p3 : Int) (r1 : Int × Int) : Nat → Int → Int → Int → Int → Int → Int → Int → Option (Int × Int × Int × Int × Int × Int)
  | 0, _, _, _, _, _, _, _ => none
  | m + 1, v10, b1_0, b1_1, b1_2, b1_3, b1_4, b1_5 => gbind (spec_l1Abs L (Prod.fst r1)) fun r4 => gbind (spec_l1Abs L (Prod.snd r1)) fun r5 => bif ile v10 (wr IntKind.i64 (iadd (wr IntKind.i64 (iadd r4 r5)) 1)) then (gbind (spec_wiNearer L (wr IntKind.i64 (iadd (Prod.fst r1) (wr IntKind.i64 (imul v10 p1)))) b1_0) fun r6 => bif r6 then (spec_wiFlat_l0 L a p1 p3 r1 m (wr IntKind.i64 (iadd v10 1)) (wr IntKind.i64 (iadd (Prod.fst r1) (wr IntKind.i64 (imul v10 p1)))) (wr IntKind.i64 (iadd (Prod.snd r1) (wr IntKind.i64 (imul v10 p3)))) 0 0 0 0) else (bif ieq (wr IntKind.i64 (iadd (Prod.fst r1) (wr IntKind.i64 (imul v10 p1)))) b1_0 then (gbind (spec_wiNearer L (wr IntKind.i64 (iadd (Prod.snd r1) (wr IntKind.i64 (imul v10 p3)))) b1_1) fun r7 => bif r7 then (spec_wiFlat_l0 L a p1 p3 r1 m (wr IntKind.i64 (iadd v10 1)) (wr IntKind.i64 (iadd (Prod.fst r1) (wr IntKind.i64 (imul v10 p1)))) (wr IntKind.i64 (iadd (Prod.snd r1) (wr IntKind.i64 (imul v10 p3)))) 0 0 0 0) else (spec_wiFlat_l0 L a p1 p3 r1 m (wr IntKind.i64 (iadd v10 1)) b1_0 b1_1 b1_2 b1_3 b1_4 b1_5)) else (spec_wiFlat_l0 L a p1 p3 r1 m (wr IntKind.i64 (iadd v10 1)) b1_0 b1_1 b1_2 b1_3 b1_4 b1_5))) else (gbind (spec_wiRange L a b1_0 b1_1) fun r8 => gbind (spec_wiRange L a p1 p3) fun r9 => some ((b1_0, b1_1, p1, p3, wr IntKind.i64 (isub 0 (Prod.fst r8)), wr IntKind.i64 (isub 0 (Prod.fst r9)))))


noncomputable def spec_wiFlat (L : Nat) (a : List Pt) : Option (Int × Int × Int × Int × Int × Int) := gbind (spec_wiLeast L a) fun r => gbind (lget (Prod.snd r) 0) fun p => gbind (lget p 0) fun p1 => gbind (lget (Prod.snd r) 0) fun p2 => gbind (lget p2 1) fun p3 => gbind (spec_mvFull L p3 (wr IntKind.i64 (isub 0 p1))) fun r1 => gbind (spec_l1Abs L (Prod.fst r1)) fun r2 => gbind (spec_l1Abs L (Prod.snd r1)) fun r3 => spec_wiFlat_l0 L a p1 p3 r1 L (wr IntKind.i64 (isub (wr IntKind.i64 (isub (wr IntKind.i64 (isub 0 r2)) r3)) 1)) (Prod.fst r1) (Prod.snd r1) 0 0 0 0


def spec_wiFlat_ok (L : Nat) (C : CF) : Prop := ∀ (oa : Bool) (ca : Bool) (x_a : List AV) (a : List Pt) (_ : x_a = List.map ep a), C 97 ([.lst oa ca 2 x_a]) ([]) = Option.map (fun r : Int × Int × Int × Int × Int × Int => ((.agg [.int .i64 (r.1), .int .i64 (r.2.1), .int .i64 (r.2.2.1), .int .i64 (r.2.2.2.1), .int .i64 (r.2.2.2.2.1), .int .i64 (r.2.2.2.2.2)], []) : AV × List Blk)) (spec_wiFlat L a)


theorem spec_wiFlat_run (L : Nat) (C : CF) (h_spec_l1Abs : spec_l1Abs_ok L C) (h_spec_wiRange : spec_wiRange_ok L C) (h_spec_wiLeast : spec_wiLeast_ok L C) (h_spec_mvFull : spec_mvFull_ok L C) (h_spec_wiNearer : spec_wiNearer_ok L C) : ∀ (oa : Bool) (ca : Bool) (x_a : List AV) (a : List Pt) (_ : x_a = List.map ep a), run T C sh (keep 97) L Try.f97 ([.lst oa ca 2 x_a]) ([]) = Option.map (fun r : Int × Int × Int × Int × Int × Int => ((.agg [.int .i64 (r.1), .int .i64 (r.2.1), .int .i64 (r.2.2.1), .int .i64 (r.2.2.2.1), .int .i64 (r.2.2.2.2.1), .int .i64 (r.2.2.2.2.2)], []) : AV × List Blk)) (spec_wiFlat L a) := by
  intro oa ca x_a a hx_a
  subst hx_a
  unfold spec_wiFlat
  conv => lhs; whnf
  refine t_call (h_spec_wiLeast _ _ _ a (by first | rfl | (simp only [ml]; done) | (simp only [ml]; rfl))) fun r => ?_
  conv => lhs; whnf
  refine t_get (en := eLI) (l := Prod.snd r) (by first | rfl | (simp only [ml]; done) | (simp only [ml]; rfl)) fun p => ?_
  conv => lhs; whnf
  refine t_get (en := eI) (l := p) (by first | rfl | (simp only [ml]; done) | (simp only [ml]; rfl)) fun p1 => ?_
  conv => lhs; whnf
  refine t_get (en := eLI) (l := Prod.snd r) (by first | rfl | (simp only [ml]; done) | (simp only [ml]; rfl)) fun p2 => ?_
  conv => lhs; whnf
  refine t_get (en := eI) (l := p2) (by first | rfl | (simp only [ml]; done) | (simp only [ml]; rfl)) fun p3 => ?_
  conv => lhs; whnf
  refine t_call (h_spec_mvFull p3 (wr IntKind.i64 (isub 0 p1))) fun r1 => ?_
  conv => lhs; whnf
  refine t_call (h_spec_l1Abs (Prod.fst r1)) fun r2 => ?_
  conv => lhs; whnf
  refine t_call (h_spec_l1Abs (Prod.snd r1)) fun r3 => ?_
  conv => lhs; whnf
  refine t_loop (fun (⟨v10, b1_0, b1_1, b1_2, b1_3, b1_4, b1_5⟩ : Int × Int × Int × Int × Int × Int × Int) => (AV.lst oa ca 2 (List.map ep a) :: AV.top :: AV.ptr 0 0 0 6 :: topA 2 (AV.int IntKind.i64 p1 :: AV.int IntKind.i64 p3 :: AV.int IntKind.i64 (Prod.fst r1) :: AV.int IntKind.i64 (Prod.snd r1) :: AV.ptr 1 0 0 6 :: AV.int IntKind.i64 v10 :: tops 105), [Blk.box (AV.agg [AV.int IntKind.i64 0, AV.int IntKind.i64 0, AV.int IntKind.i64 0, AV.int IntKind.i64 0, AV.int IntKind.i64 0, AV.int IntKind.i64 0]), Blk.box (AV.agg [AV.int IntKind.i64 b1_0, AV.int IntKind.i64 b1_1, AV.int IntKind.i64 b1_2, AV.int IntKind.i64 b1_3, AV.int IntKind.i64 b1_4, AV.int IntKind.i64 b1_5])])) (fun m (⟨v10, b1_0, b1_1, b1_2, b1_3, b1_4, b1_5⟩ : Int × Int × Int × Int × Int × Int × Int) => spec_wiFlat_l0 L a p1 p3 r1 m v10 b1_0 b1_1 b1_2 b1_3 b1_4 b1_5) (fun _ => rfl) (fun m s rec hrec => ?_) L ((wr IntKind.i64 (isub (wr IntKind.i64 (isub (wr IntKind.i64 (isub 0 r2)) r3)) 1), Prod.fst r1, Prod.snd r1, 0, 0, 0, 0)) ?_ ?_
  rotate_left
  · first | rfl | (simp only [ml]; done) | (simp only [ml]; rfl)
  · first | rfl | (simp only [ml]; done) | (simp only [ml]; rfl)
  obtain ⟨v10, b1_0, b1_1, b1_2, b1_3, b1_4, b1_5⟩ := s
  show _ = Option.map _ (spec_wiFlat_l0 L a p1 p3 r1 (m + 1) v10 b1_0 b1_1 b1_2 b1_3 b1_4 b1_5)
  rw [spec_wiFlat_l0.eq_2]
  conv => lhs; whnf
  refine t_call (h_spec_l1Abs (Prod.fst r1)) fun r4 => ?_
  conv => lhs; whnf
  refine t_call (h_spec_l1Abs (Prod.snd r1)) fun r5 => ?_
  conv => lhs; whnf
  refine t_cond ?_ ?_
  · conv => lhs; whnf
    refine t_call (h_spec_wiNearer (wr IntKind.i64 (iadd (Prod.fst r1) (wr IntKind.i64 (imul v10 p1)))) b1_0) fun r6 => ?_
    conv => lhs; whnf
    refine t_cond ?_ ?_
    · conv => lhs; whnf
      exact hrec ((wr IntKind.i64 (iadd v10 1), wr IntKind.i64 (iadd (Prod.fst r1) (wr IntKind.i64 (imul v10 p1))), wr IntKind.i64 (iadd (Prod.snd r1) (wr IntKind.i64 (imul v10 p3))), 0, 0, 0, 0)) _ _ (by first | rfl | (simp only [ml]; done) | (simp only [ml]; rfl)) (by first | rfl | (simp only [ml]; done) | (simp only [ml]; rfl))
    · conv => lhs; whnf
      refine t_cond ?_ ?_
      · conv => lhs; whnf
        refine t_call (h_spec_wiNearer (wr IntKind.i64 (iadd (Prod.snd r1) (wr IntKind.i64 (imul v10 p3)))) b1_1) fun r7 => ?_
        conv => lhs; whnf
        refine t_cond ?_ ?_
        · conv => lhs; whnf
          exact hrec ((wr IntKind.i64 (iadd v10 1), wr IntKind.i64 (iadd (Prod.fst r1) (wr IntKind.i64 (imul v10 p1))), wr IntKind.i64 (iadd (Prod.snd r1) (wr IntKind.i64 (imul v10 p3))), 0, 0, 0, 0)) _ _ (by first | rfl | (simp only [ml]; done) | (simp only [ml]; rfl)) (by first | rfl | (simp only [ml]; done) | (simp only [ml]; rfl))
        · conv => lhs; whnf
          exact hrec ((wr IntKind.i64 (iadd v10 1), b1_0, b1_1, b1_2, b1_3, b1_4, b1_5)) _ _ (by first | rfl | (simp only [ml]; done) | (simp only [ml]; rfl)) (by first | rfl | (simp only [ml]; done) | (simp only [ml]; rfl))
      · conv => lhs; whnf
        exact hrec ((wr IntKind.i64 (iadd v10 1), b1_0, b1_1, b1_2, b1_3, b1_4, b1_5)) _ _ (by first | rfl | (simp only [ml]; done) | (simp only [ml]; rfl)) (by first | rfl | (simp only [ml]; done) | (simp only [ml]; rfl))
  · conv => lhs; whnf
    refine t_call (h_spec_wiRange _ _ _ a (by first | rfl | (simp only [ml]; done) | (simp only [ml]; rfl)) b1_0 b1_1) fun r8 => ?_
    conv => lhs; whnf
    refine t_call (h_spec_wiRange _ _ _ a (by first | rfl | (simp only [ml]; done) | (simp only [ml]; rfl)) p1 p3) fun r9 => ?_
    conv => lhs; whnf
    exact t_ret (by first | rfl | (simp only [ml]; done) | (simp only [ml]; rfl))


noncomputable def spec_l1All_l0 (L : Nat) (a : List Int) (b : Int) (c : Int) : Nat → Int → Option Bool
  | 0, _ => none
  | m + 1, v11 => bif ilt v11 (ilen (List.map eI a)) then (gbind (lget a v11) fun p => gbind (spec_l1In L p b c) fun r => bif !r then (some false) else (spec_l1All_l0 L a b c m (wr IntKind.i64 (iadd v11 1)))) else (some true)


noncomputable def spec_l1All (L : Nat) (a : List Int) (b : Int) (c : Int) : Option (Bool) := spec_l1All_l0 L a b c L 0


def spec_l1All_ok (L : Nat) (C : CF) : Prop := ∀ (oa : Bool) (ca : Bool) (x_a : List AV) (a : List Int) (_ : x_a = List.map eI a) (b : Int) (c : Int), C 173 ([.lst oa ca 1 x_a, .int .i64 b, .int .i64 c]) ([]) = Option.map (fun r : Bool => ((.bool r, []) : AV × List Blk)) (spec_l1All L a b c)


theorem spec_l1All_run (L : Nat) (C : CF) (h_spec_l1In : spec_l1In_ok L C) : ∀ (oa : Bool) (ca : Bool) (x_a : List AV) (a : List Int) (_ : x_a = List.map eI a) (b : Int) (c : Int), run T C sh (keep 173) L Try.f173 ([.lst oa ca 1 x_a, .int .i64 b, .int .i64 c]) ([]) = Option.map (fun r : Bool => ((.bool r, []) : AV × List Blk)) (spec_l1All L a b c) := by
  intro oa ca x_a a hx_a b c
  subst hx_a
  unfold spec_l1All
  conv => lhs; whnf
  refine t_loop (fun (v11 : Int) => (AV.top :: AV.int IntKind.i64 b :: AV.int IntKind.i64 c :: topA 6 (AV.lst oa ca 1 (List.map eI a) :: AV.int IntKind.i64 (ilen (List.map eI a)) :: AV.int IntKind.i64 v11 :: tops 9), [])) (fun m (v11 : Int) => spec_l1All_l0 L a b c m v11) (fun _ => rfl) (fun m v11 rec hrec => ?_) L 0 ?_ ?_
  rotate_left
  · first | rfl | (simp only [ml]; done) | (simp only [ml]; rfl)
  · first | rfl | (simp only [ml]; done) | (simp only [ml]; rfl)
  show _ = Option.map _ (spec_l1All_l0 L a b c (m + 1) v11)
  rw [spec_l1All_l0.eq_2]
  conv => lhs; whnf
  refine t_cond ?_ ?_
  · conv => lhs; whnf
    refine t_get (en := eI) (l := a) (by first | rfl | (simp only [ml]; done) | (simp only [ml]; rfl)) fun p => ?_
    conv => lhs; whnf
    refine t_call (h_spec_l1In p b c) fun r => ?_
    conv => lhs; whnf
    refine t_cond ?_ ?_
    · conv => lhs; whnf
      exact t_ret (by first | rfl | (simp only [ml]; done) | (simp only [ml]; rfl))
    · conv => lhs; whnf
      exact hrec (wr IntKind.i64 (iadd v11 1)) _ _ (by first | rfl | (simp only [ml]; done) | (simp only [ml]; rfl)) (by first | rfl | (simp only [ml]; done) | (simp only [ml]; rfl))
  · conv => lhs; whnf
    exact t_ret (by first | rfl | (simp only [ml]; done) | (simp only [ml]; rfl))


noncomputable def spec_mvGood (L : Nat) (a_0 : Int) (a_1 : Int) (a_2 : Int) (a_3 : Int) (a_4 : Int) (a_5 : Int) : Option (Bool) := gbind (spec_l1All L (a_0 :: (a_1 :: (a_2 :: (a_3 :: [])))) (-20) 20) fun r => bif r then (gbind (spec_l1All L (a_4 :: (a_5 :: [])) (-80) 80) fun r1 => bif r1 then (gbind (spec_l1Abs L (wr IntKind.i64 (isub (wr IntKind.i64 (imul a_0 a_3)) (wr IntKind.i64 (imul a_1 a_2))))) fun r2 => some (ieq r2 1)) else (some false)) else (some false)


def spec_mvGood_ok (L : Nat) (C : CF) : Prop := ∀ (a_0 : Int) (a_1 : Int) (a_2 : Int) (a_3 : Int) (a_4 : Int) (a_5 : Int), C 130 ([.agg [.int .i64 a_0, .int .i64 a_1, .int .i64 a_2, .int .i64 a_3, .int .i64 a_4, .int .i64 a_5]]) ([]) = Option.map (fun r : Bool => ((.bool r, []) : AV × List Blk)) (spec_mvGood L a_0 a_1 a_2 a_3 a_4 a_5)


theorem spec_mvGood_run (L : Nat) (C : CF) (h_spec_l1Abs : spec_l1Abs_ok L C) (h_spec_l1All : spec_l1All_ok L C) : ∀ (a_0 : Int) (a_1 : Int) (a_2 : Int) (a_3 : Int) (a_4 : Int) (a_5 : Int), run T C sh (keep 130) L Try.f130 ([.agg [.int .i64 a_0, .int .i64 a_1, .int .i64 a_2, .int .i64 a_3, .int .i64 a_4, .int .i64 a_5]]) ([]) = Option.map (fun r : Bool => ((.bool r, []) : AV × List Blk)) (spec_mvGood L a_0 a_1 a_2 a_3 a_4 a_5) := by
  intro a_0 a_1 a_2 a_3 a_4 a_5
  unfold spec_mvGood
  conv => lhs; whnf
  refine t_call (h_spec_l1All _ _ _ (a_0 :: (a_1 :: (a_2 :: (a_3 :: [])))) (by first | rfl | (simp only [ml]; done) | (simp only [ml]; rfl)) (-20) 20) fun r => ?_
  conv => lhs; whnf
  refine t_cond ?_ ?_
  · conv => lhs; whnf
    refine t_call (h_spec_l1All _ _ _ (a_4 :: (a_5 :: [])) (by first | rfl | (simp only [ml]; done) | (simp only [ml]; rfl)) (-80) 80) fun r1 => ?_
    conv => lhs; whnf
    refine t_cond ?_ ?_
    · conv => lhs; whnf
      refine t_call (h_spec_l1Abs (wr IntKind.i64 (isub (wr IntKind.i64 (imul a_0 a_3)) (wr IntKind.i64 (imul a_1 a_2))))) fun r2 => ?_
      conv => lhs; whnf
      exact t_ret (by first | rfl | (simp only [ml]; done) | (simp only [ml]; rfl))
    · conv => lhs; whnf
      exact t_ret (by first | rfl | (simp only [ml]; done) | (simp only [ml]; rfl))
  · conv => lhs; whnf
    exact t_ret (by first | rfl | (simp only [ml]; done) | (simp only [ml]; rfl))


noncomputable def spec_mvIf (L : Nat) (a_0 : Int) (a_1 : Int) (a_2 : Int) (a_3 : Int) (a_4 : Int) (a_5 : Int) : Option (Int × Int × Int × Int × Int × Int × Bool) := gbind (spec_mvGood L a_0 a_1 a_2 a_3 a_4 a_5) fun r => bif !r then (some ((0, 0, 0, 0, 0, 0, false))) else (some ((a_0, a_1, a_2, a_3, a_4, a_5, true)))


def spec_mvIf_ok (L : Nat) (C : CF) : Prop := ∀ (a_0 : Int) (a_1 : Int) (a_2 : Int) (a_3 : Int) (a_4 : Int) (a_5 : Int), C 96 ([.agg [.int .i64 a_0, .int .i64 a_1, .int .i64 a_2, .int .i64 a_3, .int .i64 a_4, .int .i64 a_5]]) ([]) = Option.map (fun r : Int × Int × Int × Int × Int × Int × Bool => ((.tup [.agg [.int .i64 (r.1), .int .i64 (r.2.1), .int .i64 (r.2.2.1), .int .i64 (r.2.2.2.1), .int .i64 (r.2.2.2.2.1), .int .i64 (r.2.2.2.2.2.1)], .bool (r.2.2.2.2.2.2)], []) : AV × List Blk)) (spec_mvIf L a_0 a_1 a_2 a_3 a_4 a_5)


theorem spec_mvIf_run (L : Nat) (C : CF) (h_spec_mvGood : spec_mvGood_ok L C) : ∀ (a_0 : Int) (a_1 : Int) (a_2 : Int) (a_3 : Int) (a_4 : Int) (a_5 : Int), run T C sh (keep 96) L Try.f96 ([.agg [.int .i64 a_0, .int .i64 a_1, .int .i64 a_2, .int .i64 a_3, .int .i64 a_4, .int .i64 a_5]]) ([]) = Option.map (fun r : Int × Int × Int × Int × Int × Int × Bool => ((.tup [.agg [.int .i64 (r.1), .int .i64 (r.2.1), .int .i64 (r.2.2.1), .int .i64 (r.2.2.2.1), .int .i64 (r.2.2.2.2.1), .int .i64 (r.2.2.2.2.2.1)], .bool (r.2.2.2.2.2.2)], []) : AV × List Blk)) (spec_mvIf L a_0 a_1 a_2 a_3 a_4 a_5) := by
  intro a_0 a_1 a_2 a_3 a_4 a_5
  unfold spec_mvIf
  conv => lhs; whnf
  refine t_call (h_spec_mvGood a_0 a_1 a_2 a_3 a_4 a_5) fun r => ?_
  conv => lhs; whnf
  refine t_cond ?_ ?_
  · conv => lhs; whnf
    exact t_ret (by first | rfl | (simp only [ml]; done) | (simp only [ml]; rfl))
  · conv => lhs; whnf
    exact t_ret (by first | rfl | (simp only [ml]; done) | (simp only [ml]; rfl))


noncomputable def spec_FlatMove (L : Nat) (a : List Pt) : Option (Int × Int × Int × Int × Int × Int × Bool) := gbind (spec_pgGood L a) fun r => bif !r then (some ((0, 0, 0, 0, 0, 0, false))) else (gbind (spec_wiFlat L a) fun r1 => gbind (spec_mvIf L (Prod.fst r1) (Prod.fst (Prod.snd r1)) (Prod.fst (Prod.snd (Prod.snd r1))) (Prod.fst (Prod.snd (Prod.snd (Prod.snd r1)))) (Prod.fst (Prod.snd (Prod.snd (Prod.snd (Prod.snd r1))))) (Prod.snd (Prod.snd (Prod.snd (Prod.snd (Prod.snd r1)))))) fun r2 => some ((Prod.fst r2, Prod.fst (Prod.snd r2), Prod.fst (Prod.snd (Prod.snd r2)), Prod.fst (Prod.snd (Prod.snd (Prod.snd r2))), Prod.fst (Prod.snd (Prod.snd (Prod.snd (Prod.snd r2)))), Prod.fst (Prod.snd (Prod.snd (Prod.snd (Prod.snd (Prod.snd r2))))), Prod.snd (Prod.snd (Prod.snd (Prod.snd (Prod.snd (Prod.snd r2))))))))


def spec_FlatMove_ok (L : Nat) (C : CF) : Prop := ∀ (oa : Bool) (ca : Bool) (x_a : List AV) (a : List Pt) (_ : x_a = List.map ep a), C 46 ([.lst oa ca 2 x_a]) ([]) = Option.map (fun r : Int × Int × Int × Int × Int × Int × Bool => ((.tup [.agg [.int .i64 (r.1), .int .i64 (r.2.1), .int .i64 (r.2.2.1), .int .i64 (r.2.2.2.1), .int .i64 (r.2.2.2.2.1), .int .i64 (r.2.2.2.2.2.1)], .bool (r.2.2.2.2.2.2)], []) : AV × List Blk)) (spec_FlatMove L a)


theorem spec_FlatMove_run (L : Nat) (C : CF) (h_spec_pgGood : spec_pgGood_ok L C) (h_spec_wiFlat : spec_wiFlat_ok L C) (h_spec_mvIf : spec_mvIf_ok L C) : ∀ (oa : Bool) (ca : Bool) (x_a : List AV) (a : List Pt) (_ : x_a = List.map ep a), run T C sh (keep 46) L Try.f46 ([.lst oa ca 2 x_a]) ([]) = Option.map (fun r : Int × Int × Int × Int × Int × Int × Bool => ((.tup [.agg [.int .i64 (r.1), .int .i64 (r.2.1), .int .i64 (r.2.2.1), .int .i64 (r.2.2.2.1), .int .i64 (r.2.2.2.2.1), .int .i64 (r.2.2.2.2.2.1)], .bool (r.2.2.2.2.2.2)], []) : AV × List Blk)) (spec_FlatMove L a) := by
  intro oa ca x_a a hx_a
  subst hx_a
  unfold spec_FlatMove
  conv => lhs; whnf
  refine t_call (h_spec_pgGood _ _ _ a (by first | rfl | (simp only [ml]; done) | (simp only [ml]; rfl))) fun r => ?_
  conv => lhs; whnf
  refine t_cond ?_ ?_
  · conv => lhs; whnf
    exact t_ret (by first | rfl | (simp only [ml]; done) | (simp only [ml]; rfl))
  · conv => lhs; whnf
    refine t_call (h_spec_wiFlat _ _ _ a (by first | rfl | (simp only [ml]; done) | (simp only [ml]; rfl))) fun r1 => ?_
    conv => lhs; whnf
    refine t_call (h_spec_mvIf (Prod.fst r1) (Prod.fst (Prod.snd r1)) (Prod.fst (Prod.snd (Prod.snd r1))) (Prod.fst (Prod.snd (Prod.snd (Prod.snd r1)))) (Prod.fst (Prod.snd (Prod.snd (Prod.snd (Prod.snd r1))))) (Prod.snd (Prod.snd (Prod.snd (Prod.snd (Prod.snd r1)))))) fun r2 => ?_
    conv => lhs; whnf
    exact t_ret (by first | rfl | (simp only [ml]; done) | (simp only [ml]; rfl))


noncomputable def impl_bezout_l0 (L : Nat) : Nat → Int → Int → Int → Int → Int → Int → Option (Int × Int × Int)
  | 0, _, _, _, _, _, _ => none
  | m + 1, v0, v1, v7, v8, v9, v10 => bif !ieq v1 0 then (bif ieq v1 0 then (none) else (impl_bezout_l0 L m v1 (wr IntKind.i64 (isub v0 (wr IntKind.i64 (imul (wr IntKind.i64 (iquo v0 v1)) v1)))) v9 v10 (wr IntKind.i64 (isub v7 (wr IntKind.i64 (imul (wr IntKind.i64 (iquo v0 v1)) v9)))) (wr IntKind.i64 (isub v8 (wr IntKind.i64 (imul (wr IntKind.i64 (iquo v0 v1)) v10)))))) else (some ((v0, v7, v8)))


noncomputable def impl_bezout (L : Nat) (a : Int) (b : Int) : Option (Int × Int × Int) := impl_bezout_l0 L L a b 1 0 0 1


def impl_bezout_ok (L : Nat) (C : CF) : Prop := ∀ (a : Int) (b : Int), C 136 ([.int .i64 a, .int .i64 b]) ([]) = Option.map (fun r : Int × Int × Int => ((.tup [.int .i64 (r.1), .int .i64 (r.2.1), .int .i64 (r.2.2)], []) : AV × List Blk)) (impl_bezout L a b)


theorem impl_bezout_run (L : Nat) (C : CF) : ∀ (a : Int) (b : Int), run T C sh (keep 136) L Try.f136 ([.int .i64 a, .int .i64 b]) ([]) = Option.map (fun r : Int × Int × Int => ((.tup [.int .i64 (r.1), .int .i64 (r.2.1), .int .i64 (r.2.2)], []) : AV × List Blk)) (impl_bezout L a b) := by
  intro a b
  unfold impl_bezout
  conv => lhs; whnf
  refine t_loop (fun (⟨v0, v1, v7, v8, v9, v10⟩ : Int × Int × Int × Int × Int × Int) => (AV.int IntKind.i64 v0 :: AV.int IntKind.i64 v1 :: topA 5 (AV.int IntKind.i64 v7 :: AV.int IntKind.i64 v8 :: AV.int IntKind.i64 v9 :: AV.int IntKind.i64 v10 :: tops 27), [])) (fun m (⟨v0, v1, v7, v8, v9, v10⟩ : Int × Int × Int × Int × Int × Int) => impl_bezout_l0 L m v0 v1 v7 v8 v9 v10) (fun _ => rfl) (fun m s rec hrec => ?_) L ((a, b, 1, 0, 0, 1)) ?_ ?_
  rotate_left
  · first | rfl | (simp only [ml]; done) | (simp only [ml]; rfl)
  · first | rfl | (simp only [ml]; done) | (simp only [ml]; rfl)
  obtain ⟨v0, v1, v7, v8, v9, v10⟩ := s
  show _ = Option.map _ (impl_bezout_l0 L (m + 1) v0 v1 v7 v8 v9 v10)
  rw [impl_bezout_l0.eq_2]
  conv => lhs; whnf
  refine t_cond ?_ ?_
  · conv => lhs; whnf
    refine t_cond ?_ ?_
    · conv => lhs; whnf
      exact t_none
    · conv => lhs; whnf
      exact hrec ((v1, wr IntKind.i64 (isub v0 (wr IntKind.i64 (imul (wr IntKind.i64 (iquo v0 v1)) v1))), v9, v10, wr IntKind.i64 (isub v7 (wr IntKind.i64 (imul (wr IntKind.i64 (iquo v0 v1)) v9))), wr IntKind.i64 (isub v8 (wr IntKind.i64 (imul (wr IntKind.i64 (iquo v0 v1)) v10))))) _ _ (by first | rfl | (simp only [ml]; done) | (simp only [ml]; rfl)) (by first | rfl | (simp only [ml]; done) | (simp only [ml]; rfl))
  · conv => lhs; whnf
    exact t_ret (by first | rfl | (simp only [ml]; done) | (simp only [ml]; rfl))


noncomputable def impl_isLess (L : Nat) (a : Int) (b : Int) : Option (Bool) := gbind (impl_size L a) fun r => gbind (impl_size L b) fun r1 => bif ilt r r1 then (some true) else (gbind (impl_size L a) fun r2 => gbind (impl_size L b) fun r3 => bif ieq r2 r3 then (some (ilt b a)) else (some false))


def impl_isLess_ok (L : Nat) (C : CF) : Prop := ∀ (a : Int) (b : Int), C 137 ([.int .i64 a, .int .i64 b]) ([]) = Option.map (fun r : Bool => ((.bool r, []) : AV × List Blk)) (impl_isLess L a b)


theorem impl_isLess_run (L : Nat) (C : CF) (h_impl_size : impl_size_ok L C) : ∀ (a : Int) (b : Int), run T C sh (keep 137) L Try.f137 ([.int .i64 a, .int .i64 b]) ([]) = Option.map (fun r : Bool => ((.bool r, []) : AV × List Blk)) (impl_isLess L a b) := by
  intro a b
  unfold impl_isLess
  conv => lhs; whnf
  refine t_call (h_impl_size a) fun r => ?_
  conv => lhs; whnf
  refine t_call (h_impl_size b) fun r1 => ?_
  conv => lhs; whnf
  refine t_cond ?_ ?_
  · conv => lhs; whnf
    exact t_ret (by first | rfl | (simp only [ml]; done) | (simp only [ml]; rfl))
  · conv => lhs; whnf
    refine t_call (h_impl_size a) fun r2 => ?_
    conv => lhs; whnf
    refine t_call (h_impl_size b) fun r3 => ?_
    conv => lhs; whnf
    refine t_cond ?_ ?_
    · conv => lhs; whnf
      exact t_ret (by first | rfl | (simp only [ml]; done) | (simp only [ml]; rfl))
    · conv => lhs; whnf
      exact t_ret (by first | rfl | (simp only [ml]; done) | (simp only [ml]; rfl))


noncomputable def impl_Move_bring (L : Nat) (a_0 : Int) (a_1 : Int) (a_2 : Int) (a_3 : Int) (a_4 : Int) (a_5 : Int) (b_0 : Int) (b_1 : Int) : Option (Int × Int) := some ((wr IntKind.i64 (iadd (wr IntKind.i64 (iadd (wr IntKind.i64 (imul a_0 b_0)) (wr IntKind.i64 (imul a_1 b_1)))) a_4), wr IntKind.i64 (iadd (wr IntKind.i64 (iadd (wr IntKind.i64 (imul a_2 b_0)) (wr IntKind.i64 (imul a_3 b_1)))) a_5)))


def impl_Move_bring_ok (L : Nat) (C : CF) : Prop := ∀ (a_0 : Int) (a_1 : Int) (a_2 : Int) (a_3 : Int) (a_4 : Int) (a_5 : Int) (b_0 : Int) (b_1 : Int), C 102 ([.agg [.int .i64 a_0, .int .i64 a_1, .int .i64 a_2, .int .i64 a_3, .int .i64 a_4, .int .i64 a_5], .agg [.int .i64 b_0, .int .i64 b_1]]) ([]) = Option.map (fun r : Int × Int => ((.agg [.int .i64 (r.1), .int .i64 (r.2)], []) : AV × List Blk)) (impl_Move_bring L a_0 a_1 a_2 a_3 a_4 a_5 b_0 b_1)


theorem impl_Move_bring_run (L : Nat) (C : CF) : ∀ (a_0 : Int) (a_1 : Int) (a_2 : Int) (a_3 : Int) (a_4 : Int) (a_5 : Int) (b_0 : Int) (b_1 : Int), run T C sh (keep 102) L Try.f102 ([.agg [.int .i64 a_0, .int .i64 a_1, .int .i64 a_2, .int .i64 a_3, .int .i64 a_4, .int .i64 a_5], .agg [.int .i64 b_0, .int .i64 b_1]]) ([]) = Option.map (fun r : Int × Int => ((.agg [.int .i64 (r.1), .int .i64 (r.2)], []) : AV × List Blk)) (impl_Move_bring L a_0 a_1 a_2 a_3 a_4 a_5 b_0 b_1) := by
  intro a_0 a_1 a_2 a_3 a_4 a_5 b_0 b_1
  unfold impl_Move_bring
  conv => lhs; whnf
  exact t_ret (by first | rfl | (simp only [ml]; done) | (simp only [ml]; rfl))


noncomputable def impl_box_l0 (L : Nat) (a : List Pt) : Nat → Int → Int → Int → Int → Int → Option (Int × Int × Int × Int)
  | 0, _, _, _, _, _ => none
  | m + 1, v16, b2_0, b2_1, b3_0, b3_1 => bif ilt v16 (ilen (List.map ep a)) then (gbind (lget a v16) fun p2 => impl_box_l0 L a m (wr IntKind.i64 (iadd v16 1)) (imin b2_0 (Pt.x p2)) (imin b2_1 (Pt.y p2)) (imax b3_0 (Pt.x p2)) (imax b3_1 (Pt.y p2))) else (some ((b2_0, b2_1, b3_0, b3_1)))


noncomputable def impl_box (L : Nat) (a : List Pt) : Option (Int × Int × Int × Int) := gbind (lget a 0) fun p => gbind (lget a 0) fun p1 => impl_box_l0 L a L 0 (Pt.x p1) (Pt.y p1) (Pt.x p) (Pt.y p)


def impl_box_ok (L : Nat) (C : CF) : Prop := ∀ (oa : Bool) (ca : Bool) (x_a : List AV) (a : List Pt) (_ : x_a = List.map ep a), C 138 ([.lst oa ca 2 x_a]) ([]) = Option.map (fun r : Int × Int × Int × Int => ((.tup [.agg [.int .i64 (r.1), .int .i64 (r.2.1)], .agg [.int .i64 (r.2.2.1), .int .i64 (r.2.2.2)]], []) : AV × List Blk)) (impl_box L a)


theorem impl_box_run (L : Nat) (C : CF) : ∀ (oa : Bool) (ca : Bool) (x_a : List AV) (a : List Pt) (_ : x_a = List.map ep a), run T C sh (keep 138) L Try.f138 ([.lst oa ca 2 x_a]) ([]) = Option.map (fun r : Int × Int × Int × Int => ((.tup [.agg [.int .i64 (r.1), .int .i64 (r.2.1)], .agg [.int .i64 (r.2.2.1), .int .i64 (r.2.2.2)]], []) : AV × List Blk)) (impl_box L a) := by
  intro oa ca x_a a hx_a
  subst hx_a
  unfold impl_box
  conv => lhs; whnf
  refine t_get (en := ep) (l := a) (by first | rfl | (simp only [ml]; done) | (simp only [ml]; rfl)) fun p => ?_
  conv => lhs; whnf
  refine t_get (en := ep) (l := a) (by first | rfl | (simp only [ml]; done) | (simp only [ml]; rfl)) fun p1 => ?_
  conv => lhs; whnf
  refine t_loop (fun (⟨v16, b2_0, b2_1, b3_0, b3_1⟩ : Int × Int × Int × Int × Int) => (topA 2 (AV.ptr 0 0 0 2 :: AV.ptr 1 0 0 2 :: AV.ptr 2 0 0 2 :: AV.ptr 3 0 0 2 :: topA 8 (AV.lst oa ca 2 (List.map ep a) :: AV.int IntKind.i64 (ilen (List.map ep a)) :: AV.int IntKind.i64 v16 :: tops 28)), [Blk.box (AV.agg [AV.int IntKind.i64 0, AV.int IntKind.i64 0]), Blk.box (AV.agg [AV.int IntKind.i64 0, AV.int IntKind.i64 0]), Blk.box (AV.agg [AV.int IntKind.i64 b2_0, AV.int IntKind.i64 b2_1]), Blk.box (AV.agg [AV.int IntKind.i64 b3_0, AV.int IntKind.i64 b3_1])])) (fun m (⟨v16, b2_0, b2_1, b3_0, b3_1⟩ : Int × Int × Int × Int × Int) => impl_box_l0 L a m v16 b2_0 b2_1 b3_0 b3_1) (fun _ => rfl) (fun m s rec hrec => ?_) L ((0, Pt.x p1, Pt.y p1, Pt.x p, Pt.y p)) ?_ ?_
  rotate_left
  · first | rfl | (simp only [ml]; done) | (simp only [ml]; rfl)
  · first | rfl | (simp only [ml]; done) | (simp only [ml]; rfl)
  obtain ⟨v16, b2_0, b2_1, b3_0, b3_1⟩ := s
  show _ = Option.map _ (impl_box_l0 L a (m + 1) v16 b2_0 b2_1 b3_0 b3_1)
  rw [impl_box_l0.eq_2]
  conv => lhs; whnf
  refine t_cond ?_ ?_
  · conv => lhs; whnf
    refine t_get (en := ep) (l := a) (by first | rfl | (simp only [ml]; done) | (simp only [ml]; rfl)) fun p2 => ?_
    conv => lhs; whnf
    exact hrec ((wr IntKind.i64 (iadd v16 1), imin b2_0 (Pt.x p2), imin b2_1 (Pt.y p2), imax b3_0 (Pt.x p2), imax b3_1 (Pt.y p2))) _ _ (by first | rfl | (simp only [ml]; done) | (simp only [ml]; rfl)) (by first | rfl | (simp only [ml]; done) | (simp only [ml]; rfl))
  · conv => lhs; whnf
    exact t_ret (by first | rfl | (simp only [ml]; done) | (simp only [ml]; rfl))


noncomputable def impl_flatMove_l1 (L : Nat) (a : List Pt) (b2_0 : Int) (b2_1 : Int) (b2_2 : Int) (b2_3 : Int) (b2_4 : Int) (b2_5 : Int) : Nat → Int → (List Pt) → Option (Int × Int × Int × Int × Int × Int)
  | 0, _, _ => none
  | m1 + 1, v94, w2 => bif ilt v94 (ilen (List.map ep a)) then (gbind (lget a v94) fun p2 => gbind (impl_Move_bring L b2_0 b2_1 b2_2 b2_3 b2_4 b2_5 (Pt.x p2) (Pt.y p2)) fun r4 => bif fits (iadd (ilen (List.map ep w2)) (ilen [AV.agg [AV.int IntKind.i64 (Prod.fst r4), AV.int IntKind.i64 (Prod.snd r4)]])) 16 then (impl_flatMove_l1 L a b2_0 b2_1 b2_2 b2_3 b2_4 b2_5 m1 (wr IntKind.i64 (iadd v94 1)) (lcat w2 ({ x := Prod.fst r4, y := Prod.snd r4 } :: []))) else (none)) else (gbind (impl_box L w2) fun r5 => some ((b2_0, b2_1, b2_2, b2_3, wr IntKind.i64 (isub 0 (Prod.fst r5)), wr IntKind.i64 (isub 0 (Prod.fst (Prod.snd r5))))))


noncomputable def impl_flatMove_l0 (L : Nat) (a : List Pt) (p : Pt) (p1 : Pt) (r1 : Int × Int × Int) : Nat → Int → Int → Int → Int → Int → Int → Int → Option (Int × Int × Int × Int × Int × Int)
  | 0, _, _, _, _, _, _, _ => none
  | m + 1, v10, b2_0, b2_1, b2_2, b2_3, b2_4, b2_5 => bif ile v10 2 then (gbind (impl_isLess L (wr IntKind.i64 (iadd (wr IntKind.i64 (imul (Prod.fst r1) (Prod.fst (Prod.snd r1)))) (wr IntKind.i64 (imul v10 (Pt.x p))))) b2_0) fun r2 => bif r2 then (impl_flatMove_l0 L a p p1 r1 m (wr IntKind.i64 (iadd v10 1)) (wr IntKind.i64 (iadd (wr IntKind.i64 (imul (Prod.fst r1) (Prod.fst (Prod.snd r1)))) (wr IntKind.i64 (imul v10 (Pt.x p))))) (wr IntKind.i64 (iadd (wr IntKind.i64 (imul (wr IntKind.i64 (isub 0 (Prod.fst r1))) (Prod.snd (Prod.snd r1)))) (wr IntKind.i64 (imul v10 (Pt.y p1))))) (Pt.x p) (Pt.y p1) 0 0) else (bif ieq (wr IntKind.i64 (iadd (wr IntKind.i64 (imul (Prod.fst r1) (Prod.fst (Prod.snd r1)))) (wr IntKind.i64 (imul v10 (Pt.x p))))) b2_0 then (gbind (impl_isLess L (wr IntKind.i64 (iadd (wr IntKind.i64 (imul (wr IntKind.i64 (isub 0 (Prod.fst r1))) (Prod.snd (Prod.snd r1)))) (wr IntKind.i64 (imul v10 (Pt.y p1))))) b2_1) fun r3 => bif r3 then (impl_flatMove_l0 L a p p1 r1 m (wr IntKind.i64 (iadd v10 1)) (wr IntKind.i64 (iadd (wr IntKind.i64 (imul (Prod.fst r1) (Prod.fst (Prod.snd r1)))) (wr IntKind.i64 (imul v10 (Pt.x p))))) (wr IntKind.i64 (iadd (wr IntKind.i64 (imul (wr IntKind.i64 (isub 0 (Prod.fst r1))) (Prod.snd (Prod.snd r1)))) (wr IntKind.i64 (imul v10 (Pt.y p1))))) (Pt.x p) (Pt.y p1) 0 0) else (impl_flatMove_l0 L a p p1 r1 m (wr IntKind.i64 (iadd v10 1)) b2_0 b2_1 b2_2 b2_3 b2_4 b2_5)) else (impl_flatMove_l0 L a p p1 r1 m (wr IntKind.i64 (iadd v10 1)) b2_0 b2_1 b2_2 b2_3 b2_4 b2_5))) else (impl_flatMove_l1 L a b2_0 b2_1 b2_2 b2_3 b2_4 b2_5 L 0 [])


noncomputable def impl_flatMove (L : Nat) (a : List Pt) : Option (Int × Int × Int × Int × Int × Int) := gbind (impl_least L a) fun r => bif ile 0 0 && ilt 0 (ilen (List.map ep (Prod.fst r))) then (gbind (lget (Prod.fst r) 0) fun p => bif ile 0 0 && ilt 0 (ilen (List.map ep (Prod.fst r))) then (gbind (lget (Prod.fst r) 0) fun p1 => gbind (impl_bezout L (Pt.y p1) (Pt.x p)) fun r1 => impl_flatMove_l0 L a p p1 r1 L (-2) (wr IntKind.i64 (imul (Prod.fst r1) (Prod.fst (Prod.snd r1)))) (wr IntKind.i64 (imul (wr IntKind.i64 (isub 0 (Prod.fst r1))) (Prod.snd (Prod.snd r1)))) (Pt.x p) (Pt.y p1) 0 0) else (none)) else (none)


def impl_flatMove_ok (L : Nat) (C : CF) : Prop := ∀ (oa : Bool) (ca : Bool) (x_a : List AV) (a : List Pt) (_ : x_a = List.map ep a), C 99 ([.lst oa ca 2 x_a]) ([]) = Option.map (fun r : Int × Int × Int × Int × Int × Int => ((.agg [.int .i64 (r.1), .int .i64 (r.2.1), .int .i64 (r.2.2.1), .int .i64 (r.2.2.2.1), .int .i64 (r.2.2.2.2.1), .int .i64 (r.2.2.2.2.2)], []) : AV × List Blk)) (impl_flatMove L a)


theorem impl_flatMove_run (L : Nat) (C : CF) (h_impl_least : impl_least_ok L C) (h_impl_bezout : impl_bezout_ok L C) (h_impl_isLess : impl_isLess_ok L C) (h_impl_Move_bring : impl_Move_bring_ok L C) (h_impl_box : impl_box_ok L C) : ∀ (oa : Bool) (ca : Bool) (x_a : List AV) (a : List Pt) (_ : x_a = List.map ep a), run T C sh (keep 99) L Try.f99 ([.lst oa ca 2 x_a]) ([]) = Option.map (fun r : Int × Int × Int × Int × Int × Int => ((.agg [.int .i64 (r.1), .int .i64 (r.2.1), .int .i64 (r.2.2.1), .int .i64 (r.2.2.2.1), .int .i64 (r.2.2.2.2.1), .int .i64 (r.2.2.2.2.2)], []) : AV × List Blk)) (impl_flatMove L a) := by
  intro oa ca x_a a hx_a
  subst hx_a
  unfold impl_flatMove
  conv => lhs; whnf
  refine t_call (h_impl_least _ _ _ a (by first | rfl | (simp only [ml]; done) | (simp only [ml]; rfl))) fun r => ?_
  conv => lhs; whnf
  refine t_cond ?_ ?_
  · conv => lhs; whnf
    refine t_get (en := ep) (l := Prod.fst r) (by first | rfl | (simp only [ml]; done) | (simp only [ml]; rfl)) fun p => ?_
    conv => lhs; whnf
    refine t_cond ?_ ?_
    · conv => lhs; whnf
      refine t_get (en := ep) (l := Prod.fst r) (by first | rfl | (simp only [ml]; done) | (simp only [ml]; rfl)) fun p1 => ?_
      conv => lhs; whnf
      refine t_call (h_impl_bezout (Pt.y p1) (Pt.x p)) fun r1 => ?_
      conv => lhs; whnf
      refine t_loop (fun (⟨v10, b2_0, b2_1, b2_2, b2_3, b2_4, b2_5⟩ : Int × Int × Int × Int × Int × Int × Int) => (AV.lst oa ca 2 (List.map ep a) :: AV.top :: AV.ptr 0 0 0 6 :: topA 2 (AV.ptr 1 0 0 6 :: topA 3 (AV.ptr 2 0 0 6 :: AV.int IntKind.i64 v10 :: tops 108)), [Blk.box (AV.agg [AV.int IntKind.i64 0, AV.int IntKind.i64 0, AV.int IntKind.i64 0, AV.int IntKind.i64 0, AV.int IntKind.i64 0, AV.int IntKind.i64 0]), Blk.box (AV.agg [AV.int IntKind.i64 (wr IntKind.i64 (imul (Prod.fst r1) (Prod.fst (Prod.snd r1)))), AV.int IntKind.i64 (wr IntKind.i64 (imul (wr IntKind.i64 (isub 0 (Prod.fst r1))) (Prod.snd (Prod.snd r1)))), AV.int IntKind.i64 (Pt.x p), AV.int IntKind.i64 (Pt.y p1), AV.int IntKind.i64 0, AV.int IntKind.i64 0]), Blk.box (AV.agg [AV.int IntKind.i64 b2_0, AV.int IntKind.i64 b2_1, AV.int IntKind.i64 b2_2, AV.int IntKind.i64 b2_3, AV.int IntKind.i64 b2_4, AV.int IntKind.i64 b2_5])])) (fun m (⟨v10, b2_0, b2_1, b2_2, b2_3, b2_4, b2_5⟩ : Int × Int × Int × Int × Int × Int × Int) => impl_flatMove_l0 L a p p1 r1 m v10 b2_0 b2_1 b2_2 b2_3 b2_4 b2_5) (fun _ => rfl) (fun m s rec hrec => ?_) L ((-2, wr IntKind.i64 (imul (Prod.fst r1) (Prod.fst (Prod.snd r1))), wr IntKind.i64 (imul (wr IntKind.i64 (isub 0 (Prod.fst r1))) (Prod.snd (Prod.snd r1))), Pt.x p, Pt.y p1, 0, 0)) ?_ ?_
      rotate_left
      · first | rfl | (simp only [ml]; done) | (simp only [ml]; rfl)
      · first | rfl | (simp only [ml]; done) | (simp only [ml]; rfl)
      obtain ⟨v10, b2_0, b2_1, b2_2, b2_3, b2_4, b2_5⟩ := s
      show _ = Option.map _ (impl_flatMove_l0 L a p p1 r1 (m + 1) v10 b2_0 b2_1 b2_2 b2_3 b2_4 b2_5)
      rw [impl_flatMove_l0.eq_2]
      conv => lhs; whnf
      refine t_cond ?_ ?_
      · conv => lhs; whnf
        refine t_call (h_impl_isLess (wr IntKind.i64 (iadd (wr IntKind.i64 (imul (Prod.fst r1) (Prod.fst (Prod.snd r1)))) (wr IntKind.i64 (imul v10 (Pt.x p))))) b2_0) fun r2 => ?_
        conv => lhs; whnf
        refine t_cond ?_ ?_
        · conv => lhs; whnf
          exact hrec ((wr IntKind.i64 (iadd v10 1), wr IntKind.i64 (iadd (wr IntKind.i64 (imul (Prod.fst r1) (Prod.fst (Prod.snd r1)))) (wr IntKind.i64 (imul v10 (Pt.x p)))), wr IntKind.i64 (iadd (wr IntKind.i64 (imul (wr IntKind.i64 (isub 0 (Prod.fst r1))) (Prod.snd (Prod.snd r1)))) (wr IntKind.i64 (imul v10 (Pt.y p1)))), Pt.x p, Pt.y p1, 0, 0)) _ _ (by first | rfl | (simp only [ml]; done) | (simp only [ml]; rfl)) (by first | rfl | (simp only [ml]; done) | (simp only [ml]; rfl))
        · conv => lhs; whnf
          refine t_cond ?_ ?_
          · conv => lhs; whnf
            refine t_call (h_impl_isLess (wr IntKind.i64 (iadd (wr IntKind.i64 (imul (wr IntKind.i64 (isub 0 (Prod.fst r1))) (Prod.snd (Prod.snd r1)))) (wr IntKind.i64 (imul v10 (Pt.y p1))))) b2_1) fun r3 => ?_
            conv => lhs; whnf
            refine t_cond ?_ ?_
            · conv => lhs; whnf
              exact hrec ((wr IntKind.i64 (iadd v10 1), wr IntKind.i64 (iadd (wr IntKind.i64 (imul (Prod.fst r1) (Prod.fst (Prod.snd r1)))) (wr IntKind.i64 (imul v10 (Pt.x p)))), wr IntKind.i64 (iadd (wr IntKind.i64 (imul (wr IntKind.i64 (isub 0 (Prod.fst r1))) (Prod.snd (Prod.snd r1)))) (wr IntKind.i64 (imul v10 (Pt.y p1)))), Pt.x p, Pt.y p1, 0, 0)) _ _ (by first | rfl | (simp only [ml]; done) | (simp only [ml]; rfl)) (by first | rfl | (simp only [ml]; done) | (simp only [ml]; rfl))
            · conv => lhs; whnf
              exact hrec ((wr IntKind.i64 (iadd v10 1), b2_0, b2_1, b2_2, b2_3, b2_4, b2_5)) _ _ (by first | rfl | (simp only [ml]; done) | (simp only [ml]; rfl)) (by first | rfl | (simp only [ml]; done) | (simp only [ml]; rfl))
          · conv => lhs; whnf
            exact hrec ((wr IntKind.i64 (iadd v10 1), b2_0, b2_1, b2_2, b2_3, b2_4, b2_5)) _ _ (by first | rfl | (simp only [ml]; done) | (simp only [ml]; rfl)) (by first | rfl | (simp only [ml]; done) | (simp only [ml]; rfl))
      · conv => lhs; whnf
        refine t_loop (fun (⟨v94, w2⟩ : Int × (List Pt)) => (topA 2 (AV.ptr 0 0 0 6 :: topA 6 (AV.ptr 1 0 0 6 :: topA 2 (AV.own 2 2 none false :: topA 79 (AV.lst oa ca 2 (List.map ep a) :: AV.int IntKind.i64 (ilen (List.map ep a)) :: AV.int IntKind.i64 v94 :: tops 24)))), [Blk.box (AV.agg [AV.int IntKind.i64 0, AV.int IntKind.i64 0, AV.int IntKind.i64 0, AV.int IntKind.i64 0, AV.int IntKind.i64 0, AV.int IntKind.i64 0]), Blk.box (AV.agg [AV.int IntKind.i64 b2_0, AV.int IntKind.i64 b2_1, AV.int IntKind.i64 b2_2, AV.int IntKind.i64 b2_3, AV.int IntKind.i64 b2_4, AV.int IntKind.i64 b2_5]), Blk.rows Mode.live 2 (List.map ep w2)])) (fun m1 (⟨v94, w2⟩ : Int × (List Pt)) => impl_flatMove_l1 L a b2_0 b2_1 b2_2 b2_3 b2_4 b2_5 m1 v94 w2) (fun _ => rfl) (fun m1 s1 rec1 hrec1 => ?_) L ((0, [])) ?_ ?_
        rotate_left
        · first | rfl | (simp only [ml]; done) | (simp only [ml]; rfl)
        · first | rfl | (simp only [ml]; done) | (simp only [ml]; rfl)
        obtain ⟨v94, w2⟩ := s1
        show _ = Option.map _ (impl_flatMove_l1 L a b2_0 b2_1 b2_2 b2_3 b2_4 b2_5 (m1 + 1) v94 w2)
        rw [impl_flatMove_l1.eq_2]
        conv => lhs; whnf
        refine t_cond ?_ ?_
        · conv => lhs; whnf
          refine t_get (en := ep) (l := a) (by first | rfl | (simp only [ml]; done) | (simp only [ml]; rfl)) fun p2 => ?_
          conv => lhs; whnf
          refine t_call (h_impl_Move_bring b2_0 b2_1 b2_2 b2_3 b2_4 b2_5 (Pt.x p2) (Pt.y p2)) fun r4 => ?_
          conv => lhs; whnf
          refine t_cond ?_ ?_
          · conv => lhs; whnf
            exact hrec1 ((wr IntKind.i64 (iadd v94 1), lcat w2 ({ x := Prod.fst r4, y := Prod.snd r4 } :: []))) _ _ (by first | rfl | (simp only [ml]; done) | (simp only [ml]; rfl)) (by first | rfl | (simp only [ml]; done) | (simp only [ml]; rfl))
          · conv => lhs; whnf
            exact t_none
        · conv => lhs; whnf
          refine t_call (h_impl_box _ _ _ w2 (by first | rfl | (simp only [ml]; done) | (simp only [ml]; rfl))) fun r5 => ?_
          conv => lhs; whnf
          exact t_ret (by first | rfl | (simp only [ml]; done) | (simp only [ml]; rfl))
    · conv => lhs; whnf
      exact t_none
  · conv => lhs; whnf
    exact t_none


noncomputable def impl_isWay (L : Nat) (a : Int) (b : Int) : Option (Bool) := gbind (impl_size L a) fun r => bif ile r 80 then (gbind (impl_size L b) fun r1 => bif ile r1 80 then (bif ilt (-1000) a then (some (ilt (-1000) b)) else (some false)) else (some false)) else (some false)


def impl_isWay_ok (L : Nat) (C : CF) : Prop := ∀ (a : Int) (b : Int), C 176 ([.int .i64 a, .int .i64 b]) ([]) = Option.map (fun r : Bool => ((.bool r, []) : AV × List Blk)) (impl_isWay L a b)


theorem impl_isWay_run (L : Nat) (C : CF) (h_impl_size : impl_size_ok L C) : ∀ (a : Int) (b : Int), run T C sh (keep 176) L Try.f176 ([.int .i64 a, .int .i64 b]) ([]) = Option.map (fun r : Bool => ((.bool r, []) : AV × List Blk)) (impl_isWay L a b) := by
  intro a b
  unfold impl_isWay
  conv => lhs; whnf
  refine t_call (h_impl_size a) fun r => ?_
  conv => lhs; whnf
  refine t_cond ?_ ?_
  · conv => lhs; whnf
    refine t_call (h_impl_size b) fun r1 => ?_
    conv => lhs; whnf
    refine t_cond ?_ ?_
    · conv => lhs; whnf
      refine t_cond ?_ ?_
      · conv => lhs; whnf
        exact t_ret (by first | rfl | (simp only [ml]; done) | (simp only [ml]; rfl))
      · conv => lhs; whnf
        exact t_ret (by first | rfl | (simp only [ml]; done) | (simp only [ml]; rfl))
    · conv => lhs; whnf
      exact t_ret (by first | rfl | (simp only [ml]; done) | (simp only [ml]; rfl))
  · conv => lhs; whnf
    exact t_ret (by first | rfl | (simp only [ml]; done) | (simp only [ml]; rfl))


noncomputable def impl_Move_side (L : Nat) (a_0 : Int) (a_1 : Int) (a_2 : Int) (a_3 : Int) (a_4 : Int) (a_5 : Int) : Option (Int) := some (wr IntKind.i64 (isub (wr IntKind.i64 (imul a_0 a_3)) (wr IntKind.i64 (imul a_1 a_2))))


def impl_Move_side_ok (L : Nat) (C : CF) : Prop := ∀ (a_0 : Int) (a_1 : Int) (a_2 : Int) (a_3 : Int) (a_4 : Int) (a_5 : Int), C 177 ([.agg [.int .i64 a_0, .int .i64 a_1, .int .i64 a_2, .int .i64 a_3, .int .i64 a_4, .int .i64 a_5]]) ([]) = Option.map (fun r : Int => ((.int .i64 r, []) : AV × List Blk)) (impl_Move_side L a_0 a_1 a_2 a_3 a_4 a_5)


theorem impl_Move_side_run (L : Nat) (C : CF) : ∀ (a_0 : Int) (a_1 : Int) (a_2 : Int) (a_3 : Int) (a_4 : Int) (a_5 : Int), run T C sh (keep 177) L Try.f177 ([.agg [.int .i64 a_0, .int .i64 a_1, .int .i64 a_2, .int .i64 a_3, .int .i64 a_4, .int .i64 a_5]]) ([]) = Option.map (fun r : Int => ((.int .i64 r, []) : AV × List Blk)) (impl_Move_side L a_0 a_1 a_2 a_3 a_4 a_5) := by
  intro a_0 a_1 a_2 a_3 a_4 a_5
  unfold impl_Move_side
  conv => lhs; whnf
  exact t_ret (by first | rfl | (simp only [ml]; done) | (simp only [ml]; rfl))


noncomputable def impl_IsMove_l0 (L : Nat) (a_0 : Int) (a_1 : Int) (a_2 : Int) (a_3 : Int) (a_4 : Int) (a_5 : Int) : Nat → Int → Option Bool
  | 0, _ => none
  | m + 1, v15 => bif ilt v15 (ilen [AV.int IntKind.i64 a_0, AV.int IntKind.i64 a_1, AV.int IntKind.i64 a_2, AV.int IntKind.i64 a_3]) then (bif ile 0 v15 && ilt v15 (ilen [AV.int IntKind.i64 a_0, AV.int IntKind.i64 a_1, AV.int IntKind.i64 a_2, AV.int IntKind.i64 a_3]) then (gbind (lget (a_0 :: (a_1 :: (a_2 :: (a_3 :: [])))) v15) fun p => gbind (impl_within L p (-20) 20) fun r => bif !r then (some false) else (impl_IsMove_l0 L a_0 a_1 a_2 a_3 a_4 a_5 m (wr IntKind.i64 (iadd v15 1)))) else (none)) else (gbind (impl_isWay L a_4 a_5) fun r1 => bif r1 then (gbind (impl_Move_side L a_0 a_1 a_2 a_3 a_4 a_5) fun r2 => gbind (impl_size L r2) fun r3 => some (ieq r3 1)) else (some false))


noncomputable def impl_IsMove (L : Nat) (a_0 : Int) (a_1 : Int) (a_2 : Int) (a_3 : Int) (a_4 : Int) (a_5 : Int) : Option (Bool) := impl_IsMove_l0 L a_0 a_1 a_2 a_3 a_4 a_5 L 0


def impl_IsMove_ok (L : Nat) (C : CF) : Prop := ∀ (a_0 : Int) (a_1 : Int) (a_2 : Int) (a_3 : Int) (a_4 : Int) (a_5 : Int), C 135 ([.agg [.int .i64 a_0, .int .i64 a_1, .int .i64 a_2, .int .i64 a_3, .int .i64 a_4, .int .i64 a_5]]) ([]) = Option.map (fun r : Bool => ((.bool r, []) : AV × List Blk)) (impl_IsMove L a_0 a_1 a_2 a_3 a_4 a_5)


theorem impl_IsMove_run (L : Nat) (C : CF) (h_impl_within : impl_within_ok L C) (h_impl_size : impl_size_ok L C) (h_impl_isWay : impl_isWay_ok L C) (h_impl_Move_side : impl_Move_side_ok L C) : ∀ (a_0 : Int) (a_1 : Int) (a_2 : Int) (a_3 : Int) (a_4 : Int) (a_5 : Int), run T C sh (keep 135) L Try.f135 ([.agg [.int .i64 a_0, .int .i64 a_1, .int .i64 a_2, .int .i64 a_3, .int .i64 a_4, .int .i64 a_5]]) ([]) = Option.map (fun r : Bool => ((.bool r, []) : AV × List Blk)) (impl_IsMove L a_0 a_1 a_2 a_3 a_4 a_5) := by
  intro a_0 a_1 a_2 a_3 a_4 a_5
  unfold impl_IsMove
  conv => lhs; whnf
  refine t_loop (fun (v15 : Int) => (AV.top :: AV.ptr 0 0 0 6 :: topA 11 (AV.own 1 1 none false :: AV.int IntKind.i64 (ilen [AV.int IntKind.i64 a_0, AV.int IntKind.i64 a_1, AV.int IntKind.i64 a_2, AV.int IntKind.i64 a_3]) :: AV.int IntKind.i64 v15 :: tops 18), [Blk.box (AV.agg [AV.int IntKind.i64 a_0, AV.int IntKind.i64 a_1, AV.int IntKind.i64 a_2, AV.int IntKind.i64 a_3, AV.int IntKind.i64 a_4, AV.int IntKind.i64 a_5]), Blk.rows Mode.live 1 [AV.int IntKind.i64 a_0, AV.int IntKind.i64 a_1, AV.int IntKind.i64 a_2, AV.int IntKind.i64 a_3]])) (fun m (v15 : Int) => impl_IsMove_l0 L a_0 a_1 a_2 a_3 a_4 a_5 m v15) (fun _ => rfl) (fun m v15 rec hrec => ?_) L 0 ?_ ?_
  rotate_left
  · first | rfl | (simp only [ml]; done) | (simp only [ml]; rfl)
  · first | rfl | (simp only [ml]; done) | (simp only [ml]; rfl)
  show _ = Option.map _ (impl_IsMove_l0 L a_0 a_1 a_2 a_3 a_4 a_5 (m + 1) v15)
  rw [impl_IsMove_l0.eq_2]
  conv => lhs; whnf
  refine t_cond ?_ ?_
  · conv => lhs; whnf
    refine t_cond ?_ ?_
    · conv => lhs; whnf
      refine t_get (en := eI) (l := a_0 :: (a_1 :: (a_2 :: (a_3 :: [])))) (by first | rfl | (simp only [ml]; done) | (simp only [ml]; rfl)) fun p => ?_
      conv => lhs; whnf
      refine t_call (h_impl_within p (-20) 20) fun r => ?_
      conv => lhs; whnf
      refine t_cond ?_ ?_
      · conv => lhs; whnf
        exact t_ret (by first | rfl | (simp only [ml]; done) | (simp only [ml]; rfl))
      · conv => lhs; whnf
        exact hrec (wr IntKind.i64 (iadd v15 1)) _ _ (by first | rfl | (simp only [ml]; done) | (simp only [ml]; rfl)) (by first | rfl | (simp only [ml]; done) | (simp only [ml]; rfl))
    · conv => lhs; whnf
      exact t_none
  · conv => lhs; whnf
    refine t_call (h_impl_isWay a_4 a_5) fun r1 => ?_
    conv => lhs; whnf
    refine t_cond ?_ ?_
    · conv => lhs; whnf
      refine t_call (h_impl_Move_side a_0 a_1 a_2 a_3 a_4 a_5) fun r2 => ?_
      conv => lhs; whnf
      refine t_call (h_impl_size r2) fun r3 => ?_
      conv => lhs; whnf
      exact t_ret (by first | rfl | (simp only [ml]; done) | (simp only [ml]; rfl))
    · conv => lhs; whnf
      exact t_ret (by first | rfl | (simp only [ml]; done) | (simp only [ml]; rfl))


noncomputable def impl_checkedMove (L : Nat) (a_0 : Int) (a_1 : Int) (a_2 : Int) (a_3 : Int) (a_4 : Int) (a_5 : Int) : Option (Int × Int × Int × Int × Int × Int × Bool) := gbind (impl_IsMove L a_0 a_1 a_2 a_3 a_4 a_5) fun r => bif !r then (some ((0, 0, 0, 0, 0, 0, false))) else (some ((a_0, a_1, a_2, a_3, a_4, a_5, true)))


def impl_checkedMove_ok (L : Nat) (C : CF) : Prop := ∀ (a_0 : Int) (a_1 : Int) (a_2 : Int) (a_3 : Int) (a_4 : Int) (a_5 : Int), C 98 ([.agg [.int .i64 a_0, .int .i64 a_1, .int .i64 a_2, .int .i64 a_3, .int .i64 a_4, .int .i64 a_5]]) ([]) = Option.map (fun r : Int × Int × Int × Int × Int × Int × Bool => ((.tup [.agg [.int .i64 (r.1), .int .i64 (r.2.1), .int .i64 (r.2.2.1), .int .i64 (r.2.2.2.1), .int .i64 (r.2.2.2.2.1), .int .i64 (r.2.2.2.2.2.1)], .bool (r.2.2.2.2.2.2)], []) : AV × List Blk)) (impl_checkedMove L a_0 a_1 a_2 a_3 a_4 a_5)


theorem impl_checkedMove_run (L : Nat) (C : CF) (h_impl_IsMove : impl_IsMove_ok L C) : ∀ (a_0 : Int) (a_1 : Int) (a_2 : Int) (a_3 : Int) (a_4 : Int) (a_5 : Int), run T C sh (keep 98) L Try.f98 ([.agg [.int .i64 a_0, .int .i64 a_1, .int .i64 a_2, .int .i64 a_3, .int .i64 a_4, .int .i64 a_5]]) ([]) = Option.map (fun r : Int × Int × Int × Int × Int × Int × Bool => ((.tup [.agg [.int .i64 (r.1), .int .i64 (r.2.1), .int .i64 (r.2.2.1), .int .i64 (r.2.2.2.1), .int .i64 (r.2.2.2.2.1), .int .i64 (r.2.2.2.2.2.1)], .bool (r.2.2.2.2.2.2)], []) : AV × List Blk)) (impl_checkedMove L a_0 a_1 a_2 a_3 a_4 a_5) := by
  intro a_0 a_1 a_2 a_3 a_4 a_5
  unfold impl_checkedMove
  conv => lhs; whnf
  refine t_call (h_impl_IsMove a_0 a_1 a_2 a_3 a_4 a_5) fun r => ?_
  conv => lhs; whnf
  refine t_cond ?_ ?_
  · conv => lhs; whnf
    exact t_ret (by first | rfl | (simp only [ml]; done) | (simp only [ml]; rfl))
  · conv => lhs; whnf
    exact t_ret (by first | rfl | (simp only [ml]; done) | (simp only [ml]; rfl))


noncomputable def impl_FlatMove (L : Nat) (a : List Pt) : Option (Int × Int × Int × Int × Int × Int × Bool) := gbind (impl_IsPolygon L a) fun r => bif !r then (some ((0, 0, 0, 0, 0, 0, false))) else (gbind (impl_flatMove L a) fun r1 => gbind (impl_checkedMove L (Prod.fst r1) (Prod.fst (Prod.snd r1)) (Prod.fst (Prod.snd (Prod.snd r1))) (Prod.fst (Prod.snd (Prod.snd (Prod.snd r1)))) (Prod.fst (Prod.snd (Prod.snd (Prod.snd (Prod.snd r1))))) (Prod.snd (Prod.snd (Prod.snd (Prod.snd (Prod.snd r1)))))) fun r2 => some ((Prod.fst r2, Prod.fst (Prod.snd r2), Prod.fst (Prod.snd (Prod.snd r2)), Prod.fst (Prod.snd (Prod.snd (Prod.snd r2))), Prod.fst (Prod.snd (Prod.snd (Prod.snd (Prod.snd r2)))), Prod.fst (Prod.snd (Prod.snd (Prod.snd (Prod.snd (Prod.snd r2))))), Prod.snd (Prod.snd (Prod.snd (Prod.snd (Prod.snd (Prod.snd r2))))))))


def impl_FlatMove_ok (L : Nat) (C : CF) : Prop := ∀ (oa : Bool) (ca : Bool) (x_a : List AV) (a : List Pt) (_ : x_a = List.map ep a), C 47 ([.lst oa ca 2 x_a]) ([]) = Option.map (fun r : Int × Int × Int × Int × Int × Int × Bool => ((.tup [.agg [.int .i64 (r.1), .int .i64 (r.2.1), .int .i64 (r.2.2.1), .int .i64 (r.2.2.2.1), .int .i64 (r.2.2.2.2.1), .int .i64 (r.2.2.2.2.2.1)], .bool (r.2.2.2.2.2.2)], []) : AV × List Blk)) (impl_FlatMove L a)


theorem impl_FlatMove_run (L : Nat) (C : CF) (h_impl_IsPolygon : impl_IsPolygon_ok L C) (h_impl_flatMove : impl_flatMove_ok L C) (h_impl_checkedMove : impl_checkedMove_ok L C) : ∀ (oa : Bool) (ca : Bool) (x_a : List AV) (a : List Pt) (_ : x_a = List.map ep a), run T C sh (keep 47) L Try.f47 ([.lst oa ca 2 x_a]) ([]) = Option.map (fun r : Int × Int × Int × Int × Int × Int × Bool => ((.tup [.agg [.int .i64 (r.1), .int .i64 (r.2.1), .int .i64 (r.2.2.1), .int .i64 (r.2.2.2.1), .int .i64 (r.2.2.2.2.1), .int .i64 (r.2.2.2.2.2.1)], .bool (r.2.2.2.2.2.2)], []) : AV × List Blk)) (impl_FlatMove L a) := by
  intro oa ca x_a a hx_a
  subst hx_a
  unfold impl_FlatMove
  conv => lhs; whnf
  refine t_call (h_impl_IsPolygon _ _ _ a (by first | rfl | (simp only [ml]; done) | (simp only [ml]; rfl))) fun r => ?_
  conv => lhs; whnf
  refine t_cond ?_ ?_
  · conv => lhs; whnf
    exact t_ret (by first | rfl | (simp only [ml]; done) | (simp only [ml]; rfl))
  · conv => lhs; whnf
    refine t_call (h_impl_flatMove _ _ _ a (by first | rfl | (simp only [ml]; done) | (simp only [ml]; rfl))) fun r1 => ?_
    conv => lhs; whnf
    refine t_call (h_impl_checkedMove (Prod.fst r1) (Prod.fst (Prod.snd r1)) (Prod.fst (Prod.snd (Prod.snd r1))) (Prod.fst (Prod.snd (Prod.snd (Prod.snd r1)))) (Prod.fst (Prod.snd (Prod.snd (Prod.snd (Prod.snd r1))))) (Prod.snd (Prod.snd (Prod.snd (Prod.snd (Prod.snd r1)))))) fun r2 => ?_
    conv => lhs; whnf
    exact t_ret (by first | rfl | (simp only [ml]; done) | (simp only [ml]; rfl))


noncomputable def spec_pgMap_l0 (L : Nat) (a : List Pt) (b : Int) (c : Int) (d : Int) (e : Int) (f : Int) (g : Int) : Nat → Int → (List Pt) → Option ((List Pt) × Bool)
  | 0, _, _ => none
  | m + 1, v22, w0 => bif ilt v22 (ilen (List.map ep a)) then (gbind (lget a v22) fun p => gbind (spec_pgIs L (wr IntKind.i64 (iadd (wr IntKind.i64 (iadd (wr IntKind.i64 (imul b (Pt.x p))) (wr IntKind.i64 (imul c (Pt.y p))))) f)) (wr IntKind.i64 (iadd (wr IntKind.i64 (iadd (wr IntKind.i64 (imul d (Pt.x p))) (wr IntKind.i64 (imul e (Pt.y p))))) g))) fun r => bif !r then (some (([], false))) else (bif fits (iadd (ilen (List.map ep w0)) (ilen [AV.agg [AV.int IntKind.i64 (wr IntKind.i64 (iadd (wr IntKind.i64 (iadd (wr IntKind.i64 (imul b (Pt.x p))) (wr IntKind.i64 (imul c (Pt.y p))))) f)), AV.int IntKind.i64 (wr IntKind.i64 (iadd (wr IntKind.i64 (iadd (wr IntKind.i64 (imul d (Pt.x p))) (wr IntKind.i64 (imul e (Pt.y p))))) g))]])) 16 then (spec_pgMap_l0 L a b c d e f g m (wr IntKind.i64 (iadd v22 1)) (lcat w0 ({ x := wr IntKind.i64 (iadd (wr IntKind.i64 (iadd (wr IntKind.i64 (imul b (Pt.x p))) (wr IntKind.i64 (imul c (Pt.y p))))) f), y := wr IntKind.i64 (iadd (wr IntKind.i64 (iadd (wr IntKind.i64 (imul d (Pt.x p))) (wr IntKind.i64 (imul e (Pt.y p))))) g) } :: []))) else (none))) else (some ((w0, true)))


noncomputable def spec_pgMap (L : Nat) (a : List Pt) (b : Int) (c : Int) (d : Int) (e : Int) (f : Int) (g : Int) : Option ((List Pt) × Bool) := spec_pgMap_l0 L a b c d e f g L 0 []


def spec_pgMap_ok (L : Nat) (C : CF) : Prop := ∀ (oa : Bool) (ca : Bool) (x_a : List AV) (a : List Pt) (_ : x_a = List.map ep a) (b : Int) (c : Int) (d : Int) (e : Int) (f : Int) (g : Int), C 139 ([.lst oa ca 2 x_a, .int .i64 b, .int .i64 c, .int .i64 d, .int .i64 e, .int .i64 f, .int .i64 g]) ([]) = Option.map (fun r : (List Pt) × Bool => ((.tup [.frs 2 (List.map ep (r.1)), .bool (r.2)], []) : AV × List Blk)) (spec_pgMap L a b c d e f g)


theorem spec_pgMap_run (L : Nat) (C : CF) (h_spec_pgIs : spec_pgIs_ok L C) : ∀ (oa : Bool) (ca : Bool) (x_a : List AV) (a : List Pt) (_ : x_a = List.map ep a) (b : Int) (c : Int) (d : Int) (e : Int) (f : Int) (g : Int), run T C sh (keep 139) L Try.f139 ([.lst oa ca 2 x_a, .int .i64 b, .int .i64 c, .int .i64 d, .int .i64 e, .int .i64 f, .int .i64 g]) ([]) = Option.map (fun r : (List Pt) × Bool => ((.tup [.frs 2 (List.map ep (r.1)), .bool (r.2)], []) : AV × List Blk)) (spec_pgMap L a b c d e f g) := by
  intro oa ca x_a a hx_a b c d e f g
  subst hx_a
  unfold spec_pgMap
  conv => lhs; whnf
  refine t_loop (fun (⟨v22, w0⟩ : Int × (List Pt)) => (AV.top :: AV.int IntKind.i64 b :: AV.int IntKind.i64 c :: AV.int IntKind.i64 d :: AV.int IntKind.i64 e :: AV.int IntKind.i64 f :: AV.int IntKind.i64 g :: topA 9 (AV.own 0 2 none false :: topA 3 (AV.lst oa ca 2 (List.map ep a) :: AV.int IntKind.i64 (ilen (List.map ep a)) :: AV.int IntKind.i64 v22 :: tops 35)), [Blk.rows Mode.live 2 (List.map ep w0)])) (fun m (⟨v22, w0⟩ : Int × (List Pt)) => spec_pgMap_l0 L a b c d e f g m v22 w0) (fun _ => rfl) (fun m s rec hrec => ?_) L ((0, [])) ?_ ?_
  rotate_left
  · first | rfl | (simp only [ml]; done) | (simp only [ml]; rfl)
  · first | rfl | (simp only [ml]; done) | (simp only [ml]; rfl)
  obtain ⟨v22, w0⟩ := s
  show _ = Option.map _ (spec_pgMap_l0 L a b c d e f g (m + 1) v22 w0)
  rw [spec_pgMap_l0.eq_2]
  conv => lhs; whnf
  refine t_cond ?_ ?_
  · conv => lhs; whnf
    refine t_get (en := ep) (l := a) (by first | rfl | (simp only [ml]; done) | (simp only [ml]; rfl)) fun p => ?_
    conv => lhs; whnf
    refine t_call (h_spec_pgIs (wr IntKind.i64 (iadd (wr IntKind.i64 (iadd (wr IntKind.i64 (imul b (Pt.x p))) (wr IntKind.i64 (imul c (Pt.y p))))) f)) (wr IntKind.i64 (iadd (wr IntKind.i64 (iadd (wr IntKind.i64 (imul d (Pt.x p))) (wr IntKind.i64 (imul e (Pt.y p))))) g))) fun r => ?_
    conv => lhs; whnf
    refine t_cond ?_ ?_
    · conv => lhs; whnf
      exact t_ret (by first | rfl | (simp only [ml]; done) | (simp only [ml]; rfl))
    · conv => lhs; whnf
      refine t_cond ?_ ?_
      · conv => lhs; whnf
        exact hrec ((wr IntKind.i64 (iadd v22 1), lcat w0 ({ x := wr IntKind.i64 (iadd (wr IntKind.i64 (iadd (wr IntKind.i64 (imul b (Pt.x p))) (wr IntKind.i64 (imul c (Pt.y p))))) f), y := wr IntKind.i64 (iadd (wr IntKind.i64 (iadd (wr IntKind.i64 (imul d (Pt.x p))) (wr IntKind.i64 (imul e (Pt.y p))))) g) } :: []))) _ _ (by first | rfl | (simp only [ml]; done) | (simp only [ml]; rfl)) (by first | rfl | (simp only [ml]; done) | (simp only [ml]; rfl))
      · conv => lhs; whnf
        exact t_none
  · conv => lhs; whnf
    exact t_ret (by first | rfl | (simp only [ml]; done) | (simp only [ml]; rfl))


noncomputable def spec_MoveCorners (L : Nat) (a_0 : Int) (a_1 : Int) (a_2 : Int) (a_3 : Int) (a_4 : Int) (a_5 : Int) (b : List Pt) : Option ((List Pt) × Bool) := gbind (spec_mvGood L a_0 a_1 a_2 a_3 a_4 a_5) fun r => bif !r then (some (([], false))) else (gbind (spec_pgGood L b) fun r1 => bif !r1 then (some (([], false))) else (gbind (spec_pgMap L b a_0 a_1 a_2 a_3 a_4 a_5) fun r2 => some ((Prod.fst r2, Prod.snd r2))))


def spec_MoveCorners_ok (L : Nat) (C : CF) : Prop := ∀ (a_0 : Int) (a_1 : Int) (a_2 : Int) (a_3 : Int) (a_4 : Int) (a_5 : Int) (ob : Bool) (cb : Bool) (x_b : List AV) (b : List Pt) (_ : x_b = List.map ep b), C 100 ([.agg [.int .i64 a_0, .int .i64 a_1, .int .i64 a_2, .int .i64 a_3, .int .i64 a_4, .int .i64 a_5], .lst ob cb 2 x_b]) ([]) = Option.map (fun r : (List Pt) × Bool => ((.tup [.frs 2 (List.map ep (r.1)), .bool (r.2)], []) : AV × List Blk)) (spec_MoveCorners L a_0 a_1 a_2 a_3 a_4 a_5 b)


theorem spec_MoveCorners_run (L : Nat) (C : CF) (h_spec_pgGood : spec_pgGood_ok L C) (h_spec_mvGood : spec_mvGood_ok L C) (h_spec_pgMap : spec_pgMap_ok L C) : ∀ (a_0 : Int) (a_1 : Int) (a_2 : Int) (a_3 : Int) (a_4 : Int) (a_5 : Int) (ob : Bool) (cb : Bool) (x_b : List AV) (b : List Pt) (_ : x_b = List.map ep b), run T C sh (keep 100) L Try.f100 ([.agg [.int .i64 a_0, .int .i64 a_1, .int .i64 a_2, .int .i64 a_3, .int .i64 a_4, .int .i64 a_5], .lst ob cb 2 x_b]) ([]) = Option.map (fun r : (List Pt) × Bool => ((.tup [.frs 2 (List.map ep (r.1)), .bool (r.2)], []) : AV × List Blk)) (spec_MoveCorners L a_0 a_1 a_2 a_3 a_4 a_5 b) := by
  intro a_0 a_1 a_2 a_3 a_4 a_5 ob cb x_b b hx_b
  subst hx_b
  unfold spec_MoveCorners
  conv => lhs; whnf
  refine t_call (h_spec_mvGood a_0 a_1 a_2 a_3 a_4 a_5) fun r => ?_
  conv => lhs; whnf
  refine t_cond ?_ ?_
  · conv => lhs; whnf
    exact t_ret (by first | rfl | (simp only [ml]; done) | (simp only [ml]; rfl))
  · conv => lhs; whnf
    refine t_call (h_spec_pgGood _ _ _ b (by first | rfl | (simp only [ml]; done) | (simp only [ml]; rfl))) fun r1 => ?_
    conv => lhs; whnf
    refine t_cond ?_ ?_
    · conv => lhs; whnf
      exact t_ret (by first | rfl | (simp only [ml]; done) | (simp only [ml]; rfl))
    · conv => lhs; whnf
      refine t_call (h_spec_pgMap _ _ _ b (by first | rfl | (simp only [ml]; done) | (simp only [ml]; rfl)) a_0 a_1 a_2 a_3 a_4 a_5) fun r2 => ?_
      conv => lhs; whnf
      exact t_ret (by first | rfl | (simp only [ml]; done) | (simp only [ml]; rfl))


noncomputable def spec_FlatPolygon (L : Nat) (a : List Pt) : Option ((List Pt) × Bool) := gbind (spec_FlatMove L a) fun r => bif !Prod.snd (Prod.snd (Prod.snd (Prod.snd (Prod.snd (Prod.snd r))))) then (some (([], false))) else (gbind (spec_MoveCorners L (Prod.fst r) (Prod.fst (Prod.snd r)) (Prod.fst (Prod.snd (Prod.snd r))) (Prod.fst (Prod.snd (Prod.snd (Prod.snd r)))) (Prod.fst (Prod.snd (Prod.snd (Prod.snd (Prod.snd r))))) (Prod.fst (Prod.snd (Prod.snd (Prod.snd (Prod.snd (Prod.snd r)))))) a) fun r1 => some ((Prod.fst r1, Prod.snd r1)))


def spec_FlatPolygon_ok (L : Nat) (C : CF) : Prop := ∀ (oa : Bool) (ca : Bool) (x_a : List AV) (a : List Pt) (_ : x_a = List.map ep a), C 49 ([.lst oa ca 2 x_a]) ([]) = Option.map (fun r : (List Pt) × Bool => ((.tup [.frs 2 (List.map ep (r.1)), .bool (r.2)], []) : AV × List Blk)) (spec_FlatPolygon L a)


theorem spec_FlatPolygon_run (L : Nat) (C : CF) (h_spec_FlatMove : spec_FlatMove_ok L C) (h_spec_MoveCorners : spec_MoveCorners_ok L C) : ∀ (oa : Bool) (ca : Bool) (x_a : List AV) (a : List Pt) (_ : x_a = List.map ep a), run T C sh (keep 49) L Try.f49 ([.lst oa ca 2 x_a]) ([]) = Option.map (fun r : (List Pt) × Bool => ((.tup [.frs 2 (List.map ep (r.1)), .bool (r.2)], []) : AV × List Blk)) (spec_FlatPolygon L a) := by
  intro oa ca x_a a hx_a
  subst hx_a
  unfold spec_FlatPolygon
  conv => lhs; whnf
  refine t_call (h_spec_FlatMove _ _ _ a (by first | rfl | (simp only [ml]; done) | (simp only [ml]; rfl))) fun r => ?_
  conv => lhs; whnf
  refine t_cond ?_ ?_
  · conv => lhs; whnf
    exact t_ret (by first | rfl | (simp only [ml]; done) | (simp only [ml]; rfl))
  · conv => lhs; whnf
    refine t_call (h_spec_MoveCorners (Prod.fst r) (Prod.fst (Prod.snd r)) (Prod.fst (Prod.snd (Prod.snd r))) (Prod.fst (Prod.snd (Prod.snd (Prod.snd r)))) (Prod.fst (Prod.snd (Prod.snd (Prod.snd (Prod.snd r))))) (Prod.fst (Prod.snd (Prod.snd (Prod.snd (Prod.snd (Prod.snd r)))))) _ _ _ a (by first | rfl | (simp only [ml]; done) | (simp only [ml]; rfl))) fun r1 => ?_
    conv => lhs; whnf
    exact t_ret (by first | rfl | (simp only [ml]; done) | (simp only [ml]; rfl))


noncomputable def impl_changed_impl_Move_bring_l0 (L : Nat) (a : List Pt) (b_a0_0 : Int) (b_a0_1 : Int) (b_a0_2 : Int) (b_a0_3 : Int) (b_a0_4 : Int) (b_a0_5 : Int) : Nat → Int → (List Pt) → Option ((List Pt) × Bool)
  | 0, _, _ => none
  | m + 1, v15, w0 => bif ilt v15 (ilen (List.map ep a)) then (gbind (lget a v15) fun p => gbind (impl_Move_bring L b_a0_0 b_a0_1 b_a0_2 b_a0_3 b_a0_4 b_a0_5 (Pt.x p) (Pt.y p)) fun r1 => bif fits (iadd (ilen (List.map ep w0)) (ilen [AV.agg [AV.int IntKind.i64 (Prod.fst r1), AV.int IntKind.i64 (Prod.snd r1)]])) 16 then (impl_changed_impl_Move_bring_l0 L a b_a0_0 b_a0_1 b_a0_2 b_a0_3 b_a0_4 b_a0_5 m (wr IntKind.i64 (iadd v15 1)) (lcat w0 ({ x := Prod.fst r1, y := Prod.snd r1 } :: []))) else (none)) else (gbind (impl_arePegs L w0) fun r2 => bif !r2 then (some (([], false))) else (some ((w0, true))))


noncomputable def impl_changed_impl_Move_bring (L : Nat) (a : List Pt) (b_a0_0 : Int) (b_a0_1 : Int) (b_a0_2 : Int) (b_a0_3 : Int) (b_a0_4 : Int) (b_a0_5 : Int) : Option ((List Pt) × Bool) := gbind (impl_IsPolygon L a) fun r => bif !r then (some (([], false))) else (impl_changed_impl_Move_bring_l0 L a b_a0_0 b_a0_1 b_a0_2 b_a0_3 b_a0_4 b_a0_5 L 0 [])


def impl_changed_impl_Move_bring_ok (L : Nat) (C : CF) : Prop := ∀ (oa : Bool) (ca : Bool) (x_a : List AV) (a : List Pt) (_ : x_a = List.map ep a) (b_a0_0 : Int) (b_a0_1 : Int) (b_a0_2 : Int) (b_a0_3 : Int) (b_a0_4 : Int) (b_a0_5 : Int), C 101 ([(.lst oa ca 2 x_a), (.fn 102 [(.agg [(.int .i64 b_a0_0), (.int .i64 b_a0_1), (.int .i64 b_a0_2), (.int .i64 b_a0_3), (.int .i64 b_a0_4), (.int .i64 b_a0_5)])] [])]) ([]) = Option.map (fun r : (List Pt) × Bool => ((.tup [.frs 2 (List.map ep (r.1)), .bool (r.2)], []) : AV × List Blk)) (impl_changed_impl_Move_bring L a b_a0_0 b_a0_1 b_a0_2 b_a0_3 b_a0_4 b_a0_5)


theorem impl_changed_impl_Move_bring_run (L : Nat) (C : CF) (h_impl_arePegs : impl_arePegs_ok L C) (h_impl_IsPolygon : impl_IsPolygon_ok L C) (h_impl_Move_bring : impl_Move_bring_ok L C) : ∀ (oa : Bool) (ca : Bool) (x_a : List AV) (a : List Pt) (_ : x_a = List.map ep a) (b_a0_0 : Int) (b_a0_1 : Int) (b_a0_2 : Int) (b_a0_3 : Int) (b_a0_4 : Int) (b_a0_5 : Int), run T C sh (keep 101) L Try.f101 ([(.lst oa ca 2 x_a), (.fn 102 [(.agg [(.int .i64 b_a0_0), (.int .i64 b_a0_1), (.int .i64 b_a0_2), (.int .i64 b_a0_3), (.int .i64 b_a0_4), (.int .i64 b_a0_5)])] [])]) ([]) = Option.map (fun r : (List Pt) × Bool => ((.tup [.frs 2 (List.map ep (r.1)), .bool (r.2)], []) : AV × List Blk)) (impl_changed_impl_Move_bring L a b_a0_0 b_a0_1 b_a0_2 b_a0_3 b_a0_4 b_a0_5) := by
  intro oa ca x_a a hx_a b_a0_0 b_a0_1 b_a0_2 b_a0_3 b_a0_4 b_a0_5
  subst hx_a
  unfold impl_changed_impl_Move_bring
  conv => lhs; whnf
  refine t_call (h_impl_IsPolygon _ _ _ a (by first | rfl | (simp only [ml]; done) | (simp only [ml]; rfl))) fun r => ?_
  conv => lhs; whnf
  refine t_cond ?_ ?_
  · conv => lhs; whnf
    exact t_ret (by first | rfl | (simp only [ml]; done) | (simp only [ml]; rfl))
  · conv => lhs; whnf
    refine t_loop (fun (⟨v15, w0⟩ : Int × (List Pt)) => (AV.top :: AV.fn 102 [AV.agg [AV.int IntKind.i64 b_a0_0, AV.int IntKind.i64 b_a0_1, AV.int IntKind.i64 b_a0_2, AV.int IntKind.i64 b_a0_3, AV.int IntKind.i64 b_a0_4, AV.int IntKind.i64 b_a0_5]] [] :: topA 4 (AV.own 0 2 none false :: topA 6 (AV.lst oa ca 2 (List.map ep a) :: AV.int IntKind.i64 (ilen (List.map ep a)) :: AV.int IntKind.i64 v15 :: tops 14)), [Blk.rows Mode.live 2 (List.map ep w0)])) (fun m (⟨v15, w0⟩ : Int × (List Pt)) => impl_changed_impl_Move_bring_l0 L a b_a0_0 b_a0_1 b_a0_2 b_a0_3 b_a0_4 b_a0_5 m v15 w0) (fun _ => rfl) (fun m s rec hrec => ?_) L ((0, [])) ?_ ?_
    rotate_left
    · first | rfl | (simp only [ml]; done) | (simp only [ml]; rfl)
    · first | rfl | (simp only [ml]; done) | (simp only [ml]; rfl)
    obtain ⟨v15, w0⟩ := s
    show _ = Option.map _ (impl_changed_impl_Move_bring_l0 L a b_a0_0 b_a0_1 b_a0_2 b_a0_3 b_a0_4 b_a0_5 (m + 1) v15 w0)
    rw [impl_changed_impl_Move_bring_l0.eq_2]
    conv => lhs; whnf
    refine t_cond ?_ ?_
    · conv => lhs; whnf
      refine t_get (en := ep) (l := a) (by first | rfl | (simp only [ml]; done) | (simp only [ml]; rfl)) fun p => ?_
      conv => lhs; whnf
      refine t_call (h_impl_Move_bring b_a0_0 b_a0_1 b_a0_2 b_a0_3 b_a0_4 b_a0_5 (Pt.x p) (Pt.y p)) fun r1 => ?_
      conv => lhs; whnf
      refine t_cond ?_ ?_
      · conv => lhs; whnf
        exact hrec ((wr IntKind.i64 (iadd v15 1), lcat w0 ({ x := Prod.fst r1, y := Prod.snd r1 } :: []))) _ _ (by first | rfl | (simp only [ml]; done) | (simp only [ml]; rfl)) (by first | rfl | (simp only [ml]; done) | (simp only [ml]; rfl))
      · conv => lhs; whnf
        exact t_none
    · conv => lhs; whnf
      refine t_call (h_impl_arePegs _ _ _ w0 (by first | rfl | (simp only [ml]; done) | (simp only [ml]; rfl))) fun r2 => ?_
      conv => lhs; whnf
      refine t_cond ?_ ?_
      · conv => lhs; whnf
        exact t_ret (by first | rfl | (simp only [ml]; done) | (simp only [ml]; rfl))
      · conv => lhs; whnf
        exact t_ret (by first | rfl | (simp only [ml]; done) | (simp only [ml]; rfl))


noncomputable def impl_FlatPolygon (L : Nat) (a : List Pt) : Option ((List Pt) × Bool) := gbind (impl_FlatMove L a) fun r => bif !Prod.snd (Prod.snd (Prod.snd (Prod.snd (Prod.snd (Prod.snd r))))) then (some (([], false))) else (gbind (impl_changed_impl_Move_bring L a (Prod.fst r) (Prod.fst (Prod.snd r)) (Prod.fst (Prod.snd (Prod.snd r))) (Prod.fst (Prod.snd (Prod.snd (Prod.snd r)))) (Prod.fst (Prod.snd (Prod.snd (Prod.snd (Prod.snd r))))) (Prod.fst (Prod.snd (Prod.snd (Prod.snd (Prod.snd (Prod.snd r))))))) fun r1 => some ((Prod.fst r1, Prod.snd r1)))


def impl_FlatPolygon_ok (L : Nat) (C : CF) : Prop := ∀ (oa : Bool) (ca : Bool) (x_a : List AV) (a : List Pt) (_ : x_a = List.map ep a), C 50 ([.lst oa ca 2 x_a]) ([]) = Option.map (fun r : (List Pt) × Bool => ((.tup [.frs 2 (List.map ep (r.1)), .bool (r.2)], []) : AV × List Blk)) (impl_FlatPolygon L a)


theorem impl_FlatPolygon_run (L : Nat) (C : CF) (h_impl_FlatMove : impl_FlatMove_ok L C) (h_impl_changed_impl_Move_bring : impl_changed_impl_Move_bring_ok L C) : ∀ (oa : Bool) (ca : Bool) (x_a : List AV) (a : List Pt) (_ : x_a = List.map ep a), run T C sh (keep 50) L Try.f50 ([.lst oa ca 2 x_a]) ([]) = Option.map (fun r : (List Pt) × Bool => ((.tup [.frs 2 (List.map ep (r.1)), .bool (r.2)], []) : AV × List Blk)) (impl_FlatPolygon L a) := by
  intro oa ca x_a a hx_a
  subst hx_a
  unfold impl_FlatPolygon
  conv => lhs; whnf
  refine t_call (h_impl_FlatMove _ _ _ a (by first | rfl | (simp only [ml]; done) | (simp only [ml]; rfl))) fun r => ?_
  conv => lhs; whnf
  refine t_cond ?_ ?_
  · conv => lhs; whnf
    exact t_ret (by first | rfl | (simp only [ml]; done) | (simp only [ml]; rfl))
  · conv => lhs; whnf
    refine t_call (h_impl_changed_impl_Move_bring _ _ _ a (by first | rfl | (simp only [ml]; done) | (simp only [ml]; rfl)) (Prod.fst r) (Prod.fst (Prod.snd r)) (Prod.fst (Prod.snd (Prod.snd r))) (Prod.fst (Prod.snd (Prod.snd (Prod.snd r)))) (Prod.fst (Prod.snd (Prod.snd (Prod.snd (Prod.snd r))))) (Prod.fst (Prod.snd (Prod.snd (Prod.snd (Prod.snd (Prod.snd r))))))) fun r1 => ?_
    conv => lhs; whnf
    exact t_ret (by first | rfl | (simp only [ml]; done) | (simp only [ml]; rfl))


noncomputable def laws_FnExactFlatPolygon (L : Nat) (a : List Pt) : Option (Bool) := gbind (laws_szPegS L a 1048576) fun r => bif ilt r 0 then (some true) else (gbind (laws_toPegS L a) fun r1 => gbind (spec_FlatPolygon L r1) fun r2 => gbind (laws_toPegS L a) fun r3 => gbind (impl_FlatPolygon L r3) fun r4 => gbind (laws_eqPegS L (Prod.fst r4) (Prod.fst r2)) fun r5 => bif !r5 then (some false) else (bif !beqb (Prod.snd r4) (Prod.snd r2) then (some false) else (gbind (laws_toPegS L a) fun r6 => gbind (laws_eqPegS L r3 r6) fun r7 => bif !r7 then (some false) else (gbind (laws_markPegS L r3 1) fun r8 => bif ilt (Prod.fst r8) 0 then (some false) else (gbind (laws_eqPegS L (Prod.fst r4) (Prod.fst r2)) fun r9 => bif !r9 then (some false) else (bif !beqb (Prod.snd r4) (Prod.snd r2) then (some false) else (gbind (laws_markPegS L (Prod.fst r4) 1) fun r10 => gbind (laws_heldPegS L (Prod.snd r10) 1) fun r11 => bif ilt r11 0 then (some false) else (bif !ieq r11 (Prod.fst r10) then (some false) else (gbind (laws_toPegS L a) fun r12 => gbind (impl_FlatPolygon L r12) fun r13 => gbind (laws_eqPegS L (Prod.fst r13) (Prod.fst r2)) fun r14 => bif !r14 then (some false) else (bif !beqb (Prod.snd r13) (Prod.snd r2) then (some false) else (gbind (laws_heldPegS L (Prod.snd r10) 1) fun r15 => bif ilt r15 0 then (some false) else (bif !ieq r15 (Prod.fst r10) then (some false) else (some true)))))))))))))


def laws_FnExactFlatPolygon_ok (L : Nat) (C : CF) : Prop := ∀ (oa : Bool) (ca : Bool) (x_a : List AV) (a : List Pt) (_ : x_a = List.map ep a), C 13 ([.lst oa ca 2 x_a]) ([]) = Option.map (fun r : Bool => ((.bool r, []) : AV × List Blk)) (laws_FnExactFlatPolygon L a)


theorem laws_FnExactFlatPolygon_run (L : Nat) (C : CF) (h_laws_szPegS : laws_szPegS_ok L C) (h_laws_toPegS : laws_toPegS_ok L C) (h_laws_eqPegS : laws_eqPegS_ok L C) (h_laws_markPegS : laws_markPegS_ok L C) (h_laws_heldPegS : laws_heldPegS_ok L C) (h_spec_FlatPolygon : spec_FlatPolygon_ok L C) (h_impl_FlatPolygon : impl_FlatPolygon_ok L C) : ∀ (oa : Bool) (ca : Bool) (x_a : List AV) (a : List Pt) (_ : x_a = List.map ep a), run T C sh (keep 13) L Try.f13 ([.lst oa ca 2 x_a]) ([]) = Option.map (fun r : Bool => ((.bool r, []) : AV × List Blk)) (laws_FnExactFlatPolygon L a) := by
  intro oa ca x_a a hx_a
  subst hx_a
  unfold laws_FnExactFlatPolygon
  conv => lhs; whnf
  refine t_call (h_laws_szPegS _ _ _ a (by first | rfl | (simp only [ml]; done) | (simp only [ml]; rfl)) 1048576) fun r => ?_
  conv => lhs; whnf
  refine t_cond ?_ ?_
  · conv => lhs; whnf
    exact t_ret (by first | rfl | (simp only [ml]; done) | (simp only [ml]; rfl))
  · conv => lhs; whnf
    refine t_call (h_laws_toPegS _ _ _ a (by first | rfl | (simp only [ml]; done) | (simp only [ml]; rfl))) fun r1 => ?_
    conv => lhs; whnf
    refine t_call (h_spec_FlatPolygon _ _ _ r1 (by first | rfl | (simp only [ml]; done) | (simp only [ml]; rfl))) fun r2 => ?_
    conv => lhs; whnf
    refine t_call (h_laws_toPegS _ _ _ a (by first | rfl | (simp only [ml]; done) | (simp only [ml]; rfl))) fun r3 => ?_
    conv => lhs; whnf
    refine t_call (h_impl_FlatPolygon _ _ _ r3 (by first | rfl | (simp only [ml]; done) | (simp only [ml]; rfl))) fun r4 => ?_
    conv => lhs; whnf
    refine t_call (h_laws_eqPegS _ _ _ (Prod.fst r4) (by first | rfl | (simp only [ml]; done) | (simp only [ml]; rfl)) _ _ _ (Prod.fst r2) (by first | rfl | (simp only [ml]; done) | (simp only [ml]; rfl))) fun r5 => ?_
    conv => lhs; whnf
    refine t_cond ?_ ?_
    · conv => lhs; whnf
      exact t_ret (by first | rfl | (simp only [ml]; done) | (simp only [ml]; rfl))
    · conv => lhs; whnf
      refine t_cond ?_ ?_
      · conv => lhs; whnf
        exact t_ret (by first | rfl | (simp only [ml]; done) | (simp only [ml]; rfl))
      · conv => lhs; whnf
        refine t_call (h_laws_toPegS _ _ _ a (by first | rfl | (simp only [ml]; done) | (simp only [ml]; rfl))) fun r6 => ?_
        conv => lhs; whnf
        refine t_call (h_laws_eqPegS _ _ _ r3 (by first | rfl | (simp only [ml]; done) | (simp only [ml]; rfl)) _ _ _ r6 (by first | rfl | (simp only [ml]; done) | (simp only [ml]; rfl))) fun r7 => ?_
        conv => lhs; whnf
        refine t_cond ?_ ?_
        · conv => lhs; whnf
          exact t_ret (by first | rfl | (simp only [ml]; done) | (simp only [ml]; rfl))
        · conv => lhs; whnf
          refine t_call (h_laws_markPegS _ _ r3 (by first | rfl | (simp only [ml]; done) | (simp only [ml]; rfl)) 1) fun r8 => ?_
          conv => lhs; whnf
          refine t_cond ?_ ?_
          · conv => lhs; whnf
            exact t_ret (by first | rfl | (simp only [ml]; done) | (simp only [ml]; rfl))
          · conv => lhs; whnf
            refine t_call (h_laws_eqPegS _ _ _ (Prod.fst r4) (by first | rfl | (simp only [ml]; done) | (simp only [ml]; rfl)) _ _ _ (Prod.fst r2) (by first | rfl | (simp only [ml]; done) | (simp only [ml]; rfl))) fun r9 => ?_
            conv => lhs; whnf
            refine t_cond ?_ ?_
            · conv => lhs; whnf
              exact t_ret (by first | rfl | (simp only [ml]; done) | (simp only [ml]; rfl))
            · conv => lhs; whnf
              refine t_cond ?_ ?_
              · conv => lhs; whnf
                exact t_ret (by first | rfl | (simp only [ml]; done) | (simp only [ml]; rfl))
              · conv => lhs; whnf
                refine t_call (h_laws_markPegS _ _ (Prod.fst r4) (by first | rfl | (simp only [ml]; done) | (simp only [ml]; rfl)) 1) fun r10 => ?_
                conv => lhs; whnf
                refine t_call (h_laws_heldPegS _ _ _ (Prod.snd r10) (by first | rfl | (simp only [ml]; done) | (simp only [ml]; rfl)) 1) fun r11 => ?_
                conv => lhs; whnf
                refine t_cond ?_ ?_
                · conv => lhs; whnf
                  exact t_ret (by first | rfl | (simp only [ml]; done) | (simp only [ml]; rfl))
                · conv => lhs; whnf
                  refine t_cond ?_ ?_
                  · conv => lhs; whnf
                    exact t_ret (by first | rfl | (simp only [ml]; done) | (simp only [ml]; rfl))
                  · conv => lhs; whnf
                    refine t_call (h_laws_toPegS _ _ _ a (by first | rfl | (simp only [ml]; done) | (simp only [ml]; rfl))) fun r12 => ?_
                    conv => lhs; whnf
                    refine t_call (h_impl_FlatPolygon _ _ _ r12 (by first | rfl | (simp only [ml]; done) | (simp only [ml]; rfl))) fun r13 => ?_
                    conv => lhs; whnf
                    refine t_call (h_laws_eqPegS _ _ _ (Prod.fst r13) (by first | rfl | (simp only [ml]; done) | (simp only [ml]; rfl)) _ _ _ (Prod.fst r2) (by first | rfl | (simp only [ml]; done) | (simp only [ml]; rfl))) fun r14 => ?_
                    conv => lhs; whnf
                    refine t_cond ?_ ?_
                    · conv => lhs; whnf
                      exact t_ret (by first | rfl | (simp only [ml]; done) | (simp only [ml]; rfl))
                    · conv => lhs; whnf
                      refine t_cond ?_ ?_
                      · conv => lhs; whnf
                        exact t_ret (by first | rfl | (simp only [ml]; done) | (simp only [ml]; rfl))
                      · conv => lhs; whnf
                        refine t_call (h_laws_heldPegS _ _ _ (Prod.snd r10) (by first | rfl | (simp only [ml]; done) | (simp only [ml]; rfl)) 1) fun r15 => ?_
                        conv => lhs; whnf
                        refine t_cond ?_ ?_
                        · conv => lhs; whnf
                          exact t_ret (by first | rfl | (simp only [ml]; done) | (simp only [ml]; rfl))
                        · conv => lhs; whnf
                          refine t_cond ?_ ?_
                          · conv => lhs; whnf
                            exact t_ret (by first | rfl | (simp only [ml]; done) | (simp only [ml]; rfl))
                          · conv => lhs; whnf
                            exact t_ret (by first | rfl | (simp only [ml]; done) | (simp only [ml]; rfl))



end Go.AM
