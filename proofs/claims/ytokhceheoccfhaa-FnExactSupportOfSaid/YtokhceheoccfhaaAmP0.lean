import Derived.Test.YtokhceheoccfhaaAmSeat
set_option linter.unusedVariables false
set_option linter.unusedSimpArgs false
set_option linter.unnecessarySimpa false
set_option linter.deprecated false
set_option linter.unusedSectionVars false
open Go Go.AM Go.Proofs
namespace Go.AM
set_option maxRecDepth 40000
set_option maxHeartbeats 2000000
set_option linter.unusedVariables false
noncomputable def laws_szPegS (L : Nat) (a : List Pt) (b : Int) : Option (Int) := bif ilt (wr IntKind.i64 (isub b (ilen (List.map ep a)))) 0 then (some (-1)) else (some (wr IntKind.i64 (isub b (ilen (List.map ep a)))))


def laws_szPegS_ok (L : Nat) (C : CF) : Prop := ∀ (oa : Bool) (ca : Bool) (x_a : List AV) (a : List Pt) (_ : x_a = List.map ep a) (b : Int), C 36 ([.lst oa ca 2 x_a, .int .i64 b]) ([]) = Option.map (fun r : Int => ((.int .i64 r, []) : AV × List Blk)) (laws_szPegS L a b)


theorem laws_szPegS_run (L : Nat) (C : CF) : ∀ (oa : Bool) (ca : Bool) (x_a : List AV) (a : List Pt) (_ : x_a = List.map ep a) (b : Int), run T C sh (keep 36) L Try.f36 ([.lst oa ca 2 x_a, .int .i64 b]) ([]) = Option.map (fun r : Int => ((.int .i64 r, []) : AV × List Blk)) (laws_szPegS L a b) := by
  intro oa ca x_a a hx_a b
  subst hx_a
  unfold laws_szPegS
  conv => lhs; whnf
  refine t_cond ?_ ?_
  · conv => lhs; whnf
    exact t_ret (by first | rfl | (simp only [ml]; done) | (simp only [ml]; rfl))
  · conv => lhs; whnf
    exact t_ret (by first | rfl | (simp only [ml]; done) | (simp only [ml]; rfl))


noncomputable def laws_toPeg (L : Nat) (a_0 : Int) (a_1 : Int) : Option (Int × Int) := some ((a_0, a_1))


def laws_toPeg_ok (L : Nat) (C : CF) : Prop := ∀ (a_0 : Int) (a_1 : Int), C 119 ([.agg [.int .i64 a_0, .int .i64 a_1]]) ([]) = Option.map (fun r : Int × Int => ((.agg [.int .i64 (r.1), .int .i64 (r.2)], []) : AV × List Blk)) (laws_toPeg L a_0 a_1)


theorem laws_toPeg_run (L : Nat) (C : CF) : ∀ (a_0 : Int) (a_1 : Int), run T C sh (keep 119) L Try.f119 ([.agg [.int .i64 a_0, .int .i64 a_1]]) ([]) = Option.map (fun r : Int × Int => ((.agg [.int .i64 (r.1), .int .i64 (r.2)], []) : AV × List Blk)) (laws_toPeg L a_0 a_1) := by
  intro a_0 a_1
  unfold laws_toPeg
  conv => lhs; whnf
  exact t_ret (by first | rfl | (simp only [ml]; done) | (simp only [ml]; rfl))


noncomputable def laws_toPegS_l0 (L : Nat) (a : List Pt) : Nat → Int → (List Pt) → Option ((List Pt))
  | 0, _, _ => none
  | m + 1, v4, w0 => bif ilt v4 (ilen (List.map ep a)) then (gbind (lget a v4) fun p => gbind (laws_toPeg L (Pt.x p) (Pt.y p)) fun r => bif ile 0 v4 && ilt v4 (ilen (List.map ep w0)) then (gbind (lget w0 v4) fun p1 => laws_toPegS_l0 L a m (wr IntKind.i64 (iadd v4 1)) (lset w0 v4 ({ x := Prod.fst r, y := Prod.snd r }))) else (none)) else (some w0)


noncomputable def laws_toPegS (L : Nat) (a : List Pt) : Option ((List Pt)) := bif ile 0 (ilen (List.map ep a)) && ile (ilen (List.map ep a)) (ilen (List.map ep a)) && fits (ilen (List.map ep a)) 16 then (laws_toPegS_l0 L a L 0 (lrep (ilen (List.map ep a)) ({ x := 0, y := 0 }))) else (none)


def laws_toPegS_ok (L : Nat) (C : CF) : Prop := ∀ (oa : Bool) (ca : Bool) (x_a : List AV) (a : List Pt) (_ : x_a = List.map ep a), C 38 ([.lst oa ca 2 x_a]) ([]) = Option.map (fun r : (List Pt) => ((.frs 2 (List.map ep r), []) : AV × List Blk)) (laws_toPegS L a)


theorem laws_toPegS_run (L : Nat) (C : CF) (h_laws_toPeg : laws_toPeg_ok L C) : ∀ (oa : Bool) (ca : Bool) (x_a : List AV) (a : List Pt) (_ : x_a = List.map ep a), run T C sh (keep 38) L Try.f38 ([.lst oa ca 2 x_a]) ([]) = Option.map (fun r : (List Pt) => ((.frs 2 (List.map ep r), []) : AV × List Blk)) (laws_toPegS L a) := by
  intro oa ca x_a a hx_a
  subst hx_a
  unfold laws_toPegS
  conv => lhs; whnf
  refine t_cond ?_ ?_
  · conv => lhs; whnf
    refine t_loop (fun (⟨v4, w0⟩ : Int × (List Pt)) => (AV.lst oa ca 2 (List.map ep a) :: topA 2 (AV.own 0 2 none false :: AV.int IntKind.i64 v4 :: tops 18), [Blk.rows Mode.live 2 (List.map ep w0)])) (fun m (⟨v4, w0⟩ : Int × (List Pt)) => laws_toPegS_l0 L a m v4 w0) (fun _ => rfl) (fun m s rec hrec => ?_) L ((0, lrep (ilen (List.map ep a)) ({ x := 0, y := 0 }))) ?_ ?_
    rotate_left
    · first | rfl | (simp only [ml]; done) | (simp only [ml]; rfl)
    · first | rfl | (simp only [ml]; done) | (simp only [ml]; rfl)
    obtain ⟨v4, w0⟩ := s
    show _ = Option.map _ (laws_toPegS_l0 L a (m + 1) v4 w0)
    rw [laws_toPegS_l0.eq_2]
    conv => lhs; whnf
    refine t_cond ?_ ?_
    · conv => lhs; whnf
      refine t_get (en := ep) (l := a) (by first | rfl | (simp only [ml]; done) | (simp only [ml]; rfl)) fun p => ?_
      conv => lhs; whnf
      refine t_call (h_laws_toPeg (Pt.x p) (Pt.y p)) fun r => ?_
      conv => lhs; whnf
      refine t_cond ?_ ?_
      · conv => lhs; whnf
        refine t_get (en := ep) (l := w0) (by first | rfl | (simp only [ml]; done) | (simp only [ml]; rfl)) fun p1 => ?_
        conv => lhs; whnf
        exact hrec ((wr IntKind.i64 (iadd v4 1), lset w0 v4 ({ x := Prod.fst r, y := Prod.snd r }))) _ _ (by first | rfl | (simp only [ml]; done) | (simp only [ml]; rfl)) (by first | rfl | (simp only [ml]; done) | (simp only [ml]; rfl))
      · conv => lhs; whnf
        exact t_none
    · conv => lhs; whnf
      exact t_ret (by first | rfl | (simp only [ml]; done) | (simp only [ml]; rfl))
  · conv => lhs; whnf
    exact t_none


noncomputable def spec_l1In (L : Nat) (a : Int) (b : Int) (c : Int) : Option (Bool) := bif ile b a then (some (ile a c)) else (some false)


def spec_l1In_ok (L : Nat) (C : CF) : Prop := ∀ (a : Int) (b : Int) (c : Int), C 191 ([.int .i64 a, .int .i64 b, .int .i64 c]) ([]) = Option.map (fun r : Bool => ((.bool r, []) : AV × List Blk)) (spec_l1In L a b c)


theorem spec_l1In_run (L : Nat) (C : CF) : ∀ (a : Int) (b : Int) (c : Int), run T C sh (keep 191) L Try.f191 ([.int .i64 a, .int .i64 b, .int .i64 c]) ([]) = Option.map (fun r : Bool => ((.bool r, []) : AV × List Blk)) (spec_l1In L a b c) := by
  intro a b c
  unfold spec_l1In
  conv => lhs; whnf
  refine t_cond ?_ ?_
  · conv => lhs; whnf
    exact t_ret (by first | rfl | (simp only [ml]; done) | (simp only [ml]; rfl))
  · conv => lhs; whnf
    exact t_ret (by first | rfl | (simp only [ml]; done) | (simp only [ml]; rfl))


noncomputable def spec_pgIs (L : Nat) (a_0 : Int) (a_1 : Int) : Option (Bool) := gbind (spec_l1In L a_0 (-40) 40) fun r => bif r then (gbind (spec_l1In L a_1 (-40) 40) fun r1 => some r1) else (some false)


def spec_pgIs_ok (L : Nat) (C : CF) : Prop := ∀ (a_0 : Int) (a_1 : Int), C 131 ([.agg [.int .i64 a_0, .int .i64 a_1]]) ([]) = Option.map (fun r : Bool => ((.bool r, []) : AV × List Blk)) (spec_pgIs L a_0 a_1)


theorem spec_pgIs_run (L : Nat) (C : CF) (h_spec_l1In : spec_l1In_ok L C) : ∀ (a_0 : Int) (a_1 : Int), run T C sh (keep 131) L Try.f131 ([.agg [.int .i64 a_0, .int .i64 a_1]]) ([]) = Option.map (fun r : Bool => ((.bool r, []) : AV × List Blk)) (spec_pgIs L a_0 a_1) := by
  intro a_0 a_1
  unfold spec_pgIs
  conv => lhs; whnf
  refine t_call (h_spec_l1In a_0 (-40) 40) fun r => ?_
  conv => lhs; whnf
  refine t_cond ?_ ?_
  · conv => lhs; whnf
    refine t_call (h_spec_l1In a_1 (-40) 40) fun r1 => ?_
    conv => lhs; whnf
    exact t_ret (by first | rfl | (simp only [ml]; done) | (simp only [ml]; rfl))
  · conv => lhs; whnf
    exact t_ret (by first | rfl | (simp only [ml]; done) | (simp only [ml]; rfl))


noncomputable def spec_pgTurn (L : Nat) (a_0 : Int) (a_1 : Int) (b_0 : Int) (b_1 : Int) (c_0 : Int) (c_1 : Int) : Option (Int) := some (wr IntKind.i64 (isub (wr IntKind.i64 (imul (wr IntKind.i64 (isub b_0 a_0)) (wr IntKind.i64 (isub c_1 a_1)))) (wr IntKind.i64 (imul (wr IntKind.i64 (isub b_1 a_1)) (wr IntKind.i64 (isub c_0 a_0))))))


def spec_pgTurn_ok (L : Nat) (C : CF) : Prop := ∀ (a_0 : Int) (a_1 : Int) (b_0 : Int) (b_1 : Int) (c_0 : Int) (c_1 : Int), C 221 ([.agg [.int .i64 a_0, .int .i64 a_1], .agg [.int .i64 b_0, .int .i64 b_1], .agg [.int .i64 c_0, .int .i64 c_1]]) ([]) = Option.map (fun r : Int => ((.int .i64 r, []) : AV × List Blk)) (spec_pgTurn L a_0 a_1 b_0 b_1 c_0 c_1)


theorem spec_pgTurn_run (L : Nat) (C : CF) : ∀ (a_0 : Int) (a_1 : Int) (b_0 : Int) (b_1 : Int) (c_0 : Int) (c_1 : Int), run T C sh (keep 221) L Try.f221 ([.agg [.int .i64 a_0, .int .i64 a_1], .agg [.int .i64 b_0, .int .i64 b_1], .agg [.int .i64 c_0, .int .i64 c_1]]) ([]) = Option.map (fun r : Int => ((.int .i64 r, []) : AV × List Blk)) (spec_pgTurn L a_0 a_1 b_0 b_1 c_0 c_1) := by
  intro a_0 a_1 b_0 b_1 c_0 c_1
  unfold spec_pgTurn
  conv => lhs; whnf
  exact t_ret (by first | rfl | (simp only [ml]; done) | (simp only [ml]; rfl))


noncomputable def spec_pgOn (L : Nat) (a_0 : Int) (a_1 : Int) (b_0 : Int) (b_1 : Int) (c_0 : Int) (c_1 : Int) : Option (Bool) := gbind (spec_pgTurn L a_0 a_1 b_0 b_1 c_0 c_1) fun r => bif ieq r 0 then (bif ile (wr IntKind.i64 (imul (wr IntKind.i64 (isub a_0 c_0)) (wr IntKind.i64 (isub b_0 c_0)))) 0 then (some (ile (wr IntKind.i64 (imul (wr IntKind.i64 (isub a_1 c_1)) (wr IntKind.i64 (isub b_1 c_1)))) 0)) else (some false)) else (some false)


def spec_pgOn_ok (L : Nat) (C : CF) : Prop := ∀ (a_0 : Int) (a_1 : Int) (b_0 : Int) (b_1 : Int) (c_0 : Int) (c_1 : Int), C 223 ([.agg [.int .i64 a_0, .int .i64 a_1], .agg [.int .i64 b_0, .int .i64 b_1], .agg [.int .i64 c_0, .int .i64 c_1]]) ([]) = Option.map (fun r : Bool => ((.bool r, []) : AV × List Blk)) (spec_pgOn L a_0 a_1 b_0 b_1 c_0 c_1)


theorem spec_pgOn_run (L : Nat) (C : CF) (h_spec_pgTurn : spec_pgTurn_ok L C) : ∀ (a_0 : Int) (a_1 : Int) (b_0 : Int) (b_1 : Int) (c_0 : Int) (c_1 : Int), run T C sh (keep 223) L Try.f223 ([.agg [.int .i64 a_0, .int .i64 a_1], .agg [.int .i64 b_0, .int .i64 b_1], .agg [.int .i64 c_0, .int .i64 c_1]]) ([]) = Option.map (fun r : Bool => ((.bool r, []) : AV × List Blk)) (spec_pgOn L a_0 a_1 b_0 b_1 c_0 c_1) := by
  intro a_0 a_1 b_0 b_1 c_0 c_1
  unfold spec_pgOn
  conv => lhs; whnf
  refine t_call (h_spec_pgTurn a_0 a_1 b_0 b_1 c_0 c_1) fun r => ?_
  conv => lhs; whnf
  refine t_cond ?_ ?_
  · conv => lhs; whnf
    refine t_cond ?_ ?_
    · conv => lhs; whnf
      exact t_ret (by first | rfl | (simp only [ml]; done) | (simp only [ml]; rfl))
    · conv => lhs; whnf
      exact t_ret (by first | rfl | (simp only [ml]; done) | (simp only [ml]; rfl))
  · conv => lhs; whnf
    exact t_ret (by first | rfl | (simp only [ml]; done) | (simp only [ml]; rfl))


noncomputable def spec_l1Sign (L : Nat) (a : Int) : Option (Int) := bif ilt 0 a then (some 1) else (bif ilt a 0 then (some (-1)) else (some 0))


def spec_l1Sign_ok (L : Nat) (C : CF) : Prop := ∀ (a : Int), C 198 ([.int .i64 a]) ([]) = Option.map (fun r : Int => ((.int .i64 r, []) : AV × List Blk)) (spec_l1Sign L a)


theorem spec_l1Sign_run (L : Nat) (C : CF) : ∀ (a : Int), run T C sh (keep 198) L Try.f198 ([.int .i64 a]) ([]) = Option.map (fun r : Int => ((.int .i64 r, []) : AV × List Blk)) (spec_l1Sign L a) := by
  intro a
  unfold spec_l1Sign
  conv => lhs; whnf
  refine t_cond ?_ ?_
  · conv => lhs; whnf
    exact t_ret (by first | rfl | (simp only [ml]; done) | (simp only [ml]; rfl))
  · conv => lhs; whnf
    refine t_cond ?_ ?_
    · conv => lhs; whnf
      exact t_ret (by first | rfl | (simp only [ml]; done) | (simp only [ml]; rfl))
    · conv => lhs; whnf
      exact t_ret (by first | rfl | (simp only [ml]; done) | (simp only [ml]; rfl))


noncomputable def spec_pgMeet (L : Nat) (a_0 : Int) (a_1 : Int) (b_0 : Int) (b_1 : Int) (c_0 : Int) (c_1 : Int) (d_0 : Int) (d_1 : Int) : Option (Bool) := gbind (spec_pgOn L a_0 a_1 b_0 b_1 c_0 c_1) fun r => bif r then (some true) else (gbind (spec_pgOn L a_0 a_1 b_0 b_1 d_0 d_1) fun r1 => bif r1 then (some true) else (gbind (spec_pgOn L c_0 c_1 d_0 d_1 a_0 a_1) fun r2 => bif r2 then (some true) else (gbind (spec_pgOn L c_0 c_1 d_0 d_1 b_0 b_1) fun r3 => bif r3 then (some true) else (gbind (spec_pgTurn L a_0 a_1 b_0 b_1 c_0 c_1) fun r4 => gbind (spec_l1Sign L r4) fun r5 => gbind (spec_pgTurn L a_0 a_1 b_0 b_1 d_0 d_1) fun r6 => gbind (spec_l1Sign L r6) fun r7 => bif ilt (wr IntKind.i64 (imul r5 r7)) 0 then (gbind (spec_pgTurn L c_0 c_1 d_0 d_1 a_0 a_1) fun r8 => gbind (spec_l1Sign L r8) fun r9 => gbind (spec_pgTurn L c_0 c_1 d_0 d_1 b_0 b_1) fun r10 => gbind (spec_l1Sign L r10) fun r11 => some (ilt (wr IntKind.i64 (imul r9 r11)) 0)) else (some false)))))


def spec_pgMeet_ok (L : Nat) (C : CF) : Prop := ∀ (a_0 : Int) (a_1 : Int) (b_0 : Int) (b_1 : Int) (c_0 : Int) (c_1 : Int) (d_0 : Int) (d_1 : Int), C 236 ([.agg [.int .i64 a_0, .int .i64 a_1], .agg [.int .i64 b_0, .int .i64 b_1], .agg [.int .i64 c_0, .int .i64 c_1], .agg [.int .i64 d_0, .int .i64 d_1]]) ([]) = Option.map (fun r : Bool => ((.bool r, []) : AV × List Blk)) (spec_pgMeet L a_0 a_1 b_0 b_1 c_0 c_1 d_0 d_1)


theorem spec_pgMeet_run (L : Nat) (C : CF) (h_spec_pgTurn : spec_pgTurn_ok L C) (h_spec_pgOn : spec_pgOn_ok L C) (h_spec_l1Sign : spec_l1Sign_ok L C) : ∀ (a_0 : Int) (a_1 : Int) (b_0 : Int) (b_1 : Int) (c_0 : Int) (c_1 : Int) (d_0 : Int) (d_1 : Int), run T C sh (keep 236) L Try.f236 ([.agg [.int .i64 a_0, .int .i64 a_1], .agg [.int .i64 b_0, .int .i64 b_1], .agg [.int .i64 c_0, .int .i64 c_1], .agg [.int .i64 d_0, .int .i64 d_1]]) ([]) = Option.map (fun r : Bool => ((.bool r, []) : AV × List Blk)) (spec_pgMeet L a_0 a_1 b_0 b_1 c_0 c_1 d_0 d_1) := by
  intro a_0 a_1 b_0 b_1 c_0 c_1 d_0 d_1
  unfold spec_pgMeet
  conv => lhs; whnf
  refine t_call (h_spec_pgOn a_0 a_1 b_0 b_1 c_0 c_1) fun r => ?_
  conv => lhs; whnf
  refine t_cond ?_ ?_
  · conv => lhs; whnf
    exact t_ret (by first | rfl | (simp only [ml]; done) | (simp only [ml]; rfl))
  · conv => lhs; whnf
    refine t_call (h_spec_pgOn a_0 a_1 b_0 b_1 d_0 d_1) fun r1 => ?_
    conv => lhs; whnf
    refine t_cond ?_ ?_
    · conv => lhs; whnf
      exact t_ret (by first | rfl | (simp only [ml]; done) | (simp only [ml]; rfl))
    · conv => lhs; whnf
      refine t_call (h_spec_pgOn c_0 c_1 d_0 d_1 a_0 a_1) fun r2 => ?_
      conv => lhs; whnf
      refine t_cond ?_ ?_
      · conv => lhs; whnf
        exact t_ret (by first | rfl | (simp only [ml]; done) | (simp only [ml]; rfl))
      · conv => lhs; whnf
        refine t_call (h_spec_pgOn c_0 c_1 d_0 d_1 b_0 b_1) fun r3 => ?_
        conv => lhs; whnf
        refine t_cond ?_ ?_
        · conv => lhs; whnf
          exact t_ret (by first | rfl | (simp only [ml]; done) | (simp only [ml]; rfl))
        · conv => lhs; whnf
          refine t_call (h_spec_pgTurn a_0 a_1 b_0 b_1 c_0 c_1) fun r4 => ?_
          conv => lhs; whnf
          refine t_call (h_spec_l1Sign r4) fun r5 => ?_
          conv => lhs; whnf
          refine t_call (h_spec_pgTurn a_0 a_1 b_0 b_1 d_0 d_1) fun r6 => ?_
          conv => lhs; whnf
          refine t_call (h_spec_l1Sign r6) fun r7 => ?_
          conv => lhs; whnf
          refine t_cond ?_ ?_
          · conv => lhs; whnf
            refine t_call (h_spec_pgTurn c_0 c_1 d_0 d_1 a_0 a_1) fun r8 => ?_
            conv => lhs; whnf
            refine t_call (h_spec_l1Sign r8) fun r9 => ?_
            conv => lhs; whnf
            refine t_call (h_spec_pgTurn c_0 c_1 d_0 d_1 b_0 b_1) fun r10 => ?_
            conv => lhs; whnf
            refine t_call (h_spec_l1Sign r10) fun r11 => ?_
            conv => lhs; whnf
            exact t_ret (by first | rfl | (simp only [ml]; done) | (simp only [ml]; rfl))
          · conv => lhs; whnf
            exact t_ret (by first | rfl | (simp only [ml]; done) | (simp only [ml]; rfl))


noncomputable def spec_pgGood_l1 (L : Nat) (κ0 : (List Pt) → Int → (List Pt) → Int → Int → Option Bool) (v0 : List Pt) (v3 : Int) (v17 : List Pt) (v18 : Int) (v19 : Int) (p : Pt) : Nat → Int → Option Bool
  | 0, _ => none
  | m1 + 1, v31 => bif ilt v31 (ilen (lsub (List.map ep v0) 0 v19)) then (gbind (lget (lsub v0 0 v19) v31) fun p1 => bif ieq (Pt.x p) (Pt.x p1) && ieq (Pt.y p) (Pt.y p1) then (some false) else (spec_pgGood_l1 L κ0 v0 v3 v17 v18 v19 p m1 (wr IntKind.i64 (iadd v31 1)))) else (κ0 v0 v3 v17 v18 (wr IntKind.i64 (iadd v19 1)))


noncomputable def spec_pgGood_l3 (L : Nat) (κ1 : (List Pt) → Int → (List Pt) → Int → Int → Option Bool) (v01 : List Pt) (v32 : Int) (v40 : List Pt) (v41 : Int) (v42 : Int) (p2 : Pt) (p3 : Pt) : Nat → Int → Option Bool
  | 0, _ => none
  | m3 + 1, v11 => bif ilt v11 v32 then (bif ilt (wr IntKind.i64 (isub v11 v42)) (wr IntKind.i64 (isub v32 1)) then (gbind (lget v01 v11) fun p5 => bif ieq v32 0 then (none) else (gbind (lget v01 (irem (wr IntKind.i64 (iadd v11 1)) v32)) fun p6 => gbind (spec_pgMeet L (Pt.x p2) (Pt.y p2) (Pt.x p3) (Pt.y p3) (Pt.x p5) (Pt.y p5) (Pt.x p6) (Pt.y p6)) fun r3 => bif r3 then (some false) else (spec_pgGood_l3 L κ1 v01 v32 v40 v41 v42 p2 p3 m3 (wr IntKind.i64 (iadd v11 1))))) else (κ1 v01 v32 v40 v41 (wr IntKind.i64 (iadd v42 1)))) else (κ1 v01 v32 v40 v41 (wr IntKind.i64 (iadd v42 1)))


noncomputable def spec_pgGood_l2 (L : Nat) : Nat → (List Pt) → Int → (List Pt) → Int → Int → Option Bool
  | 0, _, _, _, _, _ => none
  | m2 + 1, v01, v32, v40, v41, v42 => bif ilt v42 v41 then (gbind (lget v40 v42) fun p2 => bif ieq v32 0 then (none) else (gbind (lget v01 (irem (wr IntKind.i64 (iadd v42 1)) v32)) fun p3 => bif ieq v32 0 then (none) else (gbind (lget v01 (irem (wr IntKind.i64 (iadd v42 2)) v32)) fun p4 => gbind (spec_pgTurn L (Pt.x p2) (Pt.y p2) (Pt.x p3) (Pt.y p3) (Pt.x p4) (Pt.y p4)) fun r2 => bif ieq r2 0 then (some false) else (spec_pgGood_l3 L (spec_pgGood_l2 L m2) v01 v32 v40 v41 v42 p2 p3 L (wr IntKind.i64 (iadd v42 2)))))) else (some true)


noncomputable def spec_pgGood_l0 (L : Nat) : Nat → (List Pt) → Int → (List Pt) → Int → Int → Option Bool
  | 0, _, _, _, _, _ => none
  | m + 1, v0, v3, v17, v18, v19 => bif ilt v19 v18 then (gbind (lget v17 v19) fun p => gbind (spec_pgIs L (Pt.x p) (Pt.y p)) fun r1 => bif !r1 then (some false) else (bif ile 0 v19 && ile v19 (ilen (List.map ep v0)) then (spec_pgGood_l1 L (spec_pgGood_l0 L m) v0 v3 v17 v18 v19 p L 0) else (none))) else (spec_pgGood_l2 L L v0 v3 v0 (ilen (List.map ep v0)) 0)


noncomputable def spec_pgGood (L : Nat) (a : List Pt) : Option (Bool) := gbind (spec_l1In L (ilen (List.map ep a)) 3 10) fun r => bif !r then (some false) else (spec_pgGood_l0 L L a (ilen (List.map ep a)) a (ilen (List.map ep a)) 0)


def spec_pgGood_ok (L : Nat) (C : CF) : Prop := ∀ (oa : Bool) (ca : Bool) (x_a : List AV) (a : List Pt) (_ : x_a = List.map ep a), C 164 ([.lst oa ca 2 x_a]) ([]) = Option.map (fun r : Bool => ((.bool r, []) : AV × List Blk)) (spec_pgGood L a)


theorem spec_pgGood_run (L : Nat) (C : CF) (h_spec_l1In : spec_l1In_ok L C) (h_spec_pgIs : spec_pgIs_ok L C) (h_spec_pgTurn : spec_pgTurn_ok L C) (h_spec_pgMeet : spec_pgMeet_ok L C) : ∀ (oa : Bool) (ca : Bool) (x_a : List AV) (a : List Pt) (_ : x_a = List.map ep a), run T C sh (keep 164) L Try.f164 ([.lst oa ca 2 x_a]) ([]) = Option.map (fun r : Bool => ((.bool r, []) : AV × List Blk)) (spec_pgGood L a) := by
  intro oa ca x_a a hx_a
  subst hx_a
  unfold spec_pgGood
  conv => lhs; whnf
  refine t_call (h_spec_l1In (ilen (List.map ep a)) 3 10) fun r => ?_
  conv => lhs; whnf
  refine t_cond ?_ ?_
  · conv => lhs; whnf
    exact t_ret (by first | rfl | (simp only [ml]; done) | (simp only [ml]; rfl))
  · conv => lhs; whnf
    refine t_loop (fun (⟨v0, v3, v17, v18, v19⟩ : (List Pt) × Int × (List Pt) × Int × Int) => (AV.lst oa ca 2 (List.map ep v0) :: topA 2 (AV.int IntKind.i64 v3 :: topA 13 (AV.lst oa ca 2 (List.map ep v17) :: AV.int IntKind.i64 v18 :: AV.int IntKind.i64 v19 :: tops 75)), [])) (fun m (⟨v0, v3, v17, v18, v19⟩ : (List Pt) × Int × (List Pt) × Int × Int) => spec_pgGood_l0 L m v0 v3 v17 v18 v19) (fun _ => rfl) (fun m s rec hrec => ?_) L ((a, ilen (List.map ep a), a, ilen (List.map ep a), 0)) ?_ ?_
    rotate_left
    · first | rfl | (simp only [ml]; done) | (simp only [ml]; rfl)
    · first | rfl | (simp only [ml]; done) | (simp only [ml]; rfl)
    obtain ⟨v0, v3, v17, v18, v19⟩ := s
    show _ = Option.map _ (spec_pgGood_l0 L (m + 1) v0 v3 v17 v18 v19)
    rw [spec_pgGood_l0.eq_2]
    conv => lhs; whnf
    refine t_cond ?_ ?_
    · conv => lhs; whnf
      refine t_get (en := ep) (l := v17) (by first | rfl | (simp only [ml]; done) | (simp only [ml]; rfl)) fun p => ?_
      conv => lhs; whnf
      refine t_call (h_spec_pgIs (Pt.x p) (Pt.y p)) fun r1 => ?_
      conv => lhs; whnf
      refine t_cond ?_ ?_
      · conv => lhs; whnf
        exact t_ret (by first | rfl | (simp only [ml]; done) | (simp only [ml]; rfl))
      · conv => lhs; whnf
        refine t_cond ?_ ?_
        · conv => lhs; whnf
          refine t_loop (fun (v31 : Int) => (AV.lst oa ca 2 (List.map ep v0) :: topA 2 (AV.int IntKind.i64 v3 :: AV.top :: AV.ptr 0 0 0 2 :: topA 11 (AV.lst oa ca 2 (List.map ep v17) :: AV.int IntKind.i64 v18 :: AV.int IntKind.i64 v19 :: topA 9 (AV.lst oa false 2 (lsub (List.map ep v0) 0 v19) :: AV.int IntKind.i64 (ilen (lsub (List.map ep v0) 0 v19)) :: AV.int IntKind.i64 v31 :: tops 63))), [Blk.box (AV.agg [AV.int IntKind.i64 (Pt.x p), AV.int IntKind.i64 (Pt.y p)])])) (fun m1 (v31 : Int) => spec_pgGood_l1 L (spec_pgGood_l0 L m) v0 v3 v17 v18 v19 p m1 v31) (fun _ => rfl) (fun m1 v31 rec1 hrec1 => ?_) L 0 ?_ ?_
          rotate_left
          · first | rfl | (simp only [ml]; done) | (simp only [ml]; rfl)
          · first | rfl | (simp only [ml]; done) | (simp only [ml]; rfl)
          show _ = Option.map _ (spec_pgGood_l1 L (spec_pgGood_l0 L m) v0 v3 v17 v18 v19 p (m1 + 1) v31)
          rw [spec_pgGood_l1.eq_2]
          conv => lhs; whnf
          refine t_cond ?_ ?_
          · conv => lhs; whnf
            refine t_get (en := ep) (l := lsub v0 0 v19) (by first | rfl | (simp only [ml]; done) | (simp only [ml]; rfl)) fun p1 => ?_
            conv => lhs; whnf
            refine t_cond ?_ ?_
            · conv => lhs; whnf
              exact t_ret (by first | rfl | (simp only [ml]; done) | (simp only [ml]; rfl))
            · conv => lhs; whnf
              exact hrec1 (wr IntKind.i64 (iadd v31 1)) _ _ (by first | rfl | (simp only [ml]; done) | (simp only [ml]; rfl)) (by first | rfl | (simp only [ml]; done) | (simp only [ml]; rfl))
          · conv => lhs; whnf
            exact hrec ((v0, v3, v17, v18, wr IntKind.i64 (iadd v19 1))) _ _ (by first | rfl | (simp only [ml]; done) | (simp only [ml]; rfl)) (by first | rfl | (simp only [ml]; done) | (simp only [ml]; rfl))
        · conv => lhs; whnf
          exact t_none
    · conv => lhs; whnf
      refine t_loop (fun (⟨v01, v32, v40, v41, v42⟩ : (List Pt) × Int × (List Pt) × Int × Int) => (AV.lst oa ca 2 (List.map ep v01) :: topA 2 (AV.int IntKind.i64 v32 :: topA 36 (AV.lst oa ca 2 (List.map ep v40) :: AV.int IntKind.i64 v41 :: AV.int IntKind.i64 v42 :: tops 52)), [])) (fun m2 (⟨v01, v32, v40, v41, v42⟩ : (List Pt) × Int × (List Pt) × Int × Int) => spec_pgGood_l2 L m2 v01 v32 v40 v41 v42) (fun _ => rfl) (fun m2 s2 rec2 hrec2 => ?_) L ((v0, v3, v0, ilen (List.map ep v0), 0)) ?_ ?_
      rotate_left
      · first | rfl | (simp only [ml]; done) | (simp only [ml]; rfl)
      · first | rfl | (simp only [ml]; done) | (simp only [ml]; rfl)
      obtain ⟨v01, v32, v40, v41, v42⟩ := s2
      show _ = Option.map _ (spec_pgGood_l2 L (m2 + 1) v01 v32 v40 v41 v42)
      rw [spec_pgGood_l2.eq_2]
      conv => lhs; whnf
      refine t_cond ?_ ?_
      · conv => lhs; whnf
        refine t_get (en := ep) (l := v40) (by first | rfl | (simp only [ml]; done) | (simp only [ml]; rfl)) fun p2 => ?_
        conv => lhs; whnf
        refine t_cond ?_ ?_
        · conv => lhs; whnf
          exact t_none
        · conv => lhs; whnf
          refine t_get (en := ep) (l := v01) (by first | rfl | (simp only [ml]; done) | (simp only [ml]; rfl)) fun p3 => ?_
          conv => lhs; whnf
          refine t_cond ?_ ?_
          · conv => lhs; whnf
            exact t_none
          · conv => lhs; whnf
            refine t_get (en := ep) (l := v01) (by first | rfl | (simp only [ml]; done) | (simp only [ml]; rfl)) fun p4 => ?_
            conv => lhs; whnf
            refine t_call (h_spec_pgTurn (Pt.x p2) (Pt.y p2) (Pt.x p3) (Pt.y p3) (Pt.x p4) (Pt.y p4)) fun r2 => ?_
            conv => lhs; whnf
            refine t_cond ?_ ?_
            · conv => lhs; whnf
              exact t_ret (by first | rfl | (simp only [ml]; done) | (simp only [ml]; rfl))
            · conv => lhs; whnf
              refine t_loop (fun (v11 : Int) => (AV.lst oa ca 2 (List.map ep v01) :: topA 2 (AV.int IntKind.i64 v32 :: topA 4 (AV.int IntKind.i64 v42 :: AV.ptr 0 0 0 2 :: AV.ptr 1 0 0 2 :: AV.int IntKind.i64 v11 :: topA 28 (AV.lst oa ca 2 (List.map ep v40) :: AV.int IntKind.i64 v41 :: AV.int IntKind.i64 v42 :: tops 52))), [Blk.box (AV.agg [AV.int IntKind.i64 (Pt.x p2), AV.int IntKind.i64 (Pt.y p2)]), Blk.box (AV.agg [AV.int IntKind.i64 (Pt.x p3), AV.int IntKind.i64 (Pt.y p3)])])) (fun m3 (v11 : Int) => spec_pgGood_l3 L (spec_pgGood_l2 L m2) v01 v32 v40 v41 v42 p2 p3 m3 v11) (fun _ => rfl) (fun m3 v11 rec3 hrec3 => ?_) L (wr IntKind.i64 (iadd v42 2)) ?_ ?_
              rotate_left
              · first | rfl | (simp only [ml]; done) | (simp only [ml]; rfl)
              · first | rfl | (simp only [ml]; done) | (simp only [ml]; rfl)
              show _ = Option.map _ (spec_pgGood_l3 L (spec_pgGood_l2 L m2) v01 v32 v40 v41 v42 p2 p3 (m3 + 1) v11)
              rw [spec_pgGood_l3.eq_2]
              conv => lhs; whnf
              refine t_cond ?_ ?_
              · conv => lhs; whnf
                refine t_cond ?_ ?_
                · conv => lhs; whnf
                  refine t_get (en := ep) (l := v01) (by first | rfl | (simp only [ml]; done) | (simp only [ml]; rfl)) fun p5 => ?_
                  conv => lhs; whnf
                  refine t_cond ?_ ?_
                  · conv => lhs; whnf
                    exact t_none
                  · conv => lhs; whnf
                    refine t_get (en := ep) (l := v01) (by first | rfl | (simp only [ml]; done) | (simp only [ml]; rfl)) fun p6 => ?_
                    conv => lhs; whnf
                    refine t_call (h_spec_pgMeet (Pt.x p2) (Pt.y p2) (Pt.x p3) (Pt.y p3) (Pt.x p5) (Pt.y p5) (Pt.x p6) (Pt.y p6)) fun r3 => ?_
                    conv => lhs; whnf
                    refine t_cond ?_ ?_
                    · conv => lhs; whnf
                      exact t_ret (by first | rfl | (simp only [ml]; done) | (simp only [ml]; rfl))
                    · conv => lhs; whnf
                      exact hrec3 (wr IntKind.i64 (iadd v11 1)) _ _ (by first | rfl | (simp only [ml]; done) | (simp only [ml]; rfl)) (by first | rfl | (simp only [ml]; done) | (simp only [ml]; rfl))
                · conv => lhs; whnf
                  exact hrec2 ((v01, v32, v40, v41, wr IntKind.i64 (iadd v42 1))) _ _ (by first | rfl | (simp only [ml]; done) | (simp only [ml]; rfl)) (by first | rfl | (simp only [ml]; done) | (simp only [ml]; rfl))
              · conv => lhs; whnf
                exact hrec2 ((v01, v32, v40, v41, wr IntKind.i64 (iadd v42 1))) _ _ (by first | rfl | (simp only [ml]; done) | (simp only [ml]; rfl)) (by first | rfl | (simp only [ml]; done) | (simp only [ml]; rfl))
      · conv => lhs; whnf
        exact t_ret (by first | rfl | (simp only [ml]; done) | (simp only [ml]; rfl))


noncomputable def spec_l1Most (L : Nat) (a : Int) (b : Int) : Option (Int) := bif ilt b a then (some a) else (some b)


def spec_l1Most_ok (L : Nat) (C : CF) : Prop := ∀ (a : Int) (b : Int), C 197 ([.int .i64 a, .int .i64 b]) ([]) = Option.map (fun r : Int => ((.int .i64 r, []) : AV × List Blk)) (spec_l1Most L a b)


theorem spec_l1Most_run (L : Nat) (C : CF) : ∀ (a : Int) (b : Int), run T C sh (keep 197) L Try.f197 ([.int .i64 a, .int .i64 b]) ([]) = Option.map (fun r : Int => ((.int .i64 r, []) : AV × List Blk)) (spec_l1Most L a b) := by
  intro a b
  unfold spec_l1Most
  conv => lhs; whnf
  refine t_cond ?_ ?_
  · conv => lhs; whnf
    exact t_ret (by first | rfl | (simp only [ml]; done) | (simp only [ml]; rfl))
  · conv => lhs; whnf
    exact t_ret (by first | rfl | (simp only [ml]; done) | (simp only [ml]; rfl))


noncomputable def spec_l1Abs (L : Nat) (a : Int) : Option (Int) := gbind (spec_l1Most L a (wr IntKind.i64 (isub 0 a))) fun r => some r


def spec_l1Abs_ok (L : Nat) (C : CF) : Prop := ∀ (a : Int), C 148 ([.int .i64 a]) ([]) = Option.map (fun r : Int => ((.int .i64 r, []) : AV × List Blk)) (spec_l1Abs L a)


theorem spec_l1Abs_run (L : Nat) (C : CF) (h_spec_l1Most : spec_l1Most_ok L C) : ∀ (a : Int), run T C sh (keep 148) L Try.f148 ([.int .i64 a]) ([]) = Option.map (fun r : Int => ((.int .i64 r, []) : AV × List Blk)) (spec_l1Abs L a) := by
  intro a
  unfold spec_l1Abs
  conv => lhs; whnf
  refine t_call (h_spec_l1Most a (wr IntKind.i64 (isub 0 a))) fun r => ?_
  conv => lhs; whnf
  exact t_ret (by first | rfl | (simp only [ml]; done) | (simp only [ml]; rfl))


noncomputable def spec_pgCommon_l0 (L : Nat) : Nat → Int → Int → Option Int
  | 0, _, _ => none
  | m + 1, v0, v1 => bif ilt 0 v1 then (bif ieq v1 0 then (none) else (spec_pgCommon_l0 L m v1 (irem v0 v1))) else (some v0)


noncomputable def spec_pgCommon (L : Nat) (a : Int) (b : Int) : Option (Int) := gbind (spec_l1Abs L a) fun r => gbind (spec_l1Abs L b) fun r1 => spec_pgCommon_l0 L L r r1


def spec_pgCommon_ok (L : Nat) (C : CF) : Prop := ∀ (a : Int) (b : Int), C 195 ([.int .i64 a, .int .i64 b]) ([]) = Option.map (fun r : Int => ((.int .i64 r, []) : AV × List Blk)) (spec_pgCommon L a b)


theorem spec_pgCommon_run (L : Nat) (C : CF) (h_spec_l1Abs : spec_l1Abs_ok L C) : ∀ (a : Int) (b : Int), run T C sh (keep 195) L Try.f195 ([.int .i64 a, .int .i64 b]) ([]) = Option.map (fun r : Int => ((.int .i64 r, []) : AV × List Blk)) (spec_pgCommon L a b) := by
  intro a b
  unfold spec_pgCommon
  conv => lhs; whnf
  refine t_call (h_spec_l1Abs a) fun r => ?_
  conv => lhs; whnf
  refine t_call (h_spec_l1Abs b) fun r1 => ?_
  conv => lhs; whnf
  refine t_loop (fun (⟨v0, v1⟩ : Int × Int) => (AV.int IntKind.i64 v0 :: AV.int IntKind.i64 v1 :: tops 14, [])) (fun m (⟨v0, v1⟩ : Int × Int) => spec_pgCommon_l0 L m v0 v1) (fun _ => rfl) (fun m s rec hrec => ?_) L ((r, r1)) ?_ ?_
  rotate_left
  · first | rfl | (simp only [ml]; done) | (simp only [ml]; rfl)
  · first | rfl | (simp only [ml]; done) | (simp only [ml]; rfl)
  obtain ⟨v0, v1⟩ := s
  show _ = Option.map _ (spec_pgCommon_l0 L (m + 1) v0 v1)
  rw [spec_pgCommon_l0.eq_2]
  conv => lhs; whnf
  refine t_cond ?_ ?_
  · conv => lhs; whnf
    refine t_cond ?_ ?_
    · conv => lhs; whnf
      exact t_none
    · conv => lhs; whnf
      exact hrec ((v1, irem v0 v1)) _ _ (by first | rfl | (simp only [ml]; done) | (simp only [ml]; rfl)) (by first | rfl | (simp only [ml]; done) | (simp only [ml]; rfl))
  · conv => lhs; whnf
    exact t_ret (by first | rfl | (simp only [ml]; done) | (simp only [ml]; rfl))


noncomputable def spec_pgLess (L : Nat) (a_0 : Int) (a_1 : Int) (b_0 : Int) (b_1 : Int) : Option (Bool) := bif ilt a_0 b_0 then (some true) else (bif ieq a_0 b_0 then (some (ilt a_1 b_1)) else (some false))


def spec_pgLess_ok (L : Nat) (C : CF) : Prop := ∀ (a_0 : Int) (a_1 : Int) (b_0 : Int) (b_1 : Int), C 215 ([.agg [.int .i64 a_0, .int .i64 a_1], .agg [.int .i64 b_0, .int .i64 b_1]]) ([]) = Option.map (fun r : Bool => ((.bool r, []) : AV × List Blk)) (spec_pgLess L a_0 a_1 b_0 b_1)


theorem spec_pgLess_run (L : Nat) (C : CF) : ∀ (a_0 : Int) (a_1 : Int) (b_0 : Int) (b_1 : Int), run T C sh (keep 215) L Try.f215 ([.agg [.int .i64 a_0, .int .i64 a_1], .agg [.int .i64 b_0, .int .i64 b_1]]) ([]) = Option.map (fun r : Bool => ((.bool r, []) : AV × List Blk)) (spec_pgLess L a_0 a_1 b_0 b_1) := by
  intro a_0 a_1 b_0 b_1
  unfold spec_pgLess
  conv => lhs; whnf
  refine t_cond ?_ ?_
  · conv => lhs; whnf
    exact t_ret (by first | rfl | (simp only [ml]; done) | (simp only [ml]; rfl))
  · conv => lhs; whnf
    refine t_cond ?_ ?_
    · conv => lhs; whnf
      exact t_ret (by first | rfl | (simp only [ml]; done) | (simp only [ml]; rfl))
    · conv => lhs; whnf
      exact t_ret (by first | rfl | (simp only [ml]; done) | (simp only [ml]; rfl))


noncomputable def impl_within (L : Nat) (a : Int) (b : Int) (c : Int) : Option (Bool) := bif ile b a then (some (ile a c)) else (some false)


def impl_within_ok (L : Nat) (C : CF) : Prop := ∀ (a : Int) (b : Int) (c : Int), C 134 ([.int .i64 a, .int .i64 b, .int .i64 c]) ([]) = Option.map (fun r : Bool => ((.bool r, []) : AV × List Blk)) (impl_within L a b c)


theorem impl_within_run (L : Nat) (C : CF) : ∀ (a : Int) (b : Int) (c : Int), run T C sh (keep 134) L Try.f134 ([.int .i64 a, .int .i64 b, .int .i64 c]) ([]) = Option.map (fun r : Bool => ((.bool r, []) : AV × List Blk)) (impl_within L a b c) := by
  intro a b c
  unfold impl_within
  conv => lhs; whnf
  refine t_cond ?_ ?_
  · conv => lhs; whnf
    exact t_ret (by first | rfl | (simp only [ml]; done) | (simp only [ml]; rfl))
  · conv => lhs; whnf
    exact t_ret (by first | rfl | (simp only [ml]; done) | (simp only [ml]; rfl))


noncomputable def impl_IsPeg (L : Nat) (a_0 : Int) (a_1 : Int) : Option (Bool) := gbind (impl_within L a_0 (-40) 40) fun r => bif r then (gbind (impl_within L a_1 (-40) 40) fun r1 => some r1) else (some false)


def impl_IsPeg_ok (L : Nat) (C : CF) : Prop := ∀ (a_0 : Int) (a_1 : Int), C 128 ([.agg [.int .i64 a_0, .int .i64 a_1]]) ([]) = Option.map (fun r : Bool => ((.bool r, []) : AV × List Blk)) (impl_IsPeg L a_0 a_1)


theorem impl_IsPeg_run (L : Nat) (C : CF) (h_impl_within : impl_within_ok L C) : ∀ (a_0 : Int) (a_1 : Int), run T C sh (keep 128) L Try.f128 ([.agg [.int .i64 a_0, .int .i64 a_1]]) ([]) = Option.map (fun r : Bool => ((.bool r, []) : AV × List Blk)) (impl_IsPeg L a_0 a_1) := by
  intro a_0 a_1
  unfold impl_IsPeg
  conv => lhs; whnf
  refine t_call (h_impl_within a_0 (-40) 40) fun r => ?_
  conv => lhs; whnf
  refine t_cond ?_ ?_
  · conv => lhs; whnf
    refine t_call (h_impl_within a_1 (-40) 40) fun r1 => ?_
    conv => lhs; whnf
    exact t_ret (by first | rfl | (simp only [ml]; done) | (simp only [ml]; rfl))
  · conv => lhs; whnf
    exact t_ret (by first | rfl | (simp only [ml]; done) | (simp only [ml]; rfl))


noncomputable def impl_arePegs_1 (L : Nat) (a_0 : Int) (a_1 : Int) : Option (Bool) := gbind (impl_IsPeg L a_0 a_1) fun r => some (!r)


def impl_arePegs_1_ok (L : Nat) (C : CF) : Prop := ∀ (a_0 : Int) (a_1 : Int), C 238 ([.agg [.int .i64 a_0, .int .i64 a_1]]) ([]) = Option.map (fun r : Bool => ((.bool r, []) : AV × List Blk)) (impl_arePegs_1 L a_0 a_1)


theorem impl_arePegs_1_run (L : Nat) (C : CF) (h_impl_IsPeg : impl_IsPeg_ok L C) : ∀ (a_0 : Int) (a_1 : Int), run T C sh (keep 238) L Try.f238 ([.agg [.int .i64 a_0, .int .i64 a_1]]) ([]) = Option.map (fun r : Bool => ((.bool r, []) : AV × List Blk)) (impl_arePegs_1 L a_0 a_1) := by
  intro a_0 a_1
  unfold impl_arePegs_1
  conv => lhs; whnf
  refine t_call (h_impl_IsPeg a_0 a_1) fun r => ?_
  conv => lhs; whnf
  exact t_ret (by first | rfl | (simp only [ml]; done) | (simp only [ml]; rfl))


noncomputable def slices_IndexFunc_impl_Peg_impl_Peg_arePegs_l0 (L : Nat) (a : List Pt) : Nat → Int → Option Int
  | 0, _ => none
  | m + 1, v8 => bif ilt v8 (ilen (List.map ep a)) then (gbind (lget a v8) fun p => gbind (impl_arePegs_1 L (Pt.x p) (Pt.y p)) fun r => bif r then (some v8) else (slices_IndexFunc_impl_Peg_impl_Peg_arePegs_l0 L a m (wr IntKind.i64 (iadd v8 1)))) else (some (-1))


noncomputable def slices_IndexFunc_impl_Peg_impl_Peg_arePegs (L : Nat) (a : List Pt) : Option (Int) := slices_IndexFunc_impl_Peg_impl_Peg_arePegs_l0 L a L 0


def slices_IndexFunc_impl_Peg_impl_Peg_arePegs_ok (L : Nat) (C : CF) : Prop := ∀ (o1 : Bool) (c1 : Bool) (x_a : List AV) (a : List Pt) (_ : x_a = List.map ep a), C 258 ([.lst o1 c1 2 x_a, .fn 238 [] []]) ([]) = Option.map (fun r : Int => ((.int .i64 r, []) : AV × List Blk)) (slices_IndexFunc_impl_Peg_impl_Peg_arePegs L a)


theorem slices_IndexFunc_impl_Peg_impl_Peg_arePegs_run (L : Nat) (C : CF) (h_impl_arePegs_1 : impl_arePegs_1_ok L C) : ∀ (o1 : Bool) (c1 : Bool) (x_a : List AV) (a : List Pt) (_ : x_a = List.map ep a), run T C sh (keep 258) L Try.f258 ([.lst o1 c1 2 x_a, .fn 238 [] []]) ([]) = Option.map (fun r : Int => ((.int .i64 r, []) : AV × List Blk)) (slices_IndexFunc_impl_Peg_impl_Peg_arePegs L a) := by
  intro o1 c1 x_a a hx_a
  subst hx_a
  unfold slices_IndexFunc_impl_Peg_impl_Peg_arePegs
  conv => lhs; whnf
  refine t_loop (fun (v8 : Int) => (AV.lst o1 c1 2 (List.map ep a) :: AV.fn 238 [] [] :: topA 5 (AV.int IntKind.i64 (ilen (List.map ep a)) :: AV.int IntKind.i64 v8 :: tops 10), [])) (fun m (v8 : Int) => slices_IndexFunc_impl_Peg_impl_Peg_arePegs_l0 L a m v8) (fun _ => rfl) (fun m v8 rec hrec => ?_) L 0 ?_ ?_
  rotate_left
  · first | rfl | (simp only [ml]; done) | (simp only [ml]; rfl)
  · first | rfl | (simp only [ml]; done) | (simp only [ml]; rfl)
  show _ = Option.map _ (slices_IndexFunc_impl_Peg_impl_Peg_arePegs_l0 L a (m + 1) v8)
  rw [slices_IndexFunc_impl_Peg_impl_Peg_arePegs_l0.eq_2]
  conv => lhs; whnf
  refine t_cond ?_ ?_
  · conv => lhs; whnf
    refine t_get (en := ep) (l := a) (by first | rfl | (simp only [ml]; done) | (simp only [ml]; rfl)) fun p => ?_
    conv => lhs; whnf
    refine t_call (h_impl_arePegs_1 (Pt.x p) (Pt.y p)) fun r => ?_
    conv => lhs; whnf
    refine t_cond ?_ ?_
    · conv => lhs; whnf
      exact t_ret (by first | rfl | (simp only [ml]; done) | (simp only [ml]; rfl))
    · conv => lhs; whnf
      exact hrec (wr IntKind.i64 (iadd v8 1)) _ _ (by first | rfl | (simp only [ml]; done) | (simp only [ml]; rfl)) (by first | rfl | (simp only [ml]; done) | (simp only [ml]; rfl))
  · conv => lhs; whnf
    exact t_ret (by first | rfl | (simp only [ml]; done) | (simp only [ml]; rfl))


noncomputable def slices_ContainsFunc_impl_Peg_impl_Peg_arePegs (L : Nat) (a : List Pt) : Option (Bool) := gbind (slices_IndexFunc_impl_Peg_impl_Peg_arePegs L a) fun r => some (ile 0 r)


def slices_ContainsFunc_impl_Peg_impl_Peg_arePegs_ok (L : Nat) (C : CF) : Prop := ∀ (o1 : Bool) (c1 : Bool) (x_a : List AV) (a : List Pt) (_ : x_a = List.map ep a), C 237 ([.lst o1 c1 2 x_a, .fn 238 [] []]) ([]) = Option.map (fun r : Bool => ((.bool r, []) : AV × List Blk)) (slices_ContainsFunc_impl_Peg_impl_Peg_arePegs L a)


theorem slices_ContainsFunc_impl_Peg_impl_Peg_arePegs_run (L : Nat) (C : CF) (h_slices_IndexFunc_impl_Peg_impl_Peg_arePegs : slices_IndexFunc_impl_Peg_impl_Peg_arePegs_ok L C) : ∀ (o1 : Bool) (c1 : Bool) (x_a : List AV) (a : List Pt) (_ : x_a = List.map ep a), run T C sh (keep 237) L Try.f237 ([.lst o1 c1 2 x_a, .fn 238 [] []]) ([]) = Option.map (fun r : Bool => ((.bool r, []) : AV × List Blk)) (slices_ContainsFunc_impl_Peg_impl_Peg_arePegs L a) := by
  intro o1 c1 x_a a hx_a
  subst hx_a
  unfold slices_ContainsFunc_impl_Peg_impl_Peg_arePegs
  conv => lhs; whnf
  refine t_call (h_slices_IndexFunc_impl_Peg_impl_Peg_arePegs _ _ _ a (by first | rfl | (simp only [ml]; done) | (simp only [ml]; rfl))) fun r => ?_
  conv => lhs; whnf
  exact t_ret (by first | rfl | (simp only [ml]; done) | (simp only [ml]; rfl))


noncomputable def impl_arePegs (L : Nat) (a : List Pt) : Option (Bool) := gbind (slices_ContainsFunc_impl_Peg_impl_Peg_arePegs L a) fun r => some (!r)


def impl_arePegs_ok (L : Nat) (C : CF) : Prop := ∀ (oa : Bool) (ca : Bool) (x_a : List AV) (a : List Pt) (_ : x_a = List.map ep a), C 172 ([.lst oa ca 2 x_a]) ([]) = Option.map (fun r : Bool => ((.bool r, []) : AV × List Blk)) (impl_arePegs L a)


theorem impl_arePegs_run (L : Nat) (C : CF) (h_slices_ContainsFunc_impl_Peg_impl_Peg_arePegs : slices_ContainsFunc_impl_Peg_impl_Peg_arePegs_ok L C) : ∀ (oa : Bool) (ca : Bool) (x_a : List AV) (a : List Pt) (_ : x_a = List.map ep a), run T C sh (keep 172) L Try.f172 ([.lst oa ca 2 x_a]) ([]) = Option.map (fun r : Bool => ((.bool r, []) : AV × List Blk)) (impl_arePegs L a) := by
  intro oa ca x_a a hx_a
  subst hx_a
  unfold impl_arePegs
  conv => lhs; whnf
  refine t_call (h_slices_ContainsFunc_impl_Peg_impl_Peg_arePegs _ _ _ a (by first | rfl | (simp only [ml]; done) | (simp only [ml]; rfl))) fun r => ?_
  conv => lhs; whnf
  exact t_ret (by first | rfl | (simp only [ml]; done) | (simp only [ml]; rfl))


noncomputable def slices_Index_impl_Peg_impl_Peg_l0 (L : Nat) (a : List Pt) (b_0 : Int) (b_1 : Int) : Nat → Int → Option Int
  | 0, _ => none
  | m + 1, v8 => bif ilt v8 (ilen (List.map ep a)) then (gbind (lget a v8) fun p => bif ieq b_0 (Pt.x p) && ieq b_1 (Pt.y p) then (some v8) else (slices_Index_impl_Peg_impl_Peg_l0 L a b_0 b_1 m (wr IntKind.i64 (iadd v8 1)))) else (some (-1))


noncomputable def slices_Index_impl_Peg_impl_Peg (L : Nat) (a : List Pt) (b_0 : Int) (b_1 : Int) : Option (Int) := slices_Index_impl_Peg_impl_Peg_l0 L a b_0 b_1 L 0


def slices_Index_impl_Peg_impl_Peg_ok (L : Nat) (C : CF) : Prop := ∀ (oa : Bool) (ca : Bool) (x_a : List AV) (a : List Pt) (_ : x_a = List.map ep a) (b_0 : Int) (b_1 : Int), C 239 ([.lst oa ca 2 x_a, .agg [.int .i64 b_0, .int .i64 b_1]]) ([]) = Option.map (fun r : Int => ((.int .i64 r, []) : AV × List Blk)) (slices_Index_impl_Peg_impl_Peg L a b_0 b_1)


theorem slices_Index_impl_Peg_impl_Peg_run (L : Nat) (C : CF) : ∀ (oa : Bool) (ca : Bool) (x_a : List AV) (a : List Pt) (_ : x_a = List.map ep a) (b_0 : Int) (b_1 : Int), run T C sh (keep 239) L Try.f239 ([.lst oa ca 2 x_a, .agg [.int .i64 b_0, .int .i64 b_1]]) ([]) = Option.map (fun r : Int => ((.int .i64 r, []) : AV × List Blk)) (slices_Index_impl_Peg_impl_Peg L a b_0 b_1) := by
  intro oa ca x_a a hx_a b_0 b_1
  subst hx_a
  unfold slices_Index_impl_Peg_impl_Peg
  conv => lhs; whnf
  refine t_loop (fun (v8 : Int) => (AV.lst oa ca 2 (List.map ep a) :: topA 2 (AV.ptr 0 0 0 2 :: topA 3 (AV.int IntKind.i64 (ilen (List.map ep a)) :: AV.int IntKind.i64 v8 :: tops 10)), [Blk.box (AV.agg [AV.int IntKind.i64 b_0, AV.int IntKind.i64 b_1])])) (fun m (v8 : Int) => slices_Index_impl_Peg_impl_Peg_l0 L a b_0 b_1 m v8) (fun _ => rfl) (fun m v8 rec hrec => ?_) L 0 ?_ ?_
  rotate_left
  · first | rfl | (simp only [ml]; done) | (simp only [ml]; rfl)
  · first | rfl | (simp only [ml]; done) | (simp only [ml]; rfl)
  show _ = Option.map _ (slices_Index_impl_Peg_impl_Peg_l0 L a b_0 b_1 (m + 1) v8)
  rw [slices_Index_impl_Peg_impl_Peg_l0.eq_2]
  conv => lhs; whnf
  refine t_cond ?_ ?_
  · conv => lhs; whnf
    refine t_get (en := ep) (l := a) (by first | rfl | (simp only [ml]; done) | (simp only [ml]; rfl)) fun p => ?_
    conv => lhs; whnf
    refine t_cond ?_ ?_
    · conv => lhs; whnf
      exact t_ret (by first | rfl | (simp only [ml]; done) | (simp only [ml]; rfl))
    · conv => lhs; whnf
      exact hrec (wr IntKind.i64 (iadd v8 1)) _ _ (by first | rfl | (simp only [ml]; done) | (simp only [ml]; rfl)) (by first | rfl | (simp only [ml]; done) | (simp only [ml]; rfl))
  · conv => lhs; whnf
    exact t_ret (by first | rfl | (simp only [ml]; done) | (simp only [ml]; rfl))


noncomputable def slices_Contains_impl_Peg_impl_Peg (L : Nat) (a : List Pt) (b_0 : Int) (b_1 : Int) : Option (Bool) := gbind (slices_Index_impl_Peg_impl_Peg L a b_0 b_1) fun r => some (ile 0 r)


def slices_Contains_impl_Peg_impl_Peg_ok (L : Nat) (C : CF) : Prop := ∀ (oa : Bool) (ca : Bool) (x_a : List AV) (a : List Pt) (_ : x_a = List.map ep a) (b_0 : Int) (b_1 : Int), C 173 ([.lst oa ca 2 x_a, .agg [.int .i64 b_0, .int .i64 b_1]]) ([]) = Option.map (fun r : Bool => ((.bool r, []) : AV × List Blk)) (slices_Contains_impl_Peg_impl_Peg L a b_0 b_1)


theorem slices_Contains_impl_Peg_impl_Peg_run (L : Nat) (C : CF) (h_slices_Index_impl_Peg_impl_Peg : slices_Index_impl_Peg_impl_Peg_ok L C) : ∀ (oa : Bool) (ca : Bool) (x_a : List AV) (a : List Pt) (_ : x_a = List.map ep a) (b_0 : Int) (b_1 : Int), run T C sh (keep 173) L Try.f173 ([.lst oa ca 2 x_a, .agg [.int .i64 b_0, .int .i64 b_1]]) ([]) = Option.map (fun r : Bool => ((.bool r, []) : AV × List Blk)) (slices_Contains_impl_Peg_impl_Peg L a b_0 b_1) := by
  intro oa ca x_a a hx_a b_0 b_1
  subst hx_a
  unfold slices_Contains_impl_Peg_impl_Peg
  conv => lhs; whnf
  refine t_call (h_slices_Index_impl_Peg_impl_Peg _ _ _ a (by first | rfl | (simp only [ml]; done) | (simp only [ml]; rfl)) b_0 b_1) fun r => ?_
  conv => lhs; whnf
  exact t_ret (by first | rfl | (simp only [ml]; done) | (simp only [ml]; rfl))


noncomputable def impl_at (L : Nat) (a : List Pt) (b : Int) : Option (Int × Int) := bif ieq (ilen (List.map ep a)) 0 then (none) else (bif ieq (ilen (List.map ep a)) 0 then (none) else (gbind (lget a (irem (wr IntKind.i64 (iadd (irem b (ilen (List.map ep a))) (ilen (List.map ep a)))) (ilen (List.map ep a)))) fun p => some ((Pt.x p, Pt.y p))))


def impl_at_ok (L : Nat) (C : CF) : Prop := ∀ (oa : Bool) (ca : Bool) (x_a : List AV) (a : List Pt) (_ : x_a = List.map ep a) (b : Int), C 175 ([.lst oa ca 2 x_a, .int .i64 b]) ([]) = Option.map (fun r : Int × Int => ((.agg [.int .i64 (r.1), .int .i64 (r.2)], []) : AV × List Blk)) (impl_at L a b)


theorem impl_at_run (L : Nat) (C : CF) : ∀ (oa : Bool) (ca : Bool) (x_a : List AV) (a : List Pt) (_ : x_a = List.map ep a) (b : Int), run T C sh (keep 175) L Try.f175 ([.lst oa ca 2 x_a, .int .i64 b]) ([]) = Option.map (fun r : Int × Int => ((.agg [.int .i64 (r.1), .int .i64 (r.2)], []) : AV × List Blk)) (impl_at L a b) := by
  intro oa ca x_a a hx_a b
  subst hx_a
  unfold impl_at
  conv => lhs; whnf
  refine t_cond ?_ ?_
  · conv => lhs; whnf
    exact t_none
  · conv => lhs; whnf
    refine t_cond ?_ ?_
    · conv => lhs; whnf
      exact t_none
    · conv => lhs; whnf
      refine t_get (en := ep) (l := a) (by first | rfl | (simp only [ml]; done) | (simp only [ml]; rfl)) fun p => ?_
      conv => lhs; whnf
      exact t_ret (by first | rfl | (simp only [ml]; done) | (simp only [ml]; rfl))


noncomputable def impl_Peg_less (L : Nat) (a_0 : Int) (a_1 : Int) (b_0 : Int) (b_1 : Int) : Option (Int × Int) := some ((wr IntKind.i64 (isub a_0 b_0), wr IntKind.i64 (isub a_1 b_1)))


def impl_Peg_less_ok (L : Nat) (C : CF) : Prop := ∀ (a_0 : Int) (a_1 : Int) (b_0 : Int) (b_1 : Int), C 199 ([.agg [.int .i64 a_0, .int .i64 a_1], .agg [.int .i64 b_0, .int .i64 b_1]]) ([]) = Option.map (fun r : Int × Int => ((.agg [.int .i64 (r.1), .int .i64 (r.2)], []) : AV × List Blk)) (impl_Peg_less L a_0 a_1 b_0 b_1)


theorem impl_Peg_less_run (L : Nat) (C : CF) : ∀ (a_0 : Int) (a_1 : Int) (b_0 : Int) (b_1 : Int), run T C sh (keep 199) L Try.f199 ([.agg [.int .i64 a_0, .int .i64 a_1], .agg [.int .i64 b_0, .int .i64 b_1]]) ([]) = Option.map (fun r : Int × Int => ((.agg [.int .i64 (r.1), .int .i64 (r.2)], []) : AV × List Blk)) (impl_Peg_less L a_0 a_1 b_0 b_1) := by
  intro a_0 a_1 b_0 b_1
  unfold impl_Peg_less
  conv => lhs; whnf
  exact t_ret (by first | rfl | (simp only [ml]; done) | (simp only [ml]; rfl))


noncomputable def impl_cross (L : Nat) (a_0 : Int) (a_1 : Int) (b_0 : Int) (b_1 : Int) : Option (Int) := some (wr IntKind.i64 (isub (wr IntKind.i64 (imul a_0 b_1)) (wr IntKind.i64 (imul a_1 b_0))))


def impl_cross_ok (L : Nat) (C : CF) : Prop := ∀ (a_0 : Int) (a_1 : Int) (b_0 : Int) (b_1 : Int), C 202 ([.agg [.int .i64 a_0, .int .i64 a_1], .agg [.int .i64 b_0, .int .i64 b_1]]) ([]) = Option.map (fun r : Int => ((.int .i64 r, []) : AV × List Blk)) (impl_cross L a_0 a_1 b_0 b_1)


theorem impl_cross_run (L : Nat) (C : CF) : ∀ (a_0 : Int) (a_1 : Int) (b_0 : Int) (b_1 : Int), run T C sh (keep 202) L Try.f202 ([.agg [.int .i64 a_0, .int .i64 a_1], .agg [.int .i64 b_0, .int .i64 b_1]]) ([]) = Option.map (fun r : Int => ((.int .i64 r, []) : AV × List Blk)) (impl_cross L a_0 a_1 b_0 b_1) := by
  intro a_0 a_1 b_0 b_1
  unfold impl_cross
  conv => lhs; whnf
  exact t_ret (by first | rfl | (simp only [ml]; done) | (simp only [ml]; rfl))


noncomputable def impl_turn (L : Nat) (a_0 : Int) (a_1 : Int) (b_0 : Int) (b_1 : Int) (c_0 : Int) (c_1 : Int) : Option (Int) := gbind (impl_Peg_less L b_0 b_1 a_0 a_1) fun r => gbind (impl_Peg_less L c_0 c_1 a_0 a_1) fun r1 => gbind (impl_cross L (Prod.fst r) (Prod.snd r) (Prod.fst r1) (Prod.snd r1)) fun r2 => some r2


def impl_turn_ok (L : Nat) (C : CF) : Prop := ∀ (a_0 : Int) (a_1 : Int) (b_0 : Int) (b_1 : Int) (c_0 : Int) (c_1 : Int), C 174 ([.agg [.int .i64 a_0, .int .i64 a_1], .agg [.int .i64 b_0, .int .i64 b_1], .agg [.int .i64 c_0, .int .i64 c_1]]) ([]) = Option.map (fun r : Int => ((.int .i64 r, []) : AV × List Blk)) (impl_turn L a_0 a_1 b_0 b_1 c_0 c_1)


theorem impl_turn_run (L : Nat) (C : CF) (h_impl_Peg_less : impl_Peg_less_ok L C) (h_impl_cross : impl_cross_ok L C) : ∀ (a_0 : Int) (a_1 : Int) (b_0 : Int) (b_1 : Int) (c_0 : Int) (c_1 : Int), run T C sh (keep 174) L Try.f174 ([.agg [.int .i64 a_0, .int .i64 a_1], .agg [.int .i64 b_0, .int .i64 b_1], .agg [.int .i64 c_0, .int .i64 c_1]]) ([]) = Option.map (fun r : Int => ((.int .i64 r, []) : AV × List Blk)) (impl_turn L a_0 a_1 b_0 b_1 c_0 c_1) := by
  intro a_0 a_1 b_0 b_1 c_0 c_1
  unfold impl_turn
  conv => lhs; whnf
  refine t_call (h_impl_Peg_less b_0 b_1 a_0 a_1) fun r => ?_
  conv => lhs; whnf
  refine t_call (h_impl_Peg_less c_0 c_1 a_0 a_1) fun r1 => ?_
  conv => lhs; whnf
  refine t_call (h_impl_cross (Prod.fst r) (Prod.snd r) (Prod.fst r1) (Prod.snd r1)) fun r2 => ?_
  conv => lhs; whnf
  exact t_ret (by first | rfl | (simp only [ml]; done) | (simp only [ml]; rfl))


noncomputable def impl_sign (L : Nat) (a : Int) : Option (Int) := some (imin 1 (imax (-1) a))


def impl_sign_ok (L : Nat) (C : CF) : Prop := ∀ (a : Int), C 196 ([.int .i64 a]) ([]) = Option.map (fun r : Int => ((.int .i64 r, []) : AV × List Blk)) (impl_sign L a)


theorem impl_sign_run (L : Nat) (C : CF) : ∀ (a : Int), run T C sh (keep 196) L Try.f196 ([.int .i64 a]) ([]) = Option.map (fun r : Int => ((.int .i64 r, []) : AV × List Blk)) (impl_sign L a) := by
  intro a
  unfold impl_sign
  conv => lhs; whnf
  exact t_ret (by first | rfl | (simp only [ml]; done) | (simp only [ml]; rfl))


noncomputable def impl_isOn (L : Nat) (a_0 : Int) (a_1 : Int) (b_0 : Int) (b_1 : Int) (c_0 : Int) (c_1 : Int) : Option (Bool) := gbind (impl_turn L a_0 a_1 b_0 b_1 c_0 c_1) fun r => bif ieq r 0 then (gbind (impl_within L c_0 (imin a_0 b_0) (imax a_0 b_0)) fun r1 => bif r1 then (gbind (impl_within L c_1 (imin a_1 b_1) (imax a_1 b_1)) fun r2 => some r2) else (some false)) else (some false)


def impl_isOn_ok (L : Nat) (C : CF) : Prop := ∀ (a_0 : Int) (a_1 : Int) (b_0 : Int) (b_1 : Int) (c_0 : Int) (c_1 : Int), C 179 ([.agg [.int .i64 a_0, .int .i64 a_1], .agg [.int .i64 b_0, .int .i64 b_1], .agg [.int .i64 c_0, .int .i64 c_1]]) ([]) = Option.map (fun r : Bool => ((.bool r, []) : AV × List Blk)) (impl_isOn L a_0 a_1 b_0 b_1 c_0 c_1)


theorem impl_isOn_run (L : Nat) (C : CF) (h_impl_within : impl_within_ok L C) (h_impl_turn : impl_turn_ok L C) : ∀ (a_0 : Int) (a_1 : Int) (b_0 : Int) (b_1 : Int) (c_0 : Int) (c_1 : Int), run T C sh (keep 179) L Try.f179 ([.agg [.int .i64 a_0, .int .i64 a_1], .agg [.int .i64 b_0, .int .i64 b_1], .agg [.int .i64 c_0, .int .i64 c_1]]) ([]) = Option.map (fun r : Bool => ((.bool r, []) : AV × List Blk)) (impl_isOn L a_0 a_1 b_0 b_1 c_0 c_1) := by
  intro a_0 a_1 b_0 b_1 c_0 c_1
  unfold impl_isOn
  conv => lhs; whnf
  refine t_call (h_impl_turn a_0 a_1 b_0 b_1 c_0 c_1) fun r => ?_
  conv => lhs; whnf
  refine t_cond ?_ ?_
  · conv => lhs; whnf
    refine t_call (h_impl_within c_0 (imin a_0 b_0) (imax a_0 b_0)) fun r1 => ?_
    conv => lhs; whnf
    refine t_cond ?_ ?_
    · conv => lhs; whnf
      refine t_call (h_impl_within c_1 (imin a_1 b_1) (imax a_1 b_1)) fun r2 => ?_
      conv => lhs; whnf
      exact t_ret (by first | rfl | (simp only [ml]; done) | (simp only [ml]; rfl))
    · conv => lhs; whnf
      exact t_ret (by first | rfl | (simp only [ml]; done) | (simp only [ml]; rfl))
  · conv => lhs; whnf
    exact t_ret (by first | rfl | (simp only [ml]; done) | (simp only [ml]; rfl))


noncomputable def impl_meet (L : Nat) (a_0 : Int) (a_1 : Int) (b_0 : Int) (b_1 : Int) (c_0 : Int) (c_1 : Int) (d_0 : Int) (d_1 : Int) : Option (Bool) := gbind (impl_turn L a_0 a_1 b_0 b_1 c_0 c_1) fun r => gbind (impl_sign L r) fun r1 => gbind (impl_turn L a_0 a_1 b_0 b_1 d_0 d_1) fun r2 => gbind (impl_sign L r2) fun r3 => bif ilt (wr IntKind.i64 (imul r1 r3)) 0 then (gbind (impl_turn L c_0 c_1 d_0 d_1 a_0 a_1) fun r4 => gbind (impl_sign L r4) fun r5 => gbind (impl_turn L c_0 c_1 d_0 d_1 b_0 b_1) fun r6 => gbind (impl_sign L r6) fun r7 => bif ilt (wr IntKind.i64 (imul r5 r7)) 0 then (some true) else (gbind (impl_isOn L a_0 a_1 b_0 b_1 c_0 c_1) fun r8 => bif r8 then (some true) else (gbind (impl_isOn L a_0 a_1 b_0 b_1 d_0 d_1) fun r9 => bif r9 then (some true) else (gbind (impl_isOn L c_0 c_1 d_0 d_1 a_0 a_1) fun r10 => bif r10 then (some true) else (gbind (impl_isOn L c_0 c_1 d_0 d_1 b_0 b_1) fun r11 => some r11))))) else (gbind (impl_isOn L a_0 a_1 b_0 b_1 c_0 c_1) fun r12 => bif r12 then (some true) else (gbind (impl_isOn L a_0 a_1 b_0 b_1 d_0 d_1) fun r13 => bif r13 then (some true) else (gbind (impl_isOn L c_0 c_1 d_0 d_1 a_0 a_1) fun r14 => bif r14 then (some true) else (gbind (impl_isOn L c_0 c_1 d_0 d_1 b_0 b_1) fun r15 => some r15))))


def impl_meet_ok (L : Nat) (C : CF) : Prop := ∀ (a_0 : Int) (a_1 : Int) (b_0 : Int) (b_1 : Int) (c_0 : Int) (c_1 : Int) (d_0 : Int) (d_1 : Int), C 176 ([.agg [.int .i64 a_0, .int .i64 a_1], .agg [.int .i64 b_0, .int .i64 b_1], .agg [.int .i64 c_0, .int .i64 c_1], .agg [.int .i64 d_0, .int .i64 d_1]]) ([]) = Option.map (fun r : Bool => ((.bool r, []) : AV × List Blk)) (impl_meet L a_0 a_1 b_0 b_1 c_0 c_1 d_0 d_1)


theorem impl_meet_run (L : Nat) (C : CF) (h_impl_turn : impl_turn_ok L C) (h_impl_sign : impl_sign_ok L C) (h_impl_isOn : impl_isOn_ok L C) : ∀ (a_0 : Int) (a_1 : Int) (b_0 : Int) (b_1 : Int) (c_0 : Int) (c_1 : Int) (d_0 : Int) (d_1 : Int), run T C sh (keep 176) L Try.f176 ([.agg [.int .i64 a_0, .int .i64 a_1], .agg [.int .i64 b_0, .int .i64 b_1], .agg [.int .i64 c_0, .int .i64 c_1], .agg [.int .i64 d_0, .int .i64 d_1]]) ([]) = Option.map (fun r : Bool => ((.bool r, []) : AV × List Blk)) (impl_meet L a_0 a_1 b_0 b_1 c_0 c_1 d_0 d_1) := by
  intro a_0 a_1 b_0 b_1 c_0 c_1 d_0 d_1
  unfold impl_meet
  conv => lhs; whnf
  refine t_call (h_impl_turn a_0 a_1 b_0 b_1 c_0 c_1) fun r => ?_
  conv => lhs; whnf
  refine t_call (h_impl_sign r) fun r1 => ?_
  conv => lhs; whnf
  refine t_call (h_impl_turn a_0 a_1 b_0 b_1 d_0 d_1) fun r2 => ?_
  conv => lhs; whnf
  refine t_call (h_impl_sign r2) fun r3 => ?_
  conv => lhs; whnf
  refine t_cond ?_ ?_
  · conv => lhs; whnf
    refine t_call (h_impl_turn c_0 c_1 d_0 d_1 a_0 a_1) fun r4 => ?_
    conv => lhs; whnf
    refine t_call (h_impl_sign r4) fun r5 => ?_
    conv => lhs; whnf
    refine t_call (h_impl_turn c_0 c_1 d_0 d_1 b_0 b_1) fun r6 => ?_
    conv => lhs; whnf
    refine t_call (h_impl_sign r6) fun r7 => ?_
    conv => lhs; whnf
    refine t_cond ?_ ?_
    · conv => lhs; whnf
      exact t_ret (by first | rfl | (simp only [ml]; done) | (simp only [ml]; rfl))
    · conv => lhs; whnf
      refine t_call (h_impl_isOn a_0 a_1 b_0 b_1 c_0 c_1) fun r8 => ?_
      conv => lhs; whnf
      refine t_cond ?_ ?_
      · conv => lhs; whnf
        exact t_ret (by first | rfl | (simp only [ml]; done) | (simp only [ml]; rfl))
      · conv => lhs; whnf
        refine t_call (h_impl_isOn a_0 a_1 b_0 b_1 d_0 d_1) fun r9 => ?_
        conv => lhs; whnf
        refine t_cond ?_ ?_
        · conv => lhs; whnf
          exact t_ret (by first | rfl | (simp only [ml]; done) | (simp only [ml]; rfl))
        · conv => lhs; whnf
          refine t_call (h_impl_isOn c_0 c_1 d_0 d_1 a_0 a_1) fun r10 => ?_
          conv => lhs; whnf
          refine t_cond ?_ ?_
          · conv => lhs; whnf
            exact t_ret (by first | rfl | (simp only [ml]; done) | (simp only [ml]; rfl))
          · conv => lhs; whnf
            refine t_call (h_impl_isOn c_0 c_1 d_0 d_1 b_0 b_1) fun r11 => ?_
            conv => lhs; whnf
            exact t_ret (by first | rfl | (simp only [ml]; done) | (simp only [ml]; rfl))
  · conv => lhs; whnf
    refine t_call (h_impl_isOn a_0 a_1 b_0 b_1 c_0 c_1) fun r12 => ?_
    conv => lhs; whnf
    refine t_cond ?_ ?_
    · conv => lhs; whnf
      exact t_ret (by first | rfl | (simp only [ml]; done) | (simp only [ml]; rfl))
    · conv => lhs; whnf
      refine t_call (h_impl_isOn a_0 a_1 b_0 b_1 d_0 d_1) fun r13 => ?_
      conv => lhs; whnf
      refine t_cond ?_ ?_
      · conv => lhs; whnf
        exact t_ret (by first | rfl | (simp only [ml]; done) | (simp only [ml]; rfl))
      · conv => lhs; whnf
        refine t_call (h_impl_isOn c_0 c_1 d_0 d_1 a_0 a_1) fun r14 => ?_
        conv => lhs; whnf
        refine t_cond ?_ ?_
        · conv => lhs; whnf
          exact t_ret (by first | rfl | (simp only [ml]; done) | (simp only [ml]; rfl))
        · conv => lhs; whnf
          refine t_call (h_impl_isOn c_0 c_1 d_0 d_1 b_0 b_1) fun r15 => ?_
          conv => lhs; whnf
          exact t_ret (by first | rfl | (simp only [ml]; done) | (simp only [ml]; rfl))


noncomputable def impl_IsPolygon_l1 (L : Nat) (κ0 : (List Pt) → Int → (List Pt) → Int → Int → Option Bool) (v0 : List Pt) (v3 : Int) (v17 : List Pt) (v18 : Int) (v19 : Int) (p : Pt) : Nat → Int → Option Bool
  | 0, _ => none
  | m1 + 1, v43 => bif ilt v43 v19 then (bif ieq (wr IntKind.i64 (iadd v43 1)) v19 then (impl_IsPolygon_l1 L κ0 v0 v3 v17 v18 v19 p m1 (wr IntKind.i64 (iadd v43 1))) else (bif ieq (wr IntKind.i64 (iadd v19 1)) v3 then (bif ieq v43 0 then (impl_IsPolygon_l1 L κ0 v0 v3 v17 v18 v19 p m1 (wr IntKind.i64 (iadd v43 1))) else (gbind (lget v0 v43) fun p1 => gbind (lget v0 (wr IntKind.i64 (iadd v43 1))) fun p2 => gbind (impl_at L v0 (wr IntKind.i64 (iadd v19 1))) fun r6 => gbind (impl_meet L (Pt.x p1) (Pt.y p1) (Pt.x p2) (Pt.y p2) (Pt.x p) (Pt.y p) (Prod.fst r6) (Prod.snd r6)) fun r7 => bif r7 then (some false) else (impl_IsPolygon_l1 L κ0 v0 v3 v17 v18 v19 p m1 (wr IntKind.i64 (iadd v43 1))))) else (gbind (lget v0 v43) fun p3 => gbind (lget v0 (wr IntKind.i64 (iadd v43 1))) fun p4 => gbind (impl_at L v0 (wr IntKind.i64 (iadd v19 1))) fun r8 => gbind (impl_meet L (Pt.x p3) (Pt.y p3) (Pt.x p4) (Pt.y p4) (Pt.x p) (Pt.y p) (Prod.fst r8) (Prod.snd r8)) fun r9 => bif r9 then (some false) else (impl_IsPolygon_l1 L κ0 v0 v3 v17 v18 v19 p m1 (wr IntKind.i64 (iadd v43 1)))))) else (κ0 v0 v3 v17 v18 (wr IntKind.i64 (iadd v19 1)))


noncomputable def impl_IsPolygon_l0 (L : Nat) : Nat → (List Pt) → Int → (List Pt) → Int → Int → Option Bool
  | 0, _, _, _, _, _ => none
  | m + 1, v0, v3, v17, v18, v19 => bif ilt v19 v18 then (gbind (lget v17 v19) fun p => bif ile 0 v19 && ile v19 (ilen (List.map ep v0)) then (gbind (slices_Contains_impl_Peg_impl_Peg L (lsub v0 0 v19) (Pt.x p) (Pt.y p)) fun r2 => bif r2 then (some false) else (gbind (impl_at L v0 (wr IntKind.i64 (isub v19 1))) fun r3 => gbind (impl_at L v0 (wr IntKind.i64 (iadd v19 1))) fun r4 => gbind (impl_turn L (Prod.fst r3) (Prod.snd r3) (Pt.x p) (Pt.y p) (Prod.fst r4) (Prod.snd r4)) fun r5 => bif ieq r5 0 then (some false) else (impl_IsPolygon_l1 L (impl_IsPolygon_l0 L m) v0 v3 v17 v18 v19 p L 0))) else (none)) else (some true)


noncomputable def impl_IsPolygon (L : Nat) (a : List Pt) : Option (Bool) := gbind (impl_within L (ilen (List.map ep a)) 3 10) fun r => bif !r then (some false) else (gbind (impl_arePegs L a) fun r1 => bif !r1 then (some false) else (impl_IsPolygon_l0 L L a (ilen (List.map ep a)) a (ilen (List.map ep a)) 0))


def impl_IsPolygon_ok (L : Nat) (C : CF) : Prop := ∀ (oa : Bool) (ca : Bool) (x_a : List AV) (a : List Pt) (_ : x_a = List.map ep a), C 56 ([.lst oa ca 2 x_a]) ([]) = Option.map (fun r : Bool => ((.bool r, []) : AV × List Blk)) (impl_IsPolygon L a)


theorem impl_IsPolygon_run (L : Nat) (C : CF) (h_impl_within : impl_within_ok L C) (h_impl_arePegs : impl_arePegs_ok L C) (h_slices_Contains_impl_Peg_impl_Peg : slices_Contains_impl_Peg_impl_Peg_ok L C) (h_impl_at : impl_at_ok L C) (h_impl_turn : impl_turn_ok L C) (h_impl_meet : impl_meet_ok L C) : ∀ (oa : Bool) (ca : Bool) (x_a : List AV) (a : List Pt) (_ : x_a = List.map ep a), run T C sh (keep 56) L Try.f56 ([.lst oa ca 2 x_a]) ([]) = Option.map (fun r : Bool => ((.bool r, []) : AV × List Blk)) (impl_IsPolygon L a) := by
  intro oa ca x_a a hx_a
  subst hx_a
  unfold impl_IsPolygon
  conv => lhs; whnf
  refine t_call (h_impl_within (ilen (List.map ep a)) 3 10) fun r => ?_
  conv => lhs; whnf
  refine t_cond ?_ ?_
  · conv => lhs; whnf
    exact t_ret (by first | rfl | (simp only [ml]; done) | (simp only [ml]; rfl))
  · conv => lhs; whnf
    refine t_call (h_impl_arePegs _ _ _ a (by first | rfl | (simp only [ml]; done) | (simp only [ml]; rfl))) fun r1 => ?_
    conv => lhs; whnf
    refine t_cond ?_ ?_
    · conv => lhs; whnf
      exact t_ret (by first | rfl | (simp only [ml]; done) | (simp only [ml]; rfl))
    · conv => lhs; whnf
      refine t_loop (fun (⟨v0, v3, v17, v18, v19⟩ : (List Pt) × Int × (List Pt) × Int × Int) => (AV.lst oa ca 2 (List.map ep v0) :: topA 2 (AV.int IntKind.i64 v3 :: topA 13 (AV.lst oa ca 2 (List.map ep v17) :: AV.int IntKind.i64 v18 :: AV.int IntKind.i64 v19 :: tops 57)), [])) (fun m (⟨v0, v3, v17, v18, v19⟩ : (List Pt) × Int × (List Pt) × Int × Int) => impl_IsPolygon_l0 L m v0 v3 v17 v18 v19) (fun _ => rfl) (fun m s rec hrec => ?_) L ((a, ilen (List.map ep a), a, ilen (List.map ep a), 0)) ?_ ?_
      rotate_left
      · first | rfl | (simp only [ml]; done) | (simp only [ml]; rfl)
      · first | rfl | (simp only [ml]; done) | (simp only [ml]; rfl)
      obtain ⟨v0, v3, v17, v18, v19⟩ := s
      show _ = Option.map _ (impl_IsPolygon_l0 L (m + 1) v0 v3 v17 v18 v19)
      rw [impl_IsPolygon_l0.eq_2]
      conv => lhs; whnf
      refine t_cond ?_ ?_
      · conv => lhs; whnf
        refine t_get (en := ep) (l := v17) (by first | rfl | (simp only [ml]; done) | (simp only [ml]; rfl)) fun p => ?_
        conv => lhs; whnf
        refine t_cond ?_ ?_
        · conv => lhs; whnf
          refine t_call (h_slices_Contains_impl_Peg_impl_Peg _ _ _ (lsub v0 0 v19) (by first | rfl | (simp only [ml]; done) | (simp only [ml]; rfl)) (Pt.x p) (Pt.y p)) fun r2 => ?_
          conv => lhs; whnf
          refine t_cond ?_ ?_
          · conv => lhs; whnf
            exact t_ret (by first | rfl | (simp only [ml]; done) | (simp only [ml]; rfl))
          · conv => lhs; whnf
            refine t_call (h_impl_at _ _ _ v0 (by first | rfl | (simp only [ml]; done) | (simp only [ml]; rfl)) (wr IntKind.i64 (isub v19 1))) fun r3 => ?_
            conv => lhs; whnf
            refine t_call (h_impl_at _ _ _ v0 (by first | rfl | (simp only [ml]; done) | (simp only [ml]; rfl)) (wr IntKind.i64 (iadd v19 1))) fun r4 => ?_
            conv => lhs; whnf
            refine t_call (h_impl_turn (Prod.fst r3) (Prod.snd r3) (Pt.x p) (Pt.y p) (Prod.fst r4) (Prod.snd r4)) fun r5 => ?_
            conv => lhs; whnf
            refine t_cond ?_ ?_
            · conv => lhs; whnf
              exact t_ret (by first | rfl | (simp only [ml]; done) | (simp only [ml]; rfl))
            · conv => lhs; whnf
              refine t_loop (fun (v43 : Int) => (AV.lst oa ca 2 (List.map ep v0) :: topA 2 (AV.int IntKind.i64 v3 :: AV.int IntKind.i64 v19 :: AV.ptr 0 0 0 2 :: topA 11 (AV.lst oa ca 2 (List.map ep v17) :: AV.int IntKind.i64 v18 :: AV.int IntKind.i64 v19 :: topA 22 (AV.int IntKind.i64 v19 :: AV.int IntKind.i64 v43 :: tops 33))), [Blk.box (AV.agg [AV.int IntKind.i64 (Pt.x p), AV.int IntKind.i64 (Pt.y p)])])) (fun m1 (v43 : Int) => impl_IsPolygon_l1 L (impl_IsPolygon_l0 L m) v0 v3 v17 v18 v19 p m1 v43) (fun _ => rfl) (fun m1 v43 rec1 hrec1 => ?_) L 0 ?_ ?_
              rotate_left
              · first | rfl | (simp only [ml]; done) | (simp only [ml]; rfl)
              · first | rfl | (simp only [ml]; done) | (simp only [ml]; rfl)
              show _ = Option.map _ (impl_IsPolygon_l1 L (impl_IsPolygon_l0 L m) v0 v3 v17 v18 v19 p (m1 + 1) v43)
              rw [impl_IsPolygon_l1.eq_2]
              conv => lhs; whnf
              refine t_cond ?_ ?_
              · conv => lhs; whnf
                refine t_cond ?_ ?_
                · conv => lhs; whnf
                  exact hrec1 (wr IntKind.i64 (iadd v43 1)) _ _ (by first | rfl | (simp only [ml]; done) | (simp only [ml]; rfl)) (by first | rfl | (simp only [ml]; done) | (simp only [ml]; rfl))
                · conv => lhs; whnf
                  refine t_cond ?_ ?_
                  · conv => lhs; whnf
                    refine t_cond ?_ ?_
                    · conv => lhs; whnf
                      exact hrec1 (wr IntKind.i64 (iadd v43 1)) _ _ (by first | rfl | (simp only [ml]; done) | (simp only [ml]; rfl)) (by first | rfl | (simp only [ml]; done) | (simp only [ml]; rfl))
                    · conv => lhs; whnf
                      refine t_get (en := ep) (l := v0) (by first | rfl | (simp only [ml]; done) | (simp only [ml]; rfl)) fun p1 => ?_
                      conv => lhs; whnf
                      refine t_get (en := ep) (l := v0) (by first | rfl | (simp only [ml]; done) | (simp only [ml]; rfl)) fun p2 => ?_
                      conv => lhs; whnf
                      refine t_call (h_impl_at _ _ _ v0 (by first | rfl | (simp only [ml]; done) | (simp only [ml]; rfl)) (wr IntKind.i64 (iadd v19 1))) fun r6 => ?_
                      conv => lhs; whnf
                      refine t_call (h_impl_meet (Pt.x p1) (Pt.y p1) (Pt.x p2) (Pt.y p2) (Pt.x p) (Pt.y p) (Prod.fst r6) (Prod.snd r6)) fun r7 => ?_
                      conv => lhs; whnf
                      refine t_cond ?_ ?_
                      · conv => lhs; whnf
                        exact t_ret (by first | rfl | (simp only [ml]; done) | (simp only [ml]; rfl))
                      · conv => lhs; whnf
                        exact hrec1 (wr IntKind.i64 (iadd v43 1)) _ _ (by first | rfl | (simp only [ml]; done) | (simp only [ml]; rfl)) (by first | rfl | (simp only [ml]; done) | (simp only [ml]; rfl))
                  · conv => lhs; whnf
                    refine t_get (en := ep) (l := v0) (by first | rfl | (simp only [ml]; done) | (simp only [ml]; rfl)) fun p3 => ?_
                    conv => lhs; whnf
                    refine t_get (en := ep) (l := v0) (by first | rfl | (simp only [ml]; done) | (simp only [ml]; rfl)) fun p4 => ?_
                    conv => lhs; whnf
                    refine t_call (h_impl_at _ _ _ v0 (by first | rfl | (simp only [ml]; done) | (simp only [ml]; rfl)) (wr IntKind.i64 (iadd v19 1))) fun r8 => ?_
                    conv => lhs; whnf
                    refine t_call (h_impl_meet (Pt.x p3) (Pt.y p3) (Pt.x p4) (Pt.y p4) (Pt.x p) (Pt.y p) (Prod.fst r8) (Prod.snd r8)) fun r9 => ?_
                    conv => lhs; whnf
                    refine t_cond ?_ ?_
                    · conv => lhs; whnf
                      exact t_ret (by first | rfl | (simp only [ml]; done) | (simp only [ml]; rfl))
                    · conv => lhs; whnf
                      exact hrec1 (wr IntKind.i64 (iadd v43 1)) _ _ (by first | rfl | (simp only [ml]; done) | (simp only [ml]; rfl)) (by first | rfl | (simp only [ml]; done) | (simp only [ml]; rfl))
              · conv => lhs; whnf
                exact hrec ((v0, v3, v17, v18, wr IntKind.i64 (iadd v19 1))) _ _ (by first | rfl | (simp only [ml]; done) | (simp only [ml]; rfl)) (by first | rfl | (simp only [ml]; done) | (simp only [ml]; rfl))
        · conv => lhs; whnf
          exact t_none
      · conv => lhs; whnf
        exact t_ret (by first | rfl | (simp only [ml]; done) | (simp only [ml]; rfl))


noncomputable def impl_size (L : Nat) (a : Int) : Option (Int) := some (imax a (wr IntKind.i64 (isub 0 a)))


def impl_size_ok (L : Nat) (C : CF) : Prop := ∀ (a : Int), C 147 ([.int .i64 a]) ([]) = Option.map (fun r : Int => ((.int .i64 r, []) : AV × List Blk)) (impl_size L a)


theorem impl_size_run (L : Nat) (C : CF) : ∀ (a : Int), run T C sh (keep 147) L Try.f147 ([.int .i64 a]) ([]) = Option.map (fun r : Int => ((.int .i64 r, []) : AV × List Blk)) (impl_size L a) := by
  intro a
  unfold impl_size
  conv => lhs; whnf
  exact t_ret (by first | rfl | (simp only [ml]; done) | (simp only [ml]; rfl))


noncomputable def impl_divisor_l0 (L : Nat) : Nat → Int → Int → Option Int
  | 0, _, _ => none
  | m + 1, v0, v1 => bif !ieq v1 0 then (bif ieq v1 0 then (none) else (impl_divisor_l0 L m v1 (irem v0 v1))) else (gbind (impl_size L v0) fun r => some r)


noncomputable def impl_divisor (L : Nat) (a : Int) (b : Int) : Option (Int) := impl_divisor_l0 L L a b


def impl_divisor_ok (L : Nat) (C : CF) : Prop := ∀ (a : Int) (b : Int), C 194 ([.int .i64 a, .int .i64 b]) ([]) = Option.map (fun r : Int => ((.int .i64 r, []) : AV × List Blk)) (impl_divisor L a b)


theorem impl_divisor_run (L : Nat) (C : CF) (h_impl_size : impl_size_ok L C) : ∀ (a : Int) (b : Int), run T C sh (keep 194) L Try.f194 ([.int .i64 a, .int .i64 b]) ([]) = Option.map (fun r : Int => ((.int .i64 r, []) : AV × List Blk)) (impl_divisor L a b) := by
  intro a b
  unfold impl_divisor
  conv => lhs; whnf
  refine t_loop (fun (⟨v0, v1⟩ : Int × Int) => (AV.int IntKind.i64 v0 :: AV.int IntKind.i64 v1 :: tops 11, [])) (fun m (⟨v0, v1⟩ : Int × Int) => impl_divisor_l0 L m v0 v1) (fun _ => rfl) (fun m s rec hrec => ?_) L ((a, b)) ?_ ?_
  rotate_left
  · first | rfl | (simp only [ml]; done) | (simp only [ml]; rfl)
  · first | rfl | (simp only [ml]; done) | (simp only [ml]; rfl)
  obtain ⟨v0, v1⟩ := s
  show _ = Option.map _ (impl_divisor_l0 L (m + 1) v0 v1)
  rw [impl_divisor_l0.eq_2]
  conv => lhs; whnf
  refine t_cond ?_ ?_
  · conv => lhs; whnf
    refine t_cond ?_ ?_
    · conv => lhs; whnf
      exact t_none
    · conv => lhs; whnf
      exact hrec ((v1, irem v0 v1)) _ _ (by first | rfl | (simp only [ml]; done) | (simp only [ml]; rfl)) (by first | rfl | (simp only [ml]; done) | (simp only [ml]; rfl))
  · conv => lhs; whnf
    refine t_call (h_impl_size v0) fun r => ?_
    conv => lhs; whnf
    exact t_ret (by first | rfl | (simp only [ml]; done) | (simp only [ml]; rfl))


noncomputable def cmp_isNaN_int (L : Nat) (a : Int) : Option (Bool) := some (!ieq a a)


def cmp_isNaN_int_ok (L : Nat) (C : CF) : Prop := ∀ (a : Int), C 263 ([.int .i64 a]) ([]) = Option.map (fun r : Bool => ((.bool r, []) : AV × List Blk)) (cmp_isNaN_int L a)


theorem cmp_isNaN_int_run (L : Nat) (C : CF) : ∀ (a : Int), run T C sh (keep 263) L Try.f263 ([.int .i64 a]) ([]) = Option.map (fun r : Bool => ((.bool r, []) : AV × List Blk)) (cmp_isNaN_int L a) := by
  intro a
  unfold cmp_isNaN_int
  conv => lhs; whnf
  exact t_ret (by first | rfl | (simp only [ml]; done) | (simp only [ml]; rfl))


noncomputable def cmp_Compare_int (L : Nat) (a : Int) (b : Int) : Option (Int) := gbind (cmp_isNaN_int L a) fun r => gbind (cmp_isNaN_int L b) fun r1 => bif r then (bif r1 then (some 0) else (some (-1))) else (bif r1 then (some 1) else (bif ilt a b then (some (-1)) else (bif ilt b a then (some 1) else (some 0))))


def cmp_Compare_int_ok (L : Nat) (C : CF) : Prop := ∀ (a : Int) (b : Int), C 255 ([.int .i64 a, .int .i64 b]) ([]) = Option.map (fun r : Int => ((.int .i64 r, []) : AV × List Blk)) (cmp_Compare_int L a b)


theorem cmp_Compare_int_run (L : Nat) (C : CF) (h_cmp_isNaN_int : cmp_isNaN_int_ok L C) : ∀ (a : Int) (b : Int), run T C sh (keep 255) L Try.f255 ([.int .i64 a, .int .i64 b]) ([]) = Option.map (fun r : Int => ((.int .i64 r, []) : AV × List Blk)) (cmp_Compare_int L a b) := by
  intro a b
  unfold cmp_Compare_int
  conv => lhs; whnf
  refine t_call (h_cmp_isNaN_int a) fun r => ?_
  conv => lhs; whnf
  refine t_call (h_cmp_isNaN_int b) fun r1 => ?_
  conv => lhs; whnf
  refine t_cond ?_ ?_
  · conv => lhs; whnf
    refine t_cond ?_ ?_
    · conv => lhs; whnf
      exact t_ret (by first | rfl | (simp only [ml]; done) | (simp only [ml]; rfl))
    · conv => lhs; whnf
      exact t_ret (by first | rfl | (simp only [ml]; done) | (simp only [ml]; rfl))
  · conv => lhs; whnf
    refine t_cond ?_ ?_
    · conv => lhs; whnf
      exact t_ret (by first | rfl | (simp only [ml]; done) | (simp only [ml]; rfl))
    · conv => lhs; whnf
      refine t_cond ?_ ?_
      · conv => lhs; whnf
        exact t_ret (by first | rfl | (simp only [ml]; done) | (simp only [ml]; rfl))
      · conv => lhs; whnf
        refine t_cond ?_ ?_
        · conv => lhs; whnf
          exact t_ret (by first | rfl | (simp only [ml]; done) | (simp only [ml]; rfl))
        · conv => lhs; whnf
          exact t_ret (by first | rfl | (simp only [ml]; done) | (simp only [ml]; rfl))


noncomputable def cmp_Or_int_l0 (L : Nat) (a : List Int) : Nat → Int → Option Int
  | 0, _ => none
  | m + 1, v8 => bif ilt v8 (ilen (List.map eI a)) then (gbind (lget a v8) fun p => bif !ieq p 0 then (some p) else (cmp_Or_int_l0 L a m (wr IntKind.i64 (iadd v8 1)))) else (some 0)


noncomputable def cmp_Or_int (L : Nat) (a : List Int) : Option (Int) := cmp_Or_int_l0 L a L 0


def cmp_Or_int_ok (L : Nat) (C : CF) : Prop := ∀ (oa : Bool) (ca : Bool) (x_a : List AV) (a : List Int) (_ : x_a = List.map eI a), C 262 ([.lst oa ca 1 x_a]) ([]) = Option.map (fun r : Int => ((.int .i64 r, []) : AV × List Blk)) (cmp_Or_int L a)


theorem cmp_Or_int_run (L : Nat) (C : CF) : ∀ (oa : Bool) (ca : Bool) (x_a : List AV) (a : List Int) (_ : x_a = List.map eI a), run T C sh (keep 262) L Try.f262 ([.lst oa ca 1 x_a]) ([]) = Option.map (fun r : Int => ((.int .i64 r, []) : AV × List Blk)) (cmp_Or_int L a) := by
  intro oa ca x_a a hx_a
  subst hx_a
  unfold cmp_Or_int
  conv => lhs; whnf
  refine t_loop (fun (v8 : Int) => (topA 3 (AV.int IntKind.i64 0 :: topA 2 (AV.lst oa ca 1 (List.map eI a) :: AV.int IntKind.i64 (ilen (List.map eI a)) :: AV.int IntKind.i64 v8 :: tops 9)), [])) (fun m (v8 : Int) => cmp_Or_int_l0 L a m v8) (fun _ => rfl) (fun m v8 rec hrec => ?_) L 0 ?_ ?_
  rotate_left
  · first | rfl | (simp only [ml]; done) | (simp only [ml]; rfl)
  · first | rfl | (simp only [ml]; done) | (simp only [ml]; rfl)
  show _ = Option.map _ (cmp_Or_int_l0 L a (m + 1) v8)
  rw [cmp_Or_int_l0.eq_2]
  conv => lhs; whnf
  refine t_cond ?_ ?_
  · conv => lhs; whnf
    refine t_get (en := eI) (l := a) (by first | rfl | (simp only [ml]; done) | (simp only [ml]; rfl)) fun p => ?_
    conv => lhs; whnf
    refine t_cond ?_ ?_
    · conv => lhs; whnf
      exact t_ret (by first | rfl | (simp only [ml]; done) | (simp only [ml]; rfl))
    · conv => lhs; whnf
      exact hrec (wr IntKind.i64 (iadd v8 1)) _ _ (by first | rfl | (simp only [ml]; done) | (simp only [ml]; rfl)) (by first | rfl | (simp only [ml]; done) | (simp only [ml]; rfl))
  · conv => lhs; whnf
    exact t_ret (by first | rfl | (simp only [ml]; done) | (simp only [ml]; rfl))


noncomputable def impl_comparePegs (L : Nat) (a_0 : Int) (a_1 : Int) (b_0 : Int) (b_1 : Int) : Option (Int) := gbind (cmp_Compare_int L a_0 b_0) fun r => gbind (cmp_Compare_int L a_1 b_1) fun r1 => gbind (cmp_Or_int L (r :: (r1 :: []))) fun r2 => some r2


def impl_comparePegs_ok (L : Nat) (C : CF) : Prop := ∀ (a_0 : Int) (a_1 : Int) (b_0 : Int) (b_1 : Int), C 251 ([.agg [.int .i64 a_0, .int .i64 a_1], .agg [.int .i64 b_0, .int .i64 b_1]]) ([]) = Option.map (fun r : Int => ((.int .i64 r, []) : AV × List Blk)) (impl_comparePegs L a_0 a_1 b_0 b_1)


theorem impl_comparePegs_run (L : Nat) (C : CF) (h_cmp_Compare_int : cmp_Compare_int_ok L C) (h_cmp_Or_int : cmp_Or_int_ok L C) : ∀ (a_0 : Int) (a_1 : Int) (b_0 : Int) (b_1 : Int), run T C sh (keep 251) L Try.f251 ([.agg [.int .i64 a_0, .int .i64 a_1], .agg [.int .i64 b_0, .int .i64 b_1]]) ([]) = Option.map (fun r : Int => ((.int .i64 r, []) : AV × List Blk)) (impl_comparePegs L a_0 a_1 b_0 b_1) := by
  intro a_0 a_1 b_0 b_1
  unfold impl_comparePegs
  conv => lhs; whnf
  refine t_call (h_cmp_Compare_int a_0 b_0) fun r => ?_
  conv => lhs; whnf
  refine t_call (h_cmp_Compare_int a_1 b_1) fun r1 => ?_
  conv => lhs; whnf
  refine t_call (h_cmp_Or_int _ _ _ (r :: (r1 :: [])) (by first | rfl | (simp only [ml]; done) | (simp only [ml]; rfl))) fun r2 => ?_
  conv => lhs; whnf
  exact t_ret (by first | rfl | (simp only [ml]; done) | (simp only [ml]; rfl))


noncomputable def laws_eqPeg (L : Nat) (a_0 : Int) (a_1 : Int) (b_0 : Int) (b_1 : Int) : Option (Bool) := bif !ieq a_0 b_0 then (some false) else (bif !ieq a_1 b_1 then (some false) else (some true))


def laws_eqPeg_ok (L : Nat) (C : CF) : Prop := ∀ (a_0 : Int) (a_1 : Int) (b_0 : Int) (b_1 : Int), C 115 ([.agg [.int .i64 a_0, .int .i64 a_1], .agg [.int .i64 b_0, .int .i64 b_1]]) ([]) = Option.map (fun r : Bool => ((.bool r, []) : AV × List Blk)) (laws_eqPeg L a_0 a_1 b_0 b_1)


theorem laws_eqPeg_run (L : Nat) (C : CF) : ∀ (a_0 : Int) (a_1 : Int) (b_0 : Int) (b_1 : Int), run T C sh (keep 115) L Try.f115 ([.agg [.int .i64 a_0, .int .i64 a_1], .agg [.int .i64 b_0, .int .i64 b_1]]) ([]) = Option.map (fun r : Bool => ((.bool r, []) : AV × List Blk)) (laws_eqPeg L a_0 a_1 b_0 b_1) := by
  intro a_0 a_1 b_0 b_1
  unfold laws_eqPeg
  conv => lhs; whnf
  refine t_cond ?_ ?_
  · conv => lhs; whnf
    exact t_ret (by first | rfl | (simp only [ml]; done) | (simp only [ml]; rfl))
  · conv => lhs; whnf
    refine t_cond ?_ ?_
    · conv => lhs; whnf
      exact t_ret (by first | rfl | (simp only [ml]; done) | (simp only [ml]; rfl))
    · conv => lhs; whnf
      exact t_ret (by first | rfl | (simp only [ml]; done) | (simp only [ml]; rfl))


noncomputable def laws_eqPegS_l0 (L : Nat) (a : List Pt) (b : List Pt) : Nat → Int → Option Bool
  | 0, _ => none
  | m + 1, v5 => bif ilt v5 (ilen (List.map ep a)) then (gbind (lget a v5) fun p => gbind (lget b v5) fun p1 => gbind (laws_eqPeg L (Pt.x p) (Pt.y p) (Pt.x p1) (Pt.y p1)) fun r => bif !r then (some false) else (laws_eqPegS_l0 L a b m (wr IntKind.i64 (iadd v5 1)))) else (some true)


noncomputable def laws_eqPegS (L : Nat) (a : List Pt) (b : List Pt) : Option (Bool) := bif !ieq (ilen (List.map ep a)) (ilen (List.map ep b)) then (some false) else (laws_eqPegS_l0 L a b L 0)


def laws_eqPegS_ok (L : Nat) (C : CF) : Prop := ∀ (oa : Bool) (ca : Bool) (x_a : List AV) (a : List Pt) (_ : x_a = List.map ep a) (ob : Bool) (cb : Bool) (x_b : List AV) (b : List Pt) (_ : x_b = List.map ep b), C 40 ([.lst oa ca 2 x_a, .lst ob cb 2 x_b]) ([]) = Option.map (fun r : Bool => ((.bool r, []) : AV × List Blk)) (laws_eqPegS L a b)


theorem laws_eqPegS_run (L : Nat) (C : CF) (h_laws_eqPeg : laws_eqPeg_ok L C) : ∀ (oa : Bool) (ca : Bool) (x_a : List AV) (a : List Pt) (_ : x_a = List.map ep a) (ob : Bool) (cb : Bool) (x_b : List AV) (b : List Pt) (_ : x_b = List.map ep b), run T C sh (keep 40) L Try.f40 ([.lst oa ca 2 x_a, .lst ob cb 2 x_b]) ([]) = Option.map (fun r : Bool => ((.bool r, []) : AV × List Blk)) (laws_eqPegS L a b) := by
  intro oa ca x_a a hx_a ob cb x_b b hx_b
  subst hx_a
  subst hx_b
  unfold laws_eqPegS
  conv => lhs; whnf
  refine t_cond ?_ ?_
  · conv => lhs; whnf
    exact t_ret (by first | rfl | (simp only [ml]; done) | (simp only [ml]; rfl))
  · conv => lhs; whnf
    refine t_loop (fun (v5 : Int) => (AV.lst oa ca 2 (List.map ep a) :: AV.lst ob cb 2 (List.map ep b) :: topA 3 (AV.int IntKind.i64 v5 :: tops 21), [])) (fun m (v5 : Int) => laws_eqPegS_l0 L a b m v5) (fun _ => rfl) (fun m v5 rec hrec => ?_) L 0 ?_ ?_
    rotate_left
    · first | rfl | (simp only [ml]; done) | (simp only [ml]; rfl)
    · first | rfl | (simp only [ml]; done) | (simp only [ml]; rfl)
    show _ = Option.map _ (laws_eqPegS_l0 L a b (m + 1) v5)
    rw [laws_eqPegS_l0.eq_2]
    conv => lhs; whnf
    refine t_cond ?_ ?_
    · conv => lhs; whnf
      refine t_get (en := ep) (l := a) (by first | rfl | (simp only [ml]; done) | (simp only [ml]; rfl)) fun p => ?_
      conv => lhs; whnf
      refine t_get (en := ep) (l := b) (by first | rfl | (simp only [ml]; done) | (simp only [ml]; rfl)) fun p1 => ?_
      conv => lhs; whnf
      refine t_call (h_laws_eqPeg (Pt.x p) (Pt.y p) (Pt.x p1) (Pt.y p1)) fun r => ?_
      conv => lhs; whnf
      refine t_cond ?_ ?_
      · conv => lhs; whnf
        exact t_ret (by first | rfl | (simp only [ml]; done) | (simp only [ml]; rfl))
      · conv => lhs; whnf
        exact hrec (wr IntKind.i64 (iadd v5 1)) _ _ (by first | rfl | (simp only [ml]; done) | (simp only [ml]; rfl)) (by first | rfl | (simp only [ml]; done) | (simp only [ml]; rfl))
    · conv => lhs; whnf
      exact t_ret (by first | rfl | (simp only [ml]; done) | (simp only [ml]; rfl))


noncomputable def slices_Clone_impl_Peg_impl_Peg (L : Nat) (a : List Pt) : Option ((List Pt)) := bif ieq (ilen (List.map ep a)) 0 then (none) else (bif fits (iadd (ilen ([] : List AV)) (ilen (List.map ep a))) 16 then (some (lcat [] a)) else (none))


def slices_Clone_impl_Peg_impl_Peg_ok (L : Nat) (C : CF) : Prop := ∀ (oa : Bool) (ca : Bool) (x_a : List AV) (a : List Pt) (_ : x_a = List.map ep a), C 249 ([.lst oa ca 2 x_a]) ([]) = Option.map (fun r : (List Pt) => ((.frs 2 (List.map ep r), []) : AV × List Blk)) (slices_Clone_impl_Peg_impl_Peg L a)


theorem slices_Clone_impl_Peg_impl_Peg_run (L : Nat) (C : CF) : ∀ (oa : Bool) (ca : Bool) (x_a : List AV) (a : List Pt) (_ : x_a = List.map ep a), run T C sh (keep 249) L Try.f249 ([.lst oa ca 2 x_a]) ([]) = Option.map (fun r : (List Pt) => ((.frs 2 (List.map ep r), []) : AV × List Blk)) (slices_Clone_impl_Peg_impl_Peg L a) := by
  intro oa ca x_a a hx_a
  subst hx_a
  unfold slices_Clone_impl_Peg_impl_Peg
  conv => lhs; whnf
  refine t_cond ?_ ?_
  · conv => lhs; whnf
    exact t_none
  · conv => lhs; whnf
    refine t_cond ?_ ?_
    · conv => lhs; whnf
      exact t_ret (by first | rfl | (simp only [ml]; done) | (simp only [ml]; rfl))
    · conv => lhs; whnf
      exact t_none


-- EXT slices_SortFunc_impl_Peg_impl_Peg
noncomputable def slices_SortFunc_impl_Peg_impl_Peg (L : Nat) (a : List Pt) : Option (List Pt) := sortP a

def slices_SortFunc_impl_Peg_impl_Peg_ok (L : Nat) (C : CF) : Prop := ∀ (c1 : Bool) (x_a : List AV) (a : List Pt) (_ : x_a = List.map ep a), C 250 ([.own 0 2 none c1, .fn 251 [] []]) ([.rows .live 2 x_a]) = Option.map (fun r : (List Pt) => ((.tup [], [.rows .live 2 (List.map ep r)]) : AV × List Blk)) (slices_SortFunc_impl_Peg_impl_Peg L a)


noncomputable def impl_sorted (L : Nat) (a : List Pt) : Option ((List Pt)) := gbind (slices_Clone_impl_Peg_impl_Peg L a) fun r => gbind (slices_SortFunc_impl_Peg_impl_Peg L r) fun r1 => some r1


def impl_sorted_ok (L : Nat) (C : CF) : Prop := ∀ (oa : Bool) (ca : Bool) (x_a : List AV) (a : List Pt) (_ : x_a = List.map ep a), C 218 ([.lst oa ca 2 x_a]) ([]) = Option.map (fun r : (List Pt) => ((.frs 2 (List.map ep r), []) : AV × List Blk)) (impl_sorted L a)


theorem impl_sorted_run (L : Nat) (C : CF) (h_slices_Clone_impl_Peg_impl_Peg : slices_Clone_impl_Peg_impl_Peg_ok L C) (h_slices_SortFunc_impl_Peg_impl_Peg : slices_SortFunc_impl_Peg_impl_Peg_ok L C) : ∀ (oa : Bool) (ca : Bool) (x_a : List AV) (a : List Pt) (_ : x_a = List.map ep a), run T C sh (keep 218) L Try.f218 ([.lst oa ca 2 x_a]) ([]) = Option.map (fun r : (List Pt) => ((.frs 2 (List.map ep r), []) : AV × List Blk)) (impl_sorted L a) := by
  intro oa ca x_a a hx_a
  subst hx_a
  unfold impl_sorted
  conv => lhs; whnf
  refine t_call (h_slices_Clone_impl_Peg_impl_Peg _ _ _ a (by first | rfl | (simp only [ml]; done) | (simp only [ml]; rfl))) fun r => ?_
  conv => lhs; whnf
  refine t_call (h_slices_SortFunc_impl_Peg_impl_Peg _ _ r (by first | rfl | (simp only [ml]; done) | (simp only [ml]; rfl))) fun r1 => ?_
  conv => lhs; whnf
  exact t_ret (by first | rfl | (simp only [ml]; done) | (simp only [ml]; rfl))


noncomputable def spec_wiDirection (L : Nat) (a : Int) (b : Int) : Option (Bool) := gbind (spec_l1In L a (-200) 200) fun r => bif r then (gbind (spec_l1In L b (-200) 200) fun r1 => bif r1 then (gbind (spec_pgCommon L a b) fun r2 => some (ieq r2 1)) else (some false)) else (some false)


def spec_wiDirection_ok (L : Nat) (C : CF) : Prop := ∀ (a : Int) (b : Int), C 247 ([.int .i64 a, .int .i64 b]) ([]) = Option.map (fun r : Bool => ((.bool r, []) : AV × List Blk)) (spec_wiDirection L a b)


theorem spec_wiDirection_run (L : Nat) (C : CF) (h_spec_l1In : spec_l1In_ok L C) (h_spec_pgCommon : spec_pgCommon_ok L C) : ∀ (a : Int) (b : Int), run T C sh (keep 247) L Try.f247 ([.int .i64 a, .int .i64 b]) ([]) = Option.map (fun r : Bool => ((.bool r, []) : AV × List Blk)) (spec_wiDirection L a b) := by
  intro a b
  unfold spec_wiDirection
  conv => lhs; whnf
  refine t_call (h_spec_l1In a (-200) 200) fun r => ?_
  conv => lhs; whnf
  refine t_cond ?_ ?_
  · conv => lhs; whnf
    refine t_call (h_spec_l1In b (-200) 200) fun r1 => ?_
    conv => lhs; whnf
    refine t_cond ?_ ?_
    · conv => lhs; whnf
      refine t_call (h_spec_pgCommon a b) fun r2 => ?_
      conv => lhs; whnf
      exact t_ret (by first | rfl | (simp only [ml]; done) | (simp only [ml]; rfl))
    · conv => lhs; whnf
      exact t_ret (by first | rfl | (simp only [ml]; done) | (simp only [ml]; rfl))
  · conv => lhs; whnf
    exact t_ret (by first | rfl | (simp only [ml]; done) | (simp only [ml]; rfl))


noncomputable def spec_wiAsked (L : Nat) (a : List Pt) (b : Int) (c : Int) : Option (Bool) := gbind (spec_pgGood L a) fun r => bif r then (gbind (spec_wiDirection L b c) fun r1 => some r1) else (some false)


def spec_wiAsked_ok (L : Nat) (C : CF) : Prop := ∀ (oa : Bool) (ca : Bool) (x_a : List AV) (a : List Pt) (_ : x_a = List.map ep a) (b : Int) (c : Int), C 213 ([.lst oa ca 2 x_a, .int .i64 b, .int .i64 c]) ([]) = Option.map (fun r : Bool => ((.bool r, []) : AV × List Blk)) (spec_wiAsked L a b c)


theorem spec_wiAsked_run (L : Nat) (C : CF) (h_spec_pgGood : spec_pgGood_ok L C) (h_spec_wiDirection : spec_wiDirection_ok L C) : ∀ (oa : Bool) (ca : Bool) (x_a : List AV) (a : List Pt) (_ : x_a = List.map ep a) (b : Int) (c : Int), run T C sh (keep 213) L Try.f213 ([.lst oa ca 2 x_a, .int .i64 b, .int .i64 c]) ([]) = Option.map (fun r : Bool => ((.bool r, []) : AV × List Blk)) (spec_wiAsked L a b c) := by
  intro oa ca x_a a hx_a b c
  subst hx_a
  unfold spec_wiAsked
  conv => lhs; whnf
  refine t_call (h_spec_pgGood _ _ _ a (by first | rfl | (simp only [ml]; done) | (simp only [ml]; rfl))) fun r => ?_
  conv => lhs; whnf
  refine t_cond ?_ ?_
  · conv => lhs; whnf
    refine t_call (h_spec_wiDirection b c) fun r1 => ?_
    conv => lhs; whnf
    exact t_ret (by first | rfl | (simp only [ml]; done) | (simp only [ml]; rfl))
  · conv => lhs; whnf
    exact t_ret (by first | rfl | (simp only [ml]; done) | (simp only [ml]; rfl))


noncomputable def spec_l1Least (L : Nat) (a : Int) (b : Int) : Option (Int) := bif ilt a b then (some a) else (some b)


def spec_l1Least_ok (L : Nat) (C : CF) : Prop := ∀ (a : Int) (b : Int), C 201 ([.int .i64 a, .int .i64 b]) ([]) = Option.map (fun r : Int => ((.int .i64 r, []) : AV × List Blk)) (spec_l1Least L a b)


theorem spec_l1Least_run (L : Nat) (C : CF) : ∀ (a : Int) (b : Int), run T C sh (keep 201) L Try.f201 ([.int .i64 a, .int .i64 b]) ([]) = Option.map (fun r : Int => ((.int .i64 r, []) : AV × List Blk)) (spec_l1Least L a b) := by
  intro a b
  unfold spec_l1Least
  conv => lhs; whnf
  refine t_cond ?_ ?_
  · conv => lhs; whnf
    exact t_ret (by first | rfl | (simp only [ml]; done) | (simp only [ml]; rfl))
  · conv => lhs; whnf
    exact t_ret (by first | rfl | (simp only [ml]; done) | (simp only [ml]; rfl))


noncomputable def spec_wiRange_l0 (L : Nat) (a : List Pt) (b : Int) (c : Int) : Nat → Int → Int → Int → Option (Int × Int)
  | 0, _, _, _ => none
  | m + 1, v8, v9, v29 => bif ilt v29 (ilen (List.map ep a)) then (gbind (lget a v29) fun p2 => gbind (spec_l1Least L v8 (wr IntKind.i64 (iadd (wr IntKind.i64 (imul b (Pt.x p2))) (wr IntKind.i64 (imul c (Pt.y p2)))))) fun r => gbind (spec_l1Most L v9 (wr IntKind.i64 (iadd (wr IntKind.i64 (imul b (Pt.x p2))) (wr IntKind.i64 (imul c (Pt.y p2)))))) fun r1 => spec_wiRange_l0 L a b c m r r1 (wr IntKind.i64 (iadd v29 1))) else (some ((v8, v9)))


noncomputable def spec_wiRange (L : Nat) (a : List Pt) (b : Int) (c : Int) : Option (Int × Int) := gbind (lget a 0) fun p => gbind (lget a 0) fun p1 => spec_wiRange_l0 L a b c L (wr IntKind.i64 (iadd (wr IntKind.i64 (imul b (Pt.x p))) (wr IntKind.i64 (imul c (Pt.y p1))))) (wr IntKind.i64 (iadd (wr IntKind.i64 (imul b (Pt.x p))) (wr IntKind.i64 (imul c (Pt.y p1))))) 0


def spec_wiRange_ok (L : Nat) (C : CF) : Prop := ∀ (oa : Bool) (ca : Bool) (x_a : List AV) (a : List Pt) (_ : x_a = List.map ep a) (b : Int) (c : Int), C 214 ([.lst oa ca 2 x_a, .int .i64 b, .int .i64 c]) ([]) = Option.map (fun r : Int × Int => ((.tup [.int .i64 (r.1), .int .i64 (r.2)], []) : AV × List Blk)) (spec_wiRange L a b c)


theorem spec_wiRange_run (L : Nat) (C : CF) (h_spec_l1Most : spec_l1Most_ok L C) (h_spec_l1Least : spec_l1Least_ok L C) : ∀ (oa : Bool) (ca : Bool) (x_a : List AV) (a : List Pt) (_ : x_a = List.map ep a) (b : Int) (c : Int), run T C sh (keep 214) L Try.f214 ([.lst oa ca 2 x_a, .int .i64 b, .int .i64 c]) ([]) = Option.map (fun r : Int × Int => ((.tup [.int .i64 (r.1), .int .i64 (r.2)], []) : AV × List Blk)) (spec_wiRange L a b c) := by
  intro oa ca x_a a hx_a b c
  subst hx_a
  unfold spec_wiRange
  conv => lhs; whnf
  refine t_get (en := ep) (l := a) (by first | rfl | (simp only [ml]; done) | (simp only [ml]; rfl)) fun p => ?_
  conv => lhs; whnf
  refine t_get (en := ep) (l := a) (by first | rfl | (simp only [ml]; done) | (simp only [ml]; rfl)) fun p1 => ?_
  conv => lhs; whnf
  refine t_loop (fun (⟨v8, v9, v29⟩ : Int × Int × Int) => (AV.top :: AV.int IntKind.i64 b :: AV.int IntKind.i64 c :: topA 5 (AV.int IntKind.i64 v8 :: AV.int IntKind.i64 v9 :: topA 17 (AV.lst oa ca 2 (List.map ep a) :: AV.int IntKind.i64 (ilen (List.map ep a)) :: AV.int IntKind.i64 v29 :: tops 21)), [])) (fun m (⟨v8, v9, v29⟩ : Int × Int × Int) => spec_wiRange_l0 L a b c m v8 v9 v29) (fun _ => rfl) (fun m s rec hrec => ?_) L ((wr IntKind.i64 (iadd (wr IntKind.i64 (imul b (Pt.x p))) (wr IntKind.i64 (imul c (Pt.y p1)))), wr IntKind.i64 (iadd (wr IntKind.i64 (imul b (Pt.x p))) (wr IntKind.i64 (imul c (Pt.y p1)))), 0)) ?_ ?_
  rotate_left
  · first | rfl | (simp only [ml]; done) | (simp only [ml]; rfl)
  · first | rfl | (simp only [ml]; done) | (simp only [ml]; rfl)
  obtain ⟨v8, v9, v29⟩ := s
  show _ = Option.map _ (spec_wiRange_l0 L a b c (m + 1) v8 v9 v29)
  rw [spec_wiRange_l0.eq_2]
  conv => lhs; whnf
  refine t_cond ?_ ?_
  · conv => lhs; whnf
    refine t_get (en := ep) (l := a) (by first | rfl | (simp only [ml]; done) | (simp only [ml]; rfl)) fun p2 => ?_
    conv => lhs; whnf
    refine t_call (h_spec_l1Least v8 (wr IntKind.i64 (iadd (wr IntKind.i64 (imul b (Pt.x p2))) (wr IntKind.i64 (imul c (Pt.y p2)))))) fun r => ?_
    conv => lhs; whnf
    refine t_call (h_spec_l1Most v9 (wr IntKind.i64 (iadd (wr IntKind.i64 (imul b (Pt.x p2))) (wr IntKind.i64 (imul c (Pt.y p2)))))) fun r1 => ?_
    conv => lhs; whnf
    exact hrec ((r, r1, wr IntKind.i64 (iadd v29 1))) _ _ (by first | rfl | (simp only [ml]; done) | (simp only [ml]; rfl)) (by first | rfl | (simp only [ml]; done) | (simp only [ml]; rfl))
  · conv => lhs; whnf
    exact t_ret (by first | rfl | (simp only [ml]; done) | (simp only [ml]; rfl))


noncomputable def spec_SupportOf_l1 (L : Nat) (κ0 : Int → Int → Int → (List Pt) → (List Pt) → Int → Int → Option ((List Pt) × Bool)) (v1 : Int) (v2 : Int) (v9 : Int) (v10 : List Pt) (v27 : List Pt) (v28 : Int) (v29 : Int) (p : Pt) : Nat → Int → Option ((List Pt) × Bool)
  | 0, _ => none
  | m1 + 1, v13 => bif ilt 0 v13 then (gbind (lget v10 (wr IntKind.i64 (isub v13 1))) fun p1 => gbind (spec_pgLess L (Pt.x p) (Pt.y p) (Pt.x p1) (Pt.y p1)) fun r2 => bif r2 then (spec_SupportOf_l1 L κ0 v1 v2 v9 v10 v27 v28 v29 p m1 (wr IntKind.i64 (isub v13 1))) else (bif ile 0 v13 && ile v13 (ilen (List.map ep v10)) then (bif ieq (ilen (lsub (List.map ep v10) 0 v13)) 0 then (bif fits (ilen ([] : List AV)) 16 then (bif fits (iadd (ilen ([] : List AV)) (ilen [AV.agg [AV.int IntKind.i64 (Pt.x p), AV.int IntKind.i64 (Pt.y p)]])) 16 then (bif ile 0 v13 && ile v13 (ilen (List.map ep v10)) then (bif fits (iadd (ilen (lcat [] [AV.agg [AV.int IntKind.i64 (Pt.x p), AV.int IntKind.i64 (Pt.y p)]])) (ilen (lsub (List.map ep v10) v13 (ilen (List.map ep v10))))) 16 then (κ0 v1 v2 v9 (lcat (lcat [] (p :: [])) (lsub v10 v13 (ilen (List.map ep v10)))) v27 v28 (wr IntKind.i64 (iadd v29 1))) else (none)) else (none)) else (none)) else (none)) else (bif fits (iadd (ilen ([] : List AV)) (ilen (lsub (List.map ep v10) 0 v13))) 16 then (bif fits (iadd (ilen (lcat [] (lsub (List.map ep v10) 0 v13))) (ilen [AV.agg [AV.int IntKind.i64 (Pt.x p), AV.int IntKind.i64 (Pt.y p)]])) 16 then (bif ile 0 v13 && ile v13 (ilen (List.map ep v10)) then (bif fits (iadd (ilen (lcat (lcat [] (lsub (List.map ep v10) 0 v13)) [AV.agg [AV.int IntKind.i64 (Pt.x p), AV.int IntKind.i64 (Pt.y p)]])) (ilen (lsub (List.map ep v10) v13 (ilen (List.map ep v10))))) 16 then (κ0 v1 v2 v9 (lcat (lcat (lcat [] (lsub v10 0 v13)) (p :: [])) (lsub v10 v13 (ilen (List.map ep v10)))) v27 v28 (wr IntKind.i64 (iadd v29 1))) else (none)) else (none)) else (none)) else (none))) else (none))) else (bif ile 0 v13 && ile v13 (ilen (List.map ep v10)) then (bif ieq (ilen (lsub (List.map ep v10) 0 v13)) 0 then (bif fits (ilen ([] : List AV)) 16 then (bif fits (iadd (ilen ([] : List AV)) (ilen [AV.agg [AV.int IntKind.i64 (Pt.x p), AV.int IntKind.i64 (Pt.y p)]])) 16 then (bif ile 0 v13 && ile v13 (ilen (List.map ep v10)) then (bif fits (iadd (ilen (lcat [] [AV.agg [AV.int IntKind.i64 (Pt.x p), AV.int IntKind.i64 (Pt.y p)]])) (ilen (lsub (List.map ep v10) v13 (ilen (List.map ep v10))))) 16 then (κ0 v1 v2 v9 (lcat (lcat [] (p :: [])) (lsub v10 v13 (ilen (List.map ep v10)))) v27 v28 (wr IntKind.i64 (iadd v29 1))) else (none)) else (none)) else (none)) else (none)) else (bif fits (iadd (ilen ([] : List AV)) (ilen (lsub (List.map ep v10) 0 v13))) 16 then (bif fits (iadd (ilen (lcat [] (lsub (List.map ep v10) 0 v13))) (ilen [AV.agg [AV.int IntKind.i64 (Pt.x p), AV.int IntKind.i64 (Pt.y p)]])) 16 then (bif ile 0 v13 && ile v13 (ilen (List.map ep v10)) then (bif fits (iadd (ilen (lcat (lcat [] (lsub (List.map ep v10) 0 v13)) [AV.agg [AV.int IntKind.i64 (Pt.x p), AV.int IntKind.i64 (Pt.y p)]])) (ilen (lsub (List.map ep v10) v13 (ilen (List.map ep v10))))) 16 then (κ0 v1 v2 v9 (lcat (lcat (lcat [] (lsub v10 0 v13)) (p :: [])) (lsub v10 v13 (ilen (List.map ep v10)))) v27 v28 (wr IntKind.i64 (iadd v29 1))) else (none)) else (none)) else (none)) else (none))) else (none))


noncomputable def spec_SupportOf_l0 (L : Nat) : Nat → Int → Int → Int → (List Pt) → (List Pt) → Int → Int → Option ((List Pt) × Bool)
  | 0, _, _, _, _, _, _, _ => none
  | m + 1, v1, v2, v9, v10, v27, v28, v29 => bif ilt v29 v28 then (gbind (lget v27 v29) fun p => bif !ieq (wr IntKind.i64 (iadd (wr IntKind.i64 (imul v1 (Pt.x p))) (wr IntKind.i64 (imul v2 (Pt.y p))))) v9 then (spec_SupportOf_l0 L m v1 v2 v9 v10 v27 v28 (wr IntKind.i64 (iadd v29 1))) else (spec_SupportOf_l1 L (spec_SupportOf_l0 L m) v1 v2 v9 v10 v27 v28 v29 p L (ilen (List.map ep v10)))) else (some ((v10, true)))


noncomputable def spec_SupportOf (L : Nat) (a : List Pt) (b : Int) (c : Int) : Option ((List Pt) × Bool) := gbind (spec_wiAsked L a b c) fun r => bif !r then (some (([], false))) else (gbind (spec_wiRange L a b c) fun r1 => spec_SupportOf_l0 L L b c (Prod.snd r1) [] a (ilen (List.map ep a)) 0)


def spec_SupportOf_ok (L : Nat) (C : CF) : Prop := ∀ (oa : Bool) (ca : Bool) (x_a : List AV) (a : List Pt) (_ : x_a = List.map ep a) (b : Int) (c : Int), C 121 ([.lst oa ca 2 x_a, .int .i64 b, .int .i64 c]) ([]) = Option.map (fun r : (List Pt) × Bool => ((.tup [.lst false false 2 (List.map ep (r.1)), .bool (r.2)], []) : AV × List Blk)) (spec_SupportOf L a b c)


theorem spec_SupportOf_run (L : Nat) (C : CF) (h_spec_pgLess : spec_pgLess_ok L C) (h_spec_wiAsked : spec_wiAsked_ok L C) (h_spec_wiRange : spec_wiRange_ok L C) : ∀ (oa : Bool) (ca : Bool) (x_a : List AV) (a : List Pt) (_ : x_a = List.map ep a) (b : Int) (c : Int), run T C sh (keep 121) L Try.f121 ([.lst oa ca 2 x_a, .int .i64 b, .int .i64 c]) ([]) = Option.map (fun r : (List Pt) × Bool => ((.tup [.lst false false 2 (List.map ep (r.1)), .bool (r.2)], []) : AV × List Blk)) (spec_SupportOf L a b c) := by
  intro oa ca x_a a hx_a b c
  subst hx_a
  unfold spec_SupportOf
  conv => lhs; whnf
  refine t_call (h_spec_wiAsked _ _ _ a (by first | rfl | (simp only [ml]; done) | (simp only [ml]; rfl)) b c) fun r => ?_
  conv => lhs; whnf
  refine t_cond ?_ ?_
  · conv => lhs; whnf
    exact t_ret (by first | rfl | (simp only [ml]; done) | (simp only [ml]; rfl))
  · conv => lhs; whnf
    refine t_call (h_spec_wiRange _ _ _ a (by first | rfl | (simp only [ml]; done) | (simp only [ml]; rfl)) b c) fun r1 => ?_
    conv => lhs; whnf
    refine t_loop (fun (⟨v1, v2, v9, v10, v27, v28, v29⟩ : Int × Int × Int × (List Pt) × (List Pt) × Int × Int) => (AV.top :: AV.int IntKind.i64 v1 :: AV.int IntKind.i64 v2 :: topA 6 (AV.int IntKind.i64 v9 :: AV.lst false false 2 (List.map ep v10) :: topA 16 (AV.lst oa ca 2 (List.map ep v27) :: AV.int IntKind.i64 v28 :: AV.int IntKind.i64 v29 :: tops 44)), [])) (fun m (⟨v1, v2, v9, v10, v27, v28, v29⟩ : Int × Int × Int × (List Pt) × (List Pt) × Int × Int) => spec_SupportOf_l0 L m v1 v2 v9 v10 v27 v28 v29) (fun _ => rfl) (fun m s rec hrec => ?_) L ((b, c, Prod.snd r1, [], a, ilen (List.map ep a), 0)) ?_ ?_
    rotate_left
    · first | rfl | (simp only [ml]; done) | (simp only [ml]; rfl)
    · first | rfl | (simp only [ml]; done) | (simp only [ml]; rfl)
    obtain ⟨v1, v2, v9, v10, v27, v28, v29⟩ := s
    show _ = Option.map _ (spec_SupportOf_l0 L (m + 1) v1 v2 v9 v10 v27 v28 v29)
    rw [spec_SupportOf_l0.eq_2]
    conv => lhs; whnf
    refine t_cond ?_ ?_
    · conv => lhs; whnf
      refine t_get (en := ep) (l := v27) (by first | rfl | (simp only [ml]; done) | (simp only [ml]; rfl)) fun p => ?_
      conv => lhs; whnf
      refine t_cond ?_ ?_
      · conv => lhs; whnf
        exact hrec ((v1, v2, v9, v10, v27, v28, wr IntKind.i64 (iadd v29 1))) _ _ (by first | rfl | (simp only [ml]; done) | (simp only [ml]; rfl)) (by first | rfl | (simp only [ml]; done) | (simp only [ml]; rfl))
      · conv => lhs; whnf
        refine t_loop (fun (v13 : Int) => (AV.top :: AV.int IntKind.i64 v1 :: AV.int IntKind.i64 v2 :: topA 6 (AV.int IntKind.i64 v9 :: AV.lst false false 2 (List.map ep v10) :: AV.top :: AV.ptr 0 0 0 2 :: AV.int IntKind.i64 v13 :: topA 13 (AV.lst oa ca 2 (List.map ep v27) :: AV.int IntKind.i64 v28 :: AV.int IntKind.i64 v29 :: tops 44)), [Blk.box (AV.agg [AV.int IntKind.i64 (Pt.x p), AV.int IntKind.i64 (Pt.y p)])])) (fun m1 (v13 : Int) => spec_SupportOf_l1 L (spec_SupportOf_l0 L m) v1 v2 v9 v10 v27 v28 v29 p m1 v13) (fun _ => rfl) (fun m1 v13 rec1 hrec1 => ?_) L (ilen (List.map ep v10)) ?_ ?_
        rotate_left
        · first | rfl | (simp only [ml]; done) | (simp only [ml]; rfl)
        · first | rfl | (simp only [ml]; done) | (simp only [ml]; rfl)
        show _ = Option.map _ (spec_SupportOf_l1 L (spec_SupportOf_l0 L m) v1 v2 v9 v10 v27 v28 v29 p (m1 + 1) v13)
        rw [spec_SupportOf_l1.eq_2]
        conv => lhs; whnf
        refine t_cond ?_ ?_
        · conv => lhs; whnf
          refine t_get (en := ep) (l := v10) (by first | rfl | (simp only [ml]; done) | (simp only [ml]; rfl)) fun p1 => ?_
          conv => lhs; whnf
          refine t_call (h_spec_pgLess (Pt.x p) (Pt.y p) (Pt.x p1) (Pt.y p1)) fun r2 => ?_
          conv => lhs; whnf
          refine t_cond ?_ ?_
          · conv => lhs; whnf
            exact hrec1 (wr IntKind.i64 (isub v13 1)) _ _ (by first | rfl | (simp only [ml]; done) | (simp only [ml]; rfl)) (by first | rfl | (simp only [ml]; done) | (simp only [ml]; rfl))
          · conv => lhs; whnf
            refine t_cond ?_ ?_
            · conv => lhs; whnf
              refine t_cond ?_ ?_
              · conv => lhs; whnf
                refine t_cond ?_ ?_
                · conv => lhs; whnf
                  refine t_cond ?_ ?_
                  · conv => lhs; whnf
                    refine t_cond ?_ ?_
                    · conv => lhs; whnf
                      refine t_cond ?_ ?_
                      · conv => lhs; whnf
                        exact hrec ((v1, v2, v9, lcat (lcat [] (p :: [])) (lsub v10 v13 (ilen (List.map ep v10))), v27, v28, wr IntKind.i64 (iadd v29 1))) _ _ (by first | rfl | (simp only [ml]; done) | (simp only [ml]; rfl)) (by first | rfl | (simp only [ml]; done) | (simp only [ml]; rfl))
                      · conv => lhs; whnf
                        exact t_none
                    · conv => lhs; whnf
                      exact t_none
                  · conv => lhs; whnf
                    exact t_none
                · conv => lhs; whnf
                  exact t_none
              · conv => lhs; whnf
                refine t_cond ?_ ?_
                · conv => lhs; whnf
                  refine t_cond ?_ ?_
                  · conv => lhs; whnf
                    refine t_cond ?_ ?_
                    · conv => lhs; whnf
                      refine t_cond ?_ ?_
                      · conv => lhs; whnf
                        exact hrec ((v1, v2, v9, lcat (lcat (lcat [] (lsub v10 0 v13)) (p :: [])) (lsub v10 v13 (ilen (List.map ep v10))), v27, v28, wr IntKind.i64 (iadd v29 1))) _ _ (by first | rfl | (simp only [ml]; done) | (simp only [ml]; rfl)) (by first | rfl | (simp only [ml]; done) | (simp only [ml]; rfl))
                      · conv => lhs; whnf
                        exact t_none
                    · conv => lhs; whnf
                      exact t_none
                  · conv => lhs; whnf
                    exact t_none
                · conv => lhs; whnf
                  exact t_none
            · conv => lhs; whnf
              exact t_none
        · conv => lhs; whnf
          refine t_cond ?_ ?_
          · conv => lhs; whnf
            refine t_cond ?_ ?_
            · conv => lhs; whnf
              refine t_cond ?_ ?_
              · conv => lhs; whnf
                refine t_cond ?_ ?_
                · conv => lhs; whnf
                  refine t_cond ?_ ?_
                  · conv => lhs; whnf
                    refine t_cond ?_ ?_
                    · conv => lhs; whnf
                      exact hrec ((v1, v2, v9, lcat (lcat [] (p :: [])) (lsub v10 v13 (ilen (List.map ep v10))), v27, v28, wr IntKind.i64 (iadd v29 1))) _ _ (by first | rfl | (simp only [ml]; done) | (simp only [ml]; rfl)) (by first | rfl | (simp only [ml]; done) | (simp only [ml]; rfl))
                    · conv => lhs; whnf
                      exact t_none
                  · conv => lhs; whnf
                    exact t_none
                · conv => lhs; whnf
                  exact t_none
              · conv => lhs; whnf
                exact t_none
            · conv => lhs; whnf
              refine t_cond ?_ ?_
              · conv => lhs; whnf
                refine t_cond ?_ ?_
                · conv => lhs; whnf
                  refine t_cond ?_ ?_
                  · conv => lhs; whnf
                    refine t_cond ?_ ?_
                    · conv => lhs; whnf
                      exact hrec ((v1, v2, v9, lcat (lcat (lcat [] (lsub v10 0 v13)) (p :: [])) (lsub v10 v13 (ilen (List.map ep v10))), v27, v28, wr IntKind.i64 (iadd v29 1))) _ _ (by first | rfl | (simp only [ml]; done) | (simp only [ml]; rfl)) (by first | rfl | (simp only [ml]; done) | (simp only [ml]; rfl))
                    · conv => lhs; whnf
                      exact t_none
                  · conv => lhs; whnf
                    exact t_none
                · conv => lhs; whnf
                  exact t_none
              · conv => lhs; whnf
                exact t_none
          · conv => lhs; whnf
            exact t_none
    · conv => lhs; whnf
      exact t_ret (by first | rfl | (simp only [ml]; done) | (simp only [ml]; rfl))


noncomputable def impl_isDirection (L : Nat) (a : Int) (b : Int) : Option (Bool) := gbind (impl_within L a (-200) 200) fun r => bif r then (gbind (impl_within L b (-200) 200) fun r1 => bif r1 then (gbind (impl_divisor L a b) fun r2 => some (ieq r2 1)) else (some false)) else (some false)


def impl_isDirection_ok (L : Nat) (C : CF) : Prop := ∀ (a : Int) (b : Int), C 248 ([.int .i64 a, .int .i64 b]) ([]) = Option.map (fun r : Bool => ((.bool r, []) : AV × List Blk)) (impl_isDirection L a b)


theorem impl_isDirection_run (L : Nat) (C : CF) (h_impl_within : impl_within_ok L C) (h_impl_divisor : impl_divisor_ok L C) : ∀ (a : Int) (b : Int), run T C sh (keep 248) L Try.f248 ([.int .i64 a, .int .i64 b]) ([]) = Option.map (fun r : Bool => ((.bool r, []) : AV × List Blk)) (impl_isDirection L a b) := by
  intro a b
  unfold impl_isDirection
  conv => lhs; whnf
  refine t_call (h_impl_within a (-200) 200) fun r => ?_
  conv => lhs; whnf
  refine t_cond ?_ ?_
  · conv => lhs; whnf
    refine t_call (h_impl_within b (-200) 200) fun r1 => ?_
    conv => lhs; whnf
    refine t_cond ?_ ?_
    · conv => lhs; whnf
      refine t_call (h_impl_divisor a b) fun r2 => ?_
      conv => lhs; whnf
      exact t_ret (by first | rfl | (simp only [ml]; done) | (simp only [ml]; rfl))
    · conv => lhs; whnf
      exact t_ret (by first | rfl | (simp only [ml]; done) | (simp only [ml]; rfl))
  · conv => lhs; whnf
    exact t_ret (by first | rfl | (simp only [ml]; done) | (simp only [ml]; rfl))


noncomputable def impl_isWide (L : Nat) (a : List Pt) (b : Int) (c : Int) : Option (Bool) := gbind (impl_IsPolygon L a) fun r => bif r then (gbind (impl_isDirection L b c) fun r1 => some r1) else (some false)


def impl_isWide_ok (L : Nat) (C : CF) : Prop := ∀ (oa : Bool) (ca : Bool) (x_a : List AV) (a : List Pt) (_ : x_a = List.map ep a) (b : Int) (c : Int), C 216 ([.lst oa ca 2 x_a, .int .i64 b, .int .i64 c]) ([]) = Option.map (fun r : Bool => ((.bool r, []) : AV × List Blk)) (impl_isWide L a b c)


theorem impl_isWide_run (L : Nat) (C : CF) (h_impl_IsPolygon : impl_IsPolygon_ok L C) (h_impl_isDirection : impl_isDirection_ok L C) : ∀ (oa : Bool) (ca : Bool) (x_a : List AV) (a : List Pt) (_ : x_a = List.map ep a) (b : Int) (c : Int), run T C sh (keep 216) L Try.f216 ([.lst oa ca 2 x_a, .int .i64 b, .int .i64 c]) ([]) = Option.map (fun r : Bool => ((.bool r, []) : AV × List Blk)) (impl_isWide L a b c) := by
  intro oa ca x_a a hx_a b c
  subst hx_a
  unfold impl_isWide
  conv => lhs; whnf
  refine t_call (h_impl_IsPolygon _ _ _ a (by first | rfl | (simp only [ml]; done) | (simp only [ml]; rfl))) fun r => ?_
  conv => lhs; whnf
  refine t_cond ?_ ?_
  · conv => lhs; whnf
    refine t_call (h_impl_isDirection b c) fun r1 => ?_
    conv => lhs; whnf
    exact t_ret (by first | rfl | (simp only [ml]; done) | (simp only [ml]; rfl))
  · conv => lhs; whnf
    exact t_ret (by first | rfl | (simp only [ml]; done) | (simp only [ml]; rfl))


noncomputable def impl_value (L : Nat) (a_0 : Int) (a_1 : Int) (b_0 : Int) (b_1 : Int) : Option (Int) := some (wr IntKind.i64 (iadd (wr IntKind.i64 (imul a_0 b_0)) (wr IntKind.i64 (imul a_1 b_1))))


def impl_value_ok (L : Nat) (C : CF) : Prop := ∀ (a_0 : Int) (a_1 : Int) (b_0 : Int) (b_1 : Int), C 219 ([.agg [.int .i64 a_0, .int .i64 a_1], .agg [.int .i64 b_0, .int .i64 b_1]]) ([]) = Option.map (fun r : Int => ((.int .i64 r, []) : AV × List Blk)) (impl_value L a_0 a_1 b_0 b_1)


theorem impl_value_run (L : Nat) (C : CF) : ∀ (a_0 : Int) (a_1 : Int) (b_0 : Int) (b_1 : Int), run T C sh (keep 219) L Try.f219 ([.agg [.int .i64 a_0, .int .i64 a_1], .agg [.int .i64 b_0, .int .i64 b_1]]) ([]) = Option.map (fun r : Int => ((.int .i64 r, []) : AV × List Blk)) (impl_value L a_0 a_1 b_0 b_1) := by
  intro a_0 a_1 b_0 b_1
  unfold impl_value
  conv => lhs; whnf
  exact t_ret (by first | rfl | (simp only [ml]; done) | (simp only [ml]; rfl))


noncomputable def impl_extent_l0 (L : Nat) (a : List Pt) (b_0 : Int) (b_1 : Int) : Nat → Int → Int → Int → Option (Int × Int)
  | 0, _, _, _ => none
  | m + 1, v6, v7, v18 => bif ilt v18 (ilen (List.map ep a)) then (gbind (lget a v18) fun p1 => gbind (impl_value L b_0 b_1 (Pt.x p1) (Pt.y p1)) fun r1 => gbind (impl_value L b_0 b_1 (Pt.x p1) (Pt.y p1)) fun r2 => impl_extent_l0 L a b_0 b_1 m (imin v6 r1) (imax v7 r2) (wr IntKind.i64 (iadd v18 1))) else (some ((v6, v7)))


noncomputable def impl_extent (L : Nat) (a : List Pt) (b_0 : Int) (b_1 : Int) : Option (Int × Int) := gbind (lget a 0) fun p => gbind (impl_value L b_0 b_1 (Pt.x p) (Pt.y p)) fun r => impl_extent_l0 L a b_0 b_1 L r r 0


def impl_extent_ok (L : Nat) (C : CF) : Prop := ∀ (oa : Bool) (ca : Bool) (x_a : List AV) (a : List Pt) (_ : x_a = List.map ep a) (b_0 : Int) (b_1 : Int), C 217 ([.lst oa ca 2 x_a, .agg [.int .i64 b_0, .int .i64 b_1]]) ([]) = Option.map (fun r : Int × Int => ((.tup [.int .i64 (r.1), .int .i64 (r.2)], []) : AV × List Blk)) (impl_extent L a b_0 b_1)


theorem impl_extent_run (L : Nat) (C : CF) (h_impl_value : impl_value_ok L C) : ∀ (oa : Bool) (ca : Bool) (x_a : List AV) (a : List Pt) (_ : x_a = List.map ep a) (b_0 : Int) (b_1 : Int), run T C sh (keep 217) L Try.f217 ([.lst oa ca 2 x_a, .agg [.int .i64 b_0, .int .i64 b_1]]) ([]) = Option.map (fun r : Int × Int => ((.tup [.int .i64 (r.1), .int .i64 (r.2)], []) : AV × List Blk)) (impl_extent L a b_0 b_1) := by
  intro oa ca x_a a hx_a b_0 b_1
  subst hx_a
  unfold impl_extent
  conv => lhs; whnf
  refine t_get (en := ep) (l := a) (by first | rfl | (simp only [ml]; done) | (simp only [ml]; rfl)) fun p => ?_
  conv => lhs; whnf
  refine t_call (h_impl_value b_0 b_1 (Pt.x p) (Pt.y p)) fun r => ?_
  conv => lhs; whnf
  refine t_loop (fun (⟨v6, v7, v18⟩ : Int × Int × Int) => (topA 3 (AV.ptr 0 0 0 2 :: topA 2 (AV.int IntKind.i64 v6 :: AV.int IntKind.i64 v7 :: topA 8 (AV.lst oa ca 2 (List.map ep a) :: AV.int IntKind.i64 (ilen (List.map ep a)) :: AV.int IntKind.i64 v18 :: tops 16))), [Blk.box (AV.agg [AV.int IntKind.i64 b_0, AV.int IntKind.i64 b_1])])) (fun m (⟨v6, v7, v18⟩ : Int × Int × Int) => impl_extent_l0 L a b_0 b_1 m v6 v7 v18) (fun _ => rfl) (fun m s rec hrec => ?_) L ((r, r, 0)) ?_ ?_
  rotate_left
  · first | rfl | (simp only [ml]; done) | (simp only [ml]; rfl)
  · first | rfl | (simp only [ml]; done) | (simp only [ml]; rfl)
  obtain ⟨v6, v7, v18⟩ := s
  show _ = Option.map _ (impl_extent_l0 L a b_0 b_1 (m + 1) v6 v7 v18)
  rw [impl_extent_l0.eq_2]
  conv => lhs; whnf
  refine t_cond ?_ ?_
  · conv => lhs; whnf
    refine t_get (en := ep) (l := a) (by first | rfl | (simp only [ml]; done) | (simp only [ml]; rfl)) fun p1 => ?_
    conv => lhs; whnf
    refine t_call (h_impl_value b_0 b_1 (Pt.x p1) (Pt.y p1)) fun r1 => ?_
    conv => lhs; whnf
    refine t_call (h_impl_value b_0 b_1 (Pt.x p1) (Pt.y p1)) fun r2 => ?_
    conv => lhs; whnf
    exact hrec ((imin v6 r1, imax v7 r2, wr IntKind.i64 (iadd v18 1))) _ _ (by first | rfl | (simp only [ml]; done) | (simp only [ml]; rfl)) (by first | rfl | (simp only [ml]; done) | (simp only [ml]; rfl))
  · conv => lhs; whnf
    exact t_ret (by first | rfl | (simp only [ml]; done) | (simp only [ml]; rfl))


noncomputable def impl_SupportOf_l0 (L : Nat) (b : Int) (c : Int) (r1 : Int × Int) (r2 : List Pt) : Nat → Int → (List Pt) → Option ((List Pt) × Bool)
  | 0, _, _ => none
  | m + 1, v32, w1 => bif ilt v32 (ilen (List.map ep r2)) then (bif ile 0 v32 && ilt v32 (ilen (List.map ep r2)) then (gbind (lget r2 v32) fun p => gbind (impl_value L b c (Pt.x p) (Pt.y p)) fun r3 => bif ieq r3 (Prod.snd r1) then (bif fits (iadd (ilen (List.map ep w1)) (ilen [AV.agg [AV.int IntKind.i64 (Pt.x p), AV.int IntKind.i64 (Pt.y p)]])) 16 then (impl_SupportOf_l0 L b c r1 r2 m (wr IntKind.i64 (iadd v32 1)) (lcat w1 (p :: []))) else (none)) else (impl_SupportOf_l0 L b c r1 r2 m (wr IntKind.i64 (iadd v32 1)) w1)) else (none)) else (some ((w1, true)))


noncomputable def impl_SupportOf (L : Nat) (a : List Pt) (b : Int) (c : Int) : Option ((List Pt) × Bool) := gbind (impl_isWide L a b c) fun r => bif !r then (some (([], false))) else (gbind (impl_extent L a b c) fun r1 => gbind (impl_sorted L a) fun r2 => impl_SupportOf_l0 L b c r1 r2 L 0 [])


def impl_SupportOf_ok (L : Nat) (C : CF) : Prop := ∀ (oa : Bool) (ca : Bool) (x_a : List AV) (a : List Pt) (_ : x_a = List.map ep a) (b : Int) (c : Int), C 122 ([.lst oa ca 2 x_a, .int .i64 b, .int .i64 c]) ([]) = Option.map (fun r : (List Pt) × Bool => ((.tup [.frs 2 (List.map ep (r.1)), .bool (r.2)], []) : AV × List Blk)) (impl_SupportOf L a b c)


theorem impl_SupportOf_run (L : Nat) (C : CF) (h_impl_sorted : impl_sorted_ok L C) (h_impl_isWide : impl_isWide_ok L C) (h_impl_value : impl_value_ok L C) (h_impl_extent : impl_extent_ok L C) : ∀ (oa : Bool) (ca : Bool) (x_a : List AV) (a : List Pt) (_ : x_a = List.map ep a) (b : Int) (c : Int), run T C sh (keep 122) L Try.f122 ([.lst oa ca 2 x_a, .int .i64 b, .int .i64 c]) ([]) = Option.map (fun r : (List Pt) × Bool => ((.tup [.frs 2 (List.map ep (r.1)), .bool (r.2)], []) : AV × List Blk)) (impl_SupportOf L a b c) := by
  intro oa ca x_a a hx_a b c
  subst hx_a
  unfold impl_SupportOf
  conv => lhs; whnf
  refine t_call (h_impl_isWide _ _ _ a (by first | rfl | (simp only [ml]; done) | (simp only [ml]; rfl)) b c) fun r => ?_
  conv => lhs; whnf
  refine t_cond ?_ ?_
  · conv => lhs; whnf
    exact t_ret (by first | rfl | (simp only [ml]; done) | (simp only [ml]; rfl))
  · conv => lhs; whnf
    refine t_call (h_impl_extent _ _ _ a (by first | rfl | (simp only [ml]; done) | (simp only [ml]; rfl)) b c) fun r1 => ?_
    conv => lhs; whnf
    refine t_call (h_impl_sorted _ _ _ a (by first | rfl | (simp only [ml]; done) | (simp only [ml]; rfl))) fun r2 => ?_
    conv => lhs; whnf
    refine t_loop (fun (⟨v32, w1⟩ : Int × (List Pt)) => (topA 8 (AV.ptr 0 0 0 2 :: AV.own 1 2 none false :: AV.top :: AV.int IntKind.i64 (Prod.snd r1) :: topA 18 (AV.own 2 2 none false :: AV.int IntKind.i64 (ilen (List.map ep r2)) :: AV.int IntKind.i64 v32 :: tops 14)), [Blk.box (AV.agg [AV.int IntKind.i64 b, AV.int IntKind.i64 c]), Blk.rows Mode.live 2 (List.map ep w1), Blk.rows Mode.live 2 (List.map ep r2)])) (fun m (⟨v32, w1⟩ : Int × (List Pt)) => impl_SupportOf_l0 L b c r1 r2 m v32 w1) (fun _ => rfl) (fun m s rec hrec => ?_) L ((0, [])) ?_ ?_
    rotate_left
    · first | rfl | (simp only [ml]; done) | (simp only [ml]; rfl)
    · first | rfl | (simp only [ml]; done) | (simp only [ml]; rfl)
    obtain ⟨v32, w1⟩ := s
    show _ = Option.map _ (impl_SupportOf_l0 L b c r1 r2 (m + 1) v32 w1)
    rw [impl_SupportOf_l0.eq_2]
    conv => lhs; whnf
    refine t_cond ?_ ?_
    · conv => lhs; whnf
      refine t_cond ?_ ?_
      · conv => lhs; whnf
        refine t_get (en := ep) (l := r2) (by first | rfl | (simp only [ml]; done) | (simp only [ml]; rfl)) fun p => ?_
        conv => lhs; whnf
        refine t_call (h_impl_value b c (Pt.x p) (Pt.y p)) fun r3 => ?_
        conv => lhs; whnf
        refine t_cond ?_ ?_
        · conv => lhs; whnf
          refine t_cond ?_ ?_
          · conv => lhs; whnf
            exact hrec ((wr IntKind.i64 (iadd v32 1), lcat w1 (p :: []))) _ _ (by first | rfl | (simp only [ml]; done) | (simp only [ml]; rfl)) (by first | rfl | (simp only [ml]; done) | (simp only [ml]; rfl))
          · conv => lhs; whnf
            exact t_none
        · conv => lhs; whnf
          exact hrec ((wr IntKind.i64 (iadd v32 1), w1)) _ _ (by first | rfl | (simp only [ml]; done) | (simp only [ml]; rfl)) (by first | rfl | (simp only [ml]; done) | (simp only [ml]; rfl))
      · conv => lhs; whnf
        exact t_none
    · conv => lhs; whnf
      exact t_ret (by first | rfl | (simp only [ml]; done) | (simp only [ml]; rfl))


noncomputable def laws_markPegS_l0 (L : Nat) : Nat → Int → Int → (List Pt) → Option (Int × (List Pt))
  | 0, _, _, _ => none
  | m + 1, v1, v5, w0 => bif ilt v5 (ilen (List.map ep w0)) then (bif ile 0 v5 && ilt v5 (ilen (List.map ep w0)) then (gbind (lget w0 v5) fun p => bif ile 0 v5 && ilt v5 (ilen (lset (List.map ep w0) v5 (AV.agg [AV.int IntKind.i64 v1, AV.int IntKind.i64 (Pt.y p)]))) then (gbind (lget (lset w0 v5 ({ x := v1, y := Pt.y p })) v5) fun p1 => laws_markPegS_l0 L m (wr IntKind.i64 (iadd (wr IntKind.i64 (iadd v1 1)) 1)) (wr IntKind.i64 (iadd v5 1)) (lset (lset w0 v5 ({ x := v1, y := Pt.y p })) v5 ({ x := Pt.x p1, y := wr IntKind.i64 (iadd v1 1) }))) else (none)) else (none)) else (some ((v1, w0)))


noncomputable def laws_markPegS (L : Nat) (a : List Pt) (k : Int) : Option (Int × (List Pt)) := laws_markPegS_l0 L L k 0 a


def laws_markPegS_ok (L : Nat) (C : CF) : Prop := ∀ (c1 : Bool) (x_a : List AV) (a : List Pt) (_ : x_a = List.map ep a) (k : Int), C 123 ([.own 0 2 none c1, .int .i64 k]) ([.rows .live 2 x_a]) = Option.map (fun r : Int × (List Pt) => ((.int .i64 (r.1), [.rows .live 2 (List.map ep (r.2))]) : AV × List Blk)) (laws_markPegS L a k)


theorem laws_markPegS_run (L : Nat) (C : CF) : ∀ (c1 : Bool) (x_a : List AV) (a : List Pt) (_ : x_a = List.map ep a) (k : Int), run T C sh (keep 123) L Try.f123 ([.own 0 2 none c1, .int .i64 k]) ([.rows .live 2 x_a]) = Option.map (fun r : Int × (List Pt) => ((.int .i64 (r.1), [.rows .live 2 (List.map ep (r.2))]) : AV × List Blk)) (laws_markPegS L a k) := by
  intro c1 x_a a hx_a k
  subst hx_a
  unfold laws_markPegS
  conv => lhs; whnf
  refine t_loop (fun (⟨v1, v5, w0⟩ : Int × Int × (List Pt)) => (AV.own 0 2 none c1 :: AV.int IntKind.i64 v1 :: topA 3 (AV.int IntKind.i64 v5 :: tops 21), [Blk.rows Mode.live 2 (List.map ep w0)])) (fun m (⟨v1, v5, w0⟩ : Int × Int × (List Pt)) => laws_markPegS_l0 L m v1 v5 w0) (fun _ => rfl) (fun m s rec hrec => ?_) L ((k, 0, a)) ?_ ?_
  rotate_left
  · first | rfl | (simp only [ml]; done) | (simp only [ml]; rfl)
  · first | rfl | (simp only [ml]; done) | (simp only [ml]; rfl)
  obtain ⟨v1, v5, w0⟩ := s
  show _ = Option.map _ (laws_markPegS_l0 L (m + 1) v1 v5 w0)
  rw [laws_markPegS_l0.eq_2]
  conv => lhs; whnf
  refine t_cond ?_ ?_
  · conv => lhs; whnf
    refine t_cond ?_ ?_
    · conv => lhs; whnf
      refine t_get (en := ep) (l := w0) (by first | rfl | (simp only [ml]; done) | (simp only [ml]; rfl)) fun p => ?_
      conv => lhs; whnf
      refine t_cond ?_ ?_
      · conv => lhs; whnf
        refine t_get (en := ep) (l := lset w0 v5 ({ x := v1, y := Pt.y p })) (by first | rfl | (simp only [ml]; done) | (simp only [ml]; rfl)) fun p1 => ?_
        conv => lhs; whnf
        exact hrec ((wr IntKind.i64 (iadd (wr IntKind.i64 (iadd v1 1)) 1), wr IntKind.i64 (iadd v5 1), lset (lset w0 v5 ({ x := v1, y := Pt.y p })) v5 ({ x := Pt.x p1, y := wr IntKind.i64 (iadd v1 1) }))) _ _ (by first | rfl | (simp only [ml]; done) | (simp only [ml]; rfl)) (by first | rfl | (simp only [ml]; done) | (simp only [ml]; rfl))
      · conv => lhs; whnf
        exact t_none
    · conv => lhs; whnf
      exact t_none
  · conv => lhs; whnf
    exact t_ret (by first | rfl | (simp only [ml]; done) | (simp only [ml]; rfl))


noncomputable def laws_heldPegS_l0 (L : Nat) (a : List Pt) : Nat → Int → Int → Option Int
  | 0, _, _ => none
  | m + 1, v1, v5 => bif ilt v5 (ilen (List.map ep a)) then (gbind (lget a v5) fun p => bif !ieq (Pt.x p) v1 then (some (-1)) else (gbind (lget a v5) fun p1 => bif !ieq (Pt.y p1) (wr IntKind.i64 (iadd v1 1)) then (some (-1)) else (laws_heldPegS_l0 L a m (wr IntKind.i64 (iadd (wr IntKind.i64 (iadd v1 1)) 1)) (wr IntKind.i64 (iadd v5 1))))) else (some v1)


noncomputable def laws_heldPegS (L : Nat) (a : List Pt) (b : Int) : Option (Int) := laws_heldPegS_l0 L a L b 0


def laws_heldPegS_ok (L : Nat) (C : CF) : Prop := ∀ (oa : Bool) (ca : Bool) (x_a : List AV) (a : List Pt) (_ : x_a = List.map ep a) (b : Int), C 124 ([.lst oa ca 2 x_a, .int .i64 b]) ([]) = Option.map (fun r : Int => ((.int .i64 r, []) : AV × List Blk)) (laws_heldPegS L a b)


theorem laws_heldPegS_run (L : Nat) (C : CF) : ∀ (oa : Bool) (ca : Bool) (x_a : List AV) (a : List Pt) (_ : x_a = List.map ep a) (b : Int), run T C sh (keep 124) L Try.f124 ([.lst oa ca 2 x_a, .int .i64 b]) ([]) = Option.map (fun r : Int => ((.int .i64 r, []) : AV × List Blk)) (laws_heldPegS L a b) := by
  intro oa ca x_a a hx_a b
  subst hx_a
  unfold laws_heldPegS
  conv => lhs; whnf
  refine t_loop (fun (⟨v1, v5⟩ : Int × Int) => (AV.lst oa ca 2 (List.map ep a) :: AV.int IntKind.i64 v1 :: topA 3 (AV.int IntKind.i64 v5 :: tops 25), [])) (fun m (⟨v1, v5⟩ : Int × Int) => laws_heldPegS_l0 L a m v1 v5) (fun _ => rfl) (fun m s rec hrec => ?_) L ((b, 0)) ?_ ?_
  rotate_left
  · first | rfl | (simp only [ml]; done) | (simp only [ml]; rfl)
  · first | rfl | (simp only [ml]; done) | (simp only [ml]; rfl)
  obtain ⟨v1, v5⟩ := s
  show _ = Option.map _ (laws_heldPegS_l0 L a (m + 1) v1 v5)
  rw [laws_heldPegS_l0.eq_2]
  conv => lhs; whnf
  refine t_cond ?_ ?_
  · conv => lhs; whnf
    refine t_get (en := ep) (l := a) (by first | rfl | (simp only [ml]; done) | (simp only [ml]; rfl)) fun p => ?_
    conv => lhs; whnf
    refine t_cond ?_ ?_
    · conv => lhs; whnf
      exact t_ret (by first | rfl | (simp only [ml]; done) | (simp only [ml]; rfl))
    · conv => lhs; whnf
      refine t_get (en := ep) (l := a) (by first | rfl | (simp only [ml]; done) | (simp only [ml]; rfl)) fun p1 => ?_
      conv => lhs; whnf
      refine t_cond ?_ ?_
      · conv => lhs; whnf
        exact t_ret (by first | rfl | (simp only [ml]; done) | (simp only [ml]; rfl))
      · conv => lhs; whnf
        exact hrec ((wr IntKind.i64 (iadd (wr IntKind.i64 (iadd v1 1)) 1), wr IntKind.i64 (iadd v5 1))) _ _ (by first | rfl | (simp only [ml]; done) | (simp only [ml]; rfl)) (by first | rfl | (simp only [ml]; done) | (simp only [ml]; rfl))
  · conv => lhs; whnf
    exact t_ret (by first | rfl | (simp only [ml]; done) | (simp only [ml]; rfl))


noncomputable def laws_FnExactSupportOf (L : Nat) (a : List Pt) (b : Int) (c : Int) : Option (Bool) := gbind (laws_szPegS L a 1048576) fun r => bif ilt r 0 then (some true) else (gbind (laws_toPegS L a) fun r1 => gbind (spec_SupportOf L r1 b c) fun r2 => gbind (laws_toPegS L a) fun r3 => gbind (impl_SupportOf L r3 b c) fun r4 => gbind (laws_eqPegS L (Prod.fst r4) (Prod.fst r2)) fun r5 => bif !r5 then (some false) else (bif !beqb (Prod.snd r4) (Prod.snd r2) then (some false) else (gbind (laws_toPegS L a) fun r6 => gbind (laws_eqPegS L r3 r6) fun r7 => bif !r7 then (some false) else (gbind (laws_markPegS L r3 1) fun r8 => bif ilt (Prod.fst r8) 0 then (some false) else (gbind (laws_eqPegS L (Prod.fst r4) (Prod.fst r2)) fun r9 => bif !r9 then (some false) else (bif !beqb (Prod.snd r4) (Prod.snd r2) then (some false) else (gbind (laws_markPegS L (Prod.fst r4) 1) fun r10 => gbind (laws_heldPegS L (Prod.snd r10) 1) fun r11 => bif ilt r11 0 then (some false) else (bif !ieq r11 (Prod.fst r10) then (some false) else (gbind (laws_toPegS L a) fun r12 => gbind (impl_SupportOf L r12 b c) fun r13 => gbind (laws_eqPegS L (Prod.fst r13) (Prod.fst r2)) fun r14 => bif !r14 then (some false) else (bif !beqb (Prod.snd r13) (Prod.snd r2) then (some false) else (gbind (laws_heldPegS L (Prod.snd r10) 1) fun r15 => bif ilt r15 0 then (some false) else (bif !ieq r15 (Prod.fst r10) then (some false) else (some true)))))))))))))


def laws_FnExactSupportOf_ok (L : Nat) (C : CF) : Prop := ∀ (oa : Bool) (ca : Bool) (x_a : List AV) (a : List Pt) (_ : x_a = List.map ep a) (b : Int) (c : Int), C 13 ([.lst oa ca 2 x_a, .int .i64 b, .int .i64 c]) ([]) = Option.map (fun r : Bool => ((.bool r, []) : AV × List Blk)) (laws_FnExactSupportOf L a b c)


theorem laws_FnExactSupportOf_run (L : Nat) (C : CF) (h_laws_szPegS : laws_szPegS_ok L C) (h_laws_toPegS : laws_toPegS_ok L C) (h_laws_eqPegS : laws_eqPegS_ok L C) (h_spec_SupportOf : spec_SupportOf_ok L C) (h_impl_SupportOf : impl_SupportOf_ok L C) (h_laws_markPegS : laws_markPegS_ok L C) (h_laws_heldPegS : laws_heldPegS_ok L C) : ∀ (oa : Bool) (ca : Bool) (x_a : List AV) (a : List Pt) (_ : x_a = List.map ep a) (b : Int) (c : Int), run T C sh (keep 13) L Try.f13 ([.lst oa ca 2 x_a, .int .i64 b, .int .i64 c]) ([]) = Option.map (fun r : Bool => ((.bool r, []) : AV × List Blk)) (laws_FnExactSupportOf L a b c) := by
  intro oa ca x_a a hx_a b c
  subst hx_a
  unfold laws_FnExactSupportOf
  conv => lhs; whnf
  refine t_call (h_laws_szPegS _ _ _ a (by first | rfl | (simp only [ml]; done) | (simp only [ml]; rfl)) 1048576) fun r => ?_
  conv => lhs; whnf
  refine t_cond ?_ ?_
  · conv => lhs; whnf
    exact t_ret (by first | rfl | (simp only [ml]; done) | (simp only [ml]; rfl))
  · conv => lhs; whnf
    refine t_call (h_laws_toPegS _ _ _ a (by first | rfl | (simp only [ml]; done) | (simp only [ml]; rfl))) fun r1 => ?_
    conv => lhs; whnf
    refine t_call (h_spec_SupportOf _ _ _ r1 (by first | rfl | (simp only [ml]; done) | (simp only [ml]; rfl)) b c) fun r2 => ?_
    conv => lhs; whnf
    refine t_call (h_laws_toPegS _ _ _ a (by first | rfl | (simp only [ml]; done) | (simp only [ml]; rfl))) fun r3 => ?_
    conv => lhs; whnf
    refine t_call (h_impl_SupportOf _ _ _ r3 (by first | rfl | (simp only [ml]; done) | (simp only [ml]; rfl)) b c) fun r4 => ?_
    conv => lhs; whnf
    refine t_call (h_laws_eqPegS _ _ _ (Prod.fst r4) (by first | rfl | (simp only [ml]; done) | (simp only [ml]; rfl)) _ _ _ (Prod.fst r2) (by first | rfl | (simp only [ml]; done) | (simp only [ml]; rfl))) fun r5 => ?_
    conv => lhs; whnf
    refine t_cond ?_ ?_
    · conv => lhs; whnf
      exact t_ret (by first | rfl | (simp only [ml]; done) | (simp only [ml]; rfl))
    · conv => lhs; whnf
      refine t_cond ?_ ?_
      · conv => lhs; whnf
        exact t_ret (by first | rfl | (simp only [ml]; done) | (simp only [ml]; rfl))
      · conv => lhs; whnf
        refine t_call (h_laws_toPegS _ _ _ a (by first | rfl | (simp only [ml]; done) | (simp only [ml]; rfl))) fun r6 => ?_
        conv => lhs; whnf
        refine t_call (h_laws_eqPegS _ _ _ r3 (by first | rfl | (simp only [ml]; done) | (simp only [ml]; rfl)) _ _ _ r6 (by first | rfl | (simp only [ml]; done) | (simp only [ml]; rfl))) fun r7 => ?_
        conv => lhs; whnf
        refine t_cond ?_ ?_
        · conv => lhs; whnf
          exact t_ret (by first | rfl | (simp only [ml]; done) | (simp only [ml]; rfl))
        · conv => lhs; whnf
          refine t_call (h_laws_markPegS _ _ r3 (by first | rfl | (simp only [ml]; done) | (simp only [ml]; rfl)) 1) fun r8 => ?_
          conv => lhs; whnf
          refine t_cond ?_ ?_
          · conv => lhs; whnf
            exact t_ret (by first | rfl | (simp only [ml]; done) | (simp only [ml]; rfl))
          · conv => lhs; whnf
            refine t_call (h_laws_eqPegS _ _ _ (Prod.fst r4) (by first | rfl | (simp only [ml]; done) | (simp only [ml]; rfl)) _ _ _ (Prod.fst r2) (by first | rfl | (simp only [ml]; done) | (simp only [ml]; rfl))) fun r9 => ?_
            conv => lhs; whnf
            refine t_cond ?_ ?_
            · conv => lhs; whnf
              exact t_ret (by first | rfl | (simp only [ml]; done) | (simp only [ml]; rfl))
            · conv => lhs; whnf
              refine t_cond ?_ ?_
              · conv => lhs; whnf
                exact t_ret (by first | rfl | (simp only [ml]; done) | (simp only [ml]; rfl))
              · conv => lhs; whnf
                refine t_call (h_laws_markPegS _ _ (Prod.fst r4) (by first | rfl | (simp only [ml]; done) | (simp only [ml]; rfl)) 1) fun r10 => ?_
                conv => lhs; whnf
                refine t_call (h_laws_heldPegS _ _ _ (Prod.snd r10) (by first | rfl | (simp only [ml]; done) | (simp only [ml]; rfl)) 1) fun r11 => ?_
                conv => lhs; whnf
                refine t_cond ?_ ?_
                · conv => lhs; whnf
                  exact t_ret (by first | rfl | (simp only [ml]; done) | (simp only [ml]; rfl))
                · conv => lhs; whnf
                  refine t_cond ?_ ?_
                  · conv => lhs; whnf
                    exact t_ret (by first | rfl | (simp only [ml]; done) | (simp only [ml]; rfl))
                  · conv => lhs; whnf
                    refine t_call (h_laws_toPegS _ _ _ a (by first | rfl | (simp only [ml]; done) | (simp only [ml]; rfl))) fun r12 => ?_
                    conv => lhs; whnf
                    refine t_call (h_impl_SupportOf _ _ _ r12 (by first | rfl | (simp only [ml]; done) | (simp only [ml]; rfl)) b c) fun r13 => ?_
                    conv => lhs; whnf
                    refine t_call (h_laws_eqPegS _ _ _ (Prod.fst r13) (by first | rfl | (simp only [ml]; done) | (simp only [ml]; rfl)) _ _ _ (Prod.fst r2) (by first | rfl | (simp only [ml]; done) | (simp only [ml]; rfl))) fun r14 => ?_
                    conv => lhs; whnf
                    refine t_cond ?_ ?_
                    · conv => lhs; whnf
                      exact t_ret (by first | rfl | (simp only [ml]; done) | (simp only [ml]; rfl))
                    · conv => lhs; whnf
                      refine t_cond ?_ ?_
                      · conv => lhs; whnf
                        exact t_ret (by first | rfl | (simp only [ml]; done) | (simp only [ml]; rfl))
                      · conv => lhs; whnf
                        refine t_call (h_laws_heldPegS _ _ _ (Prod.snd r10) (by first | rfl | (simp only [ml]; done) | (simp only [ml]; rfl)) 1) fun r15 => ?_
                        conv => lhs; whnf
                        refine t_cond ?_ ?_
                        · conv => lhs; whnf
                          exact t_ret (by first | rfl | (simp only [ml]; done) | (simp only [ml]; rfl))
                        · conv => lhs; whnf
                          refine t_cond ?_ ?_
                          · conv => lhs; whnf
                            exact t_ret (by first | rfl | (simp only [ml]; done) | (simp only [ml]; rfl))
                          · conv => lhs; whnf
                            exact t_ret (by first | rfl | (simp only [ml]; done) | (simp only [ml]; rfl))



end Go.AM
