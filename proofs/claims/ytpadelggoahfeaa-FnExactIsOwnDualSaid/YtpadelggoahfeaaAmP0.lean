import Derived.Test.YtpadelggoahfeaaAmSeat
set_option linter.unusedVariables false
set_option linter.unusedSimpArgs false
set_option linter.unnecessarySimpa false
set_option linter.deprecated false
set_option linter.unusedSectionVars false
open Go Go.AM Go.Proofs
namespace Go.AM
set_option maxRecDepth 400000
set_option maxHeartbeats 40000000
noncomputable def laws_szPegS (L : Nat) (a : List Pt) (b : Int) : Option (Int) := bif ilt (wr IntKind.i64 (isub b (ilen (List.map ep a)))) 0 then (some (-1)) else (some (wr IntKind.i64 (isub b (ilen (List.map ep a)))))
def laws_szPegS_ok (L : Nat) (C : CF) : Prop := ∀ (oa : Bool) (ca : Bool) (x_a : List AV) (a : List Pt) (_ : x_a = List.map ep a) (b : Int), C 4 ([.lst oa ca 2 x_a, .int .i64 b]) ([]) = Option.map (fun r : Int => ((.int .i64 r, []) : AV × List Blk)) (laws_szPegS L a b)
theorem laws_szPegS_run (L : Nat) (C : CF) : ∀ (oa : Bool) (ca : Bool) (x_a : List AV) (a : List Pt) (_ : x_a = List.map ep a) (b : Int), run T C sh (keep 4) L Try.f4 ([.lst oa ca 2 x_a, .int .i64 b]) ([]) = Option.map (fun r : Int => ((.int .i64 r, []) : AV × List Blk)) (laws_szPegS L a b) := by
 intro oa ca x_a a hx_a b
 subst hx_a
 unfold laws_szPegS
 conv => lhs; whnf
 refine t_cond ?_ ?_
 ·conv => lhs; whnf
  exact t_ret (by first | rfl | simp only [ml] <;> rfl)
 ·conv => lhs; whnf
  exact t_ret (by first | rfl | simp only [ml] <;> rfl)
noncomputable def laws_toPeg (L : Nat) (a_0 : Int) (a_1 : Int) : Option (Int × Int) := some ((a_0, a_1))
def laws_toPeg_ok (L : Nat) (C : CF) : Prop := ∀ (a_0 : Int) (a_1 : Int), C 12 ([.agg [.int .i64 a_0, .int .i64 a_1]]) ([]) = Option.map (fun r : Int × Int => ((.agg [.int .i64 (r.1), .int .i64 (r.2)], []) : AV × List Blk)) (laws_toPeg L a_0 a_1)
theorem laws_toPeg_run (L : Nat) (C : CF) : ∀ (a_0 : Int) (a_1 : Int), run T C sh (keep 12) L Try.f12 ([.agg [.int .i64 a_0, .int .i64 a_1]]) ([]) = Option.map (fun r : Int × Int => ((.agg [.int .i64 (r.1), .int .i64 (r.2)], []) : AV × List Blk)) (laws_toPeg L a_0 a_1) := by
 intro a_0 a_1
 unfold laws_toPeg
 conv => lhs; whnf
 exact t_ret (by first | rfl | simp only [ml] <;> rfl)
noncomputable def laws_toPegS_l0 (L : Nat) (a : List Pt) : Nat → Int → (List Pt) → Option ((List Pt))
  | 0, _, _ => none
  | m + 1, v4, w0 => bif ilt v4 (ilen (List.map ep a)) then (gbind (lget a v4) fun p => gbind (laws_toPeg L (Pt.x p) (Pt.y p)) fun r => bif ile 0 v4 && ilt v4 (ilen (List.map ep w0)) then (gbind (lget w0 v4) fun p1 => laws_toPegS_l0 L a m (wr IntKind.i64 (iadd v4 1)) (lset w0 v4 ({ x := Prod.fst r, y := Prod.snd r }))) else (none)) else (some w0)
noncomputable def laws_toPegS (L : Nat) (a : List Pt) : Option ((List Pt)) := bif ile 0 (ilen (List.map ep a)) && ile (ilen (List.map ep a)) (ilen (List.map ep a)) && fits (ilen (List.map ep a)) 16 then (laws_toPegS_l0 L a L 0 (lrep (ilen (List.map ep a)) ({ x := 0, y := 0 }))) else (none)
def laws_toPegS_ok (L : Nat) (C : CF) : Prop := ∀ (oa : Bool) (ca : Bool) (x_a : List AV) (a : List Pt) (_ : x_a = List.map ep a), C 6 ([.lst oa ca 2 x_a]) ([]) = Option.map (fun r : (List Pt) => ((.frs 2 (List.map ep r), []) : AV × List Blk)) (laws_toPegS L a)
theorem laws_toPegS_run (L : Nat) (C : CF) (h_laws_toPeg : laws_toPeg_ok L C) : ∀ (oa : Bool) (ca : Bool) (x_a : List AV) (a : List Pt) (_ : x_a = List.map ep a), run T C sh (keep 6) L Try.f6 ([.lst oa ca 2 x_a]) ([]) = Option.map (fun r : (List Pt) => ((.frs 2 (List.map ep r), []) : AV × List Blk)) (laws_toPegS L a) := by
 intro oa ca x_a a hx_a
 subst hx_a
 unfold laws_toPegS
 conv => lhs; whnf
 refine t_cond ?_ ?_
 ·conv => lhs; whnf
  refine t_loop (fun (⟨v4, w0⟩ : Int × (List Pt)) => (AV.lst oa ca 2 (List.map ep a) :: topA 2 (AV.own 0 2 none false :: AV.int IntKind.i64 v4 :: tops 18), [Blk.rows Mode.live 2 (List.map ep w0)])) (fun m (⟨v4, w0⟩ : Int × (List Pt)) => laws_toPegS_l0 L a m v4 w0) (fun _ => rfl) (fun m s rec hrec => ?_) L ((0, lrep (ilen (List.map ep a)) ({ x := 0, y := 0 }))) ?_ ?_
  rotate_left
  ·first | rfl | simp only [ml] <;> rfl
  ·first | rfl | simp only [ml] <;> rfl
  obtain ⟨v4, w0⟩ := s
  show _ = Option.map _ (laws_toPegS_l0 L a (m + 1) v4 w0)
  rw [laws_toPegS_l0.eq_2]
  conv => lhs; whnf
  refine t_cond ?_ ?_
  ·conv => lhs; whnf
   refine t_get (en := ep) (l := a) (by first | rfl | simp only [ml] <;> rfl) fun p => ?_
   conv => lhs; whnf
   refine t_call (h_laws_toPeg (Pt.x p) (Pt.y p)) fun r => ?_
   conv => lhs; whnf
   refine t_cond ?_ ?_
   ·conv => lhs; whnf
    refine t_get (en := ep) (l := w0) (by first | rfl | simp only [ml] <;> rfl) fun p1 => ?_
    conv => lhs; whnf
    exact hrec ((wr IntKind.i64 (iadd v4 1), lset w0 v4 ({ x := Prod.fst r, y := Prod.snd r }))) _ _ (by first | rfl | simp only [ml] <;> rfl) (by first | rfl | simp only [ml] <;> rfl)
   ·conv => lhs; whnf
    exact t_none
  ·conv => lhs; whnf
   exact t_ret (by first | rfl | simp only [ml] <;> rfl)
 ·conv => lhs; whnf
  exact t_none
noncomputable def spec_l1In (L : Nat) (a : Int) (b : Int) (c : Int) : Option (Bool) := bif ile b a then (some (ile a c)) else (some false)
def spec_l1In_ok (L : Nat) (C : CF) : Prop := ∀ (a : Int) (b : Int) (c : Int), C 37 ([.int .i64 a, .int .i64 b, .int .i64 c]) ([]) = Option.map (fun r : Bool => ((.bool r, []) : AV × List Blk)) (spec_l1In L a b c)
theorem spec_l1In_run (L : Nat) (C : CF) : ∀ (a : Int) (b : Int) (c : Int), run T C sh (keep 37) L Try.f37 ([.int .i64 a, .int .i64 b, .int .i64 c]) ([]) = Option.map (fun r : Bool => ((.bool r, []) : AV × List Blk)) (spec_l1In L a b c) := by
 intro a b c
 unfold spec_l1In
 conv => lhs; whnf
 refine t_cond ?_ ?_
 ·conv => lhs; whnf
  exact t_ret (by first | rfl | simp only [ml] <;> rfl)
 ·conv => lhs; whnf
  exact t_ret (by first | rfl | simp only [ml] <;> rfl)
noncomputable def spec_pgIs (L : Nat) (a_0 : Int) (a_1 : Int) : Option (Bool) := gbind (spec_l1In L a_0 (-40) 40) fun r => bif r then (gbind (spec_l1In L a_1 (-40) 40) fun r1 => some r1) else (some false)
def spec_pgIs_ok (L : Nat) (C : CF) : Prop := ∀ (a_0 : Int) (a_1 : Int), C 38 ([.agg [.int .i64 a_0, .int .i64 a_1]]) ([]) = Option.map (fun r : Bool => ((.bool r, []) : AV × List Blk)) (spec_pgIs L a_0 a_1)
theorem spec_pgIs_run (L : Nat) (C : CF) (h_spec_l1In : spec_l1In_ok L C) : ∀ (a_0 : Int) (a_1 : Int), run T C sh (keep 38) L Try.f38 ([.agg [.int .i64 a_0, .int .i64 a_1]]) ([]) = Option.map (fun r : Bool => ((.bool r, []) : AV × List Blk)) (spec_pgIs L a_0 a_1) := by
 intro a_0 a_1
 unfold spec_pgIs
 conv => lhs; whnf
 refine t_call (h_spec_l1In a_0 (-40) 40) fun r => ?_
 conv => lhs; whnf
 refine t_cond ?_ ?_
 ·conv => lhs; whnf
  refine t_call (h_spec_l1In a_1 (-40) 40) fun r1 => ?_
  conv => lhs; whnf
  exact t_ret (by first | rfl | simp only [ml] <;> rfl)
 ·conv => lhs; whnf
  exact t_ret (by first | rfl | simp only [ml] <;> rfl)
noncomputable def spec_pgTurn (L : Nat) (a_0 : Int) (a_1 : Int) (b_0 : Int) (b_1 : Int) (c_0 : Int) (c_1 : Int) : Option (Int) := some (wr IntKind.i64 (isub (wr IntKind.i64 (imul (wr IntKind.i64 (isub b_0 a_0)) (wr IntKind.i64 (isub c_1 a_1)))) (wr IntKind.i64 (imul (wr IntKind.i64 (isub b_1 a_1)) (wr IntKind.i64 (isub c_0 a_0))))))
def spec_pgTurn_ok (L : Nat) (C : CF) : Prop := ∀ (a_0 : Int) (a_1 : Int) (b_0 : Int) (b_1 : Int) (c_0 : Int) (c_1 : Int), C 39 ([.agg [.int .i64 a_0, .int .i64 a_1], .agg [.int .i64 b_0, .int .i64 b_1], .agg [.int .i64 c_0, .int .i64 c_1]]) ([]) = Option.map (fun r : Int => ((.int .i64 r, []) : AV × List Blk)) (spec_pgTurn L a_0 a_1 b_0 b_1 c_0 c_1)
theorem spec_pgTurn_run (L : Nat) (C : CF) : ∀ (a_0 : Int) (a_1 : Int) (b_0 : Int) (b_1 : Int) (c_0 : Int) (c_1 : Int), run T C sh (keep 39) L Try.f39 ([.agg [.int .i64 a_0, .int .i64 a_1], .agg [.int .i64 b_0, .int .i64 b_1], .agg [.int .i64 c_0, .int .i64 c_1]]) ([]) = Option.map (fun r : Int => ((.int .i64 r, []) : AV × List Blk)) (spec_pgTurn L a_0 a_1 b_0 b_1 c_0 c_1) := by
 intro a_0 a_1 b_0 b_1 c_0 c_1
 unfold spec_pgTurn
 conv => lhs; whnf
 exact t_ret (by first | rfl | simp only [ml] <;> rfl)
noncomputable def spec_pgOn (L : Nat) (a_0 : Int) (a_1 : Int) (b_0 : Int) (b_1 : Int) (c_0 : Int) (c_1 : Int) : Option (Bool) := gbind (spec_pgTurn L a_0 a_1 b_0 b_1 c_0 c_1) fun r => bif ieq r 0 then (bif ile (wr IntKind.i64 (imul (wr IntKind.i64 (isub a_0 c_0)) (wr IntKind.i64 (isub b_0 c_0)))) 0 then (some (ile (wr IntKind.i64 (imul (wr IntKind.i64 (isub a_1 c_1)) (wr IntKind.i64 (isub b_1 c_1)))) 0)) else (some false)) else (some false)
def spec_pgOn_ok (L : Nat) (C : CF) : Prop := ∀ (a_0 : Int) (a_1 : Int) (b_0 : Int) (b_1 : Int) (c_0 : Int) (c_1 : Int), C 45 ([.agg [.int .i64 a_0, .int .i64 a_1], .agg [.int .i64 b_0, .int .i64 b_1], .agg [.int .i64 c_0, .int .i64 c_1]]) ([]) = Option.map (fun r : Bool => ((.bool r, []) : AV × List Blk)) (spec_pgOn L a_0 a_1 b_0 b_1 c_0 c_1)
theorem spec_pgOn_run (L : Nat) (C : CF) (h_spec_pgTurn : spec_pgTurn_ok L C) : ∀ (a_0 : Int) (a_1 : Int) (b_0 : Int) (b_1 : Int) (c_0 : Int) (c_1 : Int), run T C sh (keep 45) L Try.f45 ([.agg [.int .i64 a_0, .int .i64 a_1], .agg [.int .i64 b_0, .int .i64 b_1], .agg [.int .i64 c_0, .int .i64 c_1]]) ([]) = Option.map (fun r : Bool => ((.bool r, []) : AV × List Blk)) (spec_pgOn L a_0 a_1 b_0 b_1 c_0 c_1) := by
 intro a_0 a_1 b_0 b_1 c_0 c_1
 unfold spec_pgOn
 conv => lhs; whnf
 refine t_call (h_spec_pgTurn a_0 a_1 b_0 b_1 c_0 c_1) fun r => ?_
 conv => lhs; whnf
 refine t_cond ?_ ?_
 ·conv => lhs; whnf
  refine t_cond ?_ ?_
  ·conv => lhs; whnf
   exact t_ret (by first | rfl | simp only [ml] <;> rfl)
  ·conv => lhs; whnf
   exact t_ret (by first | rfl | simp only [ml] <;> rfl)
 ·conv => lhs; whnf
  exact t_ret (by first | rfl | simp only [ml] <;> rfl)
noncomputable def spec_l1Sign (L : Nat) (a : Int) : Option (Int) := bif ilt 0 a then (some 1) else (bif ilt a 0 then (some (-1)) else (some 0))
def spec_l1Sign_ok (L : Nat) (C : CF) : Prop := ∀ (a : Int), C 41 ([.int .i64 a]) ([]) = Option.map (fun r : Int => ((.int .i64 r, []) : AV × List Blk)) (spec_l1Sign L a)
theorem spec_l1Sign_run (L : Nat) (C : CF) : ∀ (a : Int), run T C sh (keep 41) L Try.f41 ([.int .i64 a]) ([]) = Option.map (fun r : Int => ((.int .i64 r, []) : AV × List Blk)) (spec_l1Sign L a) := by
 intro a
 unfold spec_l1Sign
 conv => lhs; whnf
 refine t_cond ?_ ?_
 ·conv => lhs; whnf
  exact t_ret (by first | rfl | simp only [ml] <;> rfl)
 ·conv => lhs; whnf
  refine t_cond ?_ ?_
  ·conv => lhs; whnf
   exact t_ret (by first | rfl | simp only [ml] <;> rfl)
  ·conv => lhs; whnf
   exact t_ret (by first | rfl | simp only [ml] <;> rfl)
noncomputable def spec_pgMeet (L : Nat) (a_0 : Int) (a_1 : Int) (b_0 : Int) (b_1 : Int) (c_0 : Int) (c_1 : Int) (d_0 : Int) (d_1 : Int) : Option (Bool) := gbind (spec_pgOn L a_0 a_1 b_0 b_1 c_0 c_1) fun r => bif r then (some true) else (gbind (spec_pgOn L a_0 a_1 b_0 b_1 d_0 d_1) fun r1 => bif r1 then (some true) else (gbind (spec_pgOn L c_0 c_1 d_0 d_1 a_0 a_1) fun r2 => bif r2 then (some true) else (gbind (spec_pgOn L c_0 c_1 d_0 d_1 b_0 b_1) fun r3 => bif r3 then (some true) else (gbind (spec_pgTurn L a_0 a_1 b_0 b_1 c_0 c_1) fun r4 => gbind (spec_l1Sign L r4) fun r5 => gbind (spec_pgTurn L a_0 a_1 b_0 b_1 d_0 d_1) fun r6 => gbind (spec_l1Sign L r6) fun r7 => bif ilt (wr IntKind.i64 (imul r5 r7)) 0 then (gbind (spec_pgTurn L c_0 c_1 d_0 d_1 a_0 a_1) fun r8 => gbind (spec_l1Sign L r8) fun r9 => gbind (spec_pgTurn L c_0 c_1 d_0 d_1 b_0 b_1) fun r10 => gbind (spec_l1Sign L r10) fun r11 => some (ilt (wr IntKind.i64 (imul r9 r11)) 0)) else (some false)))))
def spec_pgMeet_ok (L : Nat) (C : CF) : Prop := ∀ (a_0 : Int) (a_1 : Int) (b_0 : Int) (b_1 : Int) (c_0 : Int) (c_1 : Int) (d_0 : Int) (d_1 : Int), C 40 ([.agg [.int .i64 a_0, .int .i64 a_1], .agg [.int .i64 b_0, .int .i64 b_1], .agg [.int .i64 c_0, .int .i64 c_1], .agg [.int .i64 d_0, .int .i64 d_1]]) ([]) = Option.map (fun r : Bool => ((.bool r, []) : AV × List Blk)) (spec_pgMeet L a_0 a_1 b_0 b_1 c_0 c_1 d_0 d_1)
theorem spec_pgMeet_run (L : Nat) (C : CF) (h_spec_pgTurn : spec_pgTurn_ok L C) (h_spec_pgOn : spec_pgOn_ok L C) (h_spec_l1Sign : spec_l1Sign_ok L C) : ∀ (a_0 : Int) (a_1 : Int) (b_0 : Int) (b_1 : Int) (c_0 : Int) (c_1 : Int) (d_0 : Int) (d_1 : Int), run T C sh (keep 40) L Try.f40 ([.agg [.int .i64 a_0, .int .i64 a_1], .agg [.int .i64 b_0, .int .i64 b_1], .agg [.int .i64 c_0, .int .i64 c_1], .agg [.int .i64 d_0, .int .i64 d_1]]) ([]) = Option.map (fun r : Bool => ((.bool r, []) : AV × List Blk)) (spec_pgMeet L a_0 a_1 b_0 b_1 c_0 c_1 d_0 d_1) := by
 intro a_0 a_1 b_0 b_1 c_0 c_1 d_0 d_1
 unfold spec_pgMeet
 conv => lhs; whnf
 refine t_call (h_spec_pgOn a_0 a_1 b_0 b_1 c_0 c_1) fun r => ?_
 conv => lhs; whnf
 refine t_cond ?_ ?_
 ·conv => lhs; whnf
  exact t_ret (by first | rfl | simp only [ml] <;> rfl)
 ·conv => lhs; whnf
  refine t_call (h_spec_pgOn a_0 a_1 b_0 b_1 d_0 d_1) fun r1 => ?_
  conv => lhs; whnf
  refine t_cond ?_ ?_
  ·conv => lhs; whnf
   exact t_ret (by first | rfl | simp only [ml] <;> rfl)
  ·conv => lhs; whnf
   refine t_call (h_spec_pgOn c_0 c_1 d_0 d_1 a_0 a_1) fun r2 => ?_
   conv => lhs; whnf
   refine t_cond ?_ ?_
   ·conv => lhs; whnf
    exact t_ret (by first | rfl | simp only [ml] <;> rfl)
   ·conv => lhs; whnf
    refine t_call (h_spec_pgOn c_0 c_1 d_0 d_1 b_0 b_1) fun r3 => ?_
    conv => lhs; whnf
    refine t_cond ?_ ?_
    ·conv => lhs; whnf
     exact t_ret (by first | rfl | simp only [ml] <;> rfl)
    ·conv => lhs; whnf
     refine t_call (h_spec_pgTurn a_0 a_1 b_0 b_1 c_0 c_1) fun r4 => ?_
     conv => lhs; whnf
     refine t_call (h_spec_l1Sign r4) fun r5 => ?_
     conv => lhs; whnf
     refine t_call (h_spec_pgTurn a_0 a_1 b_0 b_1 d_0 d_1) fun r6 => ?_
     conv => lhs; whnf
     refine t_call (h_spec_l1Sign r6) fun r7 => ?_
     conv => lhs; whnf
     refine t_cond ?_ ?_
     ·conv => lhs; whnf
      refine t_call (h_spec_pgTurn c_0 c_1 d_0 d_1 a_0 a_1) fun r8 => ?_
      conv => lhs; whnf
      refine t_call (h_spec_l1Sign r8) fun r9 => ?_
      conv => lhs; whnf
      refine t_call (h_spec_pgTurn c_0 c_1 d_0 d_1 b_0 b_1) fun r10 => ?_
      conv => lhs; whnf
      refine t_call (h_spec_l1Sign r10) fun r11 => ?_
      conv => lhs; whnf
      exact t_ret (by first | rfl | simp only [ml] <;> rfl)
     ·conv => lhs; whnf
      exact t_ret (by first | rfl | simp only [ml] <;> rfl)
noncomputable def spec_pgGood_l1 (L : Nat) (κ0 : (List Pt) → Int → (List Pt) → Int → Int → Option Bool) (v0 : List Pt) (v3 : Int) (v17 : List Pt) (v18 : Int) (v19 : Int) (p : Pt) : Nat → Int → Option Bool
  | 0, _ => none
  | m1 + 1, v31 => bif ilt v31 (ilen (lsub (List.map ep v0) 0 v19)) then (gbind (lget (lsub v0 0 v19) v31) fun p1 => bif ieq (Pt.x p) (Pt.x p1) && ieq (Pt.y p) (Pt.y p1) then (some false) else (spec_pgGood_l1 L κ0 v0 v3 v17 v18 v19 p m1 (wr IntKind.i64 (iadd v31 1)))) else (κ0 v0 v3 v17 v18 (wr IntKind.i64 (iadd v19 1)))
noncomputable def spec_pgGood_l3 (L : Nat) (κ1 : (List Pt) → Int → (List Pt) → Int → Int → Option Bool) (v01 : List Pt) (v32 : Int) (v40 : List Pt) (v41 : Int) (v42 : Int) (p2 : Pt) (p3 : Pt) : Nat → Int → Option Bool
  | 0, _ => none
  | m3 + 1, v11 => bif ilt v11 v32 then (bif ilt (wr IntKind.i64 (isub v11 v42)) (wr IntKind.i64 (isub v32 1)) then (gbind (lget v01 v11) fun p5 => bif ieq v32 0 then (none) else (gbind (lget v01 (irem (wr IntKind.i64 (iadd v11 1)) v32)) fun p6 => gbind (spec_pgMeet L (Pt.x p2) (Pt.y p2) (Pt.x p3) (Pt.y p3) (Pt.x p5) (Pt.y p5) (Pt.x p6) (Pt.y p6)) fun r3 => bif r3 then (some false) else (spec_pgGood_l3 L κ1 v01 v32 v40 v41 v42 p2 p3 m3 (wr IntKind.i64 (iadd v11 1))))) else (κ1 v01 v32 v40 v41 (wr IntKind.i64 (iadd v42 1)))) else (κ1 v01 v32 v40 v41 (wr IntKind.i64 (iadd v42 1)))
noncomputable def spec_pgGood_l2 (L : Nat) : Nat → (List Pt) → Int → (List Pt) → Int → Int → Option Bool
  | 0, _, _, _, _, _ => none
  | m2 + 1, v01, v32, v40, v41, v42 => bif ilt v42 v41 then (gbind (lget v40 v42) fun p2 => bif ieq v32 0 then (none) else (gbind (lget v01 (irem (wr IntKind.i64 (iadd v42 1)) v32)) fun p3 => bif ieq v32 0 then (none) else (gbind (lget v01 (irem (wr IntKind.i64 (iadd v42 2)) v32)) fun p4 => gbind (spec_pgTurn L (Pt.x p2) (Pt.y p2) (Pt.x p3) (Pt.y p3) (Pt.x p4) (Pt.y p4)) fun r2 => bif ieq r2 0 then (some false) else (spec_pgGood_l3 L (spec_pgGood_l2 L m2) v01 v32 v40 v41 v42 p2 p3 L (wr IntKind.i64 (iadd v42 2)))))) else (some true)
noncomputable def spec_pgGood_l0 (L : Nat) : Nat → (List Pt) → Int → (List Pt) → Int → Int → Option Bool
  | 0, _, _, _, _, _ => none
  | m + 1, v0, v3, v17, v18, v19 => bif ilt v19 v18 then (gbind (lget v17 v19) fun p => gbind (spec_pgIs L (Pt.x p) (Pt.y p)) fun r1 => bif !r1 then (some false) else (bif ile 0 v19 && ile v19 (ilen (List.map ep v0)) then (spec_pgGood_l1 L (spec_pgGood_l0 L m) v0 v3 v17 v18 v19 p L 0) else (none))) else (spec_pgGood_l2 L L v0 v3 v0 (ilen (List.map ep v0)) 0)
noncomputable def spec_pgGood (L : Nat) (a : List Pt) : Option (Bool) := gbind (spec_l1In L (ilen (List.map ep a)) 3 10) fun r => bif !r then (some false) else (spec_pgGood_l0 L L a (ilen (List.map ep a)) a (ilen (List.map ep a)) 0)
def spec_pgGood_ok (L : Nat) (C : CF) : Prop := ∀ (oa : Bool) (ca : Bool) (x_a : List AV) (a : List Pt) (_ : x_a = List.map ep a), C 18 ([.lst oa ca 2 x_a]) ([]) = Option.map (fun r : Bool => ((.bool r, []) : AV × List Blk)) (spec_pgGood L a)
theorem spec_pgGood_run (L : Nat) (C : CF) (h_spec_l1In : spec_l1In_ok L C) (h_spec_pgIs : spec_pgIs_ok L C) (h_spec_pgTurn : spec_pgTurn_ok L C) (h_spec_pgMeet : spec_pgMeet_ok L C) : ∀ (oa : Bool) (ca : Bool) (x_a : List AV) (a : List Pt) (_ : x_a = List.map ep a), run T C sh (keep 18) L Try.f18 ([.lst oa ca 2 x_a]) ([]) = Option.map (fun r : Bool => ((.bool r, []) : AV × List Blk)) (spec_pgGood L a) := by
 intro oa ca x_a a hx_a
 subst hx_a
 unfold spec_pgGood
 conv => lhs; whnf
 refine t_call (h_spec_l1In (ilen (List.map ep a)) 3 10) fun r => ?_
 conv => lhs; whnf
 refine t_cond ?_ ?_
 ·conv => lhs; whnf
  exact t_ret (by first | rfl | simp only [ml] <;> rfl)
 ·conv => lhs; whnf
  refine t_loop (fun (⟨v0, v3, v17, v18, v19⟩ : (List Pt) × Int × (List Pt) × Int × Int) => (AV.lst oa ca 2 (List.map ep v0) :: topA 2 (AV.int IntKind.i64 v3 :: topA 13 (AV.lst oa ca 2 (List.map ep v17) :: AV.int IntKind.i64 v18 :: AV.int IntKind.i64 v19 :: tops 75)), [])) (fun m (⟨v0, v3, v17, v18, v19⟩ : (List Pt) × Int × (List Pt) × Int × Int) => spec_pgGood_l0 L m v0 v3 v17 v18 v19) (fun _ => rfl) (fun m s rec hrec => ?_) L ((a, ilen (List.map ep a), a, ilen (List.map ep a), 0)) ?_ ?_
  rotate_left
  ·first | rfl | simp only [ml] <;> rfl
  ·first | rfl | simp only [ml] <;> rfl
  obtain ⟨v0, v3, v17, v18, v19⟩ := s
  show _ = Option.map _ (spec_pgGood_l0 L (m + 1) v0 v3 v17 v18 v19)
  rw [spec_pgGood_l0.eq_2]
  conv => lhs; whnf
  refine t_cond ?_ ?_
  ·conv => lhs; whnf
   refine t_get (en := ep) (l := v17) (by first | rfl | simp only [ml] <;> rfl) fun p => ?_
   conv => lhs; whnf
   refine t_call (h_spec_pgIs (Pt.x p) (Pt.y p)) fun r1 => ?_
   conv => lhs; whnf
   refine t_cond ?_ ?_
   ·conv => lhs; whnf
    exact t_ret (by first | rfl | simp only [ml] <;> rfl)
   ·conv => lhs; whnf
    refine t_cond ?_ ?_
    ·conv => lhs; whnf
     refine t_loop (fun (v31 : Int) => (AV.lst oa ca 2 (List.map ep v0) :: topA 2 (AV.int IntKind.i64 v3 :: AV.top :: AV.ptr 0 0 0 2 :: topA 11 (AV.lst oa ca 2 (List.map ep v17) :: AV.int IntKind.i64 v18 :: AV.int IntKind.i64 v19 :: topA 9 (AV.lst oa false 2 (lsub (List.map ep v0) 0 v19) :: AV.int IntKind.i64 (ilen (lsub (List.map ep v0) 0 v19)) :: AV.int IntKind.i64 v31 :: tops 63))), [Blk.box (AV.agg [AV.int IntKind.i64 (Pt.x p), AV.int IntKind.i64 (Pt.y p)])])) (fun m1 (v31 : Int) => spec_pgGood_l1 L (spec_pgGood_l0 L m) v0 v3 v17 v18 v19 p m1 v31) (fun _ => rfl) (fun m1 v31 rec1 hrec1 => ?_) L 0 ?_ ?_
     rotate_left
     ·first | rfl | simp only [ml] <;> rfl
     ·first | rfl | simp only [ml] <;> rfl
     show _ = Option.map _ (spec_pgGood_l1 L (spec_pgGood_l0 L m) v0 v3 v17 v18 v19 p (m1 + 1) v31)
     rw [spec_pgGood_l1.eq_2]
     conv => lhs; whnf
     refine t_cond ?_ ?_
     ·conv => lhs; whnf
      refine t_get (en := ep) (l := lsub v0 0 v19) (by first | rfl | simp only [ml] <;> rfl) fun p1 => ?_
      conv => lhs; whnf
      refine t_cond ?_ ?_
      ·conv => lhs; whnf
       exact t_ret (by first | rfl | simp only [ml] <;> rfl)
      ·conv => lhs; whnf
       exact hrec1 (wr IntKind.i64 (iadd v31 1)) _ _ (by first | rfl | simp only [ml] <;> rfl) (by first | rfl | simp only [ml] <;> rfl)
     ·conv => lhs; whnf
      exact hrec ((v0, v3, v17, v18, wr IntKind.i64 (iadd v19 1))) _ _ (by first | rfl | simp only [ml] <;> rfl) (by first | rfl | simp only [ml] <;> rfl)
    ·conv => lhs; whnf
     exact t_none
  ·conv => lhs; whnf
   refine t_loop (fun (⟨v01, v32, v40, v41, v42⟩ : (List Pt) × Int × (List Pt) × Int × Int) => (AV.lst oa ca 2 (List.map ep v01) :: topA 2 (AV.int IntKind.i64 v32 :: topA 36 (AV.lst oa ca 2 (List.map ep v40) :: AV.int IntKind.i64 v41 :: AV.int IntKind.i64 v42 :: tops 52)), [])) (fun m2 (⟨v01, v32, v40, v41, v42⟩ : (List Pt) × Int × (List Pt) × Int × Int) => spec_pgGood_l2 L m2 v01 v32 v40 v41 v42) (fun _ => rfl) (fun m2 s2 rec2 hrec2 => ?_) L ((v0, v3, v0, ilen (List.map ep v0), 0)) ?_ ?_
   rotate_left
   ·first | rfl | simp only [ml] <;> rfl
   ·first | rfl | simp only [ml] <;> rfl
   obtain ⟨v01, v32, v40, v41, v42⟩ := s2
   show _ = Option.map _ (spec_pgGood_l2 L (m2 + 1) v01 v32 v40 v41 v42)
   rw [spec_pgGood_l2.eq_2]
   conv => lhs; whnf
   refine t_cond ?_ ?_
   ·conv => lhs; whnf
    refine t_get (en := ep) (l := v40) (by first | rfl | simp only [ml] <;> rfl) fun p2 => ?_
    conv => lhs; whnf
    refine t_cond ?_ ?_
    ·conv => lhs; whnf
     exact t_none
    ·conv => lhs; whnf
     refine t_get (en := ep) (l := v01) (by first | rfl | simp only [ml] <;> rfl) fun p3 => ?_
     conv => lhs; whnf
     refine t_cond ?_ ?_
     ·conv => lhs; whnf
      exact t_none
     ·conv => lhs; whnf
      refine t_get (en := ep) (l := v01) (by first | rfl | simp only [ml] <;> rfl) fun p4 => ?_
      conv => lhs; whnf
      refine t_call (h_spec_pgTurn (Pt.x p2) (Pt.y p2) (Pt.x p3) (Pt.y p3) (Pt.x p4) (Pt.y p4)) fun r2 => ?_
      conv => lhs; whnf
      refine t_cond ?_ ?_
      ·conv => lhs; whnf
       exact t_ret (by first | rfl | simp only [ml] <;> rfl)
      ·conv => lhs; whnf
       refine t_loop (fun (v11 : Int) => (AV.lst oa ca 2 (List.map ep v01) :: topA 2 (AV.int IntKind.i64 v32 :: topA 4 (AV.int IntKind.i64 v42 :: AV.ptr 0 0 0 2 :: AV.ptr 1 0 0 2 :: AV.int IntKind.i64 v11 :: topA 28 (AV.lst oa ca 2 (List.map ep v40) :: AV.int IntKind.i64 v41 :: AV.int IntKind.i64 v42 :: tops 52))), [Blk.box (AV.agg [AV.int IntKind.i64 (Pt.x p2), AV.int IntKind.i64 (Pt.y p2)]), Blk.box (AV.agg [AV.int IntKind.i64 (Pt.x p3), AV.int IntKind.i64 (Pt.y p3)])])) (fun m3 (v11 : Int) => spec_pgGood_l3 L (spec_pgGood_l2 L m2) v01 v32 v40 v41 v42 p2 p3 m3 v11) (fun _ => rfl) (fun m3 v11 rec3 hrec3 => ?_) L (wr IntKind.i64 (iadd v42 2)) ?_ ?_
       rotate_left
       ·first | rfl | simp only [ml] <;> rfl
       ·first | rfl | simp only [ml] <;> rfl
       show _ = Option.map _ (spec_pgGood_l3 L (spec_pgGood_l2 L m2) v01 v32 v40 v41 v42 p2 p3 (m3 + 1) v11)
       rw [spec_pgGood_l3.eq_2]
       conv => lhs; whnf
       refine t_cond ?_ ?_
       ·conv => lhs; whnf
        refine t_cond ?_ ?_
        ·conv => lhs; whnf
         refine t_get (en := ep) (l := v01) (by first | rfl | simp only [ml] <;> rfl) fun p5 => ?_
         conv => lhs; whnf
         refine t_cond ?_ ?_
         ·conv => lhs; whnf
          exact t_none
         ·conv => lhs; whnf
          refine t_get (en := ep) (l := v01) (by first | rfl | simp only [ml] <;> rfl) fun p6 => ?_
          conv => lhs; whnf
          refine t_call (h_spec_pgMeet (Pt.x p2) (Pt.y p2) (Pt.x p3) (Pt.y p3) (Pt.x p5) (Pt.y p5) (Pt.x p6) (Pt.y p6)) fun r3 => ?_
          conv => lhs; whnf
          refine t_cond ?_ ?_
          ·conv => lhs; whnf
           exact t_ret (by first | rfl | simp only [ml] <;> rfl)
          ·conv => lhs; whnf
           exact hrec3 (wr IntKind.i64 (iadd v11 1)) _ _ (by first | rfl | simp only [ml] <;> rfl) (by first | rfl | simp only [ml] <;> rfl)
        ·conv => lhs; whnf
         exact hrec2 ((v01, v32, v40, v41, wr IntKind.i64 (iadd v42 1))) _ _ (by first | rfl | simp only [ml] <;> rfl) (by first | rfl | simp only [ml] <;> rfl)
       ·conv => lhs; whnf
        exact hrec2 ((v01, v32, v40, v41, wr IntKind.i64 (iadd v42 1))) _ _ (by first | rfl | simp only [ml] <;> rfl) (by first | rfl | simp only [ml] <;> rfl)
   ·conv => lhs; whnf
    exact t_ret (by first | rfl | simp only [ml] <;> rfl)
noncomputable def spec_pgArea_l0 (L : Nat) (a : List Pt) : Nat → Int → Int → Option Int
  | 0, _, _ => none
  | m + 1, v3, v4 => bif ilt v4 (ilen (List.map ep a)) then (gbind (lget a 0) fun p => gbind (lget a (wr IntKind.i64 (isub v4 1))) fun p1 => gbind (lget a v4) fun p2 => gbind (spec_pgTurn L (Pt.x p) (Pt.y p) (Pt.x p1) (Pt.y p1) (Pt.x p2) (Pt.y p2)) fun r => spec_pgArea_l0 L a m (wr IntKind.i64 (iadd v3 r)) (wr IntKind.i64 (iadd v4 1))) else (some v3)
noncomputable def spec_pgArea (L : Nat) (a : List Pt) : Option (Int) := spec_pgArea_l0 L a L 0 2
def spec_pgArea_ok (L : Nat) (C : CF) : Prop := ∀ (oa : Bool) (ca : Bool) (x_a : List AV) (a : List Pt) (_ : x_a = List.map ep a), C 42 ([.lst oa ca 2 x_a]) ([]) = Option.map (fun r : Int => ((.int .i64 r, []) : AV × List Blk)) (spec_pgArea L a)
theorem spec_pgArea_run (L : Nat) (C : CF) (h_spec_pgTurn : spec_pgTurn_ok L C) : ∀ (oa : Bool) (ca : Bool) (x_a : List AV) (a : List Pt) (_ : x_a = List.map ep a), run T C sh (keep 42) L Try.f42 ([.lst oa ca 2 x_a]) ([]) = Option.map (fun r : Int => ((.int .i64 r, []) : AV × List Blk)) (spec_pgArea L a) := by
 intro oa ca x_a a hx_a
 subst hx_a
 unfold spec_pgArea
 conv => lhs; whnf
 refine t_loop (fun (⟨v3, v4⟩ : Int × Int) => (AV.lst oa ca 2 (List.map ep a) :: topA 2 (AV.int IntKind.i64 v3 :: AV.int IntKind.i64 v4 :: tops 22), [])) (fun m (⟨v3, v4⟩ : Int × Int) => spec_pgArea_l0 L a m v3 v4) (fun _ => rfl) (fun m s rec hrec => ?_) L ((0, 2)) ?_ ?_
 rotate_left
 ·first | rfl | simp only [ml] <;> rfl
 ·first | rfl | simp only [ml] <;> rfl
 obtain ⟨v3, v4⟩ := s
 show _ = Option.map _ (spec_pgArea_l0 L a (m + 1) v3 v4)
 rw [spec_pgArea_l0.eq_2]
 conv => lhs; whnf
 refine t_cond ?_ ?_
 ·conv => lhs; whnf
  refine t_get (en := ep) (l := a) (by first | rfl | simp only [ml] <;> rfl) fun p => ?_
  conv => lhs; whnf
  refine t_get (en := ep) (l := a) (by first | rfl | simp only [ml] <;> rfl) fun p1 => ?_
  conv => lhs; whnf
  refine t_get (en := ep) (l := a) (by first | rfl | simp only [ml] <;> rfl) fun p2 => ?_
  conv => lhs; whnf
  refine t_call (h_spec_pgTurn (Pt.x p) (Pt.y p) (Pt.x p1) (Pt.y p1) (Pt.x p2) (Pt.y p2)) fun r => ?_
  conv => lhs; whnf
  exact hrec ((wr IntKind.i64 (iadd v3 r), wr IntKind.i64 (iadd v4 1))) _ _ (by first | rfl | simp only [ml] <;> rfl) (by first | rfl | simp only [ml] <;> rfl)
 ·conv => lhs; whnf
  exact t_ret (by first | rfl | simp only [ml] <;> rfl)
noncomputable def spec_pgConvex_l0 (L : Nat) (a : List Pt) (r1 : Int) : Nat → Int → Option Bool
  | 0, _ => none
  | m + 1, v14 => bif ilt v14 (ilen (List.map ep a)) then (gbind (lget a v14) fun p => bif ieq (ilen (List.map ep a)) 0 then (none) else (gbind (lget a (irem (wr IntKind.i64 (iadd v14 1)) (ilen (List.map ep a)))) fun p1 => bif ieq (ilen (List.map ep a)) 0 then (none) else (gbind (lget a (irem (wr IntKind.i64 (iadd v14 2)) (ilen (List.map ep a)))) fun p2 => gbind (spec_pgTurn L (Pt.x p) (Pt.y p) (Pt.x p1) (Pt.y p1) (Pt.x p2) (Pt.y p2)) fun r2 => gbind (spec_l1Sign L r2) fun r3 => bif !ieq r3 r1 then (some false) else (spec_pgConvex_l0 L a r1 m (wr IntKind.i64 (iadd v14 1)))))) else (some true)
noncomputable def spec_pgConvex (L : Nat) (a : List Pt) : Option (Bool) := gbind (spec_pgArea L a) fun r => gbind (spec_l1Sign L r) fun r1 => spec_pgConvex_l0 L a r1 L 0
def spec_pgConvex_ok (L : Nat) (C : CF) : Prop := ∀ (oa : Bool) (ca : Bool) (x_a : List AV) (a : List Pt) (_ : x_a = List.map ep a), C 19 ([.lst oa ca 2 x_a]) ([]) = Option.map (fun r : Bool => ((.bool r, []) : AV × List Blk)) (spec_pgConvex L a)
theorem spec_pgConvex_run (L : Nat) (C : CF) (h_spec_pgTurn : spec_pgTurn_ok L C) (h_spec_l1Sign : spec_l1Sign_ok L C) (h_spec_pgArea : spec_pgArea_ok L C) : ∀ (oa : Bool) (ca : Bool) (x_a : List AV) (a : List Pt) (_ : x_a = List.map ep a), run T C sh (keep 19) L Try.f19 ([.lst oa ca 2 x_a]) ([]) = Option.map (fun r : Bool => ((.bool r, []) : AV × List Blk)) (spec_pgConvex L a) := by
 intro oa ca x_a a hx_a
 subst hx_a
 unfold spec_pgConvex
 conv => lhs; whnf
 refine t_call (h_spec_pgArea _ _ _ a (by first | rfl | simp only [ml] <;> rfl)) fun r => ?_
 conv => lhs; whnf
 refine t_call (h_spec_l1Sign r) fun r1 => ?_
 conv => lhs; whnf
 refine t_loop (fun (v14 : Int) => (AV.lst oa ca 2 (List.map ep a) :: topA 2 (AV.int IntKind.i64 (ilen (List.map ep a)) :: AV.int IntKind.i64 r1 :: topA 7 (AV.lst oa ca 2 (List.map ep a) :: AV.int IntKind.i64 (ilen (List.map ep a)) :: AV.int IntKind.i64 v14 :: tops 24)), [])) (fun m (v14 : Int) => spec_pgConvex_l0 L a r1 m v14) (fun _ => rfl) (fun m v14 rec hrec => ?_) L 0 ?_ ?_
 rotate_left
 ·first | rfl | simp only [ml] <;> rfl
 ·first | rfl | simp only [ml] <;> rfl
 show _ = Option.map _ (spec_pgConvex_l0 L a r1 (m + 1) v14)
 rw [spec_pgConvex_l0.eq_2]
 conv => lhs; whnf
 refine t_cond ?_ ?_
 ·conv => lhs; whnf
  refine t_get (en := ep) (l := a) (by first | rfl | simp only [ml] <;> rfl) fun p => ?_
  conv => lhs; whnf
  refine t_cond ?_ ?_
  ·conv => lhs; whnf
   exact t_none
  ·conv => lhs; whnf
   refine t_get (en := ep) (l := a) (by first | rfl | simp only [ml] <;> rfl) fun p1 => ?_
   conv => lhs; whnf
   refine t_cond ?_ ?_
   ·conv => lhs; whnf
    exact t_none
   ·conv => lhs; whnf
    refine t_get (en := ep) (l := a) (by first | rfl | simp only [ml] <;> rfl) fun p2 => ?_
    conv => lhs; whnf
    refine t_call (h_spec_pgTurn (Pt.x p) (Pt.y p) (Pt.x p1) (Pt.y p1) (Pt.x p2) (Pt.y p2)) fun r2 => ?_
    conv => lhs; whnf
    refine t_call (h_spec_l1Sign r2) fun r3 => ?_
    conv => lhs; whnf
    refine t_cond ?_ ?_
    ·conv => lhs; whnf
     exact t_ret (by first | rfl | simp only [ml] <;> rfl)
    ·conv => lhs; whnf
     exact hrec (wr IntKind.i64 (iadd v14 1)) _ _ (by first | rfl | simp only [ml] <;> rfl) (by first | rfl | simp only [ml] <;> rfl)
 ·conv => lhs; whnf
  exact t_ret (by first | rfl | simp only [ml] <;> rfl)
noncomputable def spec_l1Most (L : Nat) (a : Int) (b : Int) : Option (Int) := bif ilt b a then (some a) else (some b)
def spec_l1Most_ok (L : Nat) (C : CF) : Prop := ∀ (a : Int) (b : Int), C 66 ([.int .i64 a, .int .i64 b]) ([]) = Option.map (fun r : Int => ((.int .i64 r, []) : AV × List Blk)) (spec_l1Most L a b)
theorem spec_l1Most_run (L : Nat) (C : CF) : ∀ (a : Int) (b : Int), run T C sh (keep 66) L Try.f66 ([.int .i64 a, .int .i64 b]) ([]) = Option.map (fun r : Int => ((.int .i64 r, []) : AV × List Blk)) (spec_l1Most L a b) := by
 intro a b
 unfold spec_l1Most
 conv => lhs; whnf
 refine t_cond ?_ ?_
 ·conv => lhs; whnf
  exact t_ret (by first | rfl | simp only [ml] <;> rfl)
 ·conv => lhs; whnf
  exact t_ret (by first | rfl | simp only [ml] <;> rfl)
noncomputable def spec_l1Abs (L : Nat) (a : Int) : Option (Int) := gbind (spec_l1Most L a (wr IntKind.i64 (isub 0 a))) fun r => some r
def spec_l1Abs_ok (L : Nat) (C : CF) : Prop := ∀ (a : Int), C 43 ([.int .i64 a]) ([]) = Option.map (fun r : Int => ((.int .i64 r, []) : AV × List Blk)) (spec_l1Abs L a)
theorem spec_l1Abs_run (L : Nat) (C : CF) (h_spec_l1Most : spec_l1Most_ok L C) : ∀ (a : Int), run T C sh (keep 43) L Try.f43 ([.int .i64 a]) ([]) = Option.map (fun r : Int => ((.int .i64 r, []) : AV × List Blk)) (spec_l1Abs L a) := by
 intro a
 unfold spec_l1Abs
 conv => lhs; whnf
 refine t_call (h_spec_l1Most a (wr IntKind.i64 (isub 0 a))) fun r => ?_
 conv => lhs; whnf
 exact t_ret (by first | rfl | simp only [ml] <;> rfl)
noncomputable def spec_pgCommon_l0 (L : Nat) : Nat → Int → Int → Option Int
  | 0, _, _ => none
  | m + 1, v0, v1 => bif ilt 0 v1 then (bif ieq v1 0 then (none) else (spec_pgCommon_l0 L m v1 (irem v0 v1))) else (some v0)
noncomputable def spec_pgCommon (L : Nat) (a : Int) (b : Int) : Option (Int) := gbind (spec_l1Abs L a) fun r => gbind (spec_l1Abs L b) fun r1 => spec_pgCommon_l0 L L r r1
def spec_pgCommon_ok (L : Nat) (C : CF) : Prop := ∀ (a : Int) (b : Int), C 50 ([.int .i64 a, .int .i64 b]) ([]) = Option.map (fun r : Int => ((.int .i64 r, []) : AV × List Blk)) (spec_pgCommon L a b)
theorem spec_pgCommon_run (L : Nat) (C : CF) (h_spec_l1Abs : spec_l1Abs_ok L C) : ∀ (a : Int) (b : Int), run T C sh (keep 50) L Try.f50 ([.int .i64 a, .int .i64 b]) ([]) = Option.map (fun r : Int => ((.int .i64 r, []) : AV × List Blk)) (spec_pgCommon L a b) := by
 intro a b
 unfold spec_pgCommon
 conv => lhs; whnf
 refine t_call (h_spec_l1Abs a) fun r => ?_
 conv => lhs; whnf
 refine t_call (h_spec_l1Abs b) fun r1 => ?_
 conv => lhs; whnf
 refine t_loop (fun (⟨v0, v1⟩ : Int × Int) => (AV.int IntKind.i64 v0 :: AV.int IntKind.i64 v1 :: tops 14, [])) (fun m (⟨v0, v1⟩ : Int × Int) => spec_pgCommon_l0 L m v0 v1) (fun _ => rfl) (fun m s rec hrec => ?_) L ((r, r1)) ?_ ?_
 rotate_left
 ·first | rfl | simp only [ml] <;> rfl
 ·first | rfl | simp only [ml] <;> rfl
 obtain ⟨v0, v1⟩ := s
 show _ = Option.map _ (spec_pgCommon_l0 L (m + 1) v0 v1)
 rw [spec_pgCommon_l0.eq_2]
 conv => lhs; whnf
 refine t_cond ?_ ?_
 ·conv => lhs; whnf
  refine t_cond ?_ ?_
  ·conv => lhs; whnf
   exact t_none
  ·conv => lhs; whnf
   exact hrec ((v1, irem v0 v1)) _ _ (by first | rfl | simp only [ml] <;> rfl) (by first | rfl | simp only [ml] <;> rfl)
 ·conv => lhs; whnf
  exact t_ret (by first | rfl | simp only [ml] <;> rfl)
noncomputable def spec_pgStep (L : Nat) (a_0 : Int) (a_1 : Int) (b_0 : Int) (b_1 : Int) : Option (Int) := gbind (spec_pgCommon L (wr IntKind.i64 (isub a_0 b_0)) (wr IntKind.i64 (isub a_1 b_1))) fun r => some r
def spec_pgStep_ok (L : Nat) (C : CF) : Prop := ∀ (a_0 : Int) (a_1 : Int) (b_0 : Int) (b_1 : Int), C 27 ([.agg [.int .i64 a_0, .int .i64 a_1], .agg [.int .i64 b_0, .int .i64 b_1]]) ([]) = Option.map (fun r : Int => ((.int .i64 r, []) : AV × List Blk)) (spec_pgStep L a_0 a_1 b_0 b_1)
theorem spec_pgStep_run (L : Nat) (C : CF) (h_spec_pgCommon : spec_pgCommon_ok L C) : ∀ (a_0 : Int) (a_1 : Int) (b_0 : Int) (b_1 : Int), run T C sh (keep 27) L Try.f27 ([.agg [.int .i64 a_0, .int .i64 a_1], .agg [.int .i64 b_0, .int .i64 b_1]]) ([]) = Option.map (fun r : Int => ((.int .i64 r, []) : AV × List Blk)) (spec_pgStep L a_0 a_1 b_0 b_1) := by
 intro a_0 a_1 b_0 b_1
 unfold spec_pgStep
 conv => lhs; whnf
 refine t_call (h_spec_pgCommon (wr IntKind.i64 (isub a_0 b_0)) (wr IntKind.i64 (isub a_1 b_1))) fun r => ?_
 conv => lhs; whnf
 exact t_ret (by first | rfl | simp only [ml] <;> rfl)
noncomputable def spec_pgRound_l0 (L : Nat) (a : List Pt) : Nat → Int → Int → Option Int
  | 0, _, _ => none
  | m + 1, v3, v8 => bif ilt v8 (ilen (List.map ep a)) then (gbind (lget a v8) fun p => bif ieq (ilen (List.map ep a)) 0 then (none) else (gbind (lget a (irem (wr IntKind.i64 (iadd v8 1)) (ilen (List.map ep a)))) fun p1 => gbind (spec_pgStep L (Pt.x p) (Pt.y p) (Pt.x p1) (Pt.y p1)) fun r => spec_pgRound_l0 L a m (wr IntKind.i64 (iadd v3 r)) (wr IntKind.i64 (iadd v8 1)))) else (some v3)
noncomputable def spec_pgRound (L : Nat) (a : List Pt) : Option (Int) := spec_pgRound_l0 L a L 0 0
def spec_pgRound_ok (L : Nat) (C : CF) : Prop := ∀ (oa : Bool) (ca : Bool) (x_a : List AV) (a : List Pt) (_ : x_a = List.map ep a), C 44 ([.lst oa ca 2 x_a]) ([]) = Option.map (fun r : Int => ((.int .i64 r, []) : AV × List Blk)) (spec_pgRound L a)
theorem spec_pgRound_run (L : Nat) (C : CF) (h_spec_pgStep : spec_pgStep_ok L C) : ∀ (oa : Bool) (ca : Bool) (x_a : List AV) (a : List Pt) (_ : x_a = List.map ep a), run T C sh (keep 44) L Try.f44 ([.lst oa ca 2 x_a]) ([]) = Option.map (fun r : Int => ((.int .i64 r, []) : AV × List Blk)) (spec_pgRound L a) := by
 intro oa ca x_a a hx_a
 subst hx_a
 unfold spec_pgRound
 conv => lhs; whnf
 refine t_loop (fun (⟨v3, v8⟩ : Int × Int) => (AV.lst oa ca 2 (List.map ep a) :: topA 2 (AV.int IntKind.i64 v3 :: topA 2 (AV.lst oa ca 2 (List.map ep a) :: AV.int IntKind.i64 (ilen (List.map ep a)) :: AV.int IntKind.i64 v8 :: tops 18)), [])) (fun m (⟨v3, v8⟩ : Int × Int) => spec_pgRound_l0 L a m v3 v8) (fun _ => rfl) (fun m s rec hrec => ?_) L ((0, 0)) ?_ ?_
 rotate_left
 ·first | rfl | simp only [ml] <;> rfl
 ·first | rfl | simp only [ml] <;> rfl
 obtain ⟨v3, v8⟩ := s
 show _ = Option.map _ (spec_pgRound_l0 L a (m + 1) v3 v8)
 rw [spec_pgRound_l0.eq_2]
 conv => lhs; whnf
 refine t_cond ?_ ?_
 ·conv => lhs; whnf
  refine t_get (en := ep) (l := a) (by first | rfl | simp only [ml] <;> rfl) fun p => ?_
  conv => lhs; whnf
  refine t_cond ?_ ?_
  ·conv => lhs; whnf
   exact t_none
  ·conv => lhs; whnf
   refine t_get (en := ep) (l := a) (by first | rfl | simp only [ml] <;> rfl) fun p1 => ?_
   conv => lhs; whnf
   refine t_call (h_spec_pgStep (Pt.x p) (Pt.y p) (Pt.x p1) (Pt.y p1)) fun r => ?_
   conv => lhs; whnf
   exact hrec ((wr IntKind.i64 (iadd v3 r), wr IntKind.i64 (iadd v8 1))) _ _ (by first | rfl | simp only [ml] <;> rfl) (by first | rfl | simp only [ml] <;> rfl)
 ·conv => lhs; whnf
  exact t_ret (by first | rfl | simp only [ml] <;> rfl)
noncomputable def spec_pgInside (L : Nat) (a : List Pt) : Option (Int) := gbind (spec_pgArea L a) fun r => gbind (spec_l1Abs L r) fun r1 => gbind (spec_pgRound L a) fun r2 => bif ieq 2 0 then (none) else (some (wr IntKind.i64 (iquo (wr IntKind.i64 (isub (wr IntKind.i64 (iadd r1 2)) r2)) 2)))
def spec_pgInside_ok (L : Nat) (C : CF) : Prop := ∀ (oa : Bool) (ca : Bool) (x_a : List AV) (a : List Pt) (_ : x_a = List.map ep a), C 20 ([.lst oa ca 2 x_a]) ([]) = Option.map (fun r : Int => ((.int .i64 r, []) : AV × List Blk)) (spec_pgInside L a)
theorem spec_pgInside_run (L : Nat) (C : CF) (h_spec_pgArea : spec_pgArea_ok L C) (h_spec_l1Abs : spec_l1Abs_ok L C) (h_spec_pgRound : spec_pgRound_ok L C) : ∀ (oa : Bool) (ca : Bool) (x_a : List AV) (a : List Pt) (_ : x_a = List.map ep a), run T C sh (keep 20) L Try.f20 ([.lst oa ca 2 x_a]) ([]) = Option.map (fun r : Int => ((.int .i64 r, []) : AV × List Blk)) (spec_pgInside L a) := by
 intro oa ca x_a a hx_a
 subst hx_a
 unfold spec_pgInside
 conv => lhs; whnf
 refine t_call (h_spec_pgArea _ _ _ a (by first | rfl | simp only [ml] <;> rfl)) fun r => ?_
 conv => lhs; whnf
 refine t_call (h_spec_l1Abs r) fun r1 => ?_
 conv => lhs; whnf
 refine t_call (h_spec_pgRound _ _ _ a (by first | rfl | simp only [ml] <;> rfl)) fun r2 => ?_
 conv => lhs; whnf
 refine t_cond ?_ ?_
 ·conv => lhs; whnf
  exact t_none
 ·conv => lhs; whnf
  exact t_ret (by first | rfl | simp only [ml] <;> rfl)
noncomputable def spec_pgWhere_l0 (L : Nat) (a : List Pt) (b_0 : Int) (b_1 : Int) : Nat → Bool → Int → Option Int
  | 0, _, _ => none
  | m + 1, v5, v13 => bif ilt v13 (ilen (List.map ep a)) then (gbind (lget a v13) fun p => bif ieq (ilen (List.map ep a)) 0 then (none) else (gbind (lget a (irem (wr IntKind.i64 (iadd v13 1)) (ilen (List.map ep a)))) fun p1 => gbind (spec_pgOn L (Pt.x p) (Pt.y p) (Pt.x p1) (Pt.y p1) b_0 b_1) fun r => bif r then (some 0) else (bif ilt (Pt.y p1) (Pt.y p) then (bif ile (Pt.y p1) b_1 then (bif ilt b_1 (Pt.y p) then (gbind (spec_pgTurn L (Pt.x p1) (Pt.y p1) (Pt.x p) (Pt.y p) b_0 b_1) fun r1 => bif ilt 0 r1 then (spec_pgWhere_l0 L a b_0 b_1 m (!v5) (wr IntKind.i64 (iadd v13 1))) else (spec_pgWhere_l0 L a b_0 b_1 m v5 (wr IntKind.i64 (iadd v13 1)))) else (spec_pgWhere_l0 L a b_0 b_1 m v5 (wr IntKind.i64 (iadd v13 1)))) else (spec_pgWhere_l0 L a b_0 b_1 m v5 (wr IntKind.i64 (iadd v13 1)))) else (bif ile (Pt.y p) b_1 then (bif ilt b_1 (Pt.y p1) then (gbind (spec_pgTurn L (Pt.x p) (Pt.y p) (Pt.x p1) (Pt.y p1) b_0 b_1) fun r2 => bif ilt 0 r2 then (spec_pgWhere_l0 L a b_0 b_1 m (!v5) (wr IntKind.i64 (iadd v13 1))) else (spec_pgWhere_l0 L a b_0 b_1 m v5 (wr IntKind.i64 (iadd v13 1)))) else (spec_pgWhere_l0 L a b_0 b_1 m v5 (wr IntKind.i64 (iadd v13 1)))) else (spec_pgWhere_l0 L a b_0 b_1 m v5 (wr IntKind.i64 (iadd v13 1))))))) else (bif v5 then (some 1) else (some (-1)))
noncomputable def spec_pgWhere (L : Nat) (a : List Pt) (b_0 : Int) (b_1 : Int) : Option (Int) := spec_pgWhere_l0 L a b_0 b_1 L false 0
def spec_pgWhere_ok (L : Nat) (C : CF) : Prop := ∀ (oa : Bool) (ca : Bool) (x_a : List AV) (a : List Pt) (_ : x_a = List.map ep a) (b_0 : Int) (b_1 : Int), C 21 ([.lst oa ca 2 x_a, .agg [.int .i64 b_0, .int .i64 b_1]]) ([]) = Option.map (fun r : Int => ((.int .i64 r, []) : AV × List Blk)) (spec_pgWhere L a b_0 b_1)
theorem spec_pgWhere_run (L : Nat) (C : CF) (h_spec_pgTurn : spec_pgTurn_ok L C) (h_spec_pgOn : spec_pgOn_ok L C) : ∀ (oa : Bool) (ca : Bool) (x_a : List AV) (a : List Pt) (_ : x_a = List.map ep a) (b_0 : Int) (b_1 : Int), run T C sh (keep 21) L Try.f21 ([.lst oa ca 2 x_a, .agg [.int .i64 b_0, .int .i64 b_1]]) ([]) = Option.map (fun r : Int => ((.int .i64 r, []) : AV × List Blk)) (spec_pgWhere L a b_0 b_1) := by
 intro oa ca x_a a hx_a b_0 b_1
 subst hx_a
 unfold spec_pgWhere
 conv => lhs; whnf
 refine t_loop (fun (⟨v5, v13⟩ : Bool × Int) => (AV.lst oa ca 2 (List.map ep a) :: topA 2 (AV.ptr 0 0 0 2 :: AV.top :: AV.bool v5 :: topA 5 (AV.lst oa ca 2 (List.map ep a) :: AV.int IntKind.i64 (ilen (List.map ep a)) :: AV.int IntKind.i64 v13 :: tops 48)), [Blk.box (AV.agg [AV.int IntKind.i64 b_0, AV.int IntKind.i64 b_1])])) (fun m (⟨v5, v13⟩ : Bool × Int) => spec_pgWhere_l0 L a b_0 b_1 m v5 v13) (fun _ => rfl) (fun m s rec hrec => ?_) L ((false, 0)) ?_ ?_
 rotate_left
 ·first | rfl | simp only [ml] <;> rfl
 ·first | rfl | simp only [ml] <;> rfl
 obtain ⟨v5, v13⟩ := s
 show _ = Option.map _ (spec_pgWhere_l0 L a b_0 b_1 (m + 1) v5 v13)
 rw [spec_pgWhere_l0.eq_2]
 conv => lhs; whnf
 refine t_cond ?_ ?_
 ·conv => lhs; whnf
  refine t_get (en := ep) (l := a) (by first | rfl | simp only [ml] <;> rfl) fun p => ?_
  conv => lhs; whnf
  refine t_cond ?_ ?_
  ·conv => lhs; whnf
   exact t_none
  ·conv => lhs; whnf
   refine t_get (en := ep) (l := a) (by first | rfl | simp only [ml] <;> rfl) fun p1 => ?_
   conv => lhs; whnf
   refine t_call (h_spec_pgOn (Pt.x p) (Pt.y p) (Pt.x p1) (Pt.y p1) b_0 b_1) fun r => ?_
   conv => lhs; whnf
   refine t_cond ?_ ?_
   ·conv => lhs; whnf
    exact t_ret (by first | rfl | simp only [ml] <;> rfl)
   ·conv => lhs; whnf
    refine t_cond ?_ ?_
    ·conv => lhs; whnf
     refine t_cond ?_ ?_
     ·conv => lhs; whnf
      refine t_cond ?_ ?_
      ·conv => lhs; whnf
       refine t_call (h_spec_pgTurn (Pt.x p1) (Pt.y p1) (Pt.x p) (Pt.y p) b_0 b_1) fun r1 => ?_
       conv => lhs; whnf
       refine t_cond ?_ ?_
       ·conv => lhs; whnf
        exact hrec ((!v5, wr IntKind.i64 (iadd v13 1))) _ _ (by first | rfl | simp only [ml] <;> rfl) (by first | rfl | simp only [ml] <;> rfl)
       ·conv => lhs; whnf
        exact hrec ((v5, wr IntKind.i64 (iadd v13 1))) _ _ (by first | rfl | simp only [ml] <;> rfl) (by first | rfl | simp only [ml] <;> rfl)
      ·conv => lhs; whnf
       exact hrec ((v5, wr IntKind.i64 (iadd v13 1))) _ _ (by first | rfl | simp only [ml] <;> rfl) (by first | rfl | simp only [ml] <;> rfl)
     ·conv => lhs; whnf
      exact hrec ((v5, wr IntKind.i64 (iadd v13 1))) _ _ (by first | rfl | simp only [ml] <;> rfl) (by first | rfl | simp only [ml] <;> rfl)
    ·conv => lhs; whnf
     refine t_cond ?_ ?_
     ·conv => lhs; whnf
      refine t_cond ?_ ?_
      ·conv => lhs; whnf
       refine t_call (h_spec_pgTurn (Pt.x p) (Pt.y p) (Pt.x p1) (Pt.y p1) b_0 b_1) fun r2 => ?_
       conv => lhs; whnf
       refine t_cond ?_ ?_
       ·conv => lhs; whnf
        exact hrec ((!v5, wr IntKind.i64 (iadd v13 1))) _ _ (by first | rfl | simp only [ml] <;> rfl) (by first | rfl | simp only [ml] <;> rfl)
       ·conv => lhs; whnf
        exact hrec ((v5, wr IntKind.i64 (iadd v13 1))) _ _ (by first | rfl | simp only [ml] <;> rfl) (by first | rfl | simp only [ml] <;> rfl)
      ·conv => lhs; whnf
       exact hrec ((v5, wr IntKind.i64 (iadd v13 1))) _ _ (by first | rfl | simp only [ml] <;> rfl) (by first | rfl | simp only [ml] <;> rfl)
     ·conv => lhs; whnf
      exact hrec ((v5, wr IntKind.i64 (iadd v13 1))) _ _ (by first | rfl | simp only [ml] <;> rfl) (by first | rfl | simp only [ml] <;> rfl)
 ·conv => lhs; whnf
  refine t_cond ?_ ?_
  ·conv => lhs; whnf
   exact t_ret (by first | rfl | simp only [ml] <;> rfl)
  ·conv => lhs; whnf
   exact t_ret (by first | rfl | simp only [ml] <;> rfl)
noncomputable def spec_duOne (L : Nat) (a : List Pt) : Option (Bool) := gbind (spec_pgGood L a) fun r => bif !r then (some false) else (gbind (spec_pgConvex L a) fun r1 => bif !r1 then (some false) else (gbind (spec_pgInside L a) fun r2 => bif !ieq r2 1 then (some false) else (gbind (spec_pgWhere L a 0 0) fun r3 => some (ilt 0 r3))))
def spec_duOne_ok (L : Nat) (C : CF) : Prop := ∀ (oa : Bool) (ca : Bool) (x_a : List AV) (a : List Pt) (_ : x_a = List.map ep a), C 9 ([.lst oa ca 2 x_a]) ([]) = Option.map (fun r : Bool => ((.bool r, []) : AV × List Blk)) (spec_duOne L a)
theorem spec_duOne_run (L : Nat) (C : CF) (h_spec_pgGood : spec_pgGood_ok L C) (h_spec_pgConvex : spec_pgConvex_ok L C) (h_spec_pgInside : spec_pgInside_ok L C) (h_spec_pgWhere : spec_pgWhere_ok L C) : ∀ (oa : Bool) (ca : Bool) (x_a : List AV) (a : List Pt) (_ : x_a = List.map ep a), run T C sh (keep 9) L Try.f9 ([.lst oa ca 2 x_a]) ([]) = Option.map (fun r : Bool => ((.bool r, []) : AV × List Blk)) (spec_duOne L a) := by
 intro oa ca x_a a hx_a
 subst hx_a
 unfold spec_duOne
 conv => lhs; whnf
 refine t_call (h_spec_pgGood _ _ _ a (by first | rfl | simp only [ml] <;> rfl)) fun r => ?_
 conv => lhs; whnf
 refine t_cond ?_ ?_
 ·conv => lhs; whnf
  exact t_ret (by first | rfl | simp only [ml] <;> rfl)
 ·conv => lhs; whnf
  refine t_call (h_spec_pgConvex _ _ _ a (by first | rfl | simp only [ml] <;> rfl)) fun r1 => ?_
  conv => lhs; whnf
  refine t_cond ?_ ?_
  ·conv => lhs; whnf
   exact t_ret (by first | rfl | simp only [ml] <;> rfl)
  ·conv => lhs; whnf
   refine t_call (h_spec_pgInside _ _ _ a (by first | rfl | simp only [ml] <;> rfl)) fun r2 => ?_
   conv => lhs; whnf
   refine t_cond ?_ ?_
   ·conv => lhs; whnf
    exact t_ret (by first | rfl | simp only [ml] <;> rfl)
   ·conv => lhs; whnf
    refine t_call (h_spec_pgWhere _ _ _ a (by first | rfl | simp only [ml] <;> rfl) 0 0) fun r3 => ?_
    conv => lhs; whnf
    exact t_ret (by first | rfl | simp only [ml] <;> rfl)
noncomputable def spec_pgBack_l0 (L : Nat) (a : List Pt) : Nat → Int → (List Pt) → Option ((List Pt))
  | 0, _, _ => none
  | m + 1, v4, w0 => bif ilt 0 v4 then (gbind (lget a v4) fun p1 => bif fits (iadd (ilen (List.map ep w0)) (ilen [AV.agg [AV.int IntKind.i64 (Pt.x p1), AV.int IntKind.i64 (Pt.y p1)]])) 16 then (spec_pgBack_l0 L a m (wr IntKind.i64 (isub v4 1)) (lcat w0 (p1 :: []))) else (none)) else (some w0)
noncomputable def spec_pgBack (L : Nat) (a : List Pt) : Option ((List Pt)) := gbind (lget a 0) fun p => spec_pgBack_l0 L a L (wr IntKind.i64 (isub (ilen (List.map ep a)) 1)) (p :: [])
def spec_pgBack_ok (L : Nat) (C : CF) : Prop := ∀ (oa : Bool) (ca : Bool) (x_a : List AV) (a : List Pt) (_ : x_a = List.map ep a), C 48 ([.lst oa ca 2 x_a]) ([]) = Option.map (fun r : (List Pt) => ((.frs 2 (List.map ep r), []) : AV × List Blk)) (spec_pgBack L a)
theorem spec_pgBack_run (L : Nat) (C : CF) : ∀ (oa : Bool) (ca : Bool) (x_a : List AV) (a : List Pt) (_ : x_a = List.map ep a), run T C sh (keep 48) L Try.f48 ([.lst oa ca 2 x_a]) ([]) = Option.map (fun r : (List Pt) => ((.frs 2 (List.map ep r), []) : AV × List Blk)) (spec_pgBack L a) := by
 intro oa ca x_a a hx_a
 subst hx_a
 unfold spec_pgBack
 conv => lhs; whnf
 refine t_get (en := ep) (l := a) (by first | rfl | simp only [ml] <;> rfl) fun p => ?_
 conv => lhs; whnf
 refine t_loop (fun (⟨v4, w0⟩ : Int × (List Pt)) => (AV.lst oa ca 2 (List.map ep a) :: topA 2 (AV.own 0 2 none false :: AV.int IntKind.i64 v4 :: tops 19), [Blk.rows Mode.live 2 (List.map ep w0)])) (fun m (⟨v4, w0⟩ : Int × (List Pt)) => spec_pgBack_l0 L a m v4 w0) (fun _ => rfl) (fun m s rec hrec => ?_) L ((wr IntKind.i64 (isub (ilen (List.map ep a)) 1), p :: [])) ?_ ?_
 rotate_left
 ·first | rfl | simp only [ml] <;> rfl
 ·first | rfl | simp only [ml] <;> rfl
 obtain ⟨v4, w0⟩ := s
 show _ = Option.map _ (spec_pgBack_l0 L a (m + 1) v4 w0)
 rw [spec_pgBack_l0.eq_2]
 conv => lhs; whnf
 refine t_cond ?_ ?_
 ·conv => lhs; whnf
  refine t_get (en := ep) (l := a) (by first | rfl | simp only [ml] <;> rfl) fun p1 => ?_
  conv => lhs; whnf
  refine t_cond ?_ ?_
  ·conv => lhs; whnf
   exact hrec ((wr IntKind.i64 (isub v4 1), lcat w0 (p1 :: []))) _ _ (by first | rfl | simp only [ml] <;> rfl) (by first | rfl | simp only [ml] <;> rfl)
  ·conv => lhs; whnf
   exact t_none
 ·conv => lhs; whnf
  exact t_ret (by first | rfl | simp only [ml] <;> rfl)
noncomputable def spec_pgLess (L : Nat) (a_0 : Int) (a_1 : Int) (b_0 : Int) (b_1 : Int) : Option (Bool) := bif ilt a_0 b_0 then (some true) else (bif ieq a_0 b_0 then (some (ilt a_1 b_1)) else (some false))
def spec_pgLess_ok (L : Nat) (C : CF) : Prop := ∀ (a_0 : Int) (a_1 : Int) (b_0 : Int) (b_1 : Int), C 49 ([.agg [.int .i64 a_0, .int .i64 a_1], .agg [.int .i64 b_0, .int .i64 b_1]]) ([]) = Option.map (fun r : Bool => ((.bool r, []) : AV × List Blk)) (spec_pgLess L a_0 a_1 b_0 b_1)
theorem spec_pgLess_run (L : Nat) (C : CF) : ∀ (a_0 : Int) (a_1 : Int) (b_0 : Int) (b_1 : Int), run T C sh (keep 49) L Try.f49 ([.agg [.int .i64 a_0, .int .i64 a_1], .agg [.int .i64 b_0, .int .i64 b_1]]) ([]) = Option.map (fun r : Bool => ((.bool r, []) : AV × List Blk)) (spec_pgLess L a_0 a_1 b_0 b_1) := by
 intro a_0 a_1 b_0 b_1
 unfold spec_pgLess
 conv => lhs; whnf
 refine t_cond ?_ ?_
 ·conv => lhs; whnf
  exact t_ret (by first | rfl | simp only [ml] <;> rfl)
 ·conv => lhs; whnf
  refine t_cond ?_ ?_
  ·conv => lhs; whnf
   exact t_ret (by first | rfl | simp only [ml] <;> rfl)
  ·conv => lhs; whnf
   exact t_ret (by first | rfl | simp only [ml] <;> rfl)
noncomputable def spec_pgFirst_l0 (L : Nat) (r1 : List Pt) : Nat → Int → Int → Option ((List Pt))
  | 0, _, _ => none
  | m + 1, v3, v13 => bif ilt v13 (ilen (List.map ep r1)) then (bif ile 0 v13 && ilt v13 (ilen (List.map ep r1)) then (gbind (lget r1 v13) fun p => bif ile 0 v3 && ilt v3 (ilen (List.map ep r1)) then (gbind (lget r1 v3) fun p1 => gbind (spec_pgLess L (Pt.x p) (Pt.y p) (Pt.x p1) (Pt.y p1)) fun r2 => bif r2 then (spec_pgFirst_l0 L r1 m v13 (wr IntKind.i64 (iadd v13 1))) else (spec_pgFirst_l0 L r1 m v3 (wr IntKind.i64 (iadd v13 1)))) else (none)) else (none)) else (bif ile 0 v3 && ile v3 (ilen (List.map ep r1)) then (bif ile 0 v3 && ile v3 (ilen (List.map ep r1)) then (bif fits (iadd (ilen ([] : List AV)) (ilen (lsub (List.map ep r1) v3 (iadd v3 (isub (ilen (List.map ep r1)) v3))))) 16 then (bif fits (iadd (ilen (lcat [] (lsub (List.map ep r1) v3 (iadd v3 (isub (ilen (List.map ep r1)) v3))))) (ilen (lsub (List.map ep r1) 0 (iadd 0 v3)))) 16 then (some (lcat (lcat [] (lsub r1 v3 (iadd v3 (isub (ilen (List.map ep r1)) v3)))) (lsub r1 0 (iadd 0 v3)))) else (none)) else (none)) else (none)) else (none))
noncomputable def spec_pgFirst_l1 (L : Nat) (a : List Pt) : Nat → Int → Int → Option ((List Pt))
  | 0, _, _ => none
  | m1 + 1, v31, v131 => bif ilt v131 (ilen (List.map ep a)) then (gbind (lget a v131) fun p2 => gbind (lget a v31) fun p3 => gbind (spec_pgLess L (Pt.x p2) (Pt.y p2) (Pt.x p3) (Pt.y p3)) fun r3 => bif r3 then (spec_pgFirst_l1 L a m1 v131 (wr IntKind.i64 (iadd v131 1))) else (spec_pgFirst_l1 L a m1 v31 (wr IntKind.i64 (iadd v131 1)))) else (bif ile 0 v31 && ile v31 (ilen (List.map ep a)) then (bif ile 0 v31 && ile v31 (ilen (List.map ep a)) then (bif fits (iadd (ilen ([] : List AV)) (ilen (lsub (List.map ep a) v31 (ilen (List.map ep a))))) 16 then (bif fits (iadd (ilen (lcat [] (lsub (List.map ep a) v31 (ilen (List.map ep a))))) (ilen (lsub (List.map ep a) 0 v31))) 16 then (some (lcat (lcat [] (lsub a v31 (ilen (List.map ep a)))) (lsub a 0 v31))) else (none)) else (none)) else (none)) else (none))
noncomputable def spec_pgFirst (L : Nat) (a : List Pt) : Option ((List Pt)) := gbind (spec_pgArea L a) fun r => bif ilt r 0 then (gbind (spec_pgBack L a) fun r1 => spec_pgFirst_l0 L r1 L 0 0) else (spec_pgFirst_l1 L a L 0 0)
def spec_pgFirst_ok (L : Nat) (C : CF) : Prop := ∀ (oa : Bool) (ca : Bool) (x_a : List AV) (a : List Pt) (_ : x_a = List.map ep a), C 26 ([.lst oa ca 2 x_a]) ([]) = Option.map (fun r : (List Pt) => ((.frs 2 (List.map ep r), []) : AV × List Blk)) (spec_pgFirst L a)
theorem spec_pgFirst_run (L : Nat) (C : CF) (h_spec_pgArea : spec_pgArea_ok L C) (h_spec_pgBack : spec_pgBack_ok L C) (h_spec_pgLess : spec_pgLess_ok L C) : ∀ (oa : Bool) (ca : Bool) (x_a : List AV) (a : List Pt) (_ : x_a = List.map ep a), run T C sh (keep 26) L Try.f26 ([.lst oa ca 2 x_a]) ([]) = Option.map (fun r : (List Pt) => ((.frs 2 (List.map ep r), []) : AV × List Blk)) (spec_pgFirst L a) := by
 intro oa ca x_a a hx_a
 subst hx_a
 unfold spec_pgFirst
 conv => lhs; whnf
 refine t_call (h_spec_pgArea _ _ _ a (by first | rfl | simp only [ml] <;> rfl)) fun r => ?_
 conv => lhs; whnf
 refine t_cond ?_ ?_
 ·conv => lhs; whnf
  refine t_call (h_spec_pgBack _ _ _ a (by first | rfl | simp only [ml] <;> rfl)) fun r1 => ?_
  conv => lhs; whnf
  refine t_loop (fun (⟨v3, v13⟩ : Int × Int) => (AV.own 0 2 none false :: topA 2 (AV.int IntKind.i64 v3 :: topA 7 (AV.own 0 2 none false :: AV.int IntKind.i64 (ilen (List.map ep r1)) :: AV.int IntKind.i64 v13 :: tops 21)), [Blk.rows Mode.live 2 (List.map ep r1)])) (fun m (⟨v3, v13⟩ : Int × Int) => spec_pgFirst_l0 L r1 m v3 v13) (fun _ => rfl) (fun m s rec hrec => ?_) L ((0, 0)) ?_ ?_
  rotate_left
  ·first | rfl | simp only [ml] <;> rfl
  ·first | rfl | simp only [ml] <;> rfl
  obtain ⟨v3, v13⟩ := s
  show _ = Option.map _ (spec_pgFirst_l0 L r1 (m + 1) v3 v13)
  rw [spec_pgFirst_l0.eq_2]
  conv => lhs; whnf
  refine t_cond ?_ ?_
  ·conv => lhs; whnf
   refine t_cond ?_ ?_
   ·conv => lhs; whnf
    refine t_get (en := ep) (l := r1) (by first | rfl | simp only [ml] <;> rfl) fun p => ?_
    conv => lhs; whnf
    refine t_cond ?_ ?_
    ·conv => lhs; whnf
     refine t_get (en := ep) (l := r1) (by first | rfl | simp only [ml] <;> rfl) fun p1 => ?_
     conv => lhs; whnf
     refine t_call (h_spec_pgLess (Pt.x p) (Pt.y p) (Pt.x p1) (Pt.y p1)) fun r2 => ?_
     conv => lhs; whnf
     refine t_cond ?_ ?_
     ·conv => lhs; whnf
      exact hrec ((v13, wr IntKind.i64 (iadd v13 1))) _ _ (by first | rfl | simp only [ml] <;> rfl) (by first | rfl | simp only [ml] <;> rfl)
     ·conv => lhs; whnf
      exact hrec ((v3, wr IntKind.i64 (iadd v13 1))) _ _ (by first | rfl | simp only [ml] <;> rfl) (by first | rfl | simp only [ml] <;> rfl)
    ·conv => lhs; whnf
     exact t_none
   ·conv => lhs; whnf
    exact t_none
  ·conv => lhs; whnf
   refine t_cond ?_ ?_
   ·conv => lhs; whnf
    refine t_cond ?_ ?_
    ·conv => lhs; whnf
     refine t_cond ?_ ?_
     ·conv => lhs; whnf
      refine t_cond ?_ ?_
      ·conv => lhs; whnf
       exact t_ret (by first | rfl | simp only [ml] <;> rfl)
      ·conv => lhs; whnf
       exact t_none
     ·conv => lhs; whnf
      exact t_none
    ·conv => lhs; whnf
     exact t_none
   ·conv => lhs; whnf
    exact t_none
 ·conv => lhs; whnf
  refine t_loop (fun (⟨v31, v131⟩ : Int × Int) => (AV.lst oa ca 2 (List.map ep a) :: topA 2 (AV.int IntKind.i64 v31 :: topA 7 (AV.lst oa ca 2 (List.map ep a) :: AV.int IntKind.i64 (ilen (List.map ep a)) :: AV.int IntKind.i64 v131 :: tops 21)), [])) (fun m1 (⟨v31, v131⟩ : Int × Int) => spec_pgFirst_l1 L a m1 v31 v131) (fun _ => rfl) (fun m1 s1 rec1 hrec1 => ?_) L ((0, 0)) ?_ ?_
  rotate_left
  ·first | rfl | simp only [ml] <;> rfl
  ·first | rfl | simp only [ml] <;> rfl
  obtain ⟨v31, v131⟩ := s1
  show _ = Option.map _ (spec_pgFirst_l1 L a (m1 + 1) v31 v131)
  rw [spec_pgFirst_l1.eq_2]
  conv => lhs; whnf
  refine t_cond ?_ ?_
  ·conv => lhs; whnf
   refine t_get (en := ep) (l := a) (by first | rfl | simp only [ml] <;> rfl) fun p2 => ?_
   conv => lhs; whnf
   refine t_get (en := ep) (l := a) (by first | rfl | simp only [ml] <;> rfl) fun p3 => ?_
   conv => lhs; whnf
   refine t_call (h_spec_pgLess (Pt.x p2) (Pt.y p2) (Pt.x p3) (Pt.y p3)) fun r3 => ?_
   conv => lhs; whnf
   refine t_cond ?_ ?_
   ·conv => lhs; whnf
    exact hrec1 ((v131, wr IntKind.i64 (iadd v131 1))) _ _ (by first | rfl | simp only [ml] <;> rfl) (by first | rfl | simp only [ml] <;> rfl)
   ·conv => lhs; whnf
    exact hrec1 ((v31, wr IntKind.i64 (iadd v131 1))) _ _ (by first | rfl | simp only [ml] <;> rfl) (by first | rfl | simp only [ml] <;> rfl)
  ·conv => lhs; whnf
   refine t_cond ?_ ?_
   ·conv => lhs; whnf
    refine t_cond ?_ ?_
    ·conv => lhs; whnf
     refine t_cond ?_ ?_
     ·conv => lhs; whnf
      refine t_cond ?_ ?_
      ·conv => lhs; whnf
       exact t_ret (by first | rfl | simp only [ml] <;> rfl)
      ·conv => lhs; whnf
       exact t_none
     ·conv => lhs; whnf
      exact t_none
    ·conv => lhs; whnf
     exact t_none
   ·conv => lhs; whnf
    exact t_none
noncomputable def spec_duDual_l0 (L : Nat) (r : List Pt) : Nat → Int → (List Pt) → Option ((List Pt))
  | 0, _, _ => none
  | m + 1, v12, w1 => bif ilt v12 (ilen (List.map ep r)) then (bif ile 0 v12 && ilt v12 (ilen (List.map ep r)) then (gbind (lget r v12) fun p => bif ieq (ilen (List.map ep r)) 0 then (none) else (bif ile 0 (irem (wr IntKind.i64 (iadd v12 1)) (ilen (List.map ep r))) && ilt (irem (wr IntKind.i64 (iadd v12 1)) (ilen (List.map ep r))) (ilen (List.map ep r)) then (gbind (lget r (irem (wr IntKind.i64 (iadd v12 1)) (ilen (List.map ep r)))) fun p1 => gbind (spec_pgStep L (Pt.x p) (Pt.y p) (Pt.x p1) (Pt.y p1)) fun r1 => bif ieq r1 0 then (none) else (bif ieq r1 0 then (none) else (bif fits (iadd (ilen (List.map ep w1)) (ilen [AV.agg [AV.int IntKind.i64 (wr IntKind.i64 (iquo (wr IntKind.i64 (isub (Pt.y p1) (Pt.y p))) r1)), AV.int IntKind.i64 (wr IntKind.i64 (iquo (wr IntKind.i64 (isub (Pt.x p) (Pt.x p1))) r1))]])) 16 then (spec_duDual_l0 L r m (wr IntKind.i64 (iadd v12 1)) (lcat w1 ({ x := wr IntKind.i64 (iquo (wr IntKind.i64 (isub (Pt.y p1) (Pt.y p))) r1), y := wr IntKind.i64 (iquo (wr IntKind.i64 (isub (Pt.x p) (Pt.x p1))) r1) } :: []))) else (none)))) else (none))) else (none)) else (gbind (spec_pgFirst L w1) fun r2 => some r2)
noncomputable def spec_duDual (L : Nat) (a : List Pt) : Option ((List Pt)) := gbind (spec_pgFirst L a) fun r => spec_duDual_l0 L r L 0 []
def spec_duDual_ok (L : Nat) (C : CF) : Prop := ∀ (oa : Bool) (ca : Bool) (x_a : List AV) (a : List Pt) (_ : x_a = List.map ep a), C 11 ([.lst oa ca 2 x_a]) ([]) = Option.map (fun r : (List Pt) => ((.frs 2 (List.map ep r), []) : AV × List Blk)) (spec_duDual L a)
theorem spec_duDual_run (L : Nat) (C : CF) (h_spec_pgStep : spec_pgStep_ok L C) (h_spec_pgFirst : spec_pgFirst_ok L C) : ∀ (oa : Bool) (ca : Bool) (x_a : List AV) (a : List Pt) (_ : x_a = List.map ep a), run T C sh (keep 11) L Try.f11 ([.lst oa ca 2 x_a]) ([]) = Option.map (fun r : (List Pt) => ((.frs 2 (List.map ep r), []) : AV × List Blk)) (spec_duDual L a) := by
 intro oa ca x_a a hx_a
 subst hx_a
 unfold spec_duDual
 conv => lhs; whnf
 refine t_call (h_spec_pgFirst _ _ _ a (by first | rfl | simp only [ml] <;> rfl)) fun r => ?_
 conv => lhs; whnf
 refine t_loop (fun (⟨v12, w1⟩ : Int × (List Pt)) => (AV.own 0 2 none false :: topA 2 (AV.own 1 2 none false :: topA 6 (AV.own 0 2 none false :: AV.int IntKind.i64 (ilen (List.map ep r)) :: AV.int IntKind.i64 v12 :: tops 36)), [Blk.rows Mode.live 2 (List.map ep r), Blk.rows Mode.live 2 (List.map ep w1)])) (fun m (⟨v12, w1⟩ : Int × (List Pt)) => spec_duDual_l0 L r m v12 w1) (fun _ => rfl) (fun m s rec hrec => ?_) L ((0, [])) ?_ ?_
 rotate_left
 ·first | rfl | simp only [ml] <;> rfl
 ·first | rfl | simp only [ml] <;> rfl
 obtain ⟨v12, w1⟩ := s
 show _ = Option.map _ (spec_duDual_l0 L r (m + 1) v12 w1)
 rw [spec_duDual_l0.eq_2]
 conv => lhs; whnf
 refine t_cond ?_ ?_
 ·conv => lhs; whnf
  refine t_cond ?_ ?_
  ·conv => lhs; whnf
   refine t_get (en := ep) (l := r) (by first | rfl | simp only [ml] <;> rfl) fun p => ?_
   conv => lhs; whnf
   refine t_cond ?_ ?_
   ·conv => lhs; whnf
    exact t_none
   ·conv => lhs; whnf
    refine t_cond ?_ ?_
    ·conv => lhs; whnf
     refine t_get (en := ep) (l := r) (by first | rfl | simp only [ml] <;> rfl) fun p1 => ?_
     conv => lhs; whnf
     refine t_call (h_spec_pgStep (Pt.x p) (Pt.y p) (Pt.x p1) (Pt.y p1)) fun r1 => ?_
     conv => lhs; whnf
     refine t_cond ?_ ?_
     ·conv => lhs; whnf
      exact t_none
     ·conv => lhs; whnf
      refine t_cond ?_ ?_
      ·conv => lhs; whnf
       exact t_none
      ·conv => lhs; whnf
       refine t_cond ?_ ?_
       ·conv => lhs; whnf
        exact hrec ((wr IntKind.i64 (iadd v12 1), lcat w1 ({ x := wr IntKind.i64 (iquo (wr IntKind.i64 (isub (Pt.y p1) (Pt.y p))) r1), y := wr IntKind.i64 (iquo (wr IntKind.i64 (isub (Pt.x p) (Pt.x p1))) r1) } :: []))) _ _ (by first | rfl | simp only [ml] <;> rfl) (by first | rfl | simp only [ml] <;> rfl)
       ·conv => lhs; whnf
        exact t_none
    ·conv => lhs; whnf
     exact t_none
  ·conv => lhs; whnf
   exact t_none
 ·conv => lhs; whnf
  refine t_call (h_spec_pgFirst _ _ _ w1 (by first | rfl | simp only [ml] <;> rfl)) fun r2 => ?_
  conv => lhs; whnf
  exact t_ret (by first | rfl | simp only [ml] <;> rfl)
noncomputable def spec_duAround_l1 (L : Nat) (κ0 : Int → Int → (List Pt) → (List Pt) → Option ((List Pt))) (v12 : Int) (v13 : Int) (w0 : List Pt) (p : Pt) (p1 : Pt) (r1 : Int) : Nat → Int → (List Pt) → Option ((List Pt))
  | 0, _, _ => none
  | m1 + 1, v8, w11 => bif ilt v8 r1 then (bif ieq r1 0 then (none) else (bif ieq r1 0 then (none) else (bif fits (iadd (ilen (List.map ep w11)) (ilen [AV.agg [AV.int IntKind.i64 (wr IntKind.i64 (iadd (Pt.x p) (wr IntKind.i64 (imul (wr IntKind.i64 (iquo (wr IntKind.i64 (isub (Pt.x p1) (Pt.x p))) r1)) v8)))), AV.int IntKind.i64 (wr IntKind.i64 (iadd (Pt.y p) (wr IntKind.i64 (imul (wr IntKind.i64 (iquo (wr IntKind.i64 (isub (Pt.y p1) (Pt.y p))) r1)) v8))))]])) 16 then (spec_duAround_l1 L κ0 v12 v13 w0 p p1 r1 m1 (wr IntKind.i64 (iadd v8 1)) (lcat w11 ({ x := wr IntKind.i64 (iadd (Pt.x p) (wr IntKind.i64 (imul (wr IntKind.i64 (iquo (wr IntKind.i64 (isub (Pt.x p1) (Pt.x p))) r1)) v8))), y := wr IntKind.i64 (iadd (Pt.y p) (wr IntKind.i64 (imul (wr IntKind.i64 (iquo (wr IntKind.i64 (isub (Pt.y p1) (Pt.y p))) r1)) v8))) } :: []))) else (none)))) else (κ0 v12 (wr IntKind.i64 (iadd v13 1)) w0 w11)
noncomputable def spec_duAround_l0 (L : Nat) : Nat → Int → Int → (List Pt) → (List Pt) → Option ((List Pt))
  | 0, _, _, _, _ => none
  | m + 1, v12, v13, w0, w1 => bif ilt v13 v12 then (bif ile 0 v13 && ilt v13 (ilen (List.map ep w0)) then (gbind (lget w0 v13) fun p => bif ieq (ilen (List.map ep w0)) 0 then (none) else (bif ile 0 (irem (wr IntKind.i64 (iadd v13 1)) (ilen (List.map ep w0))) && ilt (irem (wr IntKind.i64 (iadd v13 1)) (ilen (List.map ep w0))) (ilen (List.map ep w0)) then (gbind (lget w0 (irem (wr IntKind.i64 (iadd v13 1)) (ilen (List.map ep w0)))) fun p1 => gbind (spec_pgStep L (Pt.x p) (Pt.y p) (Pt.x p1) (Pt.y p1)) fun r1 => spec_duAround_l1 L (spec_duAround_l0 L m) v12 v13 w0 p p1 r1 L 0 w1) else (none))) else (none)) else (some w1)
noncomputable def spec_duAround (L : Nat) (a : List Pt) : Option ((List Pt)) := gbind (spec_pgFirst L a) fun r => spec_duAround_l0 L L (ilen (List.map ep r)) 0 r []
def spec_duAround_ok (L : Nat) (C : CF) : Prop := ∀ (oa : Bool) (ca : Bool) (x_a : List AV) (a : List Pt) (_ : x_a = List.map ep a), C 25 ([.lst oa ca 2 x_a]) ([]) = Option.map (fun r : (List Pt) => ((.frs 2 (List.map ep r), []) : AV × List Blk)) (spec_duAround L a)
theorem spec_duAround_run (L : Nat) (C : CF) (h_spec_pgStep : spec_pgStep_ok L C) (h_spec_pgFirst : spec_pgFirst_ok L C) : ∀ (oa : Bool) (ca : Bool) (x_a : List AV) (a : List Pt) (_ : x_a = List.map ep a), run T C sh (keep 25) L Try.f25 ([.lst oa ca 2 x_a]) ([]) = Option.map (fun r : (List Pt) => ((.frs 2 (List.map ep r), []) : AV × List Blk)) (spec_duAround L a) := by
 intro oa ca x_a a hx_a
 subst hx_a
 unfold spec_duAround
 conv => lhs; whnf
 refine t_call (h_spec_pgFirst _ _ _ a (by first | rfl | simp only [ml] <;> rfl)) fun r => ?_
 conv => lhs; whnf
 refine t_loop (fun (⟨v12, v13, w0, w1⟩ : Int × Int × (List Pt) × (List Pt)) => (AV.own 0 2 none false :: topA 2 (AV.own 1 2 none false :: topA 7 (AV.own 0 2 none false :: AV.int IntKind.i64 v12 :: AV.int IntKind.i64 v13 :: tops 50)), [Blk.rows Mode.live 2 (List.map ep w0), Blk.rows Mode.live 2 (List.map ep w1)])) (fun m (⟨v12, v13, w0, w1⟩ : Int × Int × (List Pt) × (List Pt)) => spec_duAround_l0 L m v12 v13 w0 w1) (fun _ => rfl) (fun m s rec hrec => ?_) L ((ilen (List.map ep r), 0, r, [])) ?_ ?_
 rotate_left
 ·first | rfl | simp only [ml] <;> rfl
 ·first | rfl | simp only [ml] <;> rfl
 obtain ⟨v12, v13, w0, w1⟩ := s
 show _ = Option.map _ (spec_duAround_l0 L (m + 1) v12 v13 w0 w1)
 rw [spec_duAround_l0.eq_2]
 conv => lhs; whnf
 refine t_cond ?_ ?_
 ·conv => lhs; whnf
  refine t_cond ?_ ?_
  ·conv => lhs; whnf
   refine t_get (en := ep) (l := w0) (by first | rfl | simp only [ml] <;> rfl) fun p => ?_
   conv => lhs; whnf
   refine t_cond ?_ ?_
   ·conv => lhs; whnf
    exact t_none
   ·conv => lhs; whnf
    refine t_cond ?_ ?_
    ·conv => lhs; whnf
     refine t_get (en := ep) (l := w0) (by first | rfl | simp only [ml] <;> rfl) fun p1 => ?_
     conv => lhs; whnf
     refine t_call (h_spec_pgStep (Pt.x p) (Pt.y p) (Pt.x p1) (Pt.y p1)) fun r1 => ?_
     conv => lhs; whnf
     refine t_loop (fun (⟨v8, w11⟩ : Int × (List Pt)) => (AV.own 0 2 none false :: topA 2 (AV.own 1 2 none false :: AV.top :: AV.ptr 2 0 0 2 :: AV.ptr 3 0 0 2 :: AV.int IntKind.i64 r1 :: AV.int IntKind.i64 v8 :: topA 2 (AV.own 0 2 none false :: AV.int IntKind.i64 v12 :: AV.int IntKind.i64 v13 :: tops 50)), [Blk.rows Mode.live 2 (List.map ep w0), Blk.rows Mode.live 2 (List.map ep w11), Blk.box (AV.agg [AV.int IntKind.i64 (Pt.x p), AV.int IntKind.i64 (Pt.y p)]), Blk.box (AV.agg [AV.int IntKind.i64 (Pt.x p1), AV.int IntKind.i64 (Pt.y p1)])])) (fun m1 (⟨v8, w11⟩ : Int × (List Pt)) => spec_duAround_l1 L (spec_duAround_l0 L m) v12 v13 w0 p p1 r1 m1 v8 w11) (fun _ => rfl) (fun m1 s1 rec1 hrec1 => ?_) L ((0, w1)) ?_ ?_
     rotate_left
     ·first | rfl | simp only [ml] <;> rfl
     ·first | rfl | simp only [ml] <;> rfl
     obtain ⟨v8, w11⟩ := s1
     show _ = Option.map _ (spec_duAround_l1 L (spec_duAround_l0 L m) v12 v13 w0 p p1 r1 (m1 + 1) v8 w11)
     rw [spec_duAround_l1.eq_2]
     conv => lhs; whnf
     refine t_cond ?_ ?_
     ·conv => lhs; whnf
      refine t_cond ?_ ?_
      ·conv => lhs; whnf
       exact t_none
      ·conv => lhs; whnf
       refine t_cond ?_ ?_
       ·conv => lhs; whnf
        exact t_none
       ·conv => lhs; whnf
        refine t_cond ?_ ?_
        ·conv => lhs; whnf
         exact hrec1 ((wr IntKind.i64 (iadd v8 1), lcat w11 ({ x := wr IntKind.i64 (iadd (Pt.x p) (wr IntKind.i64 (imul (wr IntKind.i64 (iquo (wr IntKind.i64 (isub (Pt.x p1) (Pt.x p))) r1)) v8))), y := wr IntKind.i64 (iadd (Pt.y p) (wr IntKind.i64 (imul (wr IntKind.i64 (iquo (wr IntKind.i64 (isub (Pt.y p1) (Pt.y p))) r1)) v8))) } :: []))) _ _ (by first | rfl | simp only [ml] <;> rfl) (by first | rfl | simp only [ml] <;> rfl)
        ·conv => lhs; whnf
         exact t_none
     ·conv => lhs; whnf
      exact hrec ((v12, wr IntKind.i64 (iadd v13 1), w0, w11)) _ _ (by first | rfl | simp only [ml] <;> rfl) (by first | rfl | simp only [ml] <;> rfl)
    ·conv => lhs; whnf
     exact t_none
  ·conv => lhs; whnf
   exact t_none
 ·conv => lhs; whnf
  exact t_ret (by first | rfl | simp only [ml] <;> rfl)
noncomputable def spec_duNumbers_l0 (L : Nat) (a : List Pt) : Nat → Int → (List Int) → Option ((List Int))
  | 0, _, _ => none
  | m + 1, v13, w0 => bif ilt v13 (ilen (List.map ep a)) then (gbind (lget a v13) fun p => bif ieq (ilen (List.map ep a)) 0 then (none) else (gbind (lget a (irem (wr IntKind.i64 (iadd v13 1)) (ilen (List.map ep a)))) fun p1 => bif ieq (ilen (List.map ep a)) 0 then (none) else (gbind (lget a (irem (wr IntKind.i64 (isub (wr IntKind.i64 (iadd v13 (ilen (List.map ep a)))) 1)) (ilen (List.map ep a)))) fun p2 => bif !ieq (Pt.x p) 0 then (bif ieq (Pt.x p) 0 then (none) else (bif fits (iadd (ilen (List.map eI w0)) (ilen [AV.int IntKind.i64 (wr IntKind.i64 (iquo (wr IntKind.i64 (iadd (Pt.x p2) (Pt.x p1))) (Pt.x p)))])) 8 then (spec_duNumbers_l0 L a m (wr IntKind.i64 (iadd v13 1)) (lcat w0 (wr IntKind.i64 (iquo (wr IntKind.i64 (iadd (Pt.x p2) (Pt.x p1))) (Pt.x p)) :: []))) else (none))) else (bif ieq (Pt.y p) 0 then (none) else (bif fits (iadd (ilen (List.map eI w0)) (ilen [AV.int IntKind.i64 (wr IntKind.i64 (iquo (wr IntKind.i64 (iadd (Pt.y p2) (Pt.y p1))) (Pt.y p)))])) 8 then (spec_duNumbers_l0 L a m (wr IntKind.i64 (iadd v13 1)) (lcat w0 (wr IntKind.i64 (iquo (wr IntKind.i64 (iadd (Pt.y p2) (Pt.y p1))) (Pt.y p)) :: []))) else (none)))))) else (some w0)
noncomputable def spec_duNumbers (L : Nat) (a : List Pt) : Option ((List Int)) := spec_duNumbers_l0 L a L 0 []
def spec_duNumbers_ok (L : Nat) (C : CF) : Prop := ∀ (oa : Bool) (ca : Bool) (x_a : List AV) (a : List Pt) (_ : x_a = List.map ep a), C 24 ([.lst oa ca 2 x_a]) ([]) = Option.map (fun r : (List Int) => ((.frs 1 (List.map eI r), []) : AV × List Blk)) (spec_duNumbers L a)
theorem spec_duNumbers_run (L : Nat) (C : CF) : ∀ (oa : Bool) (ca : Bool) (x_a : List AV) (a : List Pt) (_ : x_a = List.map ep a), run T C sh (keep 24) L Try.f24 ([.lst oa ca 2 x_a]) ([]) = Option.map (fun r : (List Int) => ((.frs 1 (List.map eI r), []) : AV × List Blk)) (spec_duNumbers L a) := by
 intro oa ca x_a a hx_a
 subst hx_a
 unfold spec_duNumbers
 conv => lhs; whnf
 refine t_loop (fun (⟨v13, w0⟩ : Int × (List Int)) => (AV.lst oa ca 2 (List.map ep a) :: topA 2 (AV.int IntKind.i64 (ilen (List.map ep a)) :: AV.own 0 1 none false :: topA 6 (AV.lst oa ca 2 (List.map ep a) :: AV.int IntKind.i64 (ilen (List.map ep a)) :: AV.int IntKind.i64 v13 :: tops 47)), [Blk.rows Mode.live 1 (List.map eI w0)])) (fun m (⟨v13, w0⟩ : Int × (List Int)) => spec_duNumbers_l0 L a m v13 w0) (fun _ => rfl) (fun m s rec hrec => ?_) L ((0, [])) ?_ ?_
 rotate_left
 ·first | rfl | simp only [ml] <;> rfl
 ·first | rfl | simp only [ml] <;> rfl
 obtain ⟨v13, w0⟩ := s
 show _ = Option.map _ (spec_duNumbers_l0 L a (m + 1) v13 w0)
 rw [spec_duNumbers_l0.eq_2]
 conv => lhs; whnf
 refine t_cond ?_ ?_
 ·conv => lhs; whnf
  refine t_get (en := ep) (l := a) (by first | rfl | simp only [ml] <;> rfl) fun p => ?_
  conv => lhs; whnf
  refine t_cond ?_ ?_
  ·conv => lhs; whnf
   exact t_none
  ·conv => lhs; whnf
   refine t_get (en := ep) (l := a) (by first | rfl | simp only [ml] <;> rfl) fun p1 => ?_
   conv => lhs; whnf
   refine t_cond ?_ ?_
   ·conv => lhs; whnf
    exact t_none
   ·conv => lhs; whnf
    refine t_get (en := ep) (l := a) (by first | rfl | simp only [ml] <;> rfl) fun p2 => ?_
    conv => lhs; whnf
    refine t_cond ?_ ?_
    ·conv => lhs; whnf
     refine t_cond ?_ ?_
     ·conv => lhs; whnf
      exact t_none
     ·conv => lhs; whnf
      refine t_cond ?_ ?_
      ·conv => lhs; whnf
       exact hrec ((wr IntKind.i64 (iadd v13 1), lcat w0 (wr IntKind.i64 (iquo (wr IntKind.i64 (iadd (Pt.x p2) (Pt.x p1))) (Pt.x p)) :: []))) _ _ (by first | rfl | simp only [ml] <;> rfl) (by first | rfl | simp only [ml] <;> rfl)
      ·conv => lhs; whnf
       exact t_none
    ·conv => lhs; whnf
     refine t_cond ?_ ?_
     ·conv => lhs; whnf
      exact t_none
     ·conv => lhs; whnf
      refine t_cond ?_ ?_
      ·conv => lhs; whnf
       exact hrec ((wr IntKind.i64 (iadd v13 1), lcat w0 (wr IntKind.i64 (iquo (wr IntKind.i64 (iadd (Pt.y p2) (Pt.y p1))) (Pt.y p)) :: []))) _ _ (by first | rfl | simp only [ml] <;> rfl) (by first | rfl | simp only [ml] <;> rfl)
      ·conv => lhs; whnf
       exact t_none
 ·conv => lhs; whnf
  exact t_ret (by first | rfl | simp only [ml] <;> rfl)
noncomputable def spec_l1Own (L : Nat) (a : List Int) : Option ((List Int)) := bif fits (iadd (ilen ([] : List AV)) (ilen (List.map eI a))) 8 then (some (lcat [] a)) else (none)
def spec_l1Own_ok (L : Nat) (C : CF) : Prop := ∀ (oa : Bool) (ca : Bool) (x_a : List AV) (a : List Int) (_ : x_a = List.map eI a), C 46 ([.lst oa ca 1 x_a]) ([]) = Option.map (fun r : (List Int) => ((.frs 1 (List.map eI r), []) : AV × List Blk)) (spec_l1Own L a)
theorem spec_l1Own_run (L : Nat) (C : CF) : ∀ (oa : Bool) (ca : Bool) (x_a : List AV) (a : List Int) (_ : x_a = List.map eI a), run T C sh (keep 46) L Try.f46 ([.lst oa ca 1 x_a]) ([]) = Option.map (fun r : (List Int) => ((.frs 1 (List.map eI r), []) : AV × List Blk)) (spec_l1Own L a) := by
 intro oa ca x_a a hx_a
 subst hx_a
 unfold spec_l1Own
 conv => lhs; whnf
 refine t_cond ?_ ?_
 ·conv => lhs; whnf
  exact t_ret (by first | rfl | simp only [ml] <;> rfl)
 ·conv => lhs; whnf
  exact t_none
noncomputable def spec_duBefore_l0 (L : Nat) (a : List Int) (b : List Int) : Nat → Int → Option Bool
  | 0, _ => none
  | m + 1, v8 => bif ilt v8 (ilen (List.map eI a)) then (gbind (lget a v8) fun p => gbind (lget b v8) fun p1 => bif !ieq p p1 then (gbind (lget a v8) fun p2 => gbind (lget b v8) fun p3 => some (ilt p2 p3)) else (spec_duBefore_l0 L a b m (wr IntKind.i64 (iadd v8 1)))) else (some false)
noncomputable def spec_duBefore (L : Nat) (a : List Int) (b : List Int) : Option (Bool) := spec_duBefore_l0 L a b L 0
def spec_duBefore_ok (L : Nat) (C : CF) : Prop := ∀ (oa : Bool) (ca : Bool) (x_a : List AV) (a : List Int) (_ : x_a = List.map eI a) (ob : Bool) (cb : Bool) (x_b : List AV) (b : List Int) (_ : x_b = List.map eI b), C 47 ([.lst oa ca 1 x_a, .lst ob cb 1 x_b]) ([]) = Option.map (fun r : Bool => ((.bool r, []) : AV × List Blk)) (spec_duBefore L a b)
theorem spec_duBefore_run (L : Nat) (C : CF) : ∀ (oa : Bool) (ca : Bool) (x_a : List AV) (a : List Int) (_ : x_a = List.map eI a) (ob : Bool) (cb : Bool) (x_b : List AV) (b : List Int) (_ : x_b = List.map eI b), run T C sh (keep 47) L Try.f47 ([.lst oa ca 1 x_a, .lst ob cb 1 x_b]) ([]) = Option.map (fun r : Bool => ((.bool r, []) : AV × List Blk)) (spec_duBefore L a b) := by
 intro oa ca x_a a hx_a ob cb x_b b hx_b
 subst hx_a
 subst hx_b
 unfold spec_duBefore
 conv => lhs; whnf
 refine t_loop (fun (v8 : Int) => (AV.lst oa ca 1 (List.map eI a) :: AV.lst ob cb 1 (List.map eI b) :: topA 5 (AV.int IntKind.i64 (ilen (List.map eI a)) :: AV.int IntKind.i64 v8 :: tops 21), [])) (fun m (v8 : Int) => spec_duBefore_l0 L a b m v8) (fun _ => rfl) (fun m v8 rec hrec => ?_) L 0 ?_ ?_
 rotate_left
 ·first | rfl | simp only [ml] <;> rfl
 ·first | rfl | simp only [ml] <;> rfl
 show _ = Option.map _ (spec_duBefore_l0 L a b (m + 1) v8)
 rw [spec_duBefore_l0.eq_2]
 conv => lhs; whnf
 refine t_cond ?_ ?_
 ·conv => lhs; whnf
  refine t_get (en := eI) (l := a) (by first | rfl | simp only [ml] <;> rfl) fun p => ?_
  conv => lhs; whnf
  refine t_get (en := eI) (l := b) (by first | rfl | simp only [ml] <;> rfl) fun p1 => ?_
  conv => lhs; whnf
  refine t_cond ?_ ?_
  ·conv => lhs; whnf
   refine t_get (en := eI) (l := a) (by first | rfl | simp only [ml] <;> rfl) fun p2 => ?_
   conv => lhs; whnf
   refine t_get (en := eI) (l := b) (by first | rfl | simp only [ml] <;> rfl) fun p3 => ?_
   conv => lhs; whnf
   exact t_ret (by first | rfl | simp only [ml] <;> rfl)
  ·conv => lhs; whnf
   exact hrec (wr IntKind.i64 (iadd v8 1)) _ _ (by first | rfl | simp only [ml] <;> rfl) (by first | rfl | simp only [ml] <;> rfl)
 ·conv => lhs; whnf
  exact t_ret (by first | rfl | simp only [ml] <;> rfl)
noncomputable def spec_duLeast_l1 (L : Nat) (κ0 : (List Int) → Int → Int → (List Int) → Option ((List Int))) (v0 : List Int) (v3 : Int) (v5 : Int) (w0 : List Int) : Nat → Int → (List Int) → (List Int) → Option ((List Int))
  | 0, _, _, _ => none
  | m1 + 1, v24, w1, w2 => bif ilt v24 (ilen (List.map eI v0)) then (bif ieq v3 0 then (none) else (gbind (lget v0 (irem (wr IntKind.i64 (iadd v5 v24)) v3)) fun p => bif ile 0 v24 && ilt v24 (ilen (List.map eI w1)) then (gbind (lget w1 v24) fun p1 => bif ieq v3 0 then (none) else (gbind (lget v0 (irem (wr IntKind.i64 (isub (wr IntKind.i64 (iadd v5 v3)) v24)) v3)) fun p2 => bif ile 0 v24 && ilt v24 (ilen (List.map eI w2)) then (gbind (lget w2 v24) fun p3 => spec_duLeast_l1 L κ0 v0 v3 v5 w0 m1 (wr IntKind.i64 (iadd v24 1)) (lset w1 v24 p) (lset w2 v24 p2)) else (none))) else (none))) else (gbind (spec_duBefore L w1 w0) fun r1 => bif r1 then (gbind (spec_duBefore L w2 w1) fun r2 => bif r2 then (κ0 v0 v3 (wr IntKind.i64 (iadd v5 1)) w2) else (κ0 v0 v3 (wr IntKind.i64 (iadd v5 1)) w1)) else (gbind (spec_duBefore L w2 w0) fun r3 => bif r3 then (κ0 v0 v3 (wr IntKind.i64 (iadd v5 1)) w2) else (κ0 v0 v3 (wr IntKind.i64 (iadd v5 1)) w0)))
noncomputable def spec_duLeast_l0 (L : Nat) : Nat → (List Int) → Int → Int → (List Int) → Option ((List Int))
  | 0, _, _, _, _ => none
  | m + 1, v0, v3, v5, w0 => bif ilt v5 v3 then (bif ile 0 v3 && ile v3 v3 && fits v3 8 then (bif ile 0 v3 && ile v3 v3 && fits v3 8 then (spec_duLeast_l1 L (spec_duLeast_l0 L m) v0 v3 v5 w0 L 0 (lrep v3 0) (lrep v3 0)) else (none)) else (none)) else (some w0)
noncomputable def spec_duLeast (L : Nat) (a : List Int) : Option ((List Int)) := gbind (spec_l1Own L a) fun r => spec_duLeast_l0 L L a (ilen (List.map eI a)) 0 r
def spec_duLeast_ok (L : Nat) (C : CF) : Prop := ∀ (oa : Bool) (ca : Bool) (x_a : List AV) (a : List Int) (_ : x_a = List.map eI a), C 23 ([.lst oa ca 1 x_a]) ([]) = Option.map (fun r : (List Int) => ((.frs 1 (List.map eI r), []) : AV × List Blk)) (spec_duLeast L a)
theorem spec_duLeast_run (L : Nat) (C : CF) (h_spec_l1Own : spec_l1Own_ok L C) (h_spec_duBefore : spec_duBefore_ok L C) : ∀ (oa : Bool) (ca : Bool) (x_a : List AV) (a : List Int) (_ : x_a = List.map eI a), run T C sh (keep 23) L Try.f23 ([.lst oa ca 1 x_a]) ([]) = Option.map (fun r : (List Int) => ((.frs 1 (List.map eI r), []) : AV × List Blk)) (spec_duLeast L a) := by
 intro oa ca x_a a hx_a
 subst hx_a
 unfold spec_duLeast
 conv => lhs; whnf
 refine t_call (h_spec_l1Own _ _ _ a (by first | rfl | simp only [ml] <;> rfl)) fun r => ?_
 conv => lhs; whnf
 refine t_loop (fun (⟨v0, v3, v5, w0⟩ : (List Int) × Int × Int × (List Int)) => (AV.lst oa ca 1 (List.map eI v0) :: topA 2 (AV.int IntKind.i64 v3 :: AV.own 0 1 none false :: AV.int IntKind.i64 v5 :: tops 55), [Blk.rows Mode.live 1 (List.map eI w0)])) (fun m (⟨v0, v3, v5, w0⟩ : (List Int) × Int × Int × (List Int)) => spec_duLeast_l0 L m v0 v3 v5 w0) (fun _ => rfl) (fun m s rec hrec => ?_) L ((a, ilen (List.map eI a), 0, r)) ?_ ?_
 rotate_left
 ·first | rfl | simp only [ml] <;> rfl
 ·first | rfl | simp only [ml] <;> rfl
 obtain ⟨v0, v3, v5, w0⟩ := s
 show _ = Option.map _ (spec_duLeast_l0 L (m + 1) v0 v3 v5 w0)
 rw [spec_duLeast_l0.eq_2]
 conv => lhs; whnf
 refine t_cond ?_ ?_
 ·conv => lhs; whnf
  refine t_cond ?_ ?_
  ·conv => lhs; whnf
   refine t_cond ?_ ?_
   ·conv => lhs; whnf
    refine t_loop (fun (⟨v24, w1, w2⟩ : Int × (List Int) × (List Int)) => (AV.lst oa ca 1 (List.map eI v0) :: topA 2 (AV.int IntKind.i64 v3 :: AV.own 0 1 none false :: AV.int IntKind.i64 v5 :: AV.own 1 1 none false :: AV.own 2 1 none false :: topA 15 (AV.int IntKind.i64 (ilen (List.map eI v0)) :: AV.int IntKind.i64 v24 :: tops 36)), [Blk.rows Mode.live 1 (List.map eI w0), Blk.rows Mode.live 1 (List.map eI w1), Blk.rows Mode.live 1 (List.map eI w2)])) (fun m1 (⟨v24, w1, w2⟩ : Int × (List Int) × (List Int)) => spec_duLeast_l1 L (spec_duLeast_l0 L m) v0 v3 v5 w0 m1 v24 w1 w2) (fun _ => rfl) (fun m1 s1 rec1 hrec1 => ?_) L ((0, lrep v3 0, lrep v3 0)) ?_ ?_
    rotate_left
    ·first | rfl | simp only [ml] <;> rfl
    ·first | rfl | simp only [ml] <;> rfl
    obtain ⟨v24, w1, w2⟩ := s1
    show _ = Option.map _ (spec_duLeast_l1 L (spec_duLeast_l0 L m) v0 v3 v5 w0 (m1 + 1) v24 w1 w2)
    rw [spec_duLeast_l1.eq_2]
    conv => lhs; whnf
    refine t_cond ?_ ?_
    ·conv => lhs; whnf
     refine t_cond ?_ ?_
     ·conv => lhs; whnf
      exact t_none
     ·conv => lhs; whnf
      refine t_get (en := eI) (l := v0) (by first | rfl | simp only [ml] <;> rfl) fun p => ?_
      conv => lhs; whnf
      refine t_cond ?_ ?_
      ·conv => lhs; whnf
       refine t_get (en := eI) (l := w1) (by first | rfl | simp only [ml] <;> rfl) fun p1 => ?_
       conv => lhs; whnf
       refine t_cond ?_ ?_
       ·conv => lhs; whnf
        exact t_none
       ·conv => lhs; whnf
        refine t_get (en := eI) (l := v0) (by first | rfl | simp only [ml] <;> rfl) fun p2 => ?_
        conv => lhs; whnf
        refine t_cond ?_ ?_
        ·conv => lhs; whnf
         refine t_get (en := eI) (l := w2) (by first | rfl | simp only [ml] <;> rfl) fun p3 => ?_
         conv => lhs; whnf
         exact hrec1 ((wr IntKind.i64 (iadd v24 1), lset w1 v24 p, lset w2 v24 p2)) _ _ (by first | rfl | simp only [ml] <;> rfl) (by first | rfl | simp only [ml] <;> rfl)
        ·conv => lhs; whnf
         exact t_none
      ·conv => lhs; whnf
       exact t_none
    ·conv => lhs; whnf
     refine t_call (h_spec_duBefore _ _ _ w1 (by first | rfl | simp only [ml] <;> rfl) _ _ _ w0 (by first | rfl | simp only [ml] <;> rfl)) fun r1 => ?_
     conv => lhs; whnf
     refine t_cond ?_ ?_
     ·conv => lhs; whnf
      refine t_call (h_spec_duBefore _ _ _ w2 (by first | rfl | simp only [ml] <;> rfl) _ _ _ w1 (by first | rfl | simp only [ml] <;> rfl)) fun r2 => ?_
      conv => lhs; whnf
      refine t_cond ?_ ?_
      ·conv => lhs; whnf
       exact hrec ((v0, v3, wr IntKind.i64 (iadd v5 1), w2)) _ _ (by first | rfl | simp only [ml] <;> rfl) (by first | rfl | simp only [ml] <;> rfl)
      ·conv => lhs; whnf
       exact hrec ((v0, v3, wr IntKind.i64 (iadd v5 1), w1)) _ _ (by first | rfl | simp only [ml] <;> rfl) (by first | rfl | simp only [ml] <;> rfl)
     ·conv => lhs; whnf
      refine t_call (h_spec_duBefore _ _ _ w2 (by first | rfl | simp only [ml] <;> rfl) _ _ _ w0 (by first | rfl | simp only [ml] <;> rfl)) fun r3 => ?_
      conv => lhs; whnf
      refine t_cond ?_ ?_
      ·conv => lhs; whnf
       exact hrec ((v0, v3, wr IntKind.i64 (iadd v5 1), w2)) _ _ (by first | rfl | simp only [ml] <;> rfl) (by first | rfl | simp only [ml] <;> rfl)
      ·conv => lhs; whnf
       exact hrec ((v0, v3, wr IntKind.i64 (iadd v5 1), w0)) _ _ (by first | rfl | simp only [ml] <;> rfl) (by first | rfl | simp only [ml] <;> rfl)
   ·conv => lhs; whnf
    exact t_none
  ·conv => lhs; whnf
   exact t_none
 ·conv => lhs; whnf
  exact t_ret (by first | rfl | simp only [ml] <;> rfl)
noncomputable def spec_l1Same_l0 (L : Nat) (a : List Int) (b : List Int) : Nat → Int → Option Bool
  | 0, _ => none
  | m + 1, v13 => bif ilt v13 (ilen (List.map eI a)) then (gbind (lget a v13) fun p => gbind (lget b v13) fun p1 => bif !ieq p p1 then (some false) else (spec_l1Same_l0 L a b m (wr IntKind.i64 (iadd v13 1)))) else (some true)
noncomputable def spec_l1Same (L : Nat) (a : List Int) (b : List Int) : Option (Bool) := bif !ieq (ilen (List.map eI a)) (ilen (List.map eI b)) then (some false) else (spec_l1Same_l0 L a b L 0)
def spec_l1Same_ok (L : Nat) (C : CF) : Prop := ∀ (oa : Bool) (ca : Bool) (x_a : List AV) (a : List Int) (_ : x_a = List.map eI a) (ob : Bool) (cb : Bool) (x_b : List AV) (b : List Int) (_ : x_b = List.map eI b), C 22 ([.lst oa ca 1 x_a, .lst ob cb 1 x_b]) ([]) = Option.map (fun r : Bool => ((.bool r, []) : AV × List Blk)) (spec_l1Same L a b)
theorem spec_l1Same_run (L : Nat) (C : CF) : ∀ (oa : Bool) (ca : Bool) (x_a : List AV) (a : List Int) (_ : x_a = List.map eI a) (ob : Bool) (cb : Bool) (x_b : List AV) (b : List Int) (_ : x_b = List.map eI b), run T C sh (keep 22) L Try.f22 ([.lst oa ca 1 x_a, .lst ob cb 1 x_b]) ([]) = Option.map (fun r : Bool => ((.bool r, []) : AV × List Blk)) (spec_l1Same L a b) := by
 intro oa ca x_a a hx_a ob cb x_b b hx_b
 subst hx_a
 subst hx_b
 unfold spec_l1Same
 conv => lhs; whnf
 refine t_cond ?_ ?_
 ·conv => lhs; whnf
  exact t_ret (by first | rfl | simp only [ml] <;> rfl)
 ·conv => lhs; whnf
  refine t_loop (fun (v13 : Int) => (AV.lst oa ca 1 (List.map eI a) :: AV.lst ob cb 1 (List.map eI b) :: topA 10 (AV.int IntKind.i64 (ilen (List.map eI a)) :: AV.int IntKind.i64 v13 :: tops 12), [])) (fun m (v13 : Int) => spec_l1Same_l0 L a b m v13) (fun _ => rfl) (fun m v13 rec hrec => ?_) L 0 ?_ ?_
  rotate_left
  ·first | rfl | simp only [ml] <;> rfl
  ·first | rfl | simp only [ml] <;> rfl
  show _ = Option.map _ (spec_l1Same_l0 L a b (m + 1) v13)
  rw [spec_l1Same_l0.eq_2]
  conv => lhs; whnf
  refine t_cond ?_ ?_
  ·conv => lhs; whnf
   refine t_get (en := eI) (l := a) (by first | rfl | simp only [ml] <;> rfl) fun p => ?_
   conv => lhs; whnf
   refine t_get (en := eI) (l := b) (by first | rfl | simp only [ml] <;> rfl) fun p1 => ?_
   conv => lhs; whnf
   refine t_cond ?_ ?_
   ·conv => lhs; whnf
    exact t_ret (by first | rfl | simp only [ml] <;> rfl)
   ·conv => lhs; whnf
    exact hrec (wr IntKind.i64 (iadd v13 1)) _ _ (by first | rfl | simp only [ml] <;> rfl) (by first | rfl | simp only [ml] <;> rfl)
  ·conv => lhs; whnf
   exact t_ret (by first | rfl | simp only [ml] <;> rfl)
noncomputable def spec_duSame (L : Nat) (a : List Pt) (b : List Pt) : Option (Bool) := gbind (spec_duAround L a) fun r => gbind (spec_duNumbers L r) fun r1 => gbind (spec_duLeast L r1) fun r2 => gbind (spec_duAround L b) fun r3 => gbind (spec_duNumbers L r3) fun r4 => gbind (spec_duLeast L r4) fun r5 => gbind (spec_l1Same L r2 r5) fun r6 => some r6
def spec_duSame_ok (L : Nat) (C : CF) : Prop := ∀ (oa : Bool) (ca : Bool) (x_a : List AV) (a : List Pt) (_ : x_a = List.map ep a) (ob : Bool) (cb : Bool) (x_b : List AV) (b : List Pt) (_ : x_b = List.map ep b), C 10 ([.lst oa ca 2 x_a, .lst ob cb 2 x_b]) ([]) = Option.map (fun r : Bool => ((.bool r, []) : AV × List Blk)) (spec_duSame L a b)
theorem spec_duSame_run (L : Nat) (C : CF) (h_spec_duAround : spec_duAround_ok L C) (h_spec_duNumbers : spec_duNumbers_ok L C) (h_spec_duLeast : spec_duLeast_ok L C) (h_spec_l1Same : spec_l1Same_ok L C) : ∀ (oa : Bool) (ca : Bool) (x_a : List AV) (a : List Pt) (_ : x_a = List.map ep a) (ob : Bool) (cb : Bool) (x_b : List AV) (b : List Pt) (_ : x_b = List.map ep b), run T C sh (keep 10) L Try.f10 ([.lst oa ca 2 x_a, .lst ob cb 2 x_b]) ([]) = Option.map (fun r : Bool => ((.bool r, []) : AV × List Blk)) (spec_duSame L a b) := by
 intro oa ca x_a a hx_a ob cb x_b b hx_b
 subst hx_a
 subst hx_b
 unfold spec_duSame
 conv => lhs; whnf
 refine t_call (h_spec_duAround _ _ _ a (by first | rfl | simp only [ml] <;> rfl)) fun r => ?_
 conv => lhs; whnf
 refine t_call (h_spec_duNumbers _ _ _ r (by first | rfl | simp only [ml] <;> rfl)) fun r1 => ?_
 conv => lhs; whnf
 refine t_call (h_spec_duLeast _ _ _ r1 (by first | rfl | simp only [ml] <;> rfl)) fun r2 => ?_
 conv => lhs; whnf
 refine t_call (h_spec_duAround _ _ _ b (by first | rfl | simp only [ml] <;> rfl)) fun r3 => ?_
 conv => lhs; whnf
 refine t_call (h_spec_duNumbers _ _ _ r3 (by first | rfl | simp only [ml] <;> rfl)) fun r4 => ?_
 conv => lhs; whnf
 refine t_call (h_spec_duLeast _ _ _ r4 (by first | rfl | simp only [ml] <;> rfl)) fun r5 => ?_
 conv => lhs; whnf
 refine t_call (h_spec_l1Same _ _ _ r2 (by first | rfl | simp only [ml] <;> rfl) _ _ _ r5 (by first | rfl | simp only [ml] <;> rfl)) fun r6 => ?_
 conv => lhs; whnf
 exact t_ret (by first | rfl | simp only [ml] <;> rfl)
noncomputable def spec_IsOwnDual (L : Nat) (a : List Pt) : Option (Bool × Bool) := gbind (spec_duOne L a) fun r => bif !r then (some ((false, false))) else (gbind (spec_duDual L a) fun r1 => gbind (spec_duSame L a r1) fun r2 => some ((r2, true)))
def spec_IsOwnDual_ok (L : Nat) (C : CF) : Prop := ∀ (oa : Bool) (ca : Bool) (x_a : List AV) (a : List Pt) (_ : x_a = List.map ep a), C 5 ([.lst oa ca 2 x_a]) ([]) = Option.map (fun r : Bool × Bool => ((.tup [.bool (r.1), .bool (r.2)], []) : AV × List Blk)) (spec_IsOwnDual L a)
theorem spec_IsOwnDual_run (L : Nat) (C : CF) (h_spec_duOne : spec_duOne_ok L C) (h_spec_duDual : spec_duDual_ok L C) (h_spec_duSame : spec_duSame_ok L C) : ∀ (oa : Bool) (ca : Bool) (x_a : List AV) (a : List Pt) (_ : x_a = List.map ep a), run T C sh (keep 5) L Try.f5 ([.lst oa ca 2 x_a]) ([]) = Option.map (fun r : Bool × Bool => ((.tup [.bool (r.1), .bool (r.2)], []) : AV × List Blk)) (spec_IsOwnDual L a) := by
 intro oa ca x_a a hx_a
 subst hx_a
 unfold spec_IsOwnDual
 conv => lhs; whnf
 refine t_call (h_spec_duOne _ _ _ a (by first | rfl | simp only [ml] <;> rfl)) fun r => ?_
 conv => lhs; whnf
 refine t_cond ?_ ?_
 ·conv => lhs; whnf
  exact t_ret (by first | rfl | simp only [ml] <;> rfl)
 ·conv => lhs; whnf
  refine t_call (h_spec_duDual _ _ _ a (by first | rfl | simp only [ml] <;> rfl)) fun r1 => ?_
  conv => lhs; whnf
  refine t_call (h_spec_duSame _ _ _ a (by first | rfl | simp only [ml] <;> rfl) _ _ _ r1 (by first | rfl | simp only [ml] <;> rfl)) fun r2 => ?_
  conv => lhs; whnf
  exact t_ret (by first | rfl | simp only [ml] <;> rfl)
noncomputable def impl_within (L : Nat) (a : Int) (b : Int) (c : Int) : Option (Bool) := bif ile b a then (some (ile a c)) else (some false)
def impl_within_ok (L : Nat) (C : CF) : Prop := ∀ (a : Int) (b : Int) (c : Int), C 51 ([.int .i64 a, .int .i64 b, .int .i64 c]) ([]) = Option.map (fun r : Bool => ((.bool r, []) : AV × List Blk)) (impl_within L a b c)
theorem impl_within_run (L : Nat) (C : CF) : ∀ (a : Int) (b : Int) (c : Int), run T C sh (keep 51) L Try.f51 ([.int .i64 a, .int .i64 b, .int .i64 c]) ([]) = Option.map (fun r : Bool => ((.bool r, []) : AV × List Blk)) (impl_within L a b c) := by
 intro a b c
 unfold impl_within
 conv => lhs; whnf
 refine t_cond ?_ ?_
 ·conv => lhs; whnf
  exact t_ret (by first | rfl | simp only [ml] <;> rfl)
 ·conv => lhs; whnf
  exact t_ret (by first | rfl | simp only [ml] <;> rfl)
noncomputable def impl_IsPeg (L : Nat) (a_0 : Int) (a_1 : Int) : Option (Bool) := gbind (impl_within L a_0 (-40) 40) fun r => bif r then (gbind (impl_within L a_1 (-40) 40) fun r1 => some r1) else (some false)
def impl_IsPeg_ok (L : Nat) (C : CF) : Prop := ∀ (a_0 : Int) (a_1 : Int), C 69 ([.agg [.int .i64 a_0, .int .i64 a_1]]) ([]) = Option.map (fun r : Bool => ((.bool r, []) : AV × List Blk)) (impl_IsPeg L a_0 a_1)
theorem impl_IsPeg_run (L : Nat) (C : CF) (h_impl_within : impl_within_ok L C) : ∀ (a_0 : Int) (a_1 : Int), run T C sh (keep 69) L Try.f69 ([.agg [.int .i64 a_0, .int .i64 a_1]]) ([]) = Option.map (fun r : Bool => ((.bool r, []) : AV × List Blk)) (impl_IsPeg L a_0 a_1) := by
 intro a_0 a_1
 unfold impl_IsPeg
 conv => lhs; whnf
 refine t_call (h_impl_within a_0 (-40) 40) fun r => ?_
 conv => lhs; whnf
 refine t_cond ?_ ?_
 ·conv => lhs; whnf
  refine t_call (h_impl_within a_1 (-40) 40) fun r1 => ?_
  conv => lhs; whnf
  exact t_ret (by first | rfl | simp only [ml] <;> rfl)
 ·conv => lhs; whnf
  exact t_ret (by first | rfl | simp only [ml] <;> rfl)
noncomputable def impl_arePegs_1 (L : Nat) (a_0 : Int) (a_1 : Int) : Option (Bool) := gbind (impl_IsPeg L a_0 a_1) fun r => some (!r)
def impl_arePegs_1_ok (L : Nat) (C : CF) : Prop := ∀ (a_0 : Int) (a_1 : Int), C 68 ([.agg [.int .i64 a_0, .int .i64 a_1]]) ([]) = Option.map (fun r : Bool => ((.bool r, []) : AV × List Blk)) (impl_arePegs_1 L a_0 a_1)
theorem impl_arePegs_1_run (L : Nat) (C : CF) (h_impl_IsPeg : impl_IsPeg_ok L C) : ∀ (a_0 : Int) (a_1 : Int), run T C sh (keep 68) L Try.f68 ([.agg [.int .i64 a_0, .int .i64 a_1]]) ([]) = Option.map (fun r : Bool => ((.bool r, []) : AV × List Blk)) (impl_arePegs_1 L a_0 a_1) := by
 intro a_0 a_1
 unfold impl_arePegs_1
 conv => lhs; whnf
 refine t_call (h_impl_IsPeg a_0 a_1) fun r => ?_
 conv => lhs; whnf
 exact t_ret (by first | rfl | simp only [ml] <;> rfl)
noncomputable def slices_IndexFunc_impl_Peg_impl_Peg_arePegs_l0 (L : Nat) (a : List Pt) : Nat → Int → Option Int
  | 0, _ => none
  | m + 1, v8 => bif ilt v8 (ilen (List.map ep a)) then (gbind (lget a v8) fun p => gbind (impl_arePegs_1 L (Pt.x p) (Pt.y p)) fun r => bif r then (some v8) else (slices_IndexFunc_impl_Peg_impl_Peg_arePegs_l0 L a m (wr IntKind.i64 (iadd v8 1)))) else (some (-1))
noncomputable def slices_IndexFunc_impl_Peg_impl_Peg_arePegs (L : Nat) (a : List Pt) : Option (Int) := slices_IndexFunc_impl_Peg_impl_Peg_arePegs_l0 L a L 0
def slices_IndexFunc_impl_Peg_impl_Peg_arePegs_ok (L : Nat) (C : CF) : Prop := ∀ (o1 : Bool) (c1 : Bool) (x_a : List AV) (a : List Pt) (_ : x_a = List.map ep a), C 76 ([.lst o1 c1 2 x_a, .fn 68 [] []]) ([]) = Option.map (fun r : Int => ((.int .i64 r, []) : AV × List Blk)) (slices_IndexFunc_impl_Peg_impl_Peg_arePegs L a)
theorem slices_IndexFunc_impl_Peg_impl_Peg_arePegs_run (L : Nat) (C : CF) (h_impl_arePegs_1 : impl_arePegs_1_ok L C) : ∀ (o1 : Bool) (c1 : Bool) (x_a : List AV) (a : List Pt) (_ : x_a = List.map ep a), run T C sh (keep 76) L Try.f76 ([.lst o1 c1 2 x_a, .fn 68 [] []]) ([]) = Option.map (fun r : Int => ((.int .i64 r, []) : AV × List Blk)) (slices_IndexFunc_impl_Peg_impl_Peg_arePegs L a) := by
 intro o1 c1 x_a a hx_a
 subst hx_a
 unfold slices_IndexFunc_impl_Peg_impl_Peg_arePegs
 conv => lhs; whnf
 refine t_loop (fun (v8 : Int) => (AV.lst o1 c1 2 (List.map ep a) :: AV.fn 68 [] [] :: topA 5 (AV.int IntKind.i64 (ilen (List.map ep a)) :: AV.int IntKind.i64 v8 :: tops 10), [])) (fun m (v8 : Int) => slices_IndexFunc_impl_Peg_impl_Peg_arePegs_l0 L a m v8) (fun _ => rfl) (fun m v8 rec hrec => ?_) L 0 ?_ ?_
 rotate_left
 ·first | rfl | simp only [ml] <;> rfl
 ·first | rfl | simp only [ml] <;> rfl
 show _ = Option.map _ (slices_IndexFunc_impl_Peg_impl_Peg_arePegs_l0 L a (m + 1) v8)
 rw [slices_IndexFunc_impl_Peg_impl_Peg_arePegs_l0.eq_2]
 conv => lhs; whnf
 refine t_cond ?_ ?_
 ·conv => lhs; whnf
  refine t_get (en := ep) (l := a) (by first | rfl | simp only [ml] <;> rfl) fun p => ?_
  conv => lhs; whnf
  refine t_call (h_impl_arePegs_1 (Pt.x p) (Pt.y p)) fun r => ?_
  conv => lhs; whnf
  refine t_cond ?_ ?_
  ·conv => lhs; whnf
   exact t_ret (by first | rfl | simp only [ml] <;> rfl)
  ·conv => lhs; whnf
   exact hrec (wr IntKind.i64 (iadd v8 1)) _ _ (by first | rfl | simp only [ml] <;> rfl) (by first | rfl | simp only [ml] <;> rfl)
 ·conv => lhs; whnf
  exact t_ret (by first | rfl | simp only [ml] <;> rfl)
noncomputable def slices_ContainsFunc_impl_Peg_impl_Peg_arePegs (L : Nat) (a : List Pt) : Option (Bool) := gbind (slices_IndexFunc_impl_Peg_impl_Peg_arePegs L a) fun r => some (ile 0 r)
def slices_ContainsFunc_impl_Peg_impl_Peg_arePegs_ok (L : Nat) (C : CF) : Prop := ∀ (o1 : Bool) (c1 : Bool) (x_a : List AV) (a : List Pt) (_ : x_a = List.map ep a), C 67 ([.lst o1 c1 2 x_a, .fn 68 [] []]) ([]) = Option.map (fun r : Bool => ((.bool r, []) : AV × List Blk)) (slices_ContainsFunc_impl_Peg_impl_Peg_arePegs L a)
theorem slices_ContainsFunc_impl_Peg_impl_Peg_arePegs_run (L : Nat) (C : CF) (h_slices_IndexFunc_impl_Peg_impl_Peg_arePegs : slices_IndexFunc_impl_Peg_impl_Peg_arePegs_ok L C) : ∀ (o1 : Bool) (c1 : Bool) (x_a : List AV) (a : List Pt) (_ : x_a = List.map ep a), run T C sh (keep 67) L Try.f67 ([.lst o1 c1 2 x_a, .fn 68 [] []]) ([]) = Option.map (fun r : Bool => ((.bool r, []) : AV × List Blk)) (slices_ContainsFunc_impl_Peg_impl_Peg_arePegs L a) := by
 intro o1 c1 x_a a hx_a
 subst hx_a
 unfold slices_ContainsFunc_impl_Peg_impl_Peg_arePegs
 conv => lhs; whnf
 refine t_call (h_slices_IndexFunc_impl_Peg_impl_Peg_arePegs _ _ _ a (by first | rfl | simp only [ml] <;> rfl)) fun r => ?_
 conv => lhs; whnf
 exact t_ret (by first | rfl | simp only [ml] <;> rfl)
noncomputable def impl_arePegs (L : Nat) (a : List Pt) : Option (Bool) := gbind (slices_ContainsFunc_impl_Peg_impl_Peg_arePegs L a) fun r => some (!r)
def impl_arePegs_ok (L : Nat) (C : CF) : Prop := ∀ (oa : Bool) (ca : Bool) (x_a : List AV) (a : List Pt) (_ : x_a = List.map ep a), C 52 ([.lst oa ca 2 x_a]) ([]) = Option.map (fun r : Bool => ((.bool r, []) : AV × List Blk)) (impl_arePegs L a)
theorem impl_arePegs_run (L : Nat) (C : CF) (h_slices_ContainsFunc_impl_Peg_impl_Peg_arePegs : slices_ContainsFunc_impl_Peg_impl_Peg_arePegs_ok L C) : ∀ (oa : Bool) (ca : Bool) (x_a : List AV) (a : List Pt) (_ : x_a = List.map ep a), run T C sh (keep 52) L Try.f52 ([.lst oa ca 2 x_a]) ([]) = Option.map (fun r : Bool => ((.bool r, []) : AV × List Blk)) (impl_arePegs L a) := by
 intro oa ca x_a a hx_a
 subst hx_a
 unfold impl_arePegs
 conv => lhs; whnf
 refine t_call (h_slices_ContainsFunc_impl_Peg_impl_Peg_arePegs _ _ _ a (by first | rfl | simp only [ml] <;> rfl)) fun r => ?_
 conv => lhs; whnf
 exact t_ret (by first | rfl | simp only [ml] <;> rfl)
noncomputable def slices_Index_impl_Peg_impl_Peg_l0 (L : Nat) (a : List Pt) (b_0 : Int) (b_1 : Int) : Nat → Int → Option Int
  | 0, _ => none
  | m + 1, v8 => bif ilt v8 (ilen (List.map ep a)) then (gbind (lget a v8) fun p => bif ieq b_0 (Pt.x p) && ieq b_1 (Pt.y p) then (some v8) else (slices_Index_impl_Peg_impl_Peg_l0 L a b_0 b_1 m (wr IntKind.i64 (iadd v8 1)))) else (some (-1))
noncomputable def slices_Index_impl_Peg_impl_Peg (L : Nat) (a : List Pt) (b_0 : Int) (b_1 : Int) : Option (Int) := slices_Index_impl_Peg_impl_Peg_l0 L a b_0 b_1 L 0
def slices_Index_impl_Peg_impl_Peg_ok (L : Nat) (C : CF) : Prop := ∀ (oa : Bool) (ca : Bool) (x_a : List AV) (a : List Pt) (_ : x_a = List.map ep a) (b_0 : Int) (b_1 : Int), C 70 ([.lst oa ca 2 x_a, .agg [.int .i64 b_0, .int .i64 b_1]]) ([]) = Option.map (fun r : Int => ((.int .i64 r, []) : AV × List Blk)) (slices_Index_impl_Peg_impl_Peg L a b_0 b_1)
theorem slices_Index_impl_Peg_impl_Peg_run (L : Nat) (C : CF) : ∀ (oa : Bool) (ca : Bool) (x_a : List AV) (a : List Pt) (_ : x_a = List.map ep a) (b_0 : Int) (b_1 : Int), run T C sh (keep 70) L Try.f70 ([.lst oa ca 2 x_a, .agg [.int .i64 b_0, .int .i64 b_1]]) ([]) = Option.map (fun r : Int => ((.int .i64 r, []) : AV × List Blk)) (slices_Index_impl_Peg_impl_Peg L a b_0 b_1) := by
 intro oa ca x_a a hx_a b_0 b_1
 subst hx_a
 unfold slices_Index_impl_Peg_impl_Peg
 conv => lhs; whnf
 refine t_loop (fun (v8 : Int) => (AV.lst oa ca 2 (List.map ep a) :: topA 2 (AV.ptr 0 0 0 2 :: topA 3 (AV.int IntKind.i64 (ilen (List.map ep a)) :: AV.int IntKind.i64 v8 :: tops 10)), [Blk.box (AV.agg [AV.int IntKind.i64 b_0, AV.int IntKind.i64 b_1])])) (fun m (v8 : Int) => slices_Index_impl_Peg_impl_Peg_l0 L a b_0 b_1 m v8) (fun _ => rfl) (fun m v8 rec hrec => ?_) L 0 ?_ ?_
 rotate_left
 ·first | rfl | simp only [ml] <;> rfl
 ·first | rfl | simp only [ml] <;> rfl
 show _ = Option.map _ (slices_Index_impl_Peg_impl_Peg_l0 L a b_0 b_1 (m + 1) v8)
 rw [slices_Index_impl_Peg_impl_Peg_l0.eq_2]
 conv => lhs; whnf
 refine t_cond ?_ ?_
 ·conv => lhs; whnf
  refine t_get (en := ep) (l := a) (by first | rfl | simp only [ml] <;> rfl) fun p => ?_
  conv => lhs; whnf
  refine t_cond ?_ ?_
  ·conv => lhs; whnf
   exact t_ret (by first | rfl | simp only [ml] <;> rfl)
  ·conv => lhs; whnf
   exact hrec (wr IntKind.i64 (iadd v8 1)) _ _ (by first | rfl | simp only [ml] <;> rfl) (by first | rfl | simp only [ml] <;> rfl)
 ·conv => lhs; whnf
  exact t_ret (by first | rfl | simp only [ml] <;> rfl)
noncomputable def slices_Contains_impl_Peg_impl_Peg (L : Nat) (a : List Pt) (b_0 : Int) (b_1 : Int) : Option (Bool) := gbind (slices_Index_impl_Peg_impl_Peg L a b_0 b_1) fun r => some (ile 0 r)
def slices_Contains_impl_Peg_impl_Peg_ok (L : Nat) (C : CF) : Prop := ∀ (oa : Bool) (ca : Bool) (x_a : List AV) (a : List Pt) (_ : x_a = List.map ep a) (b_0 : Int) (b_1 : Int), C 53 ([.lst oa ca 2 x_a, .agg [.int .i64 b_0, .int .i64 b_1]]) ([]) = Option.map (fun r : Bool => ((.bool r, []) : AV × List Blk)) (slices_Contains_impl_Peg_impl_Peg L a b_0 b_1)
theorem slices_Contains_impl_Peg_impl_Peg_run (L : Nat) (C : CF) (h_slices_Index_impl_Peg_impl_Peg : slices_Index_impl_Peg_impl_Peg_ok L C) : ∀ (oa : Bool) (ca : Bool) (x_a : List AV) (a : List Pt) (_ : x_a = List.map ep a) (b_0 : Int) (b_1 : Int), run T C sh (keep 53) L Try.f53 ([.lst oa ca 2 x_a, .agg [.int .i64 b_0, .int .i64 b_1]]) ([]) = Option.map (fun r : Bool => ((.bool r, []) : AV × List Blk)) (slices_Contains_impl_Peg_impl_Peg L a b_0 b_1) := by
 intro oa ca x_a a hx_a b_0 b_1
 subst hx_a
 unfold slices_Contains_impl_Peg_impl_Peg
 conv => lhs; whnf
 refine t_call (h_slices_Index_impl_Peg_impl_Peg _ _ _ a (by first | rfl | simp only [ml] <;> rfl) b_0 b_1) fun r => ?_
 conv => lhs; whnf
 exact t_ret (by first | rfl | simp only [ml] <;> rfl)
noncomputable def impl_at (L : Nat) (a : List Pt) (b : Int) : Option (Int × Int) := bif ieq (ilen (List.map ep a)) 0 then (none) else (bif ieq (ilen (List.map ep a)) 0 then (none) else (gbind (lget a (irem (wr IntKind.i64 (iadd (irem b (ilen (List.map ep a))) (ilen (List.map ep a)))) (ilen (List.map ep a)))) fun p => some ((Pt.x p, Pt.y p))))
def impl_at_ok (L : Nat) (C : CF) : Prop := ∀ (oa : Bool) (ca : Bool) (x_a : List AV) (a : List Pt) (_ : x_a = List.map ep a) (b : Int), C 34 ([.lst oa ca 2 x_a, .int .i64 b]) ([]) = Option.map (fun r : Int × Int => ((.agg [.int .i64 (r.1), .int .i64 (r.2)], []) : AV × List Blk)) (impl_at L a b)
theorem impl_at_run (L : Nat) (C : CF) : ∀ (oa : Bool) (ca : Bool) (x_a : List AV) (a : List Pt) (_ : x_a = List.map ep a) (b : Int), run T C sh (keep 34) L Try.f34 ([.lst oa ca 2 x_a, .int .i64 b]) ([]) = Option.map (fun r : Int × Int => ((.agg [.int .i64 (r.1), .int .i64 (r.2)], []) : AV × List Blk)) (impl_at L a b) := by
 intro oa ca x_a a hx_a b
 subst hx_a
 unfold impl_at
 conv => lhs; whnf
 refine t_cond ?_ ?_
 ·conv => lhs; whnf
  exact t_none
 ·conv => lhs; whnf
  refine t_cond ?_ ?_
  ·conv => lhs; whnf
   exact t_none
  ·conv => lhs; whnf
   refine t_get (en := ep) (l := a) (by first | rfl | simp only [ml] <;> rfl) fun p => ?_
   conv => lhs; whnf
   exact t_ret (by first | rfl | simp only [ml] <;> rfl)
noncomputable def impl_Peg_less (L : Nat) (a_0 : Int) (a_1 : Int) (b_0 : Int) (b_1 : Int) : Option (Int × Int) := some ((wr IntKind.i64 (isub a_0 b_0), wr IntKind.i64 (isub a_1 b_1)))
def impl_Peg_less_ok (L : Nat) (C : CF) : Prop := ∀ (a_0 : Int) (a_1 : Int) (b_0 : Int) (b_1 : Int), C 59 ([.agg [.int .i64 a_0, .int .i64 a_1], .agg [.int .i64 b_0, .int .i64 b_1]]) ([]) = Option.map (fun r : Int × Int => ((.agg [.int .i64 (r.1), .int .i64 (r.2)], []) : AV × List Blk)) (impl_Peg_less L a_0 a_1 b_0 b_1)
theorem impl_Peg_less_run (L : Nat) (C : CF) : ∀ (a_0 : Int) (a_1 : Int) (b_0 : Int) (b_1 : Int), run T C sh (keep 59) L Try.f59 ([.agg [.int .i64 a_0, .int .i64 a_1], .agg [.int .i64 b_0, .int .i64 b_1]]) ([]) = Option.map (fun r : Int × Int => ((.agg [.int .i64 (r.1), .int .i64 (r.2)], []) : AV × List Blk)) (impl_Peg_less L a_0 a_1 b_0 b_1) := by
 intro a_0 a_1 b_0 b_1
 unfold impl_Peg_less
 conv => lhs; whnf
 exact t_ret (by first | rfl | simp only [ml] <;> rfl)
noncomputable def impl_cross (L : Nat) (a_0 : Int) (a_1 : Int) (b_0 : Int) (b_1 : Int) : Option (Int) := some (wr IntKind.i64 (isub (wr IntKind.i64 (imul a_0 b_1)) (wr IntKind.i64 (imul a_1 b_0))))
def impl_cross_ok (L : Nat) (C : CF) : Prop := ∀ (a_0 : Int) (a_1 : Int) (b_0 : Int) (b_1 : Int), C 35 ([.agg [.int .i64 a_0, .int .i64 a_1], .agg [.int .i64 b_0, .int .i64 b_1]]) ([]) = Option.map (fun r : Int => ((.int .i64 r, []) : AV × List Blk)) (impl_cross L a_0 a_1 b_0 b_1)
theorem impl_cross_run (L : Nat) (C : CF) : ∀ (a_0 : Int) (a_1 : Int) (b_0 : Int) (b_1 : Int), run T C sh (keep 35) L Try.f35 ([.agg [.int .i64 a_0, .int .i64 a_1], .agg [.int .i64 b_0, .int .i64 b_1]]) ([]) = Option.map (fun r : Int => ((.int .i64 r, []) : AV × List Blk)) (impl_cross L a_0 a_1 b_0 b_1) := by
 intro a_0 a_1 b_0 b_1
 unfold impl_cross
 conv => lhs; whnf
 exact t_ret (by first | rfl | simp only [ml] <;> rfl)
noncomputable def impl_turn (L : Nat) (a_0 : Int) (a_1 : Int) (b_0 : Int) (b_1 : Int) (c_0 : Int) (c_1 : Int) : Option (Int) := gbind (impl_Peg_less L b_0 b_1 a_0 a_1) fun r => gbind (impl_Peg_less L c_0 c_1 a_0 a_1) fun r1 => gbind (impl_cross L (Prod.fst r) (Prod.snd r) (Prod.fst r1) (Prod.snd r1)) fun r2 => some r2
def impl_turn_ok (L : Nat) (C : CF) : Prop := ∀ (a_0 : Int) (a_1 : Int) (b_0 : Int) (b_1 : Int) (c_0 : Int) (c_1 : Int), C 54 ([.agg [.int .i64 a_0, .int .i64 a_1], .agg [.int .i64 b_0, .int .i64 b_1], .agg [.int .i64 c_0, .int .i64 c_1]]) ([]) = Option.map (fun r : Int => ((.int .i64 r, []) : AV × List Blk)) (impl_turn L a_0 a_1 b_0 b_1 c_0 c_1)
theorem impl_turn_run (L : Nat) (C : CF) (h_impl_Peg_less : impl_Peg_less_ok L C) (h_impl_cross : impl_cross_ok L C) : ∀ (a_0 : Int) (a_1 : Int) (b_0 : Int) (b_1 : Int) (c_0 : Int) (c_1 : Int), run T C sh (keep 54) L Try.f54 ([.agg [.int .i64 a_0, .int .i64 a_1], .agg [.int .i64 b_0, .int .i64 b_1], .agg [.int .i64 c_0, .int .i64 c_1]]) ([]) = Option.map (fun r : Int => ((.int .i64 r, []) : AV × List Blk)) (impl_turn L a_0 a_1 b_0 b_1 c_0 c_1) := by
 intro a_0 a_1 b_0 b_1 c_0 c_1
 unfold impl_turn
 conv => lhs; whnf
 refine t_call (h_impl_Peg_less b_0 b_1 a_0 a_1) fun r => ?_
 conv => lhs; whnf
 refine t_call (h_impl_Peg_less c_0 c_1 a_0 a_1) fun r1 => ?_
 conv => lhs; whnf
 refine t_call (h_impl_cross (Prod.fst r) (Prod.snd r) (Prod.fst r1) (Prod.snd r1)) fun r2 => ?_
 conv => lhs; whnf
 exact t_ret (by first | rfl | simp only [ml] <;> rfl)
noncomputable def impl_sign (L : Nat) (a : Int) : Option (Int) := some (imin 1 (imax (-1) a))
def impl_sign_ok (L : Nat) (C : CF) : Prop := ∀ (a : Int), C 64 ([.int .i64 a]) ([]) = Option.map (fun r : Int => ((.int .i64 r, []) : AV × List Blk)) (impl_sign L a)
theorem impl_sign_run (L : Nat) (C : CF) : ∀ (a : Int), run T C sh (keep 64) L Try.f64 ([.int .i64 a]) ([]) = Option.map (fun r : Int => ((.int .i64 r, []) : AV × List Blk)) (impl_sign L a) := by
 intro a
 unfold impl_sign
 conv => lhs; whnf
 exact t_ret (by first | rfl | simp only [ml] <;> rfl)
noncomputable def impl_isOn (L : Nat) (a_0 : Int) (a_1 : Int) (b_0 : Int) (b_1 : Int) (c_0 : Int) (c_1 : Int) : Option (Bool) := gbind (impl_turn L a_0 a_1 b_0 b_1 c_0 c_1) fun r => bif ieq r 0 then (gbind (impl_within L c_0 (imin a_0 b_0) (imax a_0 b_0)) fun r1 => bif r1 then (gbind (impl_within L c_1 (imin a_1 b_1) (imax a_1 b_1)) fun r2 => some r2) else (some false)) else (some false)
def impl_isOn_ok (L : Nat) (C : CF) : Prop := ∀ (a_0 : Int) (a_1 : Int) (b_0 : Int) (b_1 : Int) (c_0 : Int) (c_1 : Int), C 71 ([.agg [.int .i64 a_0, .int .i64 a_1], .agg [.int .i64 b_0, .int .i64 b_1], .agg [.int .i64 c_0, .int .i64 c_1]]) ([]) = Option.map (fun r : Bool => ((.bool r, []) : AV × List Blk)) (impl_isOn L a_0 a_1 b_0 b_1 c_0 c_1)
theorem impl_isOn_run (L : Nat) (C : CF) (h_impl_within : impl_within_ok L C) (h_impl_turn : impl_turn_ok L C) : ∀ (a_0 : Int) (a_1 : Int) (b_0 : Int) (b_1 : Int) (c_0 : Int) (c_1 : Int), run T C sh (keep 71) L Try.f71 ([.agg [.int .i64 a_0, .int .i64 a_1], .agg [.int .i64 b_0, .int .i64 b_1], .agg [.int .i64 c_0, .int .i64 c_1]]) ([]) = Option.map (fun r : Bool => ((.bool r, []) : AV × List Blk)) (impl_isOn L a_0 a_1 b_0 b_1 c_0 c_1) := by
 intro a_0 a_1 b_0 b_1 c_0 c_1
 unfold impl_isOn
 conv => lhs; whnf
 refine t_call (h_impl_turn a_0 a_1 b_0 b_1 c_0 c_1) fun r => ?_
 conv => lhs; whnf
 refine t_cond ?_ ?_
 ·conv => lhs; whnf
  refine t_call (h_impl_within c_0 (imin a_0 b_0) (imax a_0 b_0)) fun r1 => ?_
  conv => lhs; whnf
  refine t_cond ?_ ?_
  ·conv => lhs; whnf
   refine t_call (h_impl_within c_1 (imin a_1 b_1) (imax a_1 b_1)) fun r2 => ?_
   conv => lhs; whnf
   exact t_ret (by first | rfl | simp only [ml] <;> rfl)
  ·conv => lhs; whnf
   exact t_ret (by first | rfl | simp only [ml] <;> rfl)
 ·conv => lhs; whnf
  exact t_ret (by first | rfl | simp only [ml] <;> rfl)
noncomputable def impl_meet (L : Nat) (a_0 : Int) (a_1 : Int) (b_0 : Int) (b_1 : Int) (c_0 : Int) (c_1 : Int) (d_0 : Int) (d_1 : Int) : Option (Bool) := gbind (impl_turn L a_0 a_1 b_0 b_1 c_0 c_1) fun r => gbind (impl_sign L r) fun r1 => gbind (impl_turn L a_0 a_1 b_0 b_1 d_0 d_1) fun r2 => gbind (impl_sign L r2) fun r3 => bif ilt (wr IntKind.i64 (imul r1 r3)) 0 then (gbind (impl_turn L c_0 c_1 d_0 d_1 a_0 a_1) fun r4 => gbind (impl_sign L r4) fun r5 => gbind (impl_turn L c_0 c_1 d_0 d_1 b_0 b_1) fun r6 => gbind (impl_sign L r6) fun r7 => bif ilt (wr IntKind.i64 (imul r5 r7)) 0 then (some true) else (gbind (impl_isOn L a_0 a_1 b_0 b_1 c_0 c_1) fun r8 => bif r8 then (some true) else (gbind (impl_isOn L a_0 a_1 b_0 b_1 d_0 d_1) fun r9 => bif r9 then (some true) else (gbind (impl_isOn L c_0 c_1 d_0 d_1 a_0 a_1) fun r10 => bif r10 then (some true) else (gbind (impl_isOn L c_0 c_1 d_0 d_1 b_0 b_1) fun r11 => some r11))))) else (gbind (impl_isOn L a_0 a_1 b_0 b_1 c_0 c_1) fun r12 => bif r12 then (some true) else (gbind (impl_isOn L a_0 a_1 b_0 b_1 d_0 d_1) fun r13 => bif r13 then (some true) else (gbind (impl_isOn L c_0 c_1 d_0 d_1 a_0 a_1) fun r14 => bif r14 then (some true) else (gbind (impl_isOn L c_0 c_1 d_0 d_1 b_0 b_1) fun r15 => some r15))))
def impl_meet_ok (L : Nat) (C : CF) : Prop := ∀ (a_0 : Int) (a_1 : Int) (b_0 : Int) (b_1 : Int) (c_0 : Int) (c_1 : Int) (d_0 : Int) (d_1 : Int), C 55 ([.agg [.int .i64 a_0, .int .i64 a_1], .agg [.int .i64 b_0, .int .i64 b_1], .agg [.int .i64 c_0, .int .i64 c_1], .agg [.int .i64 d_0, .int .i64 d_1]]) ([]) = Option.map (fun r : Bool => ((.bool r, []) : AV × List Blk)) (impl_meet L a_0 a_1 b_0 b_1 c_0 c_1 d_0 d_1)
theorem impl_meet_run (L : Nat) (C : CF) (h_impl_turn : impl_turn_ok L C) (h_impl_sign : impl_sign_ok L C) (h_impl_isOn : impl_isOn_ok L C) : ∀ (a_0 : Int) (a_1 : Int) (b_0 : Int) (b_1 : Int) (c_0 : Int) (c_1 : Int) (d_0 : Int) (d_1 : Int), run T C sh (keep 55) L Try.f55 ([.agg [.int .i64 a_0, .int .i64 a_1], .agg [.int .i64 b_0, .int .i64 b_1], .agg [.int .i64 c_0, .int .i64 c_1], .agg [.int .i64 d_0, .int .i64 d_1]]) ([]) = Option.map (fun r : Bool => ((.bool r, []) : AV × List Blk)) (impl_meet L a_0 a_1 b_0 b_1 c_0 c_1 d_0 d_1) := by
 intro a_0 a_1 b_0 b_1 c_0 c_1 d_0 d_1
 unfold impl_meet
 conv => lhs; whnf
 refine t_call (h_impl_turn a_0 a_1 b_0 b_1 c_0 c_1) fun r => ?_
 conv => lhs; whnf
 refine t_call (h_impl_sign r) fun r1 => ?_
 conv => lhs; whnf
 refine t_call (h_impl_turn a_0 a_1 b_0 b_1 d_0 d_1) fun r2 => ?_
 conv => lhs; whnf
 refine t_call (h_impl_sign r2) fun r3 => ?_
 conv => lhs; whnf
 refine t_cond ?_ ?_
 ·conv => lhs; whnf
  refine t_call (h_impl_turn c_0 c_1 d_0 d_1 a_0 a_1) fun r4 => ?_
  conv => lhs; whnf
  refine t_call (h_impl_sign r4) fun r5 => ?_
  conv => lhs; whnf
  refine t_call (h_impl_turn c_0 c_1 d_0 d_1 b_0 b_1) fun r6 => ?_
  conv => lhs; whnf
  refine t_call (h_impl_sign r6) fun r7 => ?_
  conv => lhs; whnf
  refine t_cond ?_ ?_
  ·conv => lhs; whnf
   exact t_ret (by first | rfl | simp only [ml] <;> rfl)
  ·conv => lhs; whnf
   refine t_call (h_impl_isOn a_0 a_1 b_0 b_1 c_0 c_1) fun r8 => ?_
   conv => lhs; whnf
   refine t_cond ?_ ?_
   ·conv => lhs; whnf
    exact t_ret (by first | rfl | simp only [ml] <;> rfl)
   ·conv => lhs; whnf
    refine t_call (h_impl_isOn a_0 a_1 b_0 b_1 d_0 d_1) fun r9 => ?_
    conv => lhs; whnf
    refine t_cond ?_ ?_
    ·conv => lhs; whnf
     exact t_ret (by first | rfl | simp only [ml] <;> rfl)
    ·conv => lhs; whnf
     refine t_call (h_impl_isOn c_0 c_1 d_0 d_1 a_0 a_1) fun r10 => ?_
     conv => lhs; whnf
     refine t_cond ?_ ?_
     ·conv => lhs; whnf
      exact t_ret (by first | rfl | simp only [ml] <;> rfl)
     ·conv => lhs; whnf
      refine t_call (h_impl_isOn c_0 c_1 d_0 d_1 b_0 b_1) fun r11 => ?_
      conv => lhs; whnf
      exact t_ret (by first | rfl | simp only [ml] <;> rfl)
 ·conv => lhs; whnf
  refine t_call (h_impl_isOn a_0 a_1 b_0 b_1 c_0 c_1) fun r12 => ?_
  conv => lhs; whnf
  refine t_cond ?_ ?_
  ·conv => lhs; whnf
   exact t_ret (by first | rfl | simp only [ml] <;> rfl)
  ·conv => lhs; whnf
   refine t_call (h_impl_isOn a_0 a_1 b_0 b_1 d_0 d_1) fun r13 => ?_
   conv => lhs; whnf
   refine t_cond ?_ ?_
   ·conv => lhs; whnf
    exact t_ret (by first | rfl | simp only [ml] <;> rfl)
   ·conv => lhs; whnf
    refine t_call (h_impl_isOn c_0 c_1 d_0 d_1 a_0 a_1) fun r14 => ?_
    conv => lhs; whnf
    refine t_cond ?_ ?_
    ·conv => lhs; whnf
     exact t_ret (by first | rfl | simp only [ml] <;> rfl)
    ·conv => lhs; whnf
     refine t_call (h_impl_isOn c_0 c_1 d_0 d_1 b_0 b_1) fun r15 => ?_
     conv => lhs; whnf
     exact t_ret (by first | rfl | simp only [ml] <;> rfl)
noncomputable def impl_IsPolygon_l1 (L : Nat) (κ0 : (List Pt) → Int → (List Pt) → Int → Int → Option Bool) (v0 : List Pt) (v3 : Int) (v17 : List Pt) (v18 : Int) (v19 : Int) (p : Pt) : Nat → Int → Option Bool
  | 0, _ => none
  | m1 + 1, v43 => bif ilt v43 v19 then (bif ieq (wr IntKind.i64 (iadd v43 1)) v19 then (impl_IsPolygon_l1 L κ0 v0 v3 v17 v18 v19 p m1 (wr IntKind.i64 (iadd v43 1))) else (bif ieq (wr IntKind.i64 (iadd v19 1)) v3 then (bif ieq v43 0 then (impl_IsPolygon_l1 L κ0 v0 v3 v17 v18 v19 p m1 (wr IntKind.i64 (iadd v43 1))) else (gbind (lget v0 v43) fun p1 => gbind (lget v0 (wr IntKind.i64 (iadd v43 1))) fun p2 => gbind (impl_at L v0 (wr IntKind.i64 (iadd v19 1))) fun r6 => gbind (impl_meet L (Pt.x p1) (Pt.y p1) (Pt.x p2) (Pt.y p2) (Pt.x p) (Pt.y p) (Prod.fst r6) (Prod.snd r6)) fun r7 => bif r7 then (some false) else (impl_IsPolygon_l1 L κ0 v0 v3 v17 v18 v19 p m1 (wr IntKind.i64 (iadd v43 1))))) else (gbind (lget v0 v43) fun p3 => gbind (lget v0 (wr IntKind.i64 (iadd v43 1))) fun p4 => gbind (impl_at L v0 (wr IntKind.i64 (iadd v19 1))) fun r8 => gbind (impl_meet L (Pt.x p3) (Pt.y p3) (Pt.x p4) (Pt.y p4) (Pt.x p) (Pt.y p) (Prod.fst r8) (Prod.snd r8)) fun r9 => bif r9 then (some false) else (impl_IsPolygon_l1 L κ0 v0 v3 v17 v18 v19 p m1 (wr IntKind.i64 (iadd v43 1)))))) else (κ0 v0 v3 v17 v18 (wr IntKind.i64 (iadd v19 1)))
noncomputable def impl_IsPolygon_l0 (L : Nat) : Nat → (List Pt) → Int → (List Pt) → Int → Int → Option Bool
  | 0, _, _, _, _, _ => none
  | m + 1, v0, v3, v17, v18, v19 => bif ilt v19 v18 then (gbind (lget v17 v19) fun p => bif ile 0 v19 && ile v19 (ilen (List.map ep v0)) then (gbind (slices_Contains_impl_Peg_impl_Peg L (lsub v0 0 v19) (Pt.x p) (Pt.y p)) fun r2 => bif r2 then (some false) else (gbind (impl_at L v0 (wr IntKind.i64 (isub v19 1))) fun r3 => gbind (impl_at L v0 (wr IntKind.i64 (iadd v19 1))) fun r4 => gbind (impl_turn L (Prod.fst r3) (Prod.snd r3) (Pt.x p) (Pt.y p) (Prod.fst r4) (Prod.snd r4)) fun r5 => bif ieq r5 0 then (some false) else (impl_IsPolygon_l1 L (impl_IsPolygon_l0 L m) v0 v3 v17 v18 v19 p L 0))) else (none)) else (some true)
noncomputable def impl_IsPolygon (L : Nat) (a : List Pt) : Option (Bool) := gbind (impl_within L (ilen (List.map ep a)) 3 10) fun r => bif !r then (some false) else (gbind (impl_arePegs L a) fun r1 => bif !r1 then (some false) else (impl_IsPolygon_l0 L L a (ilen (List.map ep a)) a (ilen (List.map ep a)) 0))
def impl_IsPolygon_ok (L : Nat) (C : CF) : Prop := ∀ (oa : Bool) (ca : Bool) (x_a : List AV) (a : List Pt) (_ : x_a = List.map ep a), C 28 ([.lst oa ca 2 x_a]) ([]) = Option.map (fun r : Bool => ((.bool r, []) : AV × List Blk)) (impl_IsPolygon L a)
theorem impl_IsPolygon_run (L : Nat) (C : CF) (h_impl_within : impl_within_ok L C) (h_impl_arePegs : impl_arePegs_ok L C) (h_slices_Contains_impl_Peg_impl_Peg : slices_Contains_impl_Peg_impl_Peg_ok L C) (h_impl_at : impl_at_ok L C) (h_impl_turn : impl_turn_ok L C) (h_impl_meet : impl_meet_ok L C) : ∀ (oa : Bool) (ca : Bool) (x_a : List AV) (a : List Pt) (_ : x_a = List.map ep a), run T C sh (keep 28) L Try.f28 ([.lst oa ca 2 x_a]) ([]) = Option.map (fun r : Bool => ((.bool r, []) : AV × List Blk)) (impl_IsPolygon L a) := by
 intro oa ca x_a a hx_a
 subst hx_a
 unfold impl_IsPolygon
 conv => lhs; whnf
 refine t_call (h_impl_within (ilen (List.map ep a)) 3 10) fun r => ?_
 conv => lhs; whnf
 refine t_cond ?_ ?_
 ·conv => lhs; whnf
  exact t_ret (by first | rfl | simp only [ml] <;> rfl)
 ·conv => lhs; whnf
  refine t_call (h_impl_arePegs _ _ _ a (by first | rfl | simp only [ml] <;> rfl)) fun r1 => ?_
  conv => lhs; whnf
  refine t_cond ?_ ?_
  ·conv => lhs; whnf
   exact t_ret (by first | rfl | simp only [ml] <;> rfl)
  ·conv => lhs; whnf
   refine t_loop (fun (⟨v0, v3, v17, v18, v19⟩ : (List Pt) × Int × (List Pt) × Int × Int) => (AV.lst oa ca 2 (List.map ep v0) :: topA 2 (AV.int IntKind.i64 v3 :: topA 13 (AV.lst oa ca 2 (List.map ep v17) :: AV.int IntKind.i64 v18 :: AV.int IntKind.i64 v19 :: tops 57)), [])) (fun m (⟨v0, v3, v17, v18, v19⟩ : (List Pt) × Int × (List Pt) × Int × Int) => impl_IsPolygon_l0 L m v0 v3 v17 v18 v19) (fun _ => rfl) (fun m s rec hrec => ?_) L ((a, ilen (List.map ep a), a, ilen (List.map ep a), 0)) ?_ ?_
   rotate_left
   ·first | rfl | simp only [ml] <;> rfl
   ·first | rfl | simp only [ml] <;> rfl
   obtain ⟨v0, v3, v17, v18, v19⟩ := s
   show _ = Option.map _ (impl_IsPolygon_l0 L (m + 1) v0 v3 v17 v18 v19)
   rw [impl_IsPolygon_l0.eq_2]
   conv => lhs; whnf
   refine t_cond ?_ ?_
   ·conv => lhs; whnf
    refine t_get (en := ep) (l := v17) (by first | rfl | simp only [ml] <;> rfl) fun p => ?_
    conv => lhs; whnf
    refine t_cond ?_ ?_
    ·conv => lhs; whnf
     refine t_call (h_slices_Contains_impl_Peg_impl_Peg _ _ _ (lsub v0 0 v19) (by first | rfl | simp only [ml] <;> rfl) (Pt.x p) (Pt.y p)) fun r2 => ?_
     conv => lhs; whnf
     refine t_cond ?_ ?_
     ·conv => lhs; whnf
      exact t_ret (by first | rfl | simp only [ml] <;> rfl)
     ·conv => lhs; whnf
      refine t_call (h_impl_at _ _ _ v0 (by first | rfl | simp only [ml] <;> rfl) (wr IntKind.i64 (isub v19 1))) fun r3 => ?_
      conv => lhs; whnf
      refine t_call (h_impl_at _ _ _ v0 (by first | rfl | simp only [ml] <;> rfl) (wr IntKind.i64 (iadd v19 1))) fun r4 => ?_
      conv => lhs; whnf
      refine t_call (h_impl_turn (Prod.fst r3) (Prod.snd r3) (Pt.x p) (Pt.y p) (Prod.fst r4) (Prod.snd r4)) fun r5 => ?_
      conv => lhs; whnf
      refine t_cond ?_ ?_
      ·conv => lhs; whnf
       exact t_ret (by first | rfl | simp only [ml] <;> rfl)
      ·conv => lhs; whnf
       refine t_loop (fun (v43 : Int) => (AV.lst oa ca 2 (List.map ep v0) :: topA 2 (AV.int IntKind.i64 v3 :: AV.int IntKind.i64 v19 :: AV.ptr 0 0 0 2 :: topA 11 (AV.lst oa ca 2 (List.map ep v17) :: AV.int IntKind.i64 v18 :: AV.int IntKind.i64 v19 :: topA 22 (AV.int IntKind.i64 v19 :: AV.int IntKind.i64 v43 :: tops 33))), [Blk.box (AV.agg [AV.int IntKind.i64 (Pt.x p), AV.int IntKind.i64 (Pt.y p)])])) (fun m1 (v43 : Int) => impl_IsPolygon_l1 L (impl_IsPolygon_l0 L m) v0 v3 v17 v18 v19 p m1 v43) (fun _ => rfl) (fun m1 v43 rec1 hrec1 => ?_) L 0 ?_ ?_
       rotate_left
       ·first | rfl | simp only [ml] <;> rfl
       ·first | rfl | simp only [ml] <;> rfl
       show _ = Option.map _ (impl_IsPolygon_l1 L (impl_IsPolygon_l0 L m) v0 v3 v17 v18 v19 p (m1 + 1) v43)
       rw [impl_IsPolygon_l1.eq_2]
       conv => lhs; whnf
       refine t_cond ?_ ?_
       ·conv => lhs; whnf
        refine t_cond ?_ ?_
        ·conv => lhs; whnf
         exact hrec1 (wr IntKind.i64 (iadd v43 1)) _ _ (by first | rfl | simp only [ml] <;> rfl) (by first | rfl | simp only [ml] <;> rfl)
        ·conv => lhs; whnf
         refine t_cond ?_ ?_
         ·conv => lhs; whnf
          refine t_cond ?_ ?_
          ·conv => lhs; whnf
           exact hrec1 (wr IntKind.i64 (iadd v43 1)) _ _ (by first | rfl | simp only [ml] <;> rfl) (by first | rfl | simp only [ml] <;> rfl)
          ·conv => lhs; whnf
           refine t_get (en := ep) (l := v0) (by first | rfl | simp only [ml] <;> rfl) fun p1 => ?_
           conv => lhs; whnf
           refine t_get (en := ep) (l := v0) (by first | rfl | simp only [ml] <;> rfl) fun p2 => ?_
           conv => lhs; whnf
           refine t_call (h_impl_at _ _ _ v0 (by first | rfl | simp only [ml] <;> rfl) (wr IntKind.i64 (iadd v19 1))) fun r6 => ?_
           conv => lhs; whnf
           refine t_call (h_impl_meet (Pt.x p1) (Pt.y p1) (Pt.x p2) (Pt.y p2) (Pt.x p) (Pt.y p) (Prod.fst r6) (Prod.snd r6)) fun r7 => ?_
           conv => lhs; whnf
           refine t_cond ?_ ?_
           ·conv => lhs; whnf
            exact t_ret (by first | rfl | simp only [ml] <;> rfl)
           ·conv => lhs; whnf
            exact hrec1 (wr IntKind.i64 (iadd v43 1)) _ _ (by first | rfl | simp only [ml] <;> rfl) (by first | rfl | simp only [ml] <;> rfl)
         ·conv => lhs; whnf
          refine t_get (en := ep) (l := v0) (by first | rfl | simp only [ml] <;> rfl) fun p3 => ?_
          conv => lhs; whnf
          refine t_get (en := ep) (l := v0) (by first | rfl | simp only [ml] <;> rfl) fun p4 => ?_
          conv => lhs; whnf
          refine t_call (h_impl_at _ _ _ v0 (by first | rfl | simp only [ml] <;> rfl) (wr IntKind.i64 (iadd v19 1))) fun r8 => ?_
          conv => lhs; whnf
          refine t_call (h_impl_meet (Pt.x p3) (Pt.y p3) (Pt.x p4) (Pt.y p4) (Pt.x p) (Pt.y p) (Prod.fst r8) (Prod.snd r8)) fun r9 => ?_
          conv => lhs; whnf
          refine t_cond ?_ ?_
          ·conv => lhs; whnf
           exact t_ret (by first | rfl | simp only [ml] <;> rfl)
          ·conv => lhs; whnf
           exact hrec1 (wr IntKind.i64 (iadd v43 1)) _ _ (by first | rfl | simp only [ml] <;> rfl) (by first | rfl | simp only [ml] <;> rfl)
       ·conv => lhs; whnf
        exact hrec ((v0, v3, v17, v18, wr IntKind.i64 (iadd v19 1))) _ _ (by first | rfl | simp only [ml] <;> rfl) (by first | rfl | simp only [ml] <;> rfl)
    ·conv => lhs; whnf
     exact t_none
   ·conv => lhs; whnf
    exact t_ret (by first | rfl | simp only [ml] <;> rfl)
noncomputable def impl_twice_l0 (L : Nat) (a : List Pt) : Nat → Int → Int → Option Int
  | 0, _, _ => none
  | m + 1, v3, v8 => bif ilt v8 (ilen (List.map ep a)) then (gbind (lget a v8) fun p => gbind (impl_at L a (wr IntKind.i64 (iadd v8 1))) fun r => gbind (impl_cross L (Pt.x p) (Pt.y p) (Prod.fst r) (Prod.snd r)) fun r1 => impl_twice_l0 L a m (wr IntKind.i64 (iadd v3 r1)) (wr IntKind.i64 (iadd v8 1))) else (some v3)
noncomputable def impl_twice (L : Nat) (a : List Pt) : Option (Int) := impl_twice_l0 L a L 0 0
def impl_twice_ok (L : Nat) (C : CF) : Prop := ∀ (oa : Bool) (ca : Bool) (x_a : List AV) (a : List Pt) (_ : x_a = List.map ep a), C 65 ([.lst oa ca 2 x_a]) ([]) = Option.map (fun r : Int => ((.int .i64 r, []) : AV × List Blk)) (impl_twice L a)
theorem impl_twice_run (L : Nat) (C : CF) (h_impl_at : impl_at_ok L C) (h_impl_cross : impl_cross_ok L C) : ∀ (oa : Bool) (ca : Bool) (x_a : List AV) (a : List Pt) (_ : x_a = List.map ep a), run T C sh (keep 65) L Try.f65 ([.lst oa ca 2 x_a]) ([]) = Option.map (fun r : Int => ((.int .i64 r, []) : AV × List Blk)) (impl_twice L a) := by
 intro oa ca x_a a hx_a
 subst hx_a
 unfold impl_twice
 conv => lhs; whnf
 refine t_loop (fun (⟨v3, v8⟩ : Int × Int) => (AV.lst oa ca 2 (List.map ep a) :: topA 2 (AV.int IntKind.i64 v3 :: topA 2 (AV.lst oa ca 2 (List.map ep a) :: AV.int IntKind.i64 (ilen (List.map ep a)) :: AV.int IntKind.i64 v8 :: tops 14)), [])) (fun m (⟨v3, v8⟩ : Int × Int) => impl_twice_l0 L a m v3 v8) (fun _ => rfl) (fun m s rec hrec => ?_) L ((0, 0)) ?_ ?_
 rotate_left
 ·first | rfl | simp only [ml] <;> rfl
 ·first | rfl | simp only [ml] <;> rfl
 obtain ⟨v3, v8⟩ := s
 show _ = Option.map _ (impl_twice_l0 L a (m + 1) v3 v8)
 rw [impl_twice_l0.eq_2]
 conv => lhs; whnf
 refine t_cond ?_ ?_
 ·conv => lhs; whnf
  refine t_get (en := ep) (l := a) (by first | rfl | simp only [ml] <;> rfl) fun p => ?_
  conv => lhs; whnf
  refine t_call (h_impl_at _ _ _ a (by first | rfl | simp only [ml] <;> rfl) (wr IntKind.i64 (iadd v8 1))) fun r => ?_
  conv => lhs; whnf
  refine t_call (h_impl_cross (Pt.x p) (Pt.y p) (Prod.fst r) (Prod.snd r)) fun r1 => ?_
  conv => lhs; whnf
  exact hrec ((wr IntKind.i64 (iadd v3 r1), wr IntKind.i64 (iadd v8 1))) _ _ (by first | rfl | simp only [ml] <;> rfl) (by first | rfl | simp only [ml] <;> rfl)
 ·conv => lhs; whnf
  exact t_ret (by first | rfl | simp only [ml] <;> rfl)
noncomputable def impl_isConvex_l0 (L : Nat) (a : List Pt) (r1 : Int) : Nat → Int → Option Bool
  | 0, _ => none
  | m + 1, v11 => bif ilt v11 (ilen (List.map ep a)) then (gbind (lget a v11) fun p => gbind (impl_at L a (wr IntKind.i64 (isub v11 1))) fun r2 => gbind (impl_at L a (wr IntKind.i64 (iadd v11 1))) fun r3 => gbind (impl_turn L (Prod.fst r2) (Prod.snd r2) (Pt.x p) (Pt.y p) (Prod.fst r3) (Prod.snd r3)) fun r4 => gbind (impl_sign L r4) fun r5 => bif !ieq r5 r1 then (some false) else (impl_isConvex_l0 L a r1 m (wr IntKind.i64 (iadd v11 1)))) else (some true)
noncomputable def impl_isConvex (L : Nat) (a : List Pt) : Option (Bool) := gbind (impl_twice L a) fun r => gbind (impl_sign L r) fun r1 => impl_isConvex_l0 L a r1 L 0
def impl_isConvex_ok (L : Nat) (C : CF) : Prop := ∀ (oa : Bool) (ca : Bool) (x_a : List AV) (a : List Pt) (_ : x_a = List.map ep a), C 56 ([.lst oa ca 2 x_a]) ([]) = Option.map (fun r : Bool => ((.bool r, []) : AV × List Blk)) (impl_isConvex L a)
theorem impl_isConvex_run (L : Nat) (C : CF) (h_impl_at : impl_at_ok L C) (h_impl_turn : impl_turn_ok L C) (h_impl_sign : impl_sign_ok L C) (h_impl_twice : impl_twice_ok L C) : ∀ (oa : Bool) (ca : Bool) (x_a : List AV) (a : List Pt) (_ : x_a = List.map ep a), run T C sh (keep 56) L Try.f56 ([.lst oa ca 2 x_a]) ([]) = Option.map (fun r : Bool => ((.bool r, []) : AV × List Blk)) (impl_isConvex L a) := by
 intro oa ca x_a a hx_a
 subst hx_a
 unfold impl_isConvex
 conv => lhs; whnf
 refine t_call (h_impl_twice _ _ _ a (by first | rfl | simp only [ml] <;> rfl)) fun r => ?_
 conv => lhs; whnf
 refine t_call (h_impl_sign r) fun r1 => ?_
 conv => lhs; whnf
 refine t_loop (fun (v11 : Int) => (AV.lst oa ca 2 (List.map ep a) :: topA 2 (AV.int IntKind.i64 r1 :: topA 5 (AV.lst oa ca 2 (List.map ep a) :: AV.int IntKind.i64 (ilen (List.map ep a)) :: AV.int IntKind.i64 v11 :: tops 18)), [])) (fun m (v11 : Int) => impl_isConvex_l0 L a r1 m v11) (fun _ => rfl) (fun m v11 rec hrec => ?_) L 0 ?_ ?_
 rotate_left
 ·first | rfl | simp only [ml] <;> rfl
 ·first | rfl | simp only [ml] <;> rfl
 show _ = Option.map _ (impl_isConvex_l0 L a r1 (m + 1) v11)
 rw [impl_isConvex_l0.eq_2]
 conv => lhs; whnf
 refine t_cond ?_ ?_
 ·conv => lhs; whnf
  refine t_get (en := ep) (l := a) (by first | rfl | simp only [ml] <;> rfl) fun p => ?_
  conv => lhs; whnf
  refine t_call (h_impl_at _ _ _ a (by first | rfl | simp only [ml] <;> rfl) (wr IntKind.i64 (isub v11 1))) fun r2 => ?_
  conv => lhs; whnf
  refine t_call (h_impl_at _ _ _ a (by first | rfl | simp only [ml] <;> rfl) (wr IntKind.i64 (iadd v11 1))) fun r3 => ?_
  conv => lhs; whnf
  refine t_call (h_impl_turn (Prod.fst r2) (Prod.snd r2) (Pt.x p) (Pt.y p) (Prod.fst r3) (Prod.snd r3)) fun r4 => ?_
  conv => lhs; whnf
  refine t_call (h_impl_sign r4) fun r5 => ?_
  conv => lhs; whnf
  refine t_cond ?_ ?_
  ·conv => lhs; whnf
   exact t_ret (by first | rfl | simp only [ml] <;> rfl)
  ·conv => lhs; whnf
   exact hrec (wr IntKind.i64 (iadd v11 1)) _ _ (by first | rfl | simp only [ml] <;> rfl) (by first | rfl | simp only [ml] <;> rfl)
 ·conv => lhs; whnf
  exact t_ret (by first | rfl | simp only [ml] <;> rfl)
noncomputable def impl_size (L : Nat) (a : Int) : Option (Int) := some (imax a (wr IntKind.i64 (isub 0 a)))
def impl_size_ok (L : Nat) (C : CF) : Prop := ∀ (a : Int), C 72 ([.int .i64 a]) ([]) = Option.map (fun r : Int => ((.int .i64 r, []) : AV × List Blk)) (impl_size L a)
theorem impl_size_run (L : Nat) (C : CF) : ∀ (a : Int), run T C sh (keep 72) L Try.f72 ([.int .i64 a]) ([]) = Option.map (fun r : Int => ((.int .i64 r, []) : AV × List Blk)) (impl_size L a) := by
 intro a
 unfold impl_size
 conv => lhs; whnf
 exact t_ret (by first | rfl | simp only [ml] <;> rfl)
noncomputable def impl_divisor_l0 (L : Nat) : Nat → Int → Int → Option Int
  | 0, _, _ => none
  | m + 1, v0, v1 => bif !ieq v1 0 then (bif ieq v1 0 then (none) else (impl_divisor_l0 L m v1 (irem v0 v1))) else (gbind (impl_size L v0) fun r => some r)
noncomputable def impl_divisor (L : Nat) (a : Int) (b : Int) : Option (Int) := impl_divisor_l0 L L a b
def impl_divisor_ok (L : Nat) (C : CF) : Prop := ∀ (a : Int) (b : Int), C 79 ([.int .i64 a, .int .i64 b]) ([]) = Option.map (fun r : Int => ((.int .i64 r, []) : AV × List Blk)) (impl_divisor L a b)
theorem impl_divisor_run (L : Nat) (C : CF) (h_impl_size : impl_size_ok L C) : ∀ (a : Int) (b : Int), run T C sh (keep 79) L Try.f79 ([.int .i64 a, .int .i64 b]) ([]) = Option.map (fun r : Int => ((.int .i64 r, []) : AV × List Blk)) (impl_divisor L a b) := by
 intro a b
 unfold impl_divisor
 conv => lhs; whnf
 refine t_loop (fun (⟨v0, v1⟩ : Int × Int) => (AV.int IntKind.i64 v0 :: AV.int IntKind.i64 v1 :: tops 11, [])) (fun m (⟨v0, v1⟩ : Int × Int) => impl_divisor_l0 L m v0 v1) (fun _ => rfl) (fun m s rec hrec => ?_) L ((a, b)) ?_ ?_
 rotate_left
 ·first | rfl | simp only [ml] <;> rfl
 ·first | rfl | simp only [ml] <;> rfl
 obtain ⟨v0, v1⟩ := s
 show _ = Option.map _ (impl_divisor_l0 L (m + 1) v0 v1)
 rw [impl_divisor_l0.eq_2]
 conv => lhs; whnf
 refine t_cond ?_ ?_
 ·conv => lhs; whnf
  refine t_cond ?_ ?_
  ·conv => lhs; whnf
   exact t_none
  ·conv => lhs; whnf
   exact hrec ((v1, irem v0 v1)) _ _ (by first | rfl | simp only [ml] <;> rfl) (by first | rfl | simp only [ml] <;> rfl)
 ·conv => lhs; whnf
  refine t_call (h_impl_size v0) fun r => ?_
  conv => lhs; whnf
  exact t_ret (by first | rfl | simp only [ml] <;> rfl)
noncomputable def impl_steps (L : Nat) (a_0 : Int) (a_1 : Int) (b_0 : Int) (b_1 : Int) : Option (Int) := gbind (impl_divisor L (wr IntKind.i64 (isub a_0 b_0)) (wr IntKind.i64 (isub a_1 b_1))) fun r => some r
def impl_steps_ok (L : Nat) (C : CF) : Prop := ∀ (a_0 : Int) (a_1 : Int) (b_0 : Int) (b_1 : Int), C 77 ([.agg [.int .i64 a_0, .int .i64 a_1], .agg [.int .i64 b_0, .int .i64 b_1]]) ([]) = Option.map (fun r : Int => ((.int .i64 r, []) : AV × List Blk)) (impl_steps L a_0 a_1 b_0 b_1)
theorem impl_steps_run (L : Nat) (C : CF) (h_impl_divisor : impl_divisor_ok L C) : ∀ (a_0 : Int) (a_1 : Int) (b_0 : Int) (b_1 : Int), run T C sh (keep 77) L Try.f77 ([.agg [.int .i64 a_0, .int .i64 a_1], .agg [.int .i64 b_0, .int .i64 b_1]]) ([]) = Option.map (fun r : Int => ((.int .i64 r, []) : AV × List Blk)) (impl_steps L a_0 a_1 b_0 b_1) := by
 intro a_0 a_1 b_0 b_1
 unfold impl_steps
 conv => lhs; whnf
 refine t_call (h_impl_divisor (wr IntKind.i64 (isub a_0 b_0)) (wr IntKind.i64 (isub a_1 b_1))) fun r => ?_
 conv => lhs; whnf
 exact t_ret (by first | rfl | simp only [ml] <;> rfl)
noncomputable def impl_around_l0 (L : Nat) (a : List Pt) : Nat → Int → Int → Option Int
  | 0, _, _ => none
  | m + 1, v3, v8 => bif ilt v8 (ilen (List.map ep a)) then (gbind (lget a v8) fun p => gbind (impl_at L a (wr IntKind.i64 (iadd v8 1))) fun r => gbind (impl_steps L (Pt.x p) (Pt.y p) (Prod.fst r) (Prod.snd r)) fun r1 => impl_around_l0 L a m (wr IntKind.i64 (iadd v3 r1)) (wr IntKind.i64 (iadd v8 1))) else (some v3)
noncomputable def impl_around (L : Nat) (a : List Pt) : Option (Int) := impl_around_l0 L a L 0 0
def impl_around_ok (L : Nat) (C : CF) : Prop := ∀ (oa : Bool) (ca : Bool) (x_a : List AV) (a : List Pt) (_ : x_a = List.map ep a), C 73 ([.lst oa ca 2 x_a]) ([]) = Option.map (fun r : Int => ((.int .i64 r, []) : AV × List Blk)) (impl_around L a)
theorem impl_around_run (L : Nat) (C : CF) (h_impl_at : impl_at_ok L C) (h_impl_steps : impl_steps_ok L C) : ∀ (oa : Bool) (ca : Bool) (x_a : List AV) (a : List Pt) (_ : x_a = List.map ep a), run T C sh (keep 73) L Try.f73 ([.lst oa ca 2 x_a]) ([]) = Option.map (fun r : Int => ((.int .i64 r, []) : AV × List Blk)) (impl_around L a) := by
 intro oa ca x_a a hx_a
 subst hx_a
 unfold impl_around
 conv => lhs; whnf
 refine t_loop (fun (⟨v3, v8⟩ : Int × Int) => (AV.lst oa ca 2 (List.map ep a) :: topA 2 (AV.int IntKind.i64 v3 :: topA 2 (AV.lst oa ca 2 (List.map ep a) :: AV.int IntKind.i64 (ilen (List.map ep a)) :: AV.int IntKind.i64 v8 :: tops 14)), [])) (fun m (⟨v3, v8⟩ : Int × Int) => impl_around_l0 L a m v3 v8) (fun _ => rfl) (fun m s rec hrec => ?_) L ((0, 0)) ?_ ?_
 rotate_left
 ·first | rfl | simp only [ml] <;> rfl
 ·first | rfl | simp only [ml] <;> rfl
 obtain ⟨v3, v8⟩ := s
 show _ = Option.map _ (impl_around_l0 L a (m + 1) v3 v8)
 rw [impl_around_l0.eq_2]
 conv => lhs; whnf
 refine t_cond ?_ ?_
 ·conv => lhs; whnf
  refine t_get (en := ep) (l := a) (by first | rfl | simp only [ml] <;> rfl) fun p => ?_
  conv => lhs; whnf
  refine t_call (h_impl_at _ _ _ a (by first | rfl | simp only [ml] <;> rfl) (wr IntKind.i64 (iadd v8 1))) fun r => ?_
  conv => lhs; whnf
  refine t_call (h_impl_steps (Pt.x p) (Pt.y p) (Prod.fst r) (Prod.snd r)) fun r1 => ?_
  conv => lhs; whnf
  exact hrec ((wr IntKind.i64 (iadd v3 r1), wr IntKind.i64 (iadd v8 1))) _ _ (by first | rfl | simp only [ml] <;> rfl) (by first | rfl | simp only [ml] <;> rfl)
 ·conv => lhs; whnf
  exact t_ret (by first | rfl | simp only [ml] <;> rfl)
noncomputable def impl_inner (L : Nat) (a : List Pt) : Option (Int) := gbind (impl_twice L a) fun r => gbind (impl_size L r) fun r1 => gbind (impl_around L a) fun r2 => bif ieq 2 0 then (none) else (some (wr IntKind.i64 (iquo (wr IntKind.i64 (isub (wr IntKind.i64 (iadd r1 2)) r2)) 2)))
def impl_inner_ok (L : Nat) (C : CF) : Prop := ∀ (oa : Bool) (ca : Bool) (x_a : List AV) (a : List Pt) (_ : x_a = List.map ep a), C 57 ([.lst oa ca 2 x_a]) ([]) = Option.map (fun r : Int => ((.int .i64 r, []) : AV × List Blk)) (impl_inner L a)
theorem impl_inner_run (L : Nat) (C : CF) (h_impl_twice : impl_twice_ok L C) (h_impl_size : impl_size_ok L C) (h_impl_around : impl_around_ok L C) : ∀ (oa : Bool) (ca : Bool) (x_a : List AV) (a : List Pt) (_ : x_a = List.map ep a), run T C sh (keep 57) L Try.f57 ([.lst oa ca 2 x_a]) ([]) = Option.map (fun r : Int => ((.int .i64 r, []) : AV × List Blk)) (impl_inner L a) := by
 intro oa ca x_a a hx_a
 subst hx_a
 unfold impl_inner
 conv => lhs; whnf
 refine t_call (h_impl_twice _ _ _ a (by first | rfl | simp only [ml] <;> rfl)) fun r => ?_
 conv => lhs; whnf
 refine t_call (h_impl_size r) fun r1 => ?_
 conv => lhs; whnf
 refine t_call (h_impl_around _ _ _ a (by first | rfl | simp only [ml] <;> rfl)) fun r2 => ?_
 conv => lhs; whnf
 refine t_cond ?_ ?_
 ·conv => lhs; whnf
  exact t_none
 ·conv => lhs; whnf
  exact t_ret (by first | rfl | simp only [ml] <;> rfl)
noncomputable def impl_where_l0 (L : Nat) (a : List Pt) (b_0 : Int) (b_1 : Int) : Nat → Int → Int → Option Int
  | 0, _, _ => none
  | m + 1, v5, v11 => bif ilt v11 (ilen (List.map ep a)) then (gbind (lget a v11) fun p => gbind (impl_at L a (wr IntKind.i64 (iadd v11 1))) fun r => gbind (impl_isOn L (Pt.x p) (Pt.y p) (Prod.fst r) (Prod.snd r) b_0 b_1) fun r1 => bif r1 then (some 0) else (bif !beqb (ilt b_1 (Pt.y p)) (ilt b_1 (Prod.snd r)) then (gbind (impl_turn L (Pt.x p) (Pt.y p) (Prod.fst r) (Prod.snd r) b_0 b_1) fun r2 => bif beqb (ilt 0 r2) (ilt (Pt.y p) (Prod.snd r)) then (impl_where_l0 L a b_0 b_1 m (wr IntKind.i64 (isub 0 v5)) (wr IntKind.i64 (iadd v11 1))) else (impl_where_l0 L a b_0 b_1 m v5 (wr IntKind.i64 (iadd v11 1)))) else (impl_where_l0 L a b_0 b_1 m v5 (wr IntKind.i64 (iadd v11 1))))) else (some v5)
noncomputable def impl_where (L : Nat) (a : List Pt) (b_0 : Int) (b_1 : Int) : Option (Int) := impl_where_l0 L a b_0 b_1 L (-1) 0
def impl_where_ok (L : Nat) (C : CF) : Prop := ∀ (oa : Bool) (ca : Bool) (x_a : List AV) (a : List Pt) (_ : x_a = List.map ep a) (b_0 : Int) (b_1 : Int), C 58 ([.lst oa ca 2 x_a, .agg [.int .i64 b_0, .int .i64 b_1]]) ([]) = Option.map (fun r : Int => ((.int .i64 r, []) : AV × List Blk)) (impl_where L a b_0 b_1)
theorem impl_where_run (L : Nat) (C : CF) (h_impl_at : impl_at_ok L C) (h_impl_turn : impl_turn_ok L C) (h_impl_isOn : impl_isOn_ok L C) : ∀ (oa : Bool) (ca : Bool) (x_a : List AV) (a : List Pt) (_ : x_a = List.map ep a) (b_0 : Int) (b_1 : Int), run T C sh (keep 58) L Try.f58 ([.lst oa ca 2 x_a, .agg [.int .i64 b_0, .int .i64 b_1]]) ([]) = Option.map (fun r : Int => ((.int .i64 r, []) : AV × List Blk)) (impl_where L a b_0 b_1) := by
 intro oa ca x_a a hx_a b_0 b_1
 subst hx_a
 unfold impl_where
 conv => lhs; whnf
 refine t_loop (fun (⟨v5, v11⟩ : Int × Int) => (AV.lst oa ca 2 (List.map ep a) :: topA 2 (AV.ptr 0 0 0 2 :: AV.top :: AV.int IntKind.i64 v5 :: topA 3 (AV.lst oa ca 2 (List.map ep a) :: AV.int IntKind.i64 (ilen (List.map ep a)) :: AV.int IntKind.i64 v11 :: tops 40)), [Blk.box (AV.agg [AV.int IntKind.i64 b_0, AV.int IntKind.i64 b_1])])) (fun m (⟨v5, v11⟩ : Int × Int) => impl_where_l0 L a b_0 b_1 m v5 v11) (fun _ => rfl) (fun m s rec hrec => ?_) L ((-1, 0)) ?_ ?_
 rotate_left
 ·first | rfl | simp only [ml] <;> rfl
 ·first | rfl | simp only [ml] <;> rfl
 obtain ⟨v5, v11⟩ := s
 show _ = Option.map _ (impl_where_l0 L a b_0 b_1 (m + 1) v5 v11)
 rw [impl_where_l0.eq_2]
 conv => lhs; whnf
 refine t_cond ?_ ?_
 ·conv => lhs; whnf
  refine t_get (en := ep) (l := a) (by first | rfl | simp only [ml] <;> rfl) fun p => ?_
  conv => lhs; whnf
  refine t_call (h_impl_at _ _ _ a (by first | rfl | simp only [ml] <;> rfl) (wr IntKind.i64 (iadd v11 1))) fun r => ?_
  conv => lhs; whnf
  refine t_call (h_impl_isOn (Pt.x p) (Pt.y p) (Prod.fst r) (Prod.snd r) b_0 b_1) fun r1 => ?_
  conv => lhs; whnf
  refine t_cond ?_ ?_
  ·conv => lhs; whnf
   exact t_ret (by first | rfl | simp only [ml] <;> rfl)
  ·conv => lhs; whnf
   refine t_cond ?_ ?_
   ·conv => lhs; whnf
    refine t_call (h_impl_turn (Pt.x p) (Pt.y p) (Prod.fst r) (Prod.snd r) b_0 b_1) fun r2 => ?_
    conv => lhs; whnf
    refine t_cond ?_ ?_
    ·conv => lhs; whnf
     exact hrec ((wr IntKind.i64 (isub 0 v5), wr IntKind.i64 (iadd v11 1))) _ _ (by first | rfl | simp only [ml] <;> rfl) (by first | rfl | simp only [ml] <;> rfl)
    ·conv => lhs; whnf
     exact hrec ((v5, wr IntKind.i64 (iadd v11 1))) _ _ (by first | rfl | simp only [ml] <;> rfl) (by first | rfl | simp only [ml] <;> rfl)
   ·conv => lhs; whnf
    exact hrec ((v5, wr IntKind.i64 (iadd v11 1))) _ _ (by first | rfl | simp only [ml] <;> rfl) (by first | rfl | simp only [ml] <;> rfl)
 ·conv => lhs; whnf
  exact t_ret (by first | rfl | simp only [ml] <;> rfl)
noncomputable def impl_isOneInside (L : Nat) (a : List Pt) : Option (Bool) := gbind (impl_isConvex L a) fun r => bif r then (gbind (impl_inner L a) fun r1 => bif ieq r1 1 then (gbind (impl_where L a 0 0) fun r2 => some (ilt 0 r2)) else (some false)) else (some false)
def impl_isOneInside_ok (L : Nat) (C : CF) : Prop := ∀ (oa : Bool) (ca : Bool) (x_a : List AV) (a : List Pt) (_ : x_a = List.map ep a), C 29 ([.lst oa ca 2 x_a]) ([]) = Option.map (fun r : Bool => ((.bool r, []) : AV × List Blk)) (impl_isOneInside L a)
theorem impl_isOneInside_run (L : Nat) (C : CF) (h_impl_isConvex : impl_isConvex_ok L C) (h_impl_inner : impl_inner_ok L C) (h_impl_where : impl_where_ok L C) : ∀ (oa : Bool) (ca : Bool) (x_a : List AV) (a : List Pt) (_ : x_a = List.map ep a), run T C sh (keep 29) L Try.f29 ([.lst oa ca 2 x_a]) ([]) = Option.map (fun r : Bool => ((.bool r, []) : AV × List Blk)) (impl_isOneInside L a) := by
 intro oa ca x_a a hx_a
 subst hx_a
 unfold impl_isOneInside
 conv => lhs; whnf
 refine t_call (h_impl_isConvex _ _ _ a (by first | rfl | simp only [ml] <;> rfl)) fun r => ?_
 conv => lhs; whnf
 refine t_cond ?_ ?_
 ·conv => lhs; whnf
  refine t_call (h_impl_inner _ _ _ a (by first | rfl | simp only [ml] <;> rfl)) fun r1 => ?_
  conv => lhs; whnf
  refine t_cond ?_ ?_
  ·conv => lhs; whnf
   refine t_call (h_impl_where _ _ _ a (by first | rfl | simp only [ml] <;> rfl) 0 0) fun r2 => ?_
   conv => lhs; whnf
   exact t_ret (by first | rfl | simp only [ml] <;> rfl)
  ·conv => lhs; whnf
   exact t_ret (by first | rfl | simp only [ml] <;> rfl)
 ·conv => lhs; whnf
  exact t_ret (by first | rfl | simp only [ml] <;> rfl)
noncomputable def impl_isDualist (L : Nat) (a : List Pt) : Option (Bool) := gbind (impl_IsPolygon L a) fun r => bif r then (gbind (impl_isOneInside L a) fun r1 => some r1) else (some false)
def impl_isDualist_ok (L : Nat) (C : CF) : Prop := ∀ (oa : Bool) (ca : Bool) (x_a : List AV) (a : List Pt) (_ : x_a = List.map ep a), C 13 ([.lst oa ca 2 x_a]) ([]) = Option.map (fun r : Bool => ((.bool r, []) : AV × List Blk)) (impl_isDualist L a)
theorem impl_isDualist_run (L : Nat) (C : CF) (h_impl_IsPolygon : impl_IsPolygon_ok L C) (h_impl_isOneInside : impl_isOneInside_ok L C) : ∀ (oa : Bool) (ca : Bool) (x_a : List AV) (a : List Pt) (_ : x_a = List.map ep a), run T C sh (keep 13) L Try.f13 ([.lst oa ca 2 x_a]) ([]) = Option.map (fun r : Bool => ((.bool r, []) : AV × List Blk)) (impl_isDualist L a) := by
 intro oa ca x_a a hx_a
 subst hx_a
 unfold impl_isDualist
 conv => lhs; whnf
 refine t_call (h_impl_IsPolygon _ _ _ a (by first | rfl | simp only [ml] <;> rfl)) fun r => ?_
 conv => lhs; whnf
 refine t_cond ?_ ?_
 ·conv => lhs; whnf
  refine t_call (h_impl_isOneInside _ _ _ a (by first | rfl | simp only [ml] <;> rfl)) fun r1 => ?_
  conv => lhs; whnf
  exact t_ret (by first | rfl | simp only [ml] <;> rfl)
 ·conv => lhs; whnf
  exact t_ret (by first | rfl | simp only [ml] <;> rfl)
noncomputable def impl_bezout_l0 (L : Nat) : Nat → Int → Int → Int → Int → Int → Int → Option (Int × Int × Int)
  | 0, _, _, _, _, _, _ => none
  | m + 1, v0, v1, v7, v8, v9, v10 => bif !ieq v1 0 then (bif ieq v1 0 then (none) else (impl_bezout_l0 L m v1 (wr IntKind.i64 (isub v0 (wr IntKind.i64 (imul (wr IntKind.i64 (iquo v0 v1)) v1)))) v9 v10 (wr IntKind.i64 (isub v7 (wr IntKind.i64 (imul (wr IntKind.i64 (iquo v0 v1)) v9)))) (wr IntKind.i64 (isub v8 (wr IntKind.i64 (imul (wr IntKind.i64 (iquo v0 v1)) v10)))))) else (some ((v0, v7, v8)))
noncomputable def impl_bezout (L : Nat) (a : Int) (b : Int) : Option (Int × Int × Int) := impl_bezout_l0 L L a b 1 0 0 1
def impl_bezout_ok (L : Nat) (C : CF) : Prop := ∀ (a : Int) (b : Int), C 60 ([.int .i64 a, .int .i64 b]) ([]) = Option.map (fun r : Int × Int × Int => ((.tup [.int .i64 (r.1), .int .i64 (r.2.1), .int .i64 (r.2.2)], []) : AV × List Blk)) (impl_bezout L a b)
theorem impl_bezout_run (L : Nat) (C : CF) : ∀ (a : Int) (b : Int), run T C sh (keep 60) L Try.f60 ([.int .i64 a, .int .i64 b]) ([]) = Option.map (fun r : Int × Int × Int => ((.tup [.int .i64 (r.1), .int .i64 (r.2.1), .int .i64 (r.2.2)], []) : AV × List Blk)) (impl_bezout L a b) := by
 intro a b
 unfold impl_bezout
 conv => lhs; whnf
 refine t_loop (fun (⟨v0, v1, v7, v8, v9, v10⟩ : Int × Int × Int × Int × Int × Int) => (AV.int IntKind.i64 v0 :: AV.int IntKind.i64 v1 :: topA 5 (AV.int IntKind.i64 v7 :: AV.int IntKind.i64 v8 :: AV.int IntKind.i64 v9 :: AV.int IntKind.i64 v10 :: tops 27), [])) (fun m (⟨v0, v1, v7, v8, v9, v10⟩ : Int × Int × Int × Int × Int × Int) => impl_bezout_l0 L m v0 v1 v7 v8 v9 v10) (fun _ => rfl) (fun m s rec hrec => ?_) L ((a, b, 1, 0, 0, 1)) ?_ ?_
 rotate_left
 ·first | rfl | simp only [ml] <;> rfl
 ·first | rfl | simp only [ml] <;> rfl
 obtain ⟨v0, v1, v7, v8, v9, v10⟩ := s
 show _ = Option.map _ (impl_bezout_l0 L (m + 1) v0 v1 v7 v8 v9 v10)
 rw [impl_bezout_l0.eq_2]
 conv => lhs; whnf
 refine t_cond ?_ ?_
 ·conv => lhs; whnf
  refine t_cond ?_ ?_
  ·conv => lhs; whnf
   exact t_none
  ·conv => lhs; whnf
   exact hrec ((v1, wr IntKind.i64 (isub v0 (wr IntKind.i64 (imul (wr IntKind.i64 (iquo v0 v1)) v1))), v9, v10, wr IntKind.i64 (isub v7 (wr IntKind.i64 (imul (wr IntKind.i64 (iquo v0 v1)) v9))), wr IntKind.i64 (isub v8 (wr IntKind.i64 (imul (wr IntKind.i64 (iquo v0 v1)) v10))))) _ _ (by first | rfl | simp only [ml] <;> rfl) (by first | rfl | simp only [ml] <;> rfl)
 ·conv => lhs; whnf
  exact t_ret (by first | rfl | simp only [ml] <;> rfl)
noncomputable def impl_Move_bring (L : Nat) (a_0 : Int) (a_1 : Int) (a_2 : Int) (a_3 : Int) (a_4 : Int) (a_5 : Int) (b_0 : Int) (b_1 : Int) : Option (Int × Int) := some ((wr IntKind.i64 (iadd (wr IntKind.i64 (iadd (wr IntKind.i64 (imul a_0 b_0)) (wr IntKind.i64 (imul a_1 b_1)))) a_4), wr IntKind.i64 (iadd (wr IntKind.i64 (iadd (wr IntKind.i64 (imul a_2 b_0)) (wr IntKind.i64 (imul a_3 b_1)))) a_5)))
def impl_Move_bring_ok (L : Nat) (C : CF) : Prop := ∀ (a_0 : Int) (a_1 : Int) (a_2 : Int) (a_3 : Int) (a_4 : Int) (a_5 : Int) (b_0 : Int) (b_1 : Int), C 61 ([.agg [.int .i64 a_0, .int .i64 a_1, .int .i64 a_2, .int .i64 a_3, .int .i64 a_4, .int .i64 a_5], .agg [.int .i64 b_0, .int .i64 b_1]]) ([]) = Option.map (fun r : Int × Int => ((.agg [.int .i64 (r.1), .int .i64 (r.2)], []) : AV × List Blk)) (impl_Move_bring L a_0 a_1 a_2 a_3 a_4 a_5 b_0 b_1)
theorem impl_Move_bring_run (L : Nat) (C : CF) : ∀ (a_0 : Int) (a_1 : Int) (a_2 : Int) (a_3 : Int) (a_4 : Int) (a_5 : Int) (b_0 : Int) (b_1 : Int), run T C sh (keep 61) L Try.f61 ([.agg [.int .i64 a_0, .int .i64 a_1, .int .i64 a_2, .int .i64 a_3, .int .i64 a_4, .int .i64 a_5], .agg [.int .i64 b_0, .int .i64 b_1]]) ([]) = Option.map (fun r : Int × Int => ((.agg [.int .i64 (r.1), .int .i64 (r.2)], []) : AV × List Blk)) (impl_Move_bring L a_0 a_1 a_2 a_3 a_4 a_5 b_0 b_1) := by
 intro a_0 a_1 a_2 a_3 a_4 a_5 b_0 b_1
 unfold impl_Move_bring
 conv => lhs; whnf
 exact t_ret (by first | rfl | simp only [ml] <;> rfl)
noncomputable def impl_frame_l0 (L : Nat) (a : List Pt) (r : Int × Int) (r1 : Int × Int × Int) (r3 : Int × Int) : Nat → Int → (List Pt) → Option ((List Pt))
  | 0, _, _ => none
  | m + 1, v113, w1 => bif ilt v113 (ilen (List.map ep a)) then (gbind (lget a v113) fun p4 => gbind (lget a 0) fun p5 => gbind (impl_Peg_less L (Pt.x p4) (Pt.y p4) (Pt.x p5) (Pt.y p5)) fun r4 => gbind (impl_Move_bring L (wr IntKind.i64 (iadd (wr IntKind.i64 (isub 0 (Prod.fst (Prod.snd r1)))) (wr IntKind.i64 (imul (wr IntKind.i64 (iquo (wr IntKind.i64 (isub (irem (wr IntKind.i64 (iadd (irem (Prod.fst r3) (wr IntKind.i64 (isub 0 (Prod.snd r3)))) (wr IntKind.i64 (isub 0 (Prod.snd r3))))) (wr IntKind.i64 (isub 0 (Prod.snd r3)))) (Prod.fst r3))) (wr IntKind.i64 (isub 0 (Prod.snd r3))))) (wr IntKind.i64 (isub 0 (wr IntKind.i64 (iquo (wr IntKind.i64 (isub 0 (Prod.snd r))) (wr IntKind.i64 (isub 0 (Prod.fst r1))))))))))) (wr IntKind.i64 (iadd (wr IntKind.i64 (isub 0 (Prod.snd (Prod.snd r1)))) (wr IntKind.i64 (imul (wr IntKind.i64 (iquo (wr IntKind.i64 (isub (irem (wr IntKind.i64 (iadd (irem (Prod.fst r3) (wr IntKind.i64 (isub 0 (Prod.snd r3)))) (wr IntKind.i64 (isub 0 (Prod.snd r3))))) (wr IntKind.i64 (isub 0 (Prod.snd r3)))) (Prod.fst r3))) (wr IntKind.i64 (isub 0 (Prod.snd r3))))) (wr IntKind.i64 (isub 0 (wr IntKind.i64 (iquo (Prod.fst r) (wr IntKind.i64 (isub 0 (Prod.fst r1))))))))))) (wr IntKind.i64 (isub 0 (wr IntKind.i64 (iquo (wr IntKind.i64 (isub 0 (Prod.snd r))) (wr IntKind.i64 (isub 0 (Prod.fst r1))))))) (wr IntKind.i64 (isub 0 (wr IntKind.i64 (iquo (Prod.fst r) (wr IntKind.i64 (isub 0 (Prod.fst r1))))))) 0 0 (Prod.fst r4) (Prod.snd r4)) fun r5 => bif fits (iadd (ilen (List.map ep w1)) (ilen [AV.agg [AV.int IntKind.i64 (Prod.fst r5), AV.int IntKind.i64 (Prod.snd r5)]])) 16 then (impl_frame_l0 L a r r1 r3 m (wr IntKind.i64 (iadd v113 1)) (lcat w1 ({ x := Prod.fst r5, y := Prod.snd r5 } :: []))) else (none)) else (some w1)
noncomputable def impl_frame_l1 (L : Nat) (a : List Pt) (r : Int × Int) (r1 : Int × Int × Int) (r3 : Int × Int) : Nat → Int → (List Pt) → Option ((List Pt))
  | 0, _, _ => none
  | m1 + 1, v1131, w11 => bif ilt v1131 (ilen (List.map ep a)) then (gbind (lget a v1131) fun p6 => gbind (lget a 0) fun p7 => gbind (impl_Peg_less L (Pt.x p6) (Pt.y p6) (Pt.x p7) (Pt.y p7)) fun r6 => gbind (impl_Move_bring L (wr IntKind.i64 (iadd (wr IntKind.i64 (isub 0 (Prod.fst (Prod.snd r1)))) (wr IntKind.i64 (imul (wr IntKind.i64 (iquo (wr IntKind.i64 (isub (irem (wr IntKind.i64 (iadd (irem (Prod.fst r3) (Prod.snd r3)) (Prod.snd r3))) (Prod.snd r3)) (Prod.fst r3))) (Prod.snd r3))) (wr IntKind.i64 (iquo (wr IntKind.i64 (isub 0 (Prod.snd r))) (wr IntKind.i64 (isub 0 (Prod.fst r1))))))))) (wr IntKind.i64 (iadd (wr IntKind.i64 (isub 0 (Prod.snd (Prod.snd r1)))) (wr IntKind.i64 (imul (wr IntKind.i64 (iquo (wr IntKind.i64 (isub (irem (wr IntKind.i64 (iadd (irem (Prod.fst r3) (Prod.snd r3)) (Prod.snd r3))) (Prod.snd r3)) (Prod.fst r3))) (Prod.snd r3))) (wr IntKind.i64 (iquo (Prod.fst r) (wr IntKind.i64 (isub 0 (Prod.fst r1))))))))) (wr IntKind.i64 (iquo (wr IntKind.i64 (isub 0 (Prod.snd r))) (wr IntKind.i64 (isub 0 (Prod.fst r1))))) (wr IntKind.i64 (iquo (Prod.fst r) (wr IntKind.i64 (isub 0 (Prod.fst r1))))) 0 0 (Prod.fst r6) (Prod.snd r6)) fun r7 => bif fits (iadd (ilen (List.map ep w11)) (ilen [AV.agg [AV.int IntKind.i64 (Prod.fst r7), AV.int IntKind.i64 (Prod.snd r7)]])) 16 then (impl_frame_l1 L a r r1 r3 m1 (wr IntKind.i64 (iadd v1131 1)) (lcat w11 ({ x := Prod.fst r7, y := Prod.snd r7 } :: []))) else (none)) else (some w11)
noncomputable def impl_frame_l2 (L : Nat) (a : List Pt) (r : Int × Int) (r1 : Int × Int × Int) (r9 : Int × Int) : Nat → Int → (List Pt) → Option ((List Pt))
  | 0, _, _ => none
  | m2 + 1, v1132, w12 => bif ilt v1132 (ilen (List.map ep a)) then (gbind (lget a v1132) fun p10 => gbind (lget a 0) fun p11 => gbind (impl_Peg_less L (Pt.x p10) (Pt.y p10) (Pt.x p11) (Pt.y p11)) fun r10 => gbind (impl_Move_bring L (wr IntKind.i64 (iadd (Prod.fst (Prod.snd r1)) (wr IntKind.i64 (imul (wr IntKind.i64 (iquo (wr IntKind.i64 (isub (irem (wr IntKind.i64 (iadd (irem (Prod.fst r9) (wr IntKind.i64 (isub 0 (Prod.snd r9)))) (wr IntKind.i64 (isub 0 (Prod.snd r9))))) (wr IntKind.i64 (isub 0 (Prod.snd r9)))) (Prod.fst r9))) (wr IntKind.i64 (isub 0 (Prod.snd r9))))) (wr IntKind.i64 (isub 0 (wr IntKind.i64 (iquo (wr IntKind.i64 (isub 0 (Prod.snd r))) (Prod.fst r1))))))))) (wr IntKind.i64 (iadd (Prod.snd (Prod.snd r1)) (wr IntKind.i64 (imul (wr IntKind.i64 (iquo (wr IntKind.i64 (isub (irem (wr IntKind.i64 (iadd (irem (Prod.fst r9) (wr IntKind.i64 (isub 0 (Prod.snd r9)))) (wr IntKind.i64 (isub 0 (Prod.snd r9))))) (wr IntKind.i64 (isub 0 (Prod.snd r9)))) (Prod.fst r9))) (wr IntKind.i64 (isub 0 (Prod.snd r9))))) (wr IntKind.i64 (isub 0 (wr IntKind.i64 (iquo (Prod.fst r) (Prod.fst r1))))))))) (wr IntKind.i64 (isub 0 (wr IntKind.i64 (iquo (wr IntKind.i64 (isub 0 (Prod.snd r))) (Prod.fst r1))))) (wr IntKind.i64 (isub 0 (wr IntKind.i64 (iquo (Prod.fst r) (Prod.fst r1))))) 0 0 (Prod.fst r10) (Prod.snd r10)) fun r11 => bif fits (iadd (ilen (List.map ep w12)) (ilen [AV.agg [AV.int IntKind.i64 (Prod.fst r11), AV.int IntKind.i64 (Prod.snd r11)]])) 16 then (impl_frame_l2 L a r r1 r9 m2 (wr IntKind.i64 (iadd v1132 1)) (lcat w12 ({ x := Prod.fst r11, y := Prod.snd r11 } :: []))) else (none)) else (some w12)
noncomputable def impl_frame_l3 (L : Nat) (a : List Pt) (r : Int × Int) (r1 : Int × Int × Int) (r9 : Int × Int) : Nat → Int → (List Pt) → Option ((List Pt))
  | 0, _, _ => none
  | m3 + 1, v1133, w13 => bif ilt v1133 (ilen (List.map ep a)) then (gbind (lget a v1133) fun p12 => gbind (lget a 0) fun p13 => gbind (impl_Peg_less L (Pt.x p12) (Pt.y p12) (Pt.x p13) (Pt.y p13)) fun r12 => gbind (impl_Move_bring L (wr IntKind.i64 (iadd (Prod.fst (Prod.snd r1)) (wr IntKind.i64 (imul (wr IntKind.i64 (iquo (wr IntKind.i64 (isub (irem (wr IntKind.i64 (iadd (irem (Prod.fst r9) (Prod.snd r9)) (Prod.snd r9))) (Prod.snd r9)) (Prod.fst r9))) (Prod.snd r9))) (wr IntKind.i64 (iquo (wr IntKind.i64 (isub 0 (Prod.snd r))) (Prod.fst r1))))))) (wr IntKind.i64 (iadd (Prod.snd (Prod.snd r1)) (wr IntKind.i64 (imul (wr IntKind.i64 (iquo (wr IntKind.i64 (isub (irem (wr IntKind.i64 (iadd (irem (Prod.fst r9) (Prod.snd r9)) (Prod.snd r9))) (Prod.snd r9)) (Prod.fst r9))) (Prod.snd r9))) (wr IntKind.i64 (iquo (Prod.fst r) (Prod.fst r1))))))) (wr IntKind.i64 (iquo (wr IntKind.i64 (isub 0 (Prod.snd r))) (Prod.fst r1))) (wr IntKind.i64 (iquo (Prod.fst r) (Prod.fst r1))) 0 0 (Prod.fst r12) (Prod.snd r12)) fun r13 => bif fits (iadd (ilen (List.map ep w13)) (ilen [AV.agg [AV.int IntKind.i64 (Prod.fst r13), AV.int IntKind.i64 (Prod.snd r13)]])) 16 then (impl_frame_l3 L a r r1 r9 m3 (wr IntKind.i64 (iadd v1133 1)) (lcat w13 ({ x := Prod.fst r13, y := Prod.snd r13 } :: []))) else (none)) else (some w13)
noncomputable def impl_frame (L : Nat) (a : List Pt) : Option ((List Pt)) := gbind (lget a 1) fun p => gbind (lget a 0) fun p1 => gbind (impl_Peg_less L (Pt.x p) (Pt.y p) (Pt.x p1) (Pt.y p1)) fun r => gbind (impl_bezout L (Prod.fst r) (Prod.snd r)) fun r1 => bif ilt (Prod.fst r1) 0 then (bif ieq (wr IntKind.i64 (isub 0 (Prod.fst r1))) 0 then (none) else (bif ieq (wr IntKind.i64 (isub 0 (Prod.fst r1))) 0 then (none) else (gbind (lget a 2) fun p2 => gbind (lget a 0) fun p3 => gbind (impl_Peg_less L (Pt.x p2) (Pt.y p2) (Pt.x p3) (Pt.y p3)) fun r2 => gbind (impl_Move_bring L (wr IntKind.i64 (isub 0 (Prod.fst (Prod.snd r1)))) (wr IntKind.i64 (isub 0 (Prod.snd (Prod.snd r1)))) (wr IntKind.i64 (iquo (wr IntKind.i64 (isub 0 (Prod.snd r))) (wr IntKind.i64 (isub 0 (Prod.fst r1))))) (wr IntKind.i64 (iquo (Prod.fst r) (wr IntKind.i64 (isub 0 (Prod.fst r1))))) 0 0 (Prod.fst r2) (Prod.snd r2)) fun r3 => bif ilt (Prod.snd r3) 0 then (bif ieq (wr IntKind.i64 (isub 0 (Prod.snd r3))) 0 then (none) else (bif ieq (wr IntKind.i64 (isub 0 (Prod.snd r3))) 0 then (none) else (bif ieq (wr IntKind.i64 (isub 0 (Prod.snd r3))) 0 then (none) else (bif ile 0 0 && ile 0 (ilen (List.map ep a)) && fits (ilen (List.map ep a)) 16 then (impl_frame_l0 L a r r1 r3 L 0 (lrep 0 ({ x := 0, y := 0 }))) else (none))))) else (bif ieq (Prod.snd r3) 0 then (none) else (bif ieq (Prod.snd r3) 0 then (none) else (bif ieq (Prod.snd r3) 0 then (none) else (bif ile 0 0 && ile 0 (ilen (List.map ep a)) && fits (ilen (List.map ep a)) 16 then (impl_frame_l1 L a r r1 r3 L 0 (lrep 0 ({ x := 0, y := 0 }))) else (none)))))))) else (bif ieq (Prod.fst r1) 0 then (none) else (bif ieq (Prod.fst r1) 0 then (none) else (gbind (lget a 2) fun p8 => gbind (lget a 0) fun p9 => gbind (impl_Peg_less L (Pt.x p8) (Pt.y p8) (Pt.x p9) (Pt.y p9)) fun r8 => gbind (impl_Move_bring L (Prod.fst (Prod.snd r1)) (Prod.snd (Prod.snd r1)) (wr IntKind.i64 (iquo (wr IntKind.i64 (isub 0 (Prod.snd r))) (Prod.fst r1))) (wr IntKind.i64 (iquo (Prod.fst r) (Prod.fst r1))) 0 0 (Prod.fst r8) (Prod.snd r8)) fun r9 => bif ilt (Prod.snd r9) 0 then (bif ieq (wr IntKind.i64 (isub 0 (Prod.snd r9))) 0 then (none) else (bif ieq (wr IntKind.i64 (isub 0 (Prod.snd r9))) 0 then (none) else (bif ieq (wr IntKind.i64 (isub 0 (Prod.snd r9))) 0 then (none) else (bif ile 0 0 && ile 0 (ilen (List.map ep a)) && fits (ilen (List.map ep a)) 16 then (impl_frame_l2 L a r r1 r9 L 0 (lrep 0 ({ x := 0, y := 0 }))) else (none))))) else (bif ieq (Prod.snd r9) 0 then (none) else (bif ieq (Prod.snd r9) 0 then (none) else (bif ieq (Prod.snd r9) 0 then (none) else (bif ile 0 0 && ile 0 (ilen (List.map ep a)) && fits (ilen (List.map ep a)) 16 then (impl_frame_l3 L a r r1 r9 L 0 (lrep 0 ({ x := 0, y := 0 }))) else (none))))))))
def impl_frame_ok (L : Nat) (C : CF) : Prop := ∀ (oa : Bool) (ca : Bool) (x_a : List AV) (a : List Pt) (_ : x_a = List.map ep a), C 30 ([.lst oa ca 2 x_a]) ([]) = Option.map (fun r : (List Pt) => ((.frs 2 (List.map ep r), []) : AV × List Blk)) (impl_frame L a)
theorem impl_frame_run (L : Nat) (C : CF) (h_impl_Peg_less : impl_Peg_less_ok L C) (h_impl_bezout : impl_bezout_ok L C) (h_impl_Move_bring : impl_Move_bring_ok L C) : ∀ (oa : Bool) (ca : Bool) (x_a : List AV) (a : List Pt) (_ : x_a = List.map ep a), run T C sh (keep 30) L Try.f30 ([.lst oa ca 2 x_a]) ([]) = Option.map (fun r : (List Pt) => ((.frs 2 (List.map ep r), []) : AV × List Blk)) (impl_frame L a) := by
 intro oa ca x_a a hx_a
 subst hx_a
 unfold impl_frame
 conv => lhs; whnf
 refine t_get (en := ep) (l := a) (by first | rfl | simp only [ml] <;> rfl) fun p => ?_
 conv => lhs; whnf
 refine t_get (en := ep) (l := a) (by first | rfl | simp only [ml] <;> rfl) fun p1 => ?_
 conv => lhs; whnf
 refine t_call (h_impl_Peg_less (Pt.x p) (Pt.y p) (Pt.x p1) (Pt.y p1)) fun r => ?_
 conv => lhs; whnf
 refine t_call (h_impl_bezout (Prod.fst r) (Prod.snd r)) fun r1 => ?_
 conv => lhs; whnf
 refine t_cond ?_ ?_
 ·conv => lhs; whnf
  refine t_cond ?_ ?_
  ·conv => lhs; whnf
   exact t_none
  ·conv => lhs; whnf
   refine t_cond ?_ ?_
   ·conv => lhs; whnf
    exact t_none
   ·conv => lhs; whnf
    refine t_get (en := ep) (l := a) (by first | rfl | simp only [ml] <;> rfl) fun p2 => ?_
    conv => lhs; whnf
    refine t_get (en := ep) (l := a) (by first | rfl | simp only [ml] <;> rfl) fun p3 => ?_
    conv => lhs; whnf
    refine t_call (h_impl_Peg_less (Pt.x p2) (Pt.y p2) (Pt.x p3) (Pt.y p3)) fun r2 => ?_
    conv => lhs; whnf
    refine t_call (h_impl_Move_bring (wr IntKind.i64 (isub 0 (Prod.fst (Prod.snd r1)))) (wr IntKind.i64 (isub 0 (Prod.snd (Prod.snd r1)))) (wr IntKind.i64 (iquo (wr IntKind.i64 (isub 0 (Prod.snd r))) (wr IntKind.i64 (isub 0 (Prod.fst r1))))) (wr IntKind.i64 (iquo (Prod.fst r) (wr IntKind.i64 (isub 0 (Prod.fst r1))))) 0 0 (Prod.fst r2) (Prod.snd r2)) fun r3 => ?_
    conv => lhs; whnf
    refine t_cond ?_ ?_
    ·conv => lhs; whnf
     refine t_cond ?_ ?_
     ·conv => lhs; whnf
      exact t_none
     ·conv => lhs; whnf
      refine t_cond ?_ ?_
      ·conv => lhs; whnf
       exact t_none
      ·conv => lhs; whnf
       refine t_cond ?_ ?_
       ·conv => lhs; whnf
        exact t_none
       ·conv => lhs; whnf
        refine t_cond ?_ ?_
        ·conv => lhs; whnf
         refine t_loop (fun (⟨v113, w1⟩ : Int × (List Pt)) => (AV.lst oa ca 2 (List.map ep a) :: topA 6 (AV.ptr 0 0 0 6 :: topA 3 (AV.own 1 2 none false :: topA 99 (AV.lst oa ca 2 (List.map ep a) :: AV.int IntKind.i64 (ilen (List.map ep a)) :: AV.int IntKind.i64 v113 :: tops 15))), [Blk.box (AV.agg [AV.int IntKind.i64 (wr IntKind.i64 (iadd (wr IntKind.i64 (isub 0 (Prod.fst (Prod.snd r1)))) (wr IntKind.i64 (imul (wr IntKind.i64 (iquo (wr IntKind.i64 (isub (irem (wr IntKind.i64 (iadd (irem (Prod.fst r3) (wr IntKind.i64 (isub 0 (Prod.snd r3)))) (wr IntKind.i64 (isub 0 (Prod.snd r3))))) (wr IntKind.i64 (isub 0 (Prod.snd r3)))) (Prod.fst r3))) (wr IntKind.i64 (isub 0 (Prod.snd r3))))) (wr IntKind.i64 (isub 0 (wr IntKind.i64 (iquo (wr IntKind.i64 (isub 0 (Prod.snd r))) (wr IntKind.i64 (isub 0 (Prod.fst r1))))))))))), AV.int IntKind.i64 (wr IntKind.i64 (iadd (wr IntKind.i64 (isub 0 (Prod.snd (Prod.snd r1)))) (wr IntKind.i64 (imul (wr IntKind.i64 (iquo (wr IntKind.i64 (isub (irem (wr IntKind.i64 (iadd (irem (Prod.fst r3) (wr IntKind.i64 (isub 0 (Prod.snd r3)))) (wr IntKind.i64 (isub 0 (Prod.snd r3))))) (wr IntKind.i64 (isub 0 (Prod.snd r3)))) (Prod.fst r3))) (wr IntKind.i64 (isub 0 (Prod.snd r3))))) (wr IntKind.i64 (isub 0 (wr IntKind.i64 (iquo (Prod.fst r) (wr IntKind.i64 (isub 0 (Prod.fst r1))))))))))), AV.int IntKind.i64 (wr IntKind.i64 (isub 0 (wr IntKind.i64 (iquo (wr IntKind.i64 (isub 0 (Prod.snd r))) (wr IntKind.i64 (isub 0 (Prod.fst r1))))))), AV.int IntKind.i64 (wr IntKind.i64 (isub 0 (wr IntKind.i64 (iquo (Prod.fst r) (wr IntKind.i64 (isub 0 (Prod.fst r1))))))), AV.int IntKind.i64 0, AV.int IntKind.i64 0]), Blk.rows Mode.live 2 (List.map ep w1)])) (fun m (⟨v113, w1⟩ : Int × (List Pt)) => impl_frame_l0 L a r r1 r3 m v113 w1) (fun _ => rfl) (fun m s rec hrec => ?_) L ((0, lrep 0 ({ x := 0, y := 0 }))) ?_ ?_
         rotate_left
         ·first | rfl | simp only [ml] <;> rfl
         ·first | rfl | simp only [ml] <;> rfl
         obtain ⟨v113, w1⟩ := s
         show _ = Option.map _ (impl_frame_l0 L a r r1 r3 (m + 1) v113 w1)
         rw [impl_frame_l0.eq_2]
         conv => lhs; whnf
         refine t_cond ?_ ?_
         ·conv => lhs; whnf
          refine t_get (en := ep) (l := a) (by first | rfl | simp only [ml] <;> rfl) fun p4 => ?_
          conv => lhs; whnf
          refine t_get (en := ep) (l := a) (by first | rfl | simp only [ml] <;> rfl) fun p5 => ?_
          conv => lhs; whnf
          refine t_call (h_impl_Peg_less (Pt.x p4) (Pt.y p4) (Pt.x p5) (Pt.y p5)) fun r4 => ?_
          conv => lhs; whnf
          refine t_call (h_impl_Move_bring (wr IntKind.i64 (iadd (wr IntKind.i64 (isub 0 (Prod.fst (Prod.snd r1)))) (wr IntKind.i64 (imul (wr IntKind.i64 (iquo (wr IntKind.i64 (isub (irem (wr IntKind.i64 (iadd (irem (Prod.fst r3) (wr IntKind.i64 (isub 0 (Prod.snd r3)))) (wr IntKind.i64 (isub 0 (Prod.snd r3))))) (wr IntKind.i64 (isub 0 (Prod.snd r3)))) (Prod.fst r3))) (wr IntKind.i64 (isub 0 (Prod.snd r3))))) (wr IntKind.i64 (isub 0 (wr IntKind.i64 (iquo (wr IntKind.i64 (isub 0 (Prod.snd r))) (wr IntKind.i64 (isub 0 (Prod.fst r1))))))))))) (wr IntKind.i64 (iadd (wr IntKind.i64 (isub 0 (Prod.snd (Prod.snd r1)))) (wr IntKind.i64 (imul (wr IntKind.i64 (iquo (wr IntKind.i64 (isub (irem (wr IntKind.i64 (iadd (irem (Prod.fst r3) (wr IntKind.i64 (isub 0 (Prod.snd r3)))) (wr IntKind.i64 (isub 0 (Prod.snd r3))))) (wr IntKind.i64 (isub 0 (Prod.snd r3)))) (Prod.fst r3))) (wr IntKind.i64 (isub 0 (Prod.snd r3))))) (wr IntKind.i64 (isub 0 (wr IntKind.i64 (iquo (Prod.fst r) (wr IntKind.i64 (isub 0 (Prod.fst r1))))))))))) (wr IntKind.i64 (isub 0 (wr IntKind.i64 (iquo (wr IntKind.i64 (isub 0 (Prod.snd r))) (wr IntKind.i64 (isub 0 (Prod.fst r1))))))) (wr IntKind.i64 (isub 0 (wr IntKind.i64 (iquo (Prod.fst r) (wr IntKind.i64 (isub 0 (Prod.fst r1))))))) 0 0 (Prod.fst r4) (Prod.snd r4)) fun r5 => ?_
          conv => lhs; whnf
          refine t_cond ?_ ?_
          ·conv => lhs; whnf
           exact hrec ((wr IntKind.i64 (iadd v113 1), lcat w1 ({ x := Prod.fst r5, y := Prod.snd r5 } :: []))) _ _ (by first | rfl | simp only [ml] <;> rfl) (by first | rfl | simp only [ml] <;> rfl)
          ·conv => lhs; whnf
           exact t_none
         ·conv => lhs; whnf
          exact t_ret (by first | rfl | simp only [ml] <;> rfl)
        ·conv => lhs; whnf
         exact t_none
    ·conv => lhs; whnf
     refine t_cond ?_ ?_
     ·conv => lhs; whnf
      exact t_none
     ·conv => lhs; whnf
      refine t_cond ?_ ?_
      ·conv => lhs; whnf
       exact t_none
      ·conv => lhs; whnf
       refine t_cond ?_ ?_
       ·conv => lhs; whnf
        exact t_none
       ·conv => lhs; whnf
        refine t_cond ?_ ?_
        ·conv => lhs; whnf
         refine t_loop (fun (⟨v1131, w11⟩ : Int × (List Pt)) => (AV.lst oa ca 2 (List.map ep a) :: topA 6 (AV.ptr 0 0 0 6 :: topA 3 (AV.own 1 2 none false :: topA 99 (AV.lst oa ca 2 (List.map ep a) :: AV.int IntKind.i64 (ilen (List.map ep a)) :: AV.int IntKind.i64 v1131 :: tops 15))), [Blk.box (AV.agg [AV.int IntKind.i64 (wr IntKind.i64 (iadd (wr IntKind.i64 (isub 0 (Prod.fst (Prod.snd r1)))) (wr IntKind.i64 (imul (wr IntKind.i64 (iquo (wr IntKind.i64 (isub (irem (wr IntKind.i64 (iadd (irem (Prod.fst r3) (Prod.snd r3)) (Prod.snd r3))) (Prod.snd r3)) (Prod.fst r3))) (Prod.snd r3))) (wr IntKind.i64 (iquo (wr IntKind.i64 (isub 0 (Prod.snd r))) (wr IntKind.i64 (isub 0 (Prod.fst r1))))))))), AV.int IntKind.i64 (wr IntKind.i64 (iadd (wr IntKind.i64 (isub 0 (Prod.snd (Prod.snd r1)))) (wr IntKind.i64 (imul (wr IntKind.i64 (iquo (wr IntKind.i64 (isub (irem (wr IntKind.i64 (iadd (irem (Prod.fst r3) (Prod.snd r3)) (Prod.snd r3))) (Prod.snd r3)) (Prod.fst r3))) (Prod.snd r3))) (wr IntKind.i64 (iquo (Prod.fst r) (wr IntKind.i64 (isub 0 (Prod.fst r1))))))))), AV.int IntKind.i64 (wr IntKind.i64 (iquo (wr IntKind.i64 (isub 0 (Prod.snd r))) (wr IntKind.i64 (isub 0 (Prod.fst r1))))), AV.int IntKind.i64 (wr IntKind.i64 (iquo (Prod.fst r) (wr IntKind.i64 (isub 0 (Prod.fst r1))))), AV.int IntKind.i64 0, AV.int IntKind.i64 0]), Blk.rows Mode.live 2 (List.map ep w11)])) (fun m1 (⟨v1131, w11⟩ : Int × (List Pt)) => impl_frame_l1 L a r r1 r3 m1 v1131 w11) (fun _ => rfl) (fun m1 s1 rec1 hrec1 => ?_) L ((0, lrep 0 ({ x := 0, y := 0 }))) ?_ ?_
         rotate_left
         ·first | rfl | simp only [ml] <;> rfl
         ·first | rfl | simp only [ml] <;> rfl
         obtain ⟨v1131, w11⟩ := s1
         show _ = Option.map _ (impl_frame_l1 L a r r1 r3 (m1 + 1) v1131 w11)
         rw [impl_frame_l1.eq_2]
         conv => lhs; whnf
         refine t_cond ?_ ?_
         ·conv => lhs; whnf
          refine t_get (en := ep) (l := a) (by first | rfl | simp only [ml] <;> rfl) fun p6 => ?_
          conv => lhs; whnf
          refine t_get (en := ep) (l := a) (by first | rfl | simp only [ml] <;> rfl) fun p7 => ?_
          conv => lhs; whnf
          refine t_call (h_impl_Peg_less (Pt.x p6) (Pt.y p6) (Pt.x p7) (Pt.y p7)) fun r6 => ?_
          conv => lhs; whnf
          refine t_call (h_impl_Move_bring (wr IntKind.i64 (iadd (wr IntKind.i64 (isub 0 (Prod.fst (Prod.snd r1)))) (wr IntKind.i64 (imul (wr IntKind.i64 (iquo (wr IntKind.i64 (isub (irem (wr IntKind.i64 (iadd (irem (Prod.fst r3) (Prod.snd r3)) (Prod.snd r3))) (Prod.snd r3)) (Prod.fst r3))) (Prod.snd r3))) (wr IntKind.i64 (iquo (wr IntKind.i64 (isub 0 (Prod.snd r))) (wr IntKind.i64 (isub 0 (Prod.fst r1))))))))) (wr IntKind.i64 (iadd (wr IntKind.i64 (isub 0 (Prod.snd (Prod.snd r1)))) (wr IntKind.i64 (imul (wr IntKind.i64 (iquo (wr IntKind.i64 (isub (irem (wr IntKind.i64 (iadd (irem (Prod.fst r3) (Prod.snd r3)) (Prod.snd r3))) (Prod.snd r3)) (Prod.fst r3))) (Prod.snd r3))) (wr IntKind.i64 (iquo (Prod.fst r) (wr IntKind.i64 (isub 0 (Prod.fst r1))))))))) (wr IntKind.i64 (iquo (wr IntKind.i64 (isub 0 (Prod.snd r))) (wr IntKind.i64 (isub 0 (Prod.fst r1))))) (wr IntKind.i64 (iquo (Prod.fst r) (wr IntKind.i64 (isub 0 (Prod.fst r1))))) 0 0 (Prod.fst r6) (Prod.snd r6)) fun r7 => ?_
          conv => lhs; whnf
          refine t_cond ?_ ?_
          ·conv => lhs; whnf
           exact hrec1 ((wr IntKind.i64 (iadd v1131 1), lcat w11 ({ x := Prod.fst r7, y := Prod.snd r7 } :: []))) _ _ (by first | rfl | simp only [ml] <;> rfl) (by first | rfl | simp only [ml] <;> rfl)
          ·conv => lhs; whnf
           exact t_none
         ·conv => lhs; whnf
          exact t_ret (by first | rfl | simp only [ml] <;> rfl)
        ·conv => lhs; whnf
         exact t_none
 ·conv => lhs; whnf
  refine t_cond ?_ ?_
  ·conv => lhs; whnf
   exact t_none
  ·conv => lhs; whnf
   refine t_cond ?_ ?_
   ·conv => lhs; whnf
    exact t_none
   ·conv => lhs; whnf
    refine t_get (en := ep) (l := a) (by first | rfl | simp only [ml] <;> rfl) fun p8 => ?_
    conv => lhs; whnf
    refine t_get (en := ep) (l := a) (by first | rfl | simp only [ml] <;> rfl) fun p9 => ?_
    conv => lhs; whnf
    refine t_call (h_impl_Peg_less (Pt.x p8) (Pt.y p8) (Pt.x p9) (Pt.y p9)) fun r8 => ?_
    conv => lhs; whnf
    refine t_call (h_impl_Move_bring (Prod.fst (Prod.snd r1)) (Prod.snd (Prod.snd r1)) (wr IntKind.i64 (iquo (wr IntKind.i64 (isub 0 (Prod.snd r))) (Prod.fst r1))) (wr IntKind.i64 (iquo (Prod.fst r) (Prod.fst r1))) 0 0 (Prod.fst r8) (Prod.snd r8)) fun r9 => ?_
    conv => lhs; whnf
    refine t_cond ?_ ?_
    ·conv => lhs; whnf
     refine t_cond ?_ ?_
     ·conv => lhs; whnf
      exact t_none
     ·conv => lhs; whnf
      refine t_cond ?_ ?_
      ·conv => lhs; whnf
       exact t_none
      ·conv => lhs; whnf
       refine t_cond ?_ ?_
       ·conv => lhs; whnf
        exact t_none
       ·conv => lhs; whnf
        refine t_cond ?_ ?_
        ·conv => lhs; whnf
         refine t_loop (fun (⟨v1132, w12⟩ : Int × (List Pt)) => (AV.lst oa ca 2 (List.map ep a) :: topA 6 (AV.ptr 0 0 0 6 :: topA 3 (AV.own 1 2 none false :: topA 99 (AV.lst oa ca 2 (List.map ep a) :: AV.int IntKind.i64 (ilen (List.map ep a)) :: AV.int IntKind.i64 v1132 :: tops 15))), [Blk.box (AV.agg [AV.int IntKind.i64 (wr IntKind.i64 (iadd (Prod.fst (Prod.snd r1)) (wr IntKind.i64 (imul (wr IntKind.i64 (iquo (wr IntKind.i64 (isub (irem (wr IntKind.i64 (iadd (irem (Prod.fst r9) (wr IntKind.i64 (isub 0 (Prod.snd r9)))) (wr IntKind.i64 (isub 0 (Prod.snd r9))))) (wr IntKind.i64 (isub 0 (Prod.snd r9)))) (Prod.fst r9))) (wr IntKind.i64 (isub 0 (Prod.snd r9))))) (wr IntKind.i64 (isub 0 (wr IntKind.i64 (iquo (wr IntKind.i64 (isub 0 (Prod.snd r))) (Prod.fst r1))))))))), AV.int IntKind.i64 (wr IntKind.i64 (iadd (Prod.snd (Prod.snd r1)) (wr IntKind.i64 (imul (wr IntKind.i64 (iquo (wr IntKind.i64 (isub (irem (wr IntKind.i64 (iadd (irem (Prod.fst r9) (wr IntKind.i64 (isub 0 (Prod.snd r9)))) (wr IntKind.i64 (isub 0 (Prod.snd r9))))) (wr IntKind.i64 (isub 0 (Prod.snd r9)))) (Prod.fst r9))) (wr IntKind.i64 (isub 0 (Prod.snd r9))))) (wr IntKind.i64 (isub 0 (wr IntKind.i64 (iquo (Prod.fst r) (Prod.fst r1))))))))), AV.int IntKind.i64 (wr IntKind.i64 (isub 0 (wr IntKind.i64 (iquo (wr IntKind.i64 (isub 0 (Prod.snd r))) (Prod.fst r1))))), AV.int IntKind.i64 (wr IntKind.i64 (isub 0 (wr IntKind.i64 (iquo (Prod.fst r) (Prod.fst r1))))), AV.int IntKind.i64 0, AV.int IntKind.i64 0]), Blk.rows Mode.live 2 (List.map ep w12)])) (fun m2 (⟨v1132, w12⟩ : Int × (List Pt)) => impl_frame_l2 L a r r1 r9 m2 v1132 w12) (fun _ => rfl) (fun m2 s2 rec2 hrec2 => ?_) L ((0, lrep 0 ({ x := 0, y := 0 }))) ?_ ?_
         rotate_left
         ·first | rfl | simp only [ml] <;> rfl
         ·first | rfl | simp only [ml] <;> rfl
         obtain ⟨v1132, w12⟩ := s2
         show _ = Option.map _ (impl_frame_l2 L a r r1 r9 (m2 + 1) v1132 w12)
         rw [impl_frame_l2.eq_2]
         conv => lhs; whnf
         refine t_cond ?_ ?_
         ·conv => lhs; whnf
          refine t_get (en := ep) (l := a) (by first | rfl | simp only [ml] <;> rfl) fun p10 => ?_
          conv => lhs; whnf
          refine t_get (en := ep) (l := a) (by first | rfl | simp only [ml] <;> rfl) fun p11 => ?_
          conv => lhs; whnf
          refine t_call (h_impl_Peg_less (Pt.x p10) (Pt.y p10) (Pt.x p11) (Pt.y p11)) fun r10 => ?_
          conv => lhs; whnf
          refine t_call (h_impl_Move_bring (wr IntKind.i64 (iadd (Prod.fst (Prod.snd r1)) (wr IntKind.i64 (imul (wr IntKind.i64 (iquo (wr IntKind.i64 (isub (irem (wr IntKind.i64 (iadd (irem (Prod.fst r9) (wr IntKind.i64 (isub 0 (Prod.snd r9)))) (wr IntKind.i64 (isub 0 (Prod.snd r9))))) (wr IntKind.i64 (isub 0 (Prod.snd r9)))) (Prod.fst r9))) (wr IntKind.i64 (isub 0 (Prod.snd r9))))) (wr IntKind.i64 (isub 0 (wr IntKind.i64 (iquo (wr IntKind.i64 (isub 0 (Prod.snd r))) (Prod.fst r1))))))))) (wr IntKind.i64 (iadd (Prod.snd (Prod.snd r1)) (wr IntKind.i64 (imul (wr IntKind.i64 (iquo (wr IntKind.i64 (isub (irem (wr IntKind.i64 (iadd (irem (Prod.fst r9) (wr IntKind.i64 (isub 0 (Prod.snd r9)))) (wr IntKind.i64 (isub 0 (Prod.snd r9))))) (wr IntKind.i64 (isub 0 (Prod.snd r9)))) (Prod.fst r9))) (wr IntKind.i64 (isub 0 (Prod.snd r9))))) (wr IntKind.i64 (isub 0 (wr IntKind.i64 (iquo (Prod.fst r) (Prod.fst r1))))))))) (wr IntKind.i64 (isub 0 (wr IntKind.i64 (iquo (wr IntKind.i64 (isub 0 (Prod.snd r))) (Prod.fst r1))))) (wr IntKind.i64 (isub 0 (wr IntKind.i64 (iquo (Prod.fst r) (Prod.fst r1))))) 0 0 (Prod.fst r10) (Prod.snd r10)) fun r11 => ?_
          conv => lhs; whnf
          refine t_cond ?_ ?_
          ·conv => lhs; whnf
           exact hrec2 ((wr IntKind.i64 (iadd v1132 1), lcat w12 ({ x := Prod.fst r11, y := Prod.snd r11 } :: []))) _ _ (by first | rfl | simp only [ml] <;> rfl) (by first | rfl | simp only [ml] <;> rfl)
          ·conv => lhs; whnf
           exact t_none
         ·conv => lhs; whnf
          exact t_ret (by first | rfl | simp only [ml] <;> rfl)
        ·conv => lhs; whnf
         exact t_none
    ·conv => lhs; whnf
     refine t_cond ?_ ?_
     ·conv => lhs; whnf
      exact t_none
     ·conv => lhs; whnf
      refine t_cond ?_ ?_
      ·conv => lhs; whnf
       exact t_none
      ·conv => lhs; whnf
       refine t_cond ?_ ?_
       ·conv => lhs; whnf
        exact t_none
       ·conv => lhs; whnf
        refine t_cond ?_ ?_
        ·conv => lhs; whnf
         refine t_loop (fun (⟨v1133, w13⟩ : Int × (List Pt)) => (AV.lst oa ca 2 (List.map ep a) :: topA 6 (AV.ptr 0 0 0 6 :: topA 3 (AV.own 1 2 none false :: topA 99 (AV.lst oa ca 2 (List.map ep a) :: AV.int IntKind.i64 (ilen (List.map ep a)) :: AV.int IntKind.i64 v1133 :: tops 15))), [Blk.box (AV.agg [AV.int IntKind.i64 (wr IntKind.i64 (iadd (Prod.fst (Prod.snd r1)) (wr IntKind.i64 (imul (wr IntKind.i64 (iquo (wr IntKind.i64 (isub (irem (wr IntKind.i64 (iadd (irem (Prod.fst r9) (Prod.snd r9)) (Prod.snd r9))) (Prod.snd r9)) (Prod.fst r9))) (Prod.snd r9))) (wr IntKind.i64 (iquo (wr IntKind.i64 (isub 0 (Prod.snd r))) (Prod.fst r1))))))), AV.int IntKind.i64 (wr IntKind.i64 (iadd (Prod.snd (Prod.snd r1)) (wr IntKind.i64 (imul (wr IntKind.i64 (iquo (wr IntKind.i64 (isub (irem (wr IntKind.i64 (iadd (irem (Prod.fst r9) (Prod.snd r9)) (Prod.snd r9))) (Prod.snd r9)) (Prod.fst r9))) (Prod.snd r9))) (wr IntKind.i64 (iquo (Prod.fst r) (Prod.fst r1))))))), AV.int IntKind.i64 (wr IntKind.i64 (iquo (wr IntKind.i64 (isub 0 (Prod.snd r))) (Prod.fst r1))), AV.int IntKind.i64 (wr IntKind.i64 (iquo (Prod.fst r) (Prod.fst r1))), AV.int IntKind.i64 0, AV.int IntKind.i64 0]), Blk.rows Mode.live 2 (List.map ep w13)])) (fun m3 (⟨v1133, w13⟩ : Int × (List Pt)) => impl_frame_l3 L a r r1 r9 m3 v1133 w13) (fun _ => rfl) (fun m3 s3 rec3 hrec3 => ?_) L ((0, lrep 0 ({ x := 0, y := 0 }))) ?_ ?_
         rotate_left
         ·first | rfl | simp only [ml] <;> rfl
         ·first | rfl | simp only [ml] <;> rfl
         obtain ⟨v1133, w13⟩ := s3
         show _ = Option.map _ (impl_frame_l3 L a r r1 r9 (m3 + 1) v1133 w13)
         rw [impl_frame_l3.eq_2]
         conv => lhs; whnf
         refine t_cond ?_ ?_
         ·conv => lhs; whnf
          refine t_get (en := ep) (l := a) (by first | rfl | simp only [ml] <;> rfl) fun p12 => ?_
          conv => lhs; whnf
          refine t_get (en := ep) (l := a) (by first | rfl | simp only [ml] <;> rfl) fun p13 => ?_
          conv => lhs; whnf
          refine t_call (h_impl_Peg_less (Pt.x p12) (Pt.y p12) (Pt.x p13) (Pt.y p13)) fun r12 => ?_
          conv => lhs; whnf
          refine t_call (h_impl_Move_bring (wr IntKind.i64 (iadd (Prod.fst (Prod.snd r1)) (wr IntKind.i64 (imul (wr IntKind.i64 (iquo (wr IntKind.i64 (isub (irem (wr IntKind.i64 (iadd (irem (Prod.fst r9) (Prod.snd r9)) (Prod.snd r9))) (Prod.snd r9)) (Prod.fst r9))) (Prod.snd r9))) (wr IntKind.i64 (iquo (wr IntKind.i64 (isub 0 (Prod.snd r))) (Prod.fst r1))))))) (wr IntKind.i64 (iadd (Prod.snd (Prod.snd r1)) (wr IntKind.i64 (imul (wr IntKind.i64 (iquo (wr IntKind.i64 (isub (irem (wr IntKind.i64 (iadd (irem (Prod.fst r9) (Prod.snd r9)) (Prod.snd r9))) (Prod.snd r9)) (Prod.fst r9))) (Prod.snd r9))) (wr IntKind.i64 (iquo (Prod.fst r) (Prod.fst r1))))))) (wr IntKind.i64 (iquo (wr IntKind.i64 (isub 0 (Prod.snd r))) (Prod.fst r1))) (wr IntKind.i64 (iquo (Prod.fst r) (Prod.fst r1))) 0 0 (Prod.fst r12) (Prod.snd r12)) fun r13 => ?_
          conv => lhs; whnf
          refine t_cond ?_ ?_
          ·conv => lhs; whnf
           exact hrec3 ((wr IntKind.i64 (iadd v1133 1), lcat w13 ({ x := Prod.fst r13, y := Prod.snd r13 } :: []))) _ _ (by first | rfl | simp only [ml] <;> rfl) (by first | rfl | simp only [ml] <;> rfl)
          ·conv => lhs; whnf
           exact t_none
         ·conv => lhs; whnf
          exact t_ret (by first | rfl | simp only [ml] <;> rfl)
        ·conv => lhs; whnf
         exact t_none
noncomputable def impl_told_l0 (L : Nat) (a : List Pt) (b : Int) (c : Int) : Nat → Int → (List Pt) → Option ((List Pt))
  | 0, _, _ => none
  | m + 1, v14, w0 => bif ilt v14 (ilen (List.map ep a)) then (gbind (impl_at L a (wr IntKind.i64 (iadd b (wr IntKind.i64 (imul v14 c))))) fun r => bif fits (iadd (ilen (List.map ep w0)) (ilen [AV.agg [AV.int IntKind.i64 (Prod.fst r), AV.int IntKind.i64 (Prod.snd r)]])) 16 then (impl_told_l0 L a b c m (wr IntKind.i64 (iadd v14 1)) (lcat w0 ({ x := Prod.fst r, y := Prod.snd r } :: []))) else (none)) else (some w0)
noncomputable def impl_told (L : Nat) (a : List Pt) (b : Int) (c : Int) : Option ((List Pt)) := bif ile 0 0 && ile 0 (ilen (List.map ep a)) && fits (ilen (List.map ep a)) 16 then (impl_told_l0 L a b c L 0 (lrep 0 ({ x := 0, y := 0 }))) else (none)
def impl_told_ok (L : Nat) (C : CF) : Prop := ∀ (oa : Bool) (ca : Bool) (x_a : List AV) (a : List Pt) (_ : x_a = List.map ep a) (b : Int) (c : Int), C 31 ([.lst oa ca 2 x_a, .int .i64 b, .int .i64 c]) ([]) = Option.map (fun r : (List Pt) => ((.frs 2 (List.map ep r), []) : AV × List Blk)) (impl_told L a b c)
theorem impl_told_run (L : Nat) (C : CF) (h_impl_at : impl_at_ok L C) : ∀ (oa : Bool) (ca : Bool) (x_a : List AV) (a : List Pt) (_ : x_a = List.map ep a) (b : Int) (c : Int), run T C sh (keep 31) L Try.f31 ([.lst oa ca 2 x_a, .int .i64 b, .int .i64 c]) ([]) = Option.map (fun r : (List Pt) => ((.frs 2 (List.map ep r), []) : AV × List Blk)) (impl_told L a b c) := by
 intro oa ca x_a a hx_a b c
 subst hx_a
 unfold impl_told
 conv => lhs; whnf
 refine t_cond ?_ ?_
 ·conv => lhs; whnf
  refine t_loop (fun (⟨v14, w0⟩ : Int × (List Pt)) => (AV.lst oa ca 2 (List.map ep a) :: AV.int IntKind.i64 b :: AV.int IntKind.i64 c :: topA 4 (AV.own 0 2 none false :: topA 5 (AV.int IntKind.i64 (ilen (List.map ep a)) :: AV.int IntKind.i64 v14 :: tops 14)), [Blk.rows Mode.live 2 (List.map ep w0)])) (fun m (⟨v14, w0⟩ : Int × (List Pt)) => impl_told_l0 L a b c m v14 w0) (fun _ => rfl) (fun m s rec hrec => ?_) L ((0, lrep 0 ({ x := 0, y := 0 }))) ?_ ?_
  rotate_left
  ·first | rfl | simp only [ml] <;> rfl
  ·first | rfl | simp only [ml] <;> rfl
  obtain ⟨v14, w0⟩ := s
  show _ = Option.map _ (impl_told_l0 L a b c (m + 1) v14 w0)
  rw [impl_told_l0.eq_2]
  conv => lhs; whnf
  refine t_cond ?_ ?_
  ·conv => lhs; whnf
   refine t_call (h_impl_at _ _ _ a (by first | rfl | simp only [ml] <;> rfl) (wr IntKind.i64 (iadd b (wr IntKind.i64 (imul v14 c))))) fun r => ?_
   conv => lhs; whnf
   refine t_cond ?_ ?_
   ·conv => lhs; whnf
    exact hrec ((wr IntKind.i64 (iadd v14 1), lcat w0 ({ x := Prod.fst r, y := Prod.snd r } :: []))) _ _ (by first | rfl | simp only [ml] <;> rfl) (by first | rfl | simp only [ml] <;> rfl)
   ·conv => lhs; whnf
    exact t_none
  ·conv => lhs; whnf
   exact t_ret (by first | rfl | simp only [ml] <;> rfl)
 ·conv => lhs; whnf
  exact t_none
noncomputable def cmp_isNaN_int (L : Nat) (a : Int) : Option (Bool) := some (!ieq a a)
def cmp_isNaN_int_ok (L : Nat) (C : CF) : Prop := ∀ (a : Int), C 78 ([.int .i64 a]) ([]) = Option.map (fun r : Bool => ((.bool r, []) : AV × List Blk)) (cmp_isNaN_int L a)
theorem cmp_isNaN_int_run (L : Nat) (C : CF) : ∀ (a : Int), run T C sh (keep 78) L Try.f78 ([.int .i64 a]) ([]) = Option.map (fun r : Bool => ((.bool r, []) : AV × List Blk)) (cmp_isNaN_int L a) := by
 intro a
 unfold cmp_isNaN_int
 conv => lhs; whnf
 exact t_ret (by first | rfl | simp only [ml] <;> rfl)
noncomputable def cmp_Compare_int (L : Nat) (a : Int) (b : Int) : Option (Int) := gbind (cmp_isNaN_int L a) fun r => gbind (cmp_isNaN_int L b) fun r1 => bif r then (bif r1 then (some 0) else (some (-1))) else (bif r1 then (some 1) else (bif ilt a b then (some (-1)) else (bif ilt b a then (some 1) else (some 0))))
def cmp_Compare_int_ok (L : Nat) (C : CF) : Prop := ∀ (a : Int) (b : Int), C 75 ([.int .i64 a, .int .i64 b]) ([]) = Option.map (fun r : Int => ((.int .i64 r, []) : AV × List Blk)) (cmp_Compare_int L a b)
theorem cmp_Compare_int_run (L : Nat) (C : CF) (h_cmp_isNaN_int : cmp_isNaN_int_ok L C) : ∀ (a : Int) (b : Int), run T C sh (keep 75) L Try.f75 ([.int .i64 a, .int .i64 b]) ([]) = Option.map (fun r : Int => ((.int .i64 r, []) : AV × List Blk)) (cmp_Compare_int L a b) := by
 intro a b
 unfold cmp_Compare_int
 conv => lhs; whnf
 refine t_call (h_cmp_isNaN_int a) fun r => ?_
 conv => lhs; whnf
 refine t_call (h_cmp_isNaN_int b) fun r1 => ?_
 conv => lhs; whnf
 refine t_cond ?_ ?_
 ·conv => lhs; whnf
  refine t_cond ?_ ?_
  ·conv => lhs; whnf
   exact t_ret (by first | rfl | simp only [ml] <;> rfl)
  ·conv => lhs; whnf
   exact t_ret (by first | rfl | simp only [ml] <;> rfl)
 ·conv => lhs; whnf
  refine t_cond ?_ ?_
  ·conv => lhs; whnf
   exact t_ret (by first | rfl | simp only [ml] <;> rfl)
  ·conv => lhs; whnf
   refine t_cond ?_ ?_
   ·conv => lhs; whnf
    exact t_ret (by first | rfl | simp only [ml] <;> rfl)
   ·conv => lhs; whnf
    refine t_cond ?_ ?_
    ·conv => lhs; whnf
     exact t_ret (by first | rfl | simp only [ml] <;> rfl)
    ·conv => lhs; whnf
     exact t_ret (by first | rfl | simp only [ml] <;> rfl)
noncomputable def cmp_Or_int_l0 (L : Nat) (a : List Int) : Nat → Int → Option Int
  | 0, _ => none
  | m + 1, v8 => bif ilt v8 (ilen (List.map eI a)) then (gbind (lget a v8) fun p => bif !ieq p 0 then (some p) else (cmp_Or_int_l0 L a m (wr IntKind.i64 (iadd v8 1)))) else (some 0)
noncomputable def cmp_Or_int (L : Nat) (a : List Int) : Option (Int) := cmp_Or_int_l0 L a L 0
def cmp_Or_int_ok (L : Nat) (C : CF) : Prop := ∀ (oa : Bool) (ca : Bool) (x_a : List AV) (a : List Int) (_ : x_a = List.map eI a), C 74 ([.lst oa ca 1 x_a]) ([]) = Option.map (fun r : Int => ((.int .i64 r, []) : AV × List Blk)) (cmp_Or_int L a)
theorem cmp_Or_int_run (L : Nat) (C : CF) : ∀ (oa : Bool) (ca : Bool) (x_a : List AV) (a : List Int) (_ : x_a = List.map eI a), run T C sh (keep 74) L Try.f74 ([.lst oa ca 1 x_a]) ([]) = Option.map (fun r : Int => ((.int .i64 r, []) : AV × List Blk)) (cmp_Or_int L a) := by
 intro oa ca x_a a hx_a
 subst hx_a
 unfold cmp_Or_int
 conv => lhs; whnf
 refine t_loop (fun (v8 : Int) => (topA 3 (AV.int IntKind.i64 0 :: topA 2 (AV.lst oa ca 1 (List.map eI a) :: AV.int IntKind.i64 (ilen (List.map eI a)) :: AV.int IntKind.i64 v8 :: tops 9)), [])) (fun m (v8 : Int) => cmp_Or_int_l0 L a m v8) (fun _ => rfl) (fun m v8 rec hrec => ?_) L 0 ?_ ?_
 rotate_left
 ·first | rfl | simp only [ml] <;> rfl
 ·first | rfl | simp only [ml] <;> rfl
 show _ = Option.map _ (cmp_Or_int_l0 L a (m + 1) v8)
 rw [cmp_Or_int_l0.eq_2]
 conv => lhs; whnf
 refine t_cond ?_ ?_
 ·conv => lhs; whnf
  refine t_get (en := eI) (l := a) (by first | rfl | simp only [ml] <;> rfl) fun p => ?_
  conv => lhs; whnf
  refine t_cond ?_ ?_
  ·conv => lhs; whnf
   exact t_ret (by first | rfl | simp only [ml] <;> rfl)
  ·conv => lhs; whnf
   exact hrec (wr IntKind.i64 (iadd v8 1)) _ _ (by first | rfl | simp only [ml] <;> rfl) (by first | rfl | simp only [ml] <;> rfl)
 ·conv => lhs; whnf
  exact t_ret (by first | rfl | simp only [ml] <;> rfl)
noncomputable def impl_comparePegs (L : Nat) (a_0 : Int) (a_1 : Int) (b_0 : Int) (b_1 : Int) : Option (Int) := gbind (cmp_Compare_int L a_0 b_0) fun r => gbind (cmp_Compare_int L a_1 b_1) fun r1 => gbind (cmp_Or_int L (r :: (r1 :: []))) fun r2 => some r2
def impl_comparePegs_ok (L : Nat) (C : CF) : Prop := ∀ (a_0 : Int) (a_1 : Int) (b_0 : Int) (b_1 : Int), C 63 ([.agg [.int .i64 a_0, .int .i64 a_1], .agg [.int .i64 b_0, .int .i64 b_1]]) ([]) = Option.map (fun r : Int => ((.int .i64 r, []) : AV × List Blk)) (impl_comparePegs L a_0 a_1 b_0 b_1)
theorem impl_comparePegs_run (L : Nat) (C : CF) (h_cmp_Compare_int : cmp_Compare_int_ok L C) (h_cmp_Or_int : cmp_Or_int_ok L C) : ∀ (a_0 : Int) (a_1 : Int) (b_0 : Int) (b_1 : Int), run T C sh (keep 63) L Try.f63 ([.agg [.int .i64 a_0, .int .i64 a_1], .agg [.int .i64 b_0, .int .i64 b_1]]) ([]) = Option.map (fun r : Int => ((.int .i64 r, []) : AV × List Blk)) (impl_comparePegs L a_0 a_1 b_0 b_1) := by
 intro a_0 a_1 b_0 b_1
 unfold impl_comparePegs
 conv => lhs; whnf
 refine t_call (h_cmp_Compare_int a_0 b_0) fun r => ?_
 conv => lhs; whnf
 refine t_call (h_cmp_Compare_int a_1 b_1) fun r1 => ?_
 conv => lhs; whnf
 refine t_call (h_cmp_Or_int _ _ _ (r :: (r1 :: [])) (by first | rfl | simp only [ml] <;> rfl)) fun r2 => ?_
 conv => lhs; whnf
 exact t_ret (by first | rfl | simp only [ml] <;> rfl)
noncomputable def slices_CompareFunc_impl_Peg_impl_Peg_impl_Peg_impl_Peg_l0 (L : Nat) (a : List Pt) (b : List Pt) : Nat → Int → Option Int
  | 0, _ => none
  | m + 1, v13 => bif ilt v13 (ilen (List.map ep a)) then (gbind (lget a v13) fun p => bif ile (ilen (List.map ep b)) v13 then (some 1) else (gbind (lget b v13) fun p1 => gbind (impl_comparePegs L (Pt.x p) (Pt.y p) (Pt.x p1) (Pt.y p1)) fun r => bif !ieq r 0 then (some r) else (slices_CompareFunc_impl_Peg_impl_Peg_impl_Peg_impl_Peg_l0 L a b m (wr IntKind.i64 (iadd v13 1))))) else (bif ilt (ilen (List.map ep a)) (ilen (List.map ep b)) then (some (-1)) else (some 0))
noncomputable def slices_CompareFunc_impl_Peg_impl_Peg_impl_Peg_impl_Peg (L : Nat) (a : List Pt) (b : List Pt) : Option (Int) := slices_CompareFunc_impl_Peg_impl_Peg_impl_Peg_impl_Peg_l0 L a b L 0
def slices_CompareFunc_impl_Peg_impl_Peg_impl_Peg_impl_Peg_ok (L : Nat) (C : CF) : Prop := ∀ (o1 : Bool) (c1 : Bool) (x_a : List AV) (a : List Pt) (_ : x_a = List.map ep a) (o2 : Bool) (c2 : Bool) (x_b : List AV) (b : List Pt) (_ : x_b = List.map ep b), C 62 ([.lst o1 c1 2 x_a, .lst o2 c2 2 x_b, .fn 63 [] []]) ([]) = Option.map (fun r : Int => ((.int .i64 r, []) : AV × List Blk)) (slices_CompareFunc_impl_Peg_impl_Peg_impl_Peg_impl_Peg L a b)
theorem slices_CompareFunc_impl_Peg_impl_Peg_impl_Peg_impl_Peg_run (L : Nat) (C : CF) (h_impl_comparePegs : impl_comparePegs_ok L C) : ∀ (o1 : Bool) (c1 : Bool) (x_a : List AV) (a : List Pt) (_ : x_a = List.map ep a) (o2 : Bool) (c2 : Bool) (x_b : List AV) (b : List Pt) (_ : x_b = List.map ep b), run T C sh (keep 62) L Try.f62 ([.lst o1 c1 2 x_a, .lst o2 c2 2 x_b, .fn 63 [] []]) ([]) = Option.map (fun r : Int => ((.int .i64 r, []) : AV × List Blk)) (slices_CompareFunc_impl_Peg_impl_Peg_impl_Peg_impl_Peg L a b) := by
 intro o1 c1 x_a a hx_a o2 c2 x_b b hx_b
 subst hx_a
 subst hx_b
 unfold slices_CompareFunc_impl_Peg_impl_Peg_impl_Peg_impl_Peg
 conv => lhs; whnf
 refine t_loop (fun (v13 : Int) => (AV.lst o1 c1 2 (List.map ep a) :: AV.lst o2 c2 2 (List.map ep b) :: AV.fn 63 [] [] :: topA 8 (AV.lst o1 c1 2 (List.map ep a) :: AV.int IntKind.i64 (ilen (List.map ep a)) :: AV.int IntKind.i64 v13 :: tops 25), [])) (fun m (v13 : Int) => slices_CompareFunc_impl_Peg_impl_Peg_impl_Peg_impl_Peg_l0 L a b m v13) (fun _ => rfl) (fun m v13 rec hrec => ?_) L 0 ?_ ?_
 rotate_left
 ·first | rfl | simp only [ml] <;> rfl
 ·first | rfl | simp only [ml] <;> rfl
 show _ = Option.map _ (slices_CompareFunc_impl_Peg_impl_Peg_impl_Peg_impl_Peg_l0 L a b (m + 1) v13)
 rw [slices_CompareFunc_impl_Peg_impl_Peg_impl_Peg_impl_Peg_l0.eq_2]
 conv => lhs; whnf
 refine t_cond ?_ ?_
 ·conv => lhs; whnf
  refine t_get (en := ep) (l := a) (by first | rfl | simp only [ml] <;> rfl) fun p => ?_
  conv => lhs; whnf
  refine t_cond ?_ ?_
  ·conv => lhs; whnf
   exact t_ret (by first | rfl | simp only [ml] <;> rfl)
  ·conv => lhs; whnf
   refine t_get (en := ep) (l := b) (by first | rfl | simp only [ml] <;> rfl) fun p1 => ?_
   conv => lhs; whnf
   refine t_call (h_impl_comparePegs (Pt.x p) (Pt.y p) (Pt.x p1) (Pt.y p1)) fun r => ?_
   conv => lhs; whnf
   refine t_cond ?_ ?_
   ·conv => lhs; whnf
    exact t_ret (by first | rfl | simp only [ml] <;> rfl)
   ·conv => lhs; whnf
    exact hrec (wr IntKind.i64 (iadd v13 1)) _ _ (by first | rfl | simp only [ml] <;> rfl) (by first | rfl | simp only [ml] <;> rfl)
 ·conv => lhs; whnf
  refine t_cond ?_ ?_
  ·conv => lhs; whnf
   exact t_ret (by first | rfl | simp only [ml] <;> rfl)
  ·conv => lhs; whnf
   exact t_ret (by first | rfl | simp only [ml] <;> rfl)
noncomputable def impl_comparePolygons (L : Nat) (a : List Pt) (b : List Pt) : Option (Int) := gbind (slices_CompareFunc_impl_Peg_impl_Peg_impl_Peg_impl_Peg L a b) fun r => some r
def impl_comparePolygons_ok (L : Nat) (C : CF) : Prop := ∀ (oa : Bool) (ca : Bool) (x_a : List AV) (a : List Pt) (_ : x_a = List.map ep a) (ob : Bool) (cb : Bool) (x_b : List AV) (b : List Pt) (_ : x_b = List.map ep b), C 32 ([.lst oa ca 2 x_a, .lst ob cb 2 x_b]) ([]) = Option.map (fun r : Int => ((.int .i64 r, []) : AV × List Blk)) (impl_comparePolygons L a b)
theorem impl_comparePolygons_run (L : Nat) (C : CF) (h_slices_CompareFunc_impl_Peg_impl_Peg_impl_Peg_impl_Peg : slices_CompareFunc_impl_Peg_impl_Peg_impl_Peg_impl_Peg_ok L C) : ∀ (oa : Bool) (ca : Bool) (x_a : List AV) (a : List Pt) (_ : x_a = List.map ep a) (ob : Bool) (cb : Bool) (x_b : List AV) (b : List Pt) (_ : x_b = List.map ep b), run T C sh (keep 32) L Try.f32 ([.lst oa ca 2 x_a, .lst ob cb 2 x_b]) ([]) = Option.map (fun r : Int => ((.int .i64 r, []) : AV × List Blk)) (impl_comparePolygons L a b) := by
 intro oa ca x_a a hx_a ob cb x_b b hx_b
 subst hx_a
 subst hx_b
 unfold impl_comparePolygons
 conv => lhs; whnf
 refine t_call (h_slices_CompareFunc_impl_Peg_impl_Peg_impl_Peg_impl_Peg _ _ _ a (by first | rfl | simp only [ml] <;> rfl) _ _ _ b (by first | rfl | simp only [ml] <;> rfl)) fun r => ?_
 conv => lhs; whnf
 exact t_ret (by first | rfl | simp only [ml] <;> rfl)
noncomputable def impl_firstFrame_l1 (L : Nat) (κ0 : (List Pt) → Int → Int → (List Pt) → Option ((List Pt))) (v0 : List Pt) (v11 : Int) (v12 : Int) : Nat → Int → (List Pt) → Option ((List Pt))
  | 0, _, _ => none
  | m1 + 1, v17, w01 => bif ilt v17 (ilen [AV.int IntKind.i64 1, AV.int IntKind.i64 (-1)]) then (bif ile 0 v17 && ilt v17 (ilen [AV.int IntKind.i64 1, AV.int IntKind.i64 (-1)]) then (gbind (lget (1 :: (-1 :: [])) v17) fun p => gbind (impl_told L v0 v12 p) fun r1 => gbind (impl_frame L r1) fun r2 => gbind (impl_comparePolygons L r2 w01) fun r3 => bif ilt r3 0 then (impl_firstFrame_l1 L κ0 v0 v11 v12 m1 (wr IntKind.i64 (iadd v17 1)) r2) else (impl_firstFrame_l1 L κ0 v0 v11 v12 m1 (wr IntKind.i64 (iadd v17 1)) w01)) else (none)) else (κ0 v0 v11 (wr IntKind.i64 (iadd v12 1)) w01)
noncomputable def impl_firstFrame_l0 (L : Nat) : Nat → (List Pt) → Int → Int → (List Pt) → Option ((List Pt))
  | 0, _, _, _, _ => none
  | m + 1, v0, v11, v12, w0 => bif ilt v12 v11 then (impl_firstFrame_l1 L (impl_firstFrame_l0 L m) v0 v11 v12 L 0 w0) else (some w0)
noncomputable def impl_firstFrame (L : Nat) (a : List Pt) : Option ((List Pt)) := gbind (impl_frame L a) fun r => impl_firstFrame_l0 L L a (ilen (List.map ep a)) 0 r
def impl_firstFrame_ok (L : Nat) (C : CF) : Prop := ∀ (oa : Bool) (ca : Bool) (x_a : List AV) (a : List Pt) (_ : x_a = List.map ep a), C 15 ([.lst oa ca 2 x_a]) ([]) = Option.map (fun r : (List Pt) => ((.frs 2 (List.map ep r), []) : AV × List Blk)) (impl_firstFrame L a)
theorem impl_firstFrame_run (L : Nat) (C : CF) (h_impl_frame : impl_frame_ok L C) (h_impl_told : impl_told_ok L C) (h_impl_comparePolygons : impl_comparePolygons_ok L C) : ∀ (oa : Bool) (ca : Bool) (x_a : List AV) (a : List Pt) (_ : x_a = List.map ep a), run T C sh (keep 15) L Try.f15 ([.lst oa ca 2 x_a]) ([]) = Option.map (fun r : (List Pt) => ((.frs 2 (List.map ep r), []) : AV × List Blk)) (impl_firstFrame L a) := by
 intro oa ca x_a a hx_a
 subst hx_a
 unfold impl_firstFrame
 conv => lhs; whnf
 refine t_call (h_impl_frame _ _ _ a (by first | rfl | simp only [ml] <;> rfl)) fun r => ?_
 conv => lhs; whnf
 refine t_loop (fun (⟨v0, v11, v12, w0⟩ : (List Pt) × Int × Int × (List Pt)) => (AV.lst oa ca 2 (List.map ep v0) :: topA 2 (AV.own 0 2 none false :: topA 7 (AV.int IntKind.i64 v11 :: AV.int IntKind.i64 v12 :: tops 21)), [Blk.rows Mode.live 2 (List.map ep w0)])) (fun m (⟨v0, v11, v12, w0⟩ : (List Pt) × Int × Int × (List Pt)) => impl_firstFrame_l0 L m v0 v11 v12 w0) (fun _ => rfl) (fun m s rec hrec => ?_) L ((a, ilen (List.map ep a), 0, r)) ?_ ?_
 rotate_left
 ·first | rfl | simp only [ml] <;> rfl
 ·first | rfl | simp only [ml] <;> rfl
 obtain ⟨v0, v11, v12, w0⟩ := s
 show _ = Option.map _ (impl_firstFrame_l0 L (m + 1) v0 v11 v12 w0)
 rw [impl_firstFrame_l0.eq_2]
 conv => lhs; whnf
 refine t_cond ?_ ?_
 ·conv => lhs; whnf
  refine t_loop (fun (⟨v17, w01⟩ : Int × (List Pt)) => (AV.lst oa ca 2 (List.map ep v0) :: topA 2 (AV.own 0 2 none false :: AV.int IntKind.i64 v12 :: topA 6 (AV.int IntKind.i64 v11 :: AV.int IntKind.i64 v12 :: topA 2 (AV.own 1 1 none false :: AV.int IntKind.i64 (ilen [AV.int IntKind.i64 1, AV.int IntKind.i64 (-1)]) :: AV.int IntKind.i64 v17 :: tops 16))), [Blk.rows Mode.live 2 (List.map ep w01), Blk.rows Mode.live 1 [AV.int IntKind.i64 1, AV.int IntKind.i64 (-1)]])) (fun m1 (⟨v17, w01⟩ : Int × (List Pt)) => impl_firstFrame_l1 L (impl_firstFrame_l0 L m) v0 v11 v12 m1 v17 w01) (fun _ => rfl) (fun m1 s1 rec1 hrec1 => ?_) L ((0, w0)) ?_ ?_
  rotate_left
  ·first | rfl | simp only [ml] <;> rfl
  ·first | rfl | simp only [ml] <;> rfl
  obtain ⟨v17, w01⟩ := s1
  show _ = Option.map _ (impl_firstFrame_l1 L (impl_firstFrame_l0 L m) v0 v11 v12 (m1 + 1) v17 w01)
  rw [impl_firstFrame_l1.eq_2]
  conv => lhs; whnf
  refine t_cond ?_ ?_
  ·conv => lhs; whnf
   refine t_cond ?_ ?_
   ·conv => lhs; whnf
    refine t_get (en := eI) (l := 1 :: (-1 :: [])) (by first | rfl | simp only [ml] <;> rfl) fun p => ?_
    conv => lhs; whnf
    refine t_call (h_impl_told _ _ _ v0 (by first | rfl | simp only [ml] <;> rfl) v12 p) fun r1 => ?_
    conv => lhs; whnf
    refine t_call (h_impl_frame _ _ _ r1 (by first | rfl | simp only [ml] <;> rfl)) fun r2 => ?_
    conv => lhs; whnf
    refine t_call (h_impl_comparePolygons _ _ _ r2 (by first | rfl | simp only [ml] <;> rfl) _ _ _ w01 (by first | rfl | simp only [ml] <;> rfl)) fun r3 => ?_
    conv => lhs; whnf
    refine t_cond ?_ ?_
    ·conv => lhs; whnf
     exact hrec1 ((wr IntKind.i64 (iadd v17 1), r2)) _ _ (by first | rfl | simp only [ml] <;> rfl) (by first | rfl | simp only [ml] <;> rfl)
    ·conv => lhs; whnf
     exact hrec1 ((wr IntKind.i64 (iadd v17 1), w01)) _ _ (by first | rfl | simp only [ml] <;> rfl) (by first | rfl | simp only [ml] <;> rfl)
   ·conv => lhs; whnf
    exact t_none
  ·conv => lhs; whnf
   exact hrec ((v0, v11, wr IntKind.i64 (iadd v12 1), w01)) _ _ (by first | rfl | simp only [ml] <;> rfl) (by first | rfl | simp only [ml] <;> rfl)
 ·conv => lhs; whnf
  exact t_ret (by first | rfl | simp only [ml] <;> rfl)
noncomputable def impl_first_l0 (L : Nat) (a : List Pt) : Nat → Int → Int → Option Int
  | 0, _, _ => none
  | m + 1, v3, v8 => bif ilt v8 (ilen (List.map ep a)) then (gbind (lget a v8) fun p => gbind (lget a v3) fun p1 => gbind (impl_comparePegs L (Pt.x p) (Pt.y p) (Pt.x p1) (Pt.y p1)) fun r => bif ilt r 0 then (impl_first_l0 L a m v8 (wr IntKind.i64 (iadd v8 1))) else (impl_first_l0 L a m v3 (wr IntKind.i64 (iadd v8 1)))) else (some v3)
noncomputable def impl_first (L : Nat) (a : List Pt) : Option (Int) := impl_first_l0 L a L 0 0
def impl_first_ok (L : Nat) (C : CF) : Prop := ∀ (oa : Bool) (ca : Bool) (x_a : List AV) (a : List Pt) (_ : x_a = List.map ep a), C 36 ([.lst oa ca 2 x_a]) ([]) = Option.map (fun r : Int => ((.int .i64 r, []) : AV × List Blk)) (impl_first L a)
theorem impl_first_run (L : Nat) (C : CF) (h_impl_comparePegs : impl_comparePegs_ok L C) : ∀ (oa : Bool) (ca : Bool) (x_a : List AV) (a : List Pt) (_ : x_a = List.map ep a), run T C sh (keep 36) L Try.f36 ([.lst oa ca 2 x_a]) ([]) = Option.map (fun r : Int => ((.int .i64 r, []) : AV × List Blk)) (impl_first L a) := by
 intro oa ca x_a a hx_a
 subst hx_a
 unfold impl_first
 conv => lhs; whnf
 refine t_loop (fun (⟨v3, v8⟩ : Int × Int) => (AV.lst oa ca 2 (List.map ep a) :: topA 2 (AV.int IntKind.i64 v3 :: topA 2 (AV.lst oa ca 2 (List.map ep a) :: AV.int IntKind.i64 (ilen (List.map ep a)) :: AV.int IntKind.i64 v8 :: tops 14)), [])) (fun m (⟨v3, v8⟩ : Int × Int) => impl_first_l0 L a m v3 v8) (fun _ => rfl) (fun m s rec hrec => ?_) L ((0, 0)) ?_ ?_
 rotate_left
 ·first | rfl | simp only [ml] <;> rfl
 ·first | rfl | simp only [ml] <;> rfl
 obtain ⟨v3, v8⟩ := s
 show _ = Option.map _ (impl_first_l0 L a (m + 1) v3 v8)
 rw [impl_first_l0.eq_2]
 conv => lhs; whnf
 refine t_cond ?_ ?_
 ·conv => lhs; whnf
  refine t_get (en := ep) (l := a) (by first | rfl | simp only [ml] <;> rfl) fun p => ?_
  conv => lhs; whnf
  refine t_get (en := ep) (l := a) (by first | rfl | simp only [ml] <;> rfl) fun p1 => ?_
  conv => lhs; whnf
  refine t_call (h_impl_comparePegs (Pt.x p) (Pt.y p) (Pt.x p1) (Pt.y p1)) fun r => ?_
  conv => lhs; whnf
  refine t_cond ?_ ?_
  ·conv => lhs; whnf
   exact hrec ((v8, wr IntKind.i64 (iadd v8 1))) _ _ (by first | rfl | simp only [ml] <;> rfl) (by first | rfl | simp only [ml] <;> rfl)
  ·conv => lhs; whnf
   exact hrec ((v3, wr IntKind.i64 (iadd v8 1))) _ _ (by first | rfl | simp only [ml] <;> rfl) (by first | rfl | simp only [ml] <;> rfl)
 ·conv => lhs; whnf
  exact t_ret (by first | rfl | simp only [ml] <;> rfl)
noncomputable def impl_tellFirst (L : Nat) (a : List Pt) : Option ((List Pt)) := gbind (impl_first L a) fun r => gbind (impl_twice L a) fun r1 => gbind (impl_sign L r1) fun r2 => gbind (impl_told L a r r2) fun r3 => some r3
def impl_tellFirst_ok (L : Nat) (C : CF) : Prop := ∀ (oa : Bool) (ca : Bool) (x_a : List AV) (a : List Pt) (_ : x_a = List.map ep a), C 33 ([.lst oa ca 2 x_a]) ([]) = Option.map (fun r : (List Pt) => ((.frs 2 (List.map ep r), []) : AV × List Blk)) (impl_tellFirst L a)
theorem impl_tellFirst_run (L : Nat) (C : CF) (h_impl_sign : impl_sign_ok L C) (h_impl_twice : impl_twice_ok L C) (h_impl_told : impl_told_ok L C) (h_impl_first : impl_first_ok L C) : ∀ (oa : Bool) (ca : Bool) (x_a : List AV) (a : List Pt) (_ : x_a = List.map ep a), run T C sh (keep 33) L Try.f33 ([.lst oa ca 2 x_a]) ([]) = Option.map (fun r : (List Pt) => ((.frs 2 (List.map ep r), []) : AV × List Blk)) (impl_tellFirst L a) := by
 intro oa ca x_a a hx_a
 subst hx_a
 unfold impl_tellFirst
 conv => lhs; whnf
 refine t_call (h_impl_first _ _ _ a (by first | rfl | simp only [ml] <;> rfl)) fun r => ?_
 conv => lhs; whnf
 refine t_call (h_impl_twice _ _ _ a (by first | rfl | simp only [ml] <;> rfl)) fun r1 => ?_
 conv => lhs; whnf
 refine t_call (h_impl_sign r1) fun r2 => ?_
 conv => lhs; whnf
 refine t_call (h_impl_told _ _ _ a (by first | rfl | simp only [ml] <;> rfl) r r2) fun r3 => ?_
 conv => lhs; whnf
 exact t_ret (by first | rfl | simp only [ml] <;> rfl)
noncomputable def impl_dual_l0 (L : Nat) (r : List Pt) : Nat → Int → (List Pt) → Option ((List Pt))
  | 0, _, _ => none
  | m + 1, v13, w1 => bif ilt v13 (ilen (List.map ep r)) then (bif ile 0 v13 && ilt v13 (ilen (List.map ep r)) then (gbind (lget r v13) fun p => gbind (impl_at L r (wr IntKind.i64 (iadd v13 1))) fun r1 => gbind (impl_cross L (Pt.x p) (Pt.y p) (Prod.fst r1) (Prod.snd r1)) fun r2 => bif ieq r2 0 then (none) else (bif ieq r2 0 then (none) else (bif fits (iadd (ilen (List.map ep w1)) (ilen [AV.agg [AV.int IntKind.i64 (wr IntKind.i64 (iquo (wr IntKind.i64 (isub (Prod.snd r1) (Pt.y p))) r2)), AV.int IntKind.i64 (wr IntKind.i64 (iquo (wr IntKind.i64 (isub (Pt.x p) (Prod.fst r1))) r2))]])) 16 then (impl_dual_l0 L r m (wr IntKind.i64 (iadd v13 1)) (lcat w1 ({ x := wr IntKind.i64 (iquo (wr IntKind.i64 (isub (Prod.snd r1) (Pt.y p))) r2), y := wr IntKind.i64 (iquo (wr IntKind.i64 (isub (Pt.x p) (Prod.fst r1))) r2) } :: []))) else (none)))) else (none)) else (gbind (impl_first L w1) fun r3 => gbind (impl_told L w1 r3 1) fun r4 => some r4)
noncomputable def impl_dual (L : Nat) (a : List Pt) : Option ((List Pt)) := gbind (impl_tellFirst L a) fun r => impl_dual_l0 L r L 0 []
def impl_dual_ok (L : Nat) (C : CF) : Prop := ∀ (oa : Bool) (ca : Bool) (x_a : List AV) (a : List Pt) (_ : x_a = List.map ep a), C 16 ([.lst oa ca 2 x_a]) ([]) = Option.map (fun r : (List Pt) => ((.frs 2 (List.map ep r), []) : AV × List Blk)) (impl_dual L a)
theorem impl_dual_run (L : Nat) (C : CF) (h_impl_at : impl_at_ok L C) (h_impl_cross : impl_cross_ok L C) (h_impl_told : impl_told_ok L C) (h_impl_first : impl_first_ok L C) (h_impl_tellFirst : impl_tellFirst_ok L C) : ∀ (oa : Bool) (ca : Bool) (x_a : List AV) (a : List Pt) (_ : x_a = List.map ep a), run T C sh (keep 16) L Try.f16 ([.lst oa ca 2 x_a]) ([]) = Option.map (fun r : (List Pt) => ((.frs 2 (List.map ep r), []) : AV × List Blk)) (impl_dual L a) := by
 intro oa ca x_a a hx_a
 subst hx_a
 unfold impl_dual
 conv => lhs; whnf
 refine t_call (h_impl_tellFirst _ _ _ a (by first | rfl | simp only [ml] <;> rfl)) fun r => ?_
 conv => lhs; whnf
 refine t_loop (fun (⟨v13, w1⟩ : Int × (List Pt)) => (AV.own 0 2 none false :: topA 2 (AV.own 1 2 none false :: topA 7 (AV.own 0 2 none false :: AV.int IntKind.i64 (ilen (List.map ep r)) :: AV.int IntKind.i64 v13 :: tops 34)), [Blk.rows Mode.live 2 (List.map ep r), Blk.rows Mode.live 2 (List.map ep w1)])) (fun m (⟨v13, w1⟩ : Int × (List Pt)) => impl_dual_l0 L r m v13 w1) (fun _ => rfl) (fun m s rec hrec => ?_) L ((0, [])) ?_ ?_
 rotate_left
 ·first | rfl | simp only [ml] <;> rfl
 ·first | rfl | simp only [ml] <;> rfl
 obtain ⟨v13, w1⟩ := s
 show _ = Option.map _ (impl_dual_l0 L r (m + 1) v13 w1)
 rw [impl_dual_l0.eq_2]
 conv => lhs; whnf
 refine t_cond ?_ ?_
 ·conv => lhs; whnf
  refine t_cond ?_ ?_
  ·conv => lhs; whnf
   refine t_get (en := ep) (l := r) (by first | rfl | simp only [ml] <;> rfl) fun p => ?_
   conv => lhs; whnf
   refine t_call (h_impl_at _ _ _ r (by first | rfl | simp only [ml] <;> rfl) (wr IntKind.i64 (iadd v13 1))) fun r1 => ?_
   conv => lhs; whnf
   refine t_call (h_impl_cross (Pt.x p) (Pt.y p) (Prod.fst r1) (Prod.snd r1)) fun r2 => ?_
   conv => lhs; whnf
   refine t_cond ?_ ?_
   ·conv => lhs; whnf
    exact t_none
   ·conv => lhs; whnf
    refine t_cond ?_ ?_
    ·conv => lhs; whnf
     exact t_none
    ·conv => lhs; whnf
     refine t_cond ?_ ?_
     ·conv => lhs; whnf
      exact hrec ((wr IntKind.i64 (iadd v13 1), lcat w1 ({ x := wr IntKind.i64 (iquo (wr IntKind.i64 (isub (Prod.snd r1) (Pt.y p))) r2), y := wr IntKind.i64 (iquo (wr IntKind.i64 (isub (Pt.x p) (Prod.fst r1))) r2) } :: []))) _ _ (by first | rfl | simp only [ml] <;> rfl) (by first | rfl | simp only [ml] <;> rfl)
     ·conv => lhs; whnf
      exact t_none
  ·conv => lhs; whnf
   exact t_none
 ·conv => lhs; whnf
  refine t_call (h_impl_first _ _ _ w1 (by first | rfl | simp only [ml] <;> rfl)) fun r3 => ?_
  conv => lhs; whnf
  refine t_call (h_impl_told _ _ _ w1 (by first | rfl | simp only [ml] <;> rfl) r3 1) fun r4 => ?_
  conv => lhs; whnf
  exact t_ret (by first | rfl | simp only [ml] <;> rfl)
noncomputable def slices_Equal_impl_Peg_impl_Peg_l0 (L : Nat) (a : List Pt) (b : List Pt) : Nat → Int → Option Bool
  | 0, _ => none
  | m + 1, v13 => bif ilt v13 (ilen (List.map ep a)) then (gbind (lget a v13) fun p => gbind (lget b v13) fun p1 => bif !(ieq (Pt.x p) (Pt.x p1) && ieq (Pt.y p) (Pt.y p1)) then (some false) else (slices_Equal_impl_Peg_impl_Peg_l0 L a b m (wr IntKind.i64 (iadd v13 1)))) else (some true)
noncomputable def slices_Equal_impl_Peg_impl_Peg (L : Nat) (a : List Pt) (b : List Pt) : Option (Bool) := bif !ieq (ilen (List.map ep a)) (ilen (List.map ep b)) then (some false) else (slices_Equal_impl_Peg_impl_Peg_l0 L a b L 0)
def slices_Equal_impl_Peg_impl_Peg_ok (L : Nat) (C : CF) : Prop := ∀ (oa : Bool) (ca : Bool) (x_a : List AV) (a : List Pt) (_ : x_a = List.map ep a) (ob : Bool) (cb : Bool) (x_b : List AV) (b : List Pt) (_ : x_b = List.map ep b), C 14 ([.lst oa ca 2 x_a, .lst ob cb 2 x_b]) ([]) = Option.map (fun r : Bool => ((.bool r, []) : AV × List Blk)) (slices_Equal_impl_Peg_impl_Peg L a b)
theorem slices_Equal_impl_Peg_impl_Peg_run (L : Nat) (C : CF) : ∀ (oa : Bool) (ca : Bool) (x_a : List AV) (a : List Pt) (_ : x_a = List.map ep a) (ob : Bool) (cb : Bool) (x_b : List AV) (b : List Pt) (_ : x_b = List.map ep b), run T C sh (keep 14) L Try.f14 ([.lst oa ca 2 x_a, .lst ob cb 2 x_b]) ([]) = Option.map (fun r : Bool => ((.bool r, []) : AV × List Blk)) (slices_Equal_impl_Peg_impl_Peg L a b) := by
 intro oa ca x_a a hx_a ob cb x_b b hx_b
 subst hx_a
 subst hx_b
 unfold slices_Equal_impl_Peg_impl_Peg
 conv => lhs; whnf
 refine t_cond ?_ ?_
 ·conv => lhs; whnf
  exact t_ret (by first | rfl | simp only [ml] <;> rfl)
 ·conv => lhs; whnf
  refine t_loop (fun (v13 : Int) => (AV.lst oa ca 2 (List.map ep a) :: AV.lst ob cb 2 (List.map ep b) :: topA 10 (AV.int IntKind.i64 (ilen (List.map ep a)) :: AV.int IntKind.i64 v13 :: tops 12), [])) (fun m (v13 : Int) => slices_Equal_impl_Peg_impl_Peg_l0 L a b m v13) (fun _ => rfl) (fun m v13 rec hrec => ?_) L 0 ?_ ?_
  rotate_left
  ·first | rfl | simp only [ml] <;> rfl
  ·first | rfl | simp only [ml] <;> rfl
  show _ = Option.map _ (slices_Equal_impl_Peg_impl_Peg_l0 L a b (m + 1) v13)
  rw [slices_Equal_impl_Peg_impl_Peg_l0.eq_2]
  conv => lhs; whnf
  refine t_cond ?_ ?_
  ·conv => lhs; whnf
   refine t_get (en := ep) (l := a) (by first | rfl | simp only [ml] <;> rfl) fun p => ?_
   conv => lhs; whnf
   refine t_get (en := ep) (l := b) (by first | rfl | simp only [ml] <;> rfl) fun p1 => ?_
   conv => lhs; whnf
   refine t_cond ?_ ?_
   ·conv => lhs; whnf
    exact t_ret (by first | rfl | simp only [ml] <;> rfl)
   ·conv => lhs; whnf
    exact hrec (wr IntKind.i64 (iadd v13 1)) _ _ (by first | rfl | simp only [ml] <;> rfl) (by first | rfl | simp only [ml] <;> rfl)
  ·conv => lhs; whnf
   exact t_ret (by first | rfl | simp only [ml] <;> rfl)
noncomputable def impl_IsOwnDual (L : Nat) (a : List Pt) : Option (Bool × Bool) := gbind (impl_isDualist L a) fun r => bif !r then (some ((false, false))) else (gbind (impl_firstFrame L a) fun r1 => gbind (impl_dual L a) fun r2 => gbind (impl_firstFrame L r2) fun r3 => gbind (slices_Equal_impl_Peg_impl_Peg L r1 r3) fun r4 => some ((r4, true)))
def impl_IsOwnDual_ok (L : Nat) (C : CF) : Prop := ∀ (oa : Bool) (ca : Bool) (x_a : List AV) (a : List Pt) (_ : x_a = List.map ep a), C 7 ([.lst oa ca 2 x_a]) ([]) = Option.map (fun r : Bool × Bool => ((.tup [.bool (r.1), .bool (r.2)], []) : AV × List Blk)) (impl_IsOwnDual L a)
theorem impl_IsOwnDual_run (L : Nat) (C : CF) (h_impl_isDualist : impl_isDualist_ok L C) (h_impl_firstFrame : impl_firstFrame_ok L C) (h_impl_dual : impl_dual_ok L C) (h_slices_Equal_impl_Peg_impl_Peg : slices_Equal_impl_Peg_impl_Peg_ok L C) : ∀ (oa : Bool) (ca : Bool) (x_a : List AV) (a : List Pt) (_ : x_a = List.map ep a), run T C sh (keep 7) L Try.f7 ([.lst oa ca 2 x_a]) ([]) = Option.map (fun r : Bool × Bool => ((.tup [.bool (r.1), .bool (r.2)], []) : AV × List Blk)) (impl_IsOwnDual L a) := by
 intro oa ca x_a a hx_a
 subst hx_a
 unfold impl_IsOwnDual
 conv => lhs; whnf
 refine t_call (h_impl_isDualist _ _ _ a (by first | rfl | simp only [ml] <;> rfl)) fun r => ?_
 conv => lhs; whnf
 refine t_cond ?_ ?_
 ·conv => lhs; whnf
  exact t_ret (by first | rfl | simp only [ml] <;> rfl)
 ·conv => lhs; whnf
  refine t_call (h_impl_firstFrame _ _ _ a (by first | rfl | simp only [ml] <;> rfl)) fun r1 => ?_
  conv => lhs; whnf
  refine t_call (h_impl_dual _ _ _ a (by first | rfl | simp only [ml] <;> rfl)) fun r2 => ?_
  conv => lhs; whnf
  refine t_call (h_impl_firstFrame _ _ _ r2 (by first | rfl | simp only [ml] <;> rfl)) fun r3 => ?_
  conv => lhs; whnf
  refine t_call (h_slices_Equal_impl_Peg_impl_Peg _ _ _ r1 (by first | rfl | simp only [ml] <;> rfl) _ _ _ r3 (by first | rfl | simp only [ml] <;> rfl)) fun r4 => ?_
  conv => lhs; whnf
  exact t_ret (by first | rfl | simp only [ml] <;> rfl)
noncomputable def laws_eqPeg (L : Nat) (a_0 : Int) (a_1 : Int) (b_0 : Int) (b_1 : Int) : Option (Bool) := bif !ieq a_0 b_0 then (some false) else (bif !ieq a_1 b_1 then (some false) else (some true))
def laws_eqPeg_ok (L : Nat) (C : CF) : Prop := ∀ (a_0 : Int) (a_1 : Int) (b_0 : Int) (b_1 : Int), C 17 ([.agg [.int .i64 a_0, .int .i64 a_1], .agg [.int .i64 b_0, .int .i64 b_1]]) ([]) = Option.map (fun r : Bool => ((.bool r, []) : AV × List Blk)) (laws_eqPeg L a_0 a_1 b_0 b_1)
theorem laws_eqPeg_run (L : Nat) (C : CF) : ∀ (a_0 : Int) (a_1 : Int) (b_0 : Int) (b_1 : Int), run T C sh (keep 17) L Try.f17 ([.agg [.int .i64 a_0, .int .i64 a_1], .agg [.int .i64 b_0, .int .i64 b_1]]) ([]) = Option.map (fun r : Bool => ((.bool r, []) : AV × List Blk)) (laws_eqPeg L a_0 a_1 b_0 b_1) := by
 intro a_0 a_1 b_0 b_1
 unfold laws_eqPeg
 conv => lhs; whnf
 refine t_cond ?_ ?_
 ·conv => lhs; whnf
  exact t_ret (by first | rfl | simp only [ml] <;> rfl)
 ·conv => lhs; whnf
  refine t_cond ?_ ?_
  ·conv => lhs; whnf
   exact t_ret (by first | rfl | simp only [ml] <;> rfl)
  ·conv => lhs; whnf
   exact t_ret (by first | rfl | simp only [ml] <;> rfl)
noncomputable def laws_eqPegS_l0 (L : Nat) (a : List Pt) (b : List Pt) : Nat → Int → Option Bool
  | 0, _ => none
  | m + 1, v5 => bif ilt v5 (ilen (List.map ep a)) then (gbind (lget a v5) fun p => gbind (lget b v5) fun p1 => gbind (laws_eqPeg L (Pt.x p) (Pt.y p) (Pt.x p1) (Pt.y p1)) fun r => bif !r then (some false) else (laws_eqPegS_l0 L a b m (wr IntKind.i64 (iadd v5 1)))) else (some true)
noncomputable def laws_eqPegS (L : Nat) (a : List Pt) (b : List Pt) : Option (Bool) := bif !ieq (ilen (List.map ep a)) (ilen (List.map ep b)) then (some false) else (laws_eqPegS_l0 L a b L 0)
def laws_eqPegS_ok (L : Nat) (C : CF) : Prop := ∀ (oa : Bool) (ca : Bool) (x_a : List AV) (a : List Pt) (_ : x_a = List.map ep a) (ob : Bool) (cb : Bool) (x_b : List AV) (b : List Pt) (_ : x_b = List.map ep b), C 8 ([.lst oa ca 2 x_a, .lst ob cb 2 x_b]) ([]) = Option.map (fun r : Bool => ((.bool r, []) : AV × List Blk)) (laws_eqPegS L a b)
theorem laws_eqPegS_run (L : Nat) (C : CF) (h_laws_eqPeg : laws_eqPeg_ok L C) : ∀ (oa : Bool) (ca : Bool) (x_a : List AV) (a : List Pt) (_ : x_a = List.map ep a) (ob : Bool) (cb : Bool) (x_b : List AV) (b : List Pt) (_ : x_b = List.map ep b), run T C sh (keep 8) L Try.f8 ([.lst oa ca 2 x_a, .lst ob cb 2 x_b]) ([]) = Option.map (fun r : Bool => ((.bool r, []) : AV × List Blk)) (laws_eqPegS L a b) := by
 intro oa ca x_a a hx_a ob cb x_b b hx_b
 subst hx_a
 subst hx_b
 unfold laws_eqPegS
 conv => lhs; whnf
 refine t_cond ?_ ?_
 ·conv => lhs; whnf
  exact t_ret (by first | rfl | simp only [ml] <;> rfl)
 ·conv => lhs; whnf
  refine t_loop (fun (v5 : Int) => (AV.lst oa ca 2 (List.map ep a) :: AV.lst ob cb 2 (List.map ep b) :: topA 3 (AV.int IntKind.i64 v5 :: tops 21), [])) (fun m (v5 : Int) => laws_eqPegS_l0 L a b m v5) (fun _ => rfl) (fun m v5 rec hrec => ?_) L 0 ?_ ?_
  rotate_left
  ·first | rfl | simp only [ml] <;> rfl
  ·first | rfl | simp only [ml] <;> rfl
  show _ = Option.map _ (laws_eqPegS_l0 L a b (m + 1) v5)
  rw [laws_eqPegS_l0.eq_2]
  conv => lhs; whnf
  refine t_cond ?_ ?_
  ·conv => lhs; whnf
   refine t_get (en := ep) (l := a) (by first | rfl | simp only [ml] <;> rfl) fun p => ?_
   conv => lhs; whnf
   refine t_get (en := ep) (l := b) (by first | rfl | simp only [ml] <;> rfl) fun p1 => ?_
   conv => lhs; whnf
   refine t_call (h_laws_eqPeg (Pt.x p) (Pt.y p) (Pt.x p1) (Pt.y p1)) fun r => ?_
   conv => lhs; whnf
   refine t_cond ?_ ?_
   ·conv => lhs; whnf
    exact t_ret (by first | rfl | simp only [ml] <;> rfl)
   ·conv => lhs; whnf
    exact hrec (wr IntKind.i64 (iadd v5 1)) _ _ (by first | rfl | simp only [ml] <;> rfl) (by first | rfl | simp only [ml] <;> rfl)
  ·conv => lhs; whnf
   exact t_ret (by first | rfl | simp only [ml] <;> rfl)
noncomputable def laws_FnExactIsOwnDual (L : Nat) (a : List Pt) : Option (Bool) := gbind (laws_szPegS L a 1048576) fun r => bif ilt r 0 then (some true) else (gbind (laws_toPegS L a) fun r1 => gbind (spec_IsOwnDual L r1) fun r2 => gbind (laws_toPegS L a) fun r3 => gbind (impl_IsOwnDual L r3) fun r4 => bif !beqb (Prod.fst r4) (Prod.fst r2) then (some false) else (bif !beqb (Prod.snd r4) (Prod.snd r2) then (some false) else (gbind (laws_toPegS L a) fun r5 => gbind (laws_eqPegS L r3 r5) fun r6 => bif !r6 then (some false) else (some true))))
def laws_FnExactIsOwnDual_ok (L : Nat) (C : CF) : Prop := ∀ (oa : Bool) (ca : Bool) (x_a : List AV) (a : List Pt) (_ : x_a = List.map ep a), C 3 ([.lst oa ca 2 x_a]) ([]) = Option.map (fun r : Bool => ((.bool r, []) : AV × List Blk)) (laws_FnExactIsOwnDual L a)
theorem laws_FnExactIsOwnDual_run (L : Nat) (C : CF) (h_laws_szPegS : laws_szPegS_ok L C) (h_laws_toPegS : laws_toPegS_ok L C) (h_spec_IsOwnDual : spec_IsOwnDual_ok L C) (h_impl_IsOwnDual : impl_IsOwnDual_ok L C) (h_laws_eqPegS : laws_eqPegS_ok L C) : ∀ (oa : Bool) (ca : Bool) (x_a : List AV) (a : List Pt) (_ : x_a = List.map ep a), run T C sh (keep 3) L Try.f3 ([.lst oa ca 2 x_a]) ([]) = Option.map (fun r : Bool => ((.bool r, []) : AV × List Blk)) (laws_FnExactIsOwnDual L a) := by
 intro oa ca x_a a hx_a
 subst hx_a
 unfold laws_FnExactIsOwnDual
 conv => lhs; whnf
 refine t_call (h_laws_szPegS _ _ _ a (by first | rfl | simp only [ml] <;> rfl) 1048576) fun r => ?_
 conv => lhs; whnf
 refine t_cond ?_ ?_
 ·conv => lhs; whnf
  exact t_ret (by first | rfl | simp only [ml] <;> rfl)
 ·conv => lhs; whnf
  refine t_call (h_laws_toPegS _ _ _ a (by first | rfl | simp only [ml] <;> rfl)) fun r1 => ?_
  conv => lhs; whnf
  refine t_call (h_spec_IsOwnDual _ _ _ r1 (by first | rfl | simp only [ml] <;> rfl)) fun r2 => ?_
  conv => lhs; whnf
  refine t_call (h_laws_toPegS _ _ _ a (by first | rfl | simp only [ml] <;> rfl)) fun r3 => ?_
  conv => lhs; whnf
  refine t_call (h_impl_IsOwnDual _ _ _ r3 (by first | rfl | simp only [ml] <;> rfl)) fun r4 => ?_
  conv => lhs; whnf
  refine t_cond ?_ ?_
  ·conv => lhs; whnf
   exact t_ret (by first | rfl | simp only [ml] <;> rfl)
  ·conv => lhs; whnf
   refine t_cond ?_ ?_
   ·conv => lhs; whnf
    exact t_ret (by first | rfl | simp only [ml] <;> rfl)
   ·conv => lhs; whnf
    refine t_call (h_laws_toPegS _ _ _ a (by first | rfl | simp only [ml] <;> rfl)) fun r5 => ?_
    conv => lhs; whnf
    refine t_call (h_laws_eqPegS _ _ _ r3 (by first | rfl | simp only [ml] <;> rfl) _ _ _ r5 (by first | rfl | simp only [ml] <;> rfl)) fun r6 => ?_
    conv => lhs; whnf
    refine t_cond ?_ ?_
    ·conv => lhs; whnf
     exact t_ret (by first | rfl | simp only [ml] <;> rfl)
    ·conv => lhs; whnf
     exact t_ret (by first | rfl | simp only [ml] <;> rfl)
end Go.AM
