import Derived.Test.YtkpegcamiholbaaGreatAmP0
set_option linter.unusedVariables false
set_option linter.unusedSimpArgs false
set_option linter.unnecessarySimpa false
set_option linter.deprecated false
set_option linter.unusedSectionVars false
open Go Go.AM Go.Proofs
namespace Go.AM
set_option maxRecDepth 400000
set_option maxHeartbeats 40000000
noncomputable def laws_FnBandsAround_l11 (L : Nat) (r14 : List Pt × List Pt) (r15 : List Pt × Bool) : Nat → Int → Option Bool
  | 0, _ => none
  | m + 1, v552 => bif ilt v552 (ilen (List.map ep (Prod.fst r14))) then (bif ile 0 v552 && ilt v552 (ilen (List.map ep (Prod.fst r14))) then (gbind (lget (Prod.fst r14) v552) fun p => gbind (impl_InBand L (Prod.fst r15) (Pt.x p) (Pt.y p)) fun r25 => bif !Prod.snd r25 then (some false) else (bif !Prod.fst r25 then (some false) else (laws_FnBandsAround_l11 L r14 r15 m (wr IntKind.i64 (iadd v552 1))))) else (none)) else (some true)
noncomputable def laws_FnBandsAround_j10 (L : Nat) (r14 : List Pt × List Pt) (r15 : List Pt × Bool) (r21 : Int × Bool) (r22 : Int × Bool) (v529 : Bool) : Option Bool := bif v529 then (some false) else (bif !ieq (Prod.fst r21) (Prod.fst r22) then (some false) else (bif Prod.snd r15 then (gbind (impl_JoinBands L (Prod.snd r14) (Prod.fst r14)) fun r23 => bif !Prod.snd r23 then (some false) else (gbind (laws_ePegs L (Prod.fst r23) (Prod.fst r15)) fun r24 => bif !r24 then (some false) else (laws_FnBandsAround_l11 L r14 r15 L 0))) else (some true)))
noncomputable def laws_FnBandsAround_j9 (L : Nat) (r14 : List Pt × List Pt) (r15 : List Pt × Bool) (r18 : Bool × Bool) (r19 : Bool × Bool) (r21 : Int × Bool) (r22 : Int × Bool) (v519 : Bool) : Option Bool := bif v519 then (laws_FnBandsAround_j10 L r14 r15 r21 r22 true) else (bif !beqb (Prod.fst r18) (Prod.fst r19) then (laws_FnBandsAround_j10 L r14 r15 r21 r22 true) else (laws_FnBandsAround_j10 L r14 r15 r21 r22 (!beqb (Prod.snd r21) (Prod.snd r22))))
noncomputable def laws_FnBandsAround_j8 (L : Nat) (v1 : List Int) : Option Bool := gbind (spec_DrawJoinBands L v1) fun r14 => gbind (impl_JoinBands L (Prod.fst r14) (Prod.snd r14)) fun r15 => gbind (spec_JoinBands L (Prod.fst r14) (Prod.snd r14)) fun r16 => gbind (spec_DrawInBand L v1) fun r17 => gbind (impl_InBand L (Prod.fst r17) (Prod.fst (Prod.snd r17)) (Prod.snd (Prod.snd r17))) fun r18 => gbind (spec_InBand L (Prod.fst r17) (Prod.fst (Prod.snd r17)) (Prod.snd (Prod.snd r17))) fun r19 => gbind (spec_DrawLayerOfPeg L v1) fun r20 => gbind (impl_LayerOfPeg L (Prod.fst r20) (Prod.fst (Prod.snd r20)) (Prod.snd (Prod.snd r20))) fun r21 => gbind (spec_LayerOfPeg L (Prod.fst r20) (Prod.fst (Prod.snd r20)) (Prod.snd (Prod.snd r20))) fun r22 => bif !beqb (Prod.snd r15) (Prod.snd r16) then (laws_FnBandsAround_j9 L r14 r15 r18 r19 r21 r22 true) else (gbind (laws_ePegs L (Prod.fst r15) (Prod.fst r16)) fun r26 => bif !r26 then (laws_FnBandsAround_j9 L r14 r15 r18 r19 r21 r22 true) else (laws_FnBandsAround_j9 L r14 r15 r18 r19 r21 r22 (!beqb (Prod.snd r18) (Prod.snd r19))))
noncomputable def laws_FnBandsAround_l17 (L : Nat) (κ2 : (List Int) → Int → Int → Int → Int → Int → Int → (List Pt) → (List Pt) → (List Pt) → (List (List Pt)) → Option Bool) (v11 : List Int) (v18 : Int) (v22 : Int) (v30 : Int) (v39 : Int) (v353 : Int) (v354 : Int) (w0 : List Pt) (w1 : List Pt) (w2 : List Pt) (w3 : List (List Pt)) (p6 : List Pt) : Nat → Int → Option Bool
  | 0, _ => none
  | m4 + 1, v365 => bif ilt v365 (ilen (List.map ep p6)) then (gbind (lget p6 v365) fun p7 => gbind (impl_LayerOfPeg L w0 (Pt.x p7) (Pt.y p7)) fun r33 => bif !Prod.snd r33 then (some false) else (bif !ieq (Prod.fst r33) (wr IntKind.i64 (iadd v354 1)) then (some false) else (bif ilt 0 v365 then (gbind (lget p6 (wr IntKind.i64 (isub v365 1))) fun p8 => gbind (laws_eLess L (Pt.x p8) (Pt.y p8) (Pt.x p7) (Pt.y p7)) fun r34 => bif !r34 then (some false) else (laws_FnBandsAround_l17 L κ2 v11 v18 v22 v30 v39 v353 v354 w0 w1 w2 w3 p6 m4 (wr IntKind.i64 (iadd v365 1)))) else (laws_FnBandsAround_l17 L κ2 v11 v18 v22 v30 v39 v353 v354 w0 w1 w2 w3 p6 m4 (wr IntKind.i64 (iadd v365 1)))))) else (κ2 v11 v18 v22 v30 (wr IntKind.i64 (iadd v39 (ilen (List.map ep p6)))) v353 (wr IntKind.i64 (iadd v354 1)) w0 w1 w2 w3)
noncomputable def laws_FnBandsAround_j18 (L : Nat) (v11 : List Int) (v22 : Int) (r37 : Int × Bool) (r38 : Int × Bool) (v443 : Bool) : Option Bool := bif v443 then (some false) else (bif !Prod.snd r38 then (some false) else (bif !ieq (wr IntKind.i64 (iadd (Prod.fst r37) (Prod.fst r38))) v22 then (some false) else (laws_FnBandsAround_j8 L v11)))
noncomputable def laws_FnBandsAround_l16 (L : Nat) : Nat → (List Int) → Int → Int → Int → Int → Int → Int → (List Pt) → (List Pt) → (List Pt) → (List (List Pt)) → Option Bool
  | 0, _, _, _, _, _, _, _, _, _, _, _ => none
  | m3 + 1, v11, v18, v22, v30, v39, v353, v354, w0, w1, w2, w3 => bif ilt v354 v353 then (bif ile 0 v354 && ilt v354 (ilen (List.map eLP w3)) then (gbind (lget w3 v354) fun p6 => laws_FnBandsAround_l17 L (laws_FnBandsAround_l16 L m3) v11 v18 v22 v30 v39 v353 v354 w0 w1 w2 w3 p6 L 0) else (none)) else (bif !ieq v39 (ilen (List.map ep w0)) then (some false) else (bif ile 0 0 && ilt 0 (ilen (List.map eLP w3)) then (gbind (lget w3 0) fun p9 => gbind (laws_ePegs L p9 w2) fun r35 => bif !r35 then (some false) else (bif ilt 2 v30 then (bif ile v30 10 then (gbind (impl_TwiceArea L w1) fun r36 => gbind (impl_PegsOn L w1) fun r37 => gbind (impl_PegsInside L w1) fun r38 => bif !Prod.snd r36 then (laws_FnBandsAround_j18 L v11 v22 r37 r38 true) else (bif !ieq (Prod.fst r36) v18 then (laws_FnBandsAround_j18 L v11 v22 r37 r38 true) else (laws_FnBandsAround_j18 L v11 v22 r37 r38 (!Prod.snd r37)))) else (laws_FnBandsAround_j8 L v11)) else (laws_FnBandsAround_j8 L v11))) else (none)))
noncomputable def laws_FnBandsAround_l15 (L : Nat) (b : List Int) (r1 : List Pt) (r2 : List Pt × Bool) (r4 : List Pt × Bool) (r6 : List (List Pt) × Bool) (r8 : Int × Bool) (r10 : Int × Bool) : Nat → Int → Option Bool
  | 0, _ => none
  | m2 + 1, v335 => bif ilt v335 (ilen (List.map ep r1)) then (bif ile 0 v335 && ilt v335 (ilen (List.map ep r1)) then (gbind (lget r1 v335) fun p5 => gbind (impl_InBand L r1 (Pt.x p5) (Pt.y p5)) fun r32 => bif !Prod.snd r32 then (some false) else (bif !Prod.fst r32 then (some false) else (laws_FnBandsAround_l15 L b r1 r2 r4 r6 r8 r10 m2 (wr IntKind.i64 (iadd v335 1))))) else (none)) else (laws_FnBandsAround_l16 L L b (Prod.fst r8) (Prod.fst r10) (ilen (List.map ep (Prod.fst r2))) 0 (ilen (List.map eLP (Prod.fst r6))) 0 r1 (Prod.fst r2) (Prod.fst r4) (Prod.fst r6))
noncomputable def laws_FnBandsAround_l14 (L : Nat) (b : List Int) (r1 : List Pt) (r2 : List Pt × Bool) (r4 : List Pt × Bool) (r6 : List (List Pt) × Bool) (r8 : Int × Bool) (r10 : Int × Bool) : Nat → Int → Option Bool
  | 0, _ => none
  | m1 + 1, v287 => bif ilt v287 (ilen (List.map ep (Prod.fst r2))) then (bif ile 0 v287 && ilt v287 (ilen (List.map ep (Prod.fst r2))) then (gbind (lget (Prod.fst r2) v287) fun p1 => gbind (laws_eIn L r1 (Pt.x p1) (Pt.y p1)) fun r28 => bif !r28 then (some false) else (gbind (laws_eIn L (Prod.fst r4) (Pt.x p1) (Pt.y p1)) fun r29 => bif !r29 then (some false) else (bif ile 0 0 && ilt 0 (ilen (List.map ep (Prod.fst r2))) then (gbind (lget (Prod.fst r2) 0) fun p2 => gbind (laws_eLess L (Pt.x p1) (Pt.y p1) (Pt.x p2) (Pt.y p2)) fun r30 => bif r30 then (some false) else (bif ilt 2 (ilen (List.map ep (Prod.fst r2))) then (bif ieq (ilen (List.map ep (Prod.fst r2))) 0 then (none) else (bif ile 0 (irem (wr IntKind.i64 (iadd v287 1)) (ilen (List.map ep (Prod.fst r2)))) && ilt (irem (wr IntKind.i64 (iadd v287 1)) (ilen (List.map ep (Prod.fst r2)))) (ilen (List.map ep (Prod.fst r2))) then (gbind (lget (Prod.fst r2) (irem (wr IntKind.i64 (iadd v287 1)) (ilen (List.map ep (Prod.fst r2))))) fun p3 => bif ieq (ilen (List.map ep (Prod.fst r2))) 0 then (none) else (bif ile 0 (irem (wr IntKind.i64 (iadd v287 2)) (ilen (List.map ep (Prod.fst r2)))) && ilt (irem (wr IntKind.i64 (iadd v287 2)) (ilen (List.map ep (Prod.fst r2)))) (ilen (List.map ep (Prod.fst r2))) then (gbind (lget (Prod.fst r2) (irem (wr IntKind.i64 (iadd v287 2)) (ilen (List.map ep (Prod.fst r2))))) fun p4 => gbind (laws_eTurn L (Pt.x p1) (Pt.y p1) (Pt.x p3) (Pt.y p3) (Pt.x p4) (Pt.y p4)) fun r31 => bif ile r31 0 then (some false) else (laws_FnBandsAround_l14 L b r1 r2 r4 r6 r8 r10 m1 (wr IntKind.i64 (iadd v287 1)))) else (none))) else (none))) else (laws_FnBandsAround_l14 L b r1 r2 r4 r6 r8 r10 m1 (wr IntKind.i64 (iadd v287 1))))) else (none)))) else (none)) else (laws_FnBandsAround_l15 L b r1 r2 r4 r6 r8 r10 L 0)
noncomputable def laws_FnBandsAround_j13 (L : Nat) (b : List Int) (r1 : List Pt) (r2 : List Pt × Bool) (r4 : List Pt × Bool) (r6 : List (List Pt) × Bool) (r8 : Int × Bool) (r10 : Int × Bool) (v273 : Bool) : Option Bool := bif v273 then (some false) else (bif !beqb (ilt 0 (Prod.fst r8)) (ilt 2 (ilen (List.map ep (Prod.fst r2)))) then (some false) else (bif ilt (Prod.fst r8) 0 then (some false) else (laws_FnBandsAround_l14 L b r1 r2 r4 r6 r8 r10 L 0)))
noncomputable def laws_FnBandsAround_j12 (L : Nat) (b : List Int) (r1 : List Pt) (r2 : List Pt × Bool) (r4 : List Pt × Bool) (r6 : List (List Pt) × Bool) (r8 : Int × Bool) (r10 : Int × Bool) (r12 : Bool × Bool) (v259 : Bool) : Option Bool := bif v259 then (laws_FnBandsAround_j13 L b r1 r2 r4 r6 r8 r10 true) else (bif !beqb (Prod.fst r12) (ieq (ilen (List.map ep (Prod.fst r2))) (ilen (List.map ep r1))) then (laws_FnBandsAround_j13 L b r1 r2 r4 r6 r8 r10 true) else (laws_FnBandsAround_j13 L b r1 r2 r4 r6 r8 r10 (ilt (Prod.fst r10) (ilen (List.map ep r1)))))
noncomputable def laws_FnBandsAround_j7 (L : Nat) (b : List Int) (r1 : List Pt) (r2 : List Pt × Bool) (r4 : List Pt × Bool) (r6 : List (List Pt) × Bool) (r8 : Int × Bool) (r10 : Int × Bool) (r12 : Bool × Bool) (v229 : Bool) : Option Bool := bif v229 then (some false) else (bif !beqb (Prod.snd r10) (Prod.snd r2) then (some false) else (bif !beqb (Prod.snd r12) (Prod.snd r2) then (some false) else (bif Prod.snd r2 then (gbind (impl_BandOf L (Prod.fst r2)) fun r27 => bif ilt (ilen (List.map ep (Prod.fst r2))) 1 then (laws_FnBandsAround_j12 L b r1 r2 r4 r6 r8 r10 r12 true) else (bif !Prod.snd r27 then (laws_FnBandsAround_j12 L b r1 r2 r4 r6 r8 r10 r12 true) else (gbind (laws_ePegs L (Prod.fst r27) (Prod.fst r2)) fun r39 => laws_FnBandsAround_j12 L b r1 r2 r4 r6 r8 r10 r12 (!r39)))) else (laws_FnBandsAround_j8 L b))))
noncomputable def laws_FnBandsAround_j6 (L : Nat) (b : List Int) (r1 : List Pt) (r2 : List Pt × Bool) (r4 : List Pt × Bool) (r6 : List (List Pt) × Bool) (r8 : Int × Bool) (r10 : Int × Bool) (r12 : Bool × Bool) (v219 : Bool) : Option Bool := bif v219 then (laws_FnBandsAround_j7 L b r1 r2 r4 r6 r8 r10 r12 true) else (bif !beqb (Prod.snd r6) (Prod.snd r2) then (laws_FnBandsAround_j7 L b r1 r2 r4 r6 r8 r10 r12 true) else (laws_FnBandsAround_j7 L b r1 r2 r4 r6 r8 r10 r12 (!beqb (Prod.snd r8) (Prod.snd r2))))
noncomputable def laws_FnBandsAround_j5 (L : Nat) (b : List Int) (r1 : List Pt) (r2 : List Pt × Bool) (r4 : List Pt × Bool) (r6 : List (List Pt) × Bool) (r8 : Int × Bool) (r10 : Int × Bool) (r12 : Bool × Bool) (v207 : Bool) : Option Bool := bif v207 then (laws_FnBandsAround_j6 L b r1 r2 r4 r6 r8 r10 r12 true) else (gbind (impl_AreDifferent L r1) fun r40 => gbind (spec_AreDifferent L r1) fun r41 => bif !beqb r40 r41 then (laws_FnBandsAround_j6 L b r1 r2 r4 r6 r8 r10 r12 true) else (laws_FnBandsAround_j6 L b r1 r2 r4 r6 r8 r10 r12 (!beqb (Prod.snd r4) (Prod.snd r2))))
noncomputable def laws_FnBandsAround_j4 (L : Nat) (b : List Int) (r1 : List Pt) (r2 : List Pt × Bool) (r4 : List Pt × Bool) (r6 : List (List Pt) × Bool) (r8 : Int × Bool) (r10 : Int × Bool) (r12 : Bool × Bool) (r13 : Bool × Bool) (v196 : Bool) : Option Bool := bif v196 then (laws_FnBandsAround_j5 L b r1 r2 r4 r6 r8 r10 r12 true) else (bif !beqb (Prod.fst r12) (Prod.fst r13) then (laws_FnBandsAround_j5 L b r1 r2 r4 r6 r8 r10 r12 true) else (gbind (impl_AreDifferent L r1) fun r42 => laws_FnBandsAround_j5 L b r1 r2 r4 r6 r8 r10 r12 (!beqb (Prod.snd r2) r42)))
noncomputable def laws_FnBandsAround_j3 (L : Nat) (b : List Int) (r1 : List Pt) (r2 : List Pt × Bool) (r4 : List Pt × Bool) (r6 : List (List Pt) × Bool) (r8 : Int × Bool) (r10 : Int × Bool) (r11 : Int × Bool) (r12 : Bool × Bool) (r13 : Bool × Bool) (v186 : Bool) : Option Bool := bif v186 then (laws_FnBandsAround_j4 L b r1 r2 r4 r6 r8 r10 r12 r13 true) else (bif !ieq (Prod.fst r10) (Prod.fst r11) then (laws_FnBandsAround_j4 L b r1 r2 r4 r6 r8 r10 r12 r13 true) else (laws_FnBandsAround_j4 L b r1 r2 r4 r6 r8 r10 r12 r13 (!beqb (Prod.snd r12) (Prod.snd r13))))
noncomputable def laws_FnBandsAround_j2 (L : Nat) (b : List Int) (r1 : List Pt) (r2 : List Pt × Bool) (r4 : List Pt × Bool) (r6 : List (List Pt) × Bool) (r8 : Int × Bool) (r9 : Int × Bool) (r10 : Int × Bool) (r11 : Int × Bool) (r12 : Bool × Bool) (r13 : Bool × Bool) (v176 : Bool) : Option Bool := bif v176 then (laws_FnBandsAround_j3 L b r1 r2 r4 r6 r8 r10 r11 r12 r13 true) else (bif !ieq (Prod.fst r8) (Prod.fst r9) then (laws_FnBandsAround_j3 L b r1 r2 r4 r6 r8 r10 r11 r12 r13 true) else (laws_FnBandsAround_j3 L b r1 r2 r4 r6 r8 r10 r11 r12 r13 (!beqb (Prod.snd r10) (Prod.snd r11))))
noncomputable def laws_FnBandsAround_j1 (L : Nat) (b : List Int) (r1 : List Pt) (r2 : List Pt × Bool) (r4 : List Pt × Bool) (r6 : List (List Pt) × Bool) (r7 : List (List Pt) × Bool) (r8 : Int × Bool) (r9 : Int × Bool) (r10 : Int × Bool) (r11 : Int × Bool) (r12 : Bool × Bool) (r13 : Bool × Bool) (v165 : Bool) : Option Bool := bif v165 then (laws_FnBandsAround_j2 L b r1 r2 r4 r6 r8 r9 r10 r11 r12 r13 true) else (gbind (laws_eLists L (Prod.fst r6) (Prod.fst r7)) fun r43 => bif !r43 then (laws_FnBandsAround_j2 L b r1 r2 r4 r6 r8 r9 r10 r11 r12 r13 true) else (laws_FnBandsAround_j2 L b r1 r2 r4 r6 r8 r9 r10 r11 r12 r13 (!beqb (Prod.snd r8) (Prod.snd r9))))
noncomputable def laws_FnBandsAround_j0 (L : Nat) (b : List Int) (r1 : List Pt) (r2 : List Pt × Bool) (r4 : List Pt × Bool) (r5 : List Pt × Bool) (r6 : List (List Pt) × Bool) (r7 : List (List Pt) × Bool) (r8 : Int × Bool) (r9 : Int × Bool) (r10 : Int × Bool) (r11 : Int × Bool) (r12 : Bool × Bool) (r13 : Bool × Bool) (v154 : Bool) : Option Bool := bif v154 then (laws_FnBandsAround_j1 L b r1 r2 r4 r6 r7 r8 r9 r10 r11 r12 r13 true) else (gbind (laws_ePegs L (Prod.fst r4) (Prod.fst r5)) fun r44 => bif !r44 then (laws_FnBandsAround_j1 L b r1 r2 r4 r6 r7 r8 r9 r10 r11 r12 r13 true) else (laws_FnBandsAround_j1 L b r1 r2 r4 r6 r7 r8 r9 r10 r11 r12 r13 (!beqb (Prod.snd r6) (Prod.snd r7))))
noncomputable def laws_FnBandsAround (L : Nat) (a : List Int) (b : List Int) : Option (Bool) := gbind (laws_big L a b) fun r => bif r then (some true) else (gbind (spec_DrawBandOf L a) fun r1 => gbind (impl_BandOf L r1) fun r2 => gbind (spec_BandOf L r1) fun r3 => gbind (impl_PegsOfBand L r1) fun r4 => gbind (spec_PegsOfBand L r1) fun r5 => gbind (impl_LayersOf L r1) fun r6 => gbind (spec_LayersOf L r1) fun r7 => gbind (impl_TwiceBand L r1) fun r8 => gbind (spec_TwiceBand L r1) fun r9 => gbind (impl_CountInBand L r1) fun r10 => gbind (spec_CountInBand L r1) fun r11 => gbind (impl_AreConvex L r1) fun r12 => gbind (spec_AreConvex L r1) fun r13 => bif !beqb (Prod.snd r2) (Prod.snd r3) then (laws_FnBandsAround_j0 L b r1 r2 r4 r5 r6 r7 r8 r9 r10 r11 r12 r13 true) else (gbind (laws_ePegs L (Prod.fst r2) (Prod.fst r3)) fun r45 => bif !r45 then (laws_FnBandsAround_j0 L b r1 r2 r4 r5 r6 r7 r8 r9 r10 r11 r12 r13 true) else (laws_FnBandsAround_j0 L b r1 r2 r4 r5 r6 r7 r8 r9 r10 r11 r12 r13 (!beqb (Prod.snd r4) (Prod.snd r5)))))
def laws_FnBandsAround_ok (L : Nat) (C : CF) : Prop := ∀ (oa : Bool) (ca : Bool) (x_a : List AV) (a : List Int) (_ : x_a = List.map eU a) (ob : Bool) (cb : Bool) (x_b : List AV) (b : List Int) (_ : x_b = List.map eU b), C 3 ([.lst oa ca 1 x_a, .lst ob cb 1 x_b]) ([]) = Option.map (fun r : Bool => ((.bool r, []) : AV × List Blk)) (laws_FnBandsAround L a b)
theorem laws_FnBandsAround_run (L : Nat) (C : CF) (h_laws_big : laws_big_ok L C) (h_spec_DrawBandOf : spec_DrawBandOf_ok L C) (h_impl_AreDifferent : impl_AreDifferent_ok L C) (h_impl_BandOf : impl_BandOf_ok L C) (h_spec_BandOf : spec_BandOf_ok L C) (h_impl_PegsOfBand : impl_PegsOfBand_ok L C) (h_spec_PegsOfBand : spec_PegsOfBand_ok L C) (h_impl_LayersOf : impl_LayersOf_ok L C) (h_spec_LayersOf : spec_LayersOf_ok L C) (h_impl_TwiceBand : impl_TwiceBand_ok L C) (h_spec_TwiceBand : spec_TwiceBand_ok L C) (h_impl_CountInBand : impl_CountInBand_ok L C) (h_spec_CountInBand : spec_CountInBand_ok L C) (h_impl_AreConvex : impl_AreConvex_ok L C) (h_spec_AreConvex : spec_AreConvex_ok L C) (h_laws_ePegs : laws_ePegs_ok L C) (h_laws_eLists : laws_eLists_ok L C) (h_spec_AreDifferent : spec_AreDifferent_ok L C) (h_laws_eIn : laws_eIn_ok L C) (h_laws_eLess : laws_eLess_ok L C) (h_laws_eTurn : laws_eTurn_ok L C) (h_impl_InBand : impl_InBand_ok L C) (h_impl_LayerOfPeg : impl_LayerOfPeg_ok L C) (h_impl_TwiceArea : impl_TwiceArea_ok L C) (h_impl_PegsOn : impl_PegsOn_ok L C) (h_impl_PegsInside : impl_PegsInside_ok L C) (h_spec_DrawJoinBands : spec_DrawJoinBands_ok L C) (h_impl_JoinBands : impl_JoinBands_ok L C) (h_spec_JoinBands : spec_JoinBands_ok L C) (h_spec_DrawInBand : spec_DrawInBand_ok L C) (h_spec_InBand : spec_InBand_ok L C) (h_spec_DrawLayerOfPeg : spec_DrawLayerOfPeg_ok L C) (h_spec_LayerOfPeg : spec_LayerOfPeg_ok L C) : ∀ (oa : Bool) (ca : Bool) (x_a : List AV) (a : List Int) (_ : x_a = List.map eU a) (ob : Bool) (cb : Bool) (x_b : List AV) (b : List Int) (_ : x_b = List.map eU b), run T C sh (keep 3) L Tryz.f3 ([.lst oa ca 1 x_a, .lst ob cb 1 x_b]) ([]) = Option.map (fun r : Bool => ((.bool r, []) : AV × List Blk)) (laws_FnBandsAround L a b) := by
 intro oa ca x_a a hx_a ob cb x_b b hx_b
 subst hx_a
 subst hx_b
 unfold laws_FnBandsAround
 conv => lhs; whnf
 refine t_call (h_laws_big _ _ _ a (by first | rfl | simp only [ml] <;> rfl) _ _ _ b (by first | rfl | simp only [ml] <;> rfl)) fun r => ?_
 conv => lhs; whnf
 refine t_cond ?_ ?_
 ·conv => lhs; whnf
  exact t_ret (by first | rfl | simp only [ml] <;> rfl)
 ·conv => lhs; whnf
  refine t_call (h_spec_DrawBandOf _ _ _ a (by first | rfl | simp only [ml] <;> rfl)) fun r1 => ?_
  conv => lhs; whnf
  refine t_call (h_impl_BandOf _ _ _ r1 (by first | rfl | simp only [ml] <;> rfl)) fun r2 => ?_
  conv => lhs; whnf
  refine t_call (h_spec_BandOf _ _ _ r1 (by first | rfl | simp only [ml] <;> rfl)) fun r3 => ?_
  conv => lhs; whnf
  refine t_call (h_impl_PegsOfBand _ _ _ r1 (by first | rfl | simp only [ml] <;> rfl)) fun r4 => ?_
  conv => lhs; whnf
  refine t_call (h_spec_PegsOfBand _ _ _ r1 (by first | rfl | simp only [ml] <;> rfl)) fun r5 => ?_
  conv => lhs; whnf
  refine t_call (h_impl_LayersOf _ _ _ r1 (by first | rfl | simp only [ml] <;> rfl)) fun r6 => ?_
  conv => lhs; whnf
  refine t_call (h_spec_LayersOf _ _ _ r1 (by first | rfl | simp only [ml] <;> rfl)) fun r7 => ?_
  conv => lhs; whnf
  refine t_call (h_impl_TwiceBand _ _ _ r1 (by first | rfl | simp only [ml] <;> rfl)) fun r8 => ?_
  conv => lhs; whnf
  refine t_call (h_spec_TwiceBand _ _ _ r1 (by first | rfl | simp only [ml] <;> rfl)) fun r9 => ?_
  conv => lhs; whnf
  refine t_call (h_impl_CountInBand _ _ _ r1 (by first | rfl | simp only [ml] <;> rfl)) fun r10 => ?_
  conv => lhs; whnf
  refine t_call (h_spec_CountInBand _ _ _ r1 (by first | rfl | simp only [ml] <;> rfl)) fun r11 => ?_
  conv => lhs; whnf
  refine t_call (h_impl_AreConvex _ _ _ r1 (by first | rfl | simp only [ml] <;> rfl)) fun r12 => ?_
  conv => lhs; whnf
  refine t_call (h_spec_AreConvex _ _ _ r1 (by first | rfl | simp only [ml] <;> rfl)) fun r13 => ?_
  conv => lhs; whnf
  refine t_join (fun (v154 : Bool) => (AV.top :: AV.lst ob cb 1 (List.map eU b) :: topA 3 (AV.own 0 2 none false :: AV.own 1 2 none false :: AV.bool (Prod.snd r2) :: topA 2 (AV.own 2 2 none false :: AV.bool (Prod.snd r4) :: AV.own 3 2 none false :: AV.top :: AV.own 4 1 none false :: AV.bool (Prod.snd r6) :: AV.own 5 1 none false :: AV.bool (Prod.snd r7) :: AV.int IntKind.i64 (Prod.fst r8) :: AV.bool (Prod.snd r8) :: AV.int IntKind.i64 (Prod.fst r9) :: AV.bool (Prod.snd r9) :: AV.int IntKind.i64 (Prod.fst r10) :: AV.bool (Prod.snd r10) :: AV.int IntKind.i64 (Prod.fst r11) :: AV.bool (Prod.snd r11) :: AV.bool (Prod.fst r12) :: AV.bool (Prod.snd r12) :: AV.bool (Prod.fst r13) :: AV.bool (Prod.snd r13) :: topA 124 (AV.bool v154 :: tops 414))), [Blk.rows Mode.live 2 (List.map ep r1), Blk.rows Mode.live 2 (List.map ep (Prod.fst r2)), Blk.rows Mode.live 2 (List.map ep (Prod.fst r4)), Blk.rows Mode.live 2 (List.map ep (Prod.fst r5)), Blk.rows Mode.live 1 (List.map eLP (Prod.fst r6)), Blk.rows Mode.live 1 (List.map eLP (Prod.fst r7))])) (fun (v154 : Bool) => laws_FnBandsAround_j0 L b r1 r2 r4 r5 r6 r7 r8 r9 r10 r11 r12 r13 v154) ?_ fun J hJ => ?_
  ·intro v154
   show _ = Option.map _ (laws_FnBandsAround_j0 L b r1 r2 r4 r5 r6 r7 r8 r9 r10 r11 r12 r13 v154)
   unfold laws_FnBandsAround_j0
   conv => lhs; whnf
   refine t_join (fun (v165 : Bool) => (AV.top :: AV.lst ob cb 1 (List.map eU b) :: topA 3 (AV.own 0 2 none false :: AV.own 1 2 none false :: AV.bool (Prod.snd r2) :: topA 2 (AV.own 2 2 none false :: AV.bool (Prod.snd r4) :: topA 2 (AV.own 3 1 none false :: AV.bool (Prod.snd r6) :: AV.own 4 1 none false :: AV.top :: AV.int IntKind.i64 (Prod.fst r8) :: AV.bool (Prod.snd r8) :: AV.int IntKind.i64 (Prod.fst r9) :: AV.bool (Prod.snd r9) :: AV.int IntKind.i64 (Prod.fst r10) :: AV.bool (Prod.snd r10) :: AV.int IntKind.i64 (Prod.fst r11) :: AV.bool (Prod.snd r11) :: AV.bool (Prod.fst r12) :: AV.bool (Prod.snd r12) :: AV.bool (Prod.fst r13) :: AV.bool (Prod.snd r13) :: topA 135 (AV.bool v165 :: tops 403)))), [Blk.rows Mode.live 2 (List.map ep r1), Blk.rows Mode.live 2 (List.map ep (Prod.fst r2)), Blk.rows Mode.live 2 (List.map ep (Prod.fst r4)), Blk.rows Mode.live 1 (List.map eLP (Prod.fst r6)), Blk.rows Mode.live 1 (List.map eLP (Prod.fst r7))])) (fun (v165 : Bool) => laws_FnBandsAround_j1 L b r1 r2 r4 r6 r7 r8 r9 r10 r11 r12 r13 v165) ?_ fun J1 hJ1 => ?_
   ·intro v165
    show _ = Option.map _ (laws_FnBandsAround_j1 L b r1 r2 r4 r6 r7 r8 r9 r10 r11 r12 r13 v165)
    unfold laws_FnBandsAround_j1
    conv => lhs; whnf
    refine t_join (fun (v176 : Bool) => (AV.top :: AV.lst ob cb 1 (List.map eU b) :: topA 3 (AV.own 0 2 none false :: AV.own 1 2 none false :: AV.bool (Prod.snd r2) :: topA 2 (AV.own 2 2 none false :: AV.bool (Prod.snd r4) :: topA 2 (AV.own 3 1 none false :: AV.bool (Prod.snd r6) :: topA 2 (AV.int IntKind.i64 (Prod.fst r8) :: AV.bool (Prod.snd r8) :: AV.int IntKind.i64 (Prod.fst r9) :: AV.top :: AV.int IntKind.i64 (Prod.fst r10) :: AV.bool (Prod.snd r10) :: AV.int IntKind.i64 (Prod.fst r11) :: AV.bool (Prod.snd r11) :: AV.bool (Prod.fst r12) :: AV.bool (Prod.snd r12) :: AV.bool (Prod.fst r13) :: AV.bool (Prod.snd r13) :: topA 146 (AV.bool v176 :: tops 392))))), [Blk.rows Mode.live 2 (List.map ep r1), Blk.rows Mode.live 2 (List.map ep (Prod.fst r2)), Blk.rows Mode.live 2 (List.map ep (Prod.fst r4)), Blk.rows Mode.live 1 (List.map eLP (Prod.fst r6))])) (fun (v176 : Bool) => laws_FnBandsAround_j2 L b r1 r2 r4 r6 r8 r9 r10 r11 r12 r13 v176) ?_ fun J2 hJ2 => ?_
    ·intro v176
     show _ = Option.map _ (laws_FnBandsAround_j2 L b r1 r2 r4 r6 r8 r9 r10 r11 r12 r13 v176)
     unfold laws_FnBandsAround_j2
     conv => lhs; whnf
     refine t_join (fun (v186 : Bool) => (AV.top :: AV.lst ob cb 1 (List.map eU b) :: topA 3 (AV.own 0 2 none false :: AV.own 1 2 none false :: AV.bool (Prod.snd r2) :: topA 2 (AV.own 2 2 none false :: AV.bool (Prod.snd r4) :: topA 2 (AV.own 3 1 none false :: AV.bool (Prod.snd r6) :: topA 2 (AV.int IntKind.i64 (Prod.fst r8) :: AV.bool (Prod.snd r8) :: topA 2 (AV.int IntKind.i64 (Prod.fst r10) :: AV.bool (Prod.snd r10) :: AV.int IntKind.i64 (Prod.fst r11) :: AV.top :: AV.bool (Prod.fst r12) :: AV.bool (Prod.snd r12) :: AV.bool (Prod.fst r13) :: AV.bool (Prod.snd r13) :: topA 156 (AV.bool v186 :: tops 382)))))), [Blk.rows Mode.live 2 (List.map ep r1), Blk.rows Mode.live 2 (List.map ep (Prod.fst r2)), Blk.rows Mode.live 2 (List.map ep (Prod.fst r4)), Blk.rows Mode.live 1 (List.map eLP (Prod.fst r6))])) (fun (v186 : Bool) => laws_FnBandsAround_j3 L b r1 r2 r4 r6 r8 r10 r11 r12 r13 v186) ?_ fun J3 hJ3 => ?_
     ·intro v186
      show _ = Option.map _ (laws_FnBandsAround_j3 L b r1 r2 r4 r6 r8 r10 r11 r12 r13 v186)
      unfold laws_FnBandsAround_j3
      conv => lhs; whnf
      refine t_join (fun (v196 : Bool) => (AV.top :: AV.lst ob cb 1 (List.map eU b) :: topA 3 (AV.own 0 2 none false :: AV.own 1 2 none false :: AV.bool (Prod.snd r2) :: topA 2 (AV.own 2 2 none false :: AV.bool (Prod.snd r4) :: topA 2 (AV.own 3 1 none false :: AV.bool (Prod.snd r6) :: topA 2 (AV.int IntKind.i64 (Prod.fst r8) :: AV.bool (Prod.snd r8) :: topA 2 (AV.int IntKind.i64 (Prod.fst r10) :: AV.bool (Prod.snd r10) :: topA 2 (AV.bool (Prod.fst r12) :: AV.bool (Prod.snd r12) :: AV.bool (Prod.fst r13) :: topA 167 (AV.bool v196 :: tops 372))))))), [Blk.rows Mode.live 2 (List.map ep r1), Blk.rows Mode.live 2 (List.map ep (Prod.fst r2)), Blk.rows Mode.live 2 (List.map ep (Prod.fst r4)), Blk.rows Mode.live 1 (List.map eLP (Prod.fst r6))])) (fun (v196 : Bool) => laws_FnBandsAround_j4 L b r1 r2 r4 r6 r8 r10 r12 r13 v196) ?_ fun J4 hJ4 => ?_
      ·intro v196
       show _ = Option.map _ (laws_FnBandsAround_j4 L b r1 r2 r4 r6 r8 r10 r12 r13 v196)
       unfold laws_FnBandsAround_j4
       conv => lhs; whnf
       refine t_join (fun (v207 : Bool) => (AV.top :: AV.lst ob cb 1 (List.map eU b) :: topA 3 (AV.own 0 2 none false :: AV.own 1 2 none false :: AV.bool (Prod.snd r2) :: topA 2 (AV.own 2 2 none false :: AV.bool (Prod.snd r4) :: topA 2 (AV.own 3 1 none false :: AV.bool (Prod.snd r6) :: topA 2 (AV.int IntKind.i64 (Prod.fst r8) :: AV.bool (Prod.snd r8) :: topA 2 (AV.int IntKind.i64 (Prod.fst r10) :: AV.bool (Prod.snd r10) :: topA 2 (AV.bool (Prod.fst r12) :: AV.bool (Prod.snd r12) :: topA 179 (AV.bool v207 :: tops 361))))))), [Blk.rows Mode.live 2 (List.map ep r1), Blk.rows Mode.live 2 (List.map ep (Prod.fst r2)), Blk.rows Mode.live 2 (List.map ep (Prod.fst r4)), Blk.rows Mode.live 1 (List.map eLP (Prod.fst r6))])) (fun (v207 : Bool) => laws_FnBandsAround_j5 L b r1 r2 r4 r6 r8 r10 r12 v207) ?_ fun J5 hJ5 => ?_
       ·intro v207
        show _ = Option.map _ (laws_FnBandsAround_j5 L b r1 r2 r4 r6 r8 r10 r12 v207)
        unfold laws_FnBandsAround_j5
        conv => lhs; whnf
        refine t_join (fun (v219 : Bool) => (AV.top :: AV.lst ob cb 1 (List.map eU b) :: topA 3 (AV.own 0 2 none false :: AV.own 1 2 none false :: AV.bool (Prod.snd r2) :: topA 2 (AV.own 2 2 none false :: topA 3 (AV.own 3 1 none false :: AV.bool (Prod.snd r6) :: topA 2 (AV.int IntKind.i64 (Prod.fst r8) :: AV.bool (Prod.snd r8) :: topA 2 (AV.int IntKind.i64 (Prod.fst r10) :: AV.bool (Prod.snd r10) :: topA 2 (AV.bool (Prod.fst r12) :: AV.bool (Prod.snd r12) :: topA 191 (AV.bool v219 :: tops 349))))))), [Blk.rows Mode.live 2 (List.map ep r1), Blk.rows Mode.live 2 (List.map ep (Prod.fst r2)), Blk.rows Mode.live 2 (List.map ep (Prod.fst r4)), Blk.rows Mode.live 1 (List.map eLP (Prod.fst r6))])) (fun (v219 : Bool) => laws_FnBandsAround_j6 L b r1 r2 r4 r6 r8 r10 r12 v219) ?_ fun J6 hJ6 => ?_
        ·intro v219
         show _ = Option.map _ (laws_FnBandsAround_j6 L b r1 r2 r4 r6 r8 r10 r12 v219)
         unfold laws_FnBandsAround_j6
         conv => lhs; whnf
         refine t_join (fun (v229 : Bool) => (AV.top :: AV.lst ob cb 1 (List.map eU b) :: topA 3 (AV.own 0 2 none false :: AV.own 1 2 none false :: AV.bool (Prod.snd r2) :: topA 2 (AV.own 2 2 none false :: topA 3 (AV.own 3 1 none false :: topA 3 (AV.int IntKind.i64 (Prod.fst r8) :: topA 3 (AV.int IntKind.i64 (Prod.fst r10) :: AV.bool (Prod.snd r10) :: topA 2 (AV.bool (Prod.fst r12) :: AV.bool (Prod.snd r12) :: topA 201 (AV.bool v229 :: tops 339))))))), [Blk.rows Mode.live 2 (List.map ep r1), Blk.rows Mode.live 2 (List.map ep (Prod.fst r2)), Blk.rows Mode.live 2 (List.map ep (Prod.fst r4)), Blk.rows Mode.live 1 (List.map eLP (Prod.fst r6))])) (fun (v229 : Bool) => laws_FnBandsAround_j7 L b r1 r2 r4 r6 r8 r10 r12 v229) ?_ fun J7 hJ7 => ?_
         ·intro v229
          show _ = Option.map _ (laws_FnBandsAround_j7 L b r1 r2 r4 r6 r8 r10 r12 v229)
          unfold laws_FnBandsAround_j7
          conv => lhs; whnf
          refine t_cond ?_ ?_
          ·conv => lhs; whnf
           exact t_ret (by first | rfl | simp only [ml] <;> rfl)
          ·conv => lhs; whnf
           refine t_cond ?_ ?_
           ·conv => lhs; whnf
            exact t_ret (by first | rfl | simp only [ml] <;> rfl)
           ·conv => lhs; whnf
            refine t_cond ?_ ?_
            ·conv => lhs; whnf
             exact t_ret (by first | rfl | simp only [ml] <;> rfl)
            ·conv => lhs; whnf
             refine t_join (fun (v1 : (List Int)) => (AV.top :: AV.lst ob cb 1 (List.map eU v1) :: tops 567, [])) (fun (v1 : (List Int)) => laws_FnBandsAround_j8 L v1) ?_ fun J8 hJ8 => ?_
             ·intro v1
              show _ = Option.map _ (laws_FnBandsAround_j8 L v1)
              unfold laws_FnBandsAround_j8
              conv => lhs; whnf
              refine t_call (h_spec_DrawJoinBands _ _ _ v1 (by first | rfl | simp only [ml] <;> rfl)) fun r14 => ?_
              conv => lhs; whnf
              refine t_call (h_impl_JoinBands _ _ (Prod.fst r14) (by first | rfl | simp only [ml] <;> rfl) _ _ (Prod.snd r14) (by first | rfl | simp only [ml] <;> rfl)) fun r15 => ?_
              conv => lhs; whnf
              refine t_call (h_spec_JoinBands _ _ _ (Prod.fst r14) (by first | rfl | simp only [ml] <;> rfl) _ _ _ (Prod.snd r14) (by first | rfl | simp only [ml] <;> rfl)) fun r16 => ?_
              conv => lhs; whnf
              refine t_call (h_spec_DrawInBand _ _ _ v1 (by first | rfl | simp only [ml] <;> rfl)) fun r17 => ?_
              conv => lhs; whnf
              refine t_call (h_impl_InBand _ _ _ (Prod.fst r17) (by first | rfl | simp only [ml] <;> rfl) (Prod.fst (Prod.snd r17)) (Prod.snd (Prod.snd r17))) fun r18 => ?_
              conv => lhs; whnf
              refine t_call (h_spec_InBand _ _ _ (Prod.fst r17) (by first | rfl | simp only [ml] <;> rfl) (Prod.fst (Prod.snd r17)) (Prod.snd (Prod.snd r17))) fun r19 => ?_
              conv => lhs; whnf
              refine t_call (h_spec_DrawLayerOfPeg _ _ _ v1 (by first | rfl | simp only [ml] <;> rfl)) fun r20 => ?_
              conv => lhs; whnf
              refine t_call (h_impl_LayerOfPeg _ _ _ (Prod.fst r20) (by first | rfl | simp only [ml] <;> rfl) (Prod.fst (Prod.snd r20)) (Prod.snd (Prod.snd r20))) fun r21 => ?_
              conv => lhs; whnf
              refine t_call (h_spec_LayerOfPeg _ _ _ (Prod.fst r20) (by first | rfl | simp only [ml] <;> rfl) (Prod.fst (Prod.snd r20)) (Prod.snd (Prod.snd r20))) fun r22 => ?_
              conv => lhs; whnf
              refine t_join (fun (v519 : Bool) => (topA 52 (AV.own 0 2 none false :: AV.own 1 2 none false :: AV.own 2 2 none false :: AV.bool (Prod.snd r15) :: topA 4 (AV.bool (Prod.fst r18) :: AV.top :: AV.bool (Prod.fst r19) :: topA 3 (AV.int IntKind.i64 (Prod.fst r21) :: AV.bool (Prod.snd r21) :: AV.int IntKind.i64 (Prod.fst r22) :: AV.bool (Prod.snd r22) :: topA 449 (AV.bool v519 :: tops 49)))), [Blk.rows Mode.frozen 2 (List.map ep (Prod.fst r14)), Blk.rows Mode.frozen 2 (List.map ep (Prod.snd r14)), Blk.rows Mode.live 2 (List.map ep (Prod.fst r15))])) (fun (v519 : Bool) => laws_FnBandsAround_j9 L r14 r15 r18 r19 r21 r22 v519) ?_ fun J9 hJ9 => ?_
              ·intro v519
               show _ = Option.map _ (laws_FnBandsAround_j9 L r14 r15 r18 r19 r21 r22 v519)
               unfold laws_FnBandsAround_j9
               conv => lhs; whnf
               refine t_join (fun (v529 : Bool) => (topA 52 (AV.own 0 2 none false :: AV.own 1 2 none false :: AV.own 2 2 none false :: AV.bool (Prod.snd r15) :: topA 10 (AV.int IntKind.i64 (Prod.fst r21) :: AV.top :: AV.int IntKind.i64 (Prod.fst r22) :: topA 460 (AV.bool v529 :: tops 39))), [Blk.rows Mode.frozen 2 (List.map ep (Prod.fst r14)), Blk.rows Mode.frozen 2 (List.map ep (Prod.snd r14)), Blk.rows Mode.live 2 (List.map ep (Prod.fst r15))])) (fun (v529 : Bool) => laws_FnBandsAround_j10 L r14 r15 r21 r22 v529) ?_ fun J10 hJ10 => ?_
               ·intro v529
                show _ = Option.map _ (laws_FnBandsAround_j10 L r14 r15 r21 r22 v529)
                unfold laws_FnBandsAround_j10
                conv => lhs; whnf
                refine t_cond ?_ ?_
                ·conv => lhs; whnf
                 exact t_ret (by first | rfl | simp only [ml] <;> rfl)
                ·conv => lhs; whnf
                 refine t_cond ?_ ?_
                 ·conv => lhs; whnf
                  exact t_ret (by first | rfl | simp only [ml] <;> rfl)
                 ·conv => lhs; whnf
                  refine t_cond ?_ ?_
                  ·conv => lhs; whnf
                   refine t_call (h_impl_JoinBands _ _ (Prod.snd r14) (by first | rfl | simp only [ml] <;> rfl) _ _ (Prod.fst r14) (by first | rfl | simp only [ml] <;> rfl)) fun r23 => ?_
                   conv => lhs; whnf
                   refine t_cond ?_ ?_
                   ·conv => lhs; whnf
                    exact t_ret (by first | rfl | simp only [ml] <;> rfl)
                   ·conv => lhs; whnf
                    refine t_call (h_laws_ePegs _ _ _ (Prod.fst r23) (by first | rfl | simp only [ml] <;> rfl) _ _ _ (Prod.fst r15) (by first | rfl | simp only [ml] <;> rfl)) fun r24 => ?_
                    conv => lhs; whnf
                    refine t_cond ?_ ?_
                    ·conv => lhs; whnf
                     exact t_ret (by first | rfl | simp only [ml] <;> rfl)
                    ·conv => lhs; whnf
                     refine t_loop (fun (v552 : Int) => (topA 54 (AV.own 0 2 none false :: topA 495 (AV.own 1 2 none false :: AV.int IntKind.i64 (ilen (List.map ep (Prod.fst r14))) :: AV.int IntKind.i64 v552 :: tops 16)), [Blk.rows Mode.live 2 (List.map ep (Prod.fst r15)), Blk.rows Mode.frozen 2 (List.map ep (Prod.fst r14))])) (fun m (v552 : Int) => laws_FnBandsAround_l11 L r14 r15 m v552) (fun _ => rfl) (fun m v552 rec hrec => ?_) L 0 ?_ ?_
                     rotate_left
                     ·first | rfl | simp only [ml] <;> rfl
                     ·first | rfl | simp only [ml] <;> rfl
                     show _ = Option.map _ (laws_FnBandsAround_l11 L r14 r15 (m + 1) v552)
                     rw [laws_FnBandsAround_l11.eq_2]
                     conv => lhs; whnf
                     refine t_cond ?_ ?_
                     ·conv => lhs; whnf
                      refine t_cond ?_ ?_
                      ·conv => lhs; whnf
                       refine t_get (en := ep) (l := Prod.fst r14) (by first | rfl | simp only [ml] <;> rfl) fun p => ?_
                       conv => lhs; whnf
                       refine t_call (h_impl_InBand _ _ _ (Prod.fst r15) (by first | rfl | simp only [ml] <;> rfl) (Pt.x p) (Pt.y p)) fun r25 => ?_
                       conv => lhs; whnf
                       refine t_cond ?_ ?_
                       ·conv => lhs; whnf
                        exact t_ret (by first | rfl | simp only [ml] <;> rfl)
                       ·conv => lhs; whnf
                        refine t_cond ?_ ?_
                        ·conv => lhs; whnf
                         exact t_ret (by first | rfl | simp only [ml] <;> rfl)
                        ·conv => lhs; whnf
                         exact hrec (wr IntKind.i64 (iadd v552 1)) _ _ (by first | rfl | simp only [ml] <;> rfl) (by first | rfl | simp only [ml] <;> rfl)
                      ·conv => lhs; whnf
                       exact t_none
                     ·conv => lhs; whnf
                      exact t_ret (by first | rfl | simp only [ml] <;> rfl)
                  ·conv => lhs; whnf
                   exact t_ret (by first | rfl | simp only [ml] <;> rfl)
               ·conv => lhs; whnf
                refine t_cond ?_ ?_
                ·conv => lhs; whnf
                 exact hJ10 true _ _ (by first | rfl | simp only [ml] <;> rfl) (by first | rfl | simp only [ml] <;> rfl)
                ·conv => lhs; whnf
                 refine t_cond ?_ ?_
                 ·conv => lhs; whnf
                  exact hJ10 true _ _ (by first | rfl | simp only [ml] <;> rfl) (by first | rfl | simp only [ml] <;> rfl)
                 ·conv => lhs; whnf
                  exact hJ10 (!beqb (Prod.snd r21) (Prod.snd r22)) _ _ (by first | rfl | simp only [ml] <;> rfl) (by first | rfl | simp only [ml] <;> rfl)
              ·conv => lhs; whnf
               refine t_cond ?_ ?_
               ·conv => lhs; whnf
                exact hJ9 true _ _ (by first | rfl | simp only [ml] <;> rfl) (by first | rfl | simp only [ml] <;> rfl)
               ·conv => lhs; whnf
                refine t_call (h_laws_ePegs _ _ _ (Prod.fst r15) (by first | rfl | simp only [ml] <;> rfl) _ _ _ (Prod.fst r16) (by first | rfl | simp only [ml] <;> rfl)) fun r26 => ?_
                conv => lhs; whnf
                refine t_cond ?_ ?_
                ·conv => lhs; whnf
                 exact hJ9 true _ _ (by first | rfl | simp only [ml] <;> rfl) (by first | rfl | simp only [ml] <;> rfl)
                ·conv => lhs; whnf
                 exact hJ9 (!beqb (Prod.snd r18) (Prod.snd r19)) _ _ (by first | rfl | simp only [ml] <;> rfl) (by first | rfl | simp only [ml] <;> rfl)
             ·conv => lhs; whnf
              refine t_cond ?_ ?_
              ·conv => lhs; whnf
               refine t_call (h_impl_BandOf _ _ _ (Prod.fst r2) (by first | rfl | simp only [ml] <;> rfl)) fun r27 => ?_
               conv => lhs; whnf
               refine t_join (fun (v259 : Bool) => (AV.top :: AV.lst ob cb 1 (List.map eU b) :: topA 3 (AV.own 0 2 none false :: AV.own 1 2 none false :: topA 3 (AV.own 2 2 none false :: topA 3 (AV.own 3 1 none false :: topA 3 (AV.int IntKind.i64 (Prod.fst r8) :: topA 3 (AV.int IntKind.i64 (Prod.fst r10) :: topA 3 (AV.bool (Prod.fst r12) :: topA 3 (AV.int IntKind.i64 (ilen (List.map ep (Prod.fst r2))) :: topA 228 (AV.bool v259 :: tops 309)))))))), [Blk.rows Mode.live 2 (List.map ep r1), Blk.rows Mode.live 2 (List.map ep (Prod.fst r2)), Blk.rows Mode.live 2 (List.map ep (Prod.fst r4)), Blk.rows Mode.live 1 (List.map eLP (Prod.fst r6))])) (fun (v259 : Bool) => laws_FnBandsAround_j12 L b r1 r2 r4 r6 r8 r10 r12 v259) ?_ fun J11 hJ11 => ?_
               ·intro v259
                show _ = Option.map _ (laws_FnBandsAround_j12 L b r1 r2 r4 r6 r8 r10 r12 v259)
                unfold laws_FnBandsAround_j12
                conv => lhs; whnf
                refine t_join (fun (v273 : Bool) => (AV.top :: AV.lst ob cb 1 (List.map eU b) :: topA 3 (AV.own 0 2 none false :: AV.own 1 2 none false :: topA 3 (AV.own 2 2 none false :: topA 3 (AV.own 3 1 none false :: topA 3 (AV.int IntKind.i64 (Prod.fst r8) :: topA 3 (AV.int IntKind.i64 (Prod.fst r10) :: topA 7 (AV.int IntKind.i64 (ilen (List.map ep (Prod.fst r2))) :: topA 242 (AV.bool v273 :: tops 295))))))), [Blk.rows Mode.live 2 (List.map ep r1), Blk.rows Mode.live 2 (List.map ep (Prod.fst r2)), Blk.rows Mode.live 2 (List.map ep (Prod.fst r4)), Blk.rows Mode.live 1 (List.map eLP (Prod.fst r6))])) (fun (v273 : Bool) => laws_FnBandsAround_j13 L b r1 r2 r4 r6 r8 r10 v273) ?_ fun J12 hJ12 => ?_
                ·intro v273
                 show _ = Option.map _ (laws_FnBandsAround_j13 L b r1 r2 r4 r6 r8 r10 v273)
                 unfold laws_FnBandsAround_j13
                 conv => lhs; whnf
                 refine t_cond ?_ ?_
                 ·conv => lhs; whnf
                  exact t_ret (by first | rfl | simp only [ml] <;> rfl)
                 ·conv => lhs; whnf
                  refine t_cond ?_ ?_
                  ·conv => lhs; whnf
                   exact t_ret (by first | rfl | simp only [ml] <;> rfl)
                  ·conv => lhs; whnf
                   refine t_cond ?_ ?_
                   ·conv => lhs; whnf
                    exact t_ret (by first | rfl | simp only [ml] <;> rfl)
                   ·conv => lhs; whnf
                    refine t_loop (fun (v287 : Int) => (AV.top :: AV.lst ob cb 1 (List.map eU b) :: topA 3 (AV.own 0 2 none false :: AV.own 1 2 none false :: topA 3 (AV.own 2 2 none false :: topA 3 (AV.own 3 1 none false :: topA 3 (AV.int IntKind.i64 (Prod.fst r8) :: topA 3 (AV.int IntKind.i64 (Prod.fst r10) :: topA 7 (AV.int IntKind.i64 (ilen (List.map ep (Prod.fst r2))) :: topA 254 (AV.own 1 2 none false :: AV.int IntKind.i64 (ilen (List.map ep (Prod.fst r2))) :: AV.int IntKind.i64 v287 :: tops 281))))))), [Blk.rows Mode.live 2 (List.map ep r1), Blk.rows Mode.live 2 (List.map ep (Prod.fst r2)), Blk.rows Mode.live 2 (List.map ep (Prod.fst r4)), Blk.rows Mode.live 1 (List.map eLP (Prod.fst r6))])) (fun m1 (v287 : Int) => laws_FnBandsAround_l14 L b r1 r2 r4 r6 r8 r10 m1 v287) (fun _ => rfl) (fun m1 v287 rec1 hrec1 => ?_) L 0 ?_ ?_
                    rotate_left
                    ·first | rfl | simp only [ml] <;> rfl
                    ·first | rfl | simp only [ml] <;> rfl
                    show _ = Option.map _ (laws_FnBandsAround_l14 L b r1 r2 r4 r6 r8 r10 (m1 + 1) v287)
                    rw [laws_FnBandsAround_l14.eq_2]
                    conv => lhs; whnf
                    refine t_cond ?_ ?_
                    ·conv => lhs; whnf
                     refine t_cond ?_ ?_
                     ·conv => lhs; whnf
                      refine t_get (en := ep) (l := Prod.fst r2) (by first | rfl | simp only [ml] <;> rfl) fun p1 => ?_
                      conv => lhs; whnf
                      refine t_call (h_laws_eIn _ _ _ r1 (by first | rfl | simp only [ml] <;> rfl) (Pt.x p1) (Pt.y p1)) fun r28 => ?_
                      conv => lhs; whnf
                      refine t_cond ?_ ?_
                      ·conv => lhs; whnf
                       exact t_ret (by first | rfl | simp only [ml] <;> rfl)
                      ·conv => lhs; whnf
                       refine t_call (h_laws_eIn _ _ _ (Prod.fst r4) (by first | rfl | simp only [ml] <;> rfl) (Pt.x p1) (Pt.y p1)) fun r29 => ?_
                       conv => lhs; whnf
                       refine t_cond ?_ ?_
                       ·conv => lhs; whnf
                        exact t_ret (by first | rfl | simp only [ml] <;> rfl)
                       ·conv => lhs; whnf
                        refine t_cond ?_ ?_
                        ·conv => lhs; whnf
                         refine t_get (en := ep) (l := Prod.fst r2) (by first | rfl | simp only [ml] <;> rfl) fun p2 => ?_
                         conv => lhs; whnf
                         refine t_call (h_laws_eLess (Pt.x p1) (Pt.y p1) (Pt.x p2) (Pt.y p2)) fun r30 => ?_
                         conv => lhs; whnf
                         refine t_cond ?_ ?_
                         ·conv => lhs; whnf
                          exact t_ret (by first | rfl | simp only [ml] <;> rfl)
                         ·conv => lhs; whnf
                          refine t_cond ?_ ?_
                          ·conv => lhs; whnf
                           refine t_cond ?_ ?_
                           ·conv => lhs; whnf
                            exact t_none
                           ·conv => lhs; whnf
                            refine t_cond ?_ ?_
                            ·conv => lhs; whnf
                             refine t_get (en := ep) (l := Prod.fst r2) (by first | rfl | simp only [ml] <;> rfl) fun p3 => ?_
                             conv => lhs; whnf
                             refine t_cond ?_ ?_
                             ·conv => lhs; whnf
                              exact t_none
                             ·conv => lhs; whnf
                              refine t_cond ?_ ?_
                              ·conv => lhs; whnf
                               refine t_get (en := ep) (l := Prod.fst r2) (by first | rfl | simp only [ml] <;> rfl) fun p4 => ?_
                               conv => lhs; whnf
                               refine t_call (h_laws_eTurn (Pt.x p1) (Pt.y p1) (Pt.x p3) (Pt.y p3) (Pt.x p4) (Pt.y p4)) fun r31 => ?_
                               conv => lhs; whnf
                               refine t_cond ?_ ?_
                               ·conv => lhs; whnf
                                exact t_ret (by first | rfl | simp only [ml] <;> rfl)
                               ·conv => lhs; whnf
                                exact hrec1 (wr IntKind.i64 (iadd v287 1)) _ _ (by first | rfl | simp only [ml] <;> rfl) (by first | rfl | simp only [ml] <;> rfl)
                              ·conv => lhs; whnf
                               exact t_none
                            ·conv => lhs; whnf
                             exact t_none
                          ·conv => lhs; whnf
                           exact hrec1 (wr IntKind.i64 (iadd v287 1)) _ _ (by first | rfl | simp only [ml] <;> rfl) (by first | rfl | simp only [ml] <;> rfl)
                        ·conv => lhs; whnf
                         exact t_none
                     ·conv => lhs; whnf
                      exact t_none
                    ·conv => lhs; whnf
                     refine t_loop (fun (v335 : Int) => (AV.top :: AV.lst ob cb 1 (List.map eU b) :: topA 3 (AV.own 0 2 none false :: AV.own 1 2 none false :: topA 3 (AV.own 2 2 none false :: topA 3 (AV.own 3 1 none false :: topA 3 (AV.int IntKind.i64 (Prod.fst r8) :: topA 3 (AV.int IntKind.i64 (Prod.fst r10) :: topA 7 (AV.int IntKind.i64 (ilen (List.map ep (Prod.fst r2))) :: topA 302 (AV.own 0 2 none false :: AV.int IntKind.i64 (ilen (List.map ep r1)) :: AV.int IntKind.i64 v335 :: tops 233))))))), [Blk.rows Mode.live 2 (List.map ep r1), Blk.rows Mode.live 2 (List.map ep (Prod.fst r2)), Blk.rows Mode.live 2 (List.map ep (Prod.fst r4)), Blk.rows Mode.live 1 (List.map eLP (Prod.fst r6))])) (fun m2 (v335 : Int) => laws_FnBandsAround_l15 L b r1 r2 r4 r6 r8 r10 m2 v335) (fun _ => rfl) (fun m2 v335 rec2 hrec2 => ?_) L 0 ?_ ?_
                     rotate_left
                     ·first | rfl | simp only [ml] <;> rfl
                     ·first | rfl | simp only [ml] <;> rfl
                     show _ = Option.map _ (laws_FnBandsAround_l15 L b r1 r2 r4 r6 r8 r10 (m2 + 1) v335)
                     rw [laws_FnBandsAround_l15.eq_2]
                     conv => lhs; whnf
                     refine t_cond ?_ ?_
                     ·conv => lhs; whnf
                      refine t_cond ?_ ?_
                      ·conv => lhs; whnf
                       refine t_get (en := ep) (l := r1) (by first | rfl | simp only [ml] <;> rfl) fun p5 => ?_
                       conv => lhs; whnf
                       refine t_call (h_impl_InBand _ _ _ r1 (by first | rfl | simp only [ml] <;> rfl) (Pt.x p5) (Pt.y p5)) fun r32 => ?_
                       conv => lhs; whnf
                       refine t_cond ?_ ?_
                       ·conv => lhs; whnf
                        exact t_ret (by first | rfl | simp only [ml] <;> rfl)
                       ·conv => lhs; whnf
                        refine t_cond ?_ ?_
                        ·conv => lhs; whnf
                         exact t_ret (by first | rfl | simp only [ml] <;> rfl)
                        ·conv => lhs; whnf
                         exact hrec2 (wr IntKind.i64 (iadd v335 1)) _ _ (by first | rfl | simp only [ml] <;> rfl) (by first | rfl | simp only [ml] <;> rfl)
                      ·conv => lhs; whnf
                       exact t_none
                     ·conv => lhs; whnf
                      refine t_loop (fun (⟨v11, v18, v22, v30, v39, v353, v354, w0, w1, w2, w3⟩ : (List Int) × Int × Int × Int × Int × Int × Int × (List Pt) × (List Pt) × (List Pt) × (List (List Pt))) => (AV.top :: AV.lst ob cb 1 (List.map eU v11) :: topA 3 (AV.own 0 2 none false :: AV.own 1 2 none false :: topA 3 (AV.own 2 2 none false :: topA 3 (AV.own 3 1 none false :: topA 3 (AV.int IntKind.i64 v18 :: topA 3 (AV.int IntKind.i64 v22 :: topA 7 (AV.int IntKind.i64 v30 :: topA 8 (AV.int IntKind.i64 v39 :: topA 312 (AV.own 3 1 none false :: AV.int IntKind.i64 v353 :: AV.int IntKind.i64 v354 :: tops 214)))))))), [Blk.rows Mode.live 2 (List.map ep w0), Blk.rows Mode.live 2 (List.map ep w1), Blk.rows Mode.live 2 (List.map ep w2), Blk.rows Mode.live 1 (List.map eLP w3)])) (fun m3 (⟨v11, v18, v22, v30, v39, v353, v354, w0, w1, w2, w3⟩ : (List Int) × Int × Int × Int × Int × Int × Int × (List Pt) × (List Pt) × (List Pt) × (List (List Pt))) => laws_FnBandsAround_l16 L m3 v11 v18 v22 v30 v39 v353 v354 w0 w1 w2 w3) (fun _ => rfl) (fun m3 s16 rec3 hrec3 => ?_) L ((b, Prod.fst r8, Prod.fst r10, ilen (List.map ep (Prod.fst r2)), 0, ilen (List.map eLP (Prod.fst r6)), 0, r1, Prod.fst r2, Prod.fst r4, Prod.fst r6)) ?_ ?_
                      rotate_left
                      ·first | rfl | simp only [ml] <;> rfl
                      ·first | rfl | simp only [ml] <;> rfl
                      obtain ⟨v11, v18, v22, v30, v39, v353, v354, w0, w1, w2, w3⟩ := s16
                      show _ = Option.map _ (laws_FnBandsAround_l16 L (m3 + 1) v11 v18 v22 v30 v39 v353 v354 w0 w1 w2 w3)
                      rw [laws_FnBandsAround_l16.eq_2]
                      conv => lhs; whnf
                      refine t_cond ?_ ?_
                      ·conv => lhs; whnf
                       refine t_cond ?_ ?_
                       ·conv => lhs; whnf
                        refine t_get (en := eLP) (l := w3) (by first | rfl | simp only [ml] <;> rfl) fun p6 => ?_
                        conv => lhs; whnf
                        refine t_loop (fun (v365 : Int) => (AV.top :: AV.lst ob cb 1 (List.map eU v11) :: topA 3 (AV.own 0 2 none false :: AV.own 1 2 none false :: topA 3 (AV.own 2 2 none false :: topA 3 (AV.own 3 1 none false :: topA 3 (AV.int IntKind.i64 v18 :: topA 3 (AV.int IntKind.i64 v22 :: topA 7 (AV.int IntKind.i64 v30 :: topA 8 (AV.int IntKind.i64 (wr IntKind.i64 (iadd v39 (ilen (List.map ep p6)))) :: AV.int IntKind.i64 v354 :: AV.lst false false 2 (List.map ep p6) :: topA 310 (AV.own 3 1 none false :: AV.int IntKind.i64 v353 :: AV.int IntKind.i64 v354 :: topA 8 (AV.lst false false 2 (List.map ep p6) :: AV.int IntKind.i64 (ilen (List.map ep p6)) :: AV.int IntKind.i64 v365 :: tops 203))))))))), [Blk.rows Mode.live 2 (List.map ep w0), Blk.rows Mode.live 2 (List.map ep w1), Blk.rows Mode.live 2 (List.map ep w2), Blk.rows Mode.live 1 (List.map eLP w3)])) (fun m4 (v365 : Int) => laws_FnBandsAround_l17 L (laws_FnBandsAround_l16 L m3) v11 v18 v22 v30 v39 v353 v354 w0 w1 w2 w3 p6 m4 v365) (fun _ => rfl) (fun m4 v365 rec4 hrec4 => ?_) L 0 ?_ ?_
                        rotate_left
                        ·first | rfl | simp only [ml] <;> rfl
                        ·first | rfl | simp only [ml] <;> rfl
                        show _ = Option.map _ (laws_FnBandsAround_l17 L (laws_FnBandsAround_l16 L m3) v11 v18 v22 v30 v39 v353 v354 w0 w1 w2 w3 p6 (m4 + 1) v365)
                        rw [laws_FnBandsAround_l17.eq_2]
                        conv => lhs; whnf
                        refine t_cond ?_ ?_
                        ·conv => lhs; whnf
                         refine t_get (en := ep) (l := p6) (by first | rfl | simp only [ml] <;> rfl) fun p7 => ?_
                         conv => lhs; whnf
                         refine t_call (h_impl_LayerOfPeg _ _ _ w0 (by first | rfl | simp only [ml] <;> rfl) (Pt.x p7) (Pt.y p7)) fun r33 => ?_
                         conv => lhs; whnf
                         refine t_cond ?_ ?_
                         ·conv => lhs; whnf
                          exact t_ret (by first | rfl | simp only [ml] <;> rfl)
                         ·conv => lhs; whnf
                          refine t_cond ?_ ?_
                          ·conv => lhs; whnf
                           exact t_ret (by first | rfl | simp only [ml] <;> rfl)
                          ·conv => lhs; whnf
                           refine t_cond ?_ ?_
                           ·conv => lhs; whnf
                            refine t_get (en := ep) (l := p6) (by first | rfl | simp only [ml] <;> rfl) fun p8 => ?_
                            conv => lhs; whnf
                            refine t_call (h_laws_eLess (Pt.x p8) (Pt.y p8) (Pt.x p7) (Pt.y p7)) fun r34 => ?_
                            conv => lhs; whnf
                            refine t_cond ?_ ?_
                            ·conv => lhs; whnf
                             exact t_ret (by first | rfl | simp only [ml] <;> rfl)
                            ·conv => lhs; whnf
                             exact hrec4 (wr IntKind.i64 (iadd v365 1)) _ _ (by first | rfl | simp only [ml] <;> rfl) (by first | rfl | simp only [ml] <;> rfl)
                           ·conv => lhs; whnf
                            exact hrec4 (wr IntKind.i64 (iadd v365 1)) _ _ (by first | rfl | simp only [ml] <;> rfl) (by first | rfl | simp only [ml] <;> rfl)
                        ·conv => lhs; whnf
                         exact hrec3 ((v11, v18, v22, v30, wr IntKind.i64 (iadd v39 (ilen (List.map ep p6))), v353, wr IntKind.i64 (iadd v354 1), w0, w1, w2, w3)) _ _ (by first | rfl | simp only [ml] <;> rfl) (by first | rfl | simp only [ml] <;> rfl)
                       ·conv => lhs; whnf
                        exact t_none
                      ·conv => lhs; whnf
                       refine t_cond ?_ ?_
                       ·conv => lhs; whnf
                        exact t_ret (by first | rfl | simp only [ml] <;> rfl)
                       ·conv => lhs; whnf
                        refine t_cond ?_ ?_
                        ·conv => lhs; whnf
                         refine t_get (en := eLP) (l := w3) (by first | rfl | simp only [ml] <;> rfl) fun p9 => ?_
                         conv => lhs; whnf
                         refine t_call (h_laws_ePegs _ _ _ p9 (by first | rfl | simp only [ml] <;> rfl) _ _ _ w2 (by first | rfl | simp only [ml] <;> rfl)) fun r35 => ?_
                         conv => lhs; whnf
                         refine t_cond ?_ ?_
                         ·conv => lhs; whnf
                          exact t_ret (by first | rfl | simp only [ml] <;> rfl)
                         ·conv => lhs; whnf
                          refine t_cond ?_ ?_
                          ·conv => lhs; whnf
                           refine t_cond ?_ ?_
                           ·conv => lhs; whnf
                            refine t_call (h_impl_TwiceArea _ _ _ w1 (by first | rfl | simp only [ml] <;> rfl)) fun r36 => ?_
                            conv => lhs; whnf
                            refine t_call (h_impl_PegsOn _ _ _ w1 (by first | rfl | simp only [ml] <;> rfl)) fun r37 => ?_
                            conv => lhs; whnf
                            refine t_call (h_impl_PegsInside _ _ _ w1 (by first | rfl | simp only [ml] <;> rfl)) fun r38 => ?_
                            conv => lhs; whnf
                            refine t_join (fun (v443 : Bool) => (AV.top :: AV.lst ob cb 1 (List.map eU v11) :: topA 20 (AV.int IntKind.i64 v22 :: topA 25 (AV.int IntKind.i64 (Prod.fst r37) :: AV.top :: AV.int IntKind.i64 (Prod.fst r38) :: AV.bool (Prod.snd r38) :: topA 391 (AV.bool v443 :: tops 125))), [])) (fun (v443 : Bool) => laws_FnBandsAround_j18 L v11 v22 r37 r38 v443) ?_ fun J13 hJ13 => ?_
                            ·intro v443
                             show _ = Option.map _ (laws_FnBandsAround_j18 L v11 v22 r37 r38 v443)
                             unfold laws_FnBandsAround_j18
                             conv => lhs; whnf
                             refine t_cond ?_ ?_
                             ·conv => lhs; whnf
                              exact t_ret (by first | rfl | simp only [ml] <;> rfl)
                             ·conv => lhs; whnf
                              refine t_cond ?_ ?_
                              ·conv => lhs; whnf
                               exact t_ret (by first | rfl | simp only [ml] <;> rfl)
                              ·conv => lhs; whnf
                               refine t_cond ?_ ?_
                               ·conv => lhs; whnf
                                exact t_ret (by first | rfl | simp only [ml] <;> rfl)
                               ·conv => lhs; whnf
                                exact hJ8 v11 _ _ (by first | rfl | simp only [ml] <;> rfl) (by first | rfl | simp only [ml] <;> rfl)
                            ·conv => lhs; whnf
                             refine t_cond ?_ ?_
                             ·conv => lhs; whnf
                              exact hJ13 true _ _ (by first | rfl | simp only [ml] <;> rfl) (by first | rfl | simp only [ml] <;> rfl)
                             ·conv => lhs; whnf
                              refine t_cond ?_ ?_
                              ·conv => lhs; whnf
                               exact hJ13 true _ _ (by first | rfl | simp only [ml] <;> rfl) (by first | rfl | simp only [ml] <;> rfl)
                              ·conv => lhs; whnf
                               exact hJ13 (!Prod.snd r37) _ _ (by first | rfl | simp only [ml] <;> rfl) (by first | rfl | simp only [ml] <;> rfl)
                           ·conv => lhs; whnf
                            exact hJ8 v11 _ _ (by first | rfl | simp only [ml] <;> rfl) (by first | rfl | simp only [ml] <;> rfl)
                          ·conv => lhs; whnf
                           exact hJ8 v11 _ _ (by first | rfl | simp only [ml] <;> rfl) (by first | rfl | simp only [ml] <;> rfl)
                        ·conv => lhs; whnf
                         exact t_none
                ·conv => lhs; whnf
                 refine t_cond ?_ ?_
                 ·conv => lhs; whnf
                  exact hJ12 true _ _ (by first | rfl | simp only [ml] <;> rfl) (by first | rfl | simp only [ml] <;> rfl)
                 ·conv => lhs; whnf
                  refine t_cond ?_ ?_
                  ·conv => lhs; whnf
                   exact hJ12 true _ _ (by first | rfl | simp only [ml] <;> rfl) (by first | rfl | simp only [ml] <;> rfl)
                  ·conv => lhs; whnf
                   exact hJ12 (ilt (Prod.fst r10) (ilen (List.map ep r1))) _ _ (by first | rfl | simp only [ml] <;> rfl) (by first | rfl | simp only [ml] <;> rfl)
               ·conv => lhs; whnf
                refine t_cond ?_ ?_
                ·conv => lhs; whnf
                 exact hJ11 true _ _ (by first | rfl | simp only [ml] <;> rfl) (by first | rfl | simp only [ml] <;> rfl)
                ·conv => lhs; whnf
                 refine t_cond ?_ ?_
                 ·conv => lhs; whnf
                  exact hJ11 true _ _ (by first | rfl | simp only [ml] <;> rfl) (by first | rfl | simp only [ml] <;> rfl)
                 ·conv => lhs; whnf
                  refine t_call (h_laws_ePegs _ _ _ (Prod.fst r27) (by first | rfl | simp only [ml] <;> rfl) _ _ _ (Prod.fst r2) (by first | rfl | simp only [ml] <;> rfl)) fun r39 => ?_
                  conv => lhs; whnf
                  exact hJ11 (!r39) _ _ (by first | rfl | simp only [ml] <;> rfl) (by first | rfl | simp only [ml] <;> rfl)
              ·conv => lhs; whnf
               exact hJ8 b _ _ (by first | rfl | simp only [ml] <;> rfl) (by first | rfl | simp only [ml] <;> rfl)
         ·conv => lhs; whnf
          refine t_cond ?_ ?_
          ·conv => lhs; whnf
           exact hJ7 true _ _ (by first | rfl | simp only [ml] <;> rfl) (by first | rfl | simp only [ml] <;> rfl)
          ·conv => lhs; whnf
           refine t_cond ?_ ?_
           ·conv => lhs; whnf
            exact hJ7 true _ _ (by first | rfl | simp only [ml] <;> rfl) (by first | rfl | simp only [ml] <;> rfl)
           ·conv => lhs; whnf
            exact hJ7 (!beqb (Prod.snd r8) (Prod.snd r2)) _ _ (by first | rfl | simp only [ml] <;> rfl) (by first | rfl | simp only [ml] <;> rfl)
        ·conv => lhs; whnf
         refine t_cond ?_ ?_
         ·conv => lhs; whnf
          exact hJ6 true _ _ (by first | rfl | simp only [ml] <;> rfl) (by first | rfl | simp only [ml] <;> rfl)
         ·conv => lhs; whnf
          refine t_call (h_impl_AreDifferent _ _ _ r1 (by first | rfl | simp only [ml] <;> rfl)) fun r40 => ?_
          conv => lhs; whnf
          refine t_call (h_spec_AreDifferent _ _ _ r1 (by first | rfl | simp only [ml] <;> rfl)) fun r41 => ?_
          conv => lhs; whnf
          refine t_cond ?_ ?_
          ·conv => lhs; whnf
           exact hJ6 true _ _ (by first | rfl | simp only [ml] <;> rfl) (by first | rfl | simp only [ml] <;> rfl)
          ·conv => lhs; whnf
           exact hJ6 (!beqb (Prod.snd r4) (Prod.snd r2)) _ _ (by first | rfl | simp only [ml] <;> rfl) (by first | rfl | simp only [ml] <;> rfl)
       ·conv => lhs; whnf
        refine t_cond ?_ ?_
        ·conv => lhs; whnf
         exact hJ5 true _ _ (by first | rfl | simp only [ml] <;> rfl) (by first | rfl | simp only [ml] <;> rfl)
        ·conv => lhs; whnf
         refine t_cond ?_ ?_
         ·conv => lhs; whnf
          exact hJ5 true _ _ (by first | rfl | simp only [ml] <;> rfl) (by first | rfl | simp only [ml] <;> rfl)
         ·conv => lhs; whnf
          refine t_call (h_impl_AreDifferent _ _ _ r1 (by first | rfl | simp only [ml] <;> rfl)) fun r42 => ?_
          conv => lhs; whnf
          exact hJ5 (!beqb (Prod.snd r2) r42) _ _ (by first | rfl | simp only [ml] <;> rfl) (by first | rfl | simp only [ml] <;> rfl)
      ·conv => lhs; whnf
       refine t_cond ?_ ?_
       ·conv => lhs; whnf
        exact hJ4 true _ _ (by first | rfl | simp only [ml] <;> rfl) (by first | rfl | simp only [ml] <;> rfl)
       ·conv => lhs; whnf
        refine t_cond ?_ ?_
        ·conv => lhs; whnf
         exact hJ4 true _ _ (by first | rfl | simp only [ml] <;> rfl) (by first | rfl | simp only [ml] <;> rfl)
        ·conv => lhs; whnf
         exact hJ4 (!beqb (Prod.snd r12) (Prod.snd r13)) _ _ (by first | rfl | simp only [ml] <;> rfl) (by first | rfl | simp only [ml] <;> rfl)
     ·conv => lhs; whnf
      refine t_cond ?_ ?_
      ·conv => lhs; whnf
       exact hJ3 true _ _ (by first | rfl | simp only [ml] <;> rfl) (by first | rfl | simp only [ml] <;> rfl)
      ·conv => lhs; whnf
       refine t_cond ?_ ?_
       ·conv => lhs; whnf
        exact hJ3 true _ _ (by first | rfl | simp only [ml] <;> rfl) (by first | rfl | simp only [ml] <;> rfl)
       ·conv => lhs; whnf
        exact hJ3 (!beqb (Prod.snd r10) (Prod.snd r11)) _ _ (by first | rfl | simp only [ml] <;> rfl) (by first | rfl | simp only [ml] <;> rfl)
    ·conv => lhs; whnf
     refine t_cond ?_ ?_
     ·conv => lhs; whnf
      exact hJ2 true _ _ (by first | rfl | simp only [ml] <;> rfl) (by first | rfl | simp only [ml] <;> rfl)
     ·conv => lhs; whnf
      refine t_call (h_laws_eLists _ _ _ (Prod.fst r6) (by first | rfl | simp only [ml] <;> rfl) _ _ _ (Prod.fst r7) (by first | rfl | simp only [ml] <;> rfl)) fun r43 => ?_
      conv => lhs; whnf
      refine t_cond ?_ ?_
      ·conv => lhs; whnf
       exact hJ2 true _ _ (by first | rfl | simp only [ml] <;> rfl) (by first | rfl | simp only [ml] <;> rfl)
      ·conv => lhs; whnf
       exact hJ2 (!beqb (Prod.snd r8) (Prod.snd r9)) _ _ (by first | rfl | simp only [ml] <;> rfl) (by first | rfl | simp only [ml] <;> rfl)
   ·conv => lhs; whnf
    refine t_cond ?_ ?_
    ·conv => lhs; whnf
     exact hJ1 true _ _ (by first | rfl | simp only [ml] <;> rfl) (by first | rfl | simp only [ml] <;> rfl)
    ·conv => lhs; whnf
     refine t_call (h_laws_ePegs _ _ _ (Prod.fst r4) (by first | rfl | simp only [ml] <;> rfl) _ _ _ (Prod.fst r5) (by first | rfl | simp only [ml] <;> rfl)) fun r44 => ?_
     conv => lhs; whnf
     refine t_cond ?_ ?_
     ·conv => lhs; whnf
      exact hJ1 true _ _ (by first | rfl | simp only [ml] <;> rfl) (by first | rfl | simp only [ml] <;> rfl)
     ·conv => lhs; whnf
      exact hJ1 (!beqb (Prod.snd r6) (Prod.snd r7)) _ _ (by first | rfl | simp only [ml] <;> rfl) (by first | rfl | simp only [ml] <;> rfl)
  ·conv => lhs; whnf
   refine t_cond ?_ ?_
   ·conv => lhs; whnf
    exact hJ true _ _ (by first | rfl | simp only [ml] <;> rfl) (by first | rfl | simp only [ml] <;> rfl)
   ·conv => lhs; whnf
    refine t_call (h_laws_ePegs _ _ _ (Prod.fst r2) (by first | rfl | simp only [ml] <;> rfl) _ _ _ (Prod.fst r3) (by first | rfl | simp only [ml] <;> rfl)) fun r45 => ?_
    conv => lhs; whnf
    refine t_cond ?_ ?_
    ·conv => lhs; whnf
     exact hJ true _ _ (by first | rfl | simp only [ml] <;> rfl) (by first | rfl | simp only [ml] <;> rfl)
    ·conv => lhs; whnf
     exact hJ (!beqb (Prod.snd r4) (Prod.snd r5)) _ _ (by first | rfl | simp only [ml] <;> rfl) (by first | rfl | simp only [ml] <;> rfl)
end Go.AM
