import Derived.Test.YtjedbgbiamndnaaGreatAmP0
set_option linter.unusedVariables false
set_option linter.unusedSimpArgs false
set_option linter.unnecessarySimpa false
set_option linter.deprecated false
set_option linter.unusedSectionVars false
open Go Go.AM Go.Proofs
namespace Go.AM
set_option maxRecDepth 400000
set_option maxHeartbeats 40000000
noncomputable def laws_FnWidthsLeast_l14 (L : Nat) (κ1 : Int → Int → Int → Int → Int → (List Pt) → (List Pt) → Option Bool) (v37 : Int) (v38 : Int) (v67 : Int) (v561 : Int) (v562 : Int) (w0 : List Pt) (w1 : List Pt) (p5 : Pt) : Nat → Bool → Int → Option Bool
  | 0, _, _ => none
  | m2 + 1, v71, v577 => bif ilt v577 (ilen (List.map ep w0)) then (bif ile 0 v577 && ilt v577 (ilen (List.map ep w0)) then (gbind (lget w0 v577) fun p6 => bif v71 then (laws_FnWidthsLeast_l14 L κ1 v37 v38 v67 v561 v562 w0 w1 p5 m2 true (wr .i64 (iadd v577 1))) else (laws_FnWidthsLeast_l14 L κ1 v37 v38 v67 v561 v562 w0 w1 p5 m2 (ieq p6.x p5.x && ieq p6.y p5.y) (wr .i64 (iadd v577 1)))) else (none)) else (bif ilt v67 (wr .i64 (iadd (wr .i64 (imul v37 p5.x)) (wr .i64 (imul v38 p5.y)))) then (some false) else (bif !beqb (ieq (wr .i64 (iadd (wr .i64 (imul v37 p5.x)) (wr .i64 (imul v38 p5.y)))) v67) v71 then (some false) else (κ1 v37 v38 v67 v561 (wr .i64 (iadd v562 1)) w0 w1)))
noncomputable def laws_FnWidthsLeast_l13 (L : Nat) : Nat → Int → Int → Int → Int → Int → (List Pt) → (List Pt) → Option Bool
  | 0, _, _, _, _, _, _, _ => none
  | m1 + 1, v37, v38, v67, v561, v562, w0, w1 => bif ilt v562 v561 then (bif ile 0 v562 && ilt v562 (ilen (List.map ep w1)) then (gbind (lget w1 v562) fun p5 => laws_FnWidthsLeast_l14 L (laws_FnWidthsLeast_l13 L m1) v37 v38 v67 v561 v562 w0 w1 p5 L false 0) else (none)) else (some true)
noncomputable def laws_FnWidthsLeast_j12 (L : Nat) (r10 : List Pt × Int × Int) (r11 : List Int × Bool) (r15 : List Pt × Bool) (r17 : Int × Bool) (v531 : Bool) : Option Bool := bif v531 then (some false) else (bif ile 0 r17.1 && ilt r17.1 (ilen (List.map eI r11.1)) then (gbind (lget r11.1 r17.1) fun p1 => bif ilt p1 (ilen (List.map ep r15.1)) then (some false) else (bif ile 0 0 && ilt 0 (ilen (List.map eI r11.1)) then (gbind (lget r11.1 0) fun p2 => bif ilt p2 1 then (some false) else (bif ile 0 0 && ilt 0 (ilen (List.map ep r15.1)) then (gbind (lget r15.1 0) fun p3 => bif ile 0 0 && ilt 0 (ilen (List.map ep r15.1)) then (gbind (lget r15.1 0) fun p4 => laws_FnWidthsLeast_l13 L L r10.2.1 r10.2.2 (wr .i64 (iadd (wr .i64 (imul r10.2.1 p3.x)) (wr .i64 (imul r10.2.2 p4.y)))) (ilen (List.map ep r10.1)) 0 r15.1 r10.1) else (none)) else (none))) else (none))) else (none))
noncomputable def laws_FnWidthsLeast_j11 (L : Nat) (r10 : List Pt × Int × Int) (r11 : List Int × Bool) (r13 : Int × Bool) (r15 : List Pt × Bool) (r17 : Int × Bool) (v62 : Int) (v521 : Bool) : Option Bool := bif v521 then (laws_FnWidthsLeast_j12 L r10 r11 r15 r17 true) else (bif !ieq v62 r13.1 then (laws_FnWidthsLeast_j12 L r10 r11 r15 r17 true) else (laws_FnWidthsLeast_j12 L r10 r11 r15 r17 (ilt (ilen (List.map ep r15.1)) 1)))
noncomputable def laws_FnWidthsLeast_l10 (L : Nat) (r10 : List Pt × Int × Int) (r11 : List Int × Bool) (r13 : Int × Bool) (r15 : List Pt × Bool) (r17 : Int × Bool) : Nat → Int → Int → Int → Option Bool
  | 0, _, _, _ => none
  | m + 1, v61, v62, v491 => bif ilt v491 (ilen (List.map eI r11.1)) then (bif ile 0 v491 && ilt v491 (ilen (List.map eI r11.1)) then (gbind (lget r11.1 v491) fun p => bif ilt v62 p then (laws_FnWidthsLeast_l10 L r10 r11 r13 r15 r17 m (wr .i64 (iadd v61 p)) p (wr .i64 (iadd v491 1))) else (laws_FnWidthsLeast_l10 L r10 r11 r13 r15 r17 m (wr .i64 (iadd v61 p)) v62 (wr .i64 (iadd v491 1)))) else (none)) else (gbind (impl_PegsInAll L r10.1) fun r22 => bif !ieq (ilen (List.map eI r11.1)) (wr .i64 (iadd r17.1 1)) then (laws_FnWidthsLeast_j11 L r10 r11 r13 r15 r17 v62 true) else (bif !r22.2 then (laws_FnWidthsLeast_j11 L r10 r11 r13 r15 r17 v62 true) else (laws_FnWidthsLeast_j11 L r10 r11 r13 r15 r17 v62 (!ieq v61 r22.1))))
noncomputable def laws_FnWidthsLeast_j9 (L : Nat) (r10 : List Pt × Int × Int) (r11 : List Int × Bool) (r13 : Int × Bool) (r15 : List Pt × Bool) (r17 : Int × Bool) (v477 : Bool) : Option Bool := bif v477 then (some false) else (bif !beqb r15.2 r11.2 then (some false) else (bif !beqb r17.2 r11.2 then (some false) else (bif r11.2 then (laws_FnWidthsLeast_l10 L r10 r11 r13 r15 r17 L 0 0 0) else (some true))))
noncomputable def laws_FnWidthsLeast_j8 (L : Nat) (r10 : List Pt × Int × Int) (r11 : List Int × Bool) (r13 : Int × Bool) (r15 : List Pt × Bool) (r17 : Int × Bool) (r20 : Int × Bool) (r21 : Int × Bool) (v467 : Bool) : Option Bool := bif v467 then (laws_FnWidthsLeast_j9 L r10 r11 r13 r15 r17 true) else (bif !ieq r20.1 r21.1 then (laws_FnWidthsLeast_j9 L r10 r11 r13 r15 r17 true) else (laws_FnWidthsLeast_j9 L r10 r11 r13 r15 r17 (!beqb r13.2 r11.2)))
noncomputable def laws_FnWidthsLeast_j7 (L : Nat) (r10 : List Pt × Int × Int) (r11 : List Int × Bool) (r13 : Int × Bool) (r15 : List Pt × Bool) (r17 : Int × Bool) (r18 : Int × Bool) (r20 : Int × Bool) (r21 : Int × Bool) (v457 : Bool) : Option Bool := bif v457 then (laws_FnWidthsLeast_j8 L r10 r11 r13 r15 r17 r20 r21 true) else (bif !ieq r17.1 r18.1 then (laws_FnWidthsLeast_j8 L r10 r11 r13 r15 r17 r20 r21 true) else (laws_FnWidthsLeast_j8 L r10 r11 r13 r15 r17 r20 r21 (!beqb r20.2 r21.2)))
noncomputable def laws_FnWidthsLeast_j6 (L : Nat) (r10 : List Pt × Int × Int) (r11 : List Int × Bool) (r13 : Int × Bool) (r15 : List Pt × Bool) (r16 : List Pt × Bool) (r17 : Int × Bool) (r18 : Int × Bool) (r20 : Int × Bool) (r21 : Int × Bool) (v446 : Bool) : Option Bool := bif v446 then (laws_FnWidthsLeast_j7 L r10 r11 r13 r15 r17 r18 r20 r21 true) else (gbind (laws_zPegs L r15.1 r16.1) fun r23 => bif !r23 then (laws_FnWidthsLeast_j7 L r10 r11 r13 r15 r17 r18 r20 r21 true) else (laws_FnWidthsLeast_j7 L r10 r11 r13 r15 r17 r18 r20 r21 (!beqb r17.2 r18.2)))
noncomputable def laws_FnWidthsLeast_j5 (L : Nat) (r10 : List Pt × Int × Int) (r11 : List Int × Bool) (r13 : Int × Bool) (r14 : Int × Bool) (r15 : List Pt × Bool) (r16 : List Pt × Bool) (r17 : Int × Bool) (r18 : Int × Bool) (r20 : Int × Bool) (r21 : Int × Bool) (v436 : Bool) : Option Bool := bif v436 then (laws_FnWidthsLeast_j6 L r10 r11 r13 r15 r16 r17 r18 r20 r21 true) else (bif !ieq r13.1 r14.1 then (laws_FnWidthsLeast_j6 L r10 r11 r13 r15 r16 r17 r18 r20 r21 true) else (laws_FnWidthsLeast_j6 L r10 r11 r13 r15 r16 r17 r18 r20 r21 (!beqb r15.2 r16.2)))
noncomputable def laws_FnWidthsLeast_j4 (L : Nat) (v1 : List Int) : Option Bool := gbind (spec_DrawPegsPerLine L v1) fun r10 => gbind (impl_PegsPerLine L r10.1 r10.2.1 r10.2.2) fun r11 => gbind (spec_PegsPerLine L r10.1 r10.2.1 r10.2.2) fun r12 => gbind (impl_MostOnLine L r10.1 r10.2.1 r10.2.2) fun r13 => gbind (spec_MostOnLine L r10.1 r10.2.1 r10.2.2) fun r14 => gbind (impl_SupportOf L r10.1 r10.2.1 r10.2.2) fun r15 => gbind (spec_SupportOf L r10.1 r10.2.1 r10.2.2) fun r16 => gbind (impl_WidthIn L r10.1 r10.2.1 r10.2.2) fun r17 => gbind (spec_WidthIn L r10.1 r10.2.1 r10.2.2) fun r18 => gbind (spec_DrawCountDirections L v1) fun r19 => gbind (impl_CountDirections L r19.1 r19.2) fun r20 => gbind (spec_CountDirections L r19.1 r19.2) fun r21 => bif !beqb r11.2 r12.2 then (laws_FnWidthsLeast_j5 L r10 r11 r13 r14 r15 r16 r17 r18 r20 r21 true) else (gbind (laws_zSame L r11.1 r12.1) fun r24 => bif !r24 then (laws_FnWidthsLeast_j5 L r10 r11 r13 r14 r15 r16 r17 r18 r20 r21 true) else (laws_FnWidthsLeast_j5 L r10 r11 r13 r14 r15 r16 r17 r18 r20 r21 (!beqb r13.2 r14.2)))
noncomputable def laws_FnWidthsLeast_j19 (L : Nat) (b : List Int) (r35 : Int × Bool) (v339 : Bool) : Option Bool := bif v339 then (some false) else (bif !ieq r35.1 0 then (some false) else (laws_FnWidthsLeast_j4 L b))
noncomputable def laws_FnWidthsLeast_l18 (L : Nat) (b : List Int) (r1 : List Pt) (r2 : Int × Bool) (r4 : List (List Int) × Bool) : Nat → Int → Option Bool
  | 0, _ => none
  | m3 + 1, v231 => bif ilt v231 (ilen (List.map eLI r4.1)) then (bif ile 0 v231 && ilt v231 (ilen (List.map eLI r4.1)) then (gbind (lget r4.1 v231) fun p7 => gbind (lget p7 0) fun p8 => bif ilt p8 0 then (some false) else (gbind (lget p7 0) fun p9 => bif ieq p9 0 then (gbind (lget p7 1) fun p10 => bif !ieq p10 1 then (some false) else (bif ilt 0 v231 then (bif ile 0 (wr .i64 (isub v231 1)) && ilt (wr .i64 (isub v231 1)) (ilen (List.map eLI r4.1)) then (gbind (lget r4.1 (wr .i64 (isub v231 1))) fun p11 => gbind (lget p11 0) fun p12 => gbind (lget p7 0) fun p13 => bif ilt p13 p12 then (some false) else (bif ile 0 (wr .i64 (isub v231 1)) && ilt (wr .i64 (isub v231 1)) (ilen (List.map eLI r4.1)) then (gbind (lget r4.1 (wr .i64 (isub v231 1))) fun p14 => gbind (lget p14 0) fun p15 => gbind (lget p7 0) fun p16 => bif ieq p15 p16 then (bif ile 0 (wr .i64 (isub v231 1)) && ilt (wr .i64 (isub v231 1)) (ilen (List.map eLI r4.1)) then (gbind (lget r4.1 (wr .i64 (isub v231 1))) fun p17 => gbind (lget p17 1) fun p18 => gbind (lget p7 1) fun p19 => bif ile p19 p18 then (some false) else (gbind (lget p7 0) fun p20 => gbind (lget p7 1) fun p21 => gbind (impl_WidthIn L r1 p20 p21) fun r28 => bif r28.2 then (bif !ieq r28.1 r2.1 then (some false) else (laws_FnWidthsLeast_l18 L b r1 r2 r4 m3 (wr .i64 (iadd v231 1)))) else (laws_FnWidthsLeast_l18 L b r1 r2 r4 m3 (wr .i64 (iadd v231 1))))) else (none)) else (gbind (lget p7 0) fun p22 => gbind (lget p7 1) fun p23 => gbind (impl_WidthIn L r1 p22 p23) fun r29 => bif r29.2 then (bif !ieq r29.1 r2.1 then (some false) else (laws_FnWidthsLeast_l18 L b r1 r2 r4 m3 (wr .i64 (iadd v231 1)))) else (laws_FnWidthsLeast_l18 L b r1 r2 r4 m3 (wr .i64 (iadd v231 1))))) else (none))) else (none)) else (gbind (lget p7 0) fun p24 => gbind (lget p7 1) fun p25 => gbind (impl_WidthIn L r1 p24 p25) fun r30 => bif r30.2 then (bif !ieq r30.1 r2.1 then (some false) else (laws_FnWidthsLeast_l18 L b r1 r2 r4 m3 (wr .i64 (iadd v231 1)))) else (laws_FnWidthsLeast_l18 L b r1 r2 r4 m3 (wr .i64 (iadd v231 1)))))) else (bif ilt 0 v231 then (bif ile 0 (wr .i64 (isub v231 1)) && ilt (wr .i64 (isub v231 1)) (ilen (List.map eLI r4.1)) then (gbind (lget r4.1 (wr .i64 (isub v231 1))) fun p26 => gbind (lget p26 0) fun p27 => gbind (lget p7 0) fun p28 => bif ilt p28 p27 then (some false) else (bif ile 0 (wr .i64 (isub v231 1)) && ilt (wr .i64 (isub v231 1)) (ilen (List.map eLI r4.1)) then (gbind (lget r4.1 (wr .i64 (isub v231 1))) fun p29 => gbind (lget p29 0) fun p30 => gbind (lget p7 0) fun p31 => bif ieq p30 p31 then (bif ile 0 (wr .i64 (isub v231 1)) && ilt (wr .i64 (isub v231 1)) (ilen (List.map eLI r4.1)) then (gbind (lget r4.1 (wr .i64 (isub v231 1))) fun p32 => gbind (lget p32 1) fun p33 => gbind (lget p7 1) fun p34 => bif ile p34 p33 then (some false) else (gbind (lget p7 0) fun p35 => gbind (lget p7 1) fun p36 => gbind (impl_WidthIn L r1 p35 p36) fun r31 => bif r31.2 then (bif !ieq r31.1 r2.1 then (some false) else (laws_FnWidthsLeast_l18 L b r1 r2 r4 m3 (wr .i64 (iadd v231 1)))) else (laws_FnWidthsLeast_l18 L b r1 r2 r4 m3 (wr .i64 (iadd v231 1))))) else (none)) else (gbind (lget p7 0) fun p37 => gbind (lget p7 1) fun p38 => gbind (impl_WidthIn L r1 p37 p38) fun r32 => bif r32.2 then (bif !ieq r32.1 r2.1 then (some false) else (laws_FnWidthsLeast_l18 L b r1 r2 r4 m3 (wr .i64 (iadd v231 1)))) else (laws_FnWidthsLeast_l18 L b r1 r2 r4 m3 (wr .i64 (iadd v231 1))))) else (none))) else (none)) else (gbind (lget p7 0) fun p39 => gbind (lget p7 1) fun p40 => gbind (impl_WidthIn L r1 p39 p40) fun r33 => bif r33.2 then (bif !ieq r33.1 r2.1 then (some false) else (laws_FnWidthsLeast_l18 L b r1 r2 r4 m3 (wr .i64 (iadd v231 1)))) else (laws_FnWidthsLeast_l18 L b r1 r2 r4 m3 (wr .i64 (iadd v231 1))))))) else (none)) else (bif ile r2.1 60 then (gbind (impl_CountDirections L r1 r2.1) fun r34 => gbind (impl_CountDirections L r1 (wr .i64 (isub r2.1 1))) fun r35 => bif !r34.2 then (laws_FnWidthsLeast_j19 L b r35 true) else (bif !ieq r34.1 (ilen (List.map eLI r4.1)) then (laws_FnWidthsLeast_j19 L b r35 true) else (laws_FnWidthsLeast_j19 L b r35 (!r35.2)))) else (laws_FnWidthsLeast_j4 L b))
noncomputable def laws_FnWidthsLeast_j17 (L : Nat) (b : List Int) (r1 : List Pt) (r2 : Int × Bool) (r4 : List (List Int) × Bool) (r6 : Bool × Bool) (v217 : Bool) : Option Bool := bif v217 then (some false) else (bif !beqb r6.1 (ieq r2.1 1) then (some false) else (bif ilt (ilen (List.map eLI r4.1)) 1 then (some false) else (laws_FnWidthsLeast_l18 L b r1 r2 r4 L 0)))
noncomputable def laws_FnWidthsLeast_j16 (L : Nat) (b : List Int) (r1 : List Pt) (r2 : Int × Bool) (r4 : List (List Int) × Bool) (r6 : Bool × Bool) (r27 : Int × Bool) (v208 : Bool) : Option Bool := bif v208 then (laws_FnWidthsLeast_j17 L b r1 r2 r4 r6 true) else (bif ilt r27.1 r2.1 then (laws_FnWidthsLeast_j17 L b r1 r2 r4 r6 true) else (laws_FnWidthsLeast_j17 L b r1 r2 r4 r6 (ilt r2.1 1)))
noncomputable def laws_FnWidthsLeast_j15 (L : Nat) (b : List Int) (r1 : List Pt) (r2 : Int × Bool) (r4 : List (List Int) × Bool) (r6 : Bool × Bool) (r26 : Int × Bool) (r27 : Int × Bool) (v199 : Bool) : Option Bool := bif v199 then (laws_FnWidthsLeast_j16 L b r1 r2 r4 r6 r27 true) else (bif ilt r26.1 r2.1 then (laws_FnWidthsLeast_j16 L b r1 r2 r4 r6 r27 true) else (laws_FnWidthsLeast_j16 L b r1 r2 r4 r6 r27 (!r27.2)))
noncomputable def laws_FnWidthsLeast_j3 (L : Nat) (b : List Int) (r1 : List Pt) (r2 : Int × Bool) (r4 : List (List Int) × Bool) (r6 : Bool × Bool) (r8 : Int × Bool) (v162 : Bool) : Option Bool := bif v162 then (some false) else (bif !beqb r6.2 r2.2 then (some false) else (bif !beqb r8.2 r2.2 then (some false) else (bif r2.2 then (gbind (impl_WidthIn L r1 1 0) fun r25 => gbind (impl_WidthIn L r1 0 1) fun r26 => gbind (impl_WidthIn L r1 1 (-1)) fun r27 => bif !r25.2 then (laws_FnWidthsLeast_j15 L b r1 r2 r4 r6 r26 r27 true) else (bif ilt r25.1 r2.1 then (laws_FnWidthsLeast_j15 L b r1 r2 r4 r6 r26 r27 true) else (laws_FnWidthsLeast_j15 L b r1 r2 r4 r6 r26 r27 (!r26.2)))) else (laws_FnWidthsLeast_j4 L b))))
noncomputable def laws_FnWidthsLeast_j2 (L : Nat) (b : List Int) (r1 : List Pt) (r2 : Int × Bool) (r4 : List (List Int) × Bool) (r6 : Bool × Bool) (r8 : Int × Bool) (r9 : Int × Bool) (v152 : Bool) : Option Bool := bif v152 then (laws_FnWidthsLeast_j3 L b r1 r2 r4 r6 r8 true) else (bif !ieq r8.1 r9.1 then (laws_FnWidthsLeast_j3 L b r1 r2 r4 r6 r8 true) else (laws_FnWidthsLeast_j3 L b r1 r2 r4 r6 r8 (!beqb r4.2 r2.2)))
noncomputable def laws_FnWidthsLeast_j1 (L : Nat) (b : List Int) (r1 : List Pt) (r2 : Int × Bool) (r4 : List (List Int) × Bool) (r6 : Bool × Bool) (r7 : Bool × Bool) (r8 : Int × Bool) (r9 : Int × Bool) (v142 : Bool) : Option Bool := bif v142 then (laws_FnWidthsLeast_j2 L b r1 r2 r4 r6 r8 r9 true) else (bif !beqb r6.1 r7.1 then (laws_FnWidthsLeast_j2 L b r1 r2 r4 r6 r8 r9 true) else (laws_FnWidthsLeast_j2 L b r1 r2 r4 r6 r8 r9 (!beqb r8.2 r9.2)))
noncomputable def laws_FnWidthsLeast_j0 (L : Nat) (b : List Int) (r1 : List Pt) (r2 : Int × Bool) (r4 : List (List Int) × Bool) (r5 : List (List Int) × Bool) (r6 : Bool × Bool) (r7 : Bool × Bool) (r8 : Int × Bool) (r9 : Int × Bool) (v131 : Bool) : Option Bool := bif v131 then (laws_FnWidthsLeast_j1 L b r1 r2 r4 r6 r7 r8 r9 true) else (gbind (laws_zRows L r4.1 r5.1) fun r36 => bif !r36 then (laws_FnWidthsLeast_j1 L b r1 r2 r4 r6 r7 r8 r9 true) else (laws_FnWidthsLeast_j1 L b r1 r2 r4 r6 r7 r8 r9 (!beqb r6.2 r7.2)))
noncomputable def laws_FnWidthsLeast (L : Nat) (a : List Int) (b : List Int) : Option (Bool) := gbind (laws_big L a b) fun r => bif r then (some true) else (gbind (spec_DrawLeastWidth L a) fun r1 => gbind (impl_LeastWidth L r1) fun r2 => gbind (spec_LeastWidth L r1) fun r3 => gbind (impl_DirectionsOfWidth L r1) fun r4 => gbind (spec_DirectionsOfWidth L r1) fun r5 => gbind (impl_IsThin L r1) fun r6 => gbind (spec_IsThin L r1) fun r7 => gbind (impl_PegsInAll L r1) fun r8 => gbind (spec_PegsInAll L r1) fun r9 => bif !beqb r2.2 r3.2 then (laws_FnWidthsLeast_j0 L b r1 r2 r4 r5 r6 r7 r8 r9 true) else (bif !ieq r2.1 r3.1 then (laws_FnWidthsLeast_j0 L b r1 r2 r4 r5 r6 r7 r8 r9 true) else (laws_FnWidthsLeast_j0 L b r1 r2 r4 r5 r6 r7 r8 r9 (!beqb r4.2 r5.2))))
def laws_FnWidthsLeast_ok (L : Nat) (C : CF) : Prop := ∀ (oa : Bool) (ca : Bool) (x_a : List AV) (a : List Int) (_ : x_a = List.map eU a) (ob : Bool) (cb : Bool) (x_b : List AV) (b : List Int) (_ : x_b = List.map eU b), C 3 ([.lst oa ca 1 x_a, .lst ob cb 1 x_b]) ([]) = Option.map (fun r : Bool => ((.bool r, []) : AV × List Blk)) (laws_FnWidthsLeast L a b)
theorem laws_FnWidthsLeast_run (L : Nat) (C : CF) (h_laws_big : laws_big_ok L C) (h_spec_DrawLeastWidth : spec_DrawLeastWidth_ok L C) (h_impl_LeastWidth : impl_LeastWidth_ok L C) (h_spec_LeastWidth : spec_LeastWidth_ok L C) (h_impl_DirectionsOfWidth : impl_DirectionsOfWidth_ok L C) (h_spec_DirectionsOfWidth : spec_DirectionsOfWidth_ok L C) (h_impl_IsThin : impl_IsThin_ok L C) (h_spec_IsThin : spec_IsThin_ok L C) (h_impl_PegsInAll : impl_PegsInAll_ok L C) (h_spec_PegsInAll : spec_PegsInAll_ok L C) (h_laws_zSame : laws_zSame_ok L C) (h_laws_zRows : laws_zRows_ok L C) (h_impl_WidthIn : impl_WidthIn_ok L C) (h_impl_CountDirections : impl_CountDirections_ok L C) (h_spec_DrawPegsPerLine : spec_DrawPegsPerLine_ok L C) (h_impl_PegsPerLine : impl_PegsPerLine_ok L C) (h_spec_PegsPerLine : spec_PegsPerLine_ok L C) (h_impl_MostOnLine : impl_MostOnLine_ok L C) (h_spec_MostOnLine : spec_MostOnLine_ok L C) (h_impl_SupportOf : impl_SupportOf_ok L C) (h_spec_SupportOf : spec_SupportOf_ok L C) (h_spec_WidthIn : spec_WidthIn_ok L C) (h_spec_DrawCountDirections : spec_DrawCountDirections_ok L C) (h_spec_CountDirections : spec_CountDirections_ok L C) (h_laws_zPegs : laws_zPegs_ok L C) : laws_FnWidthsLeast_ok L (fun _ => run T C sh (keep 3) L Tryz.f3) := by
 intro oa ca x_a a hx_a ob cb x_b b hx_b
 subst hx_a
 subst hx_b
 unfold laws_FnWidthsLeast
 conv=>lhs;whnf
 refine t_call (h_laws_big _ _ _ a (by first | rfl | simp only [ml] <;> rfl) _ _ _ b (by first | rfl | simp only [ml] <;> rfl)) fun r => ?_
 conv=>lhs;whnf
 refine t_cond ?_ ?_
 ·conv=>lhs;whnf
  exact t_ret (by first | rfl | simp only [ml] <;> rfl)
 ·conv=>lhs;whnf
  refine t_call (h_spec_DrawLeastWidth _ _ _ a (by first | rfl | simp only [ml] <;> rfl)) fun r1 => ?_
  conv=>lhs;whnf
  refine t_call (h_impl_LeastWidth _ _ _ r1 (by first | rfl | simp only [ml] <;> rfl)) fun r2 => ?_
  conv=>lhs;whnf
  refine t_call (h_spec_LeastWidth _ _ _ r1 (by first | rfl | simp only [ml] <;> rfl)) fun r3 => ?_
  conv=>lhs;whnf
  refine t_call (h_impl_DirectionsOfWidth _ _ _ r1 (by first | rfl | simp only [ml] <;> rfl)) fun r4 => ?_
  conv=>lhs;whnf
  refine t_call (h_spec_DirectionsOfWidth _ _ _ r1 (by first | rfl | simp only [ml] <;> rfl)) fun r5 => ?_
  conv=>lhs;whnf
  refine t_call (h_impl_IsThin _ _ _ r1 (by first | rfl | simp only [ml] <;> rfl)) fun r6 => ?_
  conv=>lhs;whnf
  refine t_call (h_spec_IsThin _ _ _ r1 (by first | rfl | simp only [ml] <;> rfl)) fun r7 => ?_
  conv=>lhs;whnf
  refine t_call (h_impl_PegsInAll _ _ _ r1 (by first | rfl | simp only [ml] <;> rfl)) fun r8 => ?_
  conv=>lhs;whnf
  refine t_call (h_spec_PegsInAll _ _ _ r1 (by first | rfl | simp only [ml] <;> rfl)) fun r9 => ?_
  conv=>lhs;whnf
  refine t_join (fun (v131 : Bool) => (AV.top :: AV.lst ob cb 1 (List.map eU b) :: topA 3 (AV.own 0 2 none false :: AV.int .i64 r2.1 :: AV.bool r2.2 :: topA 2 (AV.own 1 1 none false :: AV.bool r4.2 :: AV.lst false false 1 (List.map eLI r5.1) :: AV.top :: AV.bool r6.1 :: AV.bool r6.2 :: AV.bool r7.1 :: AV.bool r7.2 :: AV.int .i64 r8.1 :: AV.bool r8.2 :: AV.int .i64 r9.1 :: AV.bool r9.2 :: topA 109 (AV.bool v131 :: tops 467))), [Blk.rows Mode.live 2 (List.map ep r1), Blk.rows Mode.live 1 (List.map eLI r4.1)])) (fun (v131 : Bool) => laws_FnWidthsLeast_j0 L b r1 r2 r4 r5 r6 r7 r8 r9 v131) ?_ fun J hJ => ?_
  ·intro v131
   show _ = Option.map _ (laws_FnWidthsLeast_j0 L b r1 r2 r4 r5 r6 r7 r8 r9 v131)
   unfold laws_FnWidthsLeast_j0
   conv=>lhs;whnf
   refine t_join (fun (v142 : Bool) => (AV.top :: AV.lst ob cb 1 (List.map eU b) :: topA 3 (AV.own 0 2 none false :: AV.int .i64 r2.1 :: AV.bool r2.2 :: topA 2 (AV.own 1 1 none false :: AV.bool r4.2 :: topA 2 (AV.bool r6.1 :: AV.bool r6.2 :: AV.bool r7.1 :: AV.top :: AV.int .i64 r8.1 :: AV.bool r8.2 :: AV.int .i64 r9.1 :: AV.bool r9.2 :: topA 120 (AV.bool v142 :: tops 456)))), [Blk.rows Mode.live 2 (List.map ep r1), Blk.rows Mode.live 1 (List.map eLI r4.1)])) (fun (v142 : Bool) => laws_FnWidthsLeast_j1 L b r1 r2 r4 r6 r7 r8 r9 v142) ?_ fun J1 hJ1 => ?_
   ·intro v142
    show _ = Option.map _ (laws_FnWidthsLeast_j1 L b r1 r2 r4 r6 r7 r8 r9 v142)
    unfold laws_FnWidthsLeast_j1
    conv=>lhs;whnf
    refine t_join (fun (v152 : Bool) => (AV.top :: AV.lst ob cb 1 (List.map eU b) :: topA 3 (AV.own 0 2 none false :: AV.int .i64 r2.1 :: AV.bool r2.2 :: topA 2 (AV.own 1 1 none false :: AV.bool r4.2 :: topA 2 (AV.bool r6.1 :: AV.bool r6.2 :: topA 2 (AV.int .i64 r8.1 :: AV.bool r8.2 :: AV.int .i64 r9.1 :: topA 131 (AV.bool v152 :: tops 446))))), [Blk.rows Mode.live 2 (List.map ep r1), Blk.rows Mode.live 1 (List.map eLI r4.1)])) (fun (v152 : Bool) => laws_FnWidthsLeast_j2 L b r1 r2 r4 r6 r8 r9 v152) ?_ fun J2 hJ2 => ?_
    ·intro v152
     show _ = Option.map _ (laws_FnWidthsLeast_j2 L b r1 r2 r4 r6 r8 r9 v152)
     unfold laws_FnWidthsLeast_j2
     conv=>lhs;whnf
     refine t_join (fun (v162 : Bool) => (AV.top :: AV.lst ob cb 1 (List.map eU b) :: topA 3 (AV.own 0 2 none false :: AV.int .i64 r2.1 :: AV.bool r2.2 :: topA 2 (AV.own 1 1 none false :: topA 3 (AV.bool r6.1 :: AV.bool r6.2 :: topA 3 (AV.bool r8.2 :: topA 142 (AV.bool v162 :: tops 436))))), [Blk.rows Mode.live 2 (List.map ep r1), Blk.rows Mode.live 1 (List.map eLI r4.1)])) (fun (v162 : Bool) => laws_FnWidthsLeast_j3 L b r1 r2 r4 r6 r8 v162) ?_ fun J3 hJ3 => ?_
     ·intro v162
      show _ = Option.map _ (laws_FnWidthsLeast_j3 L b r1 r2 r4 r6 r8 v162)
      unfold laws_FnWidthsLeast_j3
      conv=>lhs;whnf
      refine t_cond ?_ ?_
      ·conv=>lhs;whnf
       exact t_ret (by first | rfl | simp only [ml] <;> rfl)
      ·conv=>lhs;whnf
       refine t_cond ?_ ?_
       ·conv=>lhs;whnf
        exact t_ret (by first | rfl | simp only [ml] <;> rfl)
       ·conv=>lhs;whnf
        refine t_cond ?_ ?_
        ·conv=>lhs;whnf
         exact t_ret (by first | rfl | simp only [ml] <;> rfl)
        ·conv=>lhs;whnf
         refine t_join (fun (v1 : (List Int)) => (AV.top :: AV.lst ob cb 1 (List.map eU v1) :: tops 597, [])) (fun (v1 : (List Int)) => laws_FnWidthsLeast_j4 L v1) ?_ fun J4 hJ4 => ?_
         ·intro v1
          show _ = Option.map _ (laws_FnWidthsLeast_j4 L v1)
          unfold laws_FnWidthsLeast_j4
          conv=>lhs;whnf
          refine t_call (h_spec_DrawPegsPerLine _ _ _ v1 (by first | rfl | simp only [ml] <;> rfl)) fun r10 => ?_
          conv=>lhs;whnf
          refine t_call (h_impl_PegsPerLine _ _ _ r10.1 (by first | rfl | simp only [ml] <;> rfl) r10.2.1 r10.2.2) fun r11 => ?_
          conv=>lhs;whnf
          refine t_call (h_spec_PegsPerLine _ _ _ r10.1 (by first | rfl | simp only [ml] <;> rfl) r10.2.1 r10.2.2) fun r12 => ?_
          conv=>lhs;whnf
          refine t_call (h_impl_MostOnLine _ _ _ r10.1 (by first | rfl | simp only [ml] <;> rfl) r10.2.1 r10.2.2) fun r13 => ?_
          conv=>lhs;whnf
          refine t_call (h_spec_MostOnLine _ _ _ r10.1 (by first | rfl | simp only [ml] <;> rfl) r10.2.1 r10.2.2) fun r14 => ?_
          conv=>lhs;whnf
          refine t_call (h_impl_SupportOf _ _ _ r10.1 (by first | rfl | simp only [ml] <;> rfl) r10.2.1 r10.2.2) fun r15 => ?_
          conv=>lhs;whnf
          refine t_call (h_spec_SupportOf _ _ _ r10.1 (by first | rfl | simp only [ml] <;> rfl) r10.2.1 r10.2.2) fun r16 => ?_
          conv=>lhs;whnf
          refine t_call (h_impl_WidthIn _ _ _ r10.1 (by first | rfl | simp only [ml] <;> rfl) r10.2.1 r10.2.2) fun r17 => ?_
          conv=>lhs;whnf
          refine t_call (h_spec_WidthIn _ _ _ r10.1 (by first | rfl | simp only [ml] <;> rfl) r10.2.1 r10.2.2) fun r18 => ?_
          conv=>lhs;whnf
          refine t_call (h_spec_DrawCountDirections _ _ _ v1 (by first | rfl | simp only [ml] <;> rfl)) fun r19 => ?_
          conv=>lhs;whnf
          refine t_call (h_impl_CountDirections _ _ _ r19.1 (by first | rfl | simp only [ml] <;> rfl) r19.2) fun r20 => ?_
          conv=>lhs;whnf
          refine t_call (h_spec_CountDirections _ _ _ r19.1 (by first | rfl | simp only [ml] <;> rfl) r19.2) fun r21 => ?_
          conv=>lhs;whnf
          refine t_join (fun (v436 : Bool) => (topA 36 (AV.own 0 2 none false :: AV.int .i64 r10.2.1 :: AV.int .i64 r10.2.2 :: AV.own 1 1 none false :: AV.bool r11.2 :: topA 2 (AV.int .i64 r13.1 :: AV.bool r13.2 :: AV.int .i64 r14.1 :: AV.top :: AV.own 2 2 none false :: AV.bool r15.2 :: AV.lst false false 2 (List.map ep r16.1) :: AV.bool r16.2 :: AV.int .i64 r17.1 :: AV.bool r17.2 :: AV.int .i64 r18.1 :: AV.bool r18.2 :: topA 2 (AV.int .i64 r20.1 :: AV.bool r20.2 :: AV.int .i64 r21.1 :: AV.bool r21.2 :: topA 375 (AV.bool v436 :: tops 162)))), [Blk.rows Mode.live 2 (List.map ep r10.1), Blk.rows Mode.live 1 (List.map eI r11.1), Blk.rows Mode.live 2 (List.map ep r15.1)])) (fun (v436 : Bool) => laws_FnWidthsLeast_j5 L r10 r11 r13 r14 r15 r16 r17 r18 r20 r21 v436) ?_ fun J5 hJ5 => ?_
          ·intro v436
           show _ = Option.map _ (laws_FnWidthsLeast_j5 L r10 r11 r13 r14 r15 r16 r17 r18 r20 r21 v436)
           unfold laws_FnWidthsLeast_j5
           conv=>lhs;whnf
           refine t_join (fun (v446 : Bool) => (topA 36 (AV.own 0 2 none false :: AV.int .i64 r10.2.1 :: AV.int .i64 r10.2.2 :: AV.own 1 1 none false :: AV.bool r11.2 :: topA 2 (AV.int .i64 r13.1 :: AV.bool r13.2 :: topA 2 (AV.own 2 2 none false :: AV.bool r15.2 :: AV.lst false false 2 (List.map ep r16.1) :: AV.top :: AV.int .i64 r17.1 :: AV.bool r17.2 :: AV.int .i64 r18.1 :: AV.bool r18.2 :: topA 2 (AV.int .i64 r20.1 :: AV.bool r20.2 :: AV.int .i64 r21.1 :: AV.bool r21.2 :: topA 385 (AV.bool v446 :: tops 152))))), [Blk.rows Mode.live 2 (List.map ep r10.1), Blk.rows Mode.live 1 (List.map eI r11.1), Blk.rows Mode.live 2 (List.map ep r15.1)])) (fun (v446 : Bool) => laws_FnWidthsLeast_j6 L r10 r11 r13 r15 r16 r17 r18 r20 r21 v446) ?_ fun J6 hJ6 => ?_
           ·intro v446
            show _ = Option.map _ (laws_FnWidthsLeast_j6 L r10 r11 r13 r15 r16 r17 r18 r20 r21 v446)
            unfold laws_FnWidthsLeast_j6
            conv=>lhs;whnf
            refine t_join (fun (v457 : Bool) => (topA 36 (AV.own 0 2 none false :: AV.int .i64 r10.2.1 :: AV.int .i64 r10.2.2 :: AV.own 1 1 none false :: AV.bool r11.2 :: topA 2 (AV.int .i64 r13.1 :: AV.bool r13.2 :: topA 2 (AV.own 2 2 none false :: AV.bool r15.2 :: topA 2 (AV.int .i64 r17.1 :: AV.bool r17.2 :: AV.int .i64 r18.1 :: topA 3 (AV.int .i64 r20.1 :: AV.bool r20.2 :: AV.int .i64 r21.1 :: AV.bool r21.2 :: topA 396 (AV.bool v457 :: tops 141)))))), [Blk.rows Mode.live 2 (List.map ep r10.1), Blk.rows Mode.live 1 (List.map eI r11.1), Blk.rows Mode.live 2 (List.map ep r15.1)])) (fun (v457 : Bool) => laws_FnWidthsLeast_j7 L r10 r11 r13 r15 r17 r18 r20 r21 v457) ?_ fun J7 hJ7 => ?_
            ·intro v457
             show _ = Option.map _ (laws_FnWidthsLeast_j7 L r10 r11 r13 r15 r17 r18 r20 r21 v457)
             unfold laws_FnWidthsLeast_j7
             conv=>lhs;whnf
             refine t_join (fun (v467 : Bool) => (topA 36 (AV.own 0 2 none false :: AV.int .i64 r10.2.1 :: AV.int .i64 r10.2.2 :: AV.own 1 1 none false :: AV.bool r11.2 :: topA 2 (AV.int .i64 r13.1 :: AV.bool r13.2 :: topA 2 (AV.own 2 2 none false :: AV.bool r15.2 :: topA 2 (AV.int .i64 r17.1 :: AV.bool r17.2 :: topA 4 (AV.int .i64 r20.1 :: AV.top :: AV.int .i64 r21.1 :: topA 407 (AV.bool v467 :: tops 131)))))), [Blk.rows Mode.live 2 (List.map ep r10.1), Blk.rows Mode.live 1 (List.map eI r11.1), Blk.rows Mode.live 2 (List.map ep r15.1)])) (fun (v467 : Bool) => laws_FnWidthsLeast_j8 L r10 r11 r13 r15 r17 r20 r21 v467) ?_ fun J8 hJ8 => ?_
             ·intro v467
              show _ = Option.map _ (laws_FnWidthsLeast_j8 L r10 r11 r13 r15 r17 r20 r21 v467)
              unfold laws_FnWidthsLeast_j8
              conv=>lhs;whnf
              refine t_join (fun (v477 : Bool) => (topA 36 (AV.own 0 2 none false :: AV.int .i64 r10.2.1 :: AV.int .i64 r10.2.2 :: AV.own 1 1 none false :: AV.bool r11.2 :: topA 2 (AV.int .i64 r13.1 :: topA 3 (AV.own 2 2 none false :: AV.bool r15.2 :: topA 2 (AV.int .i64 r17.1 :: AV.bool r17.2 :: topA 424 (AV.bool v477 :: tops 121))))), [Blk.rows Mode.live 2 (List.map ep r10.1), Blk.rows Mode.live 1 (List.map eI r11.1), Blk.rows Mode.live 2 (List.map ep r15.1)])) (fun (v477 : Bool) => laws_FnWidthsLeast_j9 L r10 r11 r13 r15 r17 v477) ?_ fun J9 hJ9 => ?_
              ·intro v477
               show _ = Option.map _ (laws_FnWidthsLeast_j9 L r10 r11 r13 r15 r17 v477)
               unfold laws_FnWidthsLeast_j9
               conv=>lhs;whnf
               refine t_cond ?_ ?_
               ·conv=>lhs;whnf
                exact t_ret (by first | rfl | simp only [ml] <;> rfl)
               ·conv=>lhs;whnf
                refine t_cond ?_ ?_
                ·conv=>lhs;whnf
                 exact t_ret (by first | rfl | simp only [ml] <;> rfl)
                ·conv=>lhs;whnf
                 refine t_cond ?_ ?_
                 ·conv=>lhs;whnf
                  exact t_ret (by first | rfl | simp only [ml] <;> rfl)
                 ·conv=>lhs;whnf
                  refine t_cond ?_ ?_
                  ·conv=>lhs;whnf
                   refine t_loop (fun (⟨v61, v62, v491⟩ : Int × Int × Int) => (topA 36 (AV.own 0 2 none false :: AV.int .i64 r10.2.1 :: AV.int .i64 r10.2.2 :: AV.own 1 1 none false :: topA 3 (AV.int .i64 r13.1 :: topA 3 (AV.own 2 2 none false :: topA 3 (AV.int .i64 r17.1 :: topA 9 (AV.int .i64 v61 :: AV.int .i64 v62 :: topA 426 (AV.own 1 1 none false :: AV.int .i64 (ilen (List.map eI r11.1)) :: AV.int .i64 v491 :: tops 107)))))), [Blk.rows Mode.live 2 (List.map ep r10.1), Blk.rows Mode.live 1 (List.map eI r11.1), Blk.rows Mode.live 2 (List.map ep r15.1)])) (fun m (⟨v61, v62, v491⟩ : Int × Int × Int) => laws_FnWidthsLeast_l10 L r10 r11 r13 r15 r17 m v61 v62 v491) (fun _ => rfl) (fun m s10 rec hrec => ?_) L ((0, 0, 0)) ?_ ?_
                   rotate_left
                   ·first | rfl | simp only [ml] <;> rfl
                   ·first | rfl | simp only [ml] <;> rfl
                   obtain ⟨v61, v62, v491⟩ := s10
                   show _ = Option.map _ (laws_FnWidthsLeast_l10 L r10 r11 r13 r15 r17 (m + 1) v61 v62 v491)
                   rw [laws_FnWidthsLeast_l10.eq_2]
                   conv=>lhs;whnf
                   refine t_cond ?_ ?_
                   ·conv=>lhs;whnf
                    refine t_cond ?_ ?_
                    ·conv=>lhs;whnf
                     refine t_get (en := eI) (l := r11.1) (by first | rfl | simp only [ml] <;> rfl) fun p => ?_
                     conv=>lhs;whnf
                     refine t_cond ?_ ?_
                     ·conv=>lhs;whnf
                      exact hrec ((wr .i64 (iadd v61 p), p, wr .i64 (iadd v491 1))) _ _ (by first | rfl | simp only [ml] <;> rfl) (by first | rfl | simp only [ml] <;> rfl)
                     ·conv=>lhs;whnf
                      exact hrec ((wr .i64 (iadd v61 p), v62, wr .i64 (iadd v491 1))) _ _ (by first | rfl | simp only [ml] <;> rfl) (by first | rfl | simp only [ml] <;> rfl)
                    ·conv=>lhs;whnf
                     exact t_none
                   ·conv=>lhs;whnf
                    refine t_call (h_impl_PegsInAll _ _ _ r10.1 (by first | rfl | simp only [ml] <;> rfl)) fun r22 => ?_
                    conv=>lhs;whnf
                    refine t_join (fun (v521 : Bool) => (topA 36 (AV.own 0 2 none false :: AV.int .i64 r10.2.1 :: AV.int .i64 r10.2.2 :: AV.own 1 1 none false :: topA 3 (AV.int .i64 r13.1 :: topA 3 (AV.own 2 2 none false :: topA 3 (AV.int .i64 r17.1 :: topA 10 (AV.int .i64 v62 :: topA 458 (AV.bool v521 :: tops 77)))))), [Blk.rows Mode.live 2 (List.map ep r10.1), Blk.rows Mode.live 1 (List.map eI r11.1), Blk.rows Mode.live 2 (List.map ep r15.1)])) (fun (v521 : Bool) => laws_FnWidthsLeast_j11 L r10 r11 r13 r15 r17 v62 v521) ?_ fun J10 hJ10 => ?_
                    ·intro v521
                     show _ = Option.map _ (laws_FnWidthsLeast_j11 L r10 r11 r13 r15 r17 v62 v521)
                     unfold laws_FnWidthsLeast_j11
                     conv=>lhs;whnf
                     refine t_join (fun (v531 : Bool) => (topA 36 (AV.own 0 2 none false :: AV.int .i64 r10.2.1 :: AV.int .i64 r10.2.2 :: AV.own 1 1 none false :: topA 7 (AV.own 2 2 none false :: topA 3 (AV.int .i64 r17.1 :: topA 479 (AV.bool v531 :: tops 67)))), [Blk.rows Mode.live 2 (List.map ep r10.1), Blk.rows Mode.live 1 (List.map eI r11.1), Blk.rows Mode.live 2 (List.map ep r15.1)])) (fun (v531 : Bool) => laws_FnWidthsLeast_j12 L r10 r11 r15 r17 v531) ?_ fun J11 hJ11 => ?_
                     ·intro v531
                      show _ = Option.map _ (laws_FnWidthsLeast_j12 L r10 r11 r15 r17 v531)
                      unfold laws_FnWidthsLeast_j12
                      conv=>lhs;whnf
                      refine t_cond ?_ ?_
                      ·conv=>lhs;whnf
                       exact t_ret (by first | rfl | simp only [ml] <;> rfl)
                      ·conv=>lhs;whnf
                       refine t_cond ?_ ?_
                       ·conv=>lhs;whnf
                        refine t_get (en := eI) (l := r11.1) (by first | rfl | simp only [ml] <;> rfl) fun p1 => ?_
                        conv=>lhs;whnf
                        refine t_cond ?_ ?_
                        ·conv=>lhs;whnf
                         exact t_ret (by first | rfl | simp only [ml] <;> rfl)
                        ·conv=>lhs;whnf
                         refine t_cond ?_ ?_
                         ·conv=>lhs;whnf
                          refine t_get (en := eI) (l := r11.1) (by first | rfl | simp only [ml] <;> rfl) fun p2 => ?_
                          conv=>lhs;whnf
                          refine t_cond ?_ ?_
                          ·conv=>lhs;whnf
                           exact t_ret (by first | rfl | simp only [ml] <;> rfl)
                          ·conv=>lhs;whnf
                           refine t_cond ?_ ?_
                           ·conv=>lhs;whnf
                            refine t_get (en := ep) (l := r15.1) (by first | rfl | simp only [ml] <;> rfl) fun p3 => ?_
                            conv=>lhs;whnf
                            refine t_cond ?_ ?_
                            ·conv=>lhs;whnf
                             refine t_get (en := ep) (l := r15.1) (by first | rfl | simp only [ml] <;> rfl) fun p4 => ?_
                             conv=>lhs;whnf
                             refine t_loop (fun (⟨v37, v38, v67, v561, v562, w0, w1⟩ : Int × Int × Int × Int × Int × (List Pt) × (List Pt)) => (topA 37 (AV.int .i64 v37 :: AV.int .i64 v38 :: topA 8 (AV.own 0 2 none false :: topA 19 (AV.int .i64 v67 :: topA 492 (AV.own 1 2 none false :: AV.int .i64 v561 :: AV.int .i64 v562 :: tops 36)))), [Blk.rows Mode.live 2 (List.map ep w0), Blk.rows Mode.live 2 (List.map ep w1)])) (fun m1 (⟨v37, v38, v67, v561, v562, w0, w1⟩ : Int × Int × Int × Int × Int × (List Pt) × (List Pt)) => laws_FnWidthsLeast_l13 L m1 v37 v38 v67 v561 v562 w0 w1) (fun _ => rfl) (fun m1 s13 rec1 hrec1 => ?_) L ((r10.2.1, r10.2.2, wr .i64 (iadd (wr .i64 (imul r10.2.1 p3.x)) (wr .i64 (imul r10.2.2 p4.y))), ilen (List.map ep r10.1), 0, r15.1, r10.1)) ?_ ?_
                             rotate_left
                             ·first | rfl | simp only [ml] <;> rfl
                             ·first | rfl | simp only [ml] <;> rfl
                             obtain ⟨v37, v38, v67, v561, v562, w0, w1⟩ := s13
                             show _ = Option.map _ (laws_FnWidthsLeast_l13 L (m1 + 1) v37 v38 v67 v561 v562 w0 w1)
                             rw [laws_FnWidthsLeast_l13.eq_2]
                             conv=>lhs;whnf
                             refine t_cond ?_ ?_
                             ·conv=>lhs;whnf
                              refine t_cond ?_ ?_
                              ·conv=>lhs;whnf
                               refine t_get (en := ep) (l := w1) (by first | rfl | simp only [ml] <;> rfl) fun p5 => ?_
                               conv=>lhs;whnf
                               refine t_loop (fun (⟨v71, v577⟩ : Bool × Int) => (topA 37 (AV.int .i64 v37 :: AV.int .i64 v38 :: topA 8 (AV.own 0 2 none false :: topA 19 (AV.int .i64 v67 :: AV.top :: AV.ptr 1 0 0 2 :: AV.int .i64 (wr .i64 (iadd (wr .i64 (imul v37 p5.x)) (wr .i64 (imul v38 p5.y)))) :: AV.bool v71 :: topA 488 (AV.own 2 2 none false :: AV.int .i64 v561 :: AV.int .i64 v562 :: topA 12 (AV.own 0 2 none false :: AV.int .i64 (ilen (List.map ep w0)) :: AV.int .i64 v577 :: tops 21))))), [Blk.rows Mode.live 2 (List.map ep w0), Blk.box (AV.agg [AV.int .i64 p5.x, AV.int .i64 p5.y]), Blk.rows Mode.live 2 (List.map ep w1)])) (fun m2 (⟨v71, v577⟩ : Bool × Int) => laws_FnWidthsLeast_l14 L (laws_FnWidthsLeast_l13 L m1) v37 v38 v67 v561 v562 w0 w1 p5 m2 v71 v577) (fun _ => rfl) (fun m2 s14 rec2 hrec2 => ?_) L ((false, 0)) ?_ ?_
                               rotate_left
                               ·first | rfl | simp only [ml] <;> rfl
                               ·first | rfl | simp only [ml] <;> rfl
                               obtain ⟨v71, v577⟩ := s14
                               show _ = Option.map _ (laws_FnWidthsLeast_l14 L (laws_FnWidthsLeast_l13 L m1) v37 v38 v67 v561 v562 w0 w1 p5 (m2 + 1) v71 v577)
                               rw [laws_FnWidthsLeast_l14.eq_2]
                               conv=>lhs;whnf
                               refine t_cond ?_ ?_
                               ·conv=>lhs;whnf
                                refine t_cond ?_ ?_
                                ·conv=>lhs;whnf
                                 refine t_get (en := ep) (l := w0) (by first | rfl | simp only [ml] <;> rfl) fun p6 => ?_
                                 conv=>lhs;whnf
                                 refine t_cond ?_ ?_
                                 ·conv=>lhs;whnf
                                  exact hrec2 ((true, wr .i64 (iadd v577 1))) _ _ (by first | rfl | simp only [ml] <;> rfl) (by first | rfl | simp only [ml] <;> rfl)
                                 ·conv=>lhs;whnf
                                  exact hrec2 ((ieq p6.x p5.x && ieq p6.y p5.y, wr .i64 (iadd v577 1))) _ _ (by first | rfl | simp only [ml] <;> rfl) (by first | rfl | simp only [ml] <;> rfl)
                                ·conv=>lhs;whnf
                                 exact t_none
                               ·conv=>lhs;whnf
                                refine t_cond ?_ ?_
                                ·conv=>lhs;whnf
                                 exact t_ret (by first | rfl | simp only [ml] <;> rfl)
                                ·conv=>lhs;whnf
                                 refine t_cond ?_ ?_
                                 ·conv=>lhs;whnf
                                  exact t_ret (by first | rfl | simp only [ml] <;> rfl)
                                 ·conv=>lhs;whnf
                                  exact hrec1 ((v37, v38, v67, v561, wr .i64 (iadd v562 1), w0, w1)) _ _ (by first | rfl | simp only [ml] <;> rfl) (by first | rfl | simp only [ml] <;> rfl)
                              ·conv=>lhs;whnf
                               exact t_none
                             ·conv=>lhs;whnf
                              exact t_ret (by first | rfl | simp only [ml] <;> rfl)
                            ·conv=>lhs;whnf
                             exact t_none
                           ·conv=>lhs;whnf
                            exact t_none
                         ·conv=>lhs;whnf
                          exact t_none
                       ·conv=>lhs;whnf
                        exact t_none
                     ·conv=>lhs;whnf
                      refine t_cond ?_ ?_
                      ·conv=>lhs;whnf
                       exact hJ11 true _ _ (by first | rfl | simp only [ml] <;> rfl) (by first | rfl | simp only [ml] <;> rfl)
                      ·conv=>lhs;whnf
                       refine t_cond ?_ ?_
                       ·conv=>lhs;whnf
                        exact hJ11 true _ _ (by first | rfl | simp only [ml] <;> rfl) (by first | rfl | simp only [ml] <;> rfl)
                       ·conv=>lhs;whnf
                        exact hJ11 (ilt (ilen (List.map ep r15.1)) 1) _ _ (by first | rfl | simp only [ml] <;> rfl) (by first | rfl | simp only [ml] <;> rfl)
                    ·conv=>lhs;whnf
                     refine t_cond ?_ ?_
                     ·conv=>lhs;whnf
                      exact hJ10 true _ _ (by first | rfl | simp only [ml] <;> rfl) (by first | rfl | simp only [ml] <;> rfl)
                     ·conv=>lhs;whnf
                      refine t_cond ?_ ?_
                      ·conv=>lhs;whnf
                       exact hJ10 true _ _ (by first | rfl | simp only [ml] <;> rfl) (by first | rfl | simp only [ml] <;> rfl)
                      ·conv=>lhs;whnf
                       exact hJ10 (!ieq v61 r22.1) _ _ (by first | rfl | simp only [ml] <;> rfl) (by first | rfl | simp only [ml] <;> rfl)
                  ·conv=>lhs;whnf
                   exact t_ret (by first | rfl | simp only [ml] <;> rfl)
              ·conv=>lhs;whnf
               refine t_cond ?_ ?_
               ·conv=>lhs;whnf
                exact hJ9 true _ _ (by first | rfl | simp only [ml] <;> rfl) (by first | rfl | simp only [ml] <;> rfl)
               ·conv=>lhs;whnf
                refine t_cond ?_ ?_
                ·conv=>lhs;whnf
                 exact hJ9 true _ _ (by first | rfl | simp only [ml] <;> rfl) (by first | rfl | simp only [ml] <;> rfl)
                ·conv=>lhs;whnf
                 exact hJ9 (!beqb r13.2 r11.2) _ _ (by first | rfl | simp only [ml] <;> rfl) (by first | rfl | simp only [ml] <;> rfl)
             ·conv=>lhs;whnf
              refine t_cond ?_ ?_
              ·conv=>lhs;whnf
               exact hJ8 true _ _ (by first | rfl | simp only [ml] <;> rfl) (by first | rfl | simp only [ml] <;> rfl)
              ·conv=>lhs;whnf
               refine t_cond ?_ ?_
               ·conv=>lhs;whnf
                exact hJ8 true _ _ (by first | rfl | simp only [ml] <;> rfl) (by first | rfl | simp only [ml] <;> rfl)
               ·conv=>lhs;whnf
                exact hJ8 (!beqb r20.2 r21.2) _ _ (by first | rfl | simp only [ml] <;> rfl) (by first | rfl | simp only [ml] <;> rfl)
            ·conv=>lhs;whnf
             refine t_cond ?_ ?_
             ·conv=>lhs;whnf
              exact hJ7 true _ _ (by first | rfl | simp only [ml] <;> rfl) (by first | rfl | simp only [ml] <;> rfl)
             ·conv=>lhs;whnf
              refine t_call (h_laws_zPegs _ _ _ r15.1 (by first | rfl | simp only [ml] <;> rfl) _ _ _ r16.1 (by first | rfl | simp only [ml] <;> rfl)) fun r23 => ?_
              conv=>lhs;whnf
              refine t_cond ?_ ?_
              ·conv=>lhs;whnf
               exact hJ7 true _ _ (by first | rfl | simp only [ml] <;> rfl) (by first | rfl | simp only [ml] <;> rfl)
              ·conv=>lhs;whnf
               exact hJ7 (!beqb r17.2 r18.2) _ _ (by first | rfl | simp only [ml] <;> rfl) (by first | rfl | simp only [ml] <;> rfl)
           ·conv=>lhs;whnf
            refine t_cond ?_ ?_
            ·conv=>lhs;whnf
             exact hJ6 true _ _ (by first | rfl | simp only [ml] <;> rfl) (by first | rfl | simp only [ml] <;> rfl)
            ·conv=>lhs;whnf
             refine t_cond ?_ ?_
             ·conv=>lhs;whnf
              exact hJ6 true _ _ (by first | rfl | simp only [ml] <;> rfl) (by first | rfl | simp only [ml] <;> rfl)
             ·conv=>lhs;whnf
              exact hJ6 (!beqb r15.2 r16.2) _ _ (by first | rfl | simp only [ml] <;> rfl) (by first | rfl | simp only [ml] <;> rfl)
          ·conv=>lhs;whnf
           refine t_cond ?_ ?_
           ·conv=>lhs;whnf
            exact hJ5 true _ _ (by first | rfl | simp only [ml] <;> rfl) (by first | rfl | simp only [ml] <;> rfl)
           ·conv=>lhs;whnf
            refine t_call (h_laws_zSame _ _ _ r11.1 (by first | rfl | simp only [ml] <;> rfl) _ _ _ r12.1 (by first | rfl | simp only [ml] <;> rfl)) fun r24 => ?_
            conv=>lhs;whnf
            refine t_cond ?_ ?_
            ·conv=>lhs;whnf
             exact hJ5 true _ _ (by first | rfl | simp only [ml] <;> rfl) (by first | rfl | simp only [ml] <;> rfl)
            ·conv=>lhs;whnf
             exact hJ5 (!beqb r13.2 r14.2) _ _ (by first | rfl | simp only [ml] <;> rfl) (by first | rfl | simp only [ml] <;> rfl)
         ·conv=>lhs;whnf
          refine t_cond ?_ ?_
          ·conv=>lhs;whnf
           refine t_call (h_impl_WidthIn _ _ _ r1 (by first | rfl | simp only [ml] <;> rfl) 1 0) fun r25 => ?_
           conv=>lhs;whnf
           refine t_call (h_impl_WidthIn _ _ _ r1 (by first | rfl | simp only [ml] <;> rfl) 0 1) fun r26 => ?_
           conv=>lhs;whnf
           refine t_call (h_impl_WidthIn _ _ _ r1 (by first | rfl | simp only [ml] <;> rfl) 1 (-1)) fun r27 => ?_
           conv=>lhs;whnf
           refine t_join (fun (v199 : Bool) => (AV.top :: AV.lst ob cb 1 (List.map eU b) :: topA 3 (AV.own 0 2 none false :: AV.int .i64 r2.1 :: topA 3 (AV.own 1 1 none false :: topA 3 (AV.bool r6.1 :: topA 9 (AV.int .i64 r26.1 :: AV.top :: AV.int .i64 r27.1 :: AV.bool r27.2 :: topA 171 (AV.bool v199 :: tops 399))))), [Blk.rows Mode.live 2 (List.map ep r1), Blk.rows Mode.live 1 (List.map eLI r4.1)])) (fun (v199 : Bool) => laws_FnWidthsLeast_j15 L b r1 r2 r4 r6 r26 r27 v199) ?_ fun J12 hJ12 => ?_
           ·intro v199
            show _ = Option.map _ (laws_FnWidthsLeast_j15 L b r1 r2 r4 r6 r26 r27 v199)
            unfold laws_FnWidthsLeast_j15
            conv=>lhs;whnf
            refine t_join (fun (v208 : Bool) => (AV.top :: AV.lst ob cb 1 (List.map eU b) :: topA 3 (AV.own 0 2 none false :: AV.int .i64 r2.1 :: topA 3 (AV.own 1 1 none false :: topA 3 (AV.bool r6.1 :: topA 11 (AV.int .i64 r27.1 :: topA 181 (AV.bool v208 :: tops 390))))), [Blk.rows Mode.live 2 (List.map ep r1), Blk.rows Mode.live 1 (List.map eLI r4.1)])) (fun (v208 : Bool) => laws_FnWidthsLeast_j16 L b r1 r2 r4 r6 r27 v208) ?_ fun J13 hJ13 => ?_
            ·intro v208
             show _ = Option.map _ (laws_FnWidthsLeast_j16 L b r1 r2 r4 r6 r27 v208)
             unfold laws_FnWidthsLeast_j16
             conv=>lhs;whnf
             refine t_join (fun (v217 : Bool) => (AV.top :: AV.lst ob cb 1 (List.map eU b) :: topA 3 (AV.own 0 2 none false :: AV.int .i64 r2.1 :: topA 3 (AV.own 1 1 none false :: topA 3 (AV.bool r6.1 :: topA 202 (AV.bool v217 :: tops 381)))), [Blk.rows Mode.live 2 (List.map ep r1), Blk.rows Mode.live 1 (List.map eLI r4.1)])) (fun (v217 : Bool) => laws_FnWidthsLeast_j17 L b r1 r2 r4 r6 v217) ?_ fun J14 hJ14 => ?_
             ·intro v217
              show _ = Option.map _ (laws_FnWidthsLeast_j17 L b r1 r2 r4 r6 v217)
              unfold laws_FnWidthsLeast_j17
              conv=>lhs;whnf
              refine t_cond ?_ ?_
              ·conv=>lhs;whnf
               exact t_ret (by first | rfl | simp only [ml] <;> rfl)
              ·conv=>lhs;whnf
               refine t_cond ?_ ?_
               ·conv=>lhs;whnf
                exact t_ret (by first | rfl | simp only [ml] <;> rfl)
               ·conv=>lhs;whnf
                refine t_cond ?_ ?_
                ·conv=>lhs;whnf
                 exact t_ret (by first | rfl | simp only [ml] <;> rfl)
                ·conv=>lhs;whnf
                 refine t_loop (fun (v231 : Int) => (AV.top :: AV.lst ob cb 1 (List.map eU b) :: topA 3 (AV.own 0 2 none false :: AV.int .i64 r2.1 :: topA 3 (AV.own 1 1 none false :: topA 218 (AV.own 1 1 none false :: AV.int .i64 (ilen (List.map eLI r4.1)) :: AV.int .i64 v231 :: tops 367))), [Blk.rows Mode.live 2 (List.map ep r1), Blk.rows Mode.live 1 (List.map eLI r4.1)])) (fun m3 (v231 : Int) => laws_FnWidthsLeast_l18 L b r1 r2 r4 m3 v231) (fun _ => rfl) (fun m3 v231 rec3 hrec3 => ?_) L 0 ?_ ?_
                 rotate_left
                 ·first | rfl | simp only [ml] <;> rfl
                 ·first | rfl | simp only [ml] <;> rfl
                 show _ = Option.map _ (laws_FnWidthsLeast_l18 L b r1 r2 r4 (m3 + 1) v231)
                 rw [laws_FnWidthsLeast_l18.eq_2]
                 conv=>lhs;whnf
                 refine t_cond ?_ ?_
                 ·conv=>lhs;whnf
                  refine t_cond ?_ ?_
                  ·conv=>lhs;whnf
                   refine t_get (en := eLI) (l := r4.1) (by first | rfl | simp only [ml] <;> rfl) fun p7 => ?_
                   conv=>lhs;whnf
                   refine t_get (en := eI) (l := p7) (by first | rfl | simp only [ml] <;> rfl) fun p8 => ?_
                   conv=>lhs;whnf
                   refine t_cond ?_ ?_
                   ·conv=>lhs;whnf
                    exact t_ret (by first | rfl | simp only [ml] <;> rfl)
                   ·conv=>lhs;whnf
                    refine t_get (en := eI) (l := p7) (by first | rfl | simp only [ml] <;> rfl) fun p9 => ?_
                    conv=>lhs;whnf
                    refine t_cond ?_ ?_
                    ·conv=>lhs;whnf
                     refine t_get (en := eI) (l := p7) (by first | rfl | simp only [ml] <;> rfl) fun p10 => ?_
                     conv=>lhs;whnf
                     refine t_cond ?_ ?_
                     ·conv=>lhs;whnf
                      exact t_ret (by first | rfl | simp only [ml] <;> rfl)
                     ·conv=>lhs;whnf
                      refine t_cond ?_ ?_
                      ·conv=>lhs;whnf
                       refine t_cond ?_ ?_
                       ·conv=>lhs;whnf
                        refine t_get (en := eLI) (l := r4.1) (by first | rfl | simp only [ml] <;> rfl) fun p11 => ?_
                        conv=>lhs;whnf
                        refine t_get (en := eI) (l := p11) (by first | rfl | simp only [ml] <;> rfl) fun p12 => ?_
                        conv=>lhs;whnf
                        refine t_get (en := eI) (l := p7) (by first | rfl | simp only [ml] <;> rfl) fun p13 => ?_
                        conv=>lhs;whnf
                        refine t_cond ?_ ?_
                        ·conv=>lhs;whnf
                         exact t_ret (by first | rfl | simp only [ml] <;> rfl)
                        ·conv=>lhs;whnf
                         refine t_cond ?_ ?_
                         ·conv=>lhs;whnf
                          refine t_get (en := eLI) (l := r4.1) (by first | rfl | simp only [ml] <;> rfl) fun p14 => ?_
                          conv=>lhs;whnf
                          refine t_get (en := eI) (l := p14) (by first | rfl | simp only [ml] <;> rfl) fun p15 => ?_
                          conv=>lhs;whnf
                          refine t_get (en := eI) (l := p7) (by first | rfl | simp only [ml] <;> rfl) fun p16 => ?_
                          conv=>lhs;whnf
                          refine t_cond ?_ ?_
                          ·conv=>lhs;whnf
                           refine t_cond ?_ ?_
                           ·conv=>lhs;whnf
                            refine t_get (en := eLI) (l := r4.1) (by first | rfl | simp only [ml] <;> rfl) fun p17 => ?_
                            conv=>lhs;whnf
                            refine t_get (en := eI) (l := p17) (by first | rfl | simp only [ml] <;> rfl) fun p18 => ?_
                            conv=>lhs;whnf
                            refine t_get (en := eI) (l := p7) (by first | rfl | simp only [ml] <;> rfl) fun p19 => ?_
                            conv=>lhs;whnf
                            refine t_cond ?_ ?_
                            ·conv=>lhs;whnf
                             exact t_ret (by first | rfl | simp only [ml] <;> rfl)
                            ·conv=>lhs;whnf
                             refine t_get (en := eI) (l := p7) (by first | rfl | simp only [ml] <;> rfl) fun p20 => ?_
                             conv=>lhs;whnf
                             refine t_get (en := eI) (l := p7) (by first | rfl | simp only [ml] <;> rfl) fun p21 => ?_
                             conv=>lhs;whnf
                             refine t_call (h_impl_WidthIn _ _ _ r1 (by first | rfl | simp only [ml] <;> rfl) p20 p21) fun r28 => ?_
                             conv=>lhs;whnf
                             refine t_cond ?_ ?_
                             ·conv=>lhs;whnf
                              refine t_cond ?_ ?_
                              ·conv=>lhs;whnf
                               exact t_ret (by first | rfl | simp only [ml] <;> rfl)
                              ·conv=>lhs;whnf
                               exact hrec3 (wr .i64 (iadd v231 1)) _ _ (by first | rfl | simp only [ml] <;> rfl) (by first | rfl | simp only [ml] <;> rfl)
                             ·conv=>lhs;whnf
                              exact hrec3 (wr .i64 (iadd v231 1)) _ _ (by first | rfl | simp only [ml] <;> rfl) (by first | rfl | simp only [ml] <;> rfl)
                           ·conv=>lhs;whnf
                            exact t_none
                          ·conv=>lhs;whnf
                           refine t_get (en := eI) (l := p7) (by first | rfl | simp only [ml] <;> rfl) fun p22 => ?_
                           conv=>lhs;whnf
                           refine t_get (en := eI) (l := p7) (by first | rfl | simp only [ml] <;> rfl) fun p23 => ?_
                           conv=>lhs;whnf
                           refine t_call (h_impl_WidthIn _ _ _ r1 (by first | rfl | simp only [ml] <;> rfl) p22 p23) fun r29 => ?_
                           conv=>lhs;whnf
                           refine t_cond ?_ ?_
                           ·conv=>lhs;whnf
                            refine t_cond ?_ ?_
                            ·conv=>lhs;whnf
                             exact t_ret (by first | rfl | simp only [ml] <;> rfl)
                            ·conv=>lhs;whnf
                             exact hrec3 (wr .i64 (iadd v231 1)) _ _ (by first | rfl | simp only [ml] <;> rfl) (by first | rfl | simp only [ml] <;> rfl)
                           ·conv=>lhs;whnf
                            exact hrec3 (wr .i64 (iadd v231 1)) _ _ (by first | rfl | simp only [ml] <;> rfl) (by first | rfl | simp only [ml] <;> rfl)
                         ·conv=>lhs;whnf
                          exact t_none
                       ·conv=>lhs;whnf
                        exact t_none
                      ·conv=>lhs;whnf
                       refine t_get (en := eI) (l := p7) (by first | rfl | simp only [ml] <;> rfl) fun p24 => ?_
                       conv=>lhs;whnf
                       refine t_get (en := eI) (l := p7) (by first | rfl | simp only [ml] <;> rfl) fun p25 => ?_
                       conv=>lhs;whnf
                       refine t_call (h_impl_WidthIn _ _ _ r1 (by first | rfl | simp only [ml] <;> rfl) p24 p25) fun r30 => ?_
                       conv=>lhs;whnf
                       refine t_cond ?_ ?_
                       ·conv=>lhs;whnf
                        refine t_cond ?_ ?_
                        ·conv=>lhs;whnf
                         exact t_ret (by first | rfl | simp only [ml] <;> rfl)
                        ·conv=>lhs;whnf
                         exact hrec3 (wr .i64 (iadd v231 1)) _ _ (by first | rfl | simp only [ml] <;> rfl) (by first | rfl | simp only [ml] <;> rfl)
                       ·conv=>lhs;whnf
                        exact hrec3 (wr .i64 (iadd v231 1)) _ _ (by first | rfl | simp only [ml] <;> rfl) (by first | rfl | simp only [ml] <;> rfl)
                    ·conv=>lhs;whnf
                     refine t_cond ?_ ?_
                     ·conv=>lhs;whnf
                      refine t_cond ?_ ?_
                      ·conv=>lhs;whnf
                       refine t_get (en := eLI) (l := r4.1) (by first | rfl | simp only [ml] <;> rfl) fun p26 => ?_
                       conv=>lhs;whnf
                       refine t_get (en := eI) (l := p26) (by first | rfl | simp only [ml] <;> rfl) fun p27 => ?_
                       conv=>lhs;whnf
                       refine t_get (en := eI) (l := p7) (by first | rfl | simp only [ml] <;> rfl) fun p28 => ?_
                       conv=>lhs;whnf
                       refine t_cond ?_ ?_
                       ·conv=>lhs;whnf
                        exact t_ret (by first | rfl | simp only [ml] <;> rfl)
                       ·conv=>lhs;whnf
                        refine t_cond ?_ ?_
                        ·conv=>lhs;whnf
                         refine t_get (en := eLI) (l := r4.1) (by first | rfl | simp only [ml] <;> rfl) fun p29 => ?_
                         conv=>lhs;whnf
                         refine t_get (en := eI) (l := p29) (by first | rfl | simp only [ml] <;> rfl) fun p30 => ?_
                         conv=>lhs;whnf
                         refine t_get (en := eI) (l := p7) (by first | rfl | simp only [ml] <;> rfl) fun p31 => ?_
                         conv=>lhs;whnf
                         refine t_cond ?_ ?_
                         ·conv=>lhs;whnf
                          refine t_cond ?_ ?_
                          ·conv=>lhs;whnf
                           refine t_get (en := eLI) (l := r4.1) (by first | rfl | simp only [ml] <;> rfl) fun p32 => ?_
                           conv=>lhs;whnf
                           refine t_get (en := eI) (l := p32) (by first | rfl | simp only [ml] <;> rfl) fun p33 => ?_
                           conv=>lhs;whnf
                           refine t_get (en := eI) (l := p7) (by first | rfl | simp only [ml] <;> rfl) fun p34 => ?_
                           conv=>lhs;whnf
                           refine t_cond ?_ ?_
                           ·conv=>lhs;whnf
                            exact t_ret (by first | rfl | simp only [ml] <;> rfl)
                           ·conv=>lhs;whnf
                            refine t_get (en := eI) (l := p7) (by first | rfl | simp only [ml] <;> rfl) fun p35 => ?_
                            conv=>lhs;whnf
                            refine t_get (en := eI) (l := p7) (by first | rfl | simp only [ml] <;> rfl) fun p36 => ?_
                            conv=>lhs;whnf
                            refine t_call (h_impl_WidthIn _ _ _ r1 (by first | rfl | simp only [ml] <;> rfl) p35 p36) fun r31 => ?_
                            conv=>lhs;whnf
                            refine t_cond ?_ ?_
                            ·conv=>lhs;whnf
                             refine t_cond ?_ ?_
                             ·conv=>lhs;whnf
                              exact t_ret (by first | rfl | simp only [ml] <;> rfl)
                             ·conv=>lhs;whnf
                              exact hrec3 (wr .i64 (iadd v231 1)) _ _ (by first | rfl | simp only [ml] <;> rfl) (by first | rfl | simp only [ml] <;> rfl)
                            ·conv=>lhs;whnf
                             exact hrec3 (wr .i64 (iadd v231 1)) _ _ (by first | rfl | simp only [ml] <;> rfl) (by first | rfl | simp only [ml] <;> rfl)
                          ·conv=>lhs;whnf
                           exact t_none
                         ·conv=>lhs;whnf
                          refine t_get (en := eI) (l := p7) (by first | rfl | simp only [ml] <;> rfl) fun p37 => ?_
                          conv=>lhs;whnf
                          refine t_get (en := eI) (l := p7) (by first | rfl | simp only [ml] <;> rfl) fun p38 => ?_
                          conv=>lhs;whnf
                          refine t_call (h_impl_WidthIn _ _ _ r1 (by first | rfl | simp only [ml] <;> rfl) p37 p38) fun r32 => ?_
                          conv=>lhs;whnf
                          refine t_cond ?_ ?_
                          ·conv=>lhs;whnf
                           refine t_cond ?_ ?_
                           ·conv=>lhs;whnf
                            exact t_ret (by first | rfl | simp only [ml] <;> rfl)
                           ·conv=>lhs;whnf
                            exact hrec3 (wr .i64 (iadd v231 1)) _ _ (by first | rfl | simp only [ml] <;> rfl) (by first | rfl | simp only [ml] <;> rfl)
                          ·conv=>lhs;whnf
                           exact hrec3 (wr .i64 (iadd v231 1)) _ _ (by first | rfl | simp only [ml] <;> rfl) (by first | rfl | simp only [ml] <;> rfl)
                        ·conv=>lhs;whnf
                         exact t_none
                      ·conv=>lhs;whnf
                       exact t_none
                     ·conv=>lhs;whnf
                      refine t_get (en := eI) (l := p7) (by first | rfl | simp only [ml] <;> rfl) fun p39 => ?_
                      conv=>lhs;whnf
                      refine t_get (en := eI) (l := p7) (by first | rfl | simp only [ml] <;> rfl) fun p40 => ?_
                      conv=>lhs;whnf
                      refine t_call (h_impl_WidthIn _ _ _ r1 (by first | rfl | simp only [ml] <;> rfl) p39 p40) fun r33 => ?_
                      conv=>lhs;whnf
                      refine t_cond ?_ ?_
                      ·conv=>lhs;whnf
                       refine t_cond ?_ ?_
                       ·conv=>lhs;whnf
                        exact t_ret (by first | rfl | simp only [ml] <;> rfl)
                       ·conv=>lhs;whnf
                        exact hrec3 (wr .i64 (iadd v231 1)) _ _ (by first | rfl | simp only [ml] <;> rfl) (by first | rfl | simp only [ml] <;> rfl)
                      ·conv=>lhs;whnf
                       exact hrec3 (wr .i64 (iadd v231 1)) _ _ (by first | rfl | simp only [ml] <;> rfl) (by first | rfl | simp only [ml] <;> rfl)
                  ·conv=>lhs;whnf
                   exact t_none
                 ·conv=>lhs;whnf
                  refine t_cond ?_ ?_
                  ·conv=>lhs;whnf
                   refine t_call (h_impl_CountDirections _ _ _ r1 (by first | rfl | simp only [ml] <;> rfl) r2.1) fun r34 => ?_
                   conv=>lhs;whnf
                   refine t_call (h_impl_CountDirections _ _ _ r1 (by first | rfl | simp only [ml] <;> rfl) (wr .i64 (isub r2.1 1))) fun r35 => ?_
                   conv=>lhs;whnf
                   refine t_join (fun (v339 : Bool) => (AV.top :: AV.lst ob cb 1 (List.map eU b) :: topA 32 (AV.int .i64 r35.1 :: topA 304 (AV.bool v339 :: tops 259)), [])) (fun (v339 : Bool) => laws_FnWidthsLeast_j19 L b r35 v339) ?_ fun J15 hJ15 => ?_
                   ·intro v339
                    show _ = Option.map _ (laws_FnWidthsLeast_j19 L b r35 v339)
                    unfold laws_FnWidthsLeast_j19
                    conv=>lhs;whnf
                    refine t_cond ?_ ?_
                    ·conv=>lhs;whnf
                     exact t_ret (by first | rfl | simp only [ml] <;> rfl)
                    ·conv=>lhs;whnf
                     refine t_cond ?_ ?_
                     ·conv=>lhs;whnf
                      exact t_ret (by first | rfl | simp only [ml] <;> rfl)
                     ·conv=>lhs;whnf
                      exact hJ4 b _ _ (by first | rfl | simp only [ml] <;> rfl) (by first | rfl | simp only [ml] <;> rfl)
                   ·conv=>lhs;whnf
                    refine t_cond ?_ ?_
                    ·conv=>lhs;whnf
                     exact hJ15 true _ _ (by first | rfl | simp only [ml] <;> rfl) (by first | rfl | simp only [ml] <;> rfl)
                    ·conv=>lhs;whnf
                     refine t_cond ?_ ?_
                     ·conv=>lhs;whnf
                      exact hJ15 true _ _ (by first | rfl | simp only [ml] <;> rfl) (by first | rfl | simp only [ml] <;> rfl)
                     ·conv=>lhs;whnf
                      exact hJ15 (!r35.2) _ _ (by first | rfl | simp only [ml] <;> rfl) (by first | rfl | simp only [ml] <;> rfl)
                  ·conv=>lhs;whnf
                   exact hJ4 b _ _ (by first | rfl | simp only [ml] <;> rfl) (by first | rfl | simp only [ml] <;> rfl)
             ·conv=>lhs;whnf
              refine t_cond ?_ ?_
              ·conv=>lhs;whnf
               exact hJ14 true _ _ (by first | rfl | simp only [ml] <;> rfl) (by first | rfl | simp only [ml] <;> rfl)
              ·conv=>lhs;whnf
               refine t_cond ?_ ?_
               ·conv=>lhs;whnf
                exact hJ14 true _ _ (by first | rfl | simp only [ml] <;> rfl) (by first | rfl | simp only [ml] <;> rfl)
               ·conv=>lhs;whnf
                exact hJ14 (ilt r2.1 1) _ _ (by first | rfl | simp only [ml] <;> rfl) (by first | rfl | simp only [ml] <;> rfl)
            ·conv=>lhs;whnf
             refine t_cond ?_ ?_
             ·conv=>lhs;whnf
              exact hJ13 true _ _ (by first | rfl | simp only [ml] <;> rfl) (by first | rfl | simp only [ml] <;> rfl)
             ·conv=>lhs;whnf
              refine t_cond ?_ ?_
              ·conv=>lhs;whnf
               exact hJ13 true _ _ (by first | rfl | simp only [ml] <;> rfl) (by first | rfl | simp only [ml] <;> rfl)
              ·conv=>lhs;whnf
               exact hJ13 (!r27.2) _ _ (by first | rfl | simp only [ml] <;> rfl) (by first | rfl | simp only [ml] <;> rfl)
           ·conv=>lhs;whnf
            refine t_cond ?_ ?_
            ·conv=>lhs;whnf
             exact hJ12 true _ _ (by first | rfl | simp only [ml] <;> rfl) (by first | rfl | simp only [ml] <;> rfl)
            ·conv=>lhs;whnf
             refine t_cond ?_ ?_
             ·conv=>lhs;whnf
              exact hJ12 true _ _ (by first | rfl | simp only [ml] <;> rfl) (by first | rfl | simp only [ml] <;> rfl)
             ·conv=>lhs;whnf
              exact hJ12 (!r26.2) _ _ (by first | rfl | simp only [ml] <;> rfl) (by first | rfl | simp only [ml] <;> rfl)
          ·conv=>lhs;whnf
           exact hJ4 b _ _ (by first | rfl | simp only [ml] <;> rfl) (by first | rfl | simp only [ml] <;> rfl)
     ·conv=>lhs;whnf
      refine t_cond ?_ ?_
      ·conv=>lhs;whnf
       exact hJ3 true _ _ (by first | rfl | simp only [ml] <;> rfl) (by first | rfl | simp only [ml] <;> rfl)
      ·conv=>lhs;whnf
       refine t_cond ?_ ?_
       ·conv=>lhs;whnf
        exact hJ3 true _ _ (by first | rfl | simp only [ml] <;> rfl) (by first | rfl | simp only [ml] <;> rfl)
       ·conv=>lhs;whnf
        exact hJ3 (!beqb r4.2 r2.2) _ _ (by first | rfl | simp only [ml] <;> rfl) (by first | rfl | simp only [ml] <;> rfl)
    ·conv=>lhs;whnf
     refine t_cond ?_ ?_
     ·conv=>lhs;whnf
      exact hJ2 true _ _ (by first | rfl | simp only [ml] <;> rfl) (by first | rfl | simp only [ml] <;> rfl)
     ·conv=>lhs;whnf
      refine t_cond ?_ ?_
      ·conv=>lhs;whnf
       exact hJ2 true _ _ (by first | rfl | simp only [ml] <;> rfl) (by first | rfl | simp only [ml] <;> rfl)
      ·conv=>lhs;whnf
       exact hJ2 (!beqb r8.2 r9.2) _ _ (by first | rfl | simp only [ml] <;> rfl) (by first | rfl | simp only [ml] <;> rfl)
   ·conv=>lhs;whnf
    refine t_cond ?_ ?_
    ·conv=>lhs;whnf
     exact hJ1 true _ _ (by first | rfl | simp only [ml] <;> rfl) (by first | rfl | simp only [ml] <;> rfl)
    ·conv=>lhs;whnf
     refine t_call (h_laws_zRows _ _ _ r4.1 (by first | rfl | simp only [ml] <;> rfl) _ _ _ r5.1 (by first | rfl | simp only [ml] <;> rfl)) fun r36 => ?_
     conv=>lhs;whnf
     refine t_cond ?_ ?_
     ·conv=>lhs;whnf
      exact hJ1 true _ _ (by first | rfl | simp only [ml] <;> rfl) (by first | rfl | simp only [ml] <;> rfl)
     ·conv=>lhs;whnf
      exact hJ1 (!beqb r6.2 r7.2) _ _ (by first | rfl | simp only [ml] <;> rfl) (by first | rfl | simp only [ml] <;> rfl)
  ·conv=>lhs;whnf
   refine t_cond ?_ ?_
   ·conv=>lhs;whnf
    exact hJ true _ _ (by first | rfl | simp only [ml] <;> rfl) (by first | rfl | simp only [ml] <;> rfl)
   ·conv=>lhs;whnf
    refine t_cond ?_ ?_
    ·conv=>lhs;whnf
     exact hJ true _ _ (by first | rfl | simp only [ml] <;> rfl) (by first | rfl | simp only [ml] <;> rfl)
    ·conv=>lhs;whnf
     exact hJ (!beqb r4.2 r5.2) _ _ (by first | rfl | simp only [ml] <;> rfl) (by first | rfl | simp only [ml] <;> rfl)
end Go.AM
