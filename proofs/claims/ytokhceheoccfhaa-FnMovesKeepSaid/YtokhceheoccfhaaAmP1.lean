import Derived.Test.YtokhceheoccfhaaAmP0
set_option linter.unusedVariables false
set_option linter.unusedSimpArgs false
set_option linter.unnecessarySimpa false
set_option linter.deprecated false
set_option linter.unusedSectionVars false
open Go Go.AM Go.Proofs
namespace Go.AM
set_option maxRecDepth 400000
set_option maxHeartbeats 2000000
set_option linter.unusedVariables false
noncomputable def laws_FnMovesKeep_j2 (L : Nat) (r16 : Int) (r17 : Int × Int × Int × Int × Int × Int × Bool) : Option Bool := bif Prod.snd (Prod.snd (Prod.snd (Prod.snd (Prod.snd (Prod.snd r17))))) then (gbind (impl_ShearMove L (wr IntKind.i64 (isub 0 r16))) fun r22 => gbind (impl_BackMove L (Prod.fst r17) (Prod.fst (Prod.snd r17)) (Prod.fst (Prod.snd (Prod.snd r17))) (Prod.fst (Prod.snd (Prod.snd (Prod.snd r17)))) (Prod.fst (Prod.snd (Prod.snd (Prod.snd (Prod.snd r17))))) (Prod.fst (Prod.snd (Prod.snd (Prod.snd (Prod.snd (Prod.snd r17))))))) fun r23 => bif Prod.snd (Prod.snd (Prod.snd (Prod.snd (Prod.snd (Prod.snd r22))))) then (bif Prod.snd (Prod.snd (Prod.snd (Prod.snd (Prod.snd (Prod.snd r23))))) then (some (ieq (Prod.fst r23) (Prod.fst r22) && (ieq (Prod.fst (Prod.snd r23)) (Prod.fst (Prod.snd r22)) && (ieq (Prod.fst (Prod.snd (Prod.snd r23))) (Prod.fst (Prod.snd (Prod.snd r22))) && (ieq (Prod.fst (Prod.snd (Prod.snd (Prod.snd r23)))) (Prod.fst (Prod.snd (Prod.snd (Prod.snd r22)))) && (ieq (Prod.fst (Prod.snd (Prod.snd (Prod.snd (Prod.snd r23))))) (Prod.fst (Prod.snd (Prod.snd (Prod.snd (Prod.snd r22))))) && ieq (Prod.fst (Prod.snd (Prod.snd (Prod.snd (Prod.snd (Prod.snd r23)))))) (Prod.fst (Prod.snd (Prod.snd (Prod.snd (Prod.snd (Prod.snd r22)))))))))))) else (some false)) else (some false)) else (some true)


noncomputable def laws_FnMovesKeep_j1 (L : Nat) (r8 : Int × Int × Int × Int × Int × Int) (r9 : Int × Int × Int × Int × Int × Int × Bool) (r16 : Int) (r17 : Int × Int × Int × Int × Int × Int × Bool) : Option Bool := bif Prod.snd (Prod.snd (Prod.snd (Prod.snd (Prod.snd (Prod.snd r9))))) then (gbind (impl_JoinMoves L (Prod.fst r8) (Prod.fst (Prod.snd r8)) (Prod.fst (Prod.snd (Prod.snd r8))) (Prod.fst (Prod.snd (Prod.snd (Prod.snd r8)))) (Prod.fst (Prod.snd (Prod.snd (Prod.snd (Prod.snd r8))))) (Prod.snd (Prod.snd (Prod.snd (Prod.snd (Prod.snd r8))))) (Prod.fst r9) (Prod.fst (Prod.snd r9)) (Prod.fst (Prod.snd (Prod.snd r9))) (Prod.fst (Prod.snd (Prod.snd (Prod.snd r9)))) (Prod.fst (Prod.snd (Prod.snd (Prod.snd (Prod.snd r9))))) (Prod.fst (Prod.snd (Prod.snd (Prod.snd (Prod.snd (Prod.snd r9))))))) fun r24 => gbind (impl_BackMove L (Prod.fst r9) (Prod.fst (Prod.snd r9)) (Prod.fst (Prod.snd (Prod.snd r9))) (Prod.fst (Prod.snd (Prod.snd (Prod.snd r9)))) (Prod.fst (Prod.snd (Prod.snd (Prod.snd (Prod.snd r9))))) (Prod.fst (Prod.snd (Prod.snd (Prod.snd (Prod.snd (Prod.snd r9))))))) fun r25 => bif !Prod.snd (Prod.snd (Prod.snd (Prod.snd (Prod.snd (Prod.snd r24))))) then (some false) else (bif !(ieq (Prod.fst r24) 1 && (ieq (Prod.fst (Prod.snd r24)) 0 && (ieq (Prod.fst (Prod.snd (Prod.snd r24))) 0 && (ieq (Prod.fst (Prod.snd (Prod.snd (Prod.snd r24)))) 1 && (ieq (Prod.fst (Prod.snd (Prod.snd (Prod.snd (Prod.snd r24))))) 0 && ieq (Prod.fst (Prod.snd (Prod.snd (Prod.snd (Prod.snd (Prod.snd r24)))))) 0))))) then (some false) else (bif !Prod.snd (Prod.snd (Prod.snd (Prod.snd (Prod.snd (Prod.snd r25))))) then (some false) else (bif !(ieq (Prod.fst r25) (Prod.fst r8) && (ieq (Prod.fst (Prod.snd r25)) (Prod.fst (Prod.snd r8)) && (ieq (Prod.fst (Prod.snd (Prod.snd r25))) (Prod.fst (Prod.snd (Prod.snd r8))) && (ieq (Prod.fst (Prod.snd (Prod.snd (Prod.snd r25)))) (Prod.fst (Prod.snd (Prod.snd (Prod.snd r8)))) && (ieq (Prod.fst (Prod.snd (Prod.snd (Prod.snd (Prod.snd r25))))) (Prod.fst (Prod.snd (Prod.snd (Prod.snd (Prod.snd r8))))) && ieq (Prod.fst (Prod.snd (Prod.snd (Prod.snd (Prod.snd (Prod.snd r25)))))) (Prod.snd (Prod.snd (Prod.snd (Prod.snd (Prod.snd r8)))))))))) then (some false) else (laws_FnMovesKeep_j2 L r16 r17))))) else (laws_FnMovesKeep_j2 L r16 r17)


noncomputable def laws_FnMovesKeep_j0 (L : Nat) (v1 : List Int) : Option Bool := gbind (spec_DrawJoinMoves L v1) fun r5 => gbind (impl_JoinMoves L (Prod.fst r5) (Prod.fst (Prod.snd r5)) (Prod.fst (Prod.snd (Prod.snd r5))) (Prod.fst (Prod.snd (Prod.snd (Prod.snd r5)))) (Prod.fst (Prod.snd (Prod.snd (Prod.snd (Prod.snd r5))))) (Prod.fst (Prod.snd (Prod.snd (Prod.snd (Prod.snd (Prod.snd r5)))))) (Prod.fst (Prod.snd (Prod.snd (Prod.snd (Prod.snd (Prod.snd (Prod.snd r5))))))) (Prod.fst (Prod.snd (Prod.snd (Prod.snd (Prod.snd (Prod.snd (Prod.snd (Prod.snd r5)))))))) (Prod.fst (Prod.snd (Prod.snd (Prod.snd (Prod.snd (Prod.snd (Prod.snd (Prod.snd (Prod.snd r5))))))))) (Prod.fst (Prod.snd (Prod.snd (Prod.snd (Prod.snd (Prod.snd (Prod.snd (Prod.snd (Prod.snd (Prod.snd r5)))))))))) (Prod.fst (Prod.snd (Prod.snd (Prod.snd (Prod.snd (Prod.snd (Prod.snd (Prod.snd (Prod.snd (Prod.snd (Prod.snd r5))))))))))) (Prod.snd (Prod.snd (Prod.snd (Prod.snd (Prod.snd (Prod.snd (Prod.snd (Prod.snd (Prod.snd (Prod.snd (Prod.snd r5)))))))))))) fun r6 => gbind (spec_JoinMoves L (Prod.fst r5) (Prod.fst (Prod.snd r5)) (Prod.fst (Prod.snd (Prod.snd r5))) (Prod.fst (Prod.snd (Prod.snd (Prod.snd r5)))) (Prod.fst (Prod.snd (Prod.snd (Prod.snd (Prod.snd r5))))) (Prod.fst (Prod.snd (Prod.snd (Prod.snd (Prod.snd (Prod.snd r5)))))) (Prod.fst (Prod.snd (Prod.snd (Prod.snd (Prod.snd (Prod.snd (Prod.snd r5))))))) (Prod.fst (Prod.snd (Prod.snd (Prod.snd (Prod.snd (Prod.snd (Prod.snd (Prod.snd r5)))))))) (Prod.fst (Prod.snd (Prod.snd (Prod.snd (Prod.snd (Prod.snd (Prod.snd (Prod.snd (Prod.snd r5))))))))) (Prod.fst (Prod.snd (Prod.snd (Prod.snd (Prod.snd (Prod.snd (Prod.snd (Prod.snd (Prod.snd (Prod.snd r5)))))))))) (Prod.fst (Prod.snd (Prod.snd (Prod.snd (Prod.snd (Prod.snd (Prod.snd (Prod.snd (Prod.snd (Prod.snd (Prod.snd r5))))))))))) (Prod.snd (Prod.snd (Prod.snd (Prod.snd (Prod.snd (Prod.snd (Prod.snd (Prod.snd (Prod.snd (Prod.snd (Prod.snd r5)))))))))))) fun r7 => gbind (spec_DrawBackMove L v1) fun r8 => gbind (impl_BackMove L (Prod.fst r8) (Prod.fst (Prod.snd r8)) (Prod.fst (Prod.snd (Prod.snd r8))) (Prod.fst (Prod.snd (Prod.snd (Prod.snd r8)))) (Prod.fst (Prod.snd (Prod.snd (Prod.snd (Prod.snd r8))))) (Prod.snd (Prod.snd (Prod.snd (Prod.snd (Prod.snd r8)))))) fun r9 => gbind (spec_BackMove L (Prod.fst r8) (Prod.fst (Prod.snd r8)) (Prod.fst (Prod.snd (Prod.snd r8))) (Prod.fst (Prod.snd (Prod.snd (Prod.snd r8)))) (Prod.fst (Prod.snd (Prod.snd (Prod.snd (Prod.snd r8))))) (Prod.snd (Prod.snd (Prod.snd (Prod.snd (Prod.snd r8)))))) fun r10 => gbind (impl_SideOfMove L (Prod.fst r8) (Prod.fst (Prod.snd r8)) (Prod.fst (Prod.snd (Prod.snd r8))) (Prod.fst (Prod.snd (Prod.snd (Prod.snd r8)))) (Prod.fst (Prod.snd (Prod.snd (Prod.snd (Prod.snd r8))))) (Prod.snd (Prod.snd (Prod.snd (Prod.snd (Prod.snd r8)))))) fun r11 => gbind (spec_SideOfMove L (Prod.fst r8) (Prod.fst (Prod.snd r8)) (Prod.fst (Prod.snd (Prod.snd r8))) (Prod.fst (Prod.snd (Prod.snd (Prod.snd r8)))) (Prod.fst (Prod.snd (Prod.snd (Prod.snd (Prod.snd r8))))) (Prod.snd (Prod.snd (Prod.snd (Prod.snd (Prod.snd r8)))))) fun r12 => gbind (spec_DrawMovePeg L v1) fun r13 => gbind (impl_MovePeg L (Prod.fst r13) (Prod.fst (Prod.snd r13)) (Prod.fst (Prod.snd (Prod.snd r13))) (Prod.fst (Prod.snd (Prod.snd (Prod.snd r13)))) (Prod.fst (Prod.snd (Prod.snd (Prod.snd (Prod.snd r13))))) (Prod.fst (Prod.snd (Prod.snd (Prod.snd (Prod.snd (Prod.snd r13)))))) (Prod.fst (Prod.snd (Prod.snd (Prod.snd (Prod.snd (Prod.snd (Prod.snd r13))))))) (Prod.snd (Prod.snd (Prod.snd (Prod.snd (Prod.snd (Prod.snd (Prod.snd r13)))))))) fun r14 => gbind (spec_MovePeg L (Prod.fst r13) (Prod.fst (Prod.snd r13)) (Prod.fst (Prod.snd (Prod.snd r13))) (Prod.fst (Prod.snd (Prod.snd (Prod.snd r13)))) (Prod.fst (Prod.snd (Prod.snd (Prod.snd (Prod.snd r13))))) (Prod.fst (Prod.snd (Prod.snd (Prod.snd (Prod.snd (Prod.snd r13)))))) (Prod.fst (Prod.snd (Prod.snd (Prod.snd (Prod.snd (Prod.snd (Prod.snd r13))))))) (Prod.snd (Prod.snd (Prod.snd (Prod.snd (Prod.snd (Prod.snd (Prod.snd r13)))))))) fun r15 => gbind (spec_DrawShearMove L v1) fun r16 => gbind (impl_ShearMove L r16) fun r17 => gbind (spec_ShearMove L r16) fun r18 => bif !beqb (Prod.snd (Prod.snd (Prod.snd (Prod.snd (Prod.snd (Prod.snd r6)))))) (Prod.snd (Prod.snd (Prod.snd (Prod.snd (Prod.snd (Prod.snd r7)))))) then (some false) else (bif !(ieq (Prod.fst r6) (Prod.fst r7) && (ieq (Prod.fst (Prod.snd r6)) (Prod.fst (Prod.snd r7)) && (ieq (Prod.fst (Prod.snd (Prod.snd r6))) (Prod.fst (Prod.snd (Prod.snd r7))) && (ieq (Prod.fst (Prod.snd (Prod.snd (Prod.snd r6)))) (Prod.fst (Prod.snd (Prod.snd (Prod.snd r7)))) && (ieq (Prod.fst (Prod.snd (Prod.snd (Prod.snd (Prod.snd r6))))) (Prod.fst (Prod.snd (Prod.snd (Prod.snd (Prod.snd r7))))) && ieq (Prod.fst (Prod.snd (Prod.snd (Prod.snd (Prod.snd (Prod.snd r6)))))) (Prod.fst (Prod.snd (Prod.snd (Prod.snd (Prod.snd (Prod.snd r7))))))))))) then (some false) else (bif !beqb (Prod.snd (Prod.snd (Prod.snd (Prod.snd (Prod.snd (Prod.snd r9)))))) (Prod.snd (Prod.snd (Prod.snd (Prod.snd (Prod.snd (Prod.snd r10)))))) then (some false) else (bif !(ieq (Prod.fst r9) (Prod.fst r10) && (ieq (Prod.fst (Prod.snd r9)) (Prod.fst (Prod.snd r10)) && (ieq (Prod.fst (Prod.snd (Prod.snd r9))) (Prod.fst (Prod.snd (Prod.snd r10))) && (ieq (Prod.fst (Prod.snd (Prod.snd (Prod.snd r9)))) (Prod.fst (Prod.snd (Prod.snd (Prod.snd r10)))) && (ieq (Prod.fst (Prod.snd (Prod.snd (Prod.snd (Prod.snd r9))))) (Prod.fst (Prod.snd (Prod.snd (Prod.snd (Prod.snd r10))))) && ieq (Prod.fst (Prod.snd (Prod.snd (Prod.snd (Prod.snd (Prod.snd r9)))))) (Prod.fst (Prod.snd (Prod.snd (Prod.snd (Prod.snd (Prod.snd r10))))))))))) then (some false) else (bif !beqb (Prod.snd r11) (Prod.snd r12) then (some false) else (bif !ieq (Prod.fst r11) (Prod.fst r12) then (some false) else (bif !beqb (Prod.snd (Prod.snd r14)) (Prod.snd (Prod.snd r15)) then (some false) else (bif !(ieq (Prod.fst r14) (Prod.fst r15) && ieq (Prod.fst (Prod.snd r14)) (Prod.fst (Prod.snd r15))) then (some false) else (bif !beqb (Prod.snd (Prod.snd (Prod.snd (Prod.snd (Prod.snd (Prod.snd r17)))))) (Prod.snd (Prod.snd (Prod.snd (Prod.snd (Prod.snd (Prod.snd r18)))))) then (some false) else (bif !(ieq (Prod.fst r17) (Prod.fst r18) && (ieq (Prod.fst (Prod.snd r17)) (Prod.fst (Prod.snd r18)) && (ieq (Prod.fst (Prod.snd (Prod.snd r17))) (Prod.fst (Prod.snd (Prod.snd r18))) && (ieq (Prod.fst (Prod.snd (Prod.snd (Prod.snd r17)))) (Prod.fst (Prod.snd (Prod.snd (Prod.snd r18)))) && (ieq (Prod.fst (Prod.snd (Prod.snd (Prod.snd (Prod.snd r17))))) (Prod.fst (Prod.snd (Prod.snd (Prod.snd (Prod.snd r18))))) && ieq (Prod.fst (Prod.snd (Prod.snd (Prod.snd (Prod.snd (Prod.snd r17)))))) (Prod.fst (Prod.snd (Prod.snd (Prod.snd (Prod.snd (Prod.snd r18))))))))))) then (some false) else (gbind (impl_IsMove L (Prod.fst r8) (Prod.fst (Prod.snd r8)) (Prod.fst (Prod.snd (Prod.snd r8))) (Prod.fst (Prod.snd (Prod.snd (Prod.snd r8)))) (Prod.fst (Prod.snd (Prod.snd (Prod.snd (Prod.snd r8))))) (Prod.snd (Prod.snd (Prod.snd (Prod.snd (Prod.snd r8)))))) fun r19 => gbind (spec_IsMove L (Prod.fst r8) (Prod.fst (Prod.snd r8)) (Prod.fst (Prod.snd (Prod.snd r8))) (Prod.fst (Prod.snd (Prod.snd (Prod.snd r8)))) (Prod.fst (Prod.snd (Prod.snd (Prod.snd (Prod.snd r8))))) (Prod.snd (Prod.snd (Prod.snd (Prod.snd (Prod.snd r8)))))) fun r20 => bif !beqb r19 r20 then (some false) else (gbind (impl_IsMove L (Prod.fst r8) (Prod.fst (Prod.snd r8)) (Prod.fst (Prod.snd (Prod.snd r8))) (Prod.fst (Prod.snd (Prod.snd (Prod.snd r8)))) (Prod.fst (Prod.snd (Prod.snd (Prod.snd (Prod.snd r8))))) (Prod.snd (Prod.snd (Prod.snd (Prod.snd (Prod.snd r8)))))) fun r21 => bif !beqb (Prod.snd r11) r21 then (some false) else (bif Prod.snd (Prod.snd (Prod.snd (Prod.snd (Prod.snd (Prod.snd r6))))) then (gbind (impl_SideOfMove L (Prod.fst r5) (Prod.fst (Prod.snd r5)) (Prod.fst (Prod.snd (Prod.snd r5))) (Prod.fst (Prod.snd (Prod.snd (Prod.snd r5)))) (Prod.fst (Prod.snd (Prod.snd (Prod.snd (Prod.snd r5))))) (Prod.fst (Prod.snd (Prod.snd (Prod.snd (Prod.snd (Prod.snd r5))))))) fun r26 => gbind (impl_SideOfMove L (Prod.fst (Prod.snd (Prod.snd (Prod.snd (Prod.snd (Prod.snd (Prod.snd r5))))))) (Prod.fst (Prod.snd (Prod.snd (Prod.snd (Prod.snd (Prod.snd (Prod.snd (Prod.snd r5)))))))) (Prod.fst (Prod.snd (Prod.snd (Prod.snd (Prod.snd (Prod.snd (Prod.snd (Prod.snd (Prod.snd r5))))))))) (Prod.fst (Prod.snd (Prod.snd (Prod.snd (Prod.snd (Prod.snd (Prod.snd (Prod.snd (Prod.snd (Prod.snd r5)))))))))) (Prod.fst (Prod.snd (Prod.snd (Prod.snd (Prod.snd (Prod.snd (Prod.snd (Prod.snd (Prod.snd (Prod.snd (Prod.snd r5))))))))))) (Prod.snd (Prod.snd (Prod.snd (Prod.snd (Prod.snd (Prod.snd (Prod.snd (Prod.snd (Prod.snd (Prod.snd (Prod.snd r5)))))))))))) fun r27 => gbind (impl_SideOfMove L (Prod.fst r6) (Prod.fst (Prod.snd r6)) (Prod.fst (Prod.snd (Prod.snd r6))) (Prod.fst (Prod.snd (Prod.snd (Prod.snd r6)))) (Prod.fst (Prod.snd (Prod.snd (Prod.snd (Prod.snd r6))))) (Prod.fst (Prod.snd (Prod.snd (Prod.snd (Prod.snd (Prod.snd r6))))))) fun r28 => bif !Prod.snd r26 then (some false) else (bif !Prod.snd r27 then (some false) else (bif !Prod.snd r28 then (some false) else (bif !ieq (Prod.fst r28) (wr IntKind.i64 (imul (Prod.fst r26) (Prod.fst r27))) then (some false) else (gbind (impl_MovePeg L (Prod.fst (Prod.snd (Prod.snd (Prod.snd (Prod.snd (Prod.snd (Prod.snd r5))))))) (Prod.fst (Prod.snd (Prod.snd (Prod.snd (Prod.snd (Prod.snd (Prod.snd (Prod.snd r5)))))))) (Prod.fst (Prod.snd (Prod.snd (Prod.snd (Prod.snd (Prod.snd (Prod.snd (Prod.snd (Prod.snd r5))))))))) (Prod.fst (Prod.snd (Prod.snd (Prod.snd (Prod.snd (Prod.snd (Prod.snd (Prod.snd (Prod.snd (Prod.snd r5)))))))))) (Prod.fst (Prod.snd (Prod.snd (Prod.snd (Prod.snd (Prod.snd (Prod.snd (Prod.snd (Prod.snd (Prod.snd (Prod.snd r5))))))))))) (Prod.snd (Prod.snd (Prod.snd (Prod.snd (Prod.snd (Prod.snd (Prod.snd (Prod.snd (Prod.snd (Prod.snd (Prod.snd r5))))))))))) (Prod.fst (Prod.snd (Prod.snd (Prod.snd (Prod.snd (Prod.snd (Prod.snd r13))))))) (Prod.snd (Prod.snd (Prod.snd (Prod.snd (Prod.snd (Prod.snd (Prod.snd r13)))))))) fun r29 => bif Prod.snd (Prod.snd r29) then (gbind (impl_MovePeg L (Prod.fst r5) (Prod.fst (Prod.snd r5)) (Prod.fst (Prod.snd (Prod.snd r5))) (Prod.fst (Prod.snd (Prod.snd (Prod.snd r5)))) (Prod.fst (Prod.snd (Prod.snd (Prod.snd (Prod.snd r5))))) (Prod.fst (Prod.snd (Prod.snd (Prod.snd (Prod.snd (Prod.snd r5)))))) (Prod.fst r29) (Prod.fst (Prod.snd r29))) fun r30 => gbind (impl_MovePeg L (Prod.fst r6) (Prod.fst (Prod.snd r6)) (Prod.fst (Prod.snd (Prod.snd r6))) (Prod.fst (Prod.snd (Prod.snd (Prod.snd r6)))) (Prod.fst (Prod.snd (Prod.snd (Prod.snd (Prod.snd r6))))) (Prod.fst (Prod.snd (Prod.snd (Prod.snd (Prod.snd (Prod.snd r6)))))) (Prod.fst (Prod.snd (Prod.snd (Prod.snd (Prod.snd (Prod.snd (Prod.snd r13))))))) (Prod.snd (Prod.snd (Prod.snd (Prod.snd (Prod.snd (Prod.snd (Prod.snd r13)))))))) fun r31 => bif !beqb (Prod.snd (Prod.snd r30)) (Prod.snd (Prod.snd r31)) then (some false) else (bif !(ieq (Prod.fst r30) (Prod.fst r31) && ieq (Prod.fst (Prod.snd r30)) (Prod.fst (Prod.snd r31))) then (some false) else (laws_FnMovesKeep_j1 L r8 r9 r16 r17))) else (laws_FnMovesKeep_j1 L r8 r9 r16 r17)))))) else (laws_FnMovesKeep_j1 L r8 r9 r16 r17)))))))))))))


noncomputable def laws_FnMovesKeep_l3 (L : Nat) (b : List Int) (r1 : Int × Int × Int × Int × Int × Int × List Pt) (r2 : List Pt × Bool) : Nat → Int → Option Bool
  | 0, _ => none
  | m + 1, v170 => bif ilt v170 (ilen (List.map ep (Prod.snd (Prod.snd (Prod.snd (Prod.snd (Prod.snd (Prod.snd r1)))))))) then (bif ile 0 v170 && ilt v170 (ilen (List.map ep (Prod.snd (Prod.snd (Prod.snd (Prod.snd (Prod.snd (Prod.snd r1)))))))) then (gbind (lget (Prod.snd (Prod.snd (Prod.snd (Prod.snd (Prod.snd (Prod.snd r1)))))) v170) fun p => gbind (impl_MovePeg L (Prod.fst r1) (Prod.fst (Prod.snd r1)) (Prod.fst (Prod.snd (Prod.snd r1))) (Prod.fst (Prod.snd (Prod.snd (Prod.snd r1)))) (Prod.fst (Prod.snd (Prod.snd (Prod.snd (Prod.snd r1))))) (Prod.fst (Prod.snd (Prod.snd (Prod.snd (Prod.snd (Prod.snd r1)))))) (Pt.x p) (Pt.y p)) fun r39 => bif !Prod.snd (Prod.snd r39) then (some false) else (bif ile 0 v170 && ilt v170 (ilen (List.map ep (Prod.fst r2))) then (gbind (lget (Prod.fst r2) v170) fun p1 => bif !(ieq (Prod.fst r39) (Pt.x p1) && ieq (Prod.fst (Prod.snd r39)) (Pt.y p1)) then (some false) else (laws_FnMovesKeep_l3 L b r1 r2 m (wr IntKind.i64 (iadd v170 1)))) else (none))) else (none)) else (gbind (impl_AreAlike L (Prod.snd (Prod.snd (Prod.snd (Prod.snd (Prod.snd (Prod.snd r1)))))) (Prod.fst r2)) fun r40 => bif !Prod.snd r40 then (some false) else (bif !Prod.fst r40 then (some false) else (laws_FnMovesKeep_j0 L b)))


noncomputable def laws_FnMovesKeep (L : Nat) (a : List Int) (b : List Int) : Option (Bool) := gbind (laws_big L a b) fun r => bif r then (some true) else (gbind (spec_DrawMoveCorners L a) fun r1 => gbind (impl_MoveCorners L (Prod.fst r1) (Prod.fst (Prod.snd r1)) (Prod.fst (Prod.snd (Prod.snd r1))) (Prod.fst (Prod.snd (Prod.snd (Prod.snd r1)))) (Prod.fst (Prod.snd (Prod.snd (Prod.snd (Prod.snd r1))))) (Prod.fst (Prod.snd (Prod.snd (Prod.snd (Prod.snd (Prod.snd r1)))))) (Prod.snd (Prod.snd (Prod.snd (Prod.snd (Prod.snd (Prod.snd r1))))))) fun r2 => gbind (spec_MoveCorners L (Prod.fst r1) (Prod.fst (Prod.snd r1)) (Prod.fst (Prod.snd (Prod.snd r1))) (Prod.fst (Prod.snd (Prod.snd (Prod.snd r1)))) (Prod.fst (Prod.snd (Prod.snd (Prod.snd (Prod.snd r1))))) (Prod.fst (Prod.snd (Prod.snd (Prod.snd (Prod.snd (Prod.snd r1)))))) (Prod.snd (Prod.snd (Prod.snd (Prod.snd (Prod.snd (Prod.snd r1))))))) fun r3 => bif !beqb (Prod.snd r2) (Prod.snd r3) then (some false) else (gbind (laws_zPegs L (Prod.fst r2) (Prod.fst r3)) fun r4 => bif !r4 then (some false) else (bif Prod.snd r2 then (gbind (impl_SideOfMove L (Prod.fst r1) (Prod.fst (Prod.snd r1)) (Prod.fst (Prod.snd (Prod.snd r1))) (Prod.fst (Prod.snd (Prod.snd (Prod.snd r1)))) (Prod.fst (Prod.snd (Prod.snd (Prod.snd (Prod.snd r1))))) (Prod.fst (Prod.snd (Prod.snd (Prod.snd (Prod.snd (Prod.snd r1))))))) fun r32 => gbind (impl_TwiceArea L (Prod.snd (Prod.snd (Prod.snd (Prod.snd (Prod.snd (Prod.snd r1))))))) fun r33 => gbind (impl_TwiceArea L (Prod.fst r2)) fun r34 => gbind (impl_PegsOn L (Prod.snd (Prod.snd (Prod.snd (Prod.snd (Prod.snd (Prod.snd r1))))))) fun r35 => gbind (impl_PegsOn L (Prod.fst r2)) fun r36 => gbind (impl_IsMove L (Prod.fst r1) (Prod.fst (Prod.snd r1)) (Prod.fst (Prod.snd (Prod.snd r1))) (Prod.fst (Prod.snd (Prod.snd (Prod.snd r1)))) (Prod.fst (Prod.snd (Prod.snd (Prod.snd (Prod.snd r1))))) (Prod.fst (Prod.snd (Prod.snd (Prod.snd (Prod.snd (Prod.snd r1))))))) fun r37 => bif !r37 then (some false) else (gbind (impl_IsPolygon L (Prod.fst r2)) fun r38 => bif !r38 then (some false) else (bif !Prod.snd r32 then (some false) else (bif !Prod.snd r33 then (some false) else (bif !Prod.snd r34 then (some false) else (bif !ieq (Prod.fst r34) (wr IntKind.i64 (imul (Prod.fst r32) (Prod.fst r33))) then (some false) else (bif !Prod.snd r35 then (some false) else (bif !Prod.snd r36 then (some false) else (bif !ieq (Prod.fst r36) (Prod.fst r35) then (some false) else (laws_FnMovesKeep_l3 L b r1 r2 L 0)))))))))) else (laws_FnMovesKeep_j0 L b))))


def laws_FnMovesKeep_ok (L : Nat) (C : CF) : Prop := ∀ (oa : Bool) (ca : Bool) (x_a : List AV) (a : List Int) (_ : x_a = List.map eU a) (ob : Bool) (cb : Bool) (x_b : List AV) (b : List Int) (_ : x_b = List.map eU b), C 7 ([.lst oa ca 1 x_a, .lst ob cb 1 x_b]) ([]) = Option.map (fun r : Bool => ((.bool r, []) : AV × List Blk)) (laws_FnMovesKeep L a b)


theorem laws_FnMovesKeep_run (L : Nat) (C : CF) (h_impl_IsPolygon : impl_IsPolygon_ok L C) (h_laws_big : laws_big_ok L C) (h_spec_DrawMoveCorners : spec_DrawMoveCorners_ok L C) (h_impl_IsMove : impl_IsMove_ok L C) (h_impl_MoveCorners : impl_MoveCorners_ok L C) (h_spec_MoveCorners : spec_MoveCorners_ok L C) (h_laws_zPegs : laws_zPegs_ok L C) (h_impl_SideOfMove : impl_SideOfMove_ok L C) (h_impl_TwiceArea : impl_TwiceArea_ok L C) (h_impl_PegsOn : impl_PegsOn_ok L C) (h_impl_MovePeg : impl_MovePeg_ok L C) (h_impl_AreAlike : impl_AreAlike_ok L C) (h_spec_DrawJoinMoves : spec_DrawJoinMoves_ok L C) (h_impl_JoinMoves : impl_JoinMoves_ok L C) (h_spec_JoinMoves : spec_JoinMoves_ok L C) (h_spec_DrawBackMove : spec_DrawBackMove_ok L C) (h_impl_BackMove : impl_BackMove_ok L C) (h_spec_BackMove : spec_BackMove_ok L C) (h_spec_SideOfMove : spec_SideOfMove_ok L C) (h_spec_DrawMovePeg : spec_DrawMovePeg_ok L C) (h_spec_MovePeg : spec_MovePeg_ok L C) (h_spec_DrawShearMove : spec_DrawShearMove_ok L C) (h_impl_ShearMove : impl_ShearMove_ok L C) (h_spec_ShearMove : spec_ShearMove_ok L C) (h_spec_IsMove : spec_IsMove_ok L C) : ∀ (oa : Bool) (ca : Bool) (x_a : List AV) (a : List Int) (_ : x_a = List.map eU a) (ob : Bool) (cb : Bool) (x_b : List AV) (b : List Int) (_ : x_b = List.map eU b), run T C sh (keep 7) L Try.f7 ([.lst oa ca 1 x_a, .lst ob cb 1 x_b]) ([]) = Option.map (fun r : Bool => ((.bool r, []) : AV × List Blk)) (laws_FnMovesKeep L a b) := by
  intro oa ca x_a a hx_a ob cb x_b b hx_b
  subst hx_a
  subst hx_b
  unfold laws_FnMovesKeep
  conv => lhs; whnf
  refine t_call (h_laws_big _ _ _ a (by first | rfl | (simp only [ml]; done) | (simp only [ml]; rfl)) _ _ _ b (by first | rfl | (simp only [ml]; done) | (simp only [ml]; rfl))) fun r => ?_
  conv => lhs; whnf
  refine t_cond ?_ ?_
  · conv => lhs; whnf
    exact t_ret (by first | rfl | (simp only [ml]; done) | (simp only [ml]; rfl))
  · conv => lhs; whnf
    refine t_call (h_spec_DrawMoveCorners _ _ _ a (by first | rfl | (simp only [ml]; done) | (simp only [ml]; rfl))) fun r1 => ?_
    conv => lhs; whnf
    refine t_call (h_impl_MoveCorners (Prod.fst r1) (Prod.fst (Prod.snd r1)) (Prod.fst (Prod.snd (Prod.snd r1))) (Prod.fst (Prod.snd (Prod.snd (Prod.snd r1)))) (Prod.fst (Prod.snd (Prod.snd (Prod.snd (Prod.snd r1))))) (Prod.fst (Prod.snd (Prod.snd (Prod.snd (Prod.snd (Prod.snd r1)))))) _ _ _ (Prod.snd (Prod.snd (Prod.snd (Prod.snd (Prod.snd (Prod.snd r1)))))) (by first | rfl | (simp only [ml]; done) | (simp only [ml]; rfl))) fun r2 => ?_
    conv => lhs; whnf
    refine t_call (h_spec_MoveCorners (Prod.fst r1) (Prod.fst (Prod.snd r1)) (Prod.fst (Prod.snd (Prod.snd r1))) (Prod.fst (Prod.snd (Prod.snd (Prod.snd r1)))) (Prod.fst (Prod.snd (Prod.snd (Prod.snd (Prod.snd r1))))) (Prod.fst (Prod.snd (Prod.snd (Prod.snd (Prod.snd (Prod.snd r1)))))) _ _ _ (Prod.snd (Prod.snd (Prod.snd (Prod.snd (Prod.snd (Prod.snd r1)))))) (by first | rfl | (simp only [ml]; done) | (simp only [ml]; rfl))) fun r3 => ?_
    conv => lhs; whnf
    refine t_cond ?_ ?_
    · conv => lhs; whnf
      exact t_ret (by first | rfl | (simp only [ml]; done) | (simp only [ml]; rfl))
    · conv => lhs; whnf
      refine t_call (h_laws_zPegs _ _ _ (Prod.fst r2) (by first | rfl | (simp only [ml]; done) | (simp only [ml]; rfl)) _ _ _ (Prod.fst r3) (by first | rfl | (simp only [ml]; done) | (simp only [ml]; rfl))) fun r4 => ?_
      conv => lhs; whnf
      refine t_cond ?_ ?_
      · conv => lhs; whnf
        exact t_ret (by first | rfl | (simp only [ml]; done) | (simp only [ml]; rfl))
      · conv => lhs; whnf
        refine t_join (fun (v1 : (List Int)) => (AV.top :: AV.lst ob cb 1 (List.map eU v1) :: tops 440, [])) (fun (v1 : (List Int)) => laws_FnMovesKeep_j0 L v1) ?_ fun J hJ => ?_
        · intro v1
          show _ = Option.map _ (laws_FnMovesKeep_j0 L v1)
          unfold laws_FnMovesKeep_j0
          conv => lhs; whnf
          refine t_call (h_spec_DrawJoinMoves _ _ _ v1 (by first | rfl | (simp only [ml]; done) | (simp only [ml]; rfl))) fun r5 => ?_
          conv => lhs; whnf
          refine t_call (h_impl_JoinMoves (Prod.fst r5) (Prod.fst (Prod.snd r5)) (Prod.fst (Prod.snd (Prod.snd r5))) (Prod.fst (Prod.snd (Prod.snd (Prod.snd r5)))) (Prod.fst (Prod.snd (Prod.snd (Prod.snd (Prod.snd r5))))) (Prod.fst (Prod.snd (Prod.snd (Prod.snd (Prod.snd (Prod.snd r5)))))) (Prod.fst (Prod.snd (Prod.snd (Prod.snd (Prod.snd (Prod.snd (Prod.snd r5))))))) (Prod.fst (Prod.snd (Prod.snd (Prod.snd (Prod.snd (Prod.snd (Prod.snd (Prod.snd r5)))))))) (Prod.fst (Prod.snd (Prod.snd (Prod.snd (Prod.snd (Prod.snd (Prod.snd (Prod.snd (Prod.snd r5))))))))) (Prod.fst (Prod.snd (Prod.snd (Prod.snd (Prod.snd (Prod.snd (Prod.snd (Prod.snd (Prod.snd (Prod.snd r5)))))))))) (Prod.fst (Prod.snd (Prod.snd (Prod.snd (Prod.snd (Prod.snd (Prod.snd (Prod.snd (Prod.snd (Prod.snd (Prod.snd r5))))))))))) (Prod.snd (Prod.snd (Prod.snd (Prod.snd (Prod.snd (Prod.snd (Prod.snd (Prod.snd (Prod.snd (Prod.snd (Prod.snd r5)))))))))))) fun r6 => ?_
          conv => lhs; whnf
          refine t_call (h_spec_JoinMoves (Prod.fst r5) (Prod.fst (Prod.snd r5)) (Prod.fst (Prod.snd (Prod.snd r5))) (Prod.fst (Prod.snd (Prod.snd (Prod.snd r5)))) (Prod.fst (Prod.snd (Prod.snd (Prod.snd (Prod.snd r5))))) (Prod.fst (Prod.snd (Prod.snd (Prod.snd (Prod.snd (Prod.snd r5)))))) (Prod.fst (Prod.snd (Prod.snd (Prod.snd (Prod.snd (Prod.snd (Prod.snd r5))))))) (Prod.fst (Prod.snd (Prod.snd (Prod.snd (Prod.snd (Prod.snd (Prod.snd (Prod.snd r5)))))))) (Prod.fst (Prod.snd (Prod.snd (Prod.snd (Prod.snd (Prod.snd (Prod.snd (Prod.snd (Prod.snd r5))))))))) (Prod.fst (Prod.snd (Prod.snd (Prod.snd (Prod.snd (Prod.snd (Prod.snd (Prod.snd (Prod.snd (Prod.snd r5)))))))))) (Prod.fst (Prod.snd (Prod.snd (Prod.snd (Prod.snd (Prod.snd (Prod.snd (Prod.snd (Prod.snd (Prod.snd (Prod.snd r5))))))))))) (Prod.snd (Prod.snd (Prod.snd (Prod.snd (Prod.snd (Prod.snd (Prod.snd (Prod.snd (Prod.snd (Prod.snd (Prod.snd r5)))))))))))) fun r7 => ?_
          conv => lhs; whnf
          refine t_call (h_spec_DrawBackMove _ _ _ v1 (by first | rfl | (simp only [ml]; done) | (simp only [ml]; rfl))) fun r8 => ?_
          conv => lhs; whnf
          refine t_call (h_impl_BackMove (Prod.fst r8) (Prod.fst (Prod.snd r8)) (Prod.fst (Prod.snd (Prod.snd r8))) (Prod.fst (Prod.snd (Prod.snd (Prod.snd r8)))) (Prod.fst (Prod.snd (Prod.snd (Prod.snd (Prod.snd r8))))) (Prod.snd (Prod.snd (Prod.snd (Prod.snd (Prod.snd r8)))))) fun r9 => ?_
          conv => lhs; whnf
          refine t_call (h_spec_BackMove (Prod.fst r8) (Prod.fst (Prod.snd r8)) (Prod.fst (Prod.snd (Prod.snd r8))) (Prod.fst (Prod.snd (Prod.snd (Prod.snd r8)))) (Prod.fst (Prod.snd (Prod.snd (Prod.snd (Prod.snd r8))))) (Prod.snd (Prod.snd (Prod.snd (Prod.snd (Prod.snd r8)))))) fun r10 => ?_
          conv => lhs; whnf
          refine t_call (h_impl_SideOfMove (Prod.fst r8) (Prod.fst (Prod.snd r8)) (Prod.fst (Prod.snd (Prod.snd r8))) (Prod.fst (Prod.snd (Prod.snd (Prod.snd r8)))) (Prod.fst (Prod.snd (Prod.snd (Prod.snd (Prod.snd r8))))) (Prod.snd (Prod.snd (Prod.snd (Prod.snd (Prod.snd r8)))))) fun r11 => ?_
          conv => lhs; whnf
          refine t_call (h_spec_SideOfMove (Prod.fst r8) (Prod.fst (Prod.snd r8)) (Prod.fst (Prod.snd (Prod.snd r8))) (Prod.fst (Prod.snd (Prod.snd (Prod.snd r8)))) (Prod.fst (Prod.snd (Prod.snd (Prod.snd (Prod.snd r8))))) (Prod.snd (Prod.snd (Prod.snd (Prod.snd (Prod.snd r8)))))) fun r12 => ?_
          conv => lhs; whnf
          refine t_call (h_spec_DrawMovePeg _ _ _ v1 (by first | rfl | (simp only [ml]; done) | (simp only [ml]; rfl))) fun r13 => ?_
          conv => lhs; whnf
          refine t_call (h_impl_MovePeg (Prod.fst r13) (Prod.fst (Prod.snd r13)) (Prod.fst (Prod.snd (Prod.snd r13))) (Prod.fst (Prod.snd (Prod.snd (Prod.snd r13)))) (Prod.fst (Prod.snd (Prod.snd (Prod.snd (Prod.snd r13))))) (Prod.fst (Prod.snd (Prod.snd (Prod.snd (Prod.snd (Prod.snd r13)))))) (Prod.fst (Prod.snd (Prod.snd (Prod.snd (Prod.snd (Prod.snd (Prod.snd r13))))))) (Prod.snd (Prod.snd (Prod.snd (Prod.snd (Prod.snd (Prod.snd (Prod.snd r13)))))))) fun r14 => ?_
          conv => lhs; whnf
          refine t_call (h_spec_MovePeg (Prod.fst r13) (Prod.fst (Prod.snd r13)) (Prod.fst (Prod.snd (Prod.snd r13))) (Prod.fst (Prod.snd (Prod.snd (Prod.snd r13)))) (Prod.fst (Prod.snd (Prod.snd (Prod.snd (Prod.snd r13))))) (Prod.fst (Prod.snd (Prod.snd (Prod.snd (Prod.snd (Prod.snd r13)))))) (Prod.fst (Prod.snd (Prod.snd (Prod.snd (Prod.snd (Prod.snd (Prod.snd r13))))))) (Prod.snd (Prod.snd (Prod.snd (Prod.snd (Prod.snd (Prod.snd (Prod.snd r13)))))))) fun r15 => ?_
          conv => lhs; whnf
          refine t_call (h_spec_DrawShearMove _ _ _ v1 (by first | rfl | (simp only [ml]; done) | (simp only [ml]; rfl))) fun r16 => ?_
          conv => lhs; whnf
          refine t_call (h_impl_ShearMove r16) fun r17 => ?_
          conv => lhs; whnf
          refine t_call (h_spec_ShearMove r16) fun r18 => ?_
          conv => lhs; whnf
          refine t_cond ?_ ?_
          · conv => lhs; whnf
            exact t_ret (by first | rfl | (simp only [ml]; done) | (simp only [ml]; rfl))
          · conv => lhs; whnf
            refine t_cond ?_ ?_
            · conv => lhs; whnf
              exact t_ret (by first | rfl | (simp only [ml]; done) | (simp only [ml]; rfl))
            · conv => lhs; whnf
              refine t_cond ?_ ?_
              · conv => lhs; whnf
                exact t_ret (by first | rfl | (simp only [ml]; done) | (simp only [ml]; rfl))
              · conv => lhs; whnf
                refine t_cond ?_ ?_
                · conv => lhs; whnf
                  exact t_ret (by first | rfl | (simp only [ml]; done) | (simp only [ml]; rfl))
                · conv => lhs; whnf
                  refine t_cond ?_ ?_
                  · conv => lhs; whnf
                    exact t_ret (by first | rfl | (simp only [ml]; done) | (simp only [ml]; rfl))
                  · conv => lhs; whnf
                    refine t_cond ?_ ?_
                    · conv => lhs; whnf
                      exact t_ret (by first | rfl | (simp only [ml]; done) | (simp only [ml]; rfl))
                    · conv => lhs; whnf
                      refine t_cond ?_ ?_
                      · conv => lhs; whnf
                        exact t_ret (by first | rfl | (simp only [ml]; done) | (simp only [ml]; rfl))
                      · conv => lhs; whnf
                        refine t_cond ?_ ?_
                        · conv => lhs; whnf
                          exact t_ret (by first | rfl | (simp only [ml]; done) | (simp only [ml]; rfl))
                        · conv => lhs; whnf
                          refine t_cond ?_ ?_
                          · conv => lhs; whnf
                            exact t_ret (by first | rfl | (simp only [ml]; done) | (simp only [ml]; rfl))
                          · conv => lhs; whnf
                            refine t_cond ?_ ?_
                            · conv => lhs; whnf
                              exact t_ret (by first | rfl | (simp only [ml]; done) | (simp only [ml]; rfl))
                            · conv => lhs; whnf
                              refine t_call (h_impl_IsMove (Prod.fst r8) (Prod.fst (Prod.snd r8)) (Prod.fst (Prod.snd (Prod.snd r8))) (Prod.fst (Prod.snd (Prod.snd (Prod.snd r8)))) (Prod.fst (Prod.snd (Prod.snd (Prod.snd (Prod.snd r8))))) (Prod.snd (Prod.snd (Prod.snd (Prod.snd (Prod.snd r8)))))) fun r19 => ?_
                              conv => lhs; whnf
                              refine t_call (h_spec_IsMove (Prod.fst r8) (Prod.fst (Prod.snd r8)) (Prod.fst (Prod.snd (Prod.snd r8))) (Prod.fst (Prod.snd (Prod.snd (Prod.snd r8)))) (Prod.fst (Prod.snd (Prod.snd (Prod.snd (Prod.snd r8))))) (Prod.snd (Prod.snd (Prod.snd (Prod.snd (Prod.snd r8)))))) fun r20 => ?_
                              conv => lhs; whnf
                              refine t_cond ?_ ?_
                              · conv => lhs; whnf
                                exact t_ret (by first | rfl | (simp only [ml]; done) | (simp only [ml]; rfl))
                              · conv => lhs; whnf
                                refine t_call (h_impl_IsMove (Prod.fst r8) (Prod.fst (Prod.snd r8)) (Prod.fst (Prod.snd (Prod.snd r8))) (Prod.fst (Prod.snd (Prod.snd (Prod.snd r8)))) (Prod.fst (Prod.snd (Prod.snd (Prod.snd (Prod.snd r8))))) (Prod.snd (Prod.snd (Prod.snd (Prod.snd (Prod.snd r8)))))) fun r21 => ?_
                                conv => lhs; whnf
                                refine t_cond ?_ ?_
                                · conv => lhs; whnf
                                  exact t_ret (by first | rfl | (simp only [ml]; done) | (simp only [ml]; rfl))
                                · conv => lhs; whnf
                                  refine t_join (fun (_ : Unit) => (topA 33 (AV.ptr 0 0 0 6 :: AV.ptr 1 0 0 6 :: AV.bool (Prod.snd (Prod.snd (Prod.snd (Prod.snd (Prod.snd (Prod.snd r9)))))) :: topA 12 (AV.int IntKind.i64 r16 :: AV.ptr 2 0 0 6 :: AV.bool (Prod.snd (Prod.snd (Prod.snd (Prod.snd (Prod.snd (Prod.snd r17)))))) :: tops 391)), [Blk.box (AV.agg [AV.int IntKind.i64 (Prod.fst r8), AV.int IntKind.i64 (Prod.fst (Prod.snd r8)), AV.int IntKind.i64 (Prod.fst (Prod.snd (Prod.snd r8))), AV.int IntKind.i64 (Prod.fst (Prod.snd (Prod.snd (Prod.snd r8)))), AV.int IntKind.i64 (Prod.fst (Prod.snd (Prod.snd (Prod.snd (Prod.snd r8))))), AV.int IntKind.i64 (Prod.snd (Prod.snd (Prod.snd (Prod.snd (Prod.snd r8)))))]), Blk.box (AV.agg [AV.int IntKind.i64 (Prod.fst r9), AV.int IntKind.i64 (Prod.fst (Prod.snd r9)), AV.int IntKind.i64 (Prod.fst (Prod.snd (Prod.snd r9))), AV.int IntKind.i64 (Prod.fst (Prod.snd (Prod.snd (Prod.snd r9)))), AV.int IntKind.i64 (Prod.fst (Prod.snd (Prod.snd (Prod.snd (Prod.snd r9))))), AV.int IntKind.i64 (Prod.fst (Prod.snd (Prod.snd (Prod.snd (Prod.snd (Prod.snd r9))))))]), Blk.box (AV.agg [AV.int IntKind.i64 (Prod.fst r17), AV.int IntKind.i64 (Prod.fst (Prod.snd r17)), AV.int IntKind.i64 (Prod.fst (Prod.snd (Prod.snd r17))), AV.int IntKind.i64 (Prod.fst (Prod.snd (Prod.snd (Prod.snd r17)))), AV.int IntKind.i64 (Prod.fst (Prod.snd (Prod.snd (Prod.snd (Prod.snd r17))))), AV.int IntKind.i64 (Prod.fst (Prod.snd (Prod.snd (Prod.snd (Prod.snd (Prod.snd r17))))))])])) (fun (_ : Unit) => laws_FnMovesKeep_j1 L r8 r9 r16 r17) ?_ fun J1 hJ1 => ?_
                                  · intro s1
                                    show _ = Option.map _ (laws_FnMovesKeep_j1 L r8 r9 r16 r17)
                                    unfold laws_FnMovesKeep_j1
                                    conv => lhs; whnf
                                    refine t_join (fun (_ : Unit) => (topA 48 (AV.int IntKind.i64 r16 :: AV.ptr 0 0 0 6 :: AV.bool (Prod.snd (Prod.snd (Prod.snd (Prod.snd (Prod.snd (Prod.snd r17)))))) :: tops 391), [Blk.box (AV.agg [AV.int IntKind.i64 (Prod.fst r17), AV.int IntKind.i64 (Prod.fst (Prod.snd r17)), AV.int IntKind.i64 (Prod.fst (Prod.snd (Prod.snd r17))), AV.int IntKind.i64 (Prod.fst (Prod.snd (Prod.snd (Prod.snd r17)))), AV.int IntKind.i64 (Prod.fst (Prod.snd (Prod.snd (Prod.snd (Prod.snd r17))))), AV.int IntKind.i64 (Prod.fst (Prod.snd (Prod.snd (Prod.snd (Prod.snd (Prod.snd r17))))))])])) (fun (_ : Unit) => laws_FnMovesKeep_j2 L r16 r17) ?_ fun J2 hJ2 => ?_
                                    · intro s2
                                      show _ = Option.map _ (laws_FnMovesKeep_j2 L r16 r17)
                                      unfold laws_FnMovesKeep_j2
                                      conv => lhs; whnf
                                      refine t_cond ?_ ?_
                                      · conv => lhs; whnf
                                        refine t_call (h_impl_ShearMove (wr IntKind.i64 (isub 0 r16))) fun r22 => ?_
                                        conv => lhs; whnf
                                        refine t_call (h_impl_BackMove (Prod.fst r17) (Prod.fst (Prod.snd r17)) (Prod.fst (Prod.snd (Prod.snd r17))) (Prod.fst (Prod.snd (Prod.snd (Prod.snd r17)))) (Prod.fst (Prod.snd (Prod.snd (Prod.snd (Prod.snd r17))))) (Prod.fst (Prod.snd (Prod.snd (Prod.snd (Prod.snd (Prod.snd r17))))))) fun r23 => ?_
                                        conv => lhs; whnf
                                        refine t_cond ?_ ?_
                                        · conv => lhs; whnf
                                          refine t_cond ?_ ?_
                                          · conv => lhs; whnf
                                            exact t_ret (by first | rfl | (simp only [ml]; done) | (simp only [ml]; rfl))
                                          · conv => lhs; whnf
                                            exact t_ret (by first | rfl | (simp only [ml]; done) | (simp only [ml]; rfl))
                                        · conv => lhs; whnf
                                          exact t_ret (by first | rfl | (simp only [ml]; done) | (simp only [ml]; rfl))
                                      · conv => lhs; whnf
                                        exact t_ret (by first | rfl | (simp only [ml]; done) | (simp only [ml]; rfl))
                                    · conv => lhs; whnf
                                      refine t_cond ?_ ?_
                                      · conv => lhs; whnf
                                        refine t_call (h_impl_JoinMoves (Prod.fst r8) (Prod.fst (Prod.snd r8)) (Prod.fst (Prod.snd (Prod.snd r8))) (Prod.fst (Prod.snd (Prod.snd (Prod.snd r8)))) (Prod.fst (Prod.snd (Prod.snd (Prod.snd (Prod.snd r8))))) (Prod.snd (Prod.snd (Prod.snd (Prod.snd (Prod.snd r8))))) (Prod.fst r9) (Prod.fst (Prod.snd r9)) (Prod.fst (Prod.snd (Prod.snd r9))) (Prod.fst (Prod.snd (Prod.snd (Prod.snd r9)))) (Prod.fst (Prod.snd (Prod.snd (Prod.snd (Prod.snd r9))))) (Prod.fst (Prod.snd (Prod.snd (Prod.snd (Prod.snd (Prod.snd r9))))))) fun r24 => ?_
                                        conv => lhs; whnf
                                        refine t_call (h_impl_BackMove (Prod.fst r9) (Prod.fst (Prod.snd r9)) (Prod.fst (Prod.snd (Prod.snd r9))) (Prod.fst (Prod.snd (Prod.snd (Prod.snd r9)))) (Prod.fst (Prod.snd (Prod.snd (Prod.snd (Prod.snd r9))))) (Prod.fst (Prod.snd (Prod.snd (Prod.snd (Prod.snd (Prod.snd r9))))))) fun r25 => ?_
                                        conv => lhs; whnf
                                        refine t_cond ?_ ?_
                                        · conv => lhs; whnf
                                          exact t_ret (by first | rfl | (simp only [ml]; done) | (simp only [ml]; rfl))
                                        · conv => lhs; whnf
                                          refine t_cond ?_ ?_
                                          · conv => lhs; whnf
                                            exact t_ret (by first | rfl | (simp only [ml]; done) | (simp only [ml]; rfl))
                                          · conv => lhs; whnf
                                            refine t_cond ?_ ?_
                                            · conv => lhs; whnf
                                              exact t_ret (by first | rfl | (simp only [ml]; done) | (simp only [ml]; rfl))
                                            · conv => lhs; whnf
                                              refine t_cond ?_ ?_
                                              · conv => lhs; whnf
                                                exact t_ret (by first | rfl | (simp only [ml]; done) | (simp only [ml]; rfl))
                                              · conv => lhs; whnf
                                                exact hJ2 () _ _ (by first | rfl | (simp only [ml]; done) | (simp only [ml]; rfl)) (by first | rfl | (simp only [ml]; done) | (simp only [ml]; rfl))
                                      · conv => lhs; whnf
                                        exact hJ2 () _ _ (by first | rfl | (simp only [ml]; done) | (simp only [ml]; rfl)) (by first | rfl | (simp only [ml]; done) | (simp only [ml]; rfl))
                                  · conv => lhs; whnf
                                    refine t_cond ?_ ?_
                                    · conv => lhs; whnf
                                      refine t_call (h_impl_SideOfMove (Prod.fst r5) (Prod.fst (Prod.snd r5)) (Prod.fst (Prod.snd (Prod.snd r5))) (Prod.fst (Prod.snd (Prod.snd (Prod.snd r5)))) (Prod.fst (Prod.snd (Prod.snd (Prod.snd (Prod.snd r5))))) (Prod.fst (Prod.snd (Prod.snd (Prod.snd (Prod.snd (Prod.snd r5))))))) fun r26 => ?_
                                      conv => lhs; whnf
                                      refine t_call (h_impl_SideOfMove (Prod.fst (Prod.snd (Prod.snd (Prod.snd (Prod.snd (Prod.snd (Prod.snd r5))))))) (Prod.fst (Prod.snd (Prod.snd (Prod.snd (Prod.snd (Prod.snd (Prod.snd (Prod.snd r5)))))))) (Prod.fst (Prod.snd (Prod.snd (Prod.snd (Prod.snd (Prod.snd (Prod.snd (Prod.snd (Prod.snd r5))))))))) (Prod.fst (Prod.snd (Prod.snd (Prod.snd (Prod.snd (Prod.snd (Prod.snd (Prod.snd (Prod.snd (Prod.snd r5)))))))))) (Prod.fst (Prod.snd (Prod.snd (Prod.snd (Prod.snd (Prod.snd (Prod.snd (Prod.snd (Prod.snd (Prod.snd (Prod.snd r5))))))))))) (Prod.snd (Prod.snd (Prod.snd (Prod.snd (Prod.snd (Prod.snd (Prod.snd (Prod.snd (Prod.snd (Prod.snd (Prod.snd r5)))))))))))) fun r27 => ?_
                                      conv => lhs; whnf
                                      refine t_call (h_impl_SideOfMove (Prod.fst r6) (Prod.fst (Prod.snd r6)) (Prod.fst (Prod.snd (Prod.snd r6))) (Prod.fst (Prod.snd (Prod.snd (Prod.snd r6)))) (Prod.fst (Prod.snd (Prod.snd (Prod.snd (Prod.snd r6))))) (Prod.fst (Prod.snd (Prod.snd (Prod.snd (Prod.snd (Prod.snd r6))))))) fun r28 => ?_
                                      conv => lhs; whnf
                                      refine t_cond ?_ ?_
                                      · conv => lhs; whnf
                                        exact t_ret (by first | rfl | (simp only [ml]; done) | (simp only [ml]; rfl))
                                      · conv => lhs; whnf
                                        refine t_cond ?_ ?_
                                        · conv => lhs; whnf
                                          exact t_ret (by first | rfl | (simp only [ml]; done) | (simp only [ml]; rfl))
                                        · conv => lhs; whnf
                                          refine t_cond ?_ ?_
                                          · conv => lhs; whnf
                                            exact t_ret (by first | rfl | (simp only [ml]; done) | (simp only [ml]; rfl))
                                          · conv => lhs; whnf
                                            refine t_cond ?_ ?_
                                            · conv => lhs; whnf
                                              exact t_ret (by first | rfl | (simp only [ml]; done) | (simp only [ml]; rfl))
                                            · conv => lhs; whnf
                                              refine t_call (h_impl_MovePeg (Prod.fst (Prod.snd (Prod.snd (Prod.snd (Prod.snd (Prod.snd (Prod.snd r5))))))) (Prod.fst (Prod.snd (Prod.snd (Prod.snd (Prod.snd (Prod.snd (Prod.snd (Prod.snd r5)))))))) (Prod.fst (Prod.snd (Prod.snd (Prod.snd (Prod.snd (Prod.snd (Prod.snd (Prod.snd (Prod.snd r5))))))))) (Prod.fst (Prod.snd (Prod.snd (Prod.snd (Prod.snd (Prod.snd (Prod.snd (Prod.snd (Prod.snd (Prod.snd r5)))))))))) (Prod.fst (Prod.snd (Prod.snd (Prod.snd (Prod.snd (Prod.snd (Prod.snd (Prod.snd (Prod.snd (Prod.snd (Prod.snd r5))))))))))) (Prod.snd (Prod.snd (Prod.snd (Prod.snd (Prod.snd (Prod.snd (Prod.snd (Prod.snd (Prod.snd (Prod.snd (Prod.snd r5))))))))))) (Prod.fst (Prod.snd (Prod.snd (Prod.snd (Prod.snd (Prod.snd (Prod.snd r13))))))) (Prod.snd (Prod.snd (Prod.snd (Prod.snd (Prod.snd (Prod.snd (Prod.snd r13)))))))) fun r29 => ?_
                                              conv => lhs; whnf
                                              refine t_cond ?_ ?_
                                              · conv => lhs; whnf
                                                refine t_call (h_impl_MovePeg (Prod.fst r5) (Prod.fst (Prod.snd r5)) (Prod.fst (Prod.snd (Prod.snd r5))) (Prod.fst (Prod.snd (Prod.snd (Prod.snd r5)))) (Prod.fst (Prod.snd (Prod.snd (Prod.snd (Prod.snd r5))))) (Prod.fst (Prod.snd (Prod.snd (Prod.snd (Prod.snd (Prod.snd r5)))))) (Prod.fst r29) (Prod.fst (Prod.snd r29))) fun r30 => ?_
                                                conv => lhs; whnf
                                                refine t_call (h_impl_MovePeg (Prod.fst r6) (Prod.fst (Prod.snd r6)) (Prod.fst (Prod.snd (Prod.snd r6))) (Prod.fst (Prod.snd (Prod.snd (Prod.snd r6)))) (Prod.fst (Prod.snd (Prod.snd (Prod.snd (Prod.snd r6))))) (Prod.fst (Prod.snd (Prod.snd (Prod.snd (Prod.snd (Prod.snd r6)))))) (Prod.fst (Prod.snd (Prod.snd (Prod.snd (Prod.snd (Prod.snd (Prod.snd r13))))))) (Prod.snd (Prod.snd (Prod.snd (Prod.snd (Prod.snd (Prod.snd (Prod.snd r13)))))))) fun r31 => ?_
                                                conv => lhs; whnf
                                                refine t_cond ?_ ?_
                                                · conv => lhs; whnf
                                                  exact t_ret (by first | rfl | (simp only [ml]; done) | (simp only [ml]; rfl))
                                                · conv => lhs; whnf
                                                  refine t_cond ?_ ?_
                                                  · conv => lhs; whnf
                                                    exact t_ret (by first | rfl | (simp only [ml]; done) | (simp only [ml]; rfl))
                                                  · conv => lhs; whnf
                                                    exact hJ1 () _ _ (by first | rfl | (simp only [ml]; done) | (simp only [ml]; rfl)) (by first | rfl | (simp only [ml]; done) | (simp only [ml]; rfl))
                                              · conv => lhs; whnf
                                                exact hJ1 () _ _ (by first | rfl | (simp only [ml]; done) | (simp only [ml]; rfl)) (by first | rfl | (simp only [ml]; done) | (simp only [ml]; rfl))
                                    · conv => lhs; whnf
                                      exact hJ1 () _ _ (by first | rfl | (simp only [ml]; done) | (simp only [ml]; rfl)) (by first | rfl | (simp only [ml]; done) | (simp only [ml]; rfl))
        · conv => lhs; whnf
          refine t_cond ?_ ?_
          · conv => lhs; whnf
            refine t_call (h_impl_SideOfMove (Prod.fst r1) (Prod.fst (Prod.snd r1)) (Prod.fst (Prod.snd (Prod.snd r1))) (Prod.fst (Prod.snd (Prod.snd (Prod.snd r1)))) (Prod.fst (Prod.snd (Prod.snd (Prod.snd (Prod.snd r1))))) (Prod.fst (Prod.snd (Prod.snd (Prod.snd (Prod.snd (Prod.snd r1))))))) fun r32 => ?_
            conv => lhs; whnf
            refine t_call (h_impl_TwiceArea _ _ _ (Prod.snd (Prod.snd (Prod.snd (Prod.snd (Prod.snd (Prod.snd r1)))))) (by first | rfl | (simp only [ml]; done) | (simp only [ml]; rfl))) fun r33 => ?_
            conv => lhs; whnf
            refine t_call (h_impl_TwiceArea _ _ _ (Prod.fst r2) (by first | rfl | (simp only [ml]; done) | (simp only [ml]; rfl))) fun r34 => ?_
            conv => lhs; whnf
            refine t_call (h_impl_PegsOn _ _ _ (Prod.snd (Prod.snd (Prod.snd (Prod.snd (Prod.snd (Prod.snd r1)))))) (by first | rfl | (simp only [ml]; done) | (simp only [ml]; rfl))) fun r35 => ?_
            conv => lhs; whnf
            refine t_call (h_impl_PegsOn _ _ _ (Prod.fst r2) (by first | rfl | (simp only [ml]; done) | (simp only [ml]; rfl))) fun r36 => ?_
            conv => lhs; whnf
            refine t_call (h_impl_IsMove (Prod.fst r1) (Prod.fst (Prod.snd r1)) (Prod.fst (Prod.snd (Prod.snd r1))) (Prod.fst (Prod.snd (Prod.snd (Prod.snd r1)))) (Prod.fst (Prod.snd (Prod.snd (Prod.snd (Prod.snd r1))))) (Prod.fst (Prod.snd (Prod.snd (Prod.snd (Prod.snd (Prod.snd r1))))))) fun r37 => ?_
            conv => lhs; whnf
            refine t_cond ?_ ?_
            · conv => lhs; whnf
              exact t_ret (by first | rfl | (simp only [ml]; done) | (simp only [ml]; rfl))
            · conv => lhs; whnf
              refine t_call (h_impl_IsPolygon _ _ _ (Prod.fst r2) (by first | rfl | (simp only [ml]; done) | (simp only [ml]; rfl))) fun r38 => ?_
              conv => lhs; whnf
              refine t_cond ?_ ?_
              · conv => lhs; whnf
                exact t_ret (by first | rfl | (simp only [ml]; done) | (simp only [ml]; rfl))
              · conv => lhs; whnf
                refine t_cond ?_ ?_
                · conv => lhs; whnf
                  exact t_ret (by first | rfl | (simp only [ml]; done) | (simp only [ml]; rfl))
                · conv => lhs; whnf
                  refine t_cond ?_ ?_
                  · conv => lhs; whnf
                    exact t_ret (by first | rfl | (simp only [ml]; done) | (simp only [ml]; rfl))
                  · conv => lhs; whnf
                    refine t_cond ?_ ?_
                    · conv => lhs; whnf
                      exact t_ret (by first | rfl | (simp only [ml]; done) | (simp only [ml]; rfl))
                    · conv => lhs; whnf
                      refine t_cond ?_ ?_
                      · conv => lhs; whnf
                        exact t_ret (by first | rfl | (simp only [ml]; done) | (simp only [ml]; rfl))
                      · conv => lhs; whnf
                        refine t_cond ?_ ?_
                        · conv => lhs; whnf
                          exact t_ret (by first | rfl | (simp only [ml]; done) | (simp only [ml]; rfl))
                        · conv => lhs; whnf
                          refine t_cond ?_ ?_
                          · conv => lhs; whnf
                            exact t_ret (by first | rfl | (simp only [ml]; done) | (simp only [ml]; rfl))
                          · conv => lhs; whnf
                            refine t_cond ?_ ?_
                            · conv => lhs; whnf
                              exact t_ret (by first | rfl | (simp only [ml]; done) | (simp only [ml]; rfl))
                            · conv => lhs; whnf
                              refine t_loop (fun (v170 : Int) => (AV.top :: AV.lst ob cb 1 (List.map eU b) :: topA 3 (AV.ptr 0 0 0 6 :: AV.own 1 2 none false :: AV.own 2 2 none false :: topA 160 (AV.own 1 2 none false :: AV.int IntKind.i64 (ilen (List.map ep (Prod.snd (Prod.snd (Prod.snd (Prod.snd (Prod.snd (Prod.snd r1)))))))) :: AV.int IntKind.i64 v170 :: tops 271)), [Blk.box (AV.agg [AV.int IntKind.i64 (Prod.fst r1), AV.int IntKind.i64 (Prod.fst (Prod.snd r1)), AV.int IntKind.i64 (Prod.fst (Prod.snd (Prod.snd r1))), AV.int IntKind.i64 (Prod.fst (Prod.snd (Prod.snd (Prod.snd r1)))), AV.int IntKind.i64 (Prod.fst (Prod.snd (Prod.snd (Prod.snd (Prod.snd r1))))), AV.int IntKind.i64 (Prod.fst (Prod.snd (Prod.snd (Prod.snd (Prod.snd (Prod.snd r1))))))]), Blk.rows Mode.live 2 (List.map ep (Prod.snd (Prod.snd (Prod.snd (Prod.snd (Prod.snd (Prod.snd r1))))))), Blk.rows Mode.live 2 (List.map ep (Prod.fst r2))])) (fun m (v170 : Int) => laws_FnMovesKeep_l3 L b r1 r2 m v170) (fun _ => rfl) (fun m v170 rec hrec => ?_) L 0 ?_ ?_
                              rotate_left
                              · first | rfl | (simp only [ml]; done) | (simp only [ml]; rfl)
                              · first | rfl | (simp only [ml]; done) | (simp only [ml]; rfl)
                              show _ = Option.map _ (laws_FnMovesKeep_l3 L b r1 r2 (m + 1) v170)
                              rw [laws_FnMovesKeep_l3.eq_2]
                              conv => lhs; whnf
                              refine t_cond ?_ ?_
                              · conv => lhs; whnf
                                refine t_cond ?_ ?_
                                · conv => lhs; whnf
                                  refine t_get (en := ep) (l := Prod.snd (Prod.snd (Prod.snd (Prod.snd (Prod.snd (Prod.snd r1)))))) (by first | rfl | (simp only [ml]; done) | (simp only [ml]; rfl)) fun p => ?_
                                  conv => lhs; whnf
                                  refine t_call (h_impl_MovePeg (Prod.fst r1) (Prod.fst (Prod.snd r1)) (Prod.fst (Prod.snd (Prod.snd r1))) (Prod.fst (Prod.snd (Prod.snd (Prod.snd r1)))) (Prod.fst (Prod.snd (Prod.snd (Prod.snd (Prod.snd r1))))) (Prod.fst (Prod.snd (Prod.snd (Prod.snd (Prod.snd (Prod.snd r1)))))) (Pt.x p) (Pt.y p)) fun r39 => ?_
                                  conv => lhs; whnf
                                  refine t_cond ?_ ?_
                                  · conv => lhs; whnf
                                    exact t_ret (by first | rfl | (simp only [ml]; done) | (simp only [ml]; rfl))
                                  · conv => lhs; whnf
                                    refine t_cond ?_ ?_
                                    · conv => lhs; whnf
                                      refine t_get (en := ep) (l := Prod.fst r2) (by first | rfl | (simp only [ml]; done) | (simp only [ml]; rfl)) fun p1 => ?_
                                      conv => lhs; whnf
                                      refine t_cond ?_ ?_
                                      · conv => lhs; whnf
                                        exact t_ret (by first | rfl | (simp only [ml]; done) | (simp only [ml]; rfl))
                                      · conv => lhs; whnf
                                        exact hrec (wr IntKind.i64 (iadd v170 1)) _ _ (by first | rfl | (simp only [ml]; done) | (simp only [ml]; rfl)) (by first | rfl | (simp only [ml]; done) | (simp only [ml]; rfl))
                                    · conv => lhs; whnf
                                      exact t_none
                                · conv => lhs; whnf
                                  exact t_none
                              · conv => lhs; whnf
                                refine t_call (h_impl_AreAlike _ _ _ (Prod.snd (Prod.snd (Prod.snd (Prod.snd (Prod.snd (Prod.snd r1)))))) (by first | rfl | (simp only [ml]; done) | (simp only [ml]; rfl)) _ _ _ (Prod.fst r2) (by first | rfl | (simp only [ml]; done) | (simp only [ml]; rfl))) fun r40 => ?_
                                conv => lhs; whnf
                                refine t_cond ?_ ?_
                                · conv => lhs; whnf
                                  exact t_ret (by first | rfl | (simp only [ml]; done) | (simp only [ml]; rfl))
                                · conv => lhs; whnf
                                  refine t_cond ?_ ?_
                                  · conv => lhs; whnf
                                    exact t_ret (by first | rfl | (simp only [ml]; done) | (simp only [ml]; rfl))
                                  · conv => lhs; whnf
                                    exact hJ b _ _ (by first | rfl | (simp only [ml]; done) | (simp only [ml]; rfl)) (by first | rfl | (simp only [ml]; done) | (simp only [ml]; rfl))
          · conv => lhs; whnf
            exact hJ b _ _ (by first | rfl | (simp only [ml]; done) | (simp only [ml]; rfl)) (by first | rfl | (simp only [ml]; done) | (simp only [ml]; rfl))


end Go.AM
