import Derived.Test.YtokhceheoccfhaaAmP0
set_option linter.unusedVariables false
set_option linter.unusedSimpArgs false
set_option linter.unnecessarySimpa false
set_option linter.deprecated false
set_option linter.unusedSectionVars false
open Go Go.AM Go.Proofs
namespace Go.AM
set_option maxRecDepth 400000
set_option maxHeartbeats 2000000
set_option linter.unusedVariables false
noncomputable def spec_DrawPegOfParts (L : Nat) (a : List Int) : Option ((List Pt) × (List Int)) := gbind (spec_l1Cur_three L a 0 0 4) fun r => gbind (spec_trThree L (Prod.fst r)) fun r1 => bif !r1 then (some ((Prod.fst r, 1 :: (0 :: (0 :: []))))) else (gbind (spec_l1Cur_surePeg L a (Prod.fst (Prod.snd r)) (Prod.snd (Prod.snd r)) 6) fun r2 => gbind (spec_trParts L (Prod.fst r) (Prod.fst r2) (Prod.fst (Prod.snd r2))) fun r3 => gbind (spec_l1Cur_pick L a (Prod.fst (Prod.snd (Prod.snd r2))) (Prod.snd (Prod.snd (Prod.snd r2))) 8) fun r4 => bif ieq (Prod.fst r4) 0 then (osame (fun r : (List Pt) × (List Int) => ((.tup [.frs 2 (List.map ep (r.1)), .frs 1 (List.map eI (r.2))], []) : AV × List Blk)) (osame (fun r : (List Pt) × (List Int) => ((.tup [.frs 2 (List.map ep (r.1)), .frs 1 (List.map eI (r.2))], []) : AV × List Blk)) (osame (fun r : (List Pt) × (List Int) => ((.tup [.frs 2 (List.map ep (r.1)), .frs 1 (List.map eI (r.2))], []) : AV × List Blk)) (gbind (spec_l1Cur_pick L a (Prod.fst (Prod.snd r4)) (Prod.snd (Prod.snd r4)) 3) fun r5 => osame (fun r : (List Pt) × (List Int) => ((.tup [.frs 2 (List.map ep (r.1)), .frs 1 (List.map eI (r.2))], []) : AV × List Blk)) (bif ile 0 (Prod.fst r5) && ilt (Prod.fst r5) (ilen (List.map eI r3)) then (osame (fun r : (List Pt) × (List Int) => ((.tup [.frs 2 (List.map ep (r.1)), .frs 1 (List.map eI (r.2))], []) : AV × List Blk)) (gbind (lget r3 (Prod.fst r5)) fun p => gbind (spec_l1Cur_pick L a (Prod.fst (Prod.snd r5)) (Prod.snd (Prod.snd r5)) 3) fun r6 => bif ile 0 (Prod.fst r5) && ilt (Prod.fst r5) (ilen (List.map eI r3)) then (gbind (lget r3 (Prod.fst r5)) fun p1 => some ((Prod.fst r, lset r3 (Prod.fst r5) (wr IntKind.i64 (iadd p (wr IntKind.i64 (isub (Prod.fst r6) 1))))))) else (none)) (osame (fun r : (List Pt) × (List Int) => ((.tup [.frs 2 (List.map ep (r.1)), .frs 1 (List.map eI (r.2))], []) : AV × List Blk)) (gbind (lget r3 (Prod.fst r5)) fun p2 => gbind (spec_l1Cur_pick L a (Prod.fst (Prod.snd r5)) (Prod.snd (Prod.snd r5)) 3) fun r7 => bif ile 0 (Prod.fst r5) && ilt (Prod.fst r5) (ilen (List.map eI r3)) then (gbind (lget r3 (Prod.fst r5)) fun p3 => some ((Prod.fst r, lset r3 (Prod.fst r5) (wr IntKind.i64 (iadd p2 (wr IntKind.i64 (isub (Prod.fst r7) 1))))))) else (none)) (gbind (spec_l1Cur_pick L a (Prod.fst (Prod.snd r5)) (Prod.snd (Prod.snd r5)) 3) fun r8 => osame (fun r : (List Pt) × (List Int) => ((.tup [.frs 2 (List.map ep (r.1)), .frs 1 (List.map eI (r.2))], []) : AV × List Blk)) (gbind (lget r3 (Prod.fst r5)) fun p4 => bif ile 0 (Prod.fst r5) && ilt (Prod.fst r5) (ilen (List.map eI r3)) then (gbind (lget r3 (Prod.fst r5)) fun p5 => some ((Prod.fst r, lset r3 (Prod.fst r5) (wr IntKind.i64 (iadd p4 (wr IntKind.i64 (isub (Prod.fst r8) 1))))))) else (none)) (gbind (lget r3 (Prod.fst r5)) fun p6 => bif ile 0 (Prod.fst r5) && ilt (Prod.fst r5) (ilen (List.map eI r3)) then (gbind (lget r3 (Prod.fst r5)) fun p7 => some ((Prod.fst r, lset r3 (Prod.fst r5) (wr IntKind.i64 (iadd p6 (wr IntKind.i64 (isub (Prod.fst r8) 1))))))) else (none))))) else (none)) (osame (fun r : (List Pt) × (List Int) => ((.tup [.frs 2 (List.map ep (r.1)), .frs 1 (List.map eI (r.2))], []) : AV × List Blk)) (bif ile 0 (Prod.fst r5) && ilt (Prod.fst r5) (ilen (List.map eI r3)) then (osame (fun r : (List Pt) × (List Int) => ((.tup [.frs 2 (List.map ep (r.1)), .frs 1 (List.map eI (r.2))], []) : AV × List Blk)) (gbind (lget r3 (Prod.fst r5)) fun p8 => gbind (spec_l1Cur_pick L a (Prod.fst (Prod.snd r5)) (Prod.snd (Prod.snd r5)) 3) fun r9 => bif ile 0 (Prod.fst r5) && ilt (Prod.fst r5) (ilen (List.map eI r3)) then (gbind (lget r3 (Prod.fst r5)) fun p9 => some ((Prod.fst r, lset r3 (Prod.fst r5) (wr IntKind.i64 (iadd p8 (wr IntKind.i64 (isub (Prod.fst r9) 1))))))) else (none)) (gbind (spec_l1Cur_pick L a (Prod.fst (Prod.snd r5)) (Prod.snd (Prod.snd r5)) 3) fun r10 => osame (fun r : (List Pt) × (List Int) => ((.tup [.frs 2 (List.map ep (r.1)), .frs 1 (List.map eI (r.2))], []) : AV × List Blk)) (gbind (lget r3 (Prod.fst r5)) fun p10 => bif ile 0 (Prod.fst r5) && ilt (Prod.fst r5) (ilen (List.map eI r3)) then (gbind (lget r3 (Prod.fst r5)) fun p11 => some ((Prod.fst r, lset r3 (Prod.fst r5) (wr IntKind.i64 (iadd p10 (wr IntKind.i64 (isub (Prod.fst r10) 1))))))) else (none)) (gbind (lget r3 (Prod.fst r5)) fun p12 => bif ile 0 (Prod.fst r5) && ilt (Prod.fst r5) (ilen (List.map eI r3)) then (gbind (lget r3 (Prod.fst r5)) fun p13 => some ((Prod.fst r, lset r3 (Prod.fst r5) (wr IntKind.i64 (iadd p12 (wr IntKind.i64 (isub (Prod.fst r10) 1))))))) else (none)))) else (none)) (gbind (spec_l1Cur_pick L a (Prod.fst (Prod.snd r5)) (Prod.snd (Prod.snd r5)) 3) fun r11 => osame (fun r : (List Pt) × (List Int) => ((.tup [.frs 2 (List.map ep (r.1)), .frs 1 (List.map eI (r.2))], []) : AV × List Blk)) (bif ile 0 (Prod.fst r5) && ilt (Prod.fst r5) (ilen (List.map eI r3)) then (osame (fun r : (List Pt) × (List Int) => ((.tup [.frs 2 (List.map ep (r.1)), .frs 1 (List.map eI (r.2))], []) : AV × List Blk)) (gbind (lget r3 (Prod.fst r5)) fun p14 => bif ile 0 (Prod.fst r5) && ilt (Prod.fst r5) (ilen (List.map eI r3)) then (gbind (lget r3 (Prod.fst r5)) fun p15 => some ((Prod.fst r, lset r3 (Prod.fst r5) (wr IntKind.i64 (iadd p14 (wr IntKind.i64 (isub (Prod.fst r11) 1))))))) else (none)) (gbind (lget r3 (Prod.fst r5)) fun p16 => bif ile 0 (Prod.fst r5) && ilt (Prod.fst r5) (ilen (List.map eI r3)) then (gbind (lget r3 (Prod.fst r5)) fun p17 => some ((Prod.fst r, lset r3 (Prod.fst r5) (wr IntKind.i64 (iadd p16 (wr IntKind.i64 (isub (Prod.fst r11) 1))))))) else (none))) else (none)) (bif ile 0 (Prod.fst r5) && ilt (Prod.fst r5) (ilen (List.map eI r3)) then (gbind (lget r3 (Prod.fst r5)) fun p18 => bif ile 0 (Prod.fst r5) && ilt (Prod.fst r5) (ilen (List.map eI r3)) then (gbind (lget r3 (Prod.fst r5)) fun p19 => some ((Prod.fst r, lset r3 (Prod.fst r5) (wr IntKind.i64 (iadd p18 (wr IntKind.i64 (isub (Prod.fst r11) 1))))))) else (none)) else (none))))) (gbind (spec_l1Cur_pick L a (Prod.fst (Prod.snd r4)) (Prod.snd (Prod.snd r4)) 3) fun r12 => osame (fun r : (List Pt) × (List Int) => ((.tup [.frs 2 (List.map ep (r.1)), .frs 1 (List.map eI (r.2))], []) : AV × List Blk)) (bif ile 0 (Prod.fst r12) && ilt (Prod.fst r12) (ilen (List.map eI r3)) then (osame (fun r : (List Pt) × (List Int) => ((.tup [.frs 2 (List.map ep (r.1)), .frs 1 (List.map eI (r.2))], []) : AV × List Blk)) (gbind (lget r3 (Prod.fst r12)) fun p20 => gbind (spec_l1Cur_pick L a (Prod.fst (Prod.snd r12)) (Prod.snd (Prod.snd r12)) 3) fun r13 => bif ile 0 (Prod.fst r12) && ilt (Prod.fst r12) (ilen (List.map eI r3)) then (gbind (lget r3 (Prod.fst r12)) fun p21 => some ((Prod.fst r, lset r3 (Prod.fst r12) (wr IntKind.i64 (iadd p20 (wr IntKind.i64 (isub (Prod.fst r13) 1))))))) else (none)) (gbind (spec_l1Cur_pick L a (Prod.fst (Prod.snd r12)) (Prod.snd (Prod.snd r12)) 3) fun r14 => osame (fun r : (List Pt) × (List Int) => ((.tup [.frs 2 (List.map ep (r.1)), .frs 1 (List.map eI (r.2))], []) : AV × List Blk)) (gbind (lget r3 (Prod.fst r12)) fun p22 => bif ile 0 (Prod.fst r12) && ilt (Prod.fst r12) (ilen (List.map eI r3)) then (gbind (lget r3 (Prod.fst r12)) fun p23 => some ((Prod.fst r, lset r3 (Prod.fst r12) (wr IntKind.i64 (iadd p22 (wr IntKind.i64 (isub (Prod.fst r14) 1))))))) else (none)) (gbind (lget r3 (Prod.fst r12)) fun p24 => bif ile 0 (Prod.fst r12) && ilt (Prod.fst r12) (ilen (List.map eI r3)) then (gbind (lget r3 (Prod.fst r12)) fun p25 => some ((Prod.fst r, lset r3 (Prod.fst r12) (wr IntKind.i64 (iadd p24 (wr IntKind.i64 (isub (Prod.fst r14) 1))))))) else (none)))) else (none)) (gbind (spec_l1Cur_pick L a (Prod.fst (Prod.snd r12)) (Prod.snd (Prod.snd r12)) 3) fun r15 => osame (fun r : (List Pt) × (List Int) => ((.tup [.frs 2 (List.map ep (r.1)), .frs 1 (List.map eI (r.2))], []) : AV × List Blk)) (bif ile 0 (Prod.fst r12) && ilt (Prod.fst r12) (ilen (List.map eI r3)) then (osame (fun r : (List Pt) × (List Int) => ((.tup [.frs 2 (List.map ep (r.1)), .frs 1 (List.map eI (r.2))], []) : AV × List Blk)) (gbind (lget r3 (Prod.fst r12)) fun p26 => bif ile 0 (Prod.fst r12) && ilt (Prod.fst r12) (ilen (List.map eI r3)) then (gbind (lget r3 (Prod.fst r12)) fun p27 => some ((Prod.fst r, lset r3 (Prod.fst r12) (wr IntKind.i64 (iadd p26 (wr IntKind.i64 (isub (Prod.fst r15) 1))))))) else (none)) (gbind (lget r3 (Prod.fst r12)) fun p28 => bif ile 0 (Prod.fst r12) && ilt (Prod.fst r12) (ilen (List.map eI r3)) then (gbind (lget r3 (Prod.fst r12)) fun p29 => some ((Prod.fst r, lset r3 (Prod.fst r12) (wr IntKind.i64 (iadd p28 (wr IntKind.i64 (isub (Prod.fst r15) 1))))))) else (none))) else (none)) (bif ile 0 (Prod.fst r12) && ilt (Prod.fst r12) (ilen (List.map eI r3)) then (gbind (lget r3 (Prod.fst r12)) fun p30 => bif ile 0 (Prod.fst r12) && ilt (Prod.fst r12) (ilen (List.map eI r3)) then (gbind (lget r3 (Prod.fst r12)) fun p31 => some ((Prod.fst r, lset r3 (Prod.fst r12) (wr IntKind.i64 (iadd p30 (wr IntKind.i64 (isub (Prod.fst r15) 1))))))) else (none)) else (none))))) (gbind (spec_l1Cur_pick L a (Prod.fst (Prod.snd r4)) (Prod.snd (Prod.snd r4)) 3) fun r16 => osame (fun r : (List Pt) × (List Int) => ((.tup [.frs 2 (List.map ep (r.1)), .frs 1 (List.map eI (r.2))], []) : AV × List Blk)) (bif ile 0 (Prod.fst r16) && ilt (Prod.fst r16) (ilen (List.map eI r3)) then (osame (fun r : (List Pt) × (List Int) => ((.tup [.frs 2 (List.map ep (r.1)), .frs 1 (List.map eI (r.2))], []) : AV × List Blk)) (gbind (lget r3 (Prod.fst r16)) fun p32 => gbind (spec_l1Cur_pick L a (Prod.fst (Prod.snd r16)) (Prod.snd (Prod.snd r16)) 3) fun r17 => bif ile 0 (Prod.fst r16) && ilt (Prod.fst r16) (ilen (List.map eI r3)) then (gbind (lget r3 (Prod.fst r16)) fun p33 => some ((Prod.fst r, lset r3 (Prod.fst r16) (wr IntKind.i64 (iadd p32 (wr IntKind.i64 (isub (Prod.fst r17) 1))))))) else (none)) (gbind (spec_l1Cur_pick L a (Prod.fst (Prod.snd r16)) (Prod.snd (Prod.snd r16)) 3) fun r18 => osame (fun r : (List Pt) × (List Int) => ((.tup [.frs 2 (List.map ep (r.1)), .frs 1 (List.map eI (r.2))], []) : AV × List Blk)) (gbind (lget r3 (Prod.fst r16)) fun p34 => bif ile 0 (Prod.fst r16) && ilt (Prod.fst r16) (ilen (List.map eI r3)) then (gbind (lget r3 (Prod.fst r16)) fun p35 => some ((Prod.fst r, lset r3 (Prod.fst r16) (wr IntKind.i64 (iadd p34 (wr IntKind.i64 (isub (Prod.fst r18) 1))))))) else (none)) (gbind (lget r3 (Prod.fst r16)) fun p36 => bif ile 0 (Prod.fst r16) && ilt (Prod.fst r16) (ilen (List.map eI r3)) then (gbind (lget r3 (Prod.fst r16)) fun p37 => some ((Prod.fst r, lset r3 (Prod.fst r16) (wr IntKind.i64 (iadd p36 (wr IntKind.i64 (isub (Prod.fst r18) 1))))))) else (none)))) else (none)) (gbind (spec_l1Cur_pick L a (Prod.fst (Prod.snd r16)) (Prod.snd (Prod.snd r16)) 3) fun r19 => osame (fun r : (List Pt) × (List Int) => ((.tup [.frs 2 (List.map ep (r.1)), .frs 1 (List.map eI (r.2))], []) : AV × List Blk)) (bif ile 0 (Prod.fst r16) && ilt (Prod.fst r16) (ilen (List.map eI r3)) then (osame (fun r : (List Pt) × (List Int) => ((.tup [.frs 2 (List.map ep (r.1)), .frs 1 (List.map eI (r.2))], []) : AV × List Blk)) (gbind (lget r3 (Prod.fst r16)) fun p38 => bif ile 0 (Prod.fst r16) && ilt (Prod.fst r16) (ilen (List.map eI r3)) then (gbind (lget r3 (Prod.fst r16)) fun p39 => some ((Prod.fst r, lset r3 (Prod.fst r16) (wr IntKind.i64 (iadd p38 (wr IntKind.i64 (isub (Prod.fst r19) 1))))))) else (none)) (gbind (lget r3 (Prod.fst r16)) fun p40 => bif ile 0 (Prod.fst r16) && ilt (Prod.fst r16) (ilen (List.map eI r3)) then (gbind (lget r3 (Prod.fst r16)) fun p41 => some ((Prod.fst r, lset r3 (Prod.fst r16) (wr IntKind.i64 (iadd p40 (wr IntKind.i64 (isub (Prod.fst r19) 1))))))) else (none))) else (none)) (bif ile 0 (Prod.fst r16) && ilt (Prod.fst r16) (ilen (List.map eI r3)) then (gbind (lget r3 (Prod.fst r16)) fun p42 => bif ile 0 (Prod.fst r16) && ilt (Prod.fst r16) (ilen (List.map eI r3)) then (gbind (lget r3 (Prod.fst r16)) fun p43 => some ((Prod.fst r, lset r3 (Prod.fst r16) (wr IntKind.i64 (iadd p42 (wr IntKind.i64 (isub (Prod.fst r19) 1))))))) else (none)) else (none))))) (osame (fun r : (List Pt) × (List Int) => ((.tup [.frs 2 (List.map ep (r.1)), .frs 1 (List.map eI (r.2))], []) : AV × List Blk)) (osame (fun r : (List Pt) × (List Int) => ((.tup [.frs 2 (List.map ep (r.1)), .frs 1 (List.map eI (r.2))], []) : AV × List Blk)) (osame (fun r : (List Pt) × (List Int) => ((.tup [.frs 2 (List.map ep (r.1)), .frs 1 (List.map eI (r.2))], []) : AV × List Blk)) (gbind (spec_l1Cur_pick L a (Prod.fst (Prod.snd r4)) (Prod.snd (Prod.snd r4)) 3) fun r20 => osame (fun r : (List Pt) × (List Int) => ((.tup [.frs 2 (List.map ep (r.1)), .frs 1 (List.map eI (r.2))], []) : AV × List Blk)) (bif ile 0 (Prod.fst r20) && ilt (Prod.fst r20) (ilen (List.map eI r3)) then (osame (fun r : (List Pt) × (List Int) => ((.tup [.frs 2 (List.map ep (r.1)), .frs 1 (List.map eI (r.2))], []) : AV × List Blk)) (gbind (lget r3 (Prod.fst r20)) fun p44 => gbind (spec_l1Cur_pick L a (Prod.fst (Prod.snd r20)) (Prod.snd (Prod.snd r20)) 3) fun r21 => bif ile 0 (Prod.fst r20) && ilt (Prod.fst r20) (ilen (List.map eI r3)) then (gbind (lget r3 (Prod.fst r20)) fun p45 => some ((Prod.fst r, lset r3 (Prod.fst r20) (wr IntKind.i64 (iadd p44 (wr IntKind.i64 (isub (Prod.fst r21) 1))))))) else (none)) (osame (fun r : (List Pt) × (List Int) => ((.tup [.frs 2 (List.map ep (r.1)), .frs 1 (List.map eI (r.2))], []) : AV × List Blk)) (gbind (lget r3 (Prod.fst r20)) fun p46 => gbind (spec_l1Cur_pick L a (Prod.fst (Prod.snd r20)) (Prod.snd (Prod.snd r20)) 3) fun r22 => bif ile 0 (Prod.fst r20) && ilt (Prod.fst r20) (ilen (List.map eI r3)) then (gbind (lget r3 (Prod.fst r20)) fun p47 => some ((Prod.fst r, lset r3 (Prod.fst r20) (wr IntKind.i64 (iadd p46 (wr IntKind.i64 (isub (Prod.fst r22) 1))))))) else (none)) (gbind (spec_l1Cur_pick L a (Prod.fst (Prod.snd r20)) (Prod.snd (Prod.snd r20)) 3) fun r23 => osame (fun r : (List Pt) × (List Int) => ((.tup [.frs 2 (List.map ep (r.1)), .frs 1 (List.map eI (r.2))], []) : AV × List Blk)) (gbind (lget r3 (Prod.fst r20)) fun p48 => bif ile 0 (Prod.fst r20) && ilt (Prod.fst r20) (ilen (List.map eI r3)) then (gbind (lget r3 (Prod.fst r20)) fun p49 => some ((Prod.fst r, lset r3 (Prod.fst r20) (wr IntKind.i64 (iadd p48 (wr IntKind.i64 (isub (Prod.fst r23) 1))))))) else (none)) (gbind (lget r3 (Prod.fst r20)) fun p50 => bif ile 0 (Prod.fst r20) && ilt (Prod.fst r20) (ilen (List.map eI r3)) then (gbind (lget r3 (Prod.fst r20)) fun p51 => some ((Prod.fst r, lset r3 (Prod.fst r20) (wr IntKind.i64 (iadd p50 (wr IntKind.i64 (isub (Prod.fst r23) 1))))))) else (none))))) else (none)) (osame (fun r : (List Pt) × (List Int) => ((.tup [.frs 2 (List.map ep (r.1)), .frs 1 (List.map eI (r.2))], []) : AV × List Blk)) (bif ile 0 (Prod.fst r20) && ilt (Prod.fst r20) (ilen (List.map eI r3)) then (osame (fun r : (List Pt) × (List Int) => ((.tup [.frs 2 (List.map ep (r.1)), .frs 1 (List.map eI (r.2))], []) : AV × List Blk)) (gbind (lget r3 (Prod.fst r20)) fun p52 => gbind (spec_l1Cur_pick L a (Prod.fst (Prod.snd r20)) (Prod.snd (Prod.snd r20)) 3) fun r24 => bif ile 0 (Prod.fst r20) && ilt (Prod.fst r20) (ilen (List.map eI r3)) then (gbind (lget r3 (Prod.fst r20)) fun p53 => some ((Prod.fst r, lset r3 (Prod.fst r20) (wr IntKind.i64 (iadd p52 (wr IntKind.i64 (isub (Prod.fst r24) 1))))))) else (none)) (gbind (spec_l1Cur_pick L a (Prod.fst (Prod.snd r20)) (Prod.snd (Prod.snd r20)) 3) fun r25 => osame (fun r : (List Pt) × (List Int) => ((.tup [.frs 2 (List.map ep (r.1)), .frs 1 (List.map eI (r.2))], []) : AV × List Blk)) (gbind (lget r3 (Prod.fst r20)) fun p54 => bif ile 0 (Prod.fst r20) && ilt (Prod.fst r20) (ilen (List.map eI r3)) then (gbind (lget r3 (Prod.fst r20)) fun p55 => some ((Prod.fst r, lset r3 (Prod.fst r20) (wr IntKind.i64 (iadd p54 (wr IntKind.i64 (isub (Prod.fst r25) 1))))))) else (none)) (gbind (lget r3 (Prod.fst r20)) fun p56 => bif ile 0 (Prod.fst r20) && ilt (Prod.fst r20) (ilen (List.map eI r3)) then (gbind (lget r3 (Prod.fst r20)) fun p57 => some ((Prod.fst r, lset r3 (Prod.fst r20) (wr IntKind.i64 (iadd p56 (wr IntKind.i64 (isub (Prod.fst r25) 1))))))) else (none)))) else (none)) (gbind (spec_l1Cur_pick L a (Prod.fst (Prod.snd r20)) (Prod.snd (Prod.snd r20)) 3) fun r26 => osame (fun r : (List Pt) × (List Int) => ((.tup [.frs 2 (List.map ep (r.1)), .frs 1 (List.map eI (r.2))], []) : AV × List Blk)) (bif ile 0 (Prod.fst r20) && ilt (Prod.fst r20) (ilen (List.map eI r3)) then (osame (fun r : (List Pt) × (List Int) => ((.tup [.frs 2 (List.map ep (r.1)), .frs 1 (List.map eI (r.2))], []) : AV × List Blk)) (gbind (lget r3 (Prod.fst r20)) fun p58 => bif ile 0 (Prod.fst r20) && ilt (Prod.fst r20) (ilen (List.map eI r3)) then (gbind (lget r3 (Prod.fst r20)) fun p59 => some ((Prod.fst r, lset r3 (Prod.fst r20) (wr IntKind.i64 (iadd p58 (wr IntKind.i64 (isub (Prod.fst r26) 1))))))) else (none)) (gbind (lget r3 (Prod.fst r20)) fun p60 => bif ile 0 (Prod.fst r20) && ilt (Prod.fst r20) (ilen (List.map eI r3)) then (gbind (lget r3 (Prod.fst r20)) fun p61 => some ((Prod.fst r, lset r3 (Prod.fst r20) (wr IntKind.i64 (iadd p60 (wr IntKind.i64 (isub (Prod.fst r26) 1))))))) else (none))) else (none)) (bif ile 0 (Prod.fst r20) && ilt (Prod.fst r20) (ilen (List.map eI r3)) then (gbind (lget r3 (Prod.fst r20)) fun p62 => bif ile 0 (Prod.fst r20) && ilt (Prod.fst r20) (ilen (List.map eI r3)) then (gbind (lget r3 (Prod.fst r20)) fun p63 => some ((Prod.fst r, lset r3 (Prod.fst r20) (wr IntKind.i64 (iadd p62 (wr IntKind.i64 (isub (Prod.fst r26) 1))))))) else (none)) else (none))))) (gbind (spec_l1Cur_pick L a (Prod.fst (Prod.snd r4)) (Prod.snd (Prod.snd r4)) 3) fun r27 => osame (fun r : (List Pt) × (List Int) => ((.tup [.frs 2 (List.map ep (r.1)), .frs 1 (List.map eI (r.2))], []) : AV × List Blk)) (bif ile 0 (Prod.fst r27) && ilt (Prod.fst r27) (ilen (List.map eI r3)) then (osame (fun r : (List Pt) × (List Int) => ((.tup [.frs 2 (List.map ep (r.1)), .frs 1 (List.map eI (r.2))], []) : AV × List Blk)) (gbind (lget r3 (Prod.fst r27)) fun p64 => gbind (spec_l1Cur_pick L a (Prod.fst (Prod.snd r27)) (Prod.snd (Prod.snd r27)) 3) fun r28 => bif ile 0 (Prod.fst r27) && ilt (Prod.fst r27) (ilen (List.map eI r3)) then (gbind (lget r3 (Prod.fst r27)) fun p65 => some ((Prod.fst r, lset r3 (Prod.fst r27) (wr IntKind.i64 (iadd p64 (wr IntKind.i64 (isub (Prod.fst r28) 1))))))) else (none)) (gbind (spec_l1Cur_pick L a (Prod.fst (Prod.snd r27)) (Prod.snd (Prod.snd r27)) 3) fun r29 => osame (fun r : (List Pt) × (List Int) => ((.tup [.frs 2 (List.map ep (r.1)), .frs 1 (List.map eI (r.2))], []) : AV × List Blk)) (gbind (lget r3 (Prod.fst r27)) fun p66 => bif ile 0 (Prod.fst r27) && ilt (Prod.fst r27) (ilen (List.map eI r3)) then (gbind (lget r3 (Prod.fst r27)) fun p67 => some ((Prod.fst r, lset r3 (Prod.fst r27) (wr IntKind.i64 (iadd p66 (wr IntKind.i64 (isub (Prod.fst r29) 1))))))) else (none)) (gbind (lget r3 (Prod.fst r27)) fun p68 => bif ile 0 (Prod.fst r27) && ilt (Prod.fst r27) (ilen (List.map eI r3)) then (gbind (lget r3 (Prod.fst r27)) fun p69 => some ((Prod.fst r, lset r3 (Prod.fst r27) (wr IntKind.i64 (iadd p68 (wr IntKind.i64 (isub (Prod.fst r29) 1))))))) else (none)))) else (none)) (gbind (spec_l1Cur_pick L a (Prod.fst (Prod.snd r27)) (Prod.snd (Prod.snd r27)) 3) fun r30 => osame (fun r : (List Pt) × (List Int) => ((.tup [.frs 2 (List.map ep (r.1)), .frs 1 (List.map eI (r.2))], []) : AV × List Blk)) (bif ile 0 (Prod.fst r27) && ilt (Prod.fst r27) (ilen (List.map eI r3)) then (osame (fun r : (List Pt) × (List Int) => ((.tup [.frs 2 (List.map ep (r.1)), .frs 1 (List.map eI (r.2))], []) : AV × List Blk)) (gbind (lget r3 (Prod.fst r27)) fun p70 => bif ile 0 (Prod.fst r27) && ilt (Prod.fst r27) (ilen (List.map eI r3)) then (gbind (lget r3 (Prod.fst r27)) fun p71 => some ((Prod.fst r, lset r3 (Prod.fst r27) (wr IntKind.i64 (iadd p70 (wr IntKind.i64 (isub (Prod.fst r30) 1))))))) else (none)) (gbind (lget r3 (Prod.fst r27)) fun p72 => bif ile 0 (Prod.fst r27) && ilt (Prod.fst r27) (ilen (List.map eI r3)) then (gbind (lget r3 (Prod.fst r27)) fun p73 => some ((Prod.fst r, lset r3 (Prod.fst r27) (wr IntKind.i64 (iadd p72 (wr IntKind.i64 (isub (Prod.fst r30) 1))))))) else (none))) else (none)) (bif ile 0 (Prod.fst r27) && ilt (Prod.fst r27) (ilen (List.map eI r3)) then (gbind (lget r3 (Prod.fst r27)) fun p74 => bif ile 0 (Prod.fst r27) && ilt (Prod.fst r27) (ilen (List.map eI r3)) then (gbind (lget r3 (Prod.fst r27)) fun p75 => some ((Prod.fst r, lset r3 (Prod.fst r27) (wr IntKind.i64 (iadd p74 (wr IntKind.i64 (isub (Prod.fst r30) 1))))))) else (none)) else (none))))) (osame (fun r : (List Pt) × (List Int) => ((.tup [.frs 2 (List.map ep (r.1)), .frs 1 (List.map eI (r.2))], []) : AV × List Blk)) (gbind (spec_l1Cur_pick L a (Prod.fst (Prod.snd r4)) (Prod.snd (Prod.snd r4)) 3) fun r31 => osame (fun r : (List Pt) × (List Int) => ((.tup [.frs 2 (List.map ep (r.1)), .frs 1 (List.map eI (r.2))], []) : AV × List Blk)) (osame (fun r : (List Pt) × (List Int) => ((.tup [.frs 2 (List.map ep (r.1)), .frs 1 (List.map eI (r.2))], []) : AV × List Blk)) (bif ile 0 (Prod.fst r31) && ilt (Prod.fst r31) (ilen (List.map eI r3)) then (osame (fun r : (List Pt) × (List Int) => ((.tup [.frs 2 (List.map ep (r.1)), .frs 1 (List.map eI (r.2))], []) : AV × List Blk)) (gbind (lget r3 (Prod.fst r31)) fun p76 => gbind (spec_l1Cur_pick L a (Prod.fst (Prod.snd r31)) (Prod.snd (Prod.snd r31)) 3) fun r32 => bif ile 0 (Prod.fst r31) && ilt (Prod.fst r31) (ilen (List.map eI r3)) then (gbind (lget r3 (Prod.fst r31)) fun p77 => some ((Prod.fst r, lset r3 (Prod.fst r31) (wr IntKind.i64 (iadd p76 (wr IntKind.i64 (isub (Prod.fst r32) 1))))))) else (none)) (osame (fun r : (List Pt) × (List Int) => ((.tup [.frs 2 (List.map ep (r.1)), .frs 1 (List.map eI (r.2))], []) : AV × List Blk)) (gbind (lget r3 (Prod.fst r31)) fun p78 => gbind (spec_l1Cur_pick L a (Prod.fst (Prod.snd r31)) (Prod.snd (Prod.snd r31)) 3) fun r33 => bif ile 0 (Prod.fst r31) && ilt (Prod.fst r31) (ilen (List.map eI r3)) then (gbind (lget r3 (Prod.fst r31)) fun p79 => some ((Prod.fst r, lset r3 (Prod.fst r31) (wr IntKind.i64 (iadd p78 (wr IntKind.i64 (isub (Prod.fst r33) 1))))))) else (none)) (gbind (spec_l1Cur_pick L a (Prod.fst (Prod.snd r31)) (Prod.snd (Prod.snd r31)) 3) fun r34 => osame (fun r : (List Pt) × (List Int) => ((.tup [.frs 2 (List.map ep (r.1)), .frs 1 (List.map eI (r.2))], []) : AV × List Blk)) (gbind (lget r3 (Prod.fst r31)) fun p80 => bif ile 0 (Prod.fst r31) && ilt (Prod.fst r31) (ilen (List.map eI r3)) then (gbind (lget r3 (Prod.fst r31)) fun p81 => some ((Prod.fst r, lset r3 (Prod.fst r31) (wr IntKind.i64 (iadd p80 (wr IntKind.i64 (isub (Prod.fst r34) 1))))))) else (none)) (gbind (lget r3 (Prod.fst r31)) fun p82 => bif ile 0 (Prod.fst r31) && ilt (Prod.fst r31) (ilen (List.map eI r3)) then (gbind (lget r3 (Prod.fst r31)) fun p83 => some ((Prod.fst r, lset r3 (Prod.fst r31) (wr IntKind.i64 (iadd p82 (wr IntKind.i64 (isub (Prod.fst r34) 1))))))) else (none))))) else (none)) (osame (fun r : (List Pt) × (List Int) => ((.tup [.frs 2 (List.map ep (r.1)), .frs 1 (List.map eI (r.2))], []) : AV × List Blk)) (bif ile 0 (Prod.fst r31) && ilt (Prod.fst r31) (ilen (List.map eI r3)) then (osame (fun r : (List Pt) × (List Int) => ((.tup [.frs 2 (List.map ep (r.1)), .frs 1 (List.map eI (r.2))], []) : AV × List Blk)) (gbind (lget r3 (Prod.fst r31)) fun p84 => gbind (spec_l1Cur_pick L a (Prod.fst (Prod.snd r31)) (Prod.snd (Prod.snd r31)) 3) fun r35 => bif ile 0 (Prod.fst r31) && ilt (Prod.fst r31) (ilen (List.map eI r3)) then (gbind (lget r3 (Prod.fst r31)) fun p85 => some ((Prod.fst r, lset r3 (Prod.fst r31) (wr IntKind.i64 (iadd p84 (wr IntKind.i64 (isub (Prod.fst r35) 1))))))) else (none)) (gbind (spec_l1Cur_pick L a (Prod.fst (Prod.snd r31)) (Prod.snd (Prod.snd r31)) 3) fun r36 => osame (fun r : (List Pt) × (List Int) => ((.tup [.frs 2 (List.map ep (r.1)), .frs 1 (List.map eI (r.2))], []) : AV × List Blk)) (gbind (lget r3 (Prod.fst r31)) fun p86 => bif ile 0 (Prod.fst r31) && ilt (Prod.fst r31) (ilen (List.map eI r3)) then (gbind (lget r3 (Prod.fst r31)) fun p87 => some ((Prod.fst r, lset r3 (Prod.fst r31) (wr IntKind.i64 (iadd p86 (wr IntKind.i64 (isub (Prod.fst r36) 1))))))) else (none)) (gbind (lget r3 (Prod.fst r31)) fun p88 => bif ile 0 (Prod.fst r31) && ilt (Prod.fst r31) (ilen (List.map eI r3)) then (gbind (lget r3 (Prod.fst r31)) fun p89 => some ((Prod.fst r, lset r3 (Prod.fst r31) (wr IntKind.i64 (iadd p88 (wr IntKind.i64 (isub (Prod.fst r36) 1))))))) else (none)))) else (none)) (gbind (spec_l1Cur_pick L a (Prod.fst (Prod.snd r31)) (Prod.snd (Prod.snd r31)) 3) fun r37 => osame (fun r : (List Pt) × (List Int) => ((.tup [.frs 2 (List.map ep (r.1)), .frs 1 (List.map eI (r.2))], []) : AV × List Blk)) (bif ile 0 (Prod.fst r31) && ilt (Prod.fst r31) (ilen (List.map eI r3)) then (osame (fun r : (List Pt) × (List Int) => ((.tup [.frs 2 (List.map ep (r.1)), .frs 1 (List.map eI (r.2))], []) : AV × List Blk)) (gbind (lget r3 (Prod.fst r31)) fun p90 => bif ile 0 (Prod.fst r31) && ilt (Prod.fst r31) (ilen (List.map eI r3)) then (gbind (lget r3 (Prod.fst r31)) fun p91 => some ((Prod.fst r, lset r3 (Prod.fst r31) (wr IntKind.i64 (iadd p90 (wr IntKind.i64 (isub (Prod.fst r37) 1))))))) else (none)) (gbind (lget r3 (Prod.fst r31)) fun p92 => bif ile 0 (Prod.fst r31) && ilt (Prod.fst r31) (ilen (List.map eI r3)) then (gbind (lget r3 (Prod.fst r31)) fun p93 => some ((Prod.fst r, lset r3 (Prod.fst r31) (wr IntKind.i64 (iadd p92 (wr IntKind.i64 (isub (Prod.fst r37) 1))))))) else (none))) else (none)) (bif ile 0 (Prod.fst r31) && ilt (Prod.fst r31) (ilen (List.map eI r3)) then (gbind (lget r3 (Prod.fst r31)) fun p94 => bif ile 0 (Prod.fst r31) && ilt (Prod.fst r31) (ilen (List.map eI r3)) then (gbind (lget r3 (Prod.fst r31)) fun p95 => some ((Prod.fst r, lset r3 (Prod.fst r31) (wr IntKind.i64 (iadd p94 (wr IntKind.i64 (isub (Prod.fst r37) 1))))))) else (none)) else (none))))) (osame (fun r : (List Pt) × (List Int) => ((.tup [.frs 2 (List.map ep (r.1)), .frs 1 (List.map eI (r.2))], []) : AV × List Blk)) (osame (fun r : (List Pt) × (List Int) => ((.tup [.frs 2 (List.map ep (r.1)), .frs 1 (List.map eI (r.2))], []) : AV × List Blk)) (bif ile 0 (Prod.fst r31) && ilt (Prod.fst r31) (ilen (List.map eI r3)) then (osame (fun r : (List Pt) × (List Int) => ((.tup [.frs 2 (List.map ep (r.1)), .frs 1 (List.map eI (r.2))], []) : AV × List Blk)) (gbind (lget r3 (Prod.fst r31)) fun p96 => gbind (spec_l1Cur_pick L a (Prod.fst (Prod.snd r31)) (Prod.snd (Prod.snd r31)) 3) fun r38 => bif ile 0 (Prod.fst r31) && ilt (Prod.fst r31) (ilen (List.map eI r3)) then (gbind (lget r3 (Prod.fst r31)) fun p97 => some ((Prod.fst r, lset r3 (Prod.fst r31) (wr IntKind.i64 (iadd p96 (wr IntKind.i64 (isub (Prod.fst r38) 1))))))) else (none)) (gbind (spec_l1Cur_pick L a (Prod.fst (Prod.snd r31)) (Prod.snd (Prod.snd r31)) 3) fun r39 => osame (fun r : (List Pt) × (List Int) => ((.tup [.frs 2 (List.map ep (r.1)), .frs 1 (List.map eI (r.2))], []) : AV × List Blk)) (gbind (lget r3 (Prod.fst r31)) fun p98 => bif ile 0 (Prod.fst r31) && ilt (Prod.fst r31) (ilen (List.map eI r3)) then (gbind (lget r3 (Prod.fst r31)) fun p99 => some ((Prod.fst r, lset r3 (Prod.fst r31) (wr IntKind.i64 (iadd p98 (wr IntKind.i64 (isub (Prod.fst r39) 1))))))) else (none)) (gbind (lget r3 (Prod.fst r31)) fun p100 => bif ile 0 (Prod.fst r31) && ilt (Prod.fst r31) (ilen (List.map eI r3)) then (gbind (lget r3 (Prod.fst r31)) fun p101 => some ((Prod.fst r, lset r3 (Prod.fst r31) (wr IntKind.i64 (iadd p100 (wr IntKind.i64 (isub (Prod.fst r39) 1))))))) else (none)))) else (none)) (gbind (spec_l1Cur_pick L a (Prod.fst (Prod.snd r31)) (Prod.snd (Prod.snd r31)) 3) fun r40 => osame (fun r : (List Pt) × (List Int) => ((.tup [.frs 2 (List.map ep (r.1)), .frs 1 (List.map eI (r.2))], []) : AV × List Blk)) (bif ile 0 (Prod.fst r31) && ilt (Prod.fst r31) (ilen (List.map eI r3)) then (osame (fun r : (List Pt) × (List Int) => ((.tup [.frs 2 (List.map ep (r.1)), .frs 1 (List.map eI (r.2))], []) : AV × List Blk)) (gbind (lget r3 (Prod.fst r31)) fun p102 => bif ile 0 (Prod.fst r31) && ilt (Prod.fst r31) (ilen (List.map eI r3)) then (gbind (lget r3 (Prod.fst r31)) fun p103 => some ((Prod.fst r, lset r3 (Prod.fst r31) (wr IntKind.i64 (iadd p102 (wr IntKind.i64 (isub (Prod.fst r40) 1))))))) else (none)) (gbind (lget r3 (Prod.fst r31)) fun p104 => bif ile 0 (Prod.fst r31) && ilt (Prod.fst r31) (ilen (List.map eI r3)) then (gbind (lget r3 (Prod.fst r31)) fun p105 => some ((Prod.fst r, lset r3 (Prod.fst r31) (wr IntKind.i64 (iadd p104 (wr IntKind.i64 (isub (Prod.fst r40) 1))))))) else (none))) else (none)) (bif ile 0 (Prod.fst r31) && ilt (Prod.fst r31) (ilen (List.map eI r3)) then (gbind (lget r3 (Prod.fst r31)) fun p106 => bif ile 0 (Prod.fst r31) && ilt (Prod.fst r31) (ilen (List.map eI r3)) then (gbind (lget r3 (Prod.fst r31)) fun p107 => some ((Prod.fst r, lset r3 (Prod.fst r31) (wr IntKind.i64 (iadd p106 (wr IntKind.i64 (isub (Prod.fst r40) 1))))))) else (none)) else (none)))) (gbind (spec_l1Cur_pick L a (Prod.fst (Prod.snd r31)) (Prod.snd (Prod.snd r31)) 3) fun r41 => osame (fun r : (List Pt) × (List Int) => ((.tup [.frs 2 (List.map ep (r.1)), .frs 1 (List.map eI (r.2))], []) : AV × List Blk)) (osame (fun r : (List Pt) × (List Int) => ((.tup [.frs 2 (List.map ep (r.1)), .frs 1 (List.map eI (r.2))], []) : AV × List Blk)) (bif ile 0 (Prod.fst r31) && ilt (Prod.fst r31) (ilen (List.map eI r3)) then (osame (fun r : (List Pt) × (List Int) => ((.tup [.frs 2 (List.map ep (r.1)), .frs 1 (List.map eI (r.2))], []) : AV × List Blk)) (gbind (lget r3 (Prod.fst r31)) fun p108 => bif ile 0 (Prod.fst r31) && ilt (Prod.fst r31) (ilen (List.map eI r3)) then (gbind (lget r3 (Prod.fst r31)) fun p109 => some ((Prod.fst r, lset r3 (Prod.fst r31) (wr IntKind.i64 (iadd p108 (wr IntKind.i64 (isub (Prod.fst r41) 1))))))) else (none)) (gbind (lget r3 (Prod.fst r31)) fun p110 => bif ile 0 (Prod.fst r31) && ilt (Prod.fst r31) (ilen (List.map eI r3)) then (gbind (lget r3 (Prod.fst r31)) fun p111 => some ((Prod.fst r, lset r3 (Prod.fst r31) (wr IntKind.i64 (iadd p110 (wr IntKind.i64 (isub (Prod.fst r41) 1))))))) else (none))) else (none)) (bif ile 0 (Prod.fst r31) && ilt (Prod.fst r31) (ilen (List.map eI r3)) then (gbind (lget r3 (Prod.fst r31)) fun p112 => bif ile 0 (Prod.fst r31) && ilt (Prod.fst r31) (ilen (List.map eI r3)) then (gbind (lget r3 (Prod.fst r31)) fun p113 => some ((Prod.fst r, lset r3 (Prod.fst r31) (wr IntKind.i64 (iadd p112 (wr IntKind.i64 (isub (Prod.fst r41) 1))))))) else (none)) else (none))) (bif ile 0 (Prod.fst r31) && ilt (Prod.fst r31) (ilen (List.map eI r3)) then (gbind (lget r3 (Prod.fst r31)) fun p114 => bif ile 0 (Prod.fst r31) && ilt (Prod.fst r31) (ilen (List.map eI r3)) then (gbind (lget r3 (Prod.fst r31)) fun p115 => some ((Prod.fst r, lset r3 (Prod.fst r31) (wr IntKind.i64 (iadd p114 (wr IntKind.i64 (isub (Prod.fst r41) 1))))))) else (none)) else (none))))) (osame (fun r : (List Pt) × (List Int) => ((.tup [.frs 2 (List.map ep (r.1)), .frs 1 (List.map eI (r.2))], []) : AV × List Blk)) (gbind (spec_l1Cur_pick L a (Prod.fst (Prod.snd r4)) (Prod.snd (Prod.snd r4)) 3) fun r42 => osame (fun r : (List Pt) × (List Int) => ((.tup [.frs 2 (List.map ep (r.1)), .frs 1 (List.map eI (r.2))], []) : AV × List Blk)) (bif ile 0 (Prod.fst r42) && ilt (Prod.fst r42) (ilen (List.map eI r3)) then (osame (fun r : (List Pt) × (List Int) => ((.tup [.frs 2 (List.map ep (r.1)), .frs 1 (List.map eI (r.2))], []) : AV × List Blk)) (gbind (lget r3 (Prod.fst r42)) fun p116 => gbind (spec_l1Cur_pick L a (Prod.fst (Prod.snd r42)) (Prod.snd (Prod.snd r42)) 3) fun r43 => bif ile 0 (Prod.fst r42) && ilt (Prod.fst r42) (ilen (List.map eI r3)) then (gbind (lget r3 (Prod.fst r42)) fun p117 => some ((Prod.fst r, lset r3 (Prod.fst r42) (wr IntKind.i64 (iadd p116 (wr IntKind.i64 (isub (Prod.fst r43) 1))))))) else (none)) (gbind (spec_l1Cur_pick L a (Prod.fst (Prod.snd r42)) (Prod.snd (Prod.snd r42)) 3) fun r44 => osame (fun r : (List Pt) × (List Int) => ((.tup [.frs 2 (List.map ep (r.1)), .frs 1 (List.map eI (r.2))], []) : AV × List Blk)) (gbind (lget r3 (Prod.fst r42)) fun p118 => bif ile 0 (Prod.fst r42) && ilt (Prod.fst r42) (ilen (List.map eI r3)) then (gbind (lget r3 (Prod.fst r42)) fun p119 => some ((Prod.fst r, lset r3 (Prod.fst r42) (wr IntKind.i64 (iadd p118 (wr IntKind.i64 (isub (Prod.fst r44) 1))))))) else (none)) (gbind (lget r3 (Prod.fst r42)) fun p120 => bif ile 0 (Prod.fst r42) && ilt (Prod.fst r42) (ilen (List.map eI r3)) then (gbind (lget r3 (Prod.fst r42)) fun p121 => some ((Prod.fst r, lset r3 (Prod.fst r42) (wr IntKind.i64 (iadd p120 (wr IntKind.i64 (isub (Prod.fst r44) 1))))))) else (none)))) else (none)) (gbind (spec_l1Cur_pick L a (Prod.fst (Prod.snd r42)) (Prod.snd (Prod.snd r42)) 3) fun r45 => osame (fun r : (List Pt) × (List Int) => ((.tup [.frs 2 (List.map ep (r.1)), .frs 1 (List.map eI (r.2))], []) : AV × List Blk)) (bif ile 0 (Prod.fst r42) && ilt (Prod.fst r42) (ilen (List.map eI r3)) then (osame (fun r : (List Pt) × (List Int) => ((.tup [.frs 2 (List.map ep (r.1)), .frs 1 (List.map eI (r.2))], []) : AV × List Blk)) (gbind (lget r3 (Prod.fst r42)) fun p122 => bif ile 0 (Prod.fst r42) && ilt (Prod.fst r42) (ilen (List.map eI r3)) then (gbind (lget r3 (Prod.fst r42)) fun p123 => some ((Prod.fst r, lset r3 (Prod.fst r42) (wr IntKind.i64 (iadd p122 (wr IntKind.i64 (isub (Prod.fst r45) 1))))))) else (none)) (gbind (lget r3 (Prod.fst r42)) fun p124 => bif ile 0 (Prod.fst r42) && ilt (Prod.fst r42) (ilen (List.map eI r3)) then (gbind (lget r3 (Prod.fst r42)) fun p125 => some ((Prod.fst r, lset r3 (Prod.fst r42) (wr IntKind.i64 (iadd p124 (wr IntKind.i64 (isub (Prod.fst r45) 1))))))) else (none))) else (none)) (bif ile 0 (Prod.fst r42) && ilt (Prod.fst r42) (ilen (List.map eI r3)) then (gbind (lget r3 (Prod.fst r42)) fun p126 => bif ile 0 (Prod.fst r42) && ilt (Prod.fst r42) (ilen (List.map eI r3)) then (gbind (lget r3 (Prod.fst r42)) fun p127 => some ((Prod.fst r, lset r3 (Prod.fst r42) (wr IntKind.i64 (iadd p126 (wr IntKind.i64 (isub (Prod.fst r45) 1))))))) else (none)) else (none)))) (gbind (spec_l1Cur_pick L a (Prod.fst (Prod.snd r4)) (Prod.snd (Prod.snd r4)) 3) fun r46 => osame (fun r : (List Pt) × (List Int) => ((.tup [.frs 2 (List.map ep (r.1)), .frs 1 (List.map eI (r.2))], []) : AV × List Blk)) (osame (fun r : (List Pt) × (List Int) => ((.tup [.frs 2 (List.map ep (r.1)), .frs 1 (List.map eI (r.2))], []) : AV × List Blk)) (bif ile 0 (Prod.fst r46) && ilt (Prod.fst r46) (ilen (List.map eI r3)) then (osame (fun r : (List Pt) × (List Int) => ((.tup [.frs 2 (List.map ep (r.1)), .frs 1 (List.map eI (r.2))], []) : AV × List Blk)) (gbind (lget r3 (Prod.fst r46)) fun p128 => gbind (spec_l1Cur_pick L a (Prod.fst (Prod.snd r46)) (Prod.snd (Prod.snd r46)) 3) fun r47 => bif ile 0 (Prod.fst r46) && ilt (Prod.fst r46) (ilen (List.map eI r3)) then (gbind (lget r3 (Prod.fst r46)) fun p129 => some ((Prod.fst r, lset r3 (Prod.fst r46) (wr IntKind.i64 (iadd p128 (wr IntKind.i64 (isub (Prod.fst r47) 1))))))) else (none)) (gbind (spec_l1Cur_pick L a (Prod.fst (Prod.snd r46)) (Prod.snd (Prod.snd r46)) 3) fun r48 => osame (fun r : (List Pt) × (List Int) => ((.tup [.frs 2 (List.map ep (r.1)), .frs 1 (List.map eI (r.2))], []) : AV × List Blk)) (gbind (lget r3 (Prod.fst r46)) fun p130 => bif ile 0 (Prod.fst r46) && ilt (Prod.fst r46) (ilen (List.map eI r3)) then (gbind (lget r3 (Prod.fst r46)) fun p131 => some ((Prod.fst r, lset r3 (Prod.fst r46) (wr IntKind.i64 (iadd p130 (wr IntKind.i64 (isub (Prod.fst r48) 1))))))) else (none)) (gbind (lget r3 (Prod.fst r46)) fun p132 => bif ile 0 (Prod.fst r46) && ilt (Prod.fst r46) (ilen (List.map eI r3)) then (gbind (lget r3 (Prod.fst r46)) fun p133 => some ((Prod.fst r, lset r3 (Prod.fst r46) (wr IntKind.i64 (iadd p132 (wr IntKind.i64 (isub (Prod.fst r48) 1))))))) else (none)))) else (none)) (gbind (spec_l1Cur_pick L a (Prod.fst (Prod.snd r46)) (Prod.snd (Prod.snd r46)) 3) fun r49 => osame (fun r : (List Pt) × (List Int) => ((.tup [.frs 2 (List.map ep (r.1)), .frs 1 (List.map eI (r.2))], []) : AV × List Blk)) (bif ile 0 (Prod.fst r46) && ilt (Prod.fst r46) (ilen (List.map eI r3)) then (osame (fun r : (List Pt) × (List Int) => ((.tup [.frs 2 (List.map ep (r.1)), .frs 1 (List.map eI (r.2))], []) : AV × List Blk)) (gbind (lget r3 (Prod.fst r46)) fun p134 => bif ile 0 (Prod.fst r46) && ilt (Prod.fst r46) (ilen (List.map eI r3)) then (gbind (lget r3 (Prod.fst r46)) fun p135 => some ((Prod.fst r, lset r3 (Prod.fst r46) (wr IntKind.i64 (iadd p134 (wr IntKind.i64 (isub (Prod.fst r49) 1))))))) else (none)) (gbind (lget r3 (Prod.fst r46)) fun p136 => bif ile 0 (Prod.fst r46) && ilt (Prod.fst r46) (ilen (List.map eI r3)) then (gbind (lget r3 (Prod.fst r46)) fun p137 => some ((Prod.fst r, lset r3 (Prod.fst r46) (wr IntKind.i64 (iadd p136 (wr IntKind.i64 (isub (Prod.fst r49) 1))))))) else (none))) else (none)) (bif ile 0 (Prod.fst r46) && ilt (Prod.fst r46) (ilen (List.map eI r3)) then (gbind (lget r3 (Prod.fst r46)) fun p138 => bif ile 0 (Prod.fst r46) && ilt (Prod.fst r46) (ilen (List.map eI r3)) then (gbind (lget r3 (Prod.fst r46)) fun p139 => some ((Prod.fst r, lset r3 (Prod.fst r46) (wr IntKind.i64 (iadd p138 (wr IntKind.i64 (isub (Prod.fst r49) 1))))))) else (none)) else (none)))) (gbind (spec_l1Cur_pick L a (Prod.fst (Prod.snd r46)) (Prod.snd (Prod.snd r46)) 3) fun r50 => osame (fun r : (List Pt) × (List Int) => ((.tup [.frs 2 (List.map ep (r.1)), .frs 1 (List.map eI (r.2))], []) : AV × List Blk)) (osame (fun r : (List Pt) × (List Int) => ((.tup [.frs 2 (List.map ep (r.1)), .frs 1 (List.map eI (r.2))], []) : AV × List Blk)) (bif ile 0 (Prod.fst r46) && ilt (Prod.fst r46) (ilen (List.map eI r3)) then (osame (fun r : (List Pt) × (List Int) => ((.tup [.frs 2 (List.map ep (r.1)), .frs 1 (List.map eI (r.2))], []) : AV × List Blk)) (gbind (lget r3 (Prod.fst r46)) fun p140 => bif ile 0 (Prod.fst r46) && ilt (Prod.fst r46) (ilen (List.map eI r3)) then (gbind (lget r3 (Prod.fst r46)) fun p141 => some ((Prod.fst r, lset r3 (Prod.fst r46) (wr IntKind.i64 (iadd p140 (wr IntKind.i64 (isub (Prod.fst r50) 1))))))) else (none)) (gbind (lget r3 (Prod.fst r46)) fun p142 => bif ile 0 (Prod.fst r46) && ilt (Prod.fst r46) (ilen (List.map eI r3)) then (gbind (lget r3 (Prod.fst r46)) fun p143 => some ((Prod.fst r, lset r3 (Prod.fst r46) (wr IntKind.i64 (iadd p142 (wr IntKind.i64 (isub (Prod.fst r50) 1))))))) else (none))) else (none)) (bif ile 0 (Prod.fst r46) && ilt (Prod.fst r46) (ilen (List.map eI r3)) then (gbind (lget r3 (Prod.fst r46)) fun p144 => bif ile 0 (Prod.fst r46) && ilt (Prod.fst r46) (ilen (List.map eI r3)) then (gbind (lget r3 (Prod.fst r46)) fun p145 => some ((Prod.fst r, lset r3 (Prod.fst r46) (wr IntKind.i64 (iadd p144 (wr IntKind.i64 (isub (Prod.fst r50) 1))))))) else (none)) else (none))) (bif ile 0 (Prod.fst r46) && ilt (Prod.fst r46) (ilen (List.map eI r3)) then (gbind (lget r3 (Prod.fst r46)) fun p146 => bif ile 0 (Prod.fst r46) && ilt (Prod.fst r46) (ilen (List.map eI r3)) then (gbind (lget r3 (Prod.fst r46)) fun p147 => some ((Prod.fst r, lset r3 (Prod.fst r46) (wr IntKind.i64 (iadd p146 (wr IntKind.i64 (isub (Prod.fst r50) 1))))))) else (none)) else (none))))))) (osame (fun r : (List Pt) × (List Int) => ((.tup [.frs 2 (List.map ep (r.1)), .frs 1 (List.map eI (r.2))], []) : AV × List Blk)) (gbind (spec_l1Cur_pick L a (Prod.fst (Prod.snd r4)) (Prod.snd (Prod.snd r4)) 3) fun r51 => osame (fun r : (List Pt) × (List Int) => ((.tup [.frs 2 (List.map ep (r.1)), .frs 1 (List.map eI (r.2))], []) : AV × List Blk)) (bif ile 0 (Prod.fst r51) && ilt (Prod.fst r51) (ilen (List.map eI r3)) then (osame (fun r : (List Pt) × (List Int) => ((.tup [.frs 2 (List.map ep (r.1)), .frs 1 (List.map eI (r.2))], []) : AV × List Blk)) (gbind (lget r3 (Prod.fst r51)) fun p148 => gbind (spec_l1Cur_pick L a (Prod.fst (Prod.snd r51)) (Prod.snd (Prod.snd r51)) 3) fun r52 => bif ile 0 (Prod.fst r51) && ilt (Prod.fst r51) (ilen (List.map eI r3)) then (gbind (lget r3 (Prod.fst r51)) fun p149 => some ((Prod.fst r, lset r3 (Prod.fst r51) (wr IntKind.i64 (iadd p148 (wr IntKind.i64 (isub (Prod.fst r52) 1))))))) else (none)) (gbind (spec_l1Cur_pick L a (Prod.fst (Prod.snd r51)) (Prod.snd (Prod.snd r51)) 3) fun r53 => osame (fun r : (List Pt) × (List Int) => ((.tup [.frs 2 (List.map ep (r.1)), .frs 1 (List.map eI (r.2))], []) : AV × List Blk)) (gbind (lget r3 (Prod.fst r51)) fun p150 => bif ile 0 (Prod.fst r51) && ilt (Prod.fst r51) (ilen (List.map eI r3)) then (gbind (lget r3 (Prod.fst r51)) fun p151 => some ((Prod.fst r, lset r3 (Prod.fst r51) (wr IntKind.i64 (iadd p150 (wr IntKind.i64 (isub (Prod.fst r53) 1))))))) else (none)) (gbind (lget r3 (Prod.fst r51)) fun p152 => bif ile 0 (Prod.fst r51) && ilt (Prod.fst r51) (ilen (List.map eI r3)) then (gbind (lget r3 (Prod.fst r51)) fun p153 => some ((Prod.fst r, lset r3 (Prod.fst r51) (wr IntKind.i64 (iadd p152 (wr IntKind.i64 (isub (Prod.fst r53) 1))))))) else (none)))) else (none)) (gbind (spec_l1Cur_pick L a (Prod.fst (Prod.snd r51)) (Prod.snd (Prod.snd r51)) 3) fun r54 => osame (fun r : (List Pt) × (List Int) => ((.tup [.frs 2 (List.map ep (r.1)), .frs 1 (List.map eI (r.2))], []) : AV × List Blk)) (bif ile 0 (Prod.fst r51) && ilt (Prod.fst r51) (ilen (List.map eI r3)) then (osame (fun r : (List Pt) × (List Int) => ((.tup [.frs 2 (List.map ep (r.1)), .frs 1 (List.map eI (r.2))], []) : AV × List Blk)) (gbind (lget r3 (Prod.fst r51)) fun p154 => bif ile 0 (Prod.fst r51) && ilt (Prod.fst r51) (ilen (List.map eI r3)) then (gbind (lget r3 (Prod.fst r51)) fun p155 => some ((Prod.fst r, lset r3 (Prod.fst r51) (wr IntKind.i64 (iadd p154 (wr IntKind.i64 (isub (Prod.fst r54) 1))))))) else (none)) (gbind (lget r3 (Prod.fst r51)) fun p156 => bif ile 0 (Prod.fst r51) && ilt (Prod.fst r51) (ilen (List.map eI r3)) then (gbind (lget r3 (Prod.fst r51)) fun p157 => some ((Prod.fst r, lset r3 (Prod.fst r51) (wr IntKind.i64 (iadd p156 (wr IntKind.i64 (isub (Prod.fst r54) 1))))))) else (none))) else (none)) (bif ile 0 (Prod.fst r51) && ilt (Prod.fst r51) (ilen (List.map eI r3)) then (gbind (lget r3 (Prod.fst r51)) fun p158 => bif ile 0 (Prod.fst r51) && ilt (Prod.fst r51) (ilen (List.map eI r3)) then (gbind (lget r3 (Prod.fst r51)) fun p159 => some ((Prod.fst r, lset r3 (Prod.fst r51) (wr IntKind.i64 (iadd p158 (wr IntKind.i64 (isub (Prod.fst r54) 1))))))) else (none)) else (none)))) (osame (fun r : (List Pt) × (List Int) => ((.tup [.frs 2 (List.map ep (r.1)), .frs 1 (List.map eI (r.2))], []) : AV × List Blk)) (gbind (spec_l1Cur_pick L a (Prod.fst (Prod.snd r4)) (Prod.snd (Prod.snd r4)) 3) fun r55 => osame (fun r : (List Pt) × (List Int) => ((.tup [.frs 2 (List.map ep (r.1)), .frs 1 (List.map eI (r.2))], []) : AV × List Blk)) (bif ile 0 (Prod.fst r55) && ilt (Prod.fst r55) (ilen (List.map eI r3)) then (osame (fun r : (List Pt) × (List Int) => ((.tup [.frs 2 (List.map ep (r.1)), .frs 1 (List.map eI (r.2))], []) : AV × List Blk)) (gbind (lget r3 (Prod.fst r55)) fun p160 => gbind (spec_l1Cur_pick L a (Prod.fst (Prod.snd r55)) (Prod.snd (Prod.snd r55)) 3) fun r56 => bif ile 0 (Prod.fst r55) && ilt (Prod.fst r55) (ilen (List.map eI r3)) then (gbind (lget r3 (Prod.fst r55)) fun p161 => some ((Prod.fst r, lset r3 (Prod.fst r55) (wr IntKind.i64 (iadd p160 (wr IntKind.i64 (isub (Prod.fst r56) 1))))))) else (none)) (gbind (spec_l1Cur_pick L a (Prod.fst (Prod.snd r55)) (Prod.snd (Prod.snd r55)) 3) fun r57 => osame (fun r : (List Pt) × (List Int) => ((.tup [.frs 2 (List.map ep (r.1)), .frs 1 (List.map eI (r.2))], []) : AV × List Blk)) (gbind (lget r3 (Prod.fst r55)) fun p162 => bif ile 0 (Prod.fst r55) && ilt (Prod.fst r55) (ilen (List.map eI r3)) then (gbind (lget r3 (Prod.fst r55)) fun p163 => some ((Prod.fst r, lset r3 (Prod.fst r55) (wr IntKind.i64 (iadd p162 (wr IntKind.i64 (isub (Prod.fst r57) 1))))))) else (none)) (gbind (lget r3 (Prod.fst r55)) fun p164 => bif ile 0 (Prod.fst r55) && ilt (Prod.fst r55) (ilen (List.map eI r3)) then (gbind (lget r3 (Prod.fst r55)) fun p165 => some ((Prod.fst r, lset r3 (Prod.fst r55) (wr IntKind.i64 (iadd p164 (wr IntKind.i64 (isub (Prod.fst r57) 1))))))) else (none)))) else (none)) (gbind (spec_l1Cur_pick L a (Prod.fst (Prod.snd r55)) (Prod.snd (Prod.snd r55)) 3) fun r58 => osame (fun r : (List Pt) × (List Int) => ((.tup [.frs 2 (List.map ep (r.1)), .frs 1 (List.map eI (r.2))], []) : AV × List Blk)) (bif ile 0 (Prod.fst r55) && ilt (Prod.fst r55) (ilen (List.map eI r3)) then (osame (fun r : (List Pt) × (List Int) => ((.tup [.frs 2 (List.map ep (r.1)), .frs 1 (List.map eI (r.2))], []) : AV × List Blk)) (gbind (lget r3 (Prod.fst r55)) fun p166 => bif ile 0 (Prod.fst r55) && ilt (Prod.fst r55) (ilen (List.map eI r3)) then (gbind (lget r3 (Prod.fst r55)) fun p167 => some ((Prod.fst r, lset r3 (Prod.fst r55) (wr IntKind.i64 (iadd p166 (wr IntKind.i64 (isub (Prod.fst r58) 1))))))) else (none)) (gbind (lget r3 (Prod.fst r55)) fun p168 => bif ile 0 (Prod.fst r55) && ilt (Prod.fst r55) (ilen (List.map eI r3)) then (gbind (lget r3 (Prod.fst r55)) fun p169 => some ((Prod.fst r, lset r3 (Prod.fst r55) (wr IntKind.i64 (iadd p168 (wr IntKind.i64 (isub (Prod.fst r58) 1))))))) else (none))) else (none)) (bif ile 0 (Prod.fst r55) && ilt (Prod.fst r55) (ilen (List.map eI r3)) then (gbind (lget r3 (Prod.fst r55)) fun p170 => bif ile 0 (Prod.fst r55) && ilt (Prod.fst r55) (ilen (List.map eI r3)) then (gbind (lget r3 (Prod.fst r55)) fun p171 => some ((Prod.fst r, lset r3 (Prod.fst r55) (wr IntKind.i64 (iadd p170 (wr IntKind.i64 (isub (Prod.fst r58) 1))))))) else (none)) else (none)))) (gbind (spec_l1Cur_pick L a (Prod.fst (Prod.snd r4)) (Prod.snd (Prod.snd r4)) 3) fun r59 => osame (fun r : (List Pt) × (List Int) => ((.tup [.frs 2 (List.map ep (r.1)), .frs 1 (List.map eI (r.2))], []) : AV × List Blk)) (osame (fun r : (List Pt) × (List Int) => ((.tup [.frs 2 (List.map ep (r.1)), .frs 1 (List.map eI (r.2))], []) : AV × List Blk)) (bif ile 0 (Prod.fst r59) && ilt (Prod.fst r59) (ilen (List.map eI r3)) then (osame (fun r : (List Pt) × (List Int) => ((.tup [.frs 2 (List.map ep (r.1)), .frs 1 (List.map eI (r.2))], []) : AV × List Blk)) (gbind (lget r3 (Prod.fst r59)) fun p172 => gbind (spec_l1Cur_pick L a (Prod.fst (Prod.snd r59)) (Prod.snd (Prod.snd r59)) 3) fun r60 => bif ile 0 (Prod.fst r59) && ilt (Prod.fst r59) (ilen (List.map eI r3)) then (gbind (lget r3 (Prod.fst r59)) fun p173 => some ((Prod.fst r, lset r3 (Prod.fst r59) (wr IntKind.i64 (iadd p172 (wr IntKind.i64 (isub (Prod.fst r60) 1))))))) else (none)) (gbind (spec_l1Cur_pick L a (Prod.fst (Prod.snd r59)) (Prod.snd (Prod.snd r59)) 3) fun r61 => osame (fun r : (List Pt) × (List Int) => ((.tup [.frs 2 (List.map ep (r.1)), .frs 1 (List.map eI (r.2))], []) : AV × List Blk)) (gbind (lget r3 (Prod.fst r59)) fun p174 => bif ile 0 (Prod.fst r59) && ilt (Prod.fst r59) (ilen (List.map eI r3)) then (gbind (lget r3 (Prod.fst r59)) fun p175 => some ((Prod.fst r, lset r3 (Prod.fst r59) (wr IntKind.i64 (iadd p174 (wr IntKind.i64 (isub (Prod.fst r61) 1))))))) else (none)) (gbind (lget r3 (Prod.fst r59)) fun p176 => bif ile 0 (Prod.fst r59) && ilt (Prod.fst r59) (ilen (List.map eI r3)) then (gbind (lget r3 (Prod.fst r59)) fun p177 => some ((Prod.fst r, lset r3 (Prod.fst r59) (wr IntKind.i64 (iadd p176 (wr IntKind.i64 (isub (Prod.fst r61) 1))))))) else (none)))) else (none)) (gbind (spec_l1Cur_pick L a (Prod.fst (Prod.snd r59)) (Prod.snd (Prod.snd r59)) 3) fun r62 => osame (fun r : (List Pt) × (List Int) => ((.tup [.frs 2 (List.map ep (r.1)), .frs 1 (List.map eI (r.2))], []) : AV × List Blk)) (bif ile 0 (Prod.fst r59) && ilt (Prod.fst r59) (ilen (List.map eI r3)) then (osame (fun r : (List Pt) × (List Int) => ((.tup [.frs 2 (List.map ep (r.1)), .frs 1 (List.map eI (r.2))], []) : AV × List Blk)) (gbind (lget r3 (Prod.fst r59)) fun p178 => bif ile 0 (Prod.fst r59) && ilt (Prod.fst r59) (ilen (List.map eI r3)) then (gbind (lget r3 (Prod.fst r59)) fun p179 => some ((Prod.fst r, lset r3 (Prod.fst r59) (wr IntKind.i64 (iadd p178 (wr IntKind.i64 (isub (Prod.fst r62) 1))))))) else (none)) (gbind (lget r3 (Prod.fst r59)) fun p180 => bif ile 0 (Prod.fst r59) && ilt (Prod.fst r59) (ilen (List.map eI r3)) then (gbind (lget r3 (Prod.fst r59)) fun p181 => some ((Prod.fst r, lset r3 (Prod.fst r59) (wr IntKind.i64 (iadd p180 (wr IntKind.i64 (isub (Prod.fst r62) 1))))))) else (none))) else (none)) (bif ile 0 (Prod.fst r59) && ilt (Prod.fst r59) (ilen (List.map eI r3)) then (gbind (lget r3 (Prod.fst r59)) fun p182 => bif ile 0 (Prod.fst r59) && ilt (Prod.fst r59) (ilen (List.map eI r3)) then (gbind (lget r3 (Prod.fst r59)) fun p183 => some ((Prod.fst r, lset r3 (Prod.fst r59) (wr IntKind.i64 (iadd p182 (wr IntKind.i64 (isub (Prod.fst r62) 1))))))) else (none)) else (none)))) (gbind (spec_l1Cur_pick L a (Prod.fst (Prod.snd r59)) (Prod.snd (Prod.snd r59)) 3) fun r63 => osame (fun r : (List Pt) × (List Int) => ((.tup [.frs 2 (List.map ep (r.1)), .frs 1 (List.map eI (r.2))], []) : AV × List Blk)) (osame (fun r : (List Pt) × (List Int) => ((.tup [.frs 2 (List.map ep (r.1)), .frs 1 (List.map eI (r.2))], []) : AV × List Blk)) (bif ile 0 (Prod.fst r59) && ilt (Prod.fst r59) (ilen (List.map eI r3)) then (osame (fun r : (List Pt) × (List Int) => ((.tup [.frs 2 (List.map ep (r.1)), .frs 1 (List.map eI (r.2))], []) : AV × List Blk)) (gbind (lget r3 (Prod.fst r59)) fun p184 => bif ile 0 (Prod.fst r59) && ilt (Prod.fst r59) (ilen (List.map eI r3)) then (gbind (lget r3 (Prod.fst r59)) fun p185 => some ((Prod.fst r, lset r3 (Prod.fst r59) (wr IntKind.i64 (iadd p184 (wr IntKind.i64 (isub (Prod.fst r63) 1))))))) else (none)) (gbind (lget r3 (Prod.fst r59)) fun p186 => bif ile 0 (Prod.fst r59) && ilt (Prod.fst r59) (ilen (List.map eI r3)) then (gbind (lget r3 (Prod.fst r59)) fun p187 => some ((Prod.fst r, lset r3 (Prod.fst r59) (wr IntKind.i64 (iadd p186 (wr IntKind.i64 (isub (Prod.fst r63) 1))))))) else (none))) else (none)) (bif ile 0 (Prod.fst r59) && ilt (Prod.fst r59) (ilen (List.map eI r3)) then (gbind (lget r3 (Prod.fst r59)) fun p188 => bif ile 0 (Prod.fst r59) && ilt (Prod.fst r59) (ilen (List.map eI r3)) then (gbind (lget r3 (Prod.fst r59)) fun p189 => some ((Prod.fst r, lset r3 (Prod.fst r59) (wr IntKind.i64 (iadd p188 (wr IntKind.i64 (isub (Prod.fst r63) 1))))))) else (none)) else (none))) (bif ile 0 (Prod.fst r59) && ilt (Prod.fst r59) (ilen (List.map eI r3)) then (gbind (lget r3 (Prod.fst r59)) fun p190 => bif ile 0 (Prod.fst r59) && ilt (Prod.fst r59) (ilen (List.map eI r3)) then (gbind (lget r3 (Prod.fst r59)) fun p191 => some ((Prod.fst r, lset r3 (Prod.fst r59) (wr IntKind.i64 (iadd p190 (wr IntKind.i64 (isub (Prod.fst r63) 1))))))) else (none)) else (none)))))))) else (bif ieq (Prod.fst r4) 1 then (gbind (spec_l1Cur_among_v2 L a (Prod.fst (Prod.snd r4)) (Prod.snd (Prod.snd r4)) (1000000 :: (1000001 :: (0 :: (-9223372036854775808 :: []))))) fun r64 => some ((Prod.fst r, Prod.fst r64 :: (1 :: (2 :: []))))) else (bif ieq (Prod.fst r4) 2 then (gbind (spec_pgArea L (Prod.fst r)) fun r65 => gbind (spec_l1Cur_pick L a (Prod.fst (Prod.snd r4)) (Prod.snd (Prod.snd r4)) 9) fun r66 => some ((Prod.fst r, wr IntKind.i64 (isub (Prod.fst r66) 4) :: (1 :: (wr IntKind.i64 (isub r65 1) :: []))))) else (some ((Prod.fst r, r3))))))


def spec_DrawPegOfParts_ok (L : Nat) (C : CF) : Prop := ∀ (oa : Bool) (ca : Bool) (x_a : List AV) (a : List Int) (_ : x_a = List.map eU a), C 26 ([.lst oa ca 1 x_a]) ([]) = Option.map (fun r : (List Pt) × (List Int) => ((.tup [.frs 2 (List.map ep (r.1)), .frs 1 (List.map eI (r.2))], []) : AV × List Blk)) (spec_DrawPegOfParts L a)


theorem spec_DrawPegOfParts_run (L : Nat) (C : CF) (h_spec_pgArea : spec_pgArea_ok L C) (h_spec_l1Cur_pick : spec_l1Cur_pick_ok L C) (h_spec_l1Cur_among_v2 : spec_l1Cur_among_v2_ok L C) (h_spec_l1Cur_surePeg : spec_l1Cur_surePeg_ok L C) (h_spec_l1Cur_three : spec_l1Cur_three_ok L C) (h_spec_trThree : spec_trThree_ok L C) (h_spec_trParts : spec_trParts_ok L C) : ∀ (oa : Bool) (ca : Bool) (x_a : List AV) (a : List Int) (_ : x_a = List.map eU a), run T C sh (keep 26) L Try.f26 ([.lst oa ca 1 x_a]) ([]) = Option.map (fun r : (List Pt) × (List Int) => ((.tup [.frs 2 (List.map ep (r.1)), .frs 1 (List.map eI (r.2))], []) : AV × List Blk)) (spec_DrawPegOfParts L a) := by
 intro oa ca x_a a hx_a
 subst hx_a
 unfold spec_DrawPegOfParts
 conv => lhs; whnf
 refine t_call (h_spec_l1Cur_three _ _ _ a (by first | rfl | simp only [ml] <;> rfl) 0 0 4) fun r => ?_
 conv => lhs; whnf
 refine t_call (h_spec_trThree _ _ _ (Prod.fst r) (by first | rfl | simp only [ml] <;> rfl)) fun r1 => ?_
 conv => lhs; whnf
 refine t_cond ?_ ?_
 ·conv => lhs; whnf
  exact t_ret (by first | rfl | simp only [ml] <;> rfl)
 ·conv => lhs; whnf
  refine t_call (h_spec_l1Cur_surePeg _ _ _ a (by first | rfl | simp only [ml] <;> rfl) (Prod.fst (Prod.snd r)) (Prod.snd (Prod.snd r)) 6) fun r2 => ?_
  conv => lhs; whnf
  refine t_call (h_spec_trParts _ _ _ (Prod.fst r) (by first | rfl | simp only [ml] <;> rfl) (Prod.fst r2) (Prod.fst (Prod.snd r2))) fun r3 => ?_
  conv => lhs; whnf
  refine t_call (h_spec_l1Cur_pick _ _ _ a (by first | rfl | simp only [ml] <;> rfl) (Prod.fst (Prod.snd (Prod.snd r2))) (Prod.snd (Prod.snd (Prod.snd r2))) 8) fun r4 => ?_
  conv => lhs; whnf
  refine t_cond ?_ ?_
  ·conv => lhs; whnf
   refine t_same ?_ ?_
   ·conv => lhs; whnf
    refine t_same ?_ ?_
    ·conv => lhs; whnf
     refine t_same ?_ ?_
     ·conv => lhs; whnf
      refine t_call (h_spec_l1Cur_pick _ _ _ a (by first | rfl | simp only [ml] <;> rfl) (Prod.fst (Prod.snd r4)) (Prod.snd (Prod.snd r4)) 3) fun r5 => ?_
      conv => lhs; whnf
      refine t_same ?_ ?_
      ·conv => lhs; whnf
       refine t_cond ?_ ?_
       ·conv => lhs; whnf
        refine t_same ?_ ?_
        ·conv => lhs; whnf
         refine t_get (en := eI) (l := r3) (by first | rfl | simp only [ml] <;> rfl) fun p => ?_
         conv => lhs; whnf
         refine t_call (h_spec_l1Cur_pick _ _ _ a (by first | rfl | simp only [ml] <;> rfl) (Prod.fst (Prod.snd r5)) (Prod.snd (Prod.snd r5)) 3) fun r6 => ?_
         conv => lhs; whnf
         refine t_cond ?_ ?_
         ·conv => lhs; whnf
          refine t_get (en := eI) (l := r3) (by first | rfl | simp only [ml] <;> rfl) fun p1 => ?_
          conv => lhs; whnf
          exact t_ret (by first | rfl | simp only [ml] <;> rfl)
         ·conv => lhs; whnf
          exact t_none
        ·conv => lhs; whnf
         refine t_same ?_ ?_
         ·conv => lhs; whnf
          refine t_get (en := eI) (l := r3) (by first | rfl | simp only [ml] <;> rfl) fun p2 => ?_
          conv => lhs; whnf
          refine t_call (h_spec_l1Cur_pick _ _ _ a (by first | rfl | simp only [ml] <;> rfl) (Prod.fst (Prod.snd r5)) (Prod.snd (Prod.snd r5)) 3) fun r7 => ?_
          conv => lhs; whnf
          refine t_cond ?_ ?_
          ·conv => lhs; whnf
           refine t_get (en := eI) (l := r3) (by first | rfl | simp only [ml] <;> rfl) fun p3 => ?_
           conv => lhs; whnf
           exact t_ret (by first | rfl | simp only [ml] <;> rfl)
          ·conv => lhs; whnf
           exact t_none
         ·conv => lhs; whnf
          refine t_call (h_spec_l1Cur_pick _ _ _ a (by first | rfl | simp only [ml] <;> rfl) (Prod.fst (Prod.snd r5)) (Prod.snd (Prod.snd r5)) 3) fun r8 => ?_
          conv => lhs; whnf
          refine t_same ?_ ?_
          ·conv => lhs; whnf
           refine t_get (en := eI) (l := r3) (by first | rfl | simp only [ml] <;> rfl) fun p4 => ?_
           conv => lhs; whnf
           refine t_cond ?_ ?_
           ·conv => lhs; whnf
            refine t_get (en := eI) (l := r3) (by first | rfl | simp only [ml] <;> rfl) fun p5 => ?_
            conv => lhs; whnf
            exact t_ret (by first | rfl | simp only [ml] <;> rfl)
           ·conv => lhs; whnf
            exact t_none
          ·conv => lhs; whnf
           refine t_get (en := eI) (l := r3) (by first | rfl | simp only [ml] <;> rfl) fun p6 => ?_
           conv => lhs; whnf
           refine t_cond ?_ ?_
           ·conv => lhs; whnf
            refine t_get (en := eI) (l := r3) (by first | rfl | simp only [ml] <;> rfl) fun p7 => ?_
            conv => lhs; whnf
            exact t_ret (by first | rfl | simp only [ml] <;> rfl)
           ·conv => lhs; whnf
            exact t_none
       ·conv => lhs; whnf
        exact t_none
      ·conv => lhs; whnf
       refine t_same ?_ ?_
       ·conv => lhs; whnf
        refine t_cond ?_ ?_
        ·conv => lhs; whnf
         refine t_same ?_ ?_
         ·conv => lhs; whnf
          refine t_get (en := eI) (l := r3) (by first | rfl | simp only [ml] <;> rfl) fun p8 => ?_
          conv => lhs; whnf
          refine t_call (h_spec_l1Cur_pick _ _ _ a (by first | rfl | simp only [ml] <;> rfl) (Prod.fst (Prod.snd r5)) (Prod.snd (Prod.snd r5)) 3) fun r9 => ?_
          conv => lhs; whnf
          refine t_cond ?_ ?_
          ·conv => lhs; whnf
           refine t_get (en := eI) (l := r3) (by first | rfl | simp only [ml] <;> rfl) fun p9 => ?_
           conv => lhs; whnf
           exact t_ret (by first | rfl | simp only [ml] <;> rfl)
          ·conv => lhs; whnf
           exact t_none
         ·conv => lhs; whnf
          refine t_call (h_spec_l1Cur_pick _ _ _ a (by first | rfl | simp only [ml] <;> rfl) (Prod.fst (Prod.snd r5)) (Prod.snd (Prod.snd r5)) 3) fun r10 => ?_
          conv => lhs; whnf
          refine t_same ?_ ?_
          ·conv => lhs; whnf
           refine t_get (en := eI) (l := r3) (by first | rfl | simp only [ml] <;> rfl) fun p10 => ?_
           conv => lhs; whnf
           refine t_cond ?_ ?_
           ·conv => lhs; whnf
            refine t_get (en := eI) (l := r3) (by first | rfl | simp only [ml] <;> rfl) fun p11 => ?_
            conv => lhs; whnf
            exact t_ret (by first | rfl | simp only [ml] <;> rfl)
           ·conv => lhs; whnf
            exact t_none
          ·conv => lhs; whnf
           refine t_get (en := eI) (l := r3) (by first | rfl | simp only [ml] <;> rfl) fun p12 => ?_
           conv => lhs; whnf
           refine t_cond ?_ ?_
           ·conv => lhs; whnf
            refine t_get (en := eI) (l := r3) (by first | rfl | simp only [ml] <;> rfl) fun p13 => ?_
            conv => lhs; whnf
            exact t_ret (by first | rfl | simp only [ml] <;> rfl)
           ·conv => lhs; whnf
            exact t_none
        ·conv => lhs; whnf
         exact t_none
       ·conv => lhs; whnf
        refine t_call (h_spec_l1Cur_pick _ _ _ a (by first | rfl | simp only [ml] <;> rfl) (Prod.fst (Prod.snd r5)) (Prod.snd (Prod.snd r5)) 3) fun r11 => ?_
        conv => lhs; whnf
        refine t_same ?_ ?_
        ·conv => lhs; whnf
         refine t_cond ?_ ?_
         ·conv => lhs; whnf
          refine t_same ?_ ?_
          ·conv => lhs; whnf
           refine t_get (en := eI) (l := r3) (by first | rfl | simp only [ml] <;> rfl) fun p14 => ?_
           conv => lhs; whnf
           refine t_cond ?_ ?_
           ·conv => lhs; whnf
            refine t_get (en := eI) (l := r3) (by first | rfl | simp only [ml] <;> rfl) fun p15 => ?_
            conv => lhs; whnf
            exact t_ret (by first | rfl | simp only [ml] <;> rfl)
           ·conv => lhs; whnf
            exact t_none
          ·conv => lhs; whnf
           refine t_get (en := eI) (l := r3) (by first | rfl | simp only [ml] <;> rfl) fun p16 => ?_
           conv => lhs; whnf
           refine t_cond ?_ ?_
           ·conv => lhs; whnf
            refine t_get (en := eI) (l := r3) (by first | rfl | simp only [ml] <;> rfl) fun p17 => ?_
            conv => lhs; whnf
            exact t_ret (by first | rfl | simp only [ml] <;> rfl)
           ·conv => lhs; whnf
            exact t_none
         ·conv => lhs; whnf
          exact t_none
        ·conv => lhs; whnf
         refine t_cond ?_ ?_
         ·conv => lhs; whnf
          refine t_get (en := eI) (l := r3) (by first | rfl | simp only [ml] <;> rfl) fun p18 => ?_
          conv => lhs; whnf
          refine t_cond ?_ ?_
          ·conv => lhs; whnf
           refine t_get (en := eI) (l := r3) (by first | rfl | simp only [ml] <;> rfl) fun p19 => ?_
           conv => lhs; whnf
           exact t_ret (by first | rfl | simp only [ml] <;> rfl)
          ·conv => lhs; whnf
           exact t_none
         ·conv => lhs; whnf
          exact t_none
     ·conv => lhs; whnf
      refine t_call (h_spec_l1Cur_pick _ _ _ a (by first | rfl | simp only [ml] <;> rfl) (Prod.fst (Prod.snd r4)) (Prod.snd (Prod.snd r4)) 3) fun r12 => ?_
      conv => lhs; whnf
      refine t_same ?_ ?_
      ·conv => lhs; whnf
       refine t_cond ?_ ?_
       ·conv => lhs; whnf
        refine t_same ?_ ?_
        ·conv => lhs; whnf
         refine t_get (en := eI) (l := r3) (by first | rfl | simp only [ml] <;> rfl) fun p20 => ?_
         conv => lhs; whnf
         refine t_call (h_spec_l1Cur_pick _ _ _ a (by first | rfl | simp only [ml] <;> rfl) (Prod.fst (Prod.snd r12)) (Prod.snd (Prod.snd r12)) 3) fun r13 => ?_
         conv => lhs; whnf
         refine t_cond ?_ ?_
         ·conv => lhs; whnf
          refine t_get (en := eI) (l := r3) (by first | rfl | simp only [ml] <;> rfl) fun p21 => ?_
          conv => lhs; whnf
          exact t_ret (by first | rfl | simp only [ml] <;> rfl)
         ·conv => lhs; whnf
          exact t_none
        ·conv => lhs; whnf
         refine t_call (h_spec_l1Cur_pick _ _ _ a (by first | rfl | simp only [ml] <;> rfl) (Prod.fst (Prod.snd r12)) (Prod.snd (Prod.snd r12)) 3) fun r14 => ?_
         conv => lhs; whnf
         refine t_same ?_ ?_
         ·conv => lhs; whnf
          refine t_get (en := eI) (l := r3) (by first | rfl | simp only [ml] <;> rfl) fun p22 => ?_
          conv => lhs; whnf
          refine t_cond ?_ ?_
          ·conv => lhs; whnf
           refine t_get (en := eI) (l := r3) (by first | rfl | simp only [ml] <;> rfl) fun p23 => ?_
           conv => lhs; whnf
           exact t_ret (by first | rfl | simp only [ml] <;> rfl)
          ·conv => lhs; whnf
           exact t_none
         ·conv => lhs; whnf
          refine t_get (en := eI) (l := r3) (by first | rfl | simp only [ml] <;> rfl) fun p24 => ?_
          conv => lhs; whnf
          refine t_cond ?_ ?_
          ·conv => lhs; whnf
           refine t_get (en := eI) (l := r3) (by first | rfl | simp only [ml] <;> rfl) fun p25 => ?_
           conv => lhs; whnf
           exact t_ret (by first | rfl | simp only [ml] <;> rfl)
          ·conv => lhs; whnf
           exact t_none
       ·conv => lhs; whnf
        exact t_none
      ·conv => lhs; whnf
       refine t_call (h_spec_l1Cur_pick _ _ _ a (by first | rfl | simp only [ml] <;> rfl) (Prod.fst (Prod.snd r12)) (Prod.snd (Prod.snd r12)) 3) fun r15 => ?_
       conv => lhs; whnf
       refine t_same ?_ ?_
       ·conv => lhs; whnf
        refine t_cond ?_ ?_
        ·conv => lhs; whnf
         refine t_same ?_ ?_
         ·conv => lhs; whnf
          refine t_get (en := eI) (l := r3) (by first | rfl | simp only [ml] <;> rfl) fun p26 => ?_
          conv => lhs; whnf
          refine t_cond ?_ ?_
          ·conv => lhs; whnf
           refine t_get (en := eI) (l := r3) (by first | rfl | simp only [ml] <;> rfl) fun p27 => ?_
           conv => lhs; whnf
           exact t_ret (by first | rfl | simp only [ml] <;> rfl)
          ·conv => lhs; whnf
           exact t_none
         ·conv => lhs; whnf
          refine t_get (en := eI) (l := r3) (by first | rfl | simp only [ml] <;> rfl) fun p28 => ?_
          conv => lhs; whnf
          refine t_cond ?_ ?_
          ·conv => lhs; whnf
           refine t_get (en := eI) (l := r3) (by first | rfl | simp only [ml] <;> rfl) fun p29 => ?_
           conv => lhs; whnf
           exact t_ret (by first | rfl | simp only [ml] <;> rfl)
          ·conv => lhs; whnf
           exact t_none
        ·conv => lhs; whnf
         exact t_none
       ·conv => lhs; whnf
        refine t_cond ?_ ?_
        ·conv => lhs; whnf
         refine t_get (en := eI) (l := r3) (by first | rfl | simp only [ml] <;> rfl) fun p30 => ?_
         conv => lhs; whnf
         refine t_cond ?_ ?_
         ·conv => lhs; whnf
          refine t_get (en := eI) (l := r3) (by first | rfl | simp only [ml] <;> rfl) fun p31 => ?_
          conv => lhs; whnf
          exact t_ret (by first | rfl | simp only [ml] <;> rfl)
         ·conv => lhs; whnf
          exact t_none
        ·conv => lhs; whnf
         exact t_none
    ·conv => lhs; whnf
     refine t_call (h_spec_l1Cur_pick _ _ _ a (by first | rfl | simp only [ml] <;> rfl) (Prod.fst (Prod.snd r4)) (Prod.snd (Prod.snd r4)) 3) fun r16 => ?_
     conv => lhs; whnf
     refine t_same ?_ ?_
     ·conv => lhs; whnf
      refine t_cond ?_ ?_
      ·conv => lhs; whnf
       refine t_same ?_ ?_
       ·conv => lhs; whnf
        refine t_get (en := eI) (l := r3) (by first | rfl | simp only [ml] <;> rfl) fun p32 => ?_
        conv => lhs; whnf
        refine t_call (h_spec_l1Cur_pick _ _ _ a (by first | rfl | simp only [ml] <;> rfl) (Prod.fst (Prod.snd r16)) (Prod.snd (Prod.snd r16)) 3) fun r17 => ?_
        conv => lhs; whnf
        refine t_cond ?_ ?_
        ·conv => lhs; whnf
         refine t_get (en := eI) (l := r3) (by first | rfl | simp only [ml] <;> rfl) fun p33 => ?_
         conv => lhs; whnf
         exact t_ret (by first | rfl | simp only [ml] <;> rfl)
        ·conv => lhs; whnf
         exact t_none
       ·conv => lhs; whnf
        refine t_call (h_spec_l1Cur_pick _ _ _ a (by first | rfl | simp only [ml] <;> rfl) (Prod.fst (Prod.snd r16)) (Prod.snd (Prod.snd r16)) 3) fun r18 => ?_
        conv => lhs; whnf
        refine t_same ?_ ?_
        ·conv => lhs; whnf
         refine t_get (en := eI) (l := r3) (by first | rfl | simp only [ml] <;> rfl) fun p34 => ?_
         conv => lhs; whnf
         refine t_cond ?_ ?_
         ·conv => lhs; whnf
          refine t_get (en := eI) (l := r3) (by first | rfl | simp only [ml] <;> rfl) fun p35 => ?_
          conv => lhs; whnf
          exact t_ret (by first | rfl | simp only [ml] <;> rfl)
         ·conv => lhs; whnf
          exact t_none
        ·conv => lhs; whnf
         refine t_get (en := eI) (l := r3) (by first | rfl | simp only [ml] <;> rfl) fun p36 => ?_
         conv => lhs; whnf
         refine t_cond ?_ ?_
         ·conv => lhs; whnf
          refine t_get (en := eI) (l := r3) (by first | rfl | simp only [ml] <;> rfl) fun p37 => ?_
          conv => lhs; whnf
          exact t_ret (by first | rfl | simp only [ml] <;> rfl)
         ·conv => lhs; whnf
          exact t_none
      ·conv => lhs; whnf
       exact t_none
     ·conv => lhs; whnf
      refine t_call (h_spec_l1Cur_pick _ _ _ a (by first | rfl | simp only [ml] <;> rfl) (Prod.fst (Prod.snd r16)) (Prod.snd (Prod.snd r16)) 3) fun r19 => ?_
      conv => lhs; whnf
      refine t_same ?_ ?_
      ·conv => lhs; whnf
       refine t_cond ?_ ?_
       ·conv => lhs; whnf
        refine t_same ?_ ?_
        ·conv => lhs; whnf
         refine t_get (en := eI) (l := r3) (by first | rfl | simp only [ml] <;> rfl) fun p38 => ?_
         conv => lhs; whnf
         refine t_cond ?_ ?_
         ·conv => lhs; whnf
          refine t_get (en := eI) (l := r3) (by first | rfl | simp only [ml] <;> rfl) fun p39 => ?_
          conv => lhs; whnf
          exact t_ret (by first | rfl | simp only [ml] <;> rfl)
         ·conv => lhs; whnf
          exact t_none
        ·conv => lhs; whnf
         refine t_get (en := eI) (l := r3) (by first | rfl | simp only [ml] <;> rfl) fun p40 => ?_
         conv => lhs; whnf
         refine t_cond ?_ ?_
         ·conv => lhs; whnf
          refine t_get (en := eI) (l := r3) (by first | rfl | simp only [ml] <;> rfl) fun p41 => ?_
          conv => lhs; whnf
          exact t_ret (by first | rfl | simp only [ml] <;> rfl)
         ·conv => lhs; whnf
          exact t_none
       ·conv => lhs; whnf
        exact t_none
      ·conv => lhs; whnf
       refine t_cond ?_ ?_
       ·conv => lhs; whnf
        refine t_get (en := eI) (l := r3) (by first | rfl | simp only [ml] <;> rfl) fun p42 => ?_
        conv => lhs; whnf
        refine t_cond ?_ ?_
        ·conv => lhs; whnf
         refine t_get (en := eI) (l := r3) (by first | rfl | simp only [ml] <;> rfl) fun p43 => ?_
         conv => lhs; whnf
         exact t_ret (by first | rfl | simp only [ml] <;> rfl)
        ·conv => lhs; whnf
         exact t_none
       ·conv => lhs; whnf
        exact t_none
   ·conv => lhs; whnf
    refine t_same ?_ ?_
    ·conv => lhs; whnf
     refine t_same ?_ ?_
     ·conv => lhs; whnf
      refine t_same ?_ ?_
      ·conv => lhs; whnf
       refine t_call (h_spec_l1Cur_pick _ _ _ a (by first | rfl | simp only [ml] <;> rfl) (Prod.fst (Prod.snd r4)) (Prod.snd (Prod.snd r4)) 3) fun r20 => ?_
       conv => lhs; whnf
       refine t_same ?_ ?_
       ·conv => lhs; whnf
        refine t_cond ?_ ?_
        ·conv => lhs; whnf
         refine t_same ?_ ?_
         ·conv => lhs; whnf
          refine t_get (en := eI) (l := r3) (by first | rfl | simp only [ml] <;> rfl) fun p44 => ?_
          conv => lhs; whnf
          refine t_call (h_spec_l1Cur_pick _ _ _ a (by first | rfl | simp only [ml] <;> rfl) (Prod.fst (Prod.snd r20)) (Prod.snd (Prod.snd r20)) 3) fun r21 => ?_
          conv => lhs; whnf
          refine t_cond ?_ ?_
          ·conv => lhs; whnf
           refine t_get (en := eI) (l := r3) (by first | rfl | simp only [ml] <;> rfl) fun p45 => ?_
           conv => lhs; whnf
           exact t_ret (by first | rfl | simp only [ml] <;> rfl)
          ·conv => lhs; whnf
           exact t_none
         ·conv => lhs; whnf
          refine t_same ?_ ?_
          ·conv => lhs; whnf
           refine t_get (en := eI) (l := r3) (by first | rfl | simp only [ml] <;> rfl) fun p46 => ?_
           conv => lhs; whnf
           refine t_call (h_spec_l1Cur_pick _ _ _ a (by first | rfl | simp only [ml] <;> rfl) (Prod.fst (Prod.snd r20)) (Prod.snd (Prod.snd r20)) 3) fun r22 => ?_
           conv => lhs; whnf
           refine t_cond ?_ ?_
           ·conv => lhs; whnf
            refine t_get (en := eI) (l := r3) (by first | rfl | simp only [ml] <;> rfl) fun p47 => ?_
            conv => lhs; whnf
            exact t_ret (by first | rfl | simp only [ml] <;> rfl)
           ·conv => lhs; whnf
            exact t_none
          ·conv => lhs; whnf
           refine t_call (h_spec_l1Cur_pick _ _ _ a (by first | rfl | simp only [ml] <;> rfl) (Prod.fst (Prod.snd r20)) (Prod.snd (Prod.snd r20)) 3) fun r23 => ?_
           conv => lhs; whnf
           refine t_same ?_ ?_
           ·conv => lhs; whnf
            refine t_get (en := eI) (l := r3) (by first | rfl | simp only [ml] <;> rfl) fun p48 => ?_
            conv => lhs; whnf
            refine t_cond ?_ ?_
            ·conv => lhs; whnf
             refine t_get (en := eI) (l := r3) (by first | rfl | simp only [ml] <;> rfl) fun p49 => ?_
             conv => lhs; whnf
             exact t_ret (by first | rfl | simp only [ml] <;> rfl)
            ·conv => lhs; whnf
             exact t_none
           ·conv => lhs; whnf
            refine t_get (en := eI) (l := r3) (by first | rfl | simp only [ml] <;> rfl) fun p50 => ?_
            conv => lhs; whnf
            refine t_cond ?_ ?_
            ·conv => lhs; whnf
             refine t_get (en := eI) (l := r3) (by first | rfl | simp only [ml] <;> rfl) fun p51 => ?_
             conv => lhs; whnf
             exact t_ret (by first | rfl | simp only [ml] <;> rfl)
            ·conv => lhs; whnf
             exact t_none
        ·conv => lhs; whnf
         exact t_none
       ·conv => lhs; whnf
        refine t_same ?_ ?_
        ·conv => lhs; whnf
         refine t_cond ?_ ?_
         ·conv => lhs; whnf
          refine t_same ?_ ?_
          ·conv => lhs; whnf
           refine t_get (en := eI) (l := r3) (by first | rfl | simp only [ml] <;> rfl) fun p52 => ?_
           conv => lhs; whnf
           refine t_call (h_spec_l1Cur_pick _ _ _ a (by first | rfl | simp only [ml] <;> rfl) (Prod.fst (Prod.snd r20)) (Prod.snd (Prod.snd r20)) 3) fun r24 => ?_
           conv => lhs; whnf
           refine t_cond ?_ ?_
           ·conv => lhs; whnf
            refine t_get (en := eI) (l := r3) (by first | rfl | simp only [ml] <;> rfl) fun p53 => ?_
            conv => lhs; whnf
            exact t_ret (by first | rfl | simp only [ml] <;> rfl)
           ·conv => lhs; whnf
            exact t_none
          ·conv => lhs; whnf
           refine t_call (h_spec_l1Cur_pick _ _ _ a (by first | rfl | simp only [ml] <;> rfl) (Prod.fst (Prod.snd r20)) (Prod.snd (Prod.snd r20)) 3) fun r25 => ?_
           conv => lhs; whnf
           refine t_same ?_ ?_
           ·conv => lhs; whnf
            refine t_get (en := eI) (l := r3) (by first | rfl | simp only [ml] <;> rfl) fun p54 => ?_
            conv => lhs; whnf
            refine t_cond ?_ ?_
            ·conv => lhs; whnf
             refine t_get (en := eI) (l := r3) (by first | rfl | simp only [ml] <;> rfl) fun p55 => ?_
             conv => lhs; whnf
             exact t_ret (by first | rfl | simp only [ml] <;> rfl)
            ·conv => lhs; whnf
             exact t_none
           ·conv => lhs; whnf
            refine t_get (en := eI) (l := r3) (by first | rfl | simp only [ml] <;> rfl) fun p56 => ?_
            conv => lhs; whnf
            refine t_cond ?_ ?_
            ·conv => lhs; whnf
             refine t_get (en := eI) (l := r3) (by first | rfl | simp only [ml] <;> rfl) fun p57 => ?_
             conv => lhs; whnf
             exact t_ret (by first | rfl | simp only [ml] <;> rfl)
            ·conv => lhs; whnf
             exact t_none
         ·conv => lhs; whnf
          exact t_none
        ·conv => lhs; whnf
         refine t_call (h_spec_l1Cur_pick _ _ _ a (by first | rfl | simp only [ml] <;> rfl) (Prod.fst (Prod.snd r20)) (Prod.snd (Prod.snd r20)) 3) fun r26 => ?_
         conv => lhs; whnf
         refine t_same ?_ ?_
         ·conv => lhs; whnf
          refine t_cond ?_ ?_
          ·conv => lhs; whnf
           refine t_same ?_ ?_
           ·conv => lhs; whnf
            refine t_get (en := eI) (l := r3) (by first | rfl | simp only [ml] <;> rfl) fun p58 => ?_
            conv => lhs; whnf
            refine t_cond ?_ ?_
            ·conv => lhs; whnf
             refine t_get (en := eI) (l := r3) (by first | rfl | simp only [ml] <;> rfl) fun p59 => ?_
             conv => lhs; whnf
             exact t_ret (by first | rfl | simp only [ml] <;> rfl)
            ·conv => lhs; whnf
             exact t_none
           ·conv => lhs; whnf
            refine t_get (en := eI) (l := r3) (by first | rfl | simp only [ml] <;> rfl) fun p60 => ?_
            conv => lhs; whnf
            refine t_cond ?_ ?_
            ·conv => lhs; whnf
             refine t_get (en := eI) (l := r3) (by first | rfl | simp only [ml] <;> rfl) fun p61 => ?_
             conv => lhs; whnf
             exact t_ret (by first | rfl | simp only [ml] <;> rfl)
            ·conv => lhs; whnf
             exact t_none
          ·conv => lhs; whnf
           exact t_none
         ·conv => lhs; whnf
          refine t_cond ?_ ?_
          ·conv => lhs; whnf
           refine t_get (en := eI) (l := r3) (by first | rfl | simp only [ml] <;> rfl) fun p62 => ?_
           conv => lhs; whnf
           refine t_cond ?_ ?_
           ·conv => lhs; whnf
            refine t_get (en := eI) (l := r3) (by first | rfl | simp only [ml] <;> rfl) fun p63 => ?_
            conv => lhs; whnf
            exact t_ret (by first | rfl | simp only [ml] <;> rfl)
           ·conv => lhs; whnf
            exact t_none
          ·conv => lhs; whnf
           exact t_none
      ·conv => lhs; whnf
       refine t_call (h_spec_l1Cur_pick _ _ _ a (by first | rfl | simp only [ml] <;> rfl) (Prod.fst (Prod.snd r4)) (Prod.snd (Prod.snd r4)) 3) fun r27 => ?_
       conv => lhs; whnf
       refine t_same ?_ ?_
       ·conv => lhs; whnf
        refine t_cond ?_ ?_
        ·conv => lhs; whnf
         refine t_same ?_ ?_
         ·conv => lhs; whnf
          refine t_get (en := eI) (l := r3) (by first | rfl | simp only [ml] <;> rfl) fun p64 => ?_
          conv => lhs; whnf
          refine t_call (h_spec_l1Cur_pick _ _ _ a (by first | rfl | simp only [ml] <;> rfl) (Prod.fst (Prod.snd r27)) (Prod.snd (Prod.snd r27)) 3) fun r28 => ?_
          conv => lhs; whnf
          refine t_cond ?_ ?_
          ·conv => lhs; whnf
           refine t_get (en := eI) (l := r3) (by first | rfl | simp only [ml] <;> rfl) fun p65 => ?_
           conv => lhs; whnf
           exact t_ret (by first | rfl | simp only [ml] <;> rfl)
          ·conv => lhs; whnf
           exact t_none
         ·conv => lhs; whnf
          refine t_call (h_spec_l1Cur_pick _ _ _ a (by first | rfl | simp only [ml] <;> rfl) (Prod.fst (Prod.snd r27)) (Prod.snd (Prod.snd r27)) 3) fun r29 => ?_
          conv => lhs; whnf
          refine t_same ?_ ?_
          ·conv => lhs; whnf
           refine t_get (en := eI) (l := r3) (by first | rfl | simp only [ml] <;> rfl) fun p66 => ?_
           conv => lhs; whnf
           refine t_cond ?_ ?_
           ·conv => lhs; whnf
            refine t_get (en := eI) (l := r3) (by first | rfl | simp only [ml] <;> rfl) fun p67 => ?_
            conv => lhs; whnf
            exact t_ret (by first | rfl | simp only [ml] <;> rfl)
           ·conv => lhs; whnf
            exact t_none
          ·conv => lhs; whnf
           refine t_get (en := eI) (l := r3) (by first | rfl | simp only [ml] <;> rfl) fun p68 => ?_
           conv => lhs; whnf
           refine t_cond ?_ ?_
           ·conv => lhs; whnf
            refine t_get (en := eI) (l := r3) (by first | rfl | simp only [ml] <;> rfl) fun p69 => ?_
            conv => lhs; whnf
            exact t_ret (by first | rfl | simp only [ml] <;> rfl)
           ·conv => lhs; whnf
            exact t_none
        ·conv => lhs; whnf
         exact t_none
       ·conv => lhs; whnf
        refine t_call (h_spec_l1Cur_pick _ _ _ a (by first | rfl | simp only [ml] <;> rfl) (Prod.fst (Prod.snd r27)) (Prod.snd (Prod.snd r27)) 3) fun r30 => ?_
        conv => lhs; whnf
        refine t_same ?_ ?_
        ·conv => lhs; whnf
         refine t_cond ?_ ?_
         ·conv => lhs; whnf
          refine t_same ?_ ?_
          ·conv => lhs; whnf
           refine t_get (en := eI) (l := r3) (by first | rfl | simp only [ml] <;> rfl) fun p70 => ?_
           conv => lhs; whnf
           refine t_cond ?_ ?_
           ·conv => lhs; whnf
            refine t_get (en := eI) (l := r3) (by first | rfl | simp only [ml] <;> rfl) fun p71 => ?_
            conv => lhs; whnf
            exact t_ret (by first | rfl | simp only [ml] <;> rfl)
           ·conv => lhs; whnf
            exact t_none
          ·conv => lhs; whnf
           refine t_get (en := eI) (l := r3) (by first | rfl | simp only [ml] <;> rfl) fun p72 => ?_
           conv => lhs; whnf
           refine t_cond ?_ ?_
           ·conv => lhs; whnf
            refine t_get (en := eI) (l := r3) (by first | rfl | simp only [ml] <;> rfl) fun p73 => ?_
            conv => lhs; whnf
            exact t_ret (by first | rfl | simp only [ml] <;> rfl)
           ·conv => lhs; whnf
            exact t_none
         ·conv => lhs; whnf
          exact t_none
        ·conv => lhs; whnf
         refine t_cond ?_ ?_
         ·conv => lhs; whnf
          refine t_get (en := eI) (l := r3) (by first | rfl | simp only [ml] <;> rfl) fun p74 => ?_
          conv => lhs; whnf
          refine t_cond ?_ ?_
          ·conv => lhs; whnf
           refine t_get (en := eI) (l := r3) (by first | rfl | simp only [ml] <;> rfl) fun p75 => ?_
           conv => lhs; whnf
           exact t_ret (by first | rfl | simp only [ml] <;> rfl)
          ·conv => lhs; whnf
           exact t_none
         ·conv => lhs; whnf
          exact t_none
     ·conv => lhs; whnf
      refine t_same ?_ ?_
      ·conv => lhs; whnf
       refine t_call (h_spec_l1Cur_pick _ _ _ a (by first | rfl | simp only [ml] <;> rfl) (Prod.fst (Prod.snd r4)) (Prod.snd (Prod.snd r4)) 3) fun r31 => ?_
       conv => lhs; whnf
       refine t_same ?_ ?_
       ·conv => lhs; whnf
        refine t_same ?_ ?_
        ·conv => lhs; whnf
         refine t_cond ?_ ?_
         ·conv => lhs; whnf
          refine t_same ?_ ?_
          ·conv => lhs; whnf
           refine t_get (en := eI) (l := r3) (by first | rfl | simp only [ml] <;> rfl) fun p76 => ?_
           conv => lhs; whnf
           refine t_call (h_spec_l1Cur_pick _ _ _ a (by first | rfl | simp only [ml] <;> rfl) (Prod.fst (Prod.snd r31)) (Prod.snd (Prod.snd r31)) 3) fun r32 => ?_
           conv => lhs; whnf
           refine t_cond ?_ ?_
           ·conv => lhs; whnf
            refine t_get (en := eI) (l := r3) (by first | rfl | simp only [ml] <;> rfl) fun p77 => ?_
            conv => lhs; whnf
            exact t_ret (by first | rfl | simp only [ml] <;> rfl)
           ·conv => lhs; whnf
            exact t_none
          ·conv => lhs; whnf
           refine t_same ?_ ?_
           ·conv => lhs; whnf
            refine t_get (en := eI) (l := r3) (by first | rfl | simp only [ml] <;> rfl) fun p78 => ?_
            conv => lhs; whnf
            refine t_call (h_spec_l1Cur_pick _ _ _ a (by first | rfl | simp only [ml] <;> rfl) (Prod.fst (Prod.snd r31)) (Prod.snd (Prod.snd r31)) 3) fun r33 => ?_
            conv => lhs; whnf
            refine t_cond ?_ ?_
            ·conv => lhs; whnf
             refine t_get (en := eI) (l := r3) (by first | rfl | simp only [ml] <;> rfl) fun p79 => ?_
             conv => lhs; whnf
             exact t_ret (by first | rfl | simp only [ml] <;> rfl)
            ·conv => lhs; whnf
             exact t_none
           ·conv => lhs; whnf
            refine t_call (h_spec_l1Cur_pick _ _ _ a (by first | rfl | simp only [ml] <;> rfl) (Prod.fst (Prod.snd r31)) (Prod.snd (Prod.snd r31)) 3) fun r34 => ?_
            conv => lhs; whnf
            refine t_same ?_ ?_
            ·conv => lhs; whnf
             refine t_get (en := eI) (l := r3) (by first | rfl | simp only [ml] <;> rfl) fun p80 => ?_
             conv => lhs; whnf
             refine t_cond ?_ ?_
             ·conv => lhs; whnf
              refine t_get (en := eI) (l := r3) (by first | rfl | simp only [ml] <;> rfl) fun p81 => ?_
              conv => lhs; whnf
              exact t_ret (by first | rfl | simp only [ml] <;> rfl)
             ·conv => lhs; whnf
              exact t_none
            ·conv => lhs; whnf
             refine t_get (en := eI) (l := r3) (by first | rfl | simp only [ml] <;> rfl) fun p82 => ?_
             conv => lhs; whnf
             refine t_cond ?_ ?_
             ·conv => lhs; whnf
              refine t_get (en := eI) (l := r3) (by first | rfl | simp only [ml] <;> rfl) fun p83 => ?_
              conv => lhs; whnf
              exact t_ret (by first | rfl | simp only [ml] <;> rfl)
             ·conv => lhs; whnf
              exact t_none
         ·conv => lhs; whnf
          exact t_none
        ·conv => lhs; whnf
         refine t_same ?_ ?_
         ·conv => lhs; whnf
          refine t_cond ?_ ?_
          ·conv => lhs; whnf
           refine t_same ?_ ?_
           ·conv => lhs; whnf
            refine t_get (en := eI) (l := r3) (by first | rfl | simp only [ml] <;> rfl) fun p84 => ?_
            conv => lhs; whnf
            refine t_call (h_spec_l1Cur_pick _ _ _ a (by first | rfl | simp only [ml] <;> rfl) (Prod.fst (Prod.snd r31)) (Prod.snd (Prod.snd r31)) 3) fun r35 => ?_
            conv => lhs; whnf
            refine t_cond ?_ ?_
            ·conv => lhs; whnf
             refine t_get (en := eI) (l := r3) (by first | rfl | simp only [ml] <;> rfl) fun p85 => ?_
             conv => lhs; whnf
             exact t_ret (by first | rfl | simp only [ml] <;> rfl)
            ·conv => lhs; whnf
             exact t_none
           ·conv => lhs; whnf
            refine t_call (h_spec_l1Cur_pick _ _ _ a (by first | rfl | simp only [ml] <;> rfl) (Prod.fst (Prod.snd r31)) (Prod.snd (Prod.snd r31)) 3) fun r36 => ?_
            conv => lhs; whnf
            refine t_same ?_ ?_
            ·conv => lhs; whnf
             refine t_get (en := eI) (l := r3) (by first | rfl | simp only [ml] <;> rfl) fun p86 => ?_
             conv => lhs; whnf
             refine t_cond ?_ ?_
             ·conv => lhs; whnf
              refine t_get (en := eI) (l := r3) (by first | rfl | simp only [ml] <;> rfl) fun p87 => ?_
              conv => lhs; whnf
              exact t_ret (by first | rfl | simp only [ml] <;> rfl)
             ·conv => lhs; whnf
              exact t_none
            ·conv => lhs; whnf
             refine t_get (en := eI) (l := r3) (by first | rfl | simp only [ml] <;> rfl) fun p88 => ?_
             conv => lhs; whnf
             refine t_cond ?_ ?_
             ·conv => lhs; whnf
              refine t_get (en := eI) (l := r3) (by first | rfl | simp only [ml] <;> rfl) fun p89 => ?_
              conv => lhs; whnf
              exact t_ret (by first | rfl | simp only [ml] <;> rfl)
             ·conv => lhs; whnf
              exact t_none
          ·conv => lhs; whnf
           exact t_none
         ·conv => lhs; whnf
          refine t_call (h_spec_l1Cur_pick _ _ _ a (by first | rfl | simp only [ml] <;> rfl) (Prod.fst (Prod.snd r31)) (Prod.snd (Prod.snd r31)) 3) fun r37 => ?_
          conv => lhs; whnf
          refine t_same ?_ ?_
          ·conv => lhs; whnf
           refine t_cond ?_ ?_
           ·conv => lhs; whnf
            refine t_same ?_ ?_
            ·conv => lhs; whnf
             refine t_get (en := eI) (l := r3) (by first | rfl | simp only [ml] <;> rfl) fun p90 => ?_
             conv => lhs; whnf
             refine t_cond ?_ ?_
             ·conv => lhs; whnf
              refine t_get (en := eI) (l := r3) (by first | rfl | simp only [ml] <;> rfl) fun p91 => ?_
              conv => lhs; whnf
              exact t_ret (by first | rfl | simp only [ml] <;> rfl)
             ·conv => lhs; whnf
              exact t_none
            ·conv => lhs; whnf
             refine t_get (en := eI) (l := r3) (by first | rfl | simp only [ml] <;> rfl) fun p92 => ?_
             conv => lhs; whnf
             refine t_cond ?_ ?_
             ·conv => lhs; whnf
              refine t_get (en := eI) (l := r3) (by first | rfl | simp only [ml] <;> rfl) fun p93 => ?_
              conv => lhs; whnf
              exact t_ret (by first | rfl | simp only [ml] <;> rfl)
             ·conv => lhs; whnf
              exact t_none
           ·conv => lhs; whnf
            exact t_none
          ·conv => lhs; whnf
           refine t_cond ?_ ?_
           ·conv => lhs; whnf
            refine t_get (en := eI) (l := r3) (by first | rfl | simp only [ml] <;> rfl) fun p94 => ?_
            conv => lhs; whnf
            refine t_cond ?_ ?_
            ·conv => lhs; whnf
             refine t_get (en := eI) (l := r3) (by first | rfl | simp only [ml] <;> rfl) fun p95 => ?_
             conv => lhs; whnf
             exact t_ret (by first | rfl | simp only [ml] <;> rfl)
            ·conv => lhs; whnf
             exact t_none
           ·conv => lhs; whnf
            exact t_none
       ·conv => lhs; whnf
        refine t_same ?_ ?_
        ·conv => lhs; whnf
         refine t_same ?_ ?_
         ·conv => lhs; whnf
          refine t_cond ?_ ?_
          ·conv => lhs; whnf
           refine t_same ?_ ?_
           ·conv => lhs; whnf
            refine t_get (en := eI) (l := r3) (by first | rfl | simp only [ml] <;> rfl) fun p96 => ?_
            conv => lhs; whnf
            refine t_call (h_spec_l1Cur_pick _ _ _ a (by first | rfl | simp only [ml] <;> rfl) (Prod.fst (Prod.snd r31)) (Prod.snd (Prod.snd r31)) 3) fun r38 => ?_
            conv => lhs; whnf
            refine t_cond ?_ ?_
            ·conv => lhs; whnf
             refine t_get (en := eI) (l := r3) (by first | rfl | simp only [ml] <;> rfl) fun p97 => ?_
             conv => lhs; whnf
             exact t_ret (by first | rfl | simp only [ml] <;> rfl)
            ·conv => lhs; whnf
             exact t_none
           ·conv => lhs; whnf
            refine t_call (h_spec_l1Cur_pick _ _ _ a (by first | rfl | simp only [ml] <;> rfl) (Prod.fst (Prod.snd r31)) (Prod.snd (Prod.snd r31)) 3) fun r39 => ?_
            conv => lhs; whnf
            refine t_same ?_ ?_
            ·conv => lhs; whnf
             refine t_get (en := eI) (l := r3) (by first | rfl | simp only [ml] <;> rfl) fun p98 => ?_
             conv => lhs; whnf
             refine t_cond ?_ ?_
             ·conv => lhs; whnf
              refine t_get (en := eI) (l := r3) (by first | rfl | simp only [ml] <;> rfl) fun p99 => ?_
              conv => lhs; whnf
              exact t_ret (by first | rfl | simp only [ml] <;> rfl)
             ·conv => lhs; whnf
              exact t_none
            ·conv => lhs; whnf
             refine t_get (en := eI) (l := r3) (by first | rfl | simp only [ml] <;> rfl) fun p100 => ?_
             conv => lhs; whnf
             refine t_cond ?_ ?_
             ·conv => lhs; whnf
              refine t_get (en := eI) (l := r3) (by first | rfl | simp only [ml] <;> rfl) fun p101 => ?_
              conv => lhs; whnf
              exact t_ret (by first | rfl | simp only [ml] <;> rfl)
             ·conv => lhs; whnf
              exact t_none
          ·conv => lhs; whnf
           exact t_none
         ·conv => lhs; whnf
          refine t_call (h_spec_l1Cur_pick _ _ _ a (by first | rfl | simp only [ml] <;> rfl) (Prod.fst (Prod.snd r31)) (Prod.snd (Prod.snd r31)) 3) fun r40 => ?_
          conv => lhs; whnf
          refine t_same ?_ ?_
          ·conv => lhs; whnf
           refine t_cond ?_ ?_
           ·conv => lhs; whnf
            refine t_same ?_ ?_
            ·conv => lhs; whnf
             refine t_get (en := eI) (l := r3) (by first | rfl | simp only [ml] <;> rfl) fun p102 => ?_
             conv => lhs; whnf
             refine t_cond ?_ ?_
             ·conv => lhs; whnf
              refine t_get (en := eI) (l := r3) (by first | rfl | simp only [ml] <;> rfl) fun p103 => ?_
              conv => lhs; whnf
              exact t_ret (by first | rfl | simp only [ml] <;> rfl)
             ·conv => lhs; whnf
              exact t_none
            ·conv => lhs; whnf
             refine t_get (en := eI) (l := r3) (by first | rfl | simp only [ml] <;> rfl) fun p104 => ?_
             conv => lhs; whnf
             refine t_cond ?_ ?_
             ·conv => lhs; whnf
              refine t_get (en := eI) (l := r3) (by first | rfl | simp only [ml] <;> rfl) fun p105 => ?_
              conv => lhs; whnf
              exact t_ret (by first | rfl | simp only [ml] <;> rfl)
             ·conv => lhs; whnf
              exact t_none
           ·conv => lhs; whnf
            exact t_none
          ·conv => lhs; whnf
           refine t_cond ?_ ?_
           ·conv => lhs; whnf
            refine t_get (en := eI) (l := r3) (by first | rfl | simp only [ml] <;> rfl) fun p106 => ?_
            conv => lhs; whnf
            refine t_cond ?_ ?_
            ·conv => lhs; whnf
             refine t_get (en := eI) (l := r3) (by first | rfl | simp only [ml] <;> rfl) fun p107 => ?_
             conv => lhs; whnf
             exact t_ret (by first | rfl | simp only [ml] <;> rfl)
            ·conv => lhs; whnf
             exact t_none
           ·conv => lhs; whnf
            exact t_none
        ·conv => lhs; whnf
         refine t_call (h_spec_l1Cur_pick _ _ _ a (by first | rfl | simp only [ml] <;> rfl) (Prod.fst (Prod.snd r31)) (Prod.snd (Prod.snd r31)) 3) fun r41 => ?_
         conv => lhs; whnf
         refine t_same ?_ ?_
         ·conv => lhs; whnf
          refine t_same ?_ ?_
          ·conv => lhs; whnf
           refine t_cond ?_ ?_
           ·conv => lhs; whnf
            refine t_same ?_ ?_
            ·conv => lhs; whnf
             refine t_get (en := eI) (l := r3) (by first | rfl | simp only [ml] <;> rfl) fun p108 => ?_
             conv => lhs; whnf
             refine t_cond ?_ ?_
             ·conv => lhs; whnf
              refine t_get (en := eI) (l := r3) (by first | rfl | simp only [ml] <;> rfl) fun p109 => ?_
              conv => lhs; whnf
              exact t_ret (by first | rfl | simp only [ml] <;> rfl)
             ·conv => lhs; whnf
              exact t_none
            ·conv => lhs; whnf
             refine t_get (en := eI) (l := r3) (by first | rfl | simp only [ml] <;> rfl) fun p110 => ?_
             conv => lhs; whnf
             refine t_cond ?_ ?_
             ·conv => lhs; whnf
              refine t_get (en := eI) (l := r3) (by first | rfl | simp only [ml] <;> rfl) fun p111 => ?_
              conv => lhs; whnf
              exact t_ret (by first | rfl | simp only [ml] <;> rfl)
             ·conv => lhs; whnf
              exact t_none
           ·conv => lhs; whnf
            exact t_none
          ·conv => lhs; whnf
           refine t_cond ?_ ?_
           ·conv => lhs; whnf
            refine t_get (en := eI) (l := r3) (by first | rfl | simp only [ml] <;> rfl) fun p112 => ?_
            conv => lhs; whnf
            refine t_cond ?_ ?_
            ·conv => lhs; whnf
             refine t_get (en := eI) (l := r3) (by first | rfl | simp only [ml] <;> rfl) fun p113 => ?_
             conv => lhs; whnf
             exact t_ret (by first | rfl | simp only [ml] <;> rfl)
            ·conv => lhs; whnf
             exact t_none
           ·conv => lhs; whnf
            exact t_none
         ·conv => lhs; whnf
          refine t_cond ?_ ?_
          ·conv => lhs; whnf
           refine t_get (en := eI) (l := r3) (by first | rfl | simp only [ml] <;> rfl) fun p114 => ?_
           conv => lhs; whnf
           refine t_cond ?_ ?_
           ·conv => lhs; whnf
            refine t_get (en := eI) (l := r3) (by first | rfl | simp only [ml] <;> rfl) fun p115 => ?_
            conv => lhs; whnf
            exact t_ret (by first | rfl | simp only [ml] <;> rfl)
           ·conv => lhs; whnf
            exact t_none
          ·conv => lhs; whnf
           exact t_none
      ·conv => lhs; whnf
       refine t_same ?_ ?_
       ·conv => lhs; whnf
        refine t_call (h_spec_l1Cur_pick _ _ _ a (by first | rfl | simp only [ml] <;> rfl) (Prod.fst (Prod.snd r4)) (Prod.snd (Prod.snd r4)) 3) fun r42 => ?_
        conv => lhs; whnf
        refine t_same ?_ ?_
        ·conv => lhs; whnf
         refine t_cond ?_ ?_
         ·conv => lhs; whnf
          refine t_same ?_ ?_
          ·conv => lhs; whnf
           refine t_get (en := eI) (l := r3) (by first | rfl | simp only [ml] <;> rfl) fun p116 => ?_
           conv => lhs; whnf
           refine t_call (h_spec_l1Cur_pick _ _ _ a (by first | rfl | simp only [ml] <;> rfl) (Prod.fst (Prod.snd r42)) (Prod.snd (Prod.snd r42)) 3) fun r43 => ?_
           conv => lhs; whnf
           refine t_cond ?_ ?_
           ·conv => lhs; whnf
            refine t_get (en := eI) (l := r3) (by first | rfl | simp only [ml] <;> rfl) fun p117 => ?_
            conv => lhs; whnf
            exact t_ret (by first | rfl | simp only [ml] <;> rfl)
           ·conv => lhs; whnf
            exact t_none
          ·conv => lhs; whnf
           refine t_call (h_spec_l1Cur_pick _ _ _ a (by first | rfl | simp only [ml] <;> rfl) (Prod.fst (Prod.snd r42)) (Prod.snd (Prod.snd r42)) 3) fun r44 => ?_
           conv => lhs; whnf
           refine t_same ?_ ?_
           ·conv => lhs; whnf
            refine t_get (en := eI) (l := r3) (by first | rfl | simp only [ml] <;> rfl) fun p118 => ?_
            conv => lhs; whnf
            refine t_cond ?_ ?_
            ·conv => lhs; whnf
             refine t_get (en := eI) (l := r3) (by first | rfl | simp only [ml] <;> rfl) fun p119 => ?_
             conv => lhs; whnf
             exact t_ret (by first | rfl | simp only [ml] <;> rfl)
            ·conv => lhs; whnf
             exact t_none
           ·conv => lhs; whnf
            refine t_get (en := eI) (l := r3) (by first | rfl | simp only [ml] <;> rfl) fun p120 => ?_
            conv => lhs; whnf
            refine t_cond ?_ ?_
            ·conv => lhs; whnf
             refine t_get (en := eI) (l := r3) (by first | rfl | simp only [ml] <;> rfl) fun p121 => ?_
             conv => lhs; whnf
             exact t_ret (by first | rfl | simp only [ml] <;> rfl)
            ·conv => lhs; whnf
             exact t_none
         ·conv => lhs; whnf
          exact t_none
        ·conv => lhs; whnf
         refine t_call (h_spec_l1Cur_pick _ _ _ a (by first | rfl | simp only [ml] <;> rfl) (Prod.fst (Prod.snd r42)) (Prod.snd (Prod.snd r42)) 3) fun r45 => ?_
         conv => lhs; whnf
         refine t_same ?_ ?_
         ·conv => lhs; whnf
          refine t_cond ?_ ?_
          ·conv => lhs; whnf
           refine t_same ?_ ?_
           ·conv => lhs; whnf
            refine t_get (en := eI) (l := r3) (by first | rfl | simp only [ml] <;> rfl) fun p122 => ?_
            conv => lhs; whnf
            refine t_cond ?_ ?_
            ·conv => lhs; whnf
             refine t_get (en := eI) (l := r3) (by first | rfl | simp only [ml] <;> rfl) fun p123 => ?_
             conv => lhs; whnf
             exact t_ret (by first | rfl | simp only [ml] <;> rfl)
            ·conv => lhs; whnf
             exact t_none
           ·conv => lhs; whnf
            refine t_get (en := eI) (l := r3) (by first | rfl | simp only [ml] <;> rfl) fun p124 => ?_
            conv => lhs; whnf
            refine t_cond ?_ ?_
            ·conv => lhs; whnf
             refine t_get (en := eI) (l := r3) (by first | rfl | simp only [ml] <;> rfl) fun p125 => ?_
             conv => lhs; whnf
             exact t_ret (by first | rfl | simp only [ml] <;> rfl)
            ·conv => lhs; whnf
             exact t_none
          ·conv => lhs; whnf
           exact t_none
         ·conv => lhs; whnf
          refine t_cond ?_ ?_
          ·conv => lhs; whnf
           refine t_get (en := eI) (l := r3) (by first | rfl | simp only [ml] <;> rfl) fun p126 => ?_
           conv => lhs; whnf
           refine t_cond ?_ ?_
           ·conv => lhs; whnf
            refine t_get (en := eI) (l := r3) (by first | rfl | simp only [ml] <;> rfl) fun p127 => ?_
            conv => lhs; whnf
            exact t_ret (by first | rfl | simp only [ml] <;> rfl)
           ·conv => lhs; whnf
            exact t_none
          ·conv => lhs; whnf
           exact t_none
       ·conv => lhs; whnf
        refine t_call (h_spec_l1Cur_pick _ _ _ a (by first | rfl | simp only [ml] <;> rfl) (Prod.fst (Prod.snd r4)) (Prod.snd (Prod.snd r4)) 3) fun r46 => ?_
        conv => lhs; whnf
        refine t_same ?_ ?_
        ·conv => lhs; whnf
         refine t_same ?_ ?_
         ·conv => lhs; whnf
          refine t_cond ?_ ?_
          ·conv => lhs; whnf
           refine t_same ?_ ?_
           ·conv => lhs; whnf
            refine t_get (en := eI) (l := r3) (by first | rfl | simp only [ml] <;> rfl) fun p128 => ?_
            conv => lhs; whnf
            refine t_call (h_spec_l1Cur_pick _ _ _ a (by first | rfl | simp only [ml] <;> rfl) (Prod.fst (Prod.snd r46)) (Prod.snd (Prod.snd r46)) 3) fun r47 => ?_
            conv => lhs; whnf
            refine t_cond ?_ ?_
            ·conv => lhs; whnf
             refine t_get (en := eI) (l := r3) (by first | rfl | simp only [ml] <;> rfl) fun p129 => ?_
             conv => lhs; whnf
             exact t_ret (by first | rfl | simp only [ml] <;> rfl)
            ·conv => lhs; whnf
             exact t_none
           ·conv => lhs; whnf
            refine t_call (h_spec_l1Cur_pick _ _ _ a (by first | rfl | simp only [ml] <;> rfl) (Prod.fst (Prod.snd r46)) (Prod.snd (Prod.snd r46)) 3) fun r48 => ?_
            conv => lhs; whnf
            refine t_same ?_ ?_
            ·conv => lhs; whnf
             refine t_get (en := eI) (l := r3) (by first | rfl | simp only [ml] <;> rfl) fun p130 => ?_
             conv => lhs; whnf
             refine t_cond ?_ ?_
             ·conv => lhs; whnf
              refine t_get (en := eI) (l := r3) (by first | rfl | simp only [ml] <;> rfl) fun p131 => ?_
              conv => lhs; whnf
              exact t_ret (by first | rfl | simp only [ml] <;> rfl)
             ·conv => lhs; whnf
              exact t_none
            ·conv => lhs; whnf
             refine t_get (en := eI) (l := r3) (by first | rfl | simp only [ml] <;> rfl) fun p132 => ?_
             conv => lhs; whnf
             refine t_cond ?_ ?_
             ·conv => lhs; whnf
              refine t_get (en := eI) (l := r3) (by first | rfl | simp only [ml] <;> rfl) fun p133 => ?_
              conv => lhs; whnf
              exact t_ret (by first | rfl | simp only [ml] <;> rfl)
             ·conv => lhs; whnf
              exact t_none
          ·conv => lhs; whnf
           exact t_none
         ·conv => lhs; whnf
          refine t_call (h_spec_l1Cur_pick _ _ _ a (by first | rfl | simp only [ml] <;> rfl) (Prod.fst (Prod.snd r46)) (Prod.snd (Prod.snd r46)) 3) fun r49 => ?_
          conv => lhs; whnf
          refine t_same ?_ ?_
          ·conv => lhs; whnf
           refine t_cond ?_ ?_
           ·conv => lhs; whnf
            refine t_same ?_ ?_
            ·conv => lhs; whnf
             refine t_get (en := eI) (l := r3) (by first | rfl | simp only [ml] <;> rfl) fun p134 => ?_
             conv => lhs; whnf
             refine t_cond ?_ ?_
             ·conv => lhs; whnf
              refine t_get (en := eI) (l := r3) (by first | rfl | simp only [ml] <;> rfl) fun p135 => ?_
              conv => lhs; whnf
              exact t_ret (by first | rfl | simp only [ml] <;> rfl)
             ·conv => lhs; whnf
              exact t_none
            ·conv => lhs; whnf
             refine t_get (en := eI) (l := r3) (by first | rfl | simp only [ml] <;> rfl) fun p136 => ?_
             conv => lhs; whnf
             refine t_cond ?_ ?_
             ·conv => lhs; whnf
              refine t_get (en := eI) (l := r3) (by first | rfl | simp only [ml] <;> rfl) fun p137 => ?_
              conv => lhs; whnf
              exact t_ret (by first | rfl | simp only [ml] <;> rfl)
             ·conv => lhs; whnf
              exact t_none
           ·conv => lhs; whnf
            exact t_none
          ·conv => lhs; whnf
           refine t_cond ?_ ?_
           ·conv => lhs; whnf
            refine t_get (en := eI) (l := r3) (by first | rfl | simp only [ml] <;> rfl) fun p138 => ?_
            conv => lhs; whnf
            refine t_cond ?_ ?_
            ·conv => lhs; whnf
             refine t_get (en := eI) (l := r3) (by first | rfl | simp only [ml] <;> rfl) fun p139 => ?_
             conv => lhs; whnf
             exact t_ret (by first | rfl | simp only [ml] <;> rfl)
            ·conv => lhs; whnf
             exact t_none
           ·conv => lhs; whnf
            exact t_none
        ·conv => lhs; whnf
         refine t_call (h_spec_l1Cur_pick _ _ _ a (by first | rfl | simp only [ml] <;> rfl) (Prod.fst (Prod.snd r46)) (Prod.snd (Prod.snd r46)) 3) fun r50 => ?_
         conv => lhs; whnf
         refine t_same ?_ ?_
         ·conv => lhs; whnf
          refine t_same ?_ ?_
          ·conv => lhs; whnf
           refine t_cond ?_ ?_
           ·conv => lhs; whnf
            refine t_same ?_ ?_
            ·conv => lhs; whnf
             refine t_get (en := eI) (l := r3) (by first | rfl | simp only [ml] <;> rfl) fun p140 => ?_
             conv => lhs; whnf
             refine t_cond ?_ ?_
             ·conv => lhs; whnf
              refine t_get (en := eI) (l := r3) (by first | rfl | simp only [ml] <;> rfl) fun p141 => ?_
              conv => lhs; whnf
              exact t_ret (by first | rfl | simp only [ml] <;> rfl)
             ·conv => lhs; whnf
              exact t_none
            ·conv => lhs; whnf
             refine t_get (en := eI) (l := r3) (by first | rfl | simp only [ml] <;> rfl) fun p142 => ?_
             conv => lhs; whnf
             refine t_cond ?_ ?_
             ·conv => lhs; whnf
              refine t_get (en := eI) (l := r3) (by first | rfl | simp only [ml] <;> rfl) fun p143 => ?_
              conv => lhs; whnf
              exact t_ret (by first | rfl | simp only [ml] <;> rfl)
             ·conv => lhs; whnf
              exact t_none
           ·conv => lhs; whnf
            exact t_none
          ·conv => lhs; whnf
           refine t_cond ?_ ?_
           ·conv => lhs; whnf
            refine t_get (en := eI) (l := r3) (by first | rfl | simp only [ml] <;> rfl) fun p144 => ?_
            conv => lhs; whnf
            refine t_cond ?_ ?_
            ·conv => lhs; whnf
             refine t_get (en := eI) (l := r3) (by first | rfl | simp only [ml] <;> rfl) fun p145 => ?_
             conv => lhs; whnf
             exact t_ret (by first | rfl | simp only [ml] <;> rfl)
            ·conv => lhs; whnf
             exact t_none
           ·conv => lhs; whnf
            exact t_none
         ·conv => lhs; whnf
          refine t_cond ?_ ?_
          ·conv => lhs; whnf
           refine t_get (en := eI) (l := r3) (by first | rfl | simp only [ml] <;> rfl) fun p146 => ?_
           conv => lhs; whnf
           refine t_cond ?_ ?_
           ·conv => lhs; whnf
            refine t_get (en := eI) (l := r3) (by first | rfl | simp only [ml] <;> rfl) fun p147 => ?_
            conv => lhs; whnf
            exact t_ret (by first | rfl | simp only [ml] <;> rfl)
           ·conv => lhs; whnf
            exact t_none
          ·conv => lhs; whnf
           exact t_none
    ·conv => lhs; whnf
     refine t_same ?_ ?_
     ·conv => lhs; whnf
      refine t_call (h_spec_l1Cur_pick _ _ _ a (by first | rfl | simp only [ml] <;> rfl) (Prod.fst (Prod.snd r4)) (Prod.snd (Prod.snd r4)) 3) fun r51 => ?_
      conv => lhs; whnf
      refine t_same ?_ ?_
      ·conv => lhs; whnf
       refine t_cond ?_ ?_
       ·conv => lhs; whnf
        refine t_same ?_ ?_
        ·conv => lhs; whnf
         refine t_get (en := eI) (l := r3) (by first | rfl | simp only [ml] <;> rfl) fun p148 => ?_
         conv => lhs; whnf
         refine t_call (h_spec_l1Cur_pick _ _ _ a (by first | rfl | simp only [ml] <;> rfl) (Prod.fst (Prod.snd r51)) (Prod.snd (Prod.snd r51)) 3) fun r52 => ?_
         conv => lhs; whnf
         refine t_cond ?_ ?_
         ·conv => lhs; whnf
          refine t_get (en := eI) (l := r3) (by first | rfl | simp only [ml] <;> rfl) fun p149 => ?_
          conv => lhs; whnf
          exact t_ret (by first | rfl | simp only [ml] <;> rfl)
         ·conv => lhs; whnf
          exact t_none
        ·conv => lhs; whnf
         refine t_call (h_spec_l1Cur_pick _ _ _ a (by first | rfl | simp only [ml] <;> rfl) (Prod.fst (Prod.snd r51)) (Prod.snd (Prod.snd r51)) 3) fun r53 => ?_
         conv => lhs; whnf
         refine t_same ?_ ?_
         ·conv => lhs; whnf
          refine t_get (en := eI) (l := r3) (by first | rfl | simp only [ml] <;> rfl) fun p150 => ?_
          conv => lhs; whnf
          refine t_cond ?_ ?_
          ·conv => lhs; whnf
           refine t_get (en := eI) (l := r3) (by first | rfl | simp only [ml] <;> rfl) fun p151 => ?_
           conv => lhs; whnf
           exact t_ret (by first | rfl | simp only [ml] <;> rfl)
          ·conv => lhs; whnf
           exact t_none
         ·conv => lhs; whnf
          refine t_get (en := eI) (l := r3) (by first | rfl | simp only [ml] <;> rfl) fun p152 => ?_
          conv => lhs; whnf
          refine t_cond ?_ ?_
          ·conv => lhs; whnf
           refine t_get (en := eI) (l := r3) (by first | rfl | simp only [ml] <;> rfl) fun p153 => ?_
           conv => lhs; whnf
           exact t_ret (by first | rfl | simp only [ml] <;> rfl)
          ·conv => lhs; whnf
           exact t_none
       ·conv => lhs; whnf
        exact t_none
      ·conv => lhs; whnf
       refine t_call (h_spec_l1Cur_pick _ _ _ a (by first | rfl | simp only [ml] <;> rfl) (Prod.fst (Prod.snd r51)) (Prod.snd (Prod.snd r51)) 3) fun r54 => ?_
       conv => lhs; whnf
       refine t_same ?_ ?_
       ·conv => lhs; whnf
        refine t_cond ?_ ?_
        ·conv => lhs; whnf
         refine t_same ?_ ?_
         ·conv => lhs; whnf
          refine t_get (en := eI) (l := r3) (by first | rfl | simp only [ml] <;> rfl) fun p154 => ?_
          conv => lhs; whnf
          refine t_cond ?_ ?_
          ·conv => lhs; whnf
           refine t_get (en := eI) (l := r3) (by first | rfl | simp only [ml] <;> rfl) fun p155 => ?_
           conv => lhs; whnf
           exact t_ret (by first | rfl | simp only [ml] <;> rfl)
          ·conv => lhs; whnf
           exact t_none
         ·conv => lhs; whnf
          refine t_get (en := eI) (l := r3) (by first | rfl | simp only [ml] <;> rfl) fun p156 => ?_
          conv => lhs; whnf
          refine t_cond ?_ ?_
          ·conv => lhs; whnf
           refine t_get (en := eI) (l := r3) (by first | rfl | simp only [ml] <;> rfl) fun p157 => ?_
           conv => lhs; whnf
           exact t_ret (by first | rfl | simp only [ml] <;> rfl)
          ·conv => lhs; whnf
           exact t_none
        ·conv => lhs; whnf
         exact t_none
       ·conv => lhs; whnf
        refine t_cond ?_ ?_
        ·conv => lhs; whnf
         refine t_get (en := eI) (l := r3) (by first | rfl | simp only [ml] <;> rfl) fun p158 => ?_
         conv => lhs; whnf
         refine t_cond ?_ ?_
         ·conv => lhs; whnf
          refine t_get (en := eI) (l := r3) (by first | rfl | simp only [ml] <;> rfl) fun p159 => ?_
          conv => lhs; whnf
          exact t_ret (by first | rfl | simp only [ml] <;> rfl)
         ·conv => lhs; whnf
          exact t_none
        ·conv => lhs; whnf
         exact t_none
     ·conv => lhs; whnf
      refine t_same ?_ ?_
      ·conv => lhs; whnf
       refine t_call (h_spec_l1Cur_pick _ _ _ a (by first | rfl | simp only [ml] <;> rfl) (Prod.fst (Prod.snd r4)) (Prod.snd (Prod.snd r4)) 3) fun r55 => ?_
       conv => lhs; whnf
       refine t_same ?_ ?_
       ·conv => lhs; whnf
        refine t_cond ?_ ?_
        ·conv => lhs; whnf
         refine t_same ?_ ?_
         ·conv => lhs; whnf
          refine t_get (en := eI) (l := r3) (by first | rfl | simp only [ml] <;> rfl) fun p160 => ?_
          conv => lhs; whnf
          refine t_call (h_spec_l1Cur_pick _ _ _ a (by first | rfl | simp only [ml] <;> rfl) (Prod.fst (Prod.snd r55)) (Prod.snd (Prod.snd r55)) 3) fun r56 => ?_
          conv => lhs; whnf
          refine t_cond ?_ ?_
          ·conv => lhs; whnf
           refine t_get (en := eI) (l := r3) (by first | rfl | simp only [ml] <;> rfl) fun p161 => ?_
           conv => lhs; whnf
           exact t_ret (by first | rfl | simp only [ml] <;> rfl)
          ·conv => lhs; whnf
           exact t_none
         ·conv => lhs; whnf
          refine t_call (h_spec_l1Cur_pick _ _ _ a (by first | rfl | simp only [ml] <;> rfl) (Prod.fst (Prod.snd r55)) (Prod.snd (Prod.snd r55)) 3) fun r57 => ?_
          conv => lhs; whnf
          refine t_same ?_ ?_
          ·conv => lhs; whnf
           refine t_get (en := eI) (l := r3) (by first | rfl | simp only [ml] <;> rfl) fun p162 => ?_
           conv => lhs; whnf
           refine t_cond ?_ ?_
           ·conv => lhs; whnf
            refine t_get (en := eI) (l := r3) (by first | rfl | simp only [ml] <;> rfl) fun p163 => ?_
            conv => lhs; whnf
            exact t_ret (by first | rfl | simp only [ml] <;> rfl)
           ·conv => lhs; whnf
            exact t_none
          ·conv => lhs; whnf
           refine t_get (en := eI) (l := r3) (by first | rfl | simp only [ml] <;> rfl) fun p164 => ?_
           conv => lhs; whnf
           refine t_cond ?_ ?_
           ·conv => lhs; whnf
            refine t_get (en := eI) (l := r3) (by first | rfl | simp only [ml] <;> rfl) fun p165 => ?_
            conv => lhs; whnf
            exact t_ret (by first | rfl | simp only [ml] <;> rfl)
           ·conv => lhs; whnf
            exact t_none
        ·conv => lhs; whnf
         exact t_none
       ·conv => lhs; whnf
        refine t_call (h_spec_l1Cur_pick _ _ _ a (by first | rfl | simp only [ml] <;> rfl) (Prod.fst (Prod.snd r55)) (Prod.snd (Prod.snd r55)) 3) fun r58 => ?_
        conv => lhs; whnf
        refine t_same ?_ ?_
        ·conv => lhs; whnf
         refine t_cond ?_ ?_
         ·conv => lhs; whnf
          refine t_same ?_ ?_
          ·conv => lhs; whnf
           refine t_get (en := eI) (l := r3) (by first | rfl | simp only [ml] <;> rfl) fun p166 => ?_
           conv => lhs; whnf
           refine t_cond ?_ ?_
           ·conv => lhs; whnf
            refine t_get (en := eI) (l := r3) (by first | rfl | simp only [ml] <;> rfl) fun p167 => ?_
            conv => lhs; whnf
            exact t_ret (by first | rfl | simp only [ml] <;> rfl)
           ·conv => lhs; whnf
            exact t_none
          ·conv => lhs; whnf
           refine t_get (en := eI) (l := r3) (by first | rfl | simp only [ml] <;> rfl) fun p168 => ?_
           conv => lhs; whnf
           refine t_cond ?_ ?_
           ·conv => lhs; whnf
            refine t_get (en := eI) (l := r3) (by first | rfl | simp only [ml] <;> rfl) fun p169 => ?_
            conv => lhs; whnf
            exact t_ret (by first | rfl | simp only [ml] <;> rfl)
           ·conv => lhs; whnf
            exact t_none
         ·conv => lhs; whnf
          exact t_none
        ·conv => lhs; whnf
         refine t_cond ?_ ?_
         ·conv => lhs; whnf
          refine t_get (en := eI) (l := r3) (by first | rfl | simp only [ml] <;> rfl) fun p170 => ?_
          conv => lhs; whnf
          refine t_cond ?_ ?_
          ·conv => lhs; whnf
           refine t_get (en := eI) (l := r3) (by first | rfl | simp only [ml] <;> rfl) fun p171 => ?_
           conv => lhs; whnf
           exact t_ret (by first | rfl | simp only [ml] <;> rfl)
          ·conv => lhs; whnf
           exact t_none
         ·conv => lhs; whnf
          exact t_none
      ·conv => lhs; whnf
       refine t_call (h_spec_l1Cur_pick _ _ _ a (by first | rfl | simp only [ml] <;> rfl) (Prod.fst (Prod.snd r4)) (Prod.snd (Prod.snd r4)) 3) fun r59 => ?_
       conv => lhs; whnf
       refine t_same ?_ ?_
       ·conv => lhs; whnf
        refine t_same ?_ ?_
        ·conv => lhs; whnf
         refine t_cond ?_ ?_
         ·conv => lhs; whnf
          refine t_same ?_ ?_
          ·conv => lhs; whnf
           refine t_get (en := eI) (l := r3) (by first | rfl | simp only [ml] <;> rfl) fun p172 => ?_
           conv => lhs; whnf
           refine t_call (h_spec_l1Cur_pick _ _ _ a (by first | rfl | simp only [ml] <;> rfl) (Prod.fst (Prod.snd r59)) (Prod.snd (Prod.snd r59)) 3) fun r60 => ?_
           conv => lhs; whnf
           refine t_cond ?_ ?_
           ·conv => lhs; whnf
            refine t_get (en := eI) (l := r3) (by first | rfl | simp only [ml] <;> rfl) fun p173 => ?_
            conv => lhs; whnf
            exact t_ret (by first | rfl | simp only [ml] <;> rfl)
           ·conv => lhs; whnf
            exact t_none
          ·conv => lhs; whnf
           refine t_call (h_spec_l1Cur_pick _ _ _ a (by first | rfl | simp only [ml] <;> rfl) (Prod.fst (Prod.snd r59)) (Prod.snd (Prod.snd r59)) 3) fun r61 => ?_
           conv => lhs; whnf
           refine t_same ?_ ?_
           ·conv => lhs; whnf
            refine t_get (en := eI) (l := r3) (by first | rfl | simp only [ml] <;> rfl) fun p174 => ?_
            conv => lhs; whnf
            refine t_cond ?_ ?_
            ·conv => lhs; whnf
             refine t_get (en := eI) (l := r3) (by first | rfl | simp only [ml] <;> rfl) fun p175 => ?_
             conv => lhs; whnf
             exact t_ret (by first | rfl | simp only [ml] <;> rfl)
            ·conv => lhs; whnf
             exact t_none
           ·conv => lhs; whnf
            refine t_get (en := eI) (l := r3) (by first | rfl | simp only [ml] <;> rfl) fun p176 => ?_
            conv => lhs; whnf
            refine t_cond ?_ ?_
            ·conv => lhs; whnf
             refine t_get (en := eI) (l := r3) (by first | rfl | simp only [ml] <;> rfl) fun p177 => ?_
             conv => lhs; whnf
             exact t_ret (by first | rfl | simp only [ml] <;> rfl)
            ·conv => lhs; whnf
             exact t_none
         ·conv => lhs; whnf
          exact t_none
        ·conv => lhs; whnf
         refine t_call (h_spec_l1Cur_pick _ _ _ a (by first | rfl | simp only [ml] <;> rfl) (Prod.fst (Prod.snd r59)) (Prod.snd (Prod.snd r59)) 3) fun r62 => ?_
         conv => lhs; whnf
         refine t_same ?_ ?_
         ·conv => lhs; whnf
          refine t_cond ?_ ?_
          ·conv => lhs; whnf
           refine t_same ?_ ?_
           ·conv => lhs; whnf
            refine t_get (en := eI) (l := r3) (by first | rfl | simp only [ml] <;> rfl) fun p178 => ?_
            conv => lhs; whnf
            refine t_cond ?_ ?_
            ·conv => lhs; whnf
             refine t_get (en := eI) (l := r3) (by first | rfl | simp only [ml] <;> rfl) fun p179 => ?_
             conv => lhs; whnf
             exact t_ret (by first | rfl | simp only [ml] <;> rfl)
            ·conv => lhs; whnf
             exact t_none
           ·conv => lhs; whnf
            refine t_get (en := eI) (l := r3) (by first | rfl | simp only [ml] <;> rfl) fun p180 => ?_
            conv => lhs; whnf
            refine t_cond ?_ ?_
            ·conv => lhs; whnf
             refine t_get (en := eI) (l := r3) (by first | rfl | simp only [ml] <;> rfl) fun p181 => ?_
             conv => lhs; whnf
             exact t_ret (by first | rfl | simp only [ml] <;> rfl)
            ·conv => lhs; whnf
             exact t_none
          ·conv => lhs; whnf
           exact t_none
         ·conv => lhs; whnf
          refine t_cond ?_ ?_
          ·conv => lhs; whnf
           refine t_get (en := eI) (l := r3) (by first | rfl | simp only [ml] <;> rfl) fun p182 => ?_
           conv => lhs; whnf
           refine t_cond ?_ ?_
           ·conv => lhs; whnf
            refine t_get (en := eI) (l := r3) (by first | rfl | simp only [ml] <;> rfl) fun p183 => ?_
            conv => lhs; whnf
            exact t_ret (by first | rfl | simp only [ml] <;> rfl)
           ·conv => lhs; whnf
            exact t_none
          ·conv => lhs; whnf
           exact t_none
       ·conv => lhs; whnf
        refine t_call (h_spec_l1Cur_pick _ _ _ a (by first | rfl | simp only [ml] <;> rfl) (Prod.fst (Prod.snd r59)) (Prod.snd (Prod.snd r59)) 3) fun r63 => ?_
        conv => lhs; whnf
        refine t_same ?_ ?_
        ·conv => lhs; whnf
         refine t_same ?_ ?_
         ·conv => lhs; whnf
          refine t_cond ?_ ?_
          ·conv => lhs; whnf
           refine t_same ?_ ?_
           ·conv => lhs; whnf
            refine t_get (en := eI) (l := r3) (by first | rfl | simp only [ml] <;> rfl) fun p184 => ?_
            conv => lhs; whnf
            refine t_cond ?_ ?_
            ·conv => lhs; whnf
             refine t_get (en := eI) (l := r3) (by first | rfl | simp only [ml] <;> rfl) fun p185 => ?_
             conv => lhs; whnf
             exact t_ret (by first | rfl | simp only [ml] <;> rfl)
            ·conv => lhs; whnf
             exact t_none
           ·conv => lhs; whnf
            refine t_get (en := eI) (l := r3) (by first | rfl | simp only [ml] <;> rfl) fun p186 => ?_
            conv => lhs; whnf
            refine t_cond ?_ ?_
            ·conv => lhs; whnf
             refine t_get (en := eI) (l := r3) (by first | rfl | simp only [ml] <;> rfl) fun p187 => ?_
             conv => lhs; whnf
             exact t_ret (by first | rfl | simp only [ml] <;> rfl)
            ·conv => lhs; whnf
             exact t_none
          ·conv => lhs; whnf
           exact t_none
         ·conv => lhs; whnf
          refine t_cond ?_ ?_
          ·conv => lhs; whnf
           refine t_get (en := eI) (l := r3) (by first | rfl | simp only [ml] <;> rfl) fun p188 => ?_
           conv => lhs; whnf
           refine t_cond ?_ ?_
           ·conv => lhs; whnf
            refine t_get (en := eI) (l := r3) (by first | rfl | simp only [ml] <;> rfl) fun p189 => ?_
            conv => lhs; whnf
            exact t_ret (by first | rfl | simp only [ml] <;> rfl)
           ·conv => lhs; whnf
            exact t_none
          ·conv => lhs; whnf
           exact t_none
        ·conv => lhs; whnf
         refine t_cond ?_ ?_
         ·conv => lhs; whnf
          refine t_get (en := eI) (l := r3) (by first | rfl | simp only [ml] <;> rfl) fun p190 => ?_
          conv => lhs; whnf
          refine t_cond ?_ ?_
          ·conv => lhs; whnf
           refine t_get (en := eI) (l := r3) (by first | rfl | simp only [ml] <;> rfl) fun p191 => ?_
           conv => lhs; whnf
           exact t_ret (by first | rfl | simp only [ml] <;> rfl)
          ·conv => lhs; whnf
           exact t_none
         ·conv => lhs; whnf
          exact t_none
  ·conv => lhs; whnf
   refine t_cond ?_ ?_
   ·conv => lhs; whnf
    refine t_call (h_spec_l1Cur_among_v2 _ _ _ a (by first | rfl | simp only [ml] <;> rfl) (Prod.fst (Prod.snd r4)) (Prod.snd (Prod.snd r4)) _ (1000000 :: (1000001 :: (0 :: (-9223372036854775808 :: [])))) (by first | rfl | simp only [ml] <;> rfl)) fun r64 => ?_
    conv => lhs; whnf
    exact t_ret (by first | rfl | simp only [ml] <;> rfl)
   ·conv => lhs; whnf
    refine t_cond ?_ ?_
    ·conv => lhs; whnf
     refine t_call (h_spec_pgArea _ _ _ (Prod.fst r) (by first | rfl | simp only [ml] <;> rfl)) fun r65 => ?_
     conv => lhs; whnf
     refine t_call (h_spec_l1Cur_pick _ _ _ a (by first | rfl | simp only [ml] <;> rfl) (Prod.fst (Prod.snd r4)) (Prod.snd (Prod.snd r4)) 9) fun r66 => ?_
     conv => lhs; whnf
     exact t_ret (by first | rfl | simp only [ml] <;> rfl)
    ·conv => lhs; whnf
     exact t_ret (by first | rfl | simp only [ml] <;> rfl)

noncomputable def spec_PegOfParts (L : Nat) (a : List Pt) (b : List Int) : Option (Int × Int × Bool) := gbind (spec_trThree L a) fun r => bif !r then (some ((0, 0, false))) else (bif !ieq (ilen (List.map eI b)) 3 then (some ((0, 0, false))) else (gbind (spec_l1All L b (-1000000) 1000000) fun r1 => bif !r1 then (some ((0, 0, false))) else (gbind (spec_pgArea L a) fun r2 => gbind (lget b 0) fun p => gbind (lget b 1) fun p1 => gbind (lget b 2) fun p2 => bif !ieq (wr IntKind.i64 (iadd (wr IntKind.i64 (iadd p p1)) p2)) r2 then (some ((0, 0, false))) else (gbind (lget b 0) fun p3 => gbind (lget a 0) fun p4 => gbind (lget b 1) fun p5 => gbind (lget a 1) fun p6 => gbind (lget b 2) fun p7 => gbind (lget a 2) fun p8 => gbind (lget b 0) fun p9 => gbind (lget a 0) fun p10 => gbind (lget b 1) fun p11 => gbind (lget a 1) fun p12 => gbind (lget b 2) fun p13 => gbind (lget a 2) fun p14 => bif ieq r2 0 then (none) else (bif !ieq (irem (wr IntKind.i64 (iadd (wr IntKind.i64 (iadd (wr IntKind.i64 (imul p3 (Pt.x p4))) (wr IntKind.i64 (imul p5 (Pt.x p6))))) (wr IntKind.i64 (imul p7 (Pt.x p8))))) r2) 0 then (some ((0, 0, false))) else (bif ieq r2 0 then (none) else (bif !ieq (irem (wr IntKind.i64 (iadd (wr IntKind.i64 (iadd (wr IntKind.i64 (imul p9 (Pt.y p10))) (wr IntKind.i64 (imul p11 (Pt.y p12))))) (wr IntKind.i64 (imul p13 (Pt.y p14))))) r2) 0 then (some ((0, 0, false))) else (bif ieq r2 0 then (none) else (bif ieq r2 0 then (none) else (gbind (spec_pgIs L (wr IntKind.i64 (iquo (wr IntKind.i64 (iadd (wr IntKind.i64 (iadd (wr IntKind.i64 (imul p3 (Pt.x p4))) (wr IntKind.i64 (imul p5 (Pt.x p6))))) (wr IntKind.i64 (imul p7 (Pt.x p8))))) r2)) (wr IntKind.i64 (iquo (wr IntKind.i64 (iadd (wr IntKind.i64 (iadd (wr IntKind.i64 (imul p9 (Pt.y p10))) (wr IntKind.i64 (imul p11 (Pt.y p12))))) (wr IntKind.i64 (imul p13 (Pt.y p14))))) r2))) fun r3 => bif !r3 then (some ((0, 0, false))) else (some ((wr IntKind.i64 (iquo (wr IntKind.i64 (iadd (wr IntKind.i64 (iadd (wr IntKind.i64 (imul p3 (Pt.x p4))) (wr IntKind.i64 (imul p5 (Pt.x p6))))) (wr IntKind.i64 (imul p7 (Pt.x p8))))) r2), wr IntKind.i64 (iquo (wr IntKind.i64 (iadd (wr IntKind.i64 (iadd (wr IntKind.i64 (imul p9 (Pt.y p10))) (wr IntKind.i64 (imul p11 (Pt.y p12))))) (wr IntKind.i64 (imul p13 (Pt.y p14))))) r2), true)))))))))))))


def spec_PegOfParts_ok (L : Nat) (C : CF) : Prop := ∀ (oa : Bool) (ca : Bool) (x_a : List AV) (a : List Pt) (_ : x_a = List.map ep a) (ob : Bool) (cb : Bool) (x_b : List AV) (b : List Int) (_ : x_b = List.map eI b), C 27 ([.lst oa ca 2 x_a, .lst ob cb 1 x_b]) ([]) = Option.map (fun r : Int × Int × Bool => ((.tup [.agg [.int .i64 (r.1), .int .i64 (r.2.1)], .bool (r.2.2)], []) : AV × List Blk)) (spec_PegOfParts L a b)


theorem spec_PegOfParts_run (L : Nat) (C : CF) (h_spec_pgIs : spec_pgIs_ok L C) (h_spec_pgArea : spec_pgArea_ok L C) (h_spec_l1All : spec_l1All_ok L C) (h_spec_trThree : spec_trThree_ok L C) : ∀ (oa : Bool) (ca : Bool) (x_a : List AV) (a : List Pt) (_ : x_a = List.map ep a) (ob : Bool) (cb : Bool) (x_b : List AV) (b : List Int) (_ : x_b = List.map eI b), run T C sh (keep 27) L Try.f27 ([.lst oa ca 2 x_a, .lst ob cb 1 x_b]) ([]) = Option.map (fun r : Int × Int × Bool => ((.tup [.agg [.int .i64 (r.1), .int .i64 (r.2.1)], .bool (r.2.2)], []) : AV × List Blk)) (spec_PegOfParts L a b) := by
 intro oa ca x_a a hx_a ob cb x_b b hx_b
 subst hx_a
 subst hx_b
 unfold spec_PegOfParts
 conv => lhs; whnf
 refine t_call (h_spec_trThree _ _ _ a (by first | rfl | simp only [ml] <;> rfl)) fun r => ?_
 conv => lhs; whnf
 refine t_cond ?_ ?_
 ·conv => lhs; whnf
  exact t_ret (by first | rfl | simp only [ml] <;> rfl)
 ·conv => lhs; whnf
  refine t_cond ?_ ?_
  ·conv => lhs; whnf
   exact t_ret (by first | rfl | simp only [ml] <;> rfl)
  ·conv => lhs; whnf
   refine t_call (h_spec_l1All _ _ _ b (by first | rfl | simp only [ml] <;> rfl) (-1000000) 1000000) fun r1 => ?_
   conv => lhs; whnf
   refine t_cond ?_ ?_
   ·conv => lhs; whnf
    exact t_ret (by first | rfl | simp only [ml] <;> rfl)
   ·conv => lhs; whnf
    refine t_call (h_spec_pgArea _ _ _ a (by first | rfl | simp only [ml] <;> rfl)) fun r2 => ?_
    conv => lhs; whnf
    refine t_get (en := eI) (l := b) (by first | rfl | simp only [ml] <;> rfl) fun p => ?_
    conv => lhs; whnf
    refine t_get (en := eI) (l := b) (by first | rfl | simp only [ml] <;> rfl) fun p1 => ?_
    conv => lhs; whnf
    refine t_get (en := eI) (l := b) (by first | rfl | simp only [ml] <;> rfl) fun p2 => ?_
    conv => lhs; whnf
    refine t_cond ?_ ?_
    ·conv => lhs; whnf
     exact t_ret (by first | rfl | simp only [ml] <;> rfl)
    ·conv => lhs; whnf
     refine t_get (en := eI) (l := b) (by first | rfl | simp only [ml] <;> rfl) fun p3 => ?_
     conv => lhs; whnf
     refine t_get (en := ep) (l := a) (by first | rfl | simp only [ml] <;> rfl) fun p4 => ?_
     conv => lhs; whnf
     refine t_get (en := eI) (l := b) (by first | rfl | simp only [ml] <;> rfl) fun p5 => ?_
     conv => lhs; whnf
     refine t_get (en := ep) (l := a) (by first | rfl | simp only [ml] <;> rfl) fun p6 => ?_
     conv => lhs; whnf
     refine t_get (en := eI) (l := b) (by first | rfl | simp only [ml] <;> rfl) fun p7 => ?_
     conv => lhs; whnf
     refine t_get (en := ep) (l := a) (by first | rfl | simp only [ml] <;> rfl) fun p8 => ?_
     conv => lhs; whnf
     refine t_get (en := eI) (l := b) (by first | rfl | simp only [ml] <;> rfl) fun p9 => ?_
     conv => lhs; whnf
     refine t_get (en := ep) (l := a) (by first | rfl | simp only [ml] <;> rfl) fun p10 => ?_
     conv => lhs; whnf
     refine t_get (en := eI) (l := b) (by first | rfl | simp only [ml] <;> rfl) fun p11 => ?_
     conv => lhs; whnf
     refine t_get (en := ep) (l := a) (by first | rfl | simp only [ml] <;> rfl) fun p12 => ?_
     conv => lhs; whnf
     refine t_get (en := eI) (l := b) (by first | rfl | simp only [ml] <;> rfl) fun p13 => ?_
     conv => lhs; whnf
     refine t_get (en := ep) (l := a) (by first | rfl | simp only [ml] <;> rfl) fun p14 => ?_
     conv => lhs; whnf
     refine t_cond ?_ ?_
     ·conv => lhs; whnf
      exact t_none
     ·conv => lhs; whnf
      refine t_cond ?_ ?_
      ·conv => lhs; whnf
       exact t_ret (by first | rfl | simp only [ml] <;> rfl)
      ·conv => lhs; whnf
       refine t_cond ?_ ?_
       ·conv => lhs; whnf
        exact t_none
       ·conv => lhs; whnf
        refine t_cond ?_ ?_
        ·conv => lhs; whnf
         exact t_ret (by first | rfl | simp only [ml] <;> rfl)
        ·conv => lhs; whnf
         refine t_cond ?_ ?_
         ·conv => lhs; whnf
          exact t_none
         ·conv => lhs; whnf
          refine t_cond ?_ ?_
          ·conv => lhs; whnf
           exact t_none
          ·conv => lhs; whnf
           refine t_call (h_spec_pgIs (wr IntKind.i64 (iquo (wr IntKind.i64 (iadd (wr IntKind.i64 (iadd (wr IntKind.i64 (imul p3 (Pt.x p4))) (wr IntKind.i64 (imul p5 (Pt.x p6))))) (wr IntKind.i64 (imul p7 (Pt.x p8))))) r2)) (wr IntKind.i64 (iquo (wr IntKind.i64 (iadd (wr IntKind.i64 (iadd (wr IntKind.i64 (imul p9 (Pt.y p10))) (wr IntKind.i64 (imul p11 (Pt.y p12))))) (wr IntKind.i64 (imul p13 (Pt.y p14))))) r2))) fun r3 => ?_
           conv => lhs; whnf
           refine t_cond ?_ ?_
           ·conv => lhs; whnf
            exact t_ret (by first | rfl | simp only [ml] <;> rfl)
           ·conv => lhs; whnf
            exact t_ret (by first | rfl | simp only [ml] <;> rfl)


noncomputable def spec_DrawIsEmptyThree (L : Nat) (a : List Int) : Option ((List Pt)) := gbind (spec_l1Cur_three L a 0 0 2) fun r => some (Prod.fst r)


def spec_DrawIsEmptyThree_ok (L : Nat) (C : CF) : Prop := ∀ (oa : Bool) (ca : Bool) (x_a : List AV) (a : List Int) (_ : x_a = List.map eU a), C 28 ([.lst oa ca 1 x_a]) ([]) = Option.map (fun r : (List Pt) => ((.frs 2 (List.map ep r), []) : AV × List Blk)) (spec_DrawIsEmptyThree L a)


theorem spec_DrawIsEmptyThree_run (L : Nat) (C : CF) (h_spec_l1Cur_three : spec_l1Cur_three_ok L C) : ∀ (oa : Bool) (ca : Bool) (x_a : List AV) (a : List Int) (_ : x_a = List.map eU a), run T C sh (keep 28) L Try.f28 ([.lst oa ca 1 x_a]) ([]) = Option.map (fun r : (List Pt) => ((.frs 2 (List.map ep r), []) : AV × List Blk)) (spec_DrawIsEmptyThree L a) := by
 intro oa ca x_a a hx_a
 subst hx_a
 unfold spec_DrawIsEmptyThree
 conv => lhs; whnf
 refine t_call (h_spec_l1Cur_three _ _ _ a (by first | rfl | simp only [ml] <;> rfl) 0 0 2) fun r => ?_
 conv => lhs; whnf
 exact t_ret (by first | rfl | simp only [ml] <;> rfl)


noncomputable def impl_IsEmptyThree (L : Nat) (a : List Pt) : Option (Bool × Bool) := gbind (impl_isThree L a) fun r => bif !r then (some ((false, false))) else (gbind (impl_twice L a) fun r1 => gbind (impl_size L r1) fun r2 => some ((ieq r2 1, true)))


def impl_IsEmptyThree_ok (L : Nat) (C : CF) : Prop := ∀ (oa : Bool) (ca : Bool) (x_a : List AV) (a : List Pt) (_ : x_a = List.map ep a), C 29 ([.lst oa ca 2 x_a]) ([]) = Option.map (fun r : Bool × Bool => ((.tup [.bool (r.1), .bool (r.2)], []) : AV × List Blk)) (impl_IsEmptyThree L a)


theorem impl_IsEmptyThree_run (L : Nat) (C : CF) (h_impl_twice : impl_twice_ok L C) (h_impl_size : impl_size_ok L C) (h_impl_isThree : impl_isThree_ok L C) : ∀ (oa : Bool) (ca : Bool) (x_a : List AV) (a : List Pt) (_ : x_a = List.map ep a), run T C sh (keep 29) L Try.f29 ([.lst oa ca 2 x_a]) ([]) = Option.map (fun r : Bool × Bool => ((.tup [.bool (r.1), .bool (r.2)], []) : AV × List Blk)) (impl_IsEmptyThree L a) := by
 intro oa ca x_a a hx_a
 subst hx_a
 unfold impl_IsEmptyThree
 conv => lhs; whnf
 refine t_call (h_impl_isThree _ _ _ a (by first | rfl | simp only [ml] <;> rfl)) fun r => ?_
 conv => lhs; whnf
 refine t_cond ?_ ?_
 ·conv => lhs; whnf
  exact t_ret (by first | rfl | simp only [ml] <;> rfl)
 ·conv => lhs; whnf
  refine t_call (h_impl_twice _ _ _ a (by first | rfl | simp only [ml] <;> rfl)) fun r1 => ?_
  conv => lhs; whnf
  refine t_call (h_impl_size r1) fun r2 => ?_
  conv => lhs; whnf
  exact t_ret (by first | rfl | simp only [ml] <;> rfl)


noncomputable def spec_IsEmptyThree (L : Nat) (a : List Pt) : Option (Bool × Bool) := gbind (spec_trThree L a) fun r => bif !r then (some ((false, false))) else (gbind (spec_pgArea L a) fun r1 => gbind (spec_l1Abs L r1) fun r2 => some ((ieq r2 1, true)))


def spec_IsEmptyThree_ok (L : Nat) (C : CF) : Prop := ∀ (oa : Bool) (ca : Bool) (x_a : List AV) (a : List Pt) (_ : x_a = List.map ep a), C 30 ([.lst oa ca 2 x_a]) ([]) = Option.map (fun r : Bool × Bool => ((.tup [.bool (r.1), .bool (r.2)], []) : AV × List Blk)) (spec_IsEmptyThree L a)


theorem spec_IsEmptyThree_run (L : Nat) (C : CF) (h_spec_pgArea : spec_pgArea_ok L C) (h_spec_l1Abs : spec_l1Abs_ok L C) (h_spec_trThree : spec_trThree_ok L C) : ∀ (oa : Bool) (ca : Bool) (x_a : List AV) (a : List Pt) (_ : x_a = List.map ep a), run T C sh (keep 30) L Try.f30 ([.lst oa ca 2 x_a]) ([]) = Option.map (fun r : Bool × Bool => ((.tup [.bool (r.1), .bool (r.2)], []) : AV × List Blk)) (spec_IsEmptyThree L a) := by
 intro oa ca x_a a hx_a
 subst hx_a
 unfold spec_IsEmptyThree
 conv => lhs; whnf
 refine t_call (h_spec_trThree _ _ _ a (by first | rfl | simp only [ml] <;> rfl)) fun r => ?_
 conv => lhs; whnf
 refine t_cond ?_ ?_
 ·conv => lhs; whnf
  exact t_ret (by first | rfl | simp only [ml] <;> rfl)
 ·conv => lhs; whnf
  refine t_call (h_spec_pgArea _ _ _ a (by first | rfl | simp only [ml] <;> rfl)) fun r1 => ?_
  conv => lhs; whnf
  refine t_call (h_spec_l1Abs r1) fun r2 => ?_
  conv => lhs; whnf
  exact t_ret (by first | rfl | simp only [ml] <;> rfl)


noncomputable def impl_IsHollowThree (L : Nat) (a : List Pt) : Option (Bool × Bool) := gbind (impl_isThree L a) fun r => bif !r then (some ((false, false))) else (gbind (impl_inner L a) fun r1 => some ((ieq r1 0, true)))


def impl_IsHollowThree_ok (L : Nat) (C : CF) : Prop := ∀ (oa : Bool) (ca : Bool) (x_a : List AV) (a : List Pt) (_ : x_a = List.map ep a), C 31 ([.lst oa ca 2 x_a]) ([]) = Option.map (fun r : Bool × Bool => ((.tup [.bool (r.1), .bool (r.2)], []) : AV × List Blk)) (impl_IsHollowThree L a)


theorem impl_IsHollowThree_run (L : Nat) (C : CF) (h_impl_inner : impl_inner_ok L C) (h_impl_isThree : impl_isThree_ok L C) : ∀ (oa : Bool) (ca : Bool) (x_a : List AV) (a : List Pt) (_ : x_a = List.map ep a), run T C sh (keep 31) L Try.f31 ([.lst oa ca 2 x_a]) ([]) = Option.map (fun r : Bool × Bool => ((.tup [.bool (r.1), .bool (r.2)], []) : AV × List Blk)) (impl_IsHollowThree L a) := by
 intro oa ca x_a a hx_a
 subst hx_a
 unfold impl_IsHollowThree
 conv => lhs; whnf
 refine t_call (h_impl_isThree _ _ _ a (by first | rfl | simp only [ml] <;> rfl)) fun r => ?_
 conv => lhs; whnf
 refine t_cond ?_ ?_
 ·conv => lhs; whnf
  exact t_ret (by first | rfl | simp only [ml] <;> rfl)
 ·conv => lhs; whnf
  refine t_call (h_impl_inner _ _ _ a (by first | rfl | simp only [ml] <;> rfl)) fun r1 => ?_
  conv => lhs; whnf
  exact t_ret (by first | rfl | simp only [ml] <;> rfl)


noncomputable def spec_IsHollowThree (L : Nat) (a : List Pt) : Option (Bool × Bool) := gbind (spec_trThree L a) fun r => bif !r then (some ((false, false))) else (gbind (spec_pgInside L a) fun r1 => some ((ieq r1 0, true)))


def spec_IsHollowThree_ok (L : Nat) (C : CF) : Prop := ∀ (oa : Bool) (ca : Bool) (x_a : List AV) (a : List Pt) (_ : x_a = List.map ep a), C 32 ([.lst oa ca 2 x_a]) ([]) = Option.map (fun r : Bool × Bool => ((.tup [.bool (r.1), .bool (r.2)], []) : AV × List Blk)) (spec_IsHollowThree L a)


theorem spec_IsHollowThree_run (L : Nat) (C : CF) (h_spec_pgInside : spec_pgInside_ok L C) (h_spec_trThree : spec_trThree_ok L C) : ∀ (oa : Bool) (ca : Bool) (x_a : List AV) (a : List Pt) (_ : x_a = List.map ep a), run T C sh (keep 32) L Try.f32 ([.lst oa ca 2 x_a]) ([]) = Option.map (fun r : Bool × Bool => ((.tup [.bool (r.1), .bool (r.2)], []) : AV × List Blk)) (spec_IsHollowThree L a) := by
 intro oa ca x_a a hx_a
 subst hx_a
 unfold spec_IsHollowThree
 conv => lhs; whnf
 refine t_call (h_spec_trThree _ _ _ a (by first | rfl | simp only [ml] <;> rfl)) fun r => ?_
 conv => lhs; whnf
 refine t_cond ?_ ?_
 ·conv => lhs; whnf
  exact t_ret (by first | rfl | simp only [ml] <;> rfl)
 ·conv => lhs; whnf
  refine t_call (h_spec_pgInside _ _ _ a (by first | rfl | simp only [ml] <;> rfl)) fun r1 => ?_
  conv => lhs; whnf
  exact t_ret (by first | rfl | simp only [ml] <;> rfl)


noncomputable def laws_zLists_l0 (L : Nat) (a : List (List Pt)) (b : List (List Pt)) : Nat → Int → Option Bool
  | 0, _ => none
  | m + 1, v13 => bif ilt v13 (ilen (List.map eLP a)) then (gbind (lget a v13) fun p => gbind (lget b v13) fun p1 => gbind (laws_zPegs L p p1) fun r => bif !r then (some false) else (laws_zLists_l0 L a b m (wr IntKind.i64 (iadd v13 1)))) else (some true)


noncomputable def laws_zLists (L : Nat) (a : List (List Pt)) (b : List (List Pt)) : Option (Bool) := bif !ieq (ilen (List.map eLP a)) (ilen (List.map eLP b)) then (some false) else (laws_zLists_l0 L a b L 0)


def laws_zLists_ok (L : Nat) (C : CF) : Prop := ∀ (oa : Bool) (ca : Bool) (x_a : List AV) (a : List (List Pt)) (_ : x_a = List.map eLP a) (ob : Bool) (cb : Bool) (x_b : List AV) (b : List (List Pt)) (_ : x_b = List.map eLP b), C 33 ([.lst oa ca 1 x_a, .lst ob cb 1 x_b]) ([]) = Option.map (fun r : Bool => ((.bool r, []) : AV × List Blk)) (laws_zLists L a b)


theorem laws_zLists_run (L : Nat) (C : CF) (h_laws_zPegs : laws_zPegs_ok L C) : ∀ (oa : Bool) (ca : Bool) (x_a : List AV) (a : List (List Pt)) (_ : x_a = List.map eLP a) (ob : Bool) (cb : Bool) (x_b : List AV) (b : List (List Pt)) (_ : x_b = List.map eLP b), run T C sh (keep 33) L Try.f33 ([.lst oa ca 1 x_a, .lst ob cb 1 x_b]) ([]) = Option.map (fun r : Bool => ((.bool r, []) : AV × List Blk)) (laws_zLists L a b) := by
 intro oa ca x_a a hx_a ob cb x_b b hx_b
 subst hx_a
 subst hx_b
 unfold laws_zLists
 conv => lhs; whnf
 refine t_cond ?_ ?_
 ·conv => lhs; whnf
  exact t_ret (by first | rfl | simp only [ml] <;> rfl)
 ·conv => lhs; whnf
  refine t_loop (fun (v13 : Int) => (AV.lst oa ca 1 (List.map eLP a) :: AV.lst ob cb 1 (List.map eLP b) :: topA 10 (AV.int IntKind.i64 (ilen (List.map eLP a)) :: AV.int IntKind.i64 v13 :: tops 13), [])) (fun m (v13 : Int) => laws_zLists_l0 L a b m v13) (fun _ => rfl) (fun m v13 rec hrec => ?_) L 0 ?_ ?_
  rotate_left
  ·first | rfl | simp only [ml] <;> rfl
  ·first | rfl | simp only [ml] <;> rfl
  show _ = Option.map _ (laws_zLists_l0 L a b (m + 1) v13)
  rw [laws_zLists_l0.eq_2]
  conv => lhs; whnf
  refine t_cond ?_ ?_
  ·conv => lhs; whnf
   refine t_get (en := eLP) (l := a) (by first | rfl | simp only [ml] <;> rfl) fun p => ?_
   conv => lhs; whnf
   refine t_get (en := eLP) (l := b) (by first | rfl | simp only [ml] <;> rfl) fun p1 => ?_
   conv => lhs; whnf
   refine t_call (h_laws_zPegs _ _ _ p (by first | rfl | simp only [ml] <;> rfl) _ _ _ p1 (by first | rfl | simp only [ml] <;> rfl)) fun r => ?_
   conv => lhs; whnf
   refine t_cond ?_ ?_
   ·conv => lhs; whnf
    exact t_ret (by first | rfl | simp only [ml] <;> rfl)
   ·conv => lhs; whnf
    exact hrec (wr IntKind.i64 (iadd v13 1)) _ _ (by first | rfl | simp only [ml] <;> rfl) (by first | rfl | simp only [ml] <;> rfl)
  ·conv => lhs; whnf
   exact t_ret (by first | rfl | simp only [ml] <;> rfl)


noncomputable def impl_PegsInside (L : Nat) (a : List Pt) : Option (Int × Bool) := gbind (impl_IsPolygon L a) fun r => bif !r then (some ((0, false))) else (gbind (impl_inner L a) fun r1 => some ((r1, true)))


def impl_PegsInside_ok (L : Nat) (C : CF) : Prop := ∀ (oa : Bool) (ca : Bool) (x_a : List AV) (a : List Pt) (_ : x_a = List.map ep a), C 34 ([.lst oa ca 2 x_a]) ([]) = Option.map (fun r : Int × Bool => ((.tup [.int .i64 (r.1), .bool (r.2)], []) : AV × List Blk)) (impl_PegsInside L a)


theorem impl_PegsInside_run (L : Nat) (C : CF) (h_impl_IsPolygon : impl_IsPolygon_ok L C) (h_impl_inner : impl_inner_ok L C) : ∀ (oa : Bool) (ca : Bool) (x_a : List AV) (a : List Pt) (_ : x_a = List.map ep a), run T C sh (keep 34) L Try.f34 ([.lst oa ca 2 x_a]) ([]) = Option.map (fun r : Int × Bool => ((.tup [.int .i64 (r.1), .bool (r.2)], []) : AV × List Blk)) (impl_PegsInside L a) := by
 intro oa ca x_a a hx_a
 subst hx_a
 unfold impl_PegsInside
 conv => lhs; whnf
 refine t_call (h_impl_IsPolygon _ _ _ a (by first | rfl | simp only [ml] <;> rfl)) fun r => ?_
 conv => lhs; whnf
 refine t_cond ?_ ?_
 ·conv => lhs; whnf
  exact t_ret (by first | rfl | simp only [ml] <;> rfl)
 ·conv => lhs; whnf
  refine t_call (h_impl_inner _ _ _ a (by first | rfl | simp only [ml] <;> rfl)) fun r1 => ?_
  conv => lhs; whnf
  exact t_ret (by first | rfl | simp only [ml] <;> rfl)



noncomputable def laws_FnThreesParted_j3 (L : Nat) (v33 : Bool) (v34 : Bool) (v37 : Bool) (w3 : List Pt) : Option Bool := bif v34 then (gbind (impl_PegsInside L w3) fun r16 => gbind (impl_PegsOn L w3) fun r17 => bif Prod.snd r16 then (bif Prod.snd r17 then (bif beqb v37 (ieq (Prod.fst r16) 0) then (bif v37 then (some (beqb v33 (ieq (Prod.fst r17) 3))) else (some (beqb v33 false))) else (some false)) else (some false)) else (some false)) else (some true)


noncomputable def laws_FnThreesParted_j2 (L : Nat) (v29 : Bool) (v33 : Bool) (v34 : Bool) (v37 : Bool) (w0 : List Pt) (w1 : List Int) (b2_0 : Int) (b2_1 : Int) (w3 : List Pt) : Option Bool := bif v29 then (gbind (impl_PartsOfPeg L w0 b2_0 b2_1) fun r18 => bif !Prod.snd r18 then (some false) else (gbind (laws_zSame L (Prod.fst r18) w1) fun r19 => bif !r19 then (some false) else (laws_FnThreesParted_j3 L v33 v34 v37 w3))) else (laws_FnThreesParted_j3 L v33 v34 v37 w3)


noncomputable def laws_FnThreesParted_l4 (L : Nat) (r6 : List (List Pt) × Bool) (r8 : List Pt × List Int) (r9 : Int × Int × Bool) (r11 : List Pt) (r12 : Bool × Bool) (r14 : Bool × Bool) (r20 : List Int × Bool) : Nat → Int → Option Bool
  | 0, _ => none
  | m + 1, v286 => bif ilt v286 (ilen (List.map eLP (Prod.fst r6))) then (bif ile 0 v286 && ilt v286 (ilen (List.map eLP (Prod.fst r6))) then (gbind (lget (Prod.fst r6) v286) fun p => gbind (impl_TwiceArea L p) fun r21 => bif !Prod.snd r21 then (some false) else (bif ile 0 v286 && ilt v286 (ilen (List.map eI (Prod.fst r20))) then (gbind (lget (Prod.fst r20) v286) fun p1 => bif !ieq (Prod.fst r21) p1 then (some false) else (laws_FnThreesParted_l4 L r6 r8 r9 r11 r12 r14 r20 m (wr IntKind.i64 (iadd v286 1)))) else (none))) else (none)) else (laws_FnThreesParted_j2 L (Prod.snd (Prod.snd r9)) (Prod.fst r12) (Prod.snd r12) (Prod.fst r14) (Prod.fst r8) (Prod.snd r8) (Prod.fst r9) (Prod.fst (Prod.snd r9)) r11)


noncomputable def laws_FnThreesParted_j1 (L : Nat) (r5 : List Pt × Int × Int) (r6 : List (List Pt) × Bool) (r8 : List Pt × List Int) (r9 : Int × Int × Bool) (r11 : List Pt) (r12 : Bool × Bool) (r14 : Bool × Bool) : Option Bool := bif Prod.snd r6 then (gbind (impl_PartsOfPeg L (Prod.fst r5) (Prod.fst (Prod.snd r5)) (Prod.snd (Prod.snd r5))) fun r20 => bif !Prod.snd r20 then (some false) else (bif !ieq (ilen (List.map eLP (Prod.fst r6))) 3 then (some false) else (laws_FnThreesParted_l4 L r6 r8 r9 r11 r12 r14 r20 L 0))) else (laws_FnThreesParted_j2 L (Prod.snd (Prod.snd r9)) (Prod.fst r12) (Prod.snd r12) (Prod.fst r14) (Prod.fst r8) (Prod.snd r8) (Prod.fst r9) (Prod.fst (Prod.snd r9)) r11)


noncomputable def laws_FnThreesParted_j0 (L : Nat) (v1 : List Int) : Option Bool := gbind (spec_DrawSplitThree L v1) fun r5 => gbind (impl_SplitThree L (Prod.fst r5) (Prod.fst (Prod.snd r5)) (Prod.snd (Prod.snd r5))) fun r6 => gbind (spec_SplitThree L (Prod.fst r5) (Prod.fst (Prod.snd r5)) (Prod.snd (Prod.snd r5))) fun r7 => gbind (spec_DrawPegOfParts L v1) fun r8 => gbind (impl_PegOfParts L (Prod.fst r8) (Prod.snd r8)) fun r9 => gbind (spec_PegOfParts L (Prod.fst r8) (Prod.snd r8)) fun r10 => gbind (spec_DrawIsEmptyThree L v1) fun r11 => gbind (impl_IsEmptyThree L r11) fun r12 => gbind (spec_IsEmptyThree L r11) fun r13 => gbind (impl_IsHollowThree L r11) fun r14 => gbind (spec_IsHollowThree L r11) fun r15 => bif !beqb (Prod.snd r6) (Prod.snd r7) then (some false) else (gbind (laws_zLists L (Prod.fst r6) (Prod.fst r7)) fun r22 => bif !r22 then (some false) else (bif !beqb (Prod.snd (Prod.snd r9)) (Prod.snd (Prod.snd r10)) then (some false) else (bif !(ieq (Prod.fst r9) (Prod.fst r10) && ieq (Prod.fst (Prod.snd r9)) (Prod.fst (Prod.snd r10))) then (some false) else (bif !beqb (Prod.snd r12) (Prod.snd r13) then (some false) else (bif !beqb (Prod.fst r12) (Prod.fst r13) then (some false) else (bif !beqb (Prod.snd r14) (Prod.snd r15) then (some false) else (bif !beqb (Prod.fst r14) (Prod.fst r15) then (some false) else (bif !beqb (Prod.snd r14) (Prod.snd r12) then (some false) else (bif Prod.fst r12 then (bif !Prod.fst r14 then (some false) else (laws_FnThreesParted_j1 L r5 r6 r8 r9 r11 r12 r14)) else (laws_FnThreesParted_j1 L r5 r6 r8 r9 r11 r12 r14))))))))))


noncomputable def laws_FnThreesParted_l5 (L : Nat) (b : List Int) (r2 : List Int × Bool) (r23 : Int × Bool) (r25 : Int × Bool) : Nat → Bool → Int → Option Bool
  | 0, _, _ => none
  | m1 + 1, v17, v137 => bif ilt v137 (ilen (List.map eI (Prod.fst r2))) then (bif ile 0 v137 && ilt v137 (ilen (List.map eI (Prod.fst r2))) then (gbind (lget (Prod.fst r2) v137) fun p5 => bif v17 then (bif ilt 0 (Prod.fst r23) then (bif ile 0 p5 then (laws_FnThreesParted_l5 L b r2 r23 r25 m1 true (wr IntKind.i64 (iadd v137 1))) else (bif ilt (Prod.fst r23) 0 then (laws_FnThreesParted_l5 L b r2 r23 r25 m1 (ile p5 0) (wr IntKind.i64 (iadd v137 1))) else (laws_FnThreesParted_l5 L b r2 r23 r25 m1 false (wr IntKind.i64 (iadd v137 1))))) else (bif ilt (Prod.fst r23) 0 then (laws_FnThreesParted_l5 L b r2 r23 r25 m1 (ile p5 0) (wr IntKind.i64 (iadd v137 1))) else (laws_FnThreesParted_l5 L b r2 r23 r25 m1 false (wr IntKind.i64 (iadd v137 1))))) else (laws_FnThreesParted_l5 L b r2 r23 r25 m1 false (wr IntKind.i64 (iadd v137 1)))) else (none)) else (bif !beqb v17 (ile 0 (Prod.fst r25)) then (some false) else (laws_FnThreesParted_j0 L b))


noncomputable def laws_FnThreesParted (L : Nat) (a : List Int) (b : List Int) : Option (Bool) := gbind (laws_big L a b) fun r => bif r then (some true) else (gbind (spec_DrawPartsOfPeg L a) fun r1 => gbind (impl_PartsOfPeg L (Prod.fst r1) (Prod.fst (Prod.snd r1)) (Prod.snd (Prod.snd r1))) fun r2 => gbind (spec_PartsOfPeg L (Prod.fst r1) (Prod.fst (Prod.snd r1)) (Prod.snd (Prod.snd r1))) fun r3 => bif !beqb (Prod.snd r2) (Prod.snd r3) then (some false) else (gbind (laws_zSame L (Prod.fst r2) (Prod.fst r3)) fun r4 => bif !r4 then (some false) else (bif Prod.snd r2 then (gbind (impl_TwiceArea L (Prod.fst r1)) fun r23 => gbind (impl_PegOfParts L (Prod.fst r1) (Prod.fst r2)) fun r24 => gbind (impl_WhereIs L (Prod.fst r1) (Prod.fst (Prod.snd r1)) (Prod.snd (Prod.snd r1))) fun r25 => bif !Prod.snd r23 then (some false) else (bif !ieq (ilen (List.map eI (Prod.fst r2))) 3 then (some false) else (bif ile 0 0 && ilt 0 (ilen (List.map eI (Prod.fst r2))) then (gbind (lget (Prod.fst r2) 0) fun p2 => bif ile 0 1 && ilt 1 (ilen (List.map eI (Prod.fst r2))) then (gbind (lget (Prod.fst r2) 1) fun p3 => bif ile 0 2 && ilt 2 (ilen (List.map eI (Prod.fst r2))) then (gbind (lget (Prod.fst r2) 2) fun p4 => bif !ieq (wr IntKind.i64 (iadd (wr IntKind.i64 (iadd p2 p3)) p4)) (Prod.fst r23) then (some false) else (bif !Prod.snd (Prod.snd r24) then (some false) else (bif !(ieq (Prod.fst r24) (Prod.fst (Prod.snd r1)) && ieq (Prod.fst (Prod.snd r24)) (Prod.snd (Prod.snd r1))) then (some false) else (bif !Prod.snd r25 then (some false) else (laws_FnThreesParted_l5 L b r2 r23 r25 L true 0))))) else (none)) else (none)) else (none)))) else (laws_FnThreesParted_j0 L b))))


def laws_FnThreesParted_ok (L : Nat) (C : CF) : Prop := ∀ (oa : Bool) (ca : Bool) (x_a : List AV) (a : List Int) (_ : x_a = List.map eU a) (ob : Bool) (cb : Bool) (x_b : List AV) (b : List Int) (_ : x_b = List.map eU b), C 3 ([.lst oa ca 1 x_a, .lst ob cb 1 x_b]) ([]) = Option.map (fun r : Bool => ((.bool r, []) : AV × List Blk)) (laws_FnThreesParted L a b)


theorem laws_FnThreesParted_run (L : Nat) (C : CF) (h_laws_big : laws_big_ok L C) (h_impl_TwiceArea : impl_TwiceArea_ok L C) (h_impl_PegsOn : impl_PegsOn_ok L C) (h_spec_DrawPartsOfPeg : spec_DrawPartsOfPeg_ok L C) (h_impl_PartsOfPeg : impl_PartsOfPeg_ok L C) (h_spec_PartsOfPeg : spec_PartsOfPeg_ok L C) (h_laws_zSame : laws_zSame_ok L C) (h_impl_PegOfParts : impl_PegOfParts_ok L C) (h_impl_WhereIs : impl_WhereIs_ok L C) (h_spec_DrawSplitThree : spec_DrawSplitThree_ok L C) (h_impl_SplitThree : impl_SplitThree_ok L C) (h_spec_SplitThree : spec_SplitThree_ok L C) (h_spec_DrawPegOfParts : spec_DrawPegOfParts_ok L C) (h_spec_PegOfParts : spec_PegOfParts_ok L C) (h_spec_DrawIsEmptyThree : spec_DrawIsEmptyThree_ok L C) (h_impl_IsEmptyThree : impl_IsEmptyThree_ok L C) (h_spec_IsEmptyThree : spec_IsEmptyThree_ok L C) (h_impl_IsHollowThree : impl_IsHollowThree_ok L C) (h_spec_IsHollowThree : spec_IsHollowThree_ok L C) (h_laws_zLists : laws_zLists_ok L C) (h_impl_PegsInside : impl_PegsInside_ok L C) : ∀ (oa : Bool) (ca : Bool) (x_a : List AV) (a : List Int) (_ : x_a = List.map eU a) (ob : Bool) (cb : Bool) (x_b : List AV) (b : List Int) (_ : x_b = List.map eU b), run T C sh (keep 3) L Try.f3 ([.lst oa ca 1 x_a, .lst ob cb 1 x_b]) ([]) = Option.map (fun r : Bool => ((.bool r, []) : AV × List Blk)) (laws_FnThreesParted L a b) := by
 intro oa ca x_a a hx_a ob cb x_b b hx_b
 subst hx_a
 subst hx_b
 unfold laws_FnThreesParted
 conv => lhs; whnf
 refine t_call (h_laws_big _ _ _ a (by first | rfl | simp only [ml] <;> rfl) _ _ _ b (by first | rfl | simp only [ml] <;> rfl)) fun r => ?_
 conv => lhs; whnf
 refine t_cond ?_ ?_
 ·conv => lhs; whnf
  exact t_ret (by first | rfl | simp only [ml] <;> rfl)
 ·conv => lhs; whnf
  refine t_call (h_spec_DrawPartsOfPeg _ _ _ a (by first | rfl | simp only [ml] <;> rfl)) fun r1 => ?_
  conv => lhs; whnf
  refine t_call (h_impl_PartsOfPeg _ _ _ (Prod.fst r1) (by first | rfl | simp only [ml] <;> rfl) (Prod.fst (Prod.snd r1)) (Prod.snd (Prod.snd r1))) fun r2 => ?_
  conv => lhs; whnf
  refine t_call (h_spec_PartsOfPeg _ _ _ (Prod.fst r1) (by first | rfl | simp only [ml] <;> rfl) (Prod.fst (Prod.snd r1)) (Prod.snd (Prod.snd r1))) fun r3 => ?_
  conv => lhs; whnf
  refine t_cond ?_ ?_
  ·conv => lhs; whnf
   exact t_ret (by first | rfl | simp only [ml] <;> rfl)
  ·conv => lhs; whnf
   refine t_call (h_laws_zSame _ _ _ (Prod.fst r2) (by first | rfl | simp only [ml] <;> rfl) _ _ _ (Prod.fst r3) (by first | rfl | simp only [ml] <;> rfl)) fun r4 => ?_
   conv => lhs; whnf
   refine t_cond ?_ ?_
   ·conv => lhs; whnf
    exact t_ret (by first | rfl | simp only [ml] <;> rfl)
   ·conv => lhs; whnf
    refine t_join (fun (v1 : (List Int)) => (AV.top :: AV.lst ob cb 1 (List.map eU v1) :: tops 350, [])) (fun (v1 : (List Int)) => laws_FnThreesParted_j0 L v1) ?_ fun J hJ => ?_
    ·intro v1
     show _ = Option.map _ (laws_FnThreesParted_j0 L v1)
     unfold laws_FnThreesParted_j0
     conv => lhs; whnf
     refine t_call (h_spec_DrawSplitThree _ _ _ v1 (by first | rfl | simp only [ml] <;> rfl)) fun r5 => ?_
     conv => lhs; whnf
     refine t_call (h_impl_SplitThree _ _ _ (Prod.fst r5) (by first | rfl | simp only [ml] <;> rfl) (Prod.fst (Prod.snd r5)) (Prod.snd (Prod.snd r5))) fun r6 => ?_
     conv => lhs; whnf
     refine t_call (h_spec_SplitThree _ _ _ (Prod.fst r5) (by first | rfl | simp only [ml] <;> rfl) (Prod.fst (Prod.snd r5)) (Prod.snd (Prod.snd r5))) fun r7 => ?_
     conv => lhs; whnf
     refine t_call (h_spec_DrawPegOfParts _ _ _ v1 (by first | rfl | simp only [ml] <;> rfl)) fun r8 => ?_
     conv => lhs; whnf
     refine t_call (h_impl_PegOfParts _ _ _ (Prod.fst r8) (by first | rfl | simp only [ml] <;> rfl) _ _ _ (Prod.snd r8) (by first | rfl | simp only [ml] <;> rfl)) fun r9 => ?_
     conv => lhs; whnf
     refine t_call (h_spec_PegOfParts _ _ _ (Prod.fst r8) (by first | rfl | simp only [ml] <;> rfl) _ _ _ (Prod.snd r8) (by first | rfl | simp only [ml] <;> rfl)) fun r10 => ?_
     conv => lhs; whnf
     refine t_call (h_spec_DrawIsEmptyThree _ _ _ v1 (by first | rfl | simp only [ml] <;> rfl)) fun r11 => ?_
     conv => lhs; whnf
     refine t_call (h_impl_IsEmptyThree _ _ _ r11 (by first | rfl | simp only [ml] <;> rfl)) fun r12 => ?_
     conv => lhs; whnf
     refine t_call (h_spec_IsEmptyThree _ _ _ r11 (by first | rfl | simp only [ml] <;> rfl)) fun r13 => ?_
     conv => lhs; whnf
     refine t_call (h_impl_IsHollowThree _ _ _ r11 (by first | rfl | simp only [ml] <;> rfl)) fun r14 => ?_
     conv => lhs; whnf
     refine t_call (h_spec_IsHollowThree _ _ _ r11 (by first | rfl | simp only [ml] <;> rfl)) fun r15 => ?_
     conv => lhs; whnf
     refine t_join (fun (_ : Unit) => (topA 20 (AV.own 0 2 none false :: AV.ptr 1 0 0 2 :: AV.own 2 1 none false :: AV.bool (Prod.snd r6) :: topA 2 (AV.own 3 2 none false :: AV.own 4 1 none false :: AV.ptr 5 0 0 2 :: AV.bool (Prod.snd (Prod.snd r9)) :: topA 2 (AV.own 6 2 none false :: AV.bool (Prod.fst r12) :: AV.bool (Prod.snd r12) :: topA 2 (AV.bool (Prod.fst r14) :: tops 314)))), [Blk.rows Mode.live 2 (List.map ep (Prod.fst r5)), Blk.box (AV.agg [AV.int IntKind.i64 (Prod.fst (Prod.snd r5)), AV.int IntKind.i64 (Prod.snd (Prod.snd r5))]), Blk.rows Mode.live 1 (List.map eLP (Prod.fst r6)), Blk.rows Mode.live 2 (List.map ep (Prod.fst r8)), Blk.rows Mode.live 1 (List.map eI (Prod.snd r8)), Blk.box (AV.agg [AV.int IntKind.i64 (Prod.fst r9), AV.int IntKind.i64 (Prod.fst (Prod.snd r9))]), Blk.rows Mode.live 2 (List.map ep r11)])) (fun (_ : Unit) => laws_FnThreesParted_j1 L r5 r6 r8 r9 r11 r12 r14) ?_ fun J1 hJ1 => ?_
     ·intro s1
      show _ = Option.map _ (laws_FnThreesParted_j1 L r5 r6 r8 r9 r11 r12 r14)
      unfold laws_FnThreesParted_j1
      conv => lhs; whnf
      refine t_join (fun (⟨v29, v33, v34, v37, w0, w1, b2_0, b2_1, w3⟩ : Bool × Bool × Bool × Bool × (List Pt) × (List Int) × Int × Int × (List Pt)) => (topA 26 (AV.own 0 2 none false :: AV.own 1 1 none false :: AV.ptr 2 0 0 2 :: AV.bool v29 :: topA 2 (AV.own 3 2 none false :: AV.bool v33 :: AV.bool v34 :: topA 2 (AV.bool v37 :: tops 314))), [Blk.rows Mode.live 2 (List.map ep w0), Blk.rows Mode.live 1 (List.map eI w1), Blk.box (AV.agg [AV.int IntKind.i64 b2_0, AV.int IntKind.i64 b2_1]), Blk.rows Mode.live 2 (List.map ep w3)])) (fun (⟨v29, v33, v34, v37, w0, w1, b2_0, b2_1, w3⟩ : Bool × Bool × Bool × Bool × (List Pt) × (List Int) × Int × Int × (List Pt)) => laws_FnThreesParted_j2 L v29 v33 v34 v37 w0 w1 b2_0 b2_1 w3) ?_ fun J2 hJ2 => ?_
      ·intro s2
       obtain ⟨v29, v33, v34, v37, w0, w1, b2_0, b2_1, w3⟩ := s2
       show _ = Option.map _ (laws_FnThreesParted_j2 L v29 v33 v34 v37 w0 w1 b2_0 b2_1 w3)
       unfold laws_FnThreesParted_j2
       conv => lhs; whnf
       refine t_join (fun (_ : Unit) => (topA 32 (AV.own 0 2 none false :: AV.bool v33 :: AV.bool v34 :: topA 2 (AV.bool v37 :: tops 314)), [Blk.rows Mode.live 2 (List.map ep w3)])) (fun (_ : Unit) => laws_FnThreesParted_j3 L v33 v34 v37 w3) ?_ fun J3 hJ3 => ?_
       ·intro s3
        show _ = Option.map _ (laws_FnThreesParted_j3 L v33 v34 v37 w3)
        unfold laws_FnThreesParted_j3
        conv => lhs; whnf
        refine t_cond ?_ ?_
        ·conv => lhs; whnf
         refine t_call (h_impl_PegsInside _ _ _ w3 (by first | rfl | simp only [ml] <;> rfl)) fun r16 => ?_
         conv => lhs; whnf
         refine t_call (h_impl_PegsOn _ _ _ w3 (by first | rfl | simp only [ml] <;> rfl)) fun r17 => ?_
         conv => lhs; whnf
         refine t_cond ?_ ?_
         ·conv => lhs; whnf
          refine t_cond ?_ ?_
          ·conv => lhs; whnf
           refine t_cond ?_ ?_
           ·conv => lhs; whnf
            refine t_cond ?_ ?_
            ·conv => lhs; whnf
             exact t_ret (by first | rfl | simp only [ml] <;> rfl)
            ·conv => lhs; whnf
             exact t_ret (by first | rfl | simp only [ml] <;> rfl)
           ·conv => lhs; whnf
            exact t_ret (by first | rfl | simp only [ml] <;> rfl)
          ·conv => lhs; whnf
           exact t_ret (by first | rfl | simp only [ml] <;> rfl)
         ·conv => lhs; whnf
          exact t_ret (by first | rfl | simp only [ml] <;> rfl)
        ·conv => lhs; whnf
         exact t_ret (by first | rfl | simp only [ml] <;> rfl)
       ·conv => lhs; whnf
        refine t_cond ?_ ?_
        ·conv => lhs; whnf
         refine t_call (h_impl_PartsOfPeg _ _ _ w0 (by first | rfl | simp only [ml] <;> rfl) b2_0 b2_1) fun r18 => ?_
         conv => lhs; whnf
         refine t_cond ?_ ?_
         ·conv => lhs; whnf
          exact t_ret (by first | rfl | simp only [ml] <;> rfl)
         ·conv => lhs; whnf
          refine t_call (h_laws_zSame _ _ _ (Prod.fst r18) (by first | rfl | simp only [ml] <;> rfl) _ _ _ w1 (by first | rfl | simp only [ml] <;> rfl)) fun r19 => ?_
          conv => lhs; whnf
          refine t_cond ?_ ?_
          ·conv => lhs; whnf
           exact t_ret (by first | rfl | simp only [ml] <;> rfl)
          ·conv => lhs; whnf
           exact hJ3 () _ _ (by first | rfl | simp only [ml] <;> rfl) (by first | rfl | simp only [ml] <;> rfl)
        ·conv => lhs; whnf
         exact hJ3 () _ _ (by first | rfl | simp only [ml] <;> rfl) (by first | rfl | simp only [ml] <;> rfl)
      ·conv => lhs; whnf
       refine t_cond ?_ ?_
       ·conv => lhs; whnf
        refine t_call (h_impl_PartsOfPeg _ _ _ (Prod.fst r5) (by first | rfl | simp only [ml] <;> rfl) (Prod.fst (Prod.snd r5)) (Prod.snd (Prod.snd r5))) fun r20 => ?_
        conv => lhs; whnf
        refine t_cond ?_ ?_
        ·conv => lhs; whnf
         exact t_ret (by first | rfl | simp only [ml] <;> rfl)
        ·conv => lhs; whnf
         refine t_cond ?_ ?_
         ·conv => lhs; whnf
          exact t_ret (by first | rfl | simp only [ml] <;> rfl)
         ·conv => lhs; whnf
          refine t_loop (fun (v286 : Int) => (topA 26 (AV.own 0 2 none false :: AV.own 1 1 none false :: AV.ptr 2 0 0 2 :: AV.bool (Prod.snd (Prod.snd r9)) :: topA 2 (AV.own 3 2 none false :: AV.bool (Prod.fst r12) :: AV.bool (Prod.snd r12) :: topA 2 (AV.bool (Prod.fst r14) :: topA 3 (AV.own 4 1 none false :: topA 242 (AV.own 5 1 none false :: AV.int IntKind.i64 (ilen (List.map eLP (Prod.fst r6))) :: AV.int IntKind.i64 v286 :: tops 65))))), [Blk.rows Mode.live 2 (List.map ep (Prod.fst r8)), Blk.rows Mode.live 1 (List.map eI (Prod.snd r8)), Blk.box (AV.agg [AV.int IntKind.i64 (Prod.fst r9), AV.int IntKind.i64 (Prod.fst (Prod.snd r9))]), Blk.rows Mode.live 2 (List.map ep r11), Blk.rows Mode.live 1 (List.map eI (Prod.fst r20)), Blk.rows Mode.live 1 (List.map eLP (Prod.fst r6))])) (fun m (v286 : Int) => laws_FnThreesParted_l4 L r6 r8 r9 r11 r12 r14 r20 m v286) (fun _ => rfl) (fun m v286 rec hrec => ?_) L 0 ?_ ?_
          rotate_left
          ·first | rfl | simp only [ml] <;> rfl
          ·first | rfl | simp only [ml] <;> rfl
          show _ = Option.map _ (laws_FnThreesParted_l4 L r6 r8 r9 r11 r12 r14 r20 (m + 1) v286)
          rw [laws_FnThreesParted_l4.eq_2]
          conv => lhs; whnf
          refine t_cond ?_ ?_
          ·conv => lhs; whnf
           refine t_cond ?_ ?_
           ·conv => lhs; whnf
            refine t_get (en := eLP) (l := Prod.fst r6) (by first | rfl | simp only [ml] <;> rfl) fun p => ?_
            conv => lhs; whnf
            refine t_call (h_impl_TwiceArea _ _ _ p (by first | rfl | simp only [ml] <;> rfl)) fun r21 => ?_
            conv => lhs; whnf
            refine t_cond ?_ ?_
            ·conv => lhs; whnf
             exact t_ret (by first | rfl | simp only [ml] <;> rfl)
            ·conv => lhs; whnf
             refine t_cond ?_ ?_
             ·conv => lhs; whnf
              refine t_get (en := eI) (l := Prod.fst r20) (by first | rfl | simp only [ml] <;> rfl) fun p1 => ?_
              conv => lhs; whnf
              refine t_cond ?_ ?_
              ·conv => lhs; whnf
               exact t_ret (by first | rfl | simp only [ml] <;> rfl)
              ·conv => lhs; whnf
               exact hrec (wr IntKind.i64 (iadd v286 1)) _ _ (by first | rfl | simp only [ml] <;> rfl) (by first | rfl | simp only [ml] <;> rfl)
             ·conv => lhs; whnf
              exact t_none
           ·conv => lhs; whnf
            exact t_none
          ·conv => lhs; whnf
           exact hJ2 ((Prod.snd (Prod.snd r9), Prod.fst r12, Prod.snd r12, Prod.fst r14, Prod.fst r8, Prod.snd r8, Prod.fst r9, Prod.fst (Prod.snd r9), r11)) _ _ (by first | rfl | simp only [ml] <;> rfl) (by first | rfl | simp only [ml] <;> rfl)
       ·conv => lhs; whnf
        exact hJ2 ((Prod.snd (Prod.snd r9), Prod.fst r12, Prod.snd r12, Prod.fst r14, Prod.fst r8, Prod.snd r8, Prod.fst r9, Prod.fst (Prod.snd r9), r11)) _ _ (by first | rfl | simp only [ml] <;> rfl) (by first | rfl | simp only [ml] <;> rfl)
     ·conv => lhs; whnf
      refine t_cond ?_ ?_
      ·conv => lhs; whnf
       exact t_ret (by first | rfl | simp only [ml] <;> rfl)
      ·conv => lhs; whnf
       refine t_call (h_laws_zLists _ _ _ (Prod.fst r6) (by first | rfl | simp only [ml] <;> rfl) _ _ _ (Prod.fst r7) (by first | rfl | simp only [ml] <;> rfl)) fun r22 => ?_
       conv => lhs; whnf
       refine t_cond ?_ ?_
       ·conv => lhs; whnf
        exact t_ret (by first | rfl | simp only [ml] <;> rfl)
       ·conv => lhs; whnf
        refine t_cond ?_ ?_
        ·conv => lhs; whnf
         exact t_ret (by first | rfl | simp only [ml] <;> rfl)
        ·conv => lhs; whnf
         refine t_cond ?_ ?_
         ·conv => lhs; whnf
          exact t_ret (by first | rfl | simp only [ml] <;> rfl)
         ·conv => lhs; whnf
          refine t_cond ?_ ?_
          ·conv => lhs; whnf
           exact t_ret (by first | rfl | simp only [ml] <;> rfl)
          ·conv => lhs; whnf
           refine t_cond ?_ ?_
           ·conv => lhs; whnf
            exact t_ret (by first | rfl | simp only [ml] <;> rfl)
           ·conv => lhs; whnf
            refine t_cond ?_ ?_
            ·conv => lhs; whnf
             exact t_ret (by first | rfl | simp only [ml] <;> rfl)
            ·conv => lhs; whnf
             refine t_cond ?_ ?_
             ·conv => lhs; whnf
              exact t_ret (by first | rfl | simp only [ml] <;> rfl)
             ·conv => lhs; whnf
              refine t_cond ?_ ?_
              ·conv => lhs; whnf
               exact t_ret (by first | rfl | simp only [ml] <;> rfl)
              ·conv => lhs; whnf
               refine t_cond ?_ ?_
               ·conv => lhs; whnf
                refine t_cond ?_ ?_
                ·conv => lhs; whnf
                 exact t_ret (by first | rfl | simp only [ml] <;> rfl)
                ·conv => lhs; whnf
                 exact hJ1 () _ _ (by first | rfl | simp only [ml] <;> rfl) (by first | rfl | simp only [ml] <;> rfl)
               ·conv => lhs; whnf
                exact hJ1 () _ _ (by first | rfl | simp only [ml] <;> rfl) (by first | rfl | simp only [ml] <;> rfl)
    ·conv => lhs; whnf
     refine t_cond ?_ ?_
     ·conv => lhs; whnf
      refine t_call (h_impl_TwiceArea _ _ _ (Prod.fst r1) (by first | rfl | simp only [ml] <;> rfl)) fun r23 => ?_
      conv => lhs; whnf
      refine t_call (h_impl_PegOfParts _ _ _ (Prod.fst r1) (by first | rfl | simp only [ml] <;> rfl) _ _ _ (Prod.fst r2) (by first | rfl | simp only [ml] <;> rfl)) fun r24 => ?_
      conv => lhs; whnf
      refine t_call (h_impl_WhereIs _ _ _ (Prod.fst r1) (by first | rfl | simp only [ml] <;> rfl) (Prod.fst (Prod.snd r1)) (Prod.snd (Prod.snd r1))) fun r25 => ?_
      conv => lhs; whnf
      refine t_cond ?_ ?_
      ·conv => lhs; whnf
       exact t_ret (by first | rfl | simp only [ml] <;> rfl)
      ·conv => lhs; whnf
       refine t_cond ?_ ?_
       ·conv => lhs; whnf
        exact t_ret (by first | rfl | simp only [ml] <;> rfl)
       ·conv => lhs; whnf
        refine t_cond ?_ ?_
        ·conv => lhs; whnf
         refine t_get (en := eI) (l := Prod.fst r2) (by first | rfl | simp only [ml] <;> rfl) fun p2 => ?_
         conv => lhs; whnf
         refine t_cond ?_ ?_
         ·conv => lhs; whnf
          refine t_get (en := eI) (l := Prod.fst r2) (by first | rfl | simp only [ml] <;> rfl) fun p3 => ?_
          conv => lhs; whnf
          refine t_cond ?_ ?_
          ·conv => lhs; whnf
           refine t_get (en := eI) (l := Prod.fst r2) (by first | rfl | simp only [ml] <;> rfl) fun p4 => ?_
           conv => lhs; whnf
           refine t_cond ?_ ?_
           ·conv => lhs; whnf
            exact t_ret (by first | rfl | simp only [ml] <;> rfl)
           ·conv => lhs; whnf
            refine t_cond ?_ ?_
            ·conv => lhs; whnf
             exact t_ret (by first | rfl | simp only [ml] <;> rfl)
            ·conv => lhs; whnf
             refine t_cond ?_ ?_
             ·conv => lhs; whnf
              exact t_ret (by first | rfl | simp only [ml] <;> rfl)
             ·conv => lhs; whnf
              refine t_cond ?_ ?_
              ·conv => lhs; whnf
               exact t_ret (by first | rfl | simp only [ml] <;> rfl)
              ·conv => lhs; whnf
               refine t_loop (fun (⟨v17, v137⟩ : Bool × Int) => (AV.top :: AV.lst ob cb 1 (List.map eU b) :: topA 9 (AV.int IntKind.i64 (Prod.fst r23) :: topA 3 (AV.int IntKind.i64 (Prod.fst r25) :: AV.top :: AV.bool v17 :: topA 117 (AV.own 0 1 none false :: AV.int IntKind.i64 (ilen (List.map eI (Prod.fst r2))) :: AV.int IntKind.i64 v137 :: tops 214))), [Blk.rows Mode.live 1 (List.map eI (Prod.fst r2))])) (fun m1 (⟨v17, v137⟩ : Bool × Int) => laws_FnThreesParted_l5 L b r2 r23 r25 m1 v17 v137) (fun _ => rfl) (fun m1 s5 rec1 hrec1 => ?_) L ((true, 0)) ?_ ?_
               rotate_left
               ·first | rfl | simp only [ml] <;> rfl
               ·first | rfl | simp only [ml] <;> rfl
               obtain ⟨v17, v137⟩ := s5
               show _ = Option.map _ (laws_FnThreesParted_l5 L b r2 r23 r25 (m1 + 1) v17 v137)
               rw [laws_FnThreesParted_l5.eq_2]
               conv => lhs; whnf
               refine t_cond ?_ ?_
               ·conv => lhs; whnf
                refine t_cond ?_ ?_
                ·conv => lhs; whnf
                 refine t_get (en := eI) (l := Prod.fst r2) (by first | rfl | simp only [ml] <;> rfl) fun p5 => ?_
                 conv => lhs; whnf
                 refine t_cond ?_ ?_
                 ·conv => lhs; whnf
                  refine t_cond ?_ ?_
                  ·conv => lhs; whnf
                   refine t_cond ?_ ?_
                   ·conv => lhs; whnf
                    exact hrec1 ((true, wr IntKind.i64 (iadd v137 1))) _ _ (by first | rfl | simp only [ml] <;> rfl) (by first | rfl | simp only [ml] <;> rfl)
                   ·conv => lhs; whnf
                    refine t_cond ?_ ?_
                    ·conv => lhs; whnf
                     exact hrec1 ((ile p5 0, wr IntKind.i64 (iadd v137 1))) _ _ (by first | rfl | simp only [ml] <;> rfl) (by first | rfl | simp only [ml] <;> rfl)
                    ·conv => lhs; whnf
                     exact hrec1 ((false, wr IntKind.i64 (iadd v137 1))) _ _ (by first | rfl | simp only [ml] <;> rfl) (by first | rfl | simp only [ml] <;> rfl)
                  ·conv => lhs; whnf
                   refine t_cond ?_ ?_
                   ·conv => lhs; whnf
                    exact hrec1 ((ile p5 0, wr IntKind.i64 (iadd v137 1))) _ _ (by first | rfl | simp only [ml] <;> rfl) (by first | rfl | simp only [ml] <;> rfl)
                   ·conv => lhs; whnf
                    exact hrec1 ((false, wr IntKind.i64 (iadd v137 1))) _ _ (by first | rfl | simp only [ml] <;> rfl) (by first | rfl | simp only [ml] <;> rfl)
                 ·conv => lhs; whnf
                  exact hrec1 ((false, wr IntKind.i64 (iadd v137 1))) _ _ (by first | rfl | simp only [ml] <;> rfl) (by first | rfl | simp only [ml] <;> rfl)
                ·conv => lhs; whnf
                 exact t_none
               ·conv => lhs; whnf
                refine t_cond ?_ ?_
                ·conv => lhs; whnf
                 exact t_ret (by first | rfl | simp only [ml] <;> rfl)
                ·conv => lhs; whnf
                 exact hJ b _ _ (by first | rfl | simp only [ml] <;> rfl) (by first | rfl | simp only [ml] <;> rfl)
          ·conv => lhs; whnf
           exact t_none
         ·conv => lhs; whnf
          exact t_none
        ·conv => lhs; whnf
         exact t_none
     ·conv => lhs; whnf
      exact hJ b _ _ (by first | rfl | simp only [ml] <;> rfl) (by first | rfl | simp only [ml] <;> rfl)


end Go.AM
