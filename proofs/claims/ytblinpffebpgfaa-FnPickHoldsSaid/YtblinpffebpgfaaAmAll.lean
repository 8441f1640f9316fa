import Derived.Test.YtblinpffebpgfaaAmM1
import Derived.KernelRfl
set_option linter.unusedVariables false
set_option linter.unusedSimpArgs false
set_option linter.unnecessarySimpa false
set_option linter.deprecated false
set_option linter.unusedSectionVars false
open Go Go.AM Go.Proofs
namespace Go.AM
set_option maxRecDepth 100000
noncomputable def rowsF : List (Nat × Func) := [(3, Try.f3), (4, Try.f4), (5, Try.f5), (6, Try.f6), (7, Try.f7), (8, Try.f8), (9, Try.f9), (10, Try.f10), (11, Try.f11), (12, Try.f12), (13, Try.f13), (14, Try.f14), (15, Try.f15), (16, Try.f16), (17, Try.f17), (18, Try.f18), (19, Try.f19), (20, Try.f20), (21, Try.f21), (22, Try.f22), (23, Try.f23), (24, Try.f24), (25, Try.f25), (26, Try.f26), (27, Try.f27), (28, Try.f28), (29, Try.f29), (30, Try.f30), (31, Try.f31), (32, Try.f32), (33, Try.f33), (34, Try.f34), (35, Try.f35), (36, Try.f36), (37, Try.f37), (38, Try.f38), (39, Try.f39), (40, Try.f40), (41, Try.f41), (42, Try.f42), (43, Try.f43), (44, Try.f44), (45, Try.f45), (46, Try.f46), (47, Try.f47), (48, Try.f48), (49, Try.f49), (50, Try.f50), (51, Try.f51), (52, Try.f52), (53, Try.f53), (54, Try.f54), (55, Try.f55), (56, Try.f56), (57, Try.f57), (58, Try.f58), (59, Try.f59), (60, Try.f60), (61, Try.f61), (62, Try.f62), (63, Try.f63), (64, Try.f64), (65, Try.f65), (66, Try.f66), (67, Try.f67), (68, Try.f68), (69, Try.f69), (70, Try.f70), (71, Try.f71), (72, Try.f72), (73, Try.f73), (74, Try.f74), (75, Try.f75), (76, Try.f76), (77, Try.f77), (78, Try.f78), (79, Try.f79), (80, Try.f80), (81, Try.f81), (82, Try.f82), (83, Try.f83), (84, Try.f84), (85, Try.f85), (86, Try.f86), (87, Try.f87), (88, Try.f88), (89, Try.f89)]
theorem fok3 : FOk Try.prog sh keep (3, Try.f3) := ⟨Try.func3, by kernel_rfl, by kernel_rfl⟩
theorem fok4 : FOk Try.prog sh keep (4, Try.f4) := ⟨Try.func4, by kernel_rfl, by kernel_rfl⟩
theorem fok5 : FOk Try.prog sh keep (5, Try.f5) := ⟨Try.func5, by kernel_rfl, by kernel_rfl⟩
theorem fok6 : FOk Try.prog sh keep (6, Try.f6) := ⟨Try.func6, by kernel_rfl, by kernel_rfl⟩
theorem fok7 : FOk Try.prog sh keep (7, Try.f7) := ⟨Try.func7, by kernel_rfl, by kernel_rfl⟩
theorem fok8 : FOk Try.prog sh keep (8, Try.f8) := ⟨Try.func8, by kernel_rfl, by kernel_rfl⟩
theorem fok9 : FOk Try.prog sh keep (9, Try.f9) := ⟨Try.func9, by kernel_rfl, by kernel_rfl⟩
theorem fok10 : FOk Try.prog sh keep (10, Try.f10) := ⟨Try.func10, by kernel_rfl, by kernel_rfl⟩
theorem fok11 : FOk Try.prog sh keep (11, Try.f11) := ⟨Try.func11, by kernel_rfl, by kernel_rfl⟩
theorem fok12 : FOk Try.prog sh keep (12, Try.f12) := ⟨Try.func12, by kernel_rfl, by kernel_rfl⟩
theorem fok13 : FOk Try.prog sh keep (13, Try.f13) := ⟨Try.func13, by kernel_rfl, by kernel_rfl⟩
theorem fok14 : FOk Try.prog sh keep (14, Try.f14) := ⟨Try.func14, by kernel_rfl, by kernel_rfl⟩
theorem fok15 : FOk Try.prog sh keep (15, Try.f15) := ⟨Try.func15, by kernel_rfl, by kernel_rfl⟩
theorem fok16 : FOk Try.prog sh keep (16, Try.f16) := ⟨Try.func16, by kernel_rfl, by kernel_rfl⟩
theorem fok17 : FOk Try.prog sh keep (17, Try.f17) := ⟨Try.func17, by kernel_rfl, by kernel_rfl⟩
theorem fok18 : FOk Try.prog sh keep (18, Try.f18) := ⟨Try.func18, by kernel_rfl, by kernel_rfl⟩
theorem fok19 : FOk Try.prog sh keep (19, Try.f19) := ⟨Try.func19, by kernel_rfl, by kernel_rfl⟩
theorem fok20 : FOk Try.prog sh keep (20, Try.f20) := ⟨Try.func20, by kernel_rfl, by kernel_rfl⟩
theorem fok21 : FOk Try.prog sh keep (21, Try.f21) := ⟨Try.func21, by kernel_rfl, by kernel_rfl⟩
theorem fok22 : FOk Try.prog sh keep (22, Try.f22) := ⟨Try.func22, by kernel_rfl, by kernel_rfl⟩
theorem fok23 : FOk Try.prog sh keep (23, Try.f23) := ⟨Try.func23, by kernel_rfl, by kernel_rfl⟩
theorem fok24 : FOk Try.prog sh keep (24, Try.f24) := ⟨Try.func24, by kernel_rfl, by kernel_rfl⟩
theorem fok25 : FOk Try.prog sh keep (25, Try.f25) := ⟨Try.func25, by kernel_rfl, by kernel_rfl⟩
theorem fok26 : FOk Try.prog sh keep (26, Try.f26) := ⟨Try.func26, by kernel_rfl, by kernel_rfl⟩
theorem fok27 : FOk Try.prog sh keep (27, Try.f27) := ⟨Try.func27, by kernel_rfl, by kernel_rfl⟩
theorem fok28 : FOk Try.prog sh keep (28, Try.f28) := ⟨Try.func28, by kernel_rfl, by kernel_rfl⟩
theorem fok29 : FOk Try.prog sh keep (29, Try.f29) := ⟨Try.func29, by kernel_rfl, by kernel_rfl⟩
theorem fok30 : FOk Try.prog sh keep (30, Try.f30) := ⟨Try.func30, by kernel_rfl, by kernel_rfl⟩
theorem fok31 : FOk Try.prog sh keep (31, Try.f31) := ⟨Try.func31, by kernel_rfl, by kernel_rfl⟩
theorem fok32 : FOk Try.prog sh keep (32, Try.f32) := ⟨Try.func32, by kernel_rfl, by kernel_rfl⟩
theorem fok33 : FOk Try.prog sh keep (33, Try.f33) := ⟨Try.func33, by kernel_rfl, by kernel_rfl⟩
theorem fok34 : FOk Try.prog sh keep (34, Try.f34) := ⟨Try.func34, by kernel_rfl, by kernel_rfl⟩
theorem fok35 : FOk Try.prog sh keep (35, Try.f35) := ⟨Try.func35, by kernel_rfl, by kernel_rfl⟩
theorem fok36 : FOk Try.prog sh keep (36, Try.f36) := ⟨Try.func36, by kernel_rfl, by kernel_rfl⟩
theorem fok37 : FOk Try.prog sh keep (37, Try.f37) := ⟨Try.func37, by kernel_rfl, by kernel_rfl⟩
theorem fok38 : FOk Try.prog sh keep (38, Try.f38) := ⟨Try.func38, by kernel_rfl, by kernel_rfl⟩
theorem fok39 : FOk Try.prog sh keep (39, Try.f39) := ⟨Try.func39, by kernel_rfl, by kernel_rfl⟩
theorem fok40 : FOk Try.prog sh keep (40, Try.f40) := ⟨Try.func40, by kernel_rfl, by kernel_rfl⟩
theorem fok41 : FOk Try.prog sh keep (41, Try.f41) := ⟨Try.func41, by kernel_rfl, by kernel_rfl⟩
theorem fok42 : FOk Try.prog sh keep (42, Try.f42) := ⟨Try.func42, by kernel_rfl, by kernel_rfl⟩
theorem fok43 : FOk Try.prog sh keep (43, Try.f43) := ⟨Try.func43, by kernel_rfl, by kernel_rfl⟩
theorem fok44 : FOk Try.prog sh keep (44, Try.f44) := ⟨Try.func44, by kernel_rfl, by kernel_rfl⟩
theorem fok45 : FOk Try.prog sh keep (45, Try.f45) := ⟨Try.func45, by kernel_rfl, by kernel_rfl⟩
theorem fok46 : FOk Try.prog sh keep (46, Try.f46) := ⟨Try.func46, by kernel_rfl, by kernel_rfl⟩
theorem fok47 : FOk Try.prog sh keep (47, Try.f47) := ⟨Try.func47, by kernel_rfl, by kernel_rfl⟩
theorem fok48 : FOk Try.prog sh keep (48, Try.f48) := ⟨Try.func48, by kernel_rfl, by kernel_rfl⟩
theorem fok49 : FOk Try.prog sh keep (49, Try.f49) := ⟨Try.func49, by kernel_rfl, by kernel_rfl⟩
theorem fok50 : FOk Try.prog sh keep (50, Try.f50) := ⟨Try.func50, by kernel_rfl, by kernel_rfl⟩
theorem fok51 : FOk Try.prog sh keep (51, Try.f51) := ⟨Try.func51, by kernel_rfl, by kernel_rfl⟩
theorem fok52 : FOk Try.prog sh keep (52, Try.f52) := ⟨Try.func52, by kernel_rfl, by kernel_rfl⟩
theorem fok53 : FOk Try.prog sh keep (53, Try.f53) := ⟨Try.func53, by kernel_rfl, by kernel_rfl⟩
theorem fok54 : FOk Try.prog sh keep (54, Try.f54) := ⟨Try.func54, by kernel_rfl, by kernel_rfl⟩
theorem fok55 : FOk Try.prog sh keep (55, Try.f55) := ⟨Try.func55, by kernel_rfl, by kernel_rfl⟩
theorem fok56 : FOk Try.prog sh keep (56, Try.f56) := ⟨Try.func56, by kernel_rfl, by kernel_rfl⟩
theorem fok57 : FOk Try.prog sh keep (57, Try.f57) := ⟨Try.func57, by kernel_rfl, by kernel_rfl⟩
theorem fok58 : FOk Try.prog sh keep (58, Try.f58) := ⟨Try.func58, by kernel_rfl, by kernel_rfl⟩
theorem fok59 : FOk Try.prog sh keep (59, Try.f59) := ⟨Try.func59, by kernel_rfl, by kernel_rfl⟩
theorem fok60 : FOk Try.prog sh keep (60, Try.f60) := ⟨Try.func60, by kernel_rfl, by kernel_rfl⟩
theorem fok61 : FOk Try.prog sh keep (61, Try.f61) := ⟨Try.func61, by kernel_rfl, by kernel_rfl⟩
theorem fok62 : FOk Try.prog sh keep (62, Try.f62) := ⟨Try.func62, by kernel_rfl, by kernel_rfl⟩
theorem fok63 : FOk Try.prog sh keep (63, Try.f63) := ⟨Try.func63, by kernel_rfl, by kernel_rfl⟩
theorem fok64 : FOk Try.prog sh keep (64, Try.f64) := ⟨Try.func64, by kernel_rfl, by kernel_rfl⟩
theorem fok65 : FOk Try.prog sh keep (65, Try.f65) := ⟨Try.func65, by kernel_rfl, by kernel_rfl⟩
theorem fok66 : FOk Try.prog sh keep (66, Try.f66) := ⟨Try.func66, by kernel_rfl, by kernel_rfl⟩
theorem fok67 : FOk Try.prog sh keep (67, Try.f67) := ⟨Try.func67, by kernel_rfl, by kernel_rfl⟩
theorem fok68 : FOk Try.prog sh keep (68, Try.f68) := ⟨Try.func68, by kernel_rfl, by kernel_rfl⟩
theorem fok69 : FOk Try.prog sh keep (69, Try.f69) := ⟨Try.func69, by kernel_rfl, by kernel_rfl⟩
theorem fok70 : FOk Try.prog sh keep (70, Try.f70) := ⟨Try.func70, by kernel_rfl, by kernel_rfl⟩
theorem fok71 : FOk Try.prog sh keep (71, Try.f71) := ⟨Try.func71, by kernel_rfl, by kernel_rfl⟩
theorem fok72 : FOk Try.prog sh keep (72, Try.f72) := ⟨Try.func72, by kernel_rfl, by kernel_rfl⟩
theorem fok73 : FOk Try.prog sh keep (73, Try.f73) := ⟨Try.func73, by kernel_rfl, by kernel_rfl⟩
theorem fok74 : FOk Try.prog sh keep (74, Try.f74) := ⟨Try.func74, by kernel_rfl, by kernel_rfl⟩
theorem fok75 : FOk Try.prog sh keep (75, Try.f75) := ⟨Try.func75, by kernel_rfl, by kernel_rfl⟩
theorem fok76 : FOk Try.prog sh keep (76, Try.f76) := ⟨Try.func76, by kernel_rfl, by kernel_rfl⟩
theorem fok77 : FOk Try.prog sh keep (77, Try.f77) := ⟨Try.func77, by kernel_rfl, by kernel_rfl⟩
theorem fok78 : FOk Try.prog sh keep (78, Try.f78) := ⟨Try.func78, by kernel_rfl, by kernel_rfl⟩
theorem fok79 : FOk Try.prog sh keep (79, Try.f79) := ⟨Try.func79, by kernel_rfl, by kernel_rfl⟩
theorem fok80 : FOk Try.prog sh keep (80, Try.f80) := ⟨Try.func80, by kernel_rfl, by kernel_rfl⟩
theorem fok81 : FOk Try.prog sh keep (81, Try.f81) := ⟨Try.func81, by kernel_rfl, by kernel_rfl⟩
theorem fok82 : FOk Try.prog sh keep (82, Try.f82) := ⟨Try.func82, by kernel_rfl, by kernel_rfl⟩
theorem fok83 : FOk Try.prog sh keep (83, Try.f83) := ⟨Try.func83, by kernel_rfl, by kernel_rfl⟩
theorem fok84 : FOk Try.prog sh keep (84, Try.f84) := ⟨Try.func84, by kernel_rfl, by kernel_rfl⟩
theorem fok85 : FOk Try.prog sh keep (85, Try.f85) := ⟨Try.func85, by kernel_rfl, by kernel_rfl⟩
theorem fok86 : FOk Try.prog sh keep (86, Try.f86) := ⟨Try.func86, by kernel_rfl, by kernel_rfl⟩
theorem fok87 : FOk Try.prog sh keep (87, Try.f87) := ⟨Try.func87, by kernel_rfl, by kernel_rfl⟩
theorem fok88 : FOk Try.prog sh keep (88, Try.f88) := ⟨Try.func88, by kernel_rfl, by kernel_rfl⟩
theorem fok89 : FOk Try.prog sh keep (89, Try.f89) := ⟨Try.func89, by kernel_rfl, by kernel_rfl⟩
theorem fokAll : ∀ p ∈ rowsF, FOk Try.prog sh keep p :=
  fOk_cons fok3 (fOk_cons fok4 (fOk_cons fok5 (fOk_cons fok6 (fOk_cons fok7 (fOk_cons fok8 (fOk_cons fok9 (fOk_cons fok10 (fOk_cons fok11 (fOk_cons fok12 (fOk_cons fok13 (fOk_cons fok14 (fOk_cons fok15 (fOk_cons fok16 (fOk_cons fok17 (fOk_cons fok18 (fOk_cons fok19 (fOk_cons fok20 (fOk_cons fok21 (fOk_cons fok22 (fOk_cons fok23 (fOk_cons fok24 (fOk_cons fok25 (fOk_cons fok26 (fOk_cons fok27 (fOk_cons fok28 (fOk_cons fok29 (fOk_cons fok30 (fOk_cons fok31 (fOk_cons fok32 (fOk_cons fok33 (fOk_cons fok34 (fOk_cons fok35 (fOk_cons fok36 (fOk_cons fok37 (fOk_cons fok38 (fOk_cons fok39 (fOk_cons fok40 (fOk_cons fok41 (fOk_cons fok42 (fOk_cons fok43 (fOk_cons fok44 (fOk_cons fok45 (fOk_cons fok46 (fOk_cons fok47 (fOk_cons fok48 (fOk_cons fok49 (fOk_cons fok50 (fOk_cons fok51 (fOk_cons fok52 (fOk_cons fok53 (fOk_cons fok54 (fOk_cons fok55 (fOk_cons fok56 (fOk_cons fok57 (fOk_cons fok58 (fOk_cons fok59 (fOk_cons fok60 (fOk_cons fok61 (fOk_cons fok62 (fOk_cons fok63 (fOk_cons fok64 (fOk_cons fok65 (fOk_cons fok66 (fOk_cons fok67 (fOk_cons fok68 (fOk_cons fok69 (fOk_cons fok70 (fOk_cons fok71 (fOk_cons fok72 (fOk_cons fok73 (fOk_cons fok74 (fOk_cons fok75 (fOk_cons fok76 (fOk_cons fok77 (fOk_cons fok78 (fOk_cons fok79 (fOk_cons fok80 (fOk_cons fok81 (fOk_cons fok82 (fOk_cons fok83 (fOk_cons fok84 (fOk_cons fok85 (fOk_cons fok86 (fOk_cons fok87 (fOk_cons fok88 (fOk_cons fok89 fOk_nil))))))))))))))))))))))))))))))))))))))))))))))))))))))))))))))))))))))))))))))))))))))
theorem tokAll : rowsT.all (tiR Try.prog) = true := by kernel_rfl
noncomputable def F : FuncId → Option Func := findL rowsF
noncomputable def CN (L n : Nat) : CF := callF T F sh keep L n
theorem cn_sound (L n : Nat) : CSound Try.prog (CN L n) := callF_sound tokAll fokAll (by kernel_rfl) L n
theorem kx {L n n' k : Nat} {f : Func} (e : n' = n + 1) (h : F k = some f) (args : List AV) (hp : List Blk) : CN L n' k args hp = run T (CN L n) sh (keep k) L f args hp := by
  subst e; exact callF_step (F := F) h args hp
theorem laws_big_all (L m : Nat) : laws_big_ok L (CN L (m + 1)) := by
  have h := laws_big_run L (CN L (m + 0))
  simpa only [laws_big_ok, kx (L := L) (n := m + 0) (n' := m + 1) (k := 4) (f := Try.f4) rfl (by kernel_rfl)] using h
theorem spec_l1Cur_next_all (L m : Nat) : spec_l1Cur_next_ok L (CN L (m + 1)) := by
  have h := spec_l1Cur_next_run L (CN L (m + 0))
  simpa only [spec_l1Cur_next_ok, kx (L := L) (n := m + 0) (n' := m + 1) (k := 82) (f := Try.f82) rfl (by kernel_rfl)] using h
theorem spec_l1Cur_pick_all (L m : Nat) : spec_l1Cur_pick_ok L (CN L (m + 2)) := by
  have h := spec_l1Cur_pick_run L (CN L (m + 1)) (spec_l1Cur_next_all L (m + 0))
  simpa only [spec_l1Cur_pick_ok, kx (L := L) (n := m + 1) (n' := m + 2) (k := 61) (f := Try.f61) rfl (by kernel_rfl)] using h
theorem spec_l1Cur_one_all (L m : Nat) : spec_l1Cur_one_ok L (CN L (m + 3)) := by
  have h := spec_l1Cur_one_run L (CN L (m + 2)) (spec_l1Cur_pick_all L (m + 0))
  simpa only [spec_l1Cur_one_ok, kx (L := L) (n := m + 2) (n' := m + 3) (k := 60) (f := Try.f60) rfl (by kernel_rfl)] using h
theorem spec_l1Cur_surePeg_all (L m : Nat) : spec_l1Cur_surePeg_ok L (CN L (m + 3)) := by
  have h := spec_l1Cur_surePeg_run L (CN L (m + 2)) (spec_l1Cur_pick_all L (m + 0))
  simpa only [spec_l1Cur_surePeg_ok, kx (L := L) (n := m + 2) (n' := m + 3) (k := 62) (f := Try.f62) rfl (by kernel_rfl)] using h
theorem spec_l1In_all (L m : Nat) : spec_l1In_ok L (CN L (m + 1)) := by
  have h := spec_l1In_run L (CN L (m + 0))
  simpa only [spec_l1In_ok, kx (L := L) (n := m + 0) (n' := m + 1) (k := 63) (f := Try.f63) rfl (by kernel_rfl)] using h
theorem spec_pgIs_all (L m : Nat) : spec_pgIs_ok L (CN L (m + 2)) := by
  have h := spec_pgIs_run L (CN L (m + 1)) (spec_l1In_all L (m + 0))
  simpa only [spec_pgIs_ok, kx (L := L) (n := m + 1) (n' := m + 2) (k := 57) (f := Try.f57) rfl (by kernel_rfl)] using h
theorem spec_pgTurn_all (L m : Nat) : spec_pgTurn_ok L (CN L (m + 1)) := by
  have h := spec_pgTurn_run L (CN L (m + 0))
  simpa only [spec_pgTurn_ok, kx (L := L) (n := m + 0) (n' := m + 1) (k := 64) (f := Try.f64) rfl (by kernel_rfl)] using h
theorem spec_pgOn_all (L m : Nat) : spec_pgOn_ok L (CN L (m + 2)) := by
  have h := spec_pgOn_run L (CN L (m + 1)) (spec_pgTurn_all L (m + 0))
  simpa only [spec_pgOn_ok, kx (L := L) (n := m + 1) (n' := m + 2) (k := 81) (f := Try.f81) rfl (by kernel_rfl)] using h
theorem spec_l1Sign_all (L m : Nat) : spec_l1Sign_ok L (CN L (m + 1)) := by
  have h := spec_l1Sign_run L (CN L (m + 0))
  simpa only [spec_l1Sign_ok, kx (L := L) (n := m + 0) (n' := m + 1) (k := 71) (f := Try.f71) rfl (by kernel_rfl)] using h
theorem spec_pgMeet_all (L m : Nat) : spec_pgMeet_ok L (CN L (m + 3)) := by
  have h := spec_pgMeet_run L (CN L (m + 2)) (spec_pgTurn_all L (m + 1)) (spec_pgOn_all L (m + 0)) (spec_l1Sign_all L (m + 1))
  simpa only [spec_pgMeet_ok, kx (L := L) (n := m + 2) (n' := m + 3) (k := 65) (f := Try.f65) rfl (by kernel_rfl)] using h
theorem spec_pgGood_all (L m : Nat) : spec_pgGood_ok L (CN L (m + 4)) := by
  have h := spec_pgGood_run L (CN L (m + 3)) (spec_l1In_all L (m + 2)) (spec_pgIs_all L (m + 1)) (spec_pgTurn_all L (m + 2)) (spec_pgMeet_all L (m + 0))
  simpa only [spec_pgGood_ok, kx (L := L) (n := m + 3) (n' := m + 4) (k := 33) (f := Try.f33) rfl (by kernel_rfl)] using h
theorem spec_pgBack_all (L m : Nat) : spec_pgBack_ok L (CN L (m + 1)) := by
  have h := spec_pgBack_run L (CN L (m + 0))
  simpa only [spec_pgBack_ok, kx (L := L) (n := m + 0) (n' := m + 1) (k := 44) (f := Try.f44) rfl (by kernel_rfl)] using h
theorem spec_l1Cur_surePolygon_all (L m : Nat) : spec_l1Cur_surePolygon_ok L (CN L (m + 5)) := by
  have h := spec_l1Cur_surePolygon_run L (CN L (m + 4)) (spec_l1Cur_pick_all L (m + 2)) (spec_l1Cur_one_all L (m + 1)) (spec_l1Cur_surePeg_all L (m + 1)) (spec_pgGood_all L (m + 0)) (spec_pgBack_all L (m + 3))
  simpa only [spec_l1Cur_surePolygon_ok, kx (L := L) (n := m + 4) (n' := m + 5) (k := 79) (f := Try.f79) rfl (by kernel_rfl)] using h
theorem spec_l1Cur_among_v2_all (L m : Nat) : spec_l1Cur_among_v2_ok L (CN L (m + 3)) := by
  have h := spec_l1Cur_among_v2_run L (CN L (m + 2)) (spec_l1Cur_pick_all L (m + 0))
  simpa only [spec_l1Cur_among_v2_ok, kx (L := L) (n := m + 2) (n' := m + 3) (k := 80) (f := Try.f80) rfl (by kernel_rfl)] using h
theorem spec_l1Cur_peg_all (L m : Nat) : spec_l1Cur_peg_ok L (CN L (m + 4)) := by
  have h := spec_l1Cur_peg_run L (CN L (m + 3)) (spec_l1Cur_one_all L (m + 0)) (spec_l1Cur_surePeg_all L (m + 0)) (spec_l1Cur_among_v2_all L (m + 0))
  simpa only [spec_l1Cur_peg_ok, kx (L := L) (n := m + 3) (n' := m + 4) (k := 56) (f := Try.f56) rfl (by kernel_rfl)] using h
theorem spec_l1Cur_polygon_all (L m : Nat) : spec_l1Cur_polygon_ok L (CN L (m + 6)) := by
  have h := spec_l1Cur_polygon_run L (CN L (m + 5)) (spec_l1Cur_pick_all L (m + 3)) (spec_l1Cur_surePolygon_all L (m + 0)) (spec_l1Cur_peg_all L (m + 1))
  simpa only [spec_l1Cur_polygon_ok, kx (L := L) (n := m + 5) (n' := m + 6) (k := 55) (f := Try.f55) rfl (by kernel_rfl)] using h
theorem spec_DrawIsPolygon_all (L m : Nat) : spec_DrawIsPolygon_ok L (CN L (m + 7)) := by
  have h := spec_DrawIsPolygon_run L (CN L (m + 6)) (spec_l1Cur_pick_all L (m + 4)) (spec_l1Cur_one_all L (m + 3)) (spec_l1Cur_surePeg_all L (m + 3)) (spec_l1Cur_polygon_all L (m + 0))
  simpa only [spec_DrawIsPolygon_ok, kx (L := L) (n := m + 6) (n' := m + 7) (k := 30) (f := Try.f30) rfl (by kernel_rfl)] using h
theorem spec_DrawListInside_all (L m : Nat) : spec_DrawListInside_ok L (CN L (m + 8)) := by
  have h := spec_DrawListInside_run L (CN L (m + 7)) (spec_DrawIsPolygon_all L (m + 0))
  simpa only [spec_DrawListInside_ok, kx (L := L) (n := m + 7) (n' := m + 8) (k := 5) (f := Try.f5) rfl (by kernel_rfl)] using h
theorem impl_within_all (L m : Nat) : impl_within_ok L (CN L (m + 1)) := by
  have h := impl_within_run L (CN L (m + 0))
  simpa only [impl_within_ok, kx (L := L) (n := m + 0) (n' := m + 1) (k := 47) (f := Try.f47) rfl (by kernel_rfl)] using h
theorem impl_IsPeg_all (L m : Nat) : impl_IsPeg_ok L (CN L (m + 2)) := by
  have h := impl_IsPeg_run L (CN L (m + 1)) (impl_within_all L (m + 0))
  simpa only [impl_IsPeg_ok, kx (L := L) (n := m + 1) (n' := m + 2) (k := 53) (f := Try.f53) rfl (by kernel_rfl)] using h
theorem impl_arePegs_1_all (L m : Nat) : impl_arePegs_1_ok L (CN L (m + 3)) := by
  have h := impl_arePegs_1_run L (CN L (m + 2)) (impl_IsPeg_all L (m + 0))
  simpa only [impl_arePegs_1_ok, kx (L := L) (n := m + 2) (n' := m + 3) (k := 75) (f := Try.f75) rfl (by kernel_rfl)] using h
theorem slices_IndexFunc_impl_Peg_impl_Peg_arePegs_all (L m : Nat) : slices_IndexFunc_impl_Peg_impl_Peg_arePegs_ok L (CN L (m + 4)) := by
  have h := slices_IndexFunc_impl_Peg_impl_Peg_arePegs_run L (CN L (m + 3)) (impl_arePegs_1_all L (m + 0))
  simpa only [slices_IndexFunc_impl_Peg_impl_Peg_arePegs_ok, kx (L := L) (n := m + 3) (n' := m + 4) (k := 86) (f := Try.f86) rfl (by kernel_rfl)] using h
theorem slices_ContainsFunc_impl_Peg_impl_Peg_arePegs_all (L m : Nat) : slices_ContainsFunc_impl_Peg_impl_Peg_arePegs_ok L (CN L (m + 5)) := by
  have h := slices_ContainsFunc_impl_Peg_impl_Peg_arePegs_run L (CN L (m + 4)) (slices_IndexFunc_impl_Peg_impl_Peg_arePegs_all L (m + 0))
  simpa only [slices_ContainsFunc_impl_Peg_impl_Peg_arePegs_ok, kx (L := L) (n := m + 4) (n' := m + 5) (k := 74) (f := Try.f74) rfl (by kernel_rfl)] using h
theorem impl_arePegs_all (L m : Nat) : impl_arePegs_ok L (CN L (m + 6)) := by
  have h := impl_arePegs_run L (CN L (m + 5)) (slices_ContainsFunc_impl_Peg_impl_Peg_arePegs_all L (m + 0))
  simpa only [impl_arePegs_ok, kx (L := L) (n := m + 5) (n' := m + 6) (k := 48) (f := Try.f48) rfl (by kernel_rfl)] using h
theorem slices_Index_impl_Peg_impl_Peg_all (L m : Nat) : slices_Index_impl_Peg_impl_Peg_ok L (CN L (m + 1)) := by
  have h := slices_Index_impl_Peg_impl_Peg_run L (CN L (m + 0))
  simpa only [slices_Index_impl_Peg_impl_Peg_ok, kx (L := L) (n := m + 0) (n' := m + 1) (k := 76) (f := Try.f76) rfl (by kernel_rfl)] using h
theorem slices_Contains_impl_Peg_impl_Peg_all (L m : Nat) : slices_Contains_impl_Peg_impl_Peg_ok L (CN L (m + 2)) := by
  have h := slices_Contains_impl_Peg_impl_Peg_run L (CN L (m + 1)) (slices_Index_impl_Peg_impl_Peg_all L (m + 0))
  simpa only [slices_Contains_impl_Peg_impl_Peg_ok, kx (L := L) (n := m + 1) (n' := m + 2) (k := 49) (f := Try.f49) rfl (by kernel_rfl)] using h
theorem impl_at_all (L m : Nat) : impl_at_ok L (CN L (m + 1)) := by
  have h := impl_at_run L (CN L (m + 0))
  simpa only [impl_at_ok, kx (L := L) (n := m + 0) (n' := m + 1) (k := 51) (f := Try.f51) rfl (by kernel_rfl)] using h
theorem impl_Peg_less_all (L m : Nat) : impl_Peg_less_ok L (CN L (m + 1)) := by
  have h := impl_Peg_less_run L (CN L (m + 0))
  simpa only [impl_Peg_less_ok, kx (L := L) (n := m + 0) (n' := m + 1) (k := 77) (f := Try.f77) rfl (by kernel_rfl)] using h
theorem impl_cross_all (L m : Nat) : impl_cross_ok L (CN L (m + 1)) := by
  have h := impl_cross_run L (CN L (m + 0))
  simpa only [impl_cross_ok, kx (L := L) (n := m + 0) (n' := m + 1) (k := 66) (f := Try.f66) rfl (by kernel_rfl)] using h
theorem impl_turn_all (L m : Nat) : impl_turn_ok L (CN L (m + 2)) := by
  have h := impl_turn_run L (CN L (m + 1)) (impl_Peg_less_all L (m + 0)) (impl_cross_all L (m + 0))
  simpa only [impl_turn_ok, kx (L := L) (n := m + 1) (n' := m + 2) (k := 50) (f := Try.f50) rfl (by kernel_rfl)] using h
theorem impl_sign_all (L m : Nat) : impl_sign_ok L (CN L (m + 1)) := by
  have h := impl_sign_run L (CN L (m + 0))
  simpa only [impl_sign_ok, kx (L := L) (n := m + 0) (n' := m + 1) (k := 70) (f := Try.f70) rfl (by kernel_rfl)] using h
theorem impl_isOn_all (L m : Nat) : impl_isOn_ok L (CN L (m + 3)) := by
  have h := impl_isOn_run L (CN L (m + 2)) (impl_within_all L (m + 1)) (impl_turn_all L (m + 0))
  simpa only [impl_isOn_ok, kx (L := L) (n := m + 2) (n' := m + 3) (k := 59) (f := Try.f59) rfl (by kernel_rfl)] using h
theorem impl_meet_all (L m : Nat) : impl_meet_ok L (CN L (m + 4)) := by
  have h := impl_meet_run L (CN L (m + 3)) (impl_turn_all L (m + 1)) (impl_sign_all L (m + 2)) (impl_isOn_all L (m + 0))
  simpa only [impl_meet_ok, kx (L := L) (n := m + 3) (n' := m + 4) (k := 52) (f := Try.f52) rfl (by kernel_rfl)] using h
theorem impl_IsPolygon_all (L m : Nat) : impl_IsPolygon_ok L (CN L (m + 7)) := by
  have h := impl_IsPolygon_run L (CN L (m + 6)) (impl_within_all L (m + 5)) (impl_arePegs_all L (m + 0)) (slices_Contains_impl_Peg_impl_Peg_all L (m + 4)) (impl_at_all L (m + 5)) (impl_turn_all L (m + 4)) (impl_meet_all L (m + 2))
  simpa only [impl_IsPolygon_ok, kx (L := L) (n := m + 6) (n' := m + 7) (k := 21) (f := Try.f21) rfl (by kernel_rfl)] using h
theorem impl_box_all (L m : Nat) : impl_box_ok L (CN L (m + 1)) := by
  have h := impl_box_run L (CN L (m + 0))
  simpa only [impl_box_ok, kx (L := L) (n := m + 0) (n' := m + 1) (k := 31) (f := Try.f31) rfl (by kernel_rfl)] using h
theorem impl_where_all (L m : Nat) : impl_where_ok L (CN L (m + 4)) := by
  have h := impl_where_run L (CN L (m + 3)) (impl_at_all L (m + 2)) (impl_turn_all L (m + 1)) (impl_isOn_all L (m + 0))
  simpa only [impl_where_ok, kx (L := L) (n := m + 3) (n' := m + 4) (k := 32) (f := Try.f32) rfl (by kernel_rfl)] using h
theorem impl_ListInside_all (L m : Nat) : impl_ListInside_ok L (CN L (m + 8)) := by
  have h := impl_ListInside_run L (CN L (m + 7)) (impl_IsPolygon_all L (m + 0)) (impl_box_all L (m + 6)) (impl_where_all L (m + 3))
  simpa only [impl_ListInside_ok, kx (L := L) (n := m + 7) (n' := m + 8) (k := 6) (f := Try.f6) rfl (by kernel_rfl)] using h
theorem spec_pgWhere_all (L m : Nat) : spec_pgWhere_ok L (CN L (m + 3)) := by
  have h := spec_pgWhere_run L (CN L (m + 2)) (spec_pgTurn_all L (m + 1)) (spec_pgOn_all L (m + 0))
  simpa only [spec_pgWhere_ok, kx (L := L) (n := m + 2) (n' := m + 3) (k := 58) (f := Try.f58) rfl (by kernel_rfl)] using h
theorem spec_pgList_all (L m : Nat) : spec_pgList_ok L (CN L (m + 4)) := by
  have h := spec_pgList_run L (CN L (m + 3)) (spec_pgWhere_all L (m + 0))
  simpa only [spec_pgList_ok, kx (L := L) (n := m + 3) (n' := m + 4) (k := 34) (f := Try.f34) rfl (by kernel_rfl)] using h
theorem spec_ListInside_all (L m : Nat) : spec_ListInside_ok L (CN L (m + 5)) := by
  have h := spec_ListInside_run L (CN L (m + 4)) (spec_pgGood_all L (m + 0)) (spec_pgList_all L (m + 0))
  simpa only [spec_ListInside_ok, kx (L := L) (n := m + 4) (n' := m + 5) (k := 7) (f := Try.f7) rfl (by kernel_rfl)] using h
theorem impl_twice_all (L m : Nat) : impl_twice_ok L (CN L (m + 2)) := by
  have h := impl_twice_run L (CN L (m + 1)) (impl_at_all L (m + 0)) (impl_cross_all L (m + 0))
  simpa only [impl_twice_ok, kx (L := L) (n := m + 1) (n' := m + 2) (k := 35) (f := Try.f35) rfl (by kernel_rfl)] using h
theorem impl_TwiceArea_all (L m : Nat) : impl_TwiceArea_ok L (CN L (m + 8)) := by
  have h := impl_TwiceArea_run L (CN L (m + 7)) (impl_IsPolygon_all L (m + 0)) (impl_twice_all L (m + 5))
  simpa only [impl_TwiceArea_ok, kx (L := L) (n := m + 7) (n' := m + 8) (k := 8) (f := Try.f8) rfl (by kernel_rfl)] using h
theorem spec_pgArea_all (L m : Nat) : spec_pgArea_ok L (CN L (m + 2)) := by
  have h := spec_pgArea_run L (CN L (m + 1)) (spec_pgTurn_all L (m + 0))
  simpa only [spec_pgArea_ok, kx (L := L) (n := m + 1) (n' := m + 2) (k := 36) (f := Try.f36) rfl (by kernel_rfl)] using h
theorem spec_TwiceArea_all (L m : Nat) : spec_TwiceArea_ok L (CN L (m + 5)) := by
  have h := spec_TwiceArea_run L (CN L (m + 4)) (spec_pgGood_all L (m + 0)) (spec_pgArea_all L (m + 2))
  simpa only [spec_TwiceArea_ok, kx (L := L) (n := m + 4) (n' := m + 5) (k := 9) (f := Try.f9) rfl (by kernel_rfl)] using h
theorem impl_size_all (L m : Nat) : impl_size_ok L (CN L (m + 1)) := by
  have h := impl_size_run L (CN L (m + 0))
  simpa only [impl_size_ok, kx (L := L) (n := m + 0) (n' := m + 1) (k := 68) (f := Try.f68) rfl (by kernel_rfl)] using h
theorem impl_divisor_all (L m : Nat) : impl_divisor_ok L (CN L (m + 2)) := by
  have h := impl_divisor_run L (CN L (m + 1)) (impl_size_all L (m + 0))
  simpa only [impl_divisor_ok, kx (L := L) (n := m + 1) (n' := m + 2) (k := 78) (f := Try.f78) rfl (by kernel_rfl)] using h
theorem impl_steps_all (L m : Nat) : impl_steps_ok L (CN L (m + 3)) := by
  have h := impl_steps_run L (CN L (m + 2)) (impl_divisor_all L (m + 0))
  simpa only [impl_steps_ok, kx (L := L) (n := m + 2) (n' := m + 3) (k := 54) (f := Try.f54) rfl (by kernel_rfl)] using h
theorem impl_around_all (L m : Nat) : impl_around_ok L (CN L (m + 4)) := by
  have h := impl_around_run L (CN L (m + 3)) (impl_at_all L (m + 2)) (impl_steps_all L (m + 0))
  simpa only [impl_around_ok, kx (L := L) (n := m + 3) (n' := m + 4) (k := 37) (f := Try.f37) rfl (by kernel_rfl)] using h
theorem impl_PegsOn_all (L m : Nat) : impl_PegsOn_ok L (CN L (m + 8)) := by
  have h := impl_PegsOn_run L (CN L (m + 7)) (impl_IsPolygon_all L (m + 0)) (impl_around_all L (m + 3))
  simpa only [impl_PegsOn_ok, kx (L := L) (n := m + 7) (n' := m + 8) (k := 10) (f := Try.f10) rfl (by kernel_rfl)] using h
theorem spec_l1Most_all (L m : Nat) : spec_l1Most_ok L (CN L (m + 1)) := by
  have h := spec_l1Most_run L (CN L (m + 0))
  simpa only [spec_l1Most_ok, kx (L := L) (n := m + 0) (n' := m + 1) (k := 84) (f := Try.f84) rfl (by kernel_rfl)] using h
theorem spec_l1Abs_all (L m : Nat) : spec_l1Abs_ok L (CN L (m + 2)) := by
  have h := spec_l1Abs_run L (CN L (m + 1)) (spec_l1Most_all L (m + 0))
  simpa only [spec_l1Abs_ok, kx (L := L) (n := m + 1) (n' := m + 2) (k := 69) (f := Try.f69) rfl (by kernel_rfl)] using h
theorem spec_pgCommon_all (L m : Nat) : spec_pgCommon_ok L (CN L (m + 3)) := by
  have h := spec_pgCommon_run L (CN L (m + 2)) (spec_l1Abs_all L (m + 0))
  simpa only [spec_pgCommon_ok, kx (L := L) (n := m + 2) (n' := m + 3) (k := 83) (f := Try.f83) rfl (by kernel_rfl)] using h
theorem spec_pgStep_all (L m : Nat) : spec_pgStep_ok L (CN L (m + 4)) := by
  have h := spec_pgStep_run L (CN L (m + 3)) (spec_pgCommon_all L (m + 0))
  simpa only [spec_pgStep_ok, kx (L := L) (n := m + 3) (n' := m + 4) (k := 67) (f := Try.f67) rfl (by kernel_rfl)] using h
theorem spec_pgRound_all (L m : Nat) : spec_pgRound_ok L (CN L (m + 5)) := by
  have h := spec_pgRound_run L (CN L (m + 4)) (spec_pgStep_all L (m + 0))
  simpa only [spec_pgRound_ok, kx (L := L) (n := m + 4) (n' := m + 5) (k := 38) (f := Try.f38) rfl (by kernel_rfl)] using h
theorem spec_PegsOn_all (L m : Nat) : spec_PegsOn_ok L (CN L (m + 6)) := by
  have h := spec_PegsOn_run L (CN L (m + 5)) (spec_pgGood_all L (m + 1)) (spec_pgRound_all L (m + 0))
  simpa only [spec_PegsOn_ok, kx (L := L) (n := m + 5) (n' := m + 6) (k := 11) (f := Try.f11) rfl (by kernel_rfl)] using h
theorem impl_inner_all (L m : Nat) : impl_inner_ok L (CN L (m + 5)) := by
  have h := impl_inner_run L (CN L (m + 4)) (impl_twice_all L (m + 2)) (impl_size_all L (m + 3)) (impl_around_all L (m + 0))
  simpa only [impl_inner_ok, kx (L := L) (n := m + 4) (n' := m + 5) (k := 39) (f := Try.f39) rfl (by kernel_rfl)] using h
theorem impl_PegsInside_all (L m : Nat) : impl_PegsInside_ok L (CN L (m + 8)) := by
  have h := impl_PegsInside_run L (CN L (m + 7)) (impl_IsPolygon_all L (m + 0)) (impl_inner_all L (m + 2))
  simpa only [impl_PegsInside_ok, kx (L := L) (n := m + 7) (n' := m + 8) (k := 12) (f := Try.f12) rfl (by kernel_rfl)] using h
theorem spec_pgInside_all (L m : Nat) : spec_pgInside_ok L (CN L (m + 6)) := by
  have h := spec_pgInside_run L (CN L (m + 5)) (spec_pgArea_all L (m + 3)) (spec_l1Abs_all L (m + 3)) (spec_pgRound_all L (m + 0))
  simpa only [spec_pgInside_ok, kx (L := L) (n := m + 5) (n' := m + 6) (k := 40) (f := Try.f40) rfl (by kernel_rfl)] using h
theorem spec_PegsInside_all (L m : Nat) : spec_PegsInside_ok L (CN L (m + 7)) := by
  have h := spec_PegsInside_run L (CN L (m + 6)) (spec_pgGood_all L (m + 2)) (spec_pgInside_all L (m + 0))
  simpa only [spec_PegsInside_ok, kx (L := L) (n := m + 6) (n' := m + 7) (k := 13) (f := Try.f13) rfl (by kernel_rfl)] using h
theorem impl_isConvex_all (L m : Nat) : impl_isConvex_ok L (CN L (m + 3)) := by
  have h := impl_isConvex_run L (CN L (m + 2)) (impl_at_all L (m + 1)) (impl_turn_all L (m + 0)) (impl_sign_all L (m + 1)) (impl_twice_all L (m + 0))
  simpa only [impl_isConvex_ok, kx (L := L) (n := m + 2) (n' := m + 3) (k := 41) (f := Try.f41) rfl (by kernel_rfl)] using h
theorem impl_IsConvex_all (L m : Nat) : impl_IsConvex_ok L (CN L (m + 8)) := by
  have h := impl_IsConvex_run L (CN L (m + 7)) (impl_IsPolygon_all L (m + 0)) (impl_isConvex_all L (m + 4))
  simpa only [impl_IsConvex_ok, kx (L := L) (n := m + 7) (n' := m + 8) (k := 14) (f := Try.f14) rfl (by kernel_rfl)] using h
theorem spec_pgConvex_all (L m : Nat) : spec_pgConvex_ok L (CN L (m + 3)) := by
  have h := spec_pgConvex_run L (CN L (m + 2)) (spec_pgTurn_all L (m + 1)) (spec_l1Sign_all L (m + 1)) (spec_pgArea_all L (m + 0))
  simpa only [spec_pgConvex_ok, kx (L := L) (n := m + 2) (n' := m + 3) (k := 42) (f := Try.f42) rfl (by kernel_rfl)] using h
theorem spec_IsConvex_all (L m : Nat) : spec_IsConvex_ok L (CN L (m + 5)) := by
  have h := spec_IsConvex_run L (CN L (m + 4)) (spec_pgGood_all L (m + 0)) (spec_pgConvex_all L (m + 1))
  simpa only [spec_IsConvex_ok, kx (L := L) (n := m + 4) (n' := m + 5) (k := 15) (f := Try.f15) rfl (by kernel_rfl)] using h
theorem impl_told_all (L m : Nat) : impl_told_ok L (CN L (m + 2)) := by
  have h := impl_told_run L (CN L (m + 1)) (impl_at_all L (m + 0))
  simpa only [impl_told_ok, kx (L := L) (n := m + 1) (n' := m + 2) (k := 43) (f := Try.f43) rfl (by kernel_rfl)] using h
theorem impl_BackPolygon_all (L m : Nat) : impl_BackPolygon_ok L (CN L (m + 8)) := by
  have h := impl_BackPolygon_run L (CN L (m + 7)) (impl_IsPolygon_all L (m + 0)) (impl_told_all L (m + 5))
  simpa only [impl_BackPolygon_ok, kx (L := L) (n := m + 7) (n' := m + 8) (k := 16) (f := Try.f16) rfl (by kernel_rfl)] using h
theorem spec_BackPolygon_all (L m : Nat) : spec_BackPolygon_ok L (CN L (m + 5)) := by
  have h := spec_BackPolygon_run L (CN L (m + 4)) (spec_pgGood_all L (m + 0)) (spec_pgBack_all L (m + 3))
  simpa only [spec_BackPolygon_ok, kx (L := L) (n := m + 4) (n' := m + 5) (k := 17) (f := Try.f17) rfl (by kernel_rfl)] using h
theorem cmp_isNaN_int_all (L m : Nat) : cmp_isNaN_int_ok L (CN L (m + 1)) := by
  have h := cmp_isNaN_int_run L (CN L (m + 0))
  simpa only [cmp_isNaN_int_ok, kx (L := L) (n := m + 0) (n' := m + 1) (k := 89) (f := Try.f89) rfl (by kernel_rfl)] using h
theorem cmp_Compare_int_all (L m : Nat) : cmp_Compare_int_ok L (CN L (m + 2)) := by
  have h := cmp_Compare_int_run L (CN L (m + 1)) (cmp_isNaN_int_all L (m + 0))
  simpa only [cmp_Compare_int_ok, kx (L := L) (n := m + 1) (n' := m + 2) (k := 88) (f := Try.f88) rfl (by kernel_rfl)] using h
theorem cmp_Or_int_all (L m : Nat) : cmp_Or_int_ok L (CN L (m + 1)) := by
  have h := cmp_Or_int_run L (CN L (m + 0))
  simpa only [cmp_Or_int_ok, kx (L := L) (n := m + 0) (n' := m + 1) (k := 87) (f := Try.f87) rfl (by kernel_rfl)] using h
theorem impl_comparePegs_all (L m : Nat) : impl_comparePegs_ok L (CN L (m + 3)) := by
  have h := impl_comparePegs_run L (CN L (m + 2)) (cmp_Compare_int_all L (m + 0)) (cmp_Or_int_all L (m + 1))
  simpa only [impl_comparePegs_ok, kx (L := L) (n := m + 2) (n' := m + 3) (k := 85) (f := Try.f85) rfl (by kernel_rfl)] using h
theorem impl_first_all (L m : Nat) : impl_first_ok L (CN L (m + 4)) := by
  have h := impl_first_run L (CN L (m + 3)) (impl_comparePegs_all L (m + 0))
  simpa only [impl_first_ok, kx (L := L) (n := m + 3) (n' := m + 4) (k := 72) (f := Try.f72) rfl (by kernel_rfl)] using h
theorem impl_tellFirst_all (L m : Nat) : impl_tellFirst_ok L (CN L (m + 5)) := by
  have h := impl_tellFirst_run L (CN L (m + 4)) (impl_sign_all L (m + 3)) (impl_twice_all L (m + 2)) (impl_told_all L (m + 2)) (impl_first_all L (m + 0))
  simpa only [impl_tellFirst_ok, kx (L := L) (n := m + 4) (n' := m + 5) (k := 45) (f := Try.f45) rfl (by kernel_rfl)] using h
theorem impl_TellFirst_all (L m : Nat) : impl_TellFirst_ok L (CN L (m + 8)) := by
  have h := impl_TellFirst_run L (CN L (m + 7)) (impl_IsPolygon_all L (m + 0)) (impl_tellFirst_all L (m + 2))
  simpa only [impl_TellFirst_ok, kx (L := L) (n := m + 7) (n' := m + 8) (k := 18) (f := Try.f18) rfl (by kernel_rfl)] using h
theorem spec_pgLess_all (L m : Nat) : spec_pgLess_ok L (CN L (m + 1)) := by
  have h := spec_pgLess_run L (CN L (m + 0))
  simpa only [spec_pgLess_ok, kx (L := L) (n := m + 0) (n' := m + 1) (k := 73) (f := Try.f73) rfl (by kernel_rfl)] using h
theorem spec_pgFirst_all (L m : Nat) : spec_pgFirst_ok L (CN L (m + 3)) := by
  have h := spec_pgFirst_run L (CN L (m + 2)) (spec_pgBack_all L (m + 1)) (spec_pgArea_all L (m + 0)) (spec_pgLess_all L (m + 1))
  simpa only [spec_pgFirst_ok, kx (L := L) (n := m + 2) (n' := m + 3) (k := 46) (f := Try.f46) rfl (by kernel_rfl)] using h
theorem spec_TellFirst_all (L m : Nat) : spec_TellFirst_ok L (CN L (m + 5)) := by
  have h := spec_TellFirst_run L (CN L (m + 4)) (spec_pgGood_all L (m + 0)) (spec_pgFirst_all L (m + 1))
  simpa only [spec_TellFirst_ok, kx (L := L) (n := m + 4) (n' := m + 5) (k := 19) (f := Try.f19) rfl (by kernel_rfl)] using h
theorem laws_zPegs_all (L m : Nat) : laws_zPegs_ok L (CN L (m + 1)) := by
  have h := laws_zPegs_run L (CN L (m + 0))
  simpa only [laws_zPegs_ok, kx (L := L) (n := m + 0) (n' := m + 1) (k := 20) (f := Try.f20) rfl (by kernel_rfl)] using h
theorem spec_IsPolygon_all (L m : Nat) : spec_IsPolygon_ok L (CN L (m + 5)) := by
  have h := spec_IsPolygon_run L (CN L (m + 4)) (spec_pgGood_all L (m + 0))
  simpa only [spec_IsPolygon_ok, kx (L := L) (n := m + 4) (n' := m + 5) (k := 22) (f := Try.f22) rfl (by kernel_rfl)] using h
theorem laws_zAbs_all (L m : Nat) : laws_zAbs_ok L (CN L (m + 1)) := by
  have h := laws_zAbs_run L (CN L (m + 0))
  simpa only [laws_zAbs_ok, kx (L := L) (n := m + 0) (n' := m + 1) (k := 23) (f := Try.f23) rfl (by kernel_rfl)] using h
theorem impl_WhereIs_all (L m : Nat) : impl_WhereIs_ok L (CN L (m + 8)) := by
  have h := impl_WhereIs_run L (CN L (m + 7)) (impl_IsPeg_all L (m + 5)) (impl_IsPolygon_all L (m + 0)) (impl_where_all L (m + 3))
  simpa only [impl_WhereIs_ok, kx (L := L) (n := m + 7) (n' := m + 8) (k := 24) (f := Try.f24) rfl (by kernel_rfl)] using h
theorem laws_zLess_all (L m : Nat) : laws_zLess_ok L (CN L (m + 1)) := by
  have h := laws_zLess_run L (CN L (m + 0))
  simpa only [laws_zLess_ok, kx (L := L) (n := m + 0) (n' := m + 1) (k := 25) (f := Try.f25) rfl (by kernel_rfl)] using h
theorem impl_PegsOnLine_all (L m : Nat) : impl_PegsOnLine_ok L (CN L (m + 7)) := by
  have h := impl_PegsOnLine_run L (CN L (m + 6)) (impl_arePegs_all L (m + 0)) (impl_steps_all L (m + 3))
  simpa only [impl_PegsOnLine_ok, kx (L := L) (n := m + 6) (n' := m + 7) (k := 26) (f := Try.f26) rfl (by kernel_rfl)] using h
theorem spec_DrawWhereIs_all (L m : Nat) : spec_DrawWhereIs_ok L (CN L (m + 7)) := by
  have h := spec_DrawWhereIs_run L (CN L (m + 6)) (spec_l1Cur_peg_all L (m + 2)) (spec_l1Cur_polygon_all L (m + 0))
  simpa only [spec_DrawWhereIs_ok, kx (L := L) (n := m + 6) (n' := m + 7) (k := 27) (f := Try.f27) rfl (by kernel_rfl)] using h
theorem spec_WhereIs_all (L m : Nat) : spec_WhereIs_ok L (CN L (m + 5)) := by
  have h := spec_WhereIs_run L (CN L (m + 4)) (spec_pgIs_all L (m + 2)) (spec_pgGood_all L (m + 0)) (spec_pgWhere_all L (m + 1))
  simpa only [spec_WhereIs_ok, kx (L := L) (n := m + 4) (n' := m + 5) (k := 28) (f := Try.f28) rfl (by kernel_rfl)] using h
theorem impl_IsOnLine_all (L m : Nat) : impl_IsOnLine_ok L (CN L (m + 7)) := by
  have h := impl_IsOnLine_run L (CN L (m + 6)) (impl_arePegs_all L (m + 0)) (impl_isOn_all L (m + 3))
  simpa only [impl_IsOnLine_ok, kx (L := L) (n := m + 6) (n' := m + 7) (k := 29) (f := Try.f29) rfl (by kernel_rfl)] using h
theorem laws_FnPickHolds_all (L m : Nat) : laws_FnPickHolds_ok L (CN L (m + 9)) := by
  have h := laws_FnPickHolds_run L (CN L (m + 8)) (laws_big_all L (m + 7)) (spec_DrawListInside_all L (m + 0)) (impl_IsPolygon_all L (m + 1)) (impl_ListInside_all L (m + 0)) (spec_ListInside_all L (m + 3)) (impl_TwiceArea_all L (m + 0)) (spec_TwiceArea_all L (m + 3)) (impl_PegsOn_all L (m + 0)) (spec_PegsOn_all L (m + 2)) (impl_PegsInside_all L (m + 0)) (spec_PegsInside_all L (m + 1)) (impl_IsConvex_all L (m + 0)) (spec_IsConvex_all L (m + 3)) (impl_BackPolygon_all L (m + 0)) (spec_BackPolygon_all L (m + 3)) (impl_TellFirst_all L (m + 0)) (spec_TellFirst_all L (m + 3)) (laws_zPegs_all L (m + 7)) (spec_IsPolygon_all L (m + 3)) (laws_zAbs_all L (m + 7)) (impl_WhereIs_all L (m + 0)) (laws_zLess_all L (m + 7)) (impl_PegsOnLine_all L (m + 1)) (spec_DrawWhereIs_all L (m + 1)) (spec_WhereIs_all L (m + 3)) (impl_IsOnLine_all L (m + 1))
  simpa only [laws_FnPickHolds_ok, kx (L := L) (n := m + 8) (n' := m + 9) (k := 3) (f := Try.f3) rfl (by kernel_rfl)] using h
end Go.AM
