import Derived.Test.YtlacambjecjdbaaAmP1
import Derived.KernelRfl
set_option linter.unusedVariables false
set_option linter.unusedSimpArgs false
set_option linter.unnecessarySimpa false
open Go Go.AM Go.Proofs
namespace Go.AM
set_option maxRecDepth 100000

noncomputable def rowsF : List (Nat × Func) := [(3, Try.f3), (4, Try.f4), (5, Try.f5), (6, Try.f6), (7, Try.f7), (8, Try.f8), (9, Try.f9), (10, Try.f10), (11, Try.f11), (12, Try.f12), (13, Try.f13), (14, Try.f14), (15, Try.f15), (16, Try.f16), (17, Try.f17), (18, Try.f18), (19, Try.f19), (20, Try.f20), (21, Try.f21), (22, Try.f22), (23, Try.f23), (24, Try.f24), (25, Try.f25), (26, Try.f26), (27, Try.f27), (28, Try.f28), (29, Try.f29), (30, Try.f30), (31, Try.f31), (32, Try.f32), (33, Try.f33), (34, Try.f34), (35, Try.f35), (36, Try.f36), (37, Try.f37), (38, Try.f38), (39, Try.f39), (40, Try.f40), (41, Try.f41), (42, Try.f42), (43, Try.f43), (44, Try.f44), (45, Try.f45), (46, Try.f46), (47, Try.f47), (48, Try.f48), (49, Try.f49), (50, Try.f50), (51, Try.f51), (52, Try.f52), (53, Try.f53), (54, Try.f54), (55, Try.f55), (56, Try.f56), (57, Try.f57), (58, Try.f58), (59, Try.f59), (60, Try.f60), (61, Try.f61), (62, Try.f62), (63, Try.f63), (64, Try.f64), (65, Try.f65), (66, Try.f66), (67, Try.f67), (68, Try.f68), (69, Try.f69), (70, Try.f70), (71, Try.f71), (72, Try.f72), (73, Try.f73), (74, Try.f74), (75, Try.f75), (76, Try.f76), (77, Try.f77), (78, Try.f78), (79, Try.f79), (80, Try.f80), (81, Try.f81), (82, Try.f82), (83, Try.f83), (84, Try.f84), (85, Try.f85), (86, Try.f86), (87, Try.f87), (88, Try.f88), (89, Try.f89), (90, Try.f90), (91, Try.f91), (92, Try.f92), (93, Try.f93), (94, Try.f94), (95, Try.f95), (96, Try.f96), (97, Try.f97), (98, Try.f98), (99, Try.f99), (100, Try.f100), (101, Try.f101), (102, Try.f102), (103, Try.f103), (104, Try.f104), (105, Try.f105), (106, Try.f106), (107, Try.f107), (108, Try.f108), (109, Try.f109)]
theorem fok3 : FOk Try.prog sh keep (3, Try.f3) := ⟨Try.func3, by kernel_rfl, by kernel_rfl⟩
theorem fok4 : FOk Try.prog sh keep (4, Try.f4) := ⟨Try.func4, by kernel_rfl, by kernel_rfl⟩
theorem fok5 : FOk Try.prog sh keep (5, Try.f5) := ⟨Try.func5, by kernel_rfl, by kernel_rfl⟩
theorem fok6 : FOk Try.prog sh keep (6, Try.f6) := ⟨Try.func6, by kernel_rfl, by kernel_rfl⟩
theorem fok7 : FOk Try.prog sh keep (7, Try.f7) := ⟨Try.func7, by kernel_rfl, by kernel_rfl⟩
theorem fok8 : FOk Try.prog sh keep (8, Try.f8) := ⟨Try.func8, by kernel_rfl, by kernel_rfl⟩
theorem fok9 : FOk Try.prog sh keep (9, Try.f9) := ⟨Try.func9, by kernel_rfl, by kernel_rfl⟩
theorem fok10 : FOk Try.prog sh keep (10, Try.f10) := ⟨Try.func10, by kernel_rfl, by kernel_rfl⟩
theorem fok11 : FOk Try.prog sh keep (11, Try.f11) := ⟨Try.func11, by kernel_rfl, by kernel_rfl⟩
theorem fok12 : FOk Try.prog sh keep (12, Try.f12) := ⟨Try.func12, by kernel_rfl, by kernel_rfl⟩
theorem fok13 : FOk Try.prog sh keep (13, Try.f13) := ⟨Try.func13, by kernel_rfl, by kernel_rfl⟩
theorem fok14 : FOk Try.prog sh keep (14, Try.f14) := ⟨Try.func14, by kernel_rfl, by kernel_rfl⟩
theorem fok15 : FOk Try.prog sh keep (15, Try.f15) := ⟨Try.func15, by kernel_rfl, by kernel_rfl⟩
theorem fok16 : FOk Try.prog sh keep (16, Try.f16) := ⟨Try.func16, by kernel_rfl, by kernel_rfl⟩
theorem fok17 : FOk Try.prog sh keep (17, Try.f17) := ⟨Try.func17, by kernel_rfl, by kernel_rfl⟩
theorem fok18 : FOk Try.prog sh keep (18, Try.f18) := ⟨Try.func18, by kernel_rfl, by kernel_rfl⟩
theorem fok19 : FOk Try.prog sh keep (19, Try.f19) := ⟨Try.func19, by kernel_rfl, by kernel_rfl⟩
theorem fok20 : FOk Try.prog sh keep (20, Try.f20) := ⟨Try.func20, by kernel_rfl, by kernel_rfl⟩
theorem fok21 : FOk Try.prog sh keep (21, Try.f21) := ⟨Try.func21, by kernel_rfl, by kernel_rfl⟩
theorem fok22 : FOk Try.prog sh keep (22, Try.f22) := ⟨Try.func22, by kernel_rfl, by kernel_rfl⟩
theorem fok23 : FOk Try.prog sh keep (23, Try.f23) := ⟨Try.func23, by kernel_rfl, by kernel_rfl⟩
theorem fok24 : FOk Try.prog sh keep (24, Try.f24) := ⟨Try.func24, by kernel_rfl, by kernel_rfl⟩
theorem fok25 : FOk Try.prog sh keep (25, Try.f25) := ⟨Try.func25, by kernel_rfl, by kernel_rfl⟩
theorem fok26 : FOk Try.prog sh keep (26, Try.f26) := ⟨Try.func26, by kernel_rfl, by kernel_rfl⟩
theorem fok27 : FOk Try.prog sh keep (27, Try.f27) := ⟨Try.func27, by kernel_rfl, by kernel_rfl⟩
theorem fok28 : FOk Try.prog sh keep (28, Try.f28) := ⟨Try.func28, by kernel_rfl, by kernel_rfl⟩
theorem fok29 : FOk Try.prog sh keep (29, Try.f29) := ⟨Try.func29, by kernel_rfl, by kernel_rfl⟩
theorem fok30 : FOk Try.prog sh keep (30, Try.f30) := ⟨Try.func30, by kernel_rfl, by kernel_rfl⟩
theorem fok31 : FOk Try.prog sh keep (31, Try.f31) := ⟨Try.func31, by kernel_rfl, by kernel_rfl⟩
theorem fok32 : FOk Try.prog sh keep (32, Try.f32) := ⟨Try.func32, by kernel_rfl, by kernel_rfl⟩
theorem fok33 : FOk Try.prog sh keep (33, Try.f33) := ⟨Try.func33, by kernel_rfl, by kernel_rfl⟩
theorem fok34 : FOk Try.prog sh keep (34, Try.f34) := ⟨Try.func34, by kernel_rfl, by kernel_rfl⟩
theorem fok35 : FOk Try.prog sh keep (35, Try.f35) := ⟨Try.func35, by kernel_rfl, by kernel_rfl⟩
theorem fok36 : FOk Try.prog sh keep (36, Try.f36) := ⟨Try.func36, by kernel_rfl, by kernel_rfl⟩
theorem fok37 : FOk Try.prog sh keep (37, Try.f37) := ⟨Try.func37, by kernel_rfl, by kernel_rfl⟩
theorem fok38 : FOk Try.prog sh keep (38, Try.f38) := ⟨Try.func38, by kernel_rfl, by kernel_rfl⟩
theorem fok39 : FOk Try.prog sh keep (39, Try.f39) := ⟨Try.func39, by kernel_rfl, by kernel_rfl⟩
theorem fok40 : FOk Try.prog sh keep (40, Try.f40) := ⟨Try.func40, by kernel_rfl, by kernel_rfl⟩
theorem fok41 : FOk Try.prog sh keep (41, Try.f41) := ⟨Try.func41, by kernel_rfl, by kernel_rfl⟩
theorem fok42 : FOk Try.prog sh keep (42, Try.f42) := ⟨Try.func42, by kernel_rfl, by kernel_rfl⟩
theorem fok43 : FOk Try.prog sh keep (43, Try.f43) := ⟨Try.func43, by kernel_rfl, by kernel_rfl⟩
theorem fok44 : FOk Try.prog sh keep (44, Try.f44) := ⟨Try.func44, by kernel_rfl, by kernel_rfl⟩
theorem fok45 : FOk Try.prog sh keep (45, Try.f45) := ⟨Try.func45, by kernel_rfl, by kernel_rfl⟩
theorem fok46 : FOk Try.prog sh keep (46, Try.f46) := ⟨Try.func46, by kernel_rfl, by kernel_rfl⟩
theorem fok47 : FOk Try.prog sh keep (47, Try.f47) := ⟨Try.func47, by kernel_rfl, by kernel_rfl⟩
theorem fok48 : FOk Try.prog sh keep (48, Try.f48) := ⟨Try.func48, by kernel_rfl, by kernel_rfl⟩
theorem fok49 : FOk Try.prog sh keep (49, Try.f49) := ⟨Try.func49, by kernel_rfl, by kernel_rfl⟩
theorem fok50 : FOk Try.prog sh keep (50, Try.f50) := ⟨Try.func50, by kernel_rfl, by kernel_rfl⟩
theorem fok51 : FOk Try.prog sh keep (51, Try.f51) := ⟨Try.func51, by kernel_rfl, by kernel_rfl⟩
theorem fok52 : FOk Try.prog sh keep (52, Try.f52) := ⟨Try.func52, by kernel_rfl, by kernel_rfl⟩
theorem fok53 : FOk Try.prog sh keep (53, Try.f53) := ⟨Try.func53, by kernel_rfl, by kernel_rfl⟩
theorem fok54 : FOk Try.prog sh keep (54, Try.f54) := ⟨Try.func54, by kernel_rfl, by kernel_rfl⟩
theorem fok55 : FOk Try.prog sh keep (55, Try.f55) := ⟨Try.func55, by kernel_rfl, by kernel_rfl⟩
theorem fok56 : FOk Try.prog sh keep (56, Try.f56) := ⟨Try.func56, by kernel_rfl, by kernel_rfl⟩
theorem fok57 : FOk Try.prog sh keep (57, Try.f57) := ⟨Try.func57, by kernel_rfl, by kernel_rfl⟩
theorem fok58 : FOk Try.prog sh keep (58, Try.f58) := ⟨Try.func58, by kernel_rfl, by kernel_rfl⟩
theorem fok59 : FOk Try.prog sh keep (59, Try.f59) := ⟨Try.func59, by kernel_rfl, by kernel_rfl⟩
theorem fok60 : FOk Try.prog sh keep (60, Try.f60) := ⟨Try.func60, by kernel_rfl, by kernel_rfl⟩
theorem fok61 : FOk Try.prog sh keep (61, Try.f61) := ⟨Try.func61, by kernel_rfl, by kernel_rfl⟩
theorem fok62 : FOk Try.prog sh keep (62, Try.f62) := ⟨Try.func62, by kernel_rfl, by kernel_rfl⟩
theorem fok63 : FOk Try.prog sh keep (63, Try.f63) := ⟨Try.func63, by kernel_rfl, by kernel_rfl⟩
theorem fok64 : FOk Try.prog sh keep (64, Try.f64) := ⟨Try.func64, by kernel_rfl, by kernel_rfl⟩
theorem fok65 : FOk Try.prog sh keep (65, Try.f65) := ⟨Try.func65, by kernel_rfl, by kernel_rfl⟩
theorem fok66 : FOk Try.prog sh keep (66, Try.f66) := ⟨Try.func66, by kernel_rfl, by kernel_rfl⟩
theorem fok67 : FOk Try.prog sh keep (67, Try.f67) := ⟨Try.func67, by kernel_rfl, by kernel_rfl⟩
theorem fok68 : FOk Try.prog sh keep (68, Try.f68) := ⟨Try.func68, by kernel_rfl, by kernel_rfl⟩
theorem fok69 : FOk Try.prog sh keep (69, Try.f69) := ⟨Try.func69, by kernel_rfl, by kernel_rfl⟩
theorem fok70 : FOk Try.prog sh keep (70, Try.f70) := ⟨Try.func70, by kernel_rfl, by kernel_rfl⟩
theorem fok71 : FOk Try.prog sh keep (71, Try.f71) := ⟨Try.func71, by kernel_rfl, by kernel_rfl⟩
theorem fok72 : FOk Try.prog sh keep (72, Try.f72) := ⟨Try.func72, by kernel_rfl, by kernel_rfl⟩
theorem fok73 : FOk Try.prog sh keep (73, Try.f73) := ⟨Try.func73, by kernel_rfl, by kernel_rfl⟩
theorem fok74 : FOk Try.prog sh keep (74, Try.f74) := ⟨Try.func74, by kernel_rfl, by kernel_rfl⟩
theorem fok75 : FOk Try.prog sh keep (75, Try.f75) := ⟨Try.func75, by kernel_rfl, by kernel_rfl⟩
theorem fok76 : FOk Try.prog sh keep (76, Try.f76) := ⟨Try.func76, by kernel_rfl, by kernel_rfl⟩
theorem fok77 : FOk Try.prog sh keep (77, Try.f77) := ⟨Try.func77, by kernel_rfl, by kernel_rfl⟩
theorem fok78 : FOk Try.prog sh keep (78, Try.f78) := ⟨Try.func78, by kernel_rfl, by kernel_rfl⟩
theorem fok79 : FOk Try.prog sh keep (79, Try.f79) := ⟨Try.func79, by kernel_rfl, by kernel_rfl⟩
theorem fok80 : FOk Try.prog sh keep (80, Try.f80) := ⟨Try.func80, by kernel_rfl, by kernel_rfl⟩
theorem fok81 : FOk Try.prog sh keep (81, Try.f81) := ⟨Try.func81, by kernel_rfl, by kernel_rfl⟩
theorem fok82 : FOk Try.prog sh keep (82, Try.f82) := ⟨Try.func82, by kernel_rfl, by kernel_rfl⟩
theorem fok83 : FOk Try.prog sh keep (83, Try.f83) := ⟨Try.func83, by kernel_rfl, by kernel_rfl⟩
theorem fok84 : FOk Try.prog sh keep (84, Try.f84) := ⟨Try.func84, by kernel_rfl, by kernel_rfl⟩
theorem fok85 : FOk Try.prog sh keep (85, Try.f85) := ⟨Try.func85, by kernel_rfl, by kernel_rfl⟩
theorem fok86 : FOk Try.prog sh keep (86, Try.f86) := ⟨Try.func86, by kernel_rfl, by kernel_rfl⟩
theorem fok87 : FOk Try.prog sh keep (87, Try.f87) := ⟨Try.func87, by kernel_rfl, by kernel_rfl⟩
theorem fok88 : FOk Try.prog sh keep (88, Try.f88) := ⟨Try.func88, by kernel_rfl, by kernel_rfl⟩
theorem fok89 : FOk Try.prog sh keep (89, Try.f89) := ⟨Try.func89, by kernel_rfl, by kernel_rfl⟩
theorem fok90 : FOk Try.prog sh keep (90, Try.f90) := ⟨Try.func90, by kernel_rfl, by kernel_rfl⟩
theorem fok91 : FOk Try.prog sh keep (91, Try.f91) := ⟨Try.func91, by kernel_rfl, by kernel_rfl⟩
theorem fok92 : FOk Try.prog sh keep (92, Try.f92) := ⟨Try.func92, by kernel_rfl, by kernel_rfl⟩
theorem fok93 : FOk Try.prog sh keep (93, Try.f93) := ⟨Try.func93, by kernel_rfl, by kernel_rfl⟩
theorem fok94 : FOk Try.prog sh keep (94, Try.f94) := ⟨Try.func94, by kernel_rfl, by kernel_rfl⟩
theorem fok95 : FOk Try.prog sh keep (95, Try.f95) := ⟨Try.func95, by kernel_rfl, by kernel_rfl⟩
theorem fok96 : FOk Try.prog sh keep (96, Try.f96) := ⟨Try.func96, by kernel_rfl, by kernel_rfl⟩
theorem fok97 : FOk Try.prog sh keep (97, Try.f97) := ⟨Try.func97, by kernel_rfl, by kernel_rfl⟩
theorem fok98 : FOk Try.prog sh keep (98, Try.f98) := ⟨Try.func98, by kernel_rfl, by kernel_rfl⟩
theorem fok99 : FOk Try.prog sh keep (99, Try.f99) := ⟨Try.func99, by kernel_rfl, by kernel_rfl⟩
theorem fok100 : FOk Try.prog sh keep (100, Try.f100) := ⟨Try.func100, by kernel_rfl, by kernel_rfl⟩
theorem fok101 : FOk Try.prog sh keep (101, Try.f101) := ⟨Try.func101, by kernel_rfl, by kernel_rfl⟩
theorem fok102 : FOk Try.prog sh keep (102, Try.f102) := ⟨Try.func102, by kernel_rfl, by kernel_rfl⟩
theorem fok103 : FOk Try.prog sh keep (103, Try.f103) := ⟨Try.func103, by kernel_rfl, by kernel_rfl⟩
theorem fok104 : FOk Try.prog sh keep (104, Try.f104) := ⟨Try.func104, by kernel_rfl, by kernel_rfl⟩
theorem fok105 : FOk Try.prog sh keep (105, Try.f105) := ⟨Try.func105, by kernel_rfl, by kernel_rfl⟩
theorem fok106 : FOk Try.prog sh keep (106, Try.f106) := ⟨Try.func106, by kernel_rfl, by kernel_rfl⟩
theorem fok107 : FOk Try.prog sh keep (107, Try.f107) := ⟨Try.func107, by kernel_rfl, by kernel_rfl⟩
theorem fok108 : FOk Try.prog sh keep (108, Try.f108) := ⟨Try.func108, by kernel_rfl, by kernel_rfl⟩
theorem fok109 : FOk Try.prog sh keep (109, Try.f109) := ⟨Try.func109, by kernel_rfl, by kernel_rfl⟩
theorem fokAll : ∀ p ∈ rowsF, FOk Try.prog sh keep p :=
  fOk_cons fok3 (fOk_cons fok4 (fOk_cons fok5 (fOk_cons fok6 (fOk_cons fok7 (fOk_cons fok8 (fOk_cons fok9 (fOk_cons fok10 (fOk_cons fok11 (fOk_cons fok12 (fOk_cons fok13 (fOk_cons fok14 (fOk_cons fok15 (fOk_cons fok16 (fOk_cons fok17 (fOk_cons fok18 (fOk_cons fok19 (fOk_cons fok20 (fOk_cons fok21 (fOk_cons fok22 (fOk_cons fok23 (fOk_cons fok24 (fOk_cons fok25 (fOk_cons fok26 (fOk_cons fok27 (fOk_cons fok28 (fOk_cons fok29 (fOk_cons fok30 (fOk_cons fok31 (fOk_cons fok32 (fOk_cons fok33 (fOk_cons fok34 (fOk_cons fok35 (fOk_cons fok36 (fOk_cons fok37 (fOk_cons fok38 (fOk_cons fok39 (fOk_cons fok40 (fOk_cons fok41 (fOk_cons fok42 (fOk_cons fok43 (fOk_cons fok44 (fOk_cons fok45 (fOk_cons fok46 (fOk_cons fok47 (fOk_cons fok48 (fOk_cons fok49 (fOk_cons fok50 (fOk_cons fok51 (fOk_cons fok52 (fOk_cons fok53 (fOk_cons fok54 (fOk_cons fok55 (fOk_cons fok56 (fOk_cons fok57 (fOk_cons fok58 (fOk_cons fok59 (fOk_cons fok60 (fOk_cons fok61 (fOk_cons fok62 (fOk_cons fok63 (fOk_cons fok64 (fOk_cons fok65 (fOk_cons fok66 (fOk_cons fok67 (fOk_cons fok68 (fOk_cons fok69 (fOk_cons fok70 (fOk_cons fok71 (fOk_cons fok72 (fOk_cons fok73 (fOk_cons fok74 (fOk_cons fok75 (fOk_cons fok76 (fOk_cons fok77 (fOk_cons fok78 (fOk_cons fok79 (fOk_cons fok80 (fOk_cons fok81 (fOk_cons fok82 (fOk_cons fok83 (fOk_cons fok84 (fOk_cons fok85 (fOk_cons fok86 (fOk_cons fok87 (fOk_cons fok88 (fOk_cons fok89 (fOk_cons fok90 (fOk_cons fok91 (fOk_cons fok92 (fOk_cons fok93 (fOk_cons fok94 (fOk_cons fok95 (fOk_cons fok96 (fOk_cons fok97 (fOk_cons fok98 (fOk_cons fok99 (fOk_cons fok100 (fOk_cons fok101 (fOk_cons fok102 (fOk_cons fok103 (fOk_cons fok104 (fOk_cons fok105 (fOk_cons fok106 (fOk_cons fok107 (fOk_cons fok108 (fOk_cons fok109 fOk_nil))))))))))))))))))))))))))))))))))))))))))))))))))))))))))))))))))))))))))))))))))))))))))))))))))))))))))
theorem tokAll : rowsT.all (tiR Try.prog) = true := by kernel_rfl
noncomputable def F : FuncId → Option Func := findL rowsF
noncomputable def CN (L n : Nat) : CF := callF T F sh keep L n
theorem cn_sound (L n : Nat) : CSound Try.prog (CN L n) := callF_sound tokAll fokAll (by kernel_rfl) L n
theorem laws_szPegS_all (L m : Nat) : laws_szPegS_ok L (CN L (m + 1)) := by
  have key : ∀ args hp, CN L (m + 1) 8 args hp = run T (CN L (m + 0)) sh (keep 8) L Try.f8 args hp := fun args hp => callF_step (F := F) (by kernel_rfl) args hp
  have h := laws_szPegS_run L (CN L (m + 0))
  simpa only [laws_szPegS_ok, key] using h
theorem laws_toPeg_all (L m : Nat) : laws_toPeg_ok L (CN L (m + 1)) := by
  have key : ∀ args hp, CN L (m + 1) 29 args hp = run T (CN L (m + 0)) sh (keep 29) L Try.f29 args hp := fun args hp => callF_step (F := F) (by kernel_rfl) args hp
  have h := laws_toPeg_run L (CN L (m + 0))
  simpa only [laws_toPeg_ok, key] using h
theorem laws_toPegS_all (L m : Nat) : laws_toPegS_ok L (CN L (m + 2)) := by
  have key : ∀ args hp, CN L (m + 2) 10 args hp = run T (CN L (m + 1)) sh (keep 10) L Try.f10 args hp := fun args hp => callF_step (F := F) (by kernel_rfl) args hp
  have h := laws_toPegS_run L (CN L (m + 1)) (laws_toPeg_all L (m + 0))
  simpa only [laws_toPegS_ok, key] using h
theorem spec_l1In_all (L m : Nat) : spec_l1In_ok L (CN L (m + 1)) := by
  have key : ∀ args hp, CN L (m + 1) 65 args hp = run T (CN L (m + 0)) sh (keep 65) L Try.f65 args hp := fun args hp => callF_step (F := F) (by kernel_rfl) args hp
  have h := spec_l1In_run L (CN L (m + 0))
  simpa only [spec_l1In_ok, key] using h
theorem spec_pgIs_all (L m : Nat) : spec_pgIs_ok L (CN L (m + 2)) := by
  have key : ∀ args hp, CN L (m + 2) 35 args hp = run T (CN L (m + 1)) sh (keep 35) L Try.f35 args hp := fun args hp => callF_step (F := F) (by kernel_rfl) args hp
  have h := spec_pgIs_run L (CN L (m + 1)) (spec_l1In_all L (m + 0))
  simpa only [spec_pgIs_ok, key] using h
theorem spec_pgTurn_all (L m : Nat) : spec_pgTurn_ok L (CN L (m + 1)) := by
  have key : ∀ args hp, CN L (m + 1) 72 args hp = run T (CN L (m + 0)) sh (keep 72) L Try.f72 args hp := fun args hp => callF_step (F := F) (by kernel_rfl) args hp
  have h := spec_pgTurn_run L (CN L (m + 0))
  simpa only [spec_pgTurn_ok, key] using h
theorem spec_pgOn_all (L m : Nat) : spec_pgOn_ok L (CN L (m + 2)) := by
  have key : ∀ args hp, CN L (m + 2) 78 args hp = run T (CN L (m + 1)) sh (keep 78) L Try.f78 args hp := fun args hp => callF_step (F := F) (by kernel_rfl) args hp
  have h := spec_pgOn_run L (CN L (m + 1)) (spec_pgTurn_all L (m + 0))
  simpa only [spec_pgOn_ok, key] using h
theorem spec_l1Sign_all (L m : Nat) : spec_l1Sign_ok L (CN L (m + 1)) := by
  have key : ∀ args hp, CN L (m + 1) 74 args hp = run T (CN L (m + 0)) sh (keep 74) L Try.f74 args hp := fun args hp => callF_step (F := F) (by kernel_rfl) args hp
  have h := spec_l1Sign_run L (CN L (m + 0))
  simpa only [spec_l1Sign_ok, key] using h
theorem spec_pgMeet_all (L m : Nat) : spec_pgMeet_ok L (CN L (m + 3)) := by
  have key : ∀ args hp, CN L (m + 3) 73 args hp = run T (CN L (m + 2)) sh (keep 73) L Try.f73 args hp := fun args hp => callF_step (F := F) (by kernel_rfl) args hp
  have h := spec_pgMeet_run L (CN L (m + 2)) (spec_pgTurn_all L (m + 1)) (spec_pgOn_all L (m + 0)) (spec_l1Sign_all L (m + 1))
  simpa only [spec_pgMeet_ok, key] using h
theorem spec_pgGood_all (L m : Nat) : spec_pgGood_ok L (CN L (m + 4)) := by
  have key : ∀ args hp, CN L (m + 4) 49 args hp = run T (CN L (m + 3)) sh (keep 49) L Try.f49 args hp := fun args hp => callF_step (F := F) (by kernel_rfl) args hp
  have h := spec_pgGood_run L (CN L (m + 3)) (spec_l1In_all L (m + 2)) (spec_pgIs_all L (m + 1)) (spec_pgTurn_all L (m + 2)) (spec_pgMeet_all L (m + 0))
  simpa only [spec_pgGood_ok, key] using h
theorem spec_pgArea_all (L m : Nat) : spec_pgArea_ok L (CN L (m + 2)) := by
  have key : ∀ args hp, CN L (m + 2) 75 args hp = run T (CN L (m + 1)) sh (keep 75) L Try.f75 args hp := fun args hp => callF_step (F := F) (by kernel_rfl) args hp
  have h := spec_pgArea_run L (CN L (m + 1)) (spec_pgTurn_all L (m + 0))
  simpa only [spec_pgArea_ok, key] using h
theorem spec_pgConvex_all (L m : Nat) : spec_pgConvex_ok L (CN L (m + 3)) := by
  have key : ∀ args hp, CN L (m + 3) 50 args hp = run T (CN L (m + 2)) sh (keep 50) L Try.f50 args hp := fun args hp => callF_step (F := F) (by kernel_rfl) args hp
  have h := spec_pgConvex_run L (CN L (m + 2)) (spec_pgTurn_all L (m + 1)) (spec_l1Sign_all L (m + 1)) (spec_pgArea_all L (m + 0))
  simpa only [spec_pgConvex_ok, key] using h
theorem spec_l1Most_all (L m : Nat) : spec_l1Most_ok L (CN L (m + 1)) := by
  have key : ∀ args hp, CN L (m + 1) 96 args hp = run T (CN L (m + 0)) sh (keep 96) L Try.f96 args hp := fun args hp => callF_step (F := F) (by kernel_rfl) args hp
  have h := spec_l1Most_run L (CN L (m + 0))
  simpa only [spec_l1Most_ok, key] using h
theorem spec_l1Abs_all (L m : Nat) : spec_l1Abs_ok L (CN L (m + 2)) := by
  have key : ∀ args hp, CN L (m + 2) 76 args hp = run T (CN L (m + 1)) sh (keep 76) L Try.f76 args hp := fun args hp => callF_step (F := F) (by kernel_rfl) args hp
  have h := spec_l1Abs_run L (CN L (m + 1)) (spec_l1Most_all L (m + 0))
  simpa only [spec_l1Abs_ok, key] using h
theorem spec_pgCommon_all (L m : Nat) : spec_pgCommon_ok L (CN L (m + 3)) := by
  have key : ∀ args hp, CN L (m + 3) 81 args hp = run T (CN L (m + 2)) sh (keep 81) L Try.f81 args hp := fun args hp => callF_step (F := F) (by kernel_rfl) args hp
  have h := spec_pgCommon_run L (CN L (m + 2)) (spec_l1Abs_all L (m + 0))
  simpa only [spec_pgCommon_ok, key] using h
theorem spec_pgStep_all (L m : Nat) : spec_pgStep_ok L (CN L (m + 4)) := by
  have key : ∀ args hp, CN L (m + 4) 54 args hp = run T (CN L (m + 3)) sh (keep 54) L Try.f54 args hp := fun args hp => callF_step (F := F) (by kernel_rfl) args hp
  have h := spec_pgStep_run L (CN L (m + 3)) (spec_pgCommon_all L (m + 0))
  simpa only [spec_pgStep_ok, key] using h
theorem spec_pgRound_all (L m : Nat) : spec_pgRound_ok L (CN L (m + 5)) := by
  have key : ∀ args hp, CN L (m + 5) 77 args hp = run T (CN L (m + 4)) sh (keep 77) L Try.f77 args hp := fun args hp => callF_step (F := F) (by kernel_rfl) args hp
  have h := spec_pgRound_run L (CN L (m + 4)) (spec_pgStep_all L (m + 0))
  simpa only [spec_pgRound_ok, key] using h
theorem spec_pgInside_all (L m : Nat) : spec_pgInside_ok L (CN L (m + 6)) := by
  have key : ∀ args hp, CN L (m + 6) 51 args hp = run T (CN L (m + 5)) sh (keep 51) L Try.f51 args hp := fun args hp => callF_step (F := F) (by kernel_rfl) args hp
  have h := spec_pgInside_run L (CN L (m + 5)) (spec_pgArea_all L (m + 3)) (spec_l1Abs_all L (m + 3)) (spec_pgRound_all L (m + 0))
  simpa only [spec_pgInside_ok, key] using h
theorem spec_pgWhere_all (L m : Nat) : spec_pgWhere_ok L (CN L (m + 3)) := by
  have key : ∀ args hp, CN L (m + 3) 52 args hp = run T (CN L (m + 2)) sh (keep 52) L Try.f52 args hp := fun args hp => callF_step (F := F) (by kernel_rfl) args hp
  have h := spec_pgWhere_run L (CN L (m + 2)) (spec_pgTurn_all L (m + 1)) (spec_pgOn_all L (m + 0))
  simpa only [spec_pgWhere_ok, key] using h
theorem spec_duOne_all (L m : Nat) : spec_duOne_ok L (CN L (m + 7)) := by
  have key : ∀ args hp, CN L (m + 7) 27 args hp = run T (CN L (m + 6)) sh (keep 27) L Try.f27 args hp := fun args hp => callF_step (F := F) (by kernel_rfl) args hp
  have h := spec_duOne_run L (CN L (m + 6)) (spec_pgGood_all L (m + 2)) (spec_pgConvex_all L (m + 3)) (spec_pgInside_all L (m + 0)) (spec_pgWhere_all L (m + 3))
  simpa only [spec_duOne_ok, key] using h
theorem spec_pgBack_all (L m : Nat) : spec_pgBack_ok L (CN L (m + 1)) := by
  have key : ∀ args hp, CN L (m + 1) 79 args hp = run T (CN L (m + 0)) sh (keep 79) L Try.f79 args hp := fun args hp => callF_step (F := F) (by kernel_rfl) args hp
  have h := spec_pgBack_run L (CN L (m + 0))
  simpa only [spec_pgBack_ok, key] using h
theorem spec_pgLess_all (L m : Nat) : spec_pgLess_ok L (CN L (m + 1)) := by
  have key : ∀ args hp, CN L (m + 1) 80 args hp = run T (CN L (m + 0)) sh (keep 80) L Try.f80 args hp := fun args hp => callF_step (F := F) (by kernel_rfl) args hp
  have h := spec_pgLess_run L (CN L (m + 0))
  simpa only [spec_pgLess_ok, key] using h
theorem spec_pgFirst_all (L m : Nat) : spec_pgFirst_ok L (CN L (m + 3)) := by
  have key : ∀ args hp, CN L (m + 3) 53 args hp = run T (CN L (m + 2)) sh (keep 53) L Try.f53 args hp := fun args hp => callF_step (F := F) (by kernel_rfl) args hp
  have h := spec_pgFirst_run L (CN L (m + 2)) (spec_pgArea_all L (m + 0)) (spec_pgBack_all L (m + 1)) (spec_pgLess_all L (m + 1))
  simpa only [spec_pgFirst_ok, key] using h
theorem spec_duAround_all (L m : Nat) : spec_duAround_ok L (CN L (m + 5)) := by
  have key : ∀ args hp, CN L (m + 5) 28 args hp = run T (CN L (m + 4)) sh (keep 28) L Try.f28 args hp := fun args hp => callF_step (F := F) (by kernel_rfl) args hp
  have h := spec_duAround_run L (CN L (m + 4)) (spec_pgStep_all L (m + 0)) (spec_pgFirst_all L (m + 1))
  simpa only [spec_duAround_ok, key] using h
theorem spec_AroundOf_all (L m : Nat) : spec_AroundOf_ok L (CN L (m + 8)) := by
  have key : ∀ args hp, CN L (m + 8) 9 args hp = run T (CN L (m + 7)) sh (keep 9) L Try.f9 args hp := fun args hp => callF_step (F := F) (by kernel_rfl) args hp
  have h := spec_AroundOf_run L (CN L (m + 7)) (spec_duOne_all L (m + 0)) (spec_duAround_all L (m + 2))
  simpa only [spec_AroundOf_ok, key] using h
theorem impl_within_all (L m : Nat) : impl_within_ok L (CN L (m + 1)) := by
  have key : ∀ args hp, CN L (m + 1) 82 args hp = run T (CN L (m + 0)) sh (keep 82) L Try.f82 args hp := fun args hp => callF_step (F := F) (by kernel_rfl) args hp
  have h := impl_within_run L (CN L (m + 0))
  simpa only [impl_within_ok, key] using h
theorem impl_IsPeg_all (L m : Nat) : impl_IsPeg_ok L (CN L (m + 2)) := by
  have key : ∀ args hp, CN L (m + 2) 69 args hp = run T (CN L (m + 1)) sh (keep 69) L Try.f69 args hp := fun args hp => callF_step (F := F) (by kernel_rfl) args hp
  have h := impl_IsPeg_run L (CN L (m + 1)) (impl_within_all L (m + 0))
  simpa only [impl_IsPeg_ok, key] using h
theorem impl_arePegs_1_all (L m : Nat) : impl_arePegs_1_ok L (CN L (m + 3)) := by
  have key : ∀ args hp, CN L (m + 3) 68 args hp = run T (CN L (m + 2)) sh (keep 68) L Try.f68 args hp := fun args hp => callF_step (F := F) (by kernel_rfl) args hp
  have h := impl_arePegs_1_run L (CN L (m + 2)) (impl_IsPeg_all L (m + 0))
  simpa only [impl_arePegs_1_ok, key] using h
theorem slices_IndexFunc_impl_Peg_impl_Peg_arePegs_all (L m : Nat) : slices_IndexFunc_impl_Peg_impl_Peg_arePegs_ok L (CN L (m + 4)) := by
  have key : ∀ args hp, CN L (m + 4) 91 args hp = run T (CN L (m + 3)) sh (keep 91) L Try.f91 args hp := fun args hp => callF_step (F := F) (by kernel_rfl) args hp
  have h := slices_IndexFunc_impl_Peg_impl_Peg_arePegs_run L (CN L (m + 3)) (impl_arePegs_1_all L (m + 0))
  simpa only [slices_IndexFunc_impl_Peg_impl_Peg_arePegs_ok, key] using h
theorem slices_ContainsFunc_impl_Peg_impl_Peg_arePegs_all (L m : Nat) : slices_ContainsFunc_impl_Peg_impl_Peg_arePegs_ok L (CN L (m + 5)) := by
  have key : ∀ args hp, CN L (m + 5) 67 args hp = run T (CN L (m + 4)) sh (keep 67) L Try.f67 args hp := fun args hp => callF_step (F := F) (by kernel_rfl) args hp
  have h := slices_ContainsFunc_impl_Peg_impl_Peg_arePegs_run L (CN L (m + 4)) (slices_IndexFunc_impl_Peg_impl_Peg_arePegs_all L (m + 0))
  simpa only [slices_ContainsFunc_impl_Peg_impl_Peg_arePegs_ok, key] using h
theorem impl_arePegs_all (L m : Nat) : impl_arePegs_ok L (CN L (m + 6)) := by
  have key : ∀ args hp, CN L (m + 6) 37 args hp = run T (CN L (m + 5)) sh (keep 37) L Try.f37 args hp := fun args hp => callF_step (F := F) (by kernel_rfl) args hp
  have h := impl_arePegs_run L (CN L (m + 5)) (slices_ContainsFunc_impl_Peg_impl_Peg_arePegs_all L (m + 0))
  simpa only [impl_arePegs_ok, key] using h
theorem slices_Index_impl_Peg_impl_Peg_all (L m : Nat) : slices_Index_impl_Peg_impl_Peg_ok L (CN L (m + 1)) := by
  have key : ∀ args hp, CN L (m + 1) 97 args hp = run T (CN L (m + 0)) sh (keep 97) L Try.f97 args hp := fun args hp => callF_step (F := F) (by kernel_rfl) args hp
  have h := slices_Index_impl_Peg_impl_Peg_run L (CN L (m + 0))
  simpa only [slices_Index_impl_Peg_impl_Peg_ok, key] using h
theorem slices_Contains_impl_Peg_impl_Peg_all (L m : Nat) : slices_Contains_impl_Peg_impl_Peg_ok L (CN L (m + 2)) := by
  have key : ∀ args hp, CN L (m + 2) 83 args hp = run T (CN L (m + 1)) sh (keep 83) L Try.f83 args hp := fun args hp => callF_step (F := F) (by kernel_rfl) args hp
  have h := slices_Contains_impl_Peg_impl_Peg_run L (CN L (m + 1)) (slices_Index_impl_Peg_impl_Peg_all L (m + 0))
  simpa only [slices_Contains_impl_Peg_impl_Peg_ok, key] using h
theorem impl_at_all (L m : Nat) : impl_at_ok L (CN L (m + 1)) := by
  have key : ∀ args hp, CN L (m + 1) 57 args hp = run T (CN L (m + 0)) sh (keep 57) L Try.f57 args hp := fun args hp => callF_step (F := F) (by kernel_rfl) args hp
  have h := impl_at_run L (CN L (m + 0))
  simpa only [impl_at_ok, key] using h
theorem impl_Peg_less_all (L m : Nat) : impl_Peg_less_ok L (CN L (m + 1)) := by
  have key : ∀ args hp, CN L (m + 1) 59 args hp = run T (CN L (m + 0)) sh (keep 59) L Try.f59 args hp := fun args hp => callF_step (F := F) (by kernel_rfl) args hp
  have h := impl_Peg_less_run L (CN L (m + 0))
  simpa only [impl_Peg_less_ok, key] using h
theorem impl_cross_all (L m : Nat) : impl_cross_ok L (CN L (m + 1)) := by
  have key : ∀ args hp, CN L (m + 1) 66 args hp = run T (CN L (m + 0)) sh (keep 66) L Try.f66 args hp := fun args hp => callF_step (F := F) (by kernel_rfl) args hp
  have h := impl_cross_run L (CN L (m + 0))
  simpa only [impl_cross_ok, key] using h
theorem impl_turn_all (L m : Nat) : impl_turn_ok L (CN L (m + 2)) := by
  have key : ∀ args hp, CN L (m + 2) 84 args hp = run T (CN L (m + 1)) sh (keep 84) L Try.f84 args hp := fun args hp => callF_step (F := F) (by kernel_rfl) args hp
  have h := impl_turn_run L (CN L (m + 1)) (impl_Peg_less_all L (m + 0)) (impl_cross_all L (m + 0))
  simpa only [impl_turn_ok, key] using h
theorem impl_sign_all (L m : Nat) : impl_sign_ok L (CN L (m + 1)) := by
  have key : ∀ args hp, CN L (m + 1) 63 args hp = run T (CN L (m + 0)) sh (keep 63) L Try.f63 args hp := fun args hp => callF_step (F := F) (by kernel_rfl) args hp
  have h := impl_sign_run L (CN L (m + 0))
  simpa only [impl_sign_ok, key] using h
theorem impl_isOn_all (L m : Nat) : impl_isOn_ok L (CN L (m + 3)) := by
  have key : ∀ args hp, CN L (m + 3) 98 args hp = run T (CN L (m + 2)) sh (keep 98) L Try.f98 args hp := fun args hp => callF_step (F := F) (by kernel_rfl) args hp
  have h := impl_isOn_run L (CN L (m + 2)) (impl_within_all L (m + 1)) (impl_turn_all L (m + 0))
  simpa only [impl_isOn_ok, key] using h
theorem impl_meet_all (L m : Nat) : impl_meet_ok L (CN L (m + 4)) := by
  have key : ∀ args hp, CN L (m + 4) 85 args hp = run T (CN L (m + 3)) sh (keep 85) L Try.f85 args hp := fun args hp => callF_step (F := F) (by kernel_rfl) args hp
  have h := impl_meet_run L (CN L (m + 3)) (impl_turn_all L (m + 1)) (impl_sign_all L (m + 2)) (impl_isOn_all L (m + 0))
  simpa only [impl_meet_ok, key] using h
theorem impl_IsPolygon_all (L m : Nat) : impl_IsPolygon_ok L (CN L (m + 7)) := by
  have key : ∀ args hp, CN L (m + 7) 55 args hp = run T (CN L (m + 6)) sh (keep 55) L Try.f55 args hp := fun args hp => callF_step (F := F) (by kernel_rfl) args hp
  have h := impl_IsPolygon_run L (CN L (m + 6)) (impl_within_all L (m + 5)) (impl_arePegs_all L (m + 0)) (slices_Contains_impl_Peg_impl_Peg_all L (m + 4)) (impl_at_all L (m + 5)) (impl_turn_all L (m + 4)) (impl_meet_all L (m + 2))
  simpa only [impl_IsPolygon_ok, key] using h
theorem impl_twice_all (L m : Nat) : impl_twice_ok L (CN L (m + 2)) := by
  have key : ∀ args hp, CN L (m + 2) 64 args hp = run T (CN L (m + 1)) sh (keep 64) L Try.f64 args hp := fun args hp => callF_step (F := F) (by kernel_rfl) args hp
  have h := impl_twice_run L (CN L (m + 1)) (impl_at_all L (m + 0)) (impl_cross_all L (m + 0))
  simpa only [impl_twice_ok, key] using h
theorem impl_isConvex_all (L m : Nat) : impl_isConvex_ok L (CN L (m + 3)) := by
  have key : ∀ args hp, CN L (m + 3) 86 args hp = run T (CN L (m + 2)) sh (keep 86) L Try.f86 args hp := fun args hp => callF_step (F := F) (by kernel_rfl) args hp
  have h := impl_isConvex_run L (CN L (m + 2)) (impl_at_all L (m + 1)) (impl_turn_all L (m + 0)) (impl_sign_all L (m + 1)) (impl_twice_all L (m + 0))
  simpa only [impl_isConvex_ok, key] using h
theorem impl_size_all (L m : Nat) : impl_size_ok L (CN L (m + 1)) := by
  have key : ∀ args hp, CN L (m + 1) 99 args hp = run T (CN L (m + 0)) sh (keep 99) L Try.f99 args hp := fun args hp => callF_step (F := F) (by kernel_rfl) args hp
  have h := impl_size_run L (CN L (m + 0))
  simpa only [impl_size_ok, key] using h
theorem impl_divisor_all (L m : Nat) : impl_divisor_ok L (CN L (m + 2)) := by
  have key : ∀ args hp, CN L (m + 2) 89 args hp = run T (CN L (m + 1)) sh (keep 89) L Try.f89 args hp := fun args hp => callF_step (F := F) (by kernel_rfl) args hp
  have h := impl_divisor_run L (CN L (m + 1)) (impl_size_all L (m + 0))
  simpa only [impl_divisor_ok, key] using h
theorem impl_steps_all (L m : Nat) : impl_steps_ok L (CN L (m + 3)) := by
  have key : ∀ args hp, CN L (m + 3) 58 args hp = run T (CN L (m + 2)) sh (keep 58) L Try.f58 args hp := fun args hp => callF_step (F := F) (by kernel_rfl) args hp
  have h := impl_steps_run L (CN L (m + 2)) (impl_divisor_all L (m + 0))
  simpa only [impl_steps_ok, key] using h
theorem impl_around_all (L m : Nat) : impl_around_ok L (CN L (m + 4)) := by
  have key : ∀ args hp, CN L (m + 4) 100 args hp = run T (CN L (m + 3)) sh (keep 100) L Try.f100 args hp := fun args hp => callF_step (F := F) (by kernel_rfl) args hp
  have h := impl_around_run L (CN L (m + 3)) (impl_at_all L (m + 2)) (impl_steps_all L (m + 0))
  simpa only [impl_around_ok, key] using h
theorem impl_inner_all (L m : Nat) : impl_inner_ok L (CN L (m + 5)) := by
  have key : ∀ args hp, CN L (m + 5) 87 args hp = run T (CN L (m + 4)) sh (keep 87) L Try.f87 args hp := fun args hp => callF_step (F := F) (by kernel_rfl) args hp
  have h := impl_inner_run L (CN L (m + 4)) (impl_twice_all L (m + 2)) (impl_size_all L (m + 3)) (impl_around_all L (m + 0))
  simpa only [impl_inner_ok, key] using h
theorem impl_where_all (L m : Nat) : impl_where_ok L (CN L (m + 4)) := by
  have key : ∀ args hp, CN L (m + 4) 88 args hp = run T (CN L (m + 3)) sh (keep 88) L Try.f88 args hp := fun args hp => callF_step (F := F) (by kernel_rfl) args hp
  have h := impl_where_run L (CN L (m + 3)) (impl_at_all L (m + 2)) (impl_turn_all L (m + 1)) (impl_isOn_all L (m + 0))
  simpa only [impl_where_ok, key] using h
theorem impl_isOneInside_all (L m : Nat) : impl_isOneInside_ok L (CN L (m + 6)) := by
  have key : ∀ args hp, CN L (m + 6) 56 args hp = run T (CN L (m + 5)) sh (keep 56) L Try.f56 args hp := fun args hp => callF_step (F := F) (by kernel_rfl) args hp
  have h := impl_isOneInside_run L (CN L (m + 5)) (impl_isConvex_all L (m + 2)) (impl_inner_all L (m + 0)) (impl_where_all L (m + 1))
  simpa only [impl_isOneInside_ok, key] using h
theorem impl_isDualist_all (L m : Nat) : impl_isDualist_ok L (CN L (m + 8)) := by
  have key : ∀ args hp, CN L (m + 8) 30 args hp = run T (CN L (m + 7)) sh (keep 30) L Try.f30 args hp := fun args hp => callF_step (F := F) (by kernel_rfl) args hp
  have h := impl_isDualist_run L (CN L (m + 7)) (impl_IsPolygon_all L (m + 0)) (impl_isOneInside_all L (m + 1))
  simpa only [impl_isDualist_ok, key] using h
theorem cmp_isNaN_int_all (L m : Nat) : cmp_isNaN_int_ok L (CN L (m + 1)) := by
  have key : ∀ args hp, CN L (m + 1) 107 args hp = run T (CN L (m + 0)) sh (keep 107) L Try.f107 args hp := fun args hp => callF_step (F := F) (by kernel_rfl) args hp
  have h := cmp_isNaN_int_run L (CN L (m + 0))
  simpa only [cmp_isNaN_int_ok, key] using h
theorem cmp_Compare_int_all (L m : Nat) : cmp_Compare_int_ok L (CN L (m + 2)) := by
  have key : ∀ args hp, CN L (m + 2) 102 args hp = run T (CN L (m + 1)) sh (keep 102) L Try.f102 args hp := fun args hp => callF_step (F := F) (by kernel_rfl) args hp
  have h := cmp_Compare_int_run L (CN L (m + 1)) (cmp_isNaN_int_all L (m + 0))
  simpa only [cmp_Compare_int_ok, key] using h
theorem cmp_Or_int_all (L m : Nat) : cmp_Or_int_ok L (CN L (m + 1)) := by
  have key : ∀ args hp, CN L (m + 1) 101 args hp = run T (CN L (m + 0)) sh (keep 101) L Try.f101 args hp := fun args hp => callF_step (F := F) (by kernel_rfl) args hp
  have h := cmp_Or_int_run L (CN L (m + 0))
  simpa only [cmp_Or_int_ok, key] using h
theorem impl_comparePegs_all (L m : Nat) : impl_comparePegs_ok L (CN L (m + 3)) := by
  have key : ∀ args hp, CN L (m + 3) 90 args hp = run T (CN L (m + 2)) sh (keep 90) L Try.f90 args hp := fun args hp => callF_step (F := F) (by kernel_rfl) args hp
  have h := impl_comparePegs_run L (CN L (m + 2)) (cmp_Compare_int_all L (m + 0)) (cmp_Or_int_all L (m + 1))
  simpa only [impl_comparePegs_ok, key] using h
theorem impl_first_all (L m : Nat) : impl_first_ok L (CN L (m + 4)) := by
  have key : ∀ args hp, CN L (m + 4) 62 args hp = run T (CN L (m + 3)) sh (keep 62) L Try.f62 args hp := fun args hp => callF_step (F := F) (by kernel_rfl) args hp
  have h := impl_first_run L (CN L (m + 3)) (impl_comparePegs_all L (m + 0))
  simpa only [impl_first_ok, key] using h
theorem impl_told_all (L m : Nat) : impl_told_ok L (CN L (m + 2)) := by
  have key : ∀ args hp, CN L (m + 2) 61 args hp = run T (CN L (m + 1)) sh (keep 61) L Try.f61 args hp := fun args hp => callF_step (F := F) (by kernel_rfl) args hp
  have h := impl_told_run L (CN L (m + 1)) (impl_at_all L (m + 0))
  simpa only [impl_told_ok, key] using h
theorem impl_tellFirst_all (L m : Nat) : impl_tellFirst_ok L (CN L (m + 5)) := by
  have key : ∀ args hp, CN L (m + 5) 32 args hp = run T (CN L (m + 4)) sh (keep 32) L Try.f32 args hp := fun args hp => callF_step (F := F) (by kernel_rfl) args hp
  have h := impl_tellFirst_run L (CN L (m + 4)) (impl_sign_all L (m + 3)) (impl_twice_all L (m + 2)) (impl_first_all L (m + 0)) (impl_told_all L (m + 2))
  simpa only [impl_tellFirst_ok, key] using h
theorem impl_Peg_plus_all (L m : Nat) : impl_Peg_plus_ok L (CN L (m + 1)) := by
  have key : ∀ args hp, CN L (m + 1) 60 args hp = run T (CN L (m + 0)) sh (keep 60) L Try.f60 args hp := fun args hp => callF_step (F := F) (by kernel_rfl) args hp
  have h := impl_Peg_plus_run L (CN L (m + 0))
  simpa only [impl_Peg_plus_ok, key] using h
theorem impl_pegsAround_all (L m : Nat) : impl_pegsAround_ok L (CN L (m + 5)) := by
  have key : ∀ args hp, CN L (m + 5) 31 args hp = run T (CN L (m + 4)) sh (keep 31) L Try.f31 args hp := fun args hp => callF_step (F := F) (by kernel_rfl) args hp
  have h := impl_pegsAround_run L (CN L (m + 4)) (impl_at_all L (m + 3)) (impl_Peg_less_all L (m + 3)) (impl_steps_all L (m + 1)) (impl_first_all L (m + 0)) (impl_told_all L (m + 2)) (impl_Peg_plus_all L (m + 3))
  simpa only [impl_pegsAround_ok, key] using h
theorem impl_AroundOf_all (L m : Nat) : impl_AroundOf_ok L (CN L (m + 9)) := by
  have key : ∀ args hp, CN L (m + 9) 11 args hp = run T (CN L (m + 8)) sh (keep 11) L Try.f11 args hp := fun args hp => callF_step (F := F) (by kernel_rfl) args hp
  have h := impl_AroundOf_run L (CN L (m + 8)) (impl_isDualist_all L (m + 0)) (impl_tellFirst_all L (m + 3)) (impl_pegsAround_all L (m + 3))
  simpa only [impl_AroundOf_ok, key] using h
theorem laws_eqPeg_all (L m : Nat) : laws_eqPeg_ok L (CN L (m + 1)) := by
  have key : ∀ args hp, CN L (m + 1) 33 args hp = run T (CN L (m + 0)) sh (keep 33) L Try.f33 args hp := fun args hp => callF_step (F := F) (by kernel_rfl) args hp
  have h := laws_eqPeg_run L (CN L (m + 0))
  simpa only [laws_eqPeg_ok, key] using h
theorem laws_eqPegS_all (L m : Nat) : laws_eqPegS_ok L (CN L (m + 2)) := by
  have key : ∀ args hp, CN L (m + 2) 12 args hp = run T (CN L (m + 1)) sh (keep 12) L Try.f12 args hp := fun args hp => callF_step (F := F) (by kernel_rfl) args hp
  have h := laws_eqPegS_run L (CN L (m + 1)) (laws_eqPeg_all L (m + 0))
  simpa only [laws_eqPegS_ok, key] using h
theorem laws_markPegS_all (L m : Nat) : laws_markPegS_ok L (CN L (m + 1)) := by
  have key : ∀ args hp, CN L (m + 1) 13 args hp = run T (CN L (m + 0)) sh (keep 13) L Try.f13 args hp := fun args hp => callF_step (F := F) (by kernel_rfl) args hp
  have h := laws_markPegS_run L (CN L (m + 0))
  simpa only [laws_markPegS_ok, key] using h
theorem laws_heldPegS_all (L m : Nat) : laws_heldPegS_ok L (CN L (m + 1)) := by
  have key : ∀ args hp, CN L (m + 1) 14 args hp = run T (CN L (m + 0)) sh (keep 14) L Try.f14 args hp := fun args hp => callF_step (F := F) (by kernel_rfl) args hp
  have h := laws_heldPegS_run L (CN L (m + 0))
  simpa only [laws_heldPegS_ok, key] using h
theorem laws_FnExactAroundOf_all (L m : Nat) : laws_FnExactAroundOf_ok L (CN L (m + 10)) := by
  have key : ∀ args hp, CN L (m + 10) 3 args hp = run T (CN L (m + 9)) sh (keep 3) L Try.f3 args hp := fun args hp => callF_step (F := F) (by kernel_rfl) args hp
  have h := laws_FnExactAroundOf_run L (CN L (m + 9)) (laws_szPegS_all L (m + 8)) (laws_toPegS_all L (m + 7)) (spec_AroundOf_all L (m + 1)) (impl_AroundOf_all L (m + 0)) (laws_eqPegS_all L (m + 7)) (laws_markPegS_all L (m + 8)) (laws_heldPegS_all L (m + 8))
  simpa only [laws_FnExactAroundOf_ok, key] using h
theorem spec_duDual_all (L m : Nat) : spec_duDual_ok L (CN L (m + 5)) := by
  have key : ∀ args hp, CN L (m + 5) 34 args hp = run T (CN L (m + 4)) sh (keep 34) L Try.f34 args hp := fun args hp => callF_step (F := F) (by kernel_rfl) args hp
  have h := spec_duDual_run L (CN L (m + 4)) (spec_pgStep_all L (m + 0)) (spec_pgFirst_all L (m + 1))
  simpa only [spec_duDual_ok, key] using h
theorem spec_DualOf_all (L m : Nat) : spec_DualOf_ok L (CN L (m + 8)) := by
  have key : ∀ args hp, CN L (m + 8) 15 args hp = run T (CN L (m + 7)) sh (keep 15) L Try.f15 args hp := fun args hp => callF_step (F := F) (by kernel_rfl) args hp
  have h := spec_DualOf_run L (CN L (m + 7)) (spec_pgIs_all L (m + 5)) (spec_duOne_all L (m + 0)) (spec_duDual_all L (m + 2))
  simpa only [spec_DualOf_ok, key] using h
theorem impl_dual_all (L m : Nat) : impl_dual_ok L (CN L (m + 6)) := by
  have key : ∀ args hp, CN L (m + 6) 36 args hp = run T (CN L (m + 5)) sh (keep 36) L Try.f36 args hp := fun args hp => callF_step (F := F) (by kernel_rfl) args hp
  have h := impl_dual_run L (CN L (m + 5)) (impl_at_all L (m + 4)) (impl_cross_all L (m + 4)) (impl_first_all L (m + 1)) (impl_told_all L (m + 3)) (impl_tellFirst_all L (m + 0))
  simpa only [impl_dual_ok, key] using h
theorem impl_DualOf_all (L m : Nat) : impl_DualOf_ok L (CN L (m + 9)) := by
  have key : ∀ args hp, CN L (m + 9) 16 args hp = run T (CN L (m + 8)) sh (keep 16) L Try.f16 args hp := fun args hp => callF_step (F := F) (by kernel_rfl) args hp
  have h := impl_DualOf_run L (CN L (m + 8)) (impl_arePegs_all L (m + 2)) (impl_isDualist_all L (m + 0)) (impl_dual_all L (m + 2))
  simpa only [impl_DualOf_ok, key] using h
theorem laws_FnExactDualOf_all (L m : Nat) : laws_FnExactDualOf_ok L (CN L (m + 10)) := by
  have key : ∀ args hp, CN L (m + 10) 4 args hp = run T (CN L (m + 9)) sh (keep 4) L Try.f4 args hp := fun args hp => callF_step (F := F) (by kernel_rfl) args hp
  have h := laws_FnExactDualOf_run L (CN L (m + 9)) (laws_szPegS_all L (m + 8)) (laws_toPegS_all L (m + 7)) (laws_eqPegS_all L (m + 7)) (laws_markPegS_all L (m + 8)) (laws_heldPegS_all L (m + 8)) (spec_DualOf_all L (m + 1)) (impl_DualOf_all L (m + 0))
  simpa only [laws_FnExactDualOf_ok, key] using h
theorem spec_mvThree_all (L m : Nat) : spec_mvThree_ok L (CN L (m + 5)) := by
  have key : ∀ args hp, CN L (m + 5) 38 args hp = run T (CN L (m + 4)) sh (keep 38) L Try.f38 args hp := fun args hp => callF_step (F := F) (by kernel_rfl) args hp
  have h := spec_mvThree_run L (CN L (m + 4)) (spec_pgGood_all L (m + 0))
  simpa only [spec_mvThree_ok, key] using h
theorem spec_mvFull_all (L m : Nat) : spec_mvFull_ok L (CN L (m + 1)) := by
  have key : ∀ args hp, CN L (m + 1) 108 args hp = run T (CN L (m + 0)) sh (keep 108) L Try.f108 args hp := fun args hp => callF_step (F := F) (by kernel_rfl) args hp
  have h := spec_mvFull_run L (CN L (m + 0))
  simpa only [spec_mvFull_ok, key] using h
theorem spec_mvPeg_all (L m : Nat) : spec_mvPeg_ok L (CN L (m + 1)) := by
  have key : ∀ args hp, CN L (m + 1) 109 args hp = run T (CN L (m + 0)) sh (keep 109) L Try.f109 args hp := fun args hp => callF_step (F := F) (by kernel_rfl) args hp
  have h := spec_mvPeg_run L (CN L (m + 0))
  simpa only [spec_mvPeg_ok, key] using h
theorem spec_mvFrame_all (L m : Nat) : spec_mvFrame_ok L (CN L (m + 4)) := by
  have key : ∀ args hp, CN L (m + 4) 103 args hp = run T (CN L (m + 3)) sh (keep 103) L Try.f103 args hp := fun args hp => callF_step (F := F) (by kernel_rfl) args hp
  have h := spec_mvFrame_run L (CN L (m + 3)) (spec_pgCommon_all L (m + 0)) (spec_mvFull_all L (m + 2)) (spec_mvPeg_all L (m + 2))
  simpa only [spec_mvFrame_ok, key] using h
theorem spec_mvFrames_all (L m : Nat) : spec_mvFrames_ok L (CN L (m + 5)) := by
  have key : ∀ args hp, CN L (m + 5) 92 args hp = run T (CN L (m + 4)) sh (keep 92) L Try.f92 args hp := fun args hp => callF_step (F := F) (by kernel_rfl) args hp
  have h := spec_mvFrames_run L (CN L (m + 4)) (spec_pgBack_all L (m + 3)) (spec_mvFrame_all L (m + 0))
  simpa only [spec_mvFrames_ok, key] using h
theorem spec_mvBefore_all (L m : Nat) : spec_mvBefore_ok L (CN L (m + 2)) := by
  have key : ∀ args hp, CN L (m + 2) 93 args hp = run T (CN L (m + 1)) sh (keep 93) L Try.f93 args hp := fun args hp => callF_step (F := F) (by kernel_rfl) args hp
  have h := spec_mvBefore_run L (CN L (m + 1)) (spec_pgLess_all L (m + 0))
  simpa only [spec_mvBefore_ok, key] using h
theorem spec_mvKind_all (L m : Nat) : spec_mvKind_ok L (CN L (m + 6)) := by
  have key : ∀ args hp, CN L (m + 6) 70 args hp = run T (CN L (m + 5)) sh (keep 70) L Try.f70 args hp := fun args hp => callF_step (F := F) (by kernel_rfl) args hp
  have h := spec_mvKind_run L (CN L (m + 5)) (spec_mvFrames_all L (m + 0)) (spec_mvBefore_all L (m + 3))
  simpa only [spec_mvKind_ok, key] using h
theorem spec_mvList_all (L m : Nat) : spec_mvList_ok L (CN L (m + 7)) := by
  have key : ∀ args hp, CN L (m + 7) 39 args hp = run T (CN L (m + 6)) sh (keep 39) L Try.f39 args hp := fun args hp => callF_step (F := F) (by kernel_rfl) args hp
  have h := spec_mvList_run L (CN L (m + 6)) (spec_mvKind_all L (m + 0))
  simpa only [spec_mvList_ok, key] using h
theorem spec_KindOfTriangle_all (L m : Nat) : spec_KindOfTriangle_ok L (CN L (m + 8)) := by
  have key : ∀ args hp, CN L (m + 8) 17 args hp = run T (CN L (m + 7)) sh (keep 17) L Try.f17 args hp := fun args hp => callF_step (F := F) (by kernel_rfl) args hp
  have h := spec_KindOfTriangle_run L (CN L (m + 7)) (spec_mvThree_all L (m + 2)) (spec_mvList_all L (m + 0))
  simpa only [spec_KindOfTriangle_ok, key] using h
theorem impl_isThree_all (L m : Nat) : impl_isThree_ok L (CN L (m + 8)) := by
  have key : ∀ args hp, CN L (m + 8) 40 args hp = run T (CN L (m + 7)) sh (keep 40) L Try.f40 args hp := fun args hp => callF_step (F := F) (by kernel_rfl) args hp
  have h := impl_isThree_run L (CN L (m + 7)) (impl_IsPolygon_all L (m + 0))
  simpa only [impl_isThree_ok, key] using h
theorem impl_bezout_all (L m : Nat) : impl_bezout_ok L (CN L (m + 1)) := by
  have key : ∀ args hp, CN L (m + 1) 104 args hp = run T (CN L (m + 0)) sh (keep 104) L Try.f104 args hp := fun args hp => callF_step (F := F) (by kernel_rfl) args hp
  have h := impl_bezout_run L (CN L (m + 0))
  simpa only [impl_bezout_ok, key] using h
theorem impl_Move_bring_all (L m : Nat) : impl_Move_bring_ok L (CN L (m + 1)) := by
  have key : ∀ args hp, CN L (m + 1) 105 args hp = run T (CN L (m + 0)) sh (keep 105) L Try.f105 args hp := fun args hp => callF_step (F := F) (by kernel_rfl) args hp
  have h := impl_Move_bring_run L (CN L (m + 0))
  simpa only [impl_Move_bring_ok, key] using h
theorem impl_frame_all (L m : Nat) : impl_frame_ok L (CN L (m + 2)) := by
  have key : ∀ args hp, CN L (m + 2) 94 args hp = run T (CN L (m + 1)) sh (keep 94) L Try.f94 args hp := fun args hp => callF_step (F := F) (by kernel_rfl) args hp
  have h := impl_frame_run L (CN L (m + 1)) (impl_Peg_less_all L (m + 0)) (impl_bezout_all L (m + 0)) (impl_Move_bring_all L (m + 0))
  simpa only [impl_frame_ok, key] using h
theorem slices_CompareFunc_impl_Peg_impl_Peg_impl_Peg_impl_Peg_all (L m : Nat) : slices_CompareFunc_impl_Peg_impl_Peg_impl_Peg_impl_Peg_ok L (CN L (m + 4)) := by
  have key : ∀ args hp, CN L (m + 4) 106 args hp = run T (CN L (m + 3)) sh (keep 106) L Try.f106 args hp := fun args hp => callF_step (F := F) (by kernel_rfl) args hp
  have h := slices_CompareFunc_impl_Peg_impl_Peg_impl_Peg_impl_Peg_run L (CN L (m + 3)) (impl_comparePegs_all L (m + 0))
  simpa only [slices_CompareFunc_impl_Peg_impl_Peg_impl_Peg_impl_Peg_ok, key] using h
theorem impl_comparePolygons_all (L m : Nat) : impl_comparePolygons_ok L (CN L (m + 5)) := by
  have key : ∀ args hp, CN L (m + 5) 95 args hp = run T (CN L (m + 4)) sh (keep 95) L Try.f95 args hp := fun args hp => callF_step (F := F) (by kernel_rfl) args hp
  have h := impl_comparePolygons_run L (CN L (m + 4)) (slices_CompareFunc_impl_Peg_impl_Peg_impl_Peg_impl_Peg_all L (m + 0))
  simpa only [impl_comparePolygons_ok, key] using h
theorem impl_firstFrame_all (L m : Nat) : impl_firstFrame_ok L (CN L (m + 6)) := by
  have key : ∀ args hp, CN L (m + 6) 71 args hp = run T (CN L (m + 5)) sh (keep 71) L Try.f71 args hp := fun args hp => callF_step (F := F) (by kernel_rfl) args hp
  have h := impl_firstFrame_run L (CN L (m + 5)) (impl_told_all L (m + 3)) (impl_frame_all L (m + 3)) (impl_comparePolygons_all L (m + 0))
  simpa only [impl_firstFrame_ok, key] using h
theorem impl_kindOf_all (L m : Nat) : impl_kindOf_ok L (CN L (m + 7)) := by
  have key : ∀ args hp, CN L (m + 7) 41 args hp = run T (CN L (m + 6)) sh (keep 41) L Try.f41 args hp := fun args hp => callF_step (F := F) (by kernel_rfl) args hp
  have h := impl_kindOf_run L (CN L (m + 6)) (impl_firstFrame_all L (m + 0))
  simpa only [impl_kindOf_ok, key] using h
theorem impl_KindOfTriangle_all (L m : Nat) : impl_KindOfTriangle_ok L (CN L (m + 9)) := by
  have key : ∀ args hp, CN L (m + 9) 18 args hp = run T (CN L (m + 8)) sh (keep 18) L Try.f18 args hp := fun args hp => callF_step (F := F) (by kernel_rfl) args hp
  have h := impl_KindOfTriangle_run L (CN L (m + 8)) (impl_isThree_all L (m + 0)) (impl_kindOf_all L (m + 1))
  simpa only [impl_KindOfTriangle_ok, key] using h
theorem laws_eqIntS_all (L m : Nat) : laws_eqIntS_ok L (CN L (m + 1)) := by
  have key : ∀ args hp, CN L (m + 1) 19 args hp = run T (CN L (m + 0)) sh (keep 19) L Try.f19 args hp := fun args hp => callF_step (F := F) (by kernel_rfl) args hp
  have h := laws_eqIntS_run L (CN L (m + 0))
  simpa only [laws_eqIntS_ok, key] using h
theorem laws_markIntS_all (L m : Nat) : laws_markIntS_ok L (CN L (m + 1)) := by
  have key : ∀ args hp, CN L (m + 1) 20 args hp = run T (CN L (m + 0)) sh (keep 20) L Try.f20 args hp := fun args hp => callF_step (F := F) (by kernel_rfl) args hp
  have h := laws_markIntS_run L (CN L (m + 0))
  simpa only [laws_markIntS_ok, key] using h
theorem laws_heldIntS_all (L m : Nat) : laws_heldIntS_ok L (CN L (m + 1)) := by
  have key : ∀ args hp, CN L (m + 1) 21 args hp = run T (CN L (m + 0)) sh (keep 21) L Try.f21 args hp := fun args hp => callF_step (F := F) (by kernel_rfl) args hp
  have h := laws_heldIntS_run L (CN L (m + 0))
  simpa only [laws_heldIntS_ok, key] using h
theorem laws_FnExactKindOfTriangle_all (L m : Nat) : laws_FnExactKindOfTriangle_ok L (CN L (m + 10)) := by
  have key : ∀ args hp, CN L (m + 10) 5 args hp = run T (CN L (m + 9)) sh (keep 5) L Try.f5 args hp := fun args hp => callF_step (F := F) (by kernel_rfl) args hp
  have h := laws_FnExactKindOfTriangle_run L (CN L (m + 9)) (laws_szPegS_all L (m + 8)) (laws_toPegS_all L (m + 7)) (laws_eqPegS_all L (m + 7)) (laws_markPegS_all L (m + 8)) (spec_KindOfTriangle_all L (m + 1)) (impl_KindOfTriangle_all L (m + 0)) (laws_eqIntS_all L (m + 8)) (laws_markIntS_all L (m + 8)) (laws_heldIntS_all L (m + 8))
  simpa only [laws_FnExactKindOfTriangle_ok, key] using h
theorem laws_toIntS_all (L m : Nat) : laws_toIntS_ok L (CN L (m + 1)) := by
  have key : ∀ args hp, CN L (m + 1) 23 args hp = run T (CN L (m + 0)) sh (keep 23) L Try.f23 args hp := fun args hp => callF_step (F := F) (by kernel_rfl) args hp
  have h := laws_toIntS_run L (CN L (m + 0))
  simpa only [laws_toIntS_ok, key] using h
theorem spec_l1All_all (L m : Nat) : spec_l1All_ok L (CN L (m + 2)) := by
  have key : ∀ args hp, CN L (m + 2) 42 args hp = run T (CN L (m + 1)) sh (keep 42) L Try.f42 args hp := fun args hp => callF_step (F := F) (by kernel_rfl) args hp
  have h := spec_l1All_run L (CN L (m + 1)) (spec_l1In_all L (m + 0))
  simpa only [spec_l1All_ok, key] using h
theorem spec_mvMade_all (L m : Nat) : spec_mvMade_ok L (CN L (m + 1)) := by
  have key : ∀ args hp, CN L (m + 1) 43 args hp = run T (CN L (m + 0)) sh (keep 43) L Try.f43 args hp := fun args hp => callF_step (F := F) (by kernel_rfl) args hp
  have h := spec_mvMade_run L (CN L (m + 0))
  simpa only [spec_mvMade_ok, key] using h
theorem spec_l1Same_all (L m : Nat) : spec_l1Same_ok L (CN L (m + 1)) := by
  have key : ∀ args hp, CN L (m + 1) 44 args hp = run T (CN L (m + 0)) sh (keep 44) L Try.f44 args hp := fun args hp => callF_step (F := F) (by kernel_rfl) args hp
  have h := spec_l1Same_run L (CN L (m + 0))
  simpa only [spec_l1Same_ok, key] using h
theorem spec_TriangleOfKind_all (L m : Nat) : spec_TriangleOfKind_ok L (CN L (m + 8)) := by
  have key : ∀ args hp, CN L (m + 8) 22 args hp = run T (CN L (m + 7)) sh (keep 22) L Try.f22 args hp := fun args hp => callF_step (F := F) (by kernel_rfl) args hp
  have h := spec_TriangleOfKind_run L (CN L (m + 7)) (spec_mvThree_all L (m + 2)) (spec_mvList_all L (m + 0)) (spec_l1All_all L (m + 5)) (spec_mvMade_all L (m + 6)) (spec_l1Same_all L (m + 6))
  simpa only [spec_TriangleOfKind_ok, key] using h
theorem impl_triangle_all (L m : Nat) : impl_triangle_ok L (CN L (m + 1)) := by
  have key : ∀ args hp, CN L (m + 1) 45 args hp = run T (CN L (m + 0)) sh (keep 45) L Try.f45 args hp := fun args hp => callF_step (F := F) (by kernel_rfl) args hp
  have h := impl_triangle_run L (CN L (m + 0))
  simpa only [impl_triangle_ok, key] using h
theorem slices_Equal_int_int_all (L m : Nat) : slices_Equal_int_int_ok L (CN L (m + 1)) := by
  have key : ∀ args hp, CN L (m + 1) 46 args hp = run T (CN L (m + 0)) sh (keep 46) L Try.f46 args hp := fun args hp => callF_step (F := F) (by kernel_rfl) args hp
  have h := slices_Equal_int_int_run L (CN L (m + 0))
  simpa only [slices_Equal_int_int_ok, key] using h
theorem impl_TriangleOfKind_all (L m : Nat) : impl_TriangleOfKind_ok L (CN L (m + 9)) := by
  have key : ∀ args hp, CN L (m + 9) 24 args hp = run T (CN L (m + 8)) sh (keep 24) L Try.f24 args hp := fun args hp => callF_step (F := F) (by kernel_rfl) args hp
  have h := impl_TriangleOfKind_run L (CN L (m + 8)) (impl_isThree_all L (m + 0)) (impl_kindOf_all L (m + 1)) (impl_triangle_all L (m + 7)) (slices_Equal_int_int_all L (m + 7))
  simpa only [impl_TriangleOfKind_ok, key] using h
theorem laws_FnExactTriangleOfKind_all (L m : Nat) : laws_FnExactTriangleOfKind_ok L (CN L (m + 10)) := by
  have key : ∀ args hp, CN L (m + 10) 6 args hp = run T (CN L (m + 9)) sh (keep 6) L Try.f6 args hp := fun args hp => callF_step (F := F) (by kernel_rfl) args hp
  have h := laws_FnExactTriangleOfKind_run L (CN L (m + 9)) (laws_eqPegS_all L (m + 7)) (laws_markPegS_all L (m + 8)) (laws_heldPegS_all L (m + 8)) (laws_eqIntS_all L (m + 8)) (laws_markIntS_all L (m + 8)) (laws_toIntS_all L (m + 8)) (spec_TriangleOfKind_all L (m + 1)) (impl_TriangleOfKind_all L (m + 0))
  simpa only [laws_FnExactTriangleOfKind_ok, key] using h
theorem spec_duNumbers_all (L m : Nat) : spec_duNumbers_ok L (CN L (m + 1)) := by
  have key : ∀ args hp, CN L (m + 1) 47 args hp = run T (CN L (m + 0)) sh (keep 47) L Try.f47 args hp := fun args hp => callF_step (F := F) (by kernel_rfl) args hp
  have h := spec_duNumbers_run L (CN L (m + 0))
  simpa only [spec_duNumbers_ok, key] using h
theorem spec_NumbersAround_all (L m : Nat) : spec_NumbersAround_ok L (CN L (m + 8)) := by
  have key : ∀ args hp, CN L (m + 8) 25 args hp = run T (CN L (m + 7)) sh (keep 25) L Try.f25 args hp := fun args hp => callF_step (F := F) (by kernel_rfl) args hp
  have h := spec_NumbersAround_run L (CN L (m + 7)) (spec_duOne_all L (m + 0)) (spec_duAround_all L (m + 2)) (spec_duNumbers_all L (m + 6))
  simpa only [spec_NumbersAround_ok, key] using h
theorem impl_ratios_all (L m : Nat) : impl_ratios_ok L (CN L (m + 2)) := by
  have key : ∀ args hp, CN L (m + 2) 48 args hp = run T (CN L (m + 1)) sh (keep 48) L Try.f48 args hp := fun args hp => callF_step (F := F) (by kernel_rfl) args hp
  have h := impl_ratios_run L (CN L (m + 1)) (impl_at_all L (m + 0)) (impl_Peg_plus_all L (m + 0))
  simpa only [impl_ratios_ok, key] using h
theorem impl_NumbersAround_all (L m : Nat) : impl_NumbersAround_ok L (CN L (m + 10)) := by
  have key : ∀ args hp, CN L (m + 10) 26 args hp = run T (CN L (m + 9)) sh (keep 26) L Try.f26 args hp := fun args hp => callF_step (F := F) (by kernel_rfl) args hp
  have h := impl_NumbersAround_run L (CN L (m + 9)) (impl_AroundOf_all L (m + 0)) (impl_ratios_all L (m + 7))
  simpa only [impl_NumbersAround_ok, key] using h
theorem laws_FnExactNumbersAround_all (L m : Nat) : laws_FnExactNumbersAround_ok L (CN L (m + 11)) := by
  have key : ∀ args hp, CN L (m + 11) 7 args hp = run T (CN L (m + 10)) sh (keep 7) L Try.f7 args hp := fun args hp => callF_step (F := F) (by kernel_rfl) args hp
  have h := laws_FnExactNumbersAround_run L (CN L (m + 10)) (laws_szPegS_all L (m + 9)) (laws_toPegS_all L (m + 8)) (laws_eqPegS_all L (m + 8)) (laws_markPegS_all L (m + 9)) (laws_eqIntS_all L (m + 9)) (laws_markIntS_all L (m + 9)) (laws_heldIntS_all L (m + 9)) (spec_NumbersAround_all L (m + 2)) (impl_NumbersAround_all L (m + 0))
  simpa only [laws_FnExactNumbersAround_ok, key] using h
end Go.AM
