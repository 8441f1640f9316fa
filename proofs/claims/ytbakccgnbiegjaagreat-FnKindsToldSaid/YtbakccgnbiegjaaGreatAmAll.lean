import Derived.Test.YtbakccgnbiegjaaGreatAmM1
import Derived.KernelRfl
set_option linter.unusedVariables false
set_option linter.unusedSimpArgs false
set_option linter.unnecessarySimpa false
set_option linter.deprecated false
set_option linter.unusedSectionVars false
open Go Go.AM Go.Proofs
namespace Go.AM
set_option maxRecDepth 100000
noncomputable def rowsF : List (Nat × Func) := [(3, Tryz.f3), (6, Tryz.f6), (7, Tryz.f7), (8, Tryz.f8), (9, Tryz.f9), (10, Tryz.f10), (11, Tryz.f11), (12, Tryz.f12), (13, Tryz.f13), (14, Tryz.f14), (15, Tryz.f15), (16, Tryz.f16), (17, Tryz.f17), (18, Tryz.f18), (19, Tryz.f19), (20, Tryz.f20), (21, Tryz.f21), (22, Tryz.f22), (23, Tryz.f23), (24, Tryz.f24), (25, Tryz.f25), (26, Tryz.f26), (27, Tryz.f27), (28, Tryz.f28), (29, Tryz.f29), (30, Tryz.f30), (31, Tryz.f31), (32, Tryz.f32), (46, Tryz.f46), (47, Tryz.f47), (48, Tryz.f48), (49, Tryz.f49), (50, Tryz.f50), (51, Tryz.f51), (52, Tryz.f52), (53, Tryz.f53), (54, Tryz.f54), (55, Tryz.f55), (56, Tryz.f56), (57, Tryz.f57), (58, Tryz.f58), (59, Tryz.f59), (60, Tryz.f60), (61, Tryz.f61), (62, Tryz.f62), (63, Tryz.f63), (64, Tryz.f64), (65, Tryz.f65), (66, Tryz.f66), (67, Tryz.f67), (68, Tryz.f68), (69, Tryz.f69), (70, Tryz.f70), (71, Tryz.f71), (72, Tryz.f72), (73, Tryz.f73), (74, Tryz.f74), (75, Tryz.f75), (76, Tryz.f76), (77, Tryz.f77), (78, Tryz.f78), (79, Tryz.f79), (80, Tryz.f80), (81, Tryz.f81), (82, Tryz.f82), (83, Tryz.f83), (84, Tryz.f84), (85, Tryz.f85), (86, Tryz.f86), (96, Tryz.f96), (97, Tryz.f97), (98, Tryz.f98), (99, Tryz.f99), (100, Tryz.f100), (101, Tryz.f101), (102, Tryz.f102), (103, Tryz.f103), (104, Tryz.f104), (105, Tryz.f105), (106, Tryz.f106), (107, Tryz.f107), (108, Tryz.f108), (109, Tryz.f109), (110, Tryz.f110), (111, Tryz.f111), (112, Tryz.f112), (113, Tryz.f113), (114, Tryz.f114), (115, Tryz.f115), (116, Tryz.f116), (117, Tryz.f117), (118, Tryz.f118), (119, Tryz.f119), (120, Tryz.f120), (121, Tryz.f121), (122, Tryz.f122), (131, Tryz.f131), (141, Tryz.f141), (142, Tryz.f142), (143, Tryz.f143), (144, Tryz.f144), (145, Tryz.f145), (146, Tryz.f146), (147, Tryz.f147), (148, Tryz.f148), (149, Tryz.f149), (159, Tryz.f159), (160, Tryz.f160), (165, Tryz.f165), (166, Tryz.f166), (175, Tryz.f175)]
theorem fok3 : FOk Tryz.prog sh keep (3, Tryz.f3) := ⟨Tryz.func3, by kernel_rfl, by kernel_rfl⟩
theorem fok6 : FOk Tryz.prog sh keep (6, Tryz.f6) := ⟨Tryz.func6, by kernel_rfl, by kernel_rfl⟩
theorem fok7 : FOk Tryz.prog sh keep (7, Tryz.f7) := ⟨Tryz.func7, by kernel_rfl, by kernel_rfl⟩
theorem fok8 : FOk Tryz.prog sh keep (8, Tryz.f8) := ⟨Tryz.func8, by kernel_rfl, by kernel_rfl⟩
theorem fok9 : FOk Tryz.prog sh keep (9, Tryz.f9) := ⟨Tryz.func9, by kernel_rfl, by kernel_rfl⟩
theorem fok10 : FOk Tryz.prog sh keep (10, Tryz.f10) := ⟨Tryz.func10, by kernel_rfl, by kernel_rfl⟩
theorem fok11 : FOk Tryz.prog sh keep (11, Tryz.f11) := ⟨Tryz.func11, by kernel_rfl, by kernel_rfl⟩
theorem fok12 : FOk Tryz.prog sh keep (12, Tryz.f12) := ⟨Tryz.func12, by kernel_rfl, by kernel_rfl⟩
theorem fok13 : FOk Tryz.prog sh keep (13, Tryz.f13) := ⟨Tryz.func13, by kernel_rfl, by kernel_rfl⟩
theorem fok14 : FOk Tryz.prog sh keep (14, Tryz.f14) := ⟨Tryz.func14, by kernel_rfl, by kernel_rfl⟩
theorem fok15 : FOk Tryz.prog sh keep (15, Tryz.f15) := ⟨Tryz.func15, by kernel_rfl, by kernel_rfl⟩
theorem fok16 : FOk Tryz.prog sh keep (16, Tryz.f16) := ⟨Tryz.func16, by kernel_rfl, by kernel_rfl⟩
theorem fok17 : FOk Tryz.prog sh keep (17, Tryz.f17) := ⟨Tryz.func17, by kernel_rfl, by kernel_rfl⟩
theorem fok18 : FOk Tryz.prog sh keep (18, Tryz.f18) := ⟨Tryz.func18, by kernel_rfl, by kernel_rfl⟩
theorem fok19 : FOk Tryz.prog sh keep (19, Tryz.f19) := ⟨Tryz.func19, by kernel_rfl, by kernel_rfl⟩
theorem fok20 : FOk Tryz.prog sh keep (20, Tryz.f20) := ⟨Tryz.func20, by kernel_rfl, by kernel_rfl⟩
theorem fok21 : FOk Tryz.prog sh keep (21, Tryz.f21) := ⟨Tryz.func21, by kernel_rfl, by kernel_rfl⟩
theorem fok22 : FOk Tryz.prog sh keep (22, Tryz.f22) := ⟨Tryz.func22, by kernel_rfl, by kernel_rfl⟩
theorem fok23 : FOk Tryz.prog sh keep (23, Tryz.f23) := ⟨Tryz.func23, by kernel_rfl, by kernel_rfl⟩
theorem fok24 : FOk Tryz.prog sh keep (24, Tryz.f24) := ⟨Tryz.func24, by kernel_rfl, by kernel_rfl⟩
theorem fok25 : FOk Tryz.prog sh keep (25, Tryz.f25) := ⟨Tryz.func25, by kernel_rfl, by kernel_rfl⟩
theorem fok26 : FOk Tryz.prog sh keep (26, Tryz.f26) := ⟨Tryz.func26, by kernel_rfl, by kernel_rfl⟩
theorem fok27 : FOk Tryz.prog sh keep (27, Tryz.f27) := ⟨Tryz.func27, by kernel_rfl, by kernel_rfl⟩
theorem fok28 : FOk Tryz.prog sh keep (28, Tryz.f28) := ⟨Tryz.func28, by kernel_rfl, by kernel_rfl⟩
theorem fok29 : FOk Tryz.prog sh keep (29, Tryz.f29) := ⟨Tryz.func29, by kernel_rfl, by kernel_rfl⟩
theorem fok30 : FOk Tryz.prog sh keep (30, Tryz.f30) := ⟨Tryz.func30, by kernel_rfl, by kernel_rfl⟩
theorem fok31 : FOk Tryz.prog sh keep (31, Tryz.f31) := ⟨Tryz.func31, by kernel_rfl, by kernel_rfl⟩
theorem fok32 : FOk Tryz.prog sh keep (32, Tryz.f32) := ⟨Tryz.func32, by kernel_rfl, by kernel_rfl⟩
theorem fok46 : FOk Tryz.prog sh keep (46, Tryz.f46) := ⟨Tryz.func46, by kernel_rfl, by kernel_rfl⟩
theorem fok47 : FOk Tryz.prog sh keep (47, Tryz.f47) := ⟨Tryz.func47, by kernel_rfl, by kernel_rfl⟩
theorem fok48 : FOk Tryz.prog sh keep (48, Tryz.f48) := ⟨Tryz.func48, by kernel_rfl, by kernel_rfl⟩
theorem fok49 : FOk Tryz.prog sh keep (49, Tryz.f49) := ⟨Tryz.func49, by kernel_rfl, by kernel_rfl⟩
theorem fok50 : FOk Tryz.prog sh keep (50, Tryz.f50) := ⟨Tryz.func50, by kernel_rfl, by kernel_rfl⟩
theorem fok51 : FOk Tryz.prog sh keep (51, Tryz.f51) := ⟨Tryz.func51, by kernel_rfl, by kernel_rfl⟩
theorem fok52 : FOk Tryz.prog sh keep (52, Tryz.f52) := ⟨Tryz.func52, by kernel_rfl, by kernel_rfl⟩
theorem fok53 : FOk Tryz.prog sh keep (53, Tryz.f53) := ⟨Tryz.func53, by kernel_rfl, by kernel_rfl⟩
theorem fok54 : FOk Tryz.prog sh keep (54, Tryz.f54) := ⟨Tryz.func54, by kernel_rfl, by kernel_rfl⟩
theorem fok55 : FOk Tryz.prog sh keep (55, Tryz.f55) := ⟨Tryz.func55, by kernel_rfl, by kernel_rfl⟩
theorem fok56 : FOk Tryz.prog sh keep (56, Tryz.f56) := ⟨Tryz.func56, by kernel_rfl, by kernel_rfl⟩
theorem fok57 : FOk Tryz.prog sh keep (57, Tryz.f57) := ⟨Tryz.func57, by kernel_rfl, by kernel_rfl⟩
theorem fok58 : FOk Tryz.prog sh keep (58, Tryz.f58) := ⟨Tryz.func58, by kernel_rfl, by kernel_rfl⟩
theorem fok59 : FOk Tryz.prog sh keep (59, Tryz.f59) := ⟨Tryz.func59, by kernel_rfl, by kernel_rfl⟩
theorem fok60 : FOk Tryz.prog sh keep (60, Tryz.f60) := ⟨Tryz.func60, by kernel_rfl, by kernel_rfl⟩
theorem fok61 : FOk Tryz.prog sh keep (61, Tryz.f61) := ⟨Tryz.func61, by kernel_rfl, by kernel_rfl⟩
theorem fok62 : FOk Tryz.prog sh keep (62, Tryz.f62) := ⟨Tryz.func62, by kernel_rfl, by kernel_rfl⟩
theorem fok63 : FOk Tryz.prog sh keep (63, Tryz.f63) := ⟨Tryz.func63, by kernel_rfl, by kernel_rfl⟩
theorem fok64 : FOk Tryz.prog sh keep (64, Tryz.f64) := ⟨Tryz.func64, by kernel_rfl, by kernel_rfl⟩
theorem fok65 : FOk Tryz.prog sh keep (65, Tryz.f65) := ⟨Tryz.func65, by kernel_rfl, by kernel_rfl⟩
theorem fok66 : FOk Tryz.prog sh keep (66, Tryz.f66) := ⟨Tryz.func66, by kernel_rfl, by kernel_rfl⟩
theorem fok67 : FOk Tryz.prog sh keep (67, Tryz.f67) := ⟨Tryz.func67, by kernel_rfl, by kernel_rfl⟩
theorem fok68 : FOk Tryz.prog sh keep (68, Tryz.f68) := ⟨Tryz.func68, by kernel_rfl, by kernel_rfl⟩
theorem fok69 : FOk Tryz.prog sh keep (69, Tryz.f69) := ⟨Tryz.func69, by kernel_rfl, by kernel_rfl⟩
theorem fok70 : FOk Tryz.prog sh keep (70, Tryz.f70) := ⟨Tryz.func70, by kernel_rfl, by kernel_rfl⟩
theorem fok71 : FOk Tryz.prog sh keep (71, Tryz.f71) := ⟨Tryz.func71, by kernel_rfl, by kernel_rfl⟩
theorem fok72 : FOk Tryz.prog sh keep (72, Tryz.f72) := ⟨Tryz.func72, by kernel_rfl, by kernel_rfl⟩
theorem fok73 : FOk Tryz.prog sh keep (73, Tryz.f73) := ⟨Tryz.func73, by kernel_rfl, by kernel_rfl⟩
theorem fok74 : FOk Tryz.prog sh keep (74, Tryz.f74) := ⟨Tryz.func74, by kernel_rfl, by kernel_rfl⟩
theorem fok75 : FOk Tryz.prog sh keep (75, Tryz.f75) := ⟨Tryz.func75, by kernel_rfl, by kernel_rfl⟩
theorem fok76 : FOk Tryz.prog sh keep (76, Tryz.f76) := ⟨Tryz.func76, by kernel_rfl, by kernel_rfl⟩
theorem fok77 : FOk Tryz.prog sh keep (77, Tryz.f77) := ⟨Tryz.func77, by kernel_rfl, by kernel_rfl⟩
theorem fok78 : FOk Tryz.prog sh keep (78, Tryz.f78) := ⟨Tryz.func78, by kernel_rfl, by kernel_rfl⟩
theorem fok79 : FOk Tryz.prog sh keep (79, Tryz.f79) := ⟨Tryz.func79, by kernel_rfl, by kernel_rfl⟩
theorem fok80 : FOk Tryz.prog sh keep (80, Tryz.f80) := ⟨Tryz.func80, by kernel_rfl, by kernel_rfl⟩
theorem fok81 : FOk Tryz.prog sh keep (81, Tryz.f81) := ⟨Tryz.func81, by kernel_rfl, by kernel_rfl⟩
theorem fok82 : FOk Tryz.prog sh keep (82, Tryz.f82) := ⟨Tryz.func82, by kernel_rfl, by kernel_rfl⟩
theorem fok83 : FOk Tryz.prog sh keep (83, Tryz.f83) := ⟨Tryz.func83, by kernel_rfl, by kernel_rfl⟩
theorem fok84 : FOk Tryz.prog sh keep (84, Tryz.f84) := ⟨Tryz.func84, by kernel_rfl, by kernel_rfl⟩
theorem fok85 : FOk Tryz.prog sh keep (85, Tryz.f85) := ⟨Tryz.func85, by kernel_rfl, by kernel_rfl⟩
theorem fok86 : FOk Tryz.prog sh keep (86, Tryz.f86) := ⟨Tryz.func86, by kernel_rfl, by kernel_rfl⟩
theorem fok96 : FOk Tryz.prog sh keep (96, Tryz.f96) := ⟨Tryz.func96, by kernel_rfl, by kernel_rfl⟩
theorem fok97 : FOk Tryz.prog sh keep (97, Tryz.f97) := ⟨Tryz.func97, by kernel_rfl, by kernel_rfl⟩
theorem fok98 : FOk Tryz.prog sh keep (98, Tryz.f98) := ⟨Tryz.func98, by kernel_rfl, by kernel_rfl⟩
theorem fok99 : FOk Tryz.prog sh keep (99, Tryz.f99) := ⟨Tryz.func99, by kernel_rfl, by kernel_rfl⟩
theorem fok100 : FOk Tryz.prog sh keep (100, Tryz.f100) := ⟨Tryz.func100, by kernel_rfl, by kernel_rfl⟩
theorem fok101 : FOk Tryz.prog sh keep (101, Tryz.f101) := ⟨Tryz.func101, by kernel_rfl, by kernel_rfl⟩
theorem fok102 : FOk Tryz.prog sh keep (102, Tryz.f102) := ⟨Tryz.func102, by kernel_rfl, by kernel_rfl⟩
theorem fok103 : FOk Tryz.prog sh keep (103, Tryz.f103) := ⟨Tryz.func103, by kernel_rfl, by kernel_rfl⟩
theorem fok104 : FOk Tryz.prog sh keep (104, Tryz.f104) := ⟨Tryz.func104, by kernel_rfl, by kernel_rfl⟩
theorem fok105 : FOk Tryz.prog sh keep (105, Tryz.f105) := ⟨Tryz.func105, by kernel_rfl, by kernel_rfl⟩
theorem fok106 : FOk Tryz.prog sh keep (106, Tryz.f106) := ⟨Tryz.func106, by kernel_rfl, by kernel_rfl⟩
theorem fok107 : FOk Tryz.prog sh keep (107, Tryz.f107) := ⟨Tryz.func107, by kernel_rfl, by kernel_rfl⟩
theorem fok108 : FOk Tryz.prog sh keep (108, Tryz.f108) := ⟨Tryz.func108, by kernel_rfl, by kernel_rfl⟩
theorem fok109 : FOk Tryz.prog sh keep (109, Tryz.f109) := ⟨Tryz.func109, by kernel_rfl, by kernel_rfl⟩
theorem fok110 : FOk Tryz.prog sh keep (110, Tryz.f110) := ⟨Tryz.func110, by kernel_rfl, by kernel_rfl⟩
theorem fok111 : FOk Tryz.prog sh keep (111, Tryz.f111) := ⟨Tryz.func111, by kernel_rfl, by kernel_rfl⟩
theorem fok112 : FOk Tryz.prog sh keep (112, Tryz.f112) := ⟨Tryz.func112, by kernel_rfl, by kernel_rfl⟩
theorem fok113 : FOk Tryz.prog sh keep (113, Tryz.f113) := ⟨Tryz.func113, by kernel_rfl, by kernel_rfl⟩
theorem fok114 : FOk Tryz.prog sh keep (114, Tryz.f114) := ⟨Tryz.func114, by kernel_rfl, by kernel_rfl⟩
theorem fok115 : FOk Tryz.prog sh keep (115, Tryz.f115) := ⟨Tryz.func115, by kernel_rfl, by kernel_rfl⟩
theorem fok116 : FOk Tryz.prog sh keep (116, Tryz.f116) := ⟨Tryz.func116, by kernel_rfl, by kernel_rfl⟩
theorem fok117 : FOk Tryz.prog sh keep (117, Tryz.f117) := ⟨Tryz.func117, by kernel_rfl, by kernel_rfl⟩
theorem fok118 : FOk Tryz.prog sh keep (118, Tryz.f118) := ⟨Tryz.func118, by kernel_rfl, by kernel_rfl⟩
theorem fok119 : FOk Tryz.prog sh keep (119, Tryz.f119) := ⟨Tryz.func119, by kernel_rfl, by kernel_rfl⟩
theorem fok120 : FOk Tryz.prog sh keep (120, Tryz.f120) := ⟨Tryz.func120, by kernel_rfl, by kernel_rfl⟩
theorem fok121 : FOk Tryz.prog sh keep (121, Tryz.f121) := ⟨Tryz.func121, by kernel_rfl, by kernel_rfl⟩
theorem fok122 : FOk Tryz.prog sh keep (122, Tryz.f122) := ⟨Tryz.func122, by kernel_rfl, by kernel_rfl⟩
theorem fok131 : FOk Tryz.prog sh keep (131, Tryz.f131) := ⟨Tryz.func131, by kernel_rfl, by kernel_rfl⟩
theorem fok141 : FOk Tryz.prog sh keep (141, Tryz.f141) := ⟨Tryz.func141, by kernel_rfl, by kernel_rfl⟩
theorem fok142 : FOk Tryz.prog sh keep (142, Tryz.f142) := ⟨Tryz.func142, by kernel_rfl, by kernel_rfl⟩
theorem fok143 : FOk Tryz.prog sh keep (143, Tryz.f143) := ⟨Tryz.func143, by kernel_rfl, by kernel_rfl⟩
theorem fok144 : FOk Tryz.prog sh keep (144, Tryz.f144) := ⟨Tryz.func144, by kernel_rfl, by kernel_rfl⟩
theorem fok145 : FOk Tryz.prog sh keep (145, Tryz.f145) := ⟨Tryz.func145, by kernel_rfl, by kernel_rfl⟩
theorem fok146 : FOk Tryz.prog sh keep (146, Tryz.f146) := ⟨Tryz.func146, by kernel_rfl, by kernel_rfl⟩
theorem fok147 : FOk Tryz.prog sh keep (147, Tryz.f147) := ⟨Tryz.func147, by kernel_rfl, by kernel_rfl⟩
theorem fok148 : FOk Tryz.prog sh keep (148, Tryz.f148) := ⟨Tryz.func148, by kernel_rfl, by kernel_rfl⟩
theorem fok149 : FOk Tryz.prog sh keep (149, Tryz.f149) := ⟨Tryz.func149, by kernel_rfl, by kernel_rfl⟩
theorem fok159 : FOk Tryz.prog sh keep (159, Tryz.f159) := ⟨Tryz.func159, by kernel_rfl, by kernel_rfl⟩
theorem fok160 : FOk Tryz.prog sh keep (160, Tryz.f160) := ⟨Tryz.func160, by kernel_rfl, by kernel_rfl⟩
theorem fok165 : FOk Tryz.prog sh keep (165, Tryz.f165) := ⟨Tryz.func165, by kernel_rfl, by kernel_rfl⟩
theorem fok166 : FOk Tryz.prog sh keep (166, Tryz.f166) := ⟨Tryz.func166, by kernel_rfl, by kernel_rfl⟩
theorem fok175 : FOk Tryz.prog sh keep (175, Tryz.f175) := ⟨Tryz.func175, by kernel_rfl, by kernel_rfl⟩
theorem fokAll : ∀ p ∈ rowsF, FOk Tryz.prog sh keep p :=
  fOk_cons fok3 (fOk_cons fok6 (fOk_cons fok7 (fOk_cons fok8 (fOk_cons fok9 (fOk_cons fok10 (fOk_cons fok11 (fOk_cons fok12 (fOk_cons fok13 (fOk_cons fok14 (fOk_cons fok15 (fOk_cons fok16 (fOk_cons fok17 (fOk_cons fok18 (fOk_cons fok19 (fOk_cons fok20 (fOk_cons fok21 (fOk_cons fok22 (fOk_cons fok23 (fOk_cons fok24 (fOk_cons fok25 (fOk_cons fok26 (fOk_cons fok27 (fOk_cons fok28 (fOk_cons fok29 (fOk_cons fok30 (fOk_cons fok31 (fOk_cons fok32 (fOk_cons fok46 (fOk_cons fok47 (fOk_cons fok48 (fOk_cons fok49 (fOk_cons fok50 (fOk_cons fok51 (fOk_cons fok52 (fOk_cons fok53 (fOk_cons fok54 (fOk_cons fok55 (fOk_cons fok56 (fOk_cons fok57 (fOk_cons fok58 (fOk_cons fok59 (fOk_cons fok60 (fOk_cons fok61 (fOk_cons fok62 (fOk_cons fok63 (fOk_cons fok64 (fOk_cons fok65 (fOk_cons fok66 (fOk_cons fok67 (fOk_cons fok68 (fOk_cons fok69 (fOk_cons fok70 (fOk_cons fok71 (fOk_cons fok72 (fOk_cons fok73 (fOk_cons fok74 (fOk_cons fok75 (fOk_cons fok76 (fOk_cons fok77 (fOk_cons fok78 (fOk_cons fok79 (fOk_cons fok80 (fOk_cons fok81 (fOk_cons fok82 (fOk_cons fok83 (fOk_cons fok84 (fOk_cons fok85 (fOk_cons fok86 (fOk_cons fok96 (fOk_cons fok97 (fOk_cons fok98 (fOk_cons fok99 (fOk_cons fok100 (fOk_cons fok101 (fOk_cons fok102 (fOk_cons fok103 (fOk_cons fok104 (fOk_cons fok105 (fOk_cons fok106 (fOk_cons fok107 (fOk_cons fok108 (fOk_cons fok109 (fOk_cons fok110 (fOk_cons fok111 (fOk_cons fok112 (fOk_cons fok113 (fOk_cons fok114 (fOk_cons fok115 (fOk_cons fok116 (fOk_cons fok117 (fOk_cons fok118 (fOk_cons fok119 (fOk_cons fok120 (fOk_cons fok121 (fOk_cons fok122 (fOk_cons fok131 (fOk_cons fok141 (fOk_cons fok142 (fOk_cons fok143 (fOk_cons fok144 (fOk_cons fok145 (fOk_cons fok146 (fOk_cons fok147 (fOk_cons fok148 (fOk_cons fok149 (fOk_cons fok159 (fOk_cons fok160 (fOk_cons fok165 (fOk_cons fok166 (fOk_cons fok175 fOk_nil))))))))))))))))))))))))))))))))))))))))))))))))))))))))))))))))))))))))))))))))))))))))))))))))))))))))))))))
theorem tokAll : rowsT.all (tiR Tryz.prog) = true := by kernel_rfl
noncomputable def F : FuncId → Option Func := findL rowsF
noncomputable def CN (L n : Nat) : CF := callF T F sh keep L n
theorem cn_sound (L n : Nat) : CSound Tryz.prog (CN L n) := callF_sound tokAll fokAll (by kernel_rfl) L n
theorem laws_big_all (L m : Nat) : laws_big_ok L (CN L (m + 1)) := by
  have key : ∀ args hp, CN L (m + 1) 6 args hp = run T (CN L (m + 0)) sh (keep 6) L Tryz.f6 args hp := fun args hp => callF_step (F := F) (by kernel_rfl) args hp
  have h := laws_big_run L (CN L (m + 0))
  simpa only [laws_big_ok, key] using h
theorem spec_l1Cur_next_all (L m : Nat) : spec_l1Cur_next_ok L (CN L (m + 1)) := by
  have key : ∀ args hp, CN L (m + 1) 104 args hp = run T (CN L (m + 0)) sh (keep 104) L Tryz.f104 args hp := fun args hp => callF_step (F := F) (by kernel_rfl) args hp
  have h := spec_l1Cur_next_run L (CN L (m + 0))
  simpa only [spec_l1Cur_next_ok, key] using h
theorem spec_l1Cur_pick_all (L m : Nat) : spec_l1Cur_pick_ok L (CN L (m + 2)) := by
  have key : ∀ args hp, CN L (m + 2) 63 args hp = run T (CN L (m + 1)) sh (keep 63) L Tryz.f63 args hp := fun args hp => callF_step (F := F) (by kernel_rfl) args hp
  have h := spec_l1Cur_pick_run L (CN L (m + 1)) (spec_l1Cur_next_all L (m + 0))
  simpa only [spec_l1Cur_pick_ok, key] using h
theorem spec_l1Cur_one_all (L m : Nat) : spec_l1Cur_one_ok L (CN L (m + 3)) := by
  have key : ∀ args hp, CN L (m + 3) 46 args hp = run T (CN L (m + 2)) sh (keep 46) L Tryz.f46 args hp := fun args hp => callF_step (F := F) (by kernel_rfl) args hp
  have h := spec_l1Cur_one_run L (CN L (m + 2)) (spec_l1Cur_pick_all L (m + 0))
  simpa only [spec_l1Cur_one_ok, key] using h
theorem spec_l1Cur_surePeg_all (L m : Nat) : spec_l1Cur_surePeg_ok L (CN L (m + 3)) := by
  have key : ∀ args hp, CN L (m + 3) 48 args hp = run T (CN L (m + 2)) sh (keep 48) L Tryz.f48 args hp := fun args hp => callF_step (F := F) (by kernel_rfl) args hp
  have h := spec_l1Cur_surePeg_run L (CN L (m + 2)) (spec_l1Cur_pick_all L (m + 0))
  simpa only [spec_l1Cur_surePeg_ok, key] using h
theorem spec_l1In_all (L m : Nat) : spec_l1In_ok L (CN L (m + 1)) := by
  have key : ∀ args hp, CN L (m + 1) 61 args hp = run T (CN L (m + 0)) sh (keep 61) L Tryz.f61 args hp := fun args hp => callF_step (F := F) (by kernel_rfl) args hp
  have h := spec_l1In_run L (CN L (m + 0))
  simpa only [spec_l1In_ok, key] using h
theorem spec_pgIs_all (L m : Nat) : spec_pgIs_ok L (CN L (m + 2)) := by
  have key : ∀ args hp, CN L (m + 2) 82 args hp = run T (CN L (m + 1)) sh (keep 82) L Tryz.f82 args hp := fun args hp => callF_step (F := F) (by kernel_rfl) args hp
  have h := spec_pgIs_run L (CN L (m + 1)) (spec_l1In_all L (m + 0))
  simpa only [spec_pgIs_ok, key] using h
theorem spec_pgTurn_all (L m : Nat) : spec_pgTurn_ok L (CN L (m + 1)) := by
  have key : ∀ args hp, CN L (m + 1) 107 args hp = run T (CN L (m + 0)) sh (keep 107) L Tryz.f107 args hp := fun args hp => callF_step (F := F) (by kernel_rfl) args hp
  have h := spec_pgTurn_run L (CN L (m + 0))
  simpa only [spec_pgTurn_ok, key] using h
theorem spec_pgOn_all (L m : Nat) : spec_pgOn_ok L (CN L (m + 2)) := by
  have key : ∀ args hp, CN L (m + 2) 144 args hp = run T (CN L (m + 1)) sh (keep 144) L Tryz.f144 args hp := fun args hp => callF_step (F := F) (by kernel_rfl) args hp
  have h := spec_pgOn_run L (CN L (m + 1)) (spec_pgTurn_all L (m + 0))
  simpa only [spec_pgOn_ok, key] using h
theorem spec_l1Sign_all (L m : Nat) : spec_l1Sign_ok L (CN L (m + 1)) := by
  have key : ∀ args hp, CN L (m + 1) 145 args hp = run T (CN L (m + 0)) sh (keep 145) L Tryz.f145 args hp := fun args hp => callF_step (F := F) (by kernel_rfl) args hp
  have h := spec_l1Sign_run L (CN L (m + 0))
  simpa only [spec_l1Sign_ok, key] using h
theorem spec_pgMeet_all (L m : Nat) : spec_pgMeet_ok L (CN L (m + 3)) := by
  have key : ∀ args hp, CN L (m + 3) 108 args hp = run T (CN L (m + 2)) sh (keep 108) L Tryz.f108 args hp := fun args hp => callF_step (F := F) (by kernel_rfl) args hp
  have h := spec_pgMeet_run L (CN L (m + 2)) (spec_pgTurn_all L (m + 1)) (spec_pgOn_all L (m + 0)) (spec_l1Sign_all L (m + 1))
  simpa only [spec_pgMeet_ok, key] using h
theorem spec_pgGood_all (L m : Nat) : spec_pgGood_ok L (CN L (m + 4)) := by
  have key : ∀ args hp, CN L (m + 4) 71 args hp = run T (CN L (m + 3)) sh (keep 71) L Tryz.f71 args hp := fun args hp => callF_step (F := F) (by kernel_rfl) args hp
  have h := spec_pgGood_run L (CN L (m + 3)) (spec_l1In_all L (m + 2)) (spec_pgIs_all L (m + 1)) (spec_pgTurn_all L (m + 2)) (spec_pgMeet_all L (m + 0))
  simpa only [spec_pgGood_ok, key] using h
theorem spec_pgBack_all (L m : Nat) : spec_pgBack_ok L (CN L (m + 1)) := by
  have key : ∀ args hp, CN L (m + 1) 70 args hp = run T (CN L (m + 0)) sh (keep 70) L Tryz.f70 args hp := fun args hp => callF_step (F := F) (by kernel_rfl) args hp
  have h := spec_pgBack_run L (CN L (m + 0))
  simpa only [spec_pgBack_ok, key] using h
theorem spec_l1Cur_surePolygon_all (L m : Nat) : spec_l1Cur_surePolygon_ok L (CN L (m + 5)) := by
  have key : ∀ args hp, CN L (m + 5) 96 args hp = run T (CN L (m + 4)) sh (keep 96) L Tryz.f96 args hp := fun args hp => callF_step (F := F) (by kernel_rfl) args hp
  have h := spec_l1Cur_surePolygon_run L (CN L (m + 4)) (spec_l1Cur_pick_all L (m + 2)) (spec_l1Cur_one_all L (m + 1)) (spec_l1Cur_surePeg_all L (m + 1)) (spec_pgGood_all L (m + 0)) (spec_pgBack_all L (m + 3))
  simpa only [spec_l1Cur_surePolygon_ok, key] using h
theorem spec_l1Cur_among_v2_all (L m : Nat) : spec_l1Cur_among_v2_ok L (CN L (m + 3)) := by
  have key : ∀ args hp, CN L (m + 3) 60 args hp = run T (CN L (m + 2)) sh (keep 60) L Tryz.f60 args hp := fun args hp => callF_step (F := F) (by kernel_rfl) args hp
  have h := spec_l1Cur_among_v2_run L (CN L (m + 2)) (spec_l1Cur_pick_all L (m + 0))
  simpa only [spec_l1Cur_among_v2_ok, key] using h
theorem spec_l1Cur_peg_all (L m : Nat) : spec_l1Cur_peg_ok L (CN L (m + 4)) := by
  have key : ∀ args hp, CN L (m + 4) 97 args hp = run T (CN L (m + 3)) sh (keep 97) L Tryz.f97 args hp := fun args hp => callF_step (F := F) (by kernel_rfl) args hp
  have h := spec_l1Cur_peg_run L (CN L (m + 3)) (spec_l1Cur_one_all L (m + 0)) (spec_l1Cur_surePeg_all L (m + 0)) (spec_l1Cur_among_v2_all L (m + 0))
  simpa only [spec_l1Cur_peg_ok, key] using h
theorem spec_l1Cur_polygon_all (L m : Nat) : spec_l1Cur_polygon_ok L (CN L (m + 6)) := by
  have key : ∀ args hp, CN L (m + 6) 47 args hp = run T (CN L (m + 5)) sh (keep 47) L Tryz.f47 args hp := fun args hp => callF_step (F := F) (by kernel_rfl) args hp
  have h := spec_l1Cur_polygon_run L (CN L (m + 5)) (spec_l1Cur_pick_all L (m + 3)) (spec_l1Cur_surePolygon_all L (m + 0)) (spec_l1Cur_peg_all L (m + 1))
  simpa only [spec_l1Cur_polygon_ok, key] using h
theorem spec_DrawKindOfTriangle_all (L m : Nat) : spec_DrawKindOfTriangle_ok L (CN L (m + 7)) := by
  have key : ∀ args hp, CN L (m + 7) 7 args hp = run T (CN L (m + 6)) sh (keep 7) L Tryz.f7 args hp := fun args hp => callF_step (F := F) (by kernel_rfl) args hp
  have h := spec_DrawKindOfTriangle_run L (CN L (m + 6)) (spec_l1Cur_one_all L (m + 3)) (spec_l1Cur_surePeg_all L (m + 3)) (spec_l1Cur_polygon_all L (m + 0))
  simpa only [spec_DrawKindOfTriangle_ok, key] using h
theorem impl_within_all (L m : Nat) : impl_within_ok L (CN L (m + 1)) := by
  have key : ∀ args hp, CN L (m + 1) 59 args hp = run T (CN L (m + 0)) sh (keep 59) L Tryz.f59 args hp := fun args hp => callF_step (F := F) (by kernel_rfl) args hp
  have h := impl_within_run L (CN L (m + 0))
  simpa only [impl_within_ok, key] using h
theorem impl_IsPeg_all (L m : Nat) : impl_IsPeg_ok L (CN L (m + 2)) := by
  have key : ∀ args hp, CN L (m + 2) 116 args hp = run T (CN L (m + 1)) sh (keep 116) L Tryz.f116 args hp := fun args hp => callF_step (F := F) (by kernel_rfl) args hp
  have h := impl_IsPeg_run L (CN L (m + 1)) (impl_within_all L (m + 0))
  simpa only [impl_IsPeg_ok, key] using h
theorem impl_arePegs_1_all (L m : Nat) : impl_arePegs_1_ok L (CN L (m + 3)) := by
  have key : ∀ args hp, CN L (m + 3) 115 args hp = run T (CN L (m + 2)) sh (keep 115) L Tryz.f115 args hp := fun args hp => callF_step (F := F) (by kernel_rfl) args hp
  have h := impl_arePegs_1_run L (CN L (m + 2)) (impl_IsPeg_all L (m + 0))
  simpa only [impl_arePegs_1_ok, key] using h
theorem slices_IndexFunc_impl_Peg_impl_Peg_arePegs_all (L m : Nat) : slices_IndexFunc_impl_Peg_impl_Peg_arePegs_ok L (CN L (m + 4)) := by
  have key : ∀ args hp, CN L (m + 4) 148 args hp = run T (CN L (m + 3)) sh (keep 148) L Tryz.f148 args hp := fun args hp => callF_step (F := F) (by kernel_rfl) args hp
  have h := slices_IndexFunc_impl_Peg_impl_Peg_arePegs_run L (CN L (m + 3)) (impl_arePegs_1_all L (m + 0))
  simpa only [slices_IndexFunc_impl_Peg_impl_Peg_arePegs_ok, key] using h
theorem slices_ContainsFunc_impl_Peg_impl_Peg_arePegs_all (L m : Nat) : slices_ContainsFunc_impl_Peg_impl_Peg_arePegs_ok L (CN L (m + 5)) := by
  have key : ∀ args hp, CN L (m + 5) 114 args hp = run T (CN L (m + 4)) sh (keep 114) L Tryz.f114 args hp := fun args hp => callF_step (F := F) (by kernel_rfl) args hp
  have h := slices_ContainsFunc_impl_Peg_impl_Peg_arePegs_run L (CN L (m + 4)) (slices_IndexFunc_impl_Peg_impl_Peg_arePegs_all L (m + 0))
  simpa only [slices_ContainsFunc_impl_Peg_impl_Peg_arePegs_ok, key] using h
theorem impl_arePegs_all (L m : Nat) : impl_arePegs_ok L (CN L (m + 6)) := by
  have key : ∀ args hp, CN L (m + 6) 80 args hp = run T (CN L (m + 5)) sh (keep 80) L Tryz.f80 args hp := fun args hp => callF_step (F := F) (by kernel_rfl) args hp
  have h := impl_arePegs_run L (CN L (m + 5)) (slices_ContainsFunc_impl_Peg_impl_Peg_arePegs_all L (m + 0))
  simpa only [impl_arePegs_ok, key] using h
theorem slices_Index_impl_Peg_impl_Peg_all (L m : Nat) : slices_Index_impl_Peg_impl_Peg_ok L (CN L (m + 1)) := by
  have key : ∀ args hp, CN L (m + 1) 141 args hp = run T (CN L (m + 0)) sh (keep 141) L Tryz.f141 args hp := fun args hp => callF_step (F := F) (by kernel_rfl) args hp
  have h := slices_Index_impl_Peg_impl_Peg_run L (CN L (m + 0))
  simpa only [slices_Index_impl_Peg_impl_Peg_ok, key] using h
theorem slices_Contains_impl_Peg_impl_Peg_all (L m : Nat) : slices_Contains_impl_Peg_impl_Peg_ok L (CN L (m + 2)) := by
  have key : ∀ args hp, CN L (m + 2) 98 args hp = run T (CN L (m + 1)) sh (keep 98) L Tryz.f98 args hp := fun args hp => callF_step (F := F) (by kernel_rfl) args hp
  have h := slices_Contains_impl_Peg_impl_Peg_run L (CN L (m + 1)) (slices_Index_impl_Peg_impl_Peg_all L (m + 0))
  simpa only [slices_Contains_impl_Peg_impl_Peg_ok, key] using h
theorem impl_at_all (L m : Nat) : impl_at_ok L (CN L (m + 1)) := by
  have key : ∀ args hp, CN L (m + 1) 100 args hp = run T (CN L (m + 0)) sh (keep 100) L Tryz.f100 args hp := fun args hp => callF_step (F := F) (by kernel_rfl) args hp
  have h := impl_at_run L (CN L (m + 0))
  simpa only [impl_at_ok, key] using h
theorem impl_Peg_less_all (L m : Nat) : impl_Peg_less_ok L (CN L (m + 1)) := by
  have key : ∀ args hp, CN L (m + 1) 110 args hp = run T (CN L (m + 0)) sh (keep 110) L Tryz.f110 args hp := fun args hp => callF_step (F := F) (by kernel_rfl) args hp
  have h := impl_Peg_less_run L (CN L (m + 0))
  simpa only [impl_Peg_less_ok, key] using h
theorem impl_cross_all (L m : Nat) : impl_cross_ok L (CN L (m + 1)) := by
  have key : ∀ args hp, CN L (m + 1) 102 args hp = run T (CN L (m + 0)) sh (keep 102) L Tryz.f102 args hp := fun args hp => callF_step (F := F) (by kernel_rfl) args hp
  have h := impl_cross_run L (CN L (m + 0))
  simpa only [impl_cross_ok, key] using h
theorem impl_turn_all (L m : Nat) : impl_turn_ok L (CN L (m + 2)) := by
  have key : ∀ args hp, CN L (m + 2) 99 args hp = run T (CN L (m + 1)) sh (keep 99) L Tryz.f99 args hp := fun args hp => callF_step (F := F) (by kernel_rfl) args hp
  have h := impl_turn_run L (CN L (m + 1)) (impl_Peg_less_all L (m + 0)) (impl_cross_all L (m + 0))
  simpa only [impl_turn_ok, key] using h
theorem impl_sign_all (L m : Nat) : impl_sign_ok L (CN L (m + 1)) := by
  have key : ∀ args hp, CN L (m + 1) 122 args hp = run T (CN L (m + 0)) sh (keep 122) L Tryz.f122 args hp := fun args hp => callF_step (F := F) (by kernel_rfl) args hp
  have h := impl_sign_run L (CN L (m + 0))
  simpa only [impl_sign_ok, key] using h
theorem impl_isOn_all (L m : Nat) : impl_isOn_ok L (CN L (m + 3)) := by
  have key : ∀ args hp, CN L (m + 3) 142 args hp = run T (CN L (m + 2)) sh (keep 142) L Tryz.f142 args hp := fun args hp => callF_step (F := F) (by kernel_rfl) args hp
  have h := impl_isOn_run L (CN L (m + 2)) (impl_within_all L (m + 1)) (impl_turn_all L (m + 0))
  simpa only [impl_isOn_ok, key] using h
theorem impl_meet_all (L m : Nat) : impl_meet_ok L (CN L (m + 4)) := by
  have key : ∀ args hp, CN L (m + 4) 101 args hp = run T (CN L (m + 3)) sh (keep 101) L Tryz.f101 args hp := fun args hp => callF_step (F := F) (by kernel_rfl) args hp
  have h := impl_meet_run L (CN L (m + 3)) (impl_turn_all L (m + 1)) (impl_sign_all L (m + 2)) (impl_isOn_all L (m + 0))
  simpa only [impl_meet_ok, key] using h
theorem impl_IsPolygon_all (L m : Nat) : impl_IsPolygon_ok L (CN L (m + 7)) := by
  have key : ∀ args hp, CN L (m + 7) 53 args hp = run T (CN L (m + 6)) sh (keep 53) L Tryz.f53 args hp := fun args hp => callF_step (F := F) (by kernel_rfl) args hp
  have h := impl_IsPolygon_run L (CN L (m + 6)) (impl_within_all L (m + 5)) (impl_arePegs_all L (m + 0)) (slices_Contains_impl_Peg_impl_Peg_all L (m + 4)) (impl_at_all L (m + 5)) (impl_turn_all L (m + 4)) (impl_meet_all L (m + 2))
  simpa only [impl_IsPolygon_ok, key] using h
theorem impl_isThree_all (L m : Nat) : impl_isThree_ok L (CN L (m + 8)) := by
  have key : ∀ args hp, CN L (m + 8) 49 args hp = run T (CN L (m + 7)) sh (keep 49) L Tryz.f49 args hp := fun args hp => callF_step (F := F) (by kernel_rfl) args hp
  have h := impl_isThree_run L (CN L (m + 7)) (impl_IsPolygon_all L (m + 0))
  simpa only [impl_isThree_ok, key] using h
theorem impl_bezout_all (L m : Nat) : impl_bezout_ok L (CN L (m + 1)) := by
  have key : ∀ args hp, CN L (m + 1) 111 args hp = run T (CN L (m + 0)) sh (keep 111) L Tryz.f111 args hp := fun args hp => callF_step (F := F) (by kernel_rfl) args hp
  have h := impl_bezout_run L (CN L (m + 0))
  simpa only [impl_bezout_ok, key] using h
theorem impl_Move_bring_all (L m : Nat) : impl_Move_bring_ok L (CN L (m + 1)) := by
  have key : ∀ args hp, CN L (m + 1) 85 args hp = run T (CN L (m + 0)) sh (keep 85) L Tryz.f85 args hp := fun args hp => callF_step (F := F) (by kernel_rfl) args hp
  have h := impl_Move_bring_run L (CN L (m + 0))
  simpa only [impl_Move_bring_ok, key] using h
theorem impl_frame_all (L m : Nat) : impl_frame_ok L (CN L (m + 2)) := by
  have key : ∀ args hp, CN L (m + 2) 73 args hp = run T (CN L (m + 1)) sh (keep 73) L Tryz.f73 args hp := fun args hp => callF_step (F := F) (by kernel_rfl) args hp
  have h := impl_frame_run L (CN L (m + 1)) (impl_Peg_less_all L (m + 0)) (impl_bezout_all L (m + 0)) (impl_Move_bring_all L (m + 0))
  simpa only [impl_frame_ok, key] using h
theorem impl_told_all (L m : Nat) : impl_told_ok L (CN L (m + 2)) := by
  have key : ∀ args hp, CN L (m + 2) 74 args hp = run T (CN L (m + 1)) sh (keep 74) L Tryz.f74 args hp := fun args hp => callF_step (F := F) (by kernel_rfl) args hp
  have h := impl_told_run L (CN L (m + 1)) (impl_at_all L (m + 0))
  simpa only [impl_told_ok, key] using h
theorem cmp_isNaN_int_all (L m : Nat) : cmp_isNaN_int_ok L (CN L (m + 1)) := by
  have key : ∀ args hp, CN L (m + 1) 175 args hp = run T (CN L (m + 0)) sh (keep 175) L Tryz.f175 args hp := fun args hp => callF_step (F := F) (by kernel_rfl) args hp
  have h := cmp_isNaN_int_run L (CN L (m + 0))
  simpa only [cmp_isNaN_int_ok, key] using h
theorem cmp_Compare_int_all (L m : Nat) : cmp_Compare_int_ok L (CN L (m + 2)) := by
  have key : ∀ args hp, CN L (m + 2) 160 args hp = run T (CN L (m + 1)) sh (keep 160) L Tryz.f160 args hp := fun args hp => callF_step (F := F) (by kernel_rfl) args hp
  have h := cmp_Compare_int_run L (CN L (m + 1)) (cmp_isNaN_int_all L (m + 0))
  simpa only [cmp_Compare_int_ok, key] using h
theorem cmp_Or_int_all (L m : Nat) : cmp_Or_int_ok L (CN L (m + 1)) := by
  have key : ∀ args hp, CN L (m + 1) 159 args hp = run T (CN L (m + 0)) sh (keep 159) L Tryz.f159 args hp := fun args hp => callF_step (F := F) (by kernel_rfl) args hp
  have h := cmp_Or_int_run L (CN L (m + 0))
  simpa only [cmp_Or_int_ok, key] using h
theorem impl_comparePegs_all (L m : Nat) : impl_comparePegs_ok L (CN L (m + 3)) := by
  have key : ∀ args hp, CN L (m + 3) 131 args hp = run T (CN L (m + 2)) sh (keep 131) L Tryz.f131 args hp := fun args hp => callF_step (F := F) (by kernel_rfl) args hp
  have h := impl_comparePegs_run L (CN L (m + 2)) (cmp_Compare_int_all L (m + 0)) (cmp_Or_int_all L (m + 1))
  simpa only [impl_comparePegs_ok, key] using h
theorem slices_CompareFunc_impl_Peg_impl_Peg_impl_Peg_impl_Peg_all (L m : Nat) : slices_CompareFunc_impl_Peg_impl_Peg_impl_Peg_impl_Peg_ok L (CN L (m + 4)) := by
  have key : ∀ args hp, CN L (m + 4) 143 args hp = run T (CN L (m + 3)) sh (keep 143) L Tryz.f143 args hp := fun args hp => callF_step (F := F) (by kernel_rfl) args hp
  have h := slices_CompareFunc_impl_Peg_impl_Peg_impl_Peg_impl_Peg_run L (CN L (m + 3)) (impl_comparePegs_all L (m + 0))
  simpa only [slices_CompareFunc_impl_Peg_impl_Peg_impl_Peg_impl_Peg_ok, key] using h
theorem impl_comparePolygons_all (L m : Nat) : impl_comparePolygons_ok L (CN L (m + 5)) := by
  have key : ∀ args hp, CN L (m + 5) 103 args hp = run T (CN L (m + 4)) sh (keep 103) L Tryz.f103 args hp := fun args hp => callF_step (F := F) (by kernel_rfl) args hp
  have h := impl_comparePolygons_run L (CN L (m + 4)) (slices_CompareFunc_impl_Peg_impl_Peg_impl_Peg_impl_Peg_all L (m + 0))
  simpa only [impl_comparePolygons_ok, key] using h
theorem impl_firstFrame_all (L m : Nat) : impl_firstFrame_ok L (CN L (m + 6)) := by
  have key : ∀ args hp, CN L (m + 6) 58 args hp = run T (CN L (m + 5)) sh (keep 58) L Tryz.f58 args hp := fun args hp => callF_step (F := F) (by kernel_rfl) args hp
  have h := impl_firstFrame_run L (CN L (m + 5)) (impl_frame_all L (m + 3)) (impl_told_all L (m + 3)) (impl_comparePolygons_all L (m + 0))
  simpa only [impl_firstFrame_ok, key] using h
theorem impl_kindOf_all (L m : Nat) : impl_kindOf_ok L (CN L (m + 7)) := by
  have key : ∀ args hp, CN L (m + 7) 50 args hp = run T (CN L (m + 6)) sh (keep 50) L Tryz.f50 args hp := fun args hp => callF_step (F := F) (by kernel_rfl) args hp
  have h := impl_kindOf_run L (CN L (m + 6)) (impl_firstFrame_all L (m + 0))
  simpa only [impl_kindOf_ok, key] using h
theorem impl_KindOfTriangle_all (L m : Nat) : impl_KindOfTriangle_ok L (CN L (m + 9)) := by
  have key : ∀ args hp, CN L (m + 9) 8 args hp = run T (CN L (m + 8)) sh (keep 8) L Tryz.f8 args hp := fun args hp => callF_step (F := F) (by kernel_rfl) args hp
  have h := impl_KindOfTriangle_run L (CN L (m + 8)) (impl_isThree_all L (m + 0)) (impl_kindOf_all L (m + 1))
  simpa only [impl_KindOfTriangle_ok, key] using h
theorem spec_mvThree_all (L m : Nat) : spec_mvThree_ok L (CN L (m + 5)) := by
  have key : ∀ args hp, CN L (m + 5) 51 args hp = run T (CN L (m + 4)) sh (keep 51) L Tryz.f51 args hp := fun args hp => callF_step (F := F) (by kernel_rfl) args hp
  have h := spec_mvThree_run L (CN L (m + 4)) (spec_pgGood_all L (m + 0))
  simpa only [spec_mvThree_ok, key] using h
theorem spec_l1Most_all (L m : Nat) : spec_l1Most_ok L (CN L (m + 1)) := by
  have key : ∀ args hp, CN L (m + 1) 147 args hp = run T (CN L (m + 0)) sh (keep 147) L Tryz.f147 args hp := fun args hp => callF_step (F := F) (by kernel_rfl) args hp
  have h := spec_l1Most_run L (CN L (m + 0))
  simpa only [spec_l1Most_ok, key] using h
theorem spec_l1Abs_all (L m : Nat) : spec_l1Abs_ok L (CN L (m + 2)) := by
  have key : ∀ args hp, CN L (m + 2) 112 args hp = run T (CN L (m + 1)) sh (keep 112) L Tryz.f112 args hp := fun args hp => callF_step (F := F) (by kernel_rfl) args hp
  have h := spec_l1Abs_run L (CN L (m + 1)) (spec_l1Most_all L (m + 0))
  simpa only [spec_l1Abs_ok, key] using h
theorem spec_pgCommon_all (L m : Nat) : spec_pgCommon_ok L (CN L (m + 3)) := by
  have key : ∀ args hp, CN L (m + 3) 165 args hp = run T (CN L (m + 2)) sh (keep 165) L Tryz.f165 args hp := fun args hp => callF_step (F := F) (by kernel_rfl) args hp
  have h := spec_pgCommon_run L (CN L (m + 2)) (spec_l1Abs_all L (m + 0))
  simpa only [spec_pgCommon_ok, key] using h
theorem spec_mvFull_all (L m : Nat) : spec_mvFull_ok L (CN L (m + 1)) := by
  have key : ∀ args hp, CN L (m + 1) 166 args hp = run T (CN L (m + 0)) sh (keep 166) L Tryz.f166 args hp := fun args hp => callF_step (F := F) (by kernel_rfl) args hp
  have h := spec_mvFull_run L (CN L (m + 0))
  simpa only [spec_mvFull_ok, key] using h
theorem spec_mvPeg_all (L m : Nat) : spec_mvPeg_ok L (CN L (m + 1)) := by
  have key : ∀ args hp, CN L (m + 1) 113 args hp = run T (CN L (m + 0)) sh (keep 113) L Tryz.f113 args hp := fun args hp => callF_step (F := F) (by kernel_rfl) args hp
  have h := spec_mvPeg_run L (CN L (m + 0))
  simpa only [spec_mvPeg_ok, key] using h
theorem spec_mvFrame_all (L m : Nat) : spec_mvFrame_ok L (CN L (m + 4)) := by
  have key : ∀ args hp, CN L (m + 4) 149 args hp = run T (CN L (m + 3)) sh (keep 149) L Tryz.f149 args hp := fun args hp => callF_step (F := F) (by kernel_rfl) args hp
  have h := spec_mvFrame_run L (CN L (m + 3)) (spec_pgCommon_all L (m + 0)) (spec_mvFull_all L (m + 2)) (spec_mvPeg_all L (m + 2))
  simpa only [spec_mvFrame_ok, key] using h
theorem spec_mvFrames_all (L m : Nat) : spec_mvFrames_ok L (CN L (m + 5)) := by
  have key : ∀ args hp, CN L (m + 5) 117 args hp = run T (CN L (m + 4)) sh (keep 117) L Tryz.f117 args hp := fun args hp => callF_step (F := F) (by kernel_rfl) args hp
  have h := spec_mvFrames_run L (CN L (m + 4)) (spec_pgBack_all L (m + 3)) (spec_mvFrame_all L (m + 0))
  simpa only [spec_mvFrames_ok, key] using h
theorem spec_pgLess_all (L m : Nat) : spec_pgLess_ok L (CN L (m + 1)) := by
  have key : ∀ args hp, CN L (m + 1) 146 args hp = run T (CN L (m + 0)) sh (keep 146) L Tryz.f146 args hp := fun args hp => callF_step (F := F) (by kernel_rfl) args hp
  have h := spec_pgLess_run L (CN L (m + 0))
  simpa only [spec_pgLess_ok, key] using h
theorem spec_mvBefore_all (L m : Nat) : spec_mvBefore_ok L (CN L (m + 2)) := by
  have key : ∀ args hp, CN L (m + 2) 109 args hp = run T (CN L (m + 1)) sh (keep 109) L Tryz.f109 args hp := fun args hp => callF_step (F := F) (by kernel_rfl) args hp
  have h := spec_mvBefore_run L (CN L (m + 1)) (spec_pgLess_all L (m + 0))
  simpa only [spec_mvBefore_ok, key] using h
theorem spec_mvKind_all (L m : Nat) : spec_mvKind_ok L (CN L (m + 6)) := by
  have key : ∀ args hp, CN L (m + 6) 81 args hp = run T (CN L (m + 5)) sh (keep 81) L Tryz.f81 args hp := fun args hp => callF_step (F := F) (by kernel_rfl) args hp
  have h := spec_mvKind_run L (CN L (m + 5)) (spec_mvFrames_all L (m + 0)) (spec_mvBefore_all L (m + 3))
  simpa only [spec_mvKind_ok, key] using h
theorem spec_mvList_all (L m : Nat) : spec_mvList_ok L (CN L (m + 7)) := by
  have key : ∀ args hp, CN L (m + 7) 52 args hp = run T (CN L (m + 6)) sh (keep 52) L Tryz.f52 args hp := fun args hp => callF_step (F := F) (by kernel_rfl) args hp
  have h := spec_mvList_run L (CN L (m + 6)) (spec_mvKind_all L (m + 0))
  simpa only [spec_mvList_ok, key] using h
theorem spec_KindOfTriangle_all (L m : Nat) : spec_KindOfTriangle_ok L (CN L (m + 8)) := by
  have key : ∀ args hp, CN L (m + 8) 9 args hp = run T (CN L (m + 7)) sh (keep 9) L Tryz.f9 args hp := fun args hp => callF_step (F := F) (by kernel_rfl) args hp
  have h := spec_KindOfTriangle_run L (CN L (m + 7)) (spec_mvThree_all L (m + 2)) (spec_mvList_all L (m + 0))
  simpa only [spec_KindOfTriangle_ok, key] using h
theorem laws_zSame_all (L m : Nat) : laws_zSame_ok L (CN L (m + 1)) := by
  have key : ∀ args hp, CN L (m + 1) 10 args hp = run T (CN L (m + 0)) sh (keep 10) L Tryz.f10 args hp := fun args hp => callF_step (F := F) (by kernel_rfl) args hp
  have h := laws_zSame_run L (CN L (m + 0))
  simpa only [laws_zSame_ok, key] using h
theorem impl_twice_all (L m : Nat) : impl_twice_ok L (CN L (m + 2)) := by
  have key : ∀ args hp, CN L (m + 2) 54 args hp = run T (CN L (m + 1)) sh (keep 54) L Tryz.f54 args hp := fun args hp => callF_step (F := F) (by kernel_rfl) args hp
  have h := impl_twice_run L (CN L (m + 1)) (impl_at_all L (m + 0)) (impl_cross_all L (m + 0))
  simpa only [impl_twice_ok, key] using h
theorem impl_TwiceArea_all (L m : Nat) : impl_TwiceArea_ok L (CN L (m + 8)) := by
  have key : ∀ args hp, CN L (m + 8) 11 args hp = run T (CN L (m + 7)) sh (keep 11) L Tryz.f11 args hp := fun args hp => callF_step (F := F) (by kernel_rfl) args hp
  have h := impl_TwiceArea_run L (CN L (m + 7)) (impl_IsPolygon_all L (m + 0)) (impl_twice_all L (m + 5))
  simpa only [impl_TwiceArea_ok, key] using h
theorem laws_zAbs_all (L m : Nat) : laws_zAbs_ok L (CN L (m + 1)) := by
  have key : ∀ args hp, CN L (m + 1) 12 args hp = run T (CN L (m + 0)) sh (keep 12) L Tryz.f12 args hp := fun args hp => callF_step (F := F) (by kernel_rfl) args hp
  have h := laws_zAbs_run L (CN L (m + 0))
  simpa only [laws_zAbs_ok, key] using h
theorem impl_triangle_all (L m : Nat) : impl_triangle_ok L (CN L (m + 1)) := by
  have key : ∀ args hp, CN L (m + 1) 55 args hp = run T (CN L (m + 0)) sh (keep 55) L Tryz.f55 args hp := fun args hp => callF_step (F := F) (by kernel_rfl) args hp
  have h := impl_triangle_run L (CN L (m + 0))
  simpa only [impl_triangle_ok, key] using h
theorem slices_Equal_int_int_all (L m : Nat) : slices_Equal_int_int_ok L (CN L (m + 1)) := by
  have key : ∀ args hp, CN L (m + 1) 56 args hp = run T (CN L (m + 0)) sh (keep 56) L Tryz.f56 args hp := fun args hp => callF_step (F := F) (by kernel_rfl) args hp
  have h := slices_Equal_int_int_run L (CN L (m + 0))
  simpa only [slices_Equal_int_int_ok, key] using h
theorem impl_TriangleOfKind_all (L m : Nat) : impl_TriangleOfKind_ok L (CN L (m + 9)) := by
  have key : ∀ args hp, CN L (m + 9) 13 args hp = run T (CN L (m + 8)) sh (keep 13) L Tryz.f13 args hp := fun args hp => callF_step (F := F) (by kernel_rfl) args hp
  have h := impl_TriangleOfKind_run L (CN L (m + 8)) (impl_isThree_all L (m + 0)) (impl_kindOf_all L (m + 1)) (impl_triangle_all L (m + 7)) (slices_Equal_int_int_all L (m + 7))
  simpa only [impl_TriangleOfKind_ok, key] using h
theorem slices_Equal_impl_Peg_impl_Peg_all (L m : Nat) : slices_Equal_impl_Peg_impl_Peg_ok L (CN L (m + 1)) := by
  have key : ∀ args hp, CN L (m + 1) 57 args hp = run T (CN L (m + 0)) sh (keep 57) L Tryz.f57 args hp := fun args hp => callF_step (F := F) (by kernel_rfl) args hp
  have h := slices_Equal_impl_Peg_impl_Peg_run L (CN L (m + 0))
  simpa only [slices_Equal_impl_Peg_impl_Peg_ok, key] using h
theorem impl_AreAlike_all (L m : Nat) : impl_AreAlike_ok L (CN L (m + 8)) := by
  have key : ∀ args hp, CN L (m + 8) 14 args hp = run T (CN L (m + 7)) sh (keep 14) L Tryz.f14 args hp := fun args hp => callF_step (F := F) (by kernel_rfl) args hp
  have h := impl_AreAlike_run L (CN L (m + 7)) (impl_IsPolygon_all L (m + 0)) (impl_firstFrame_all L (m + 1)) (slices_Equal_impl_Peg_impl_Peg_all L (m + 6))
  simpa only [impl_AreAlike_ok, key] using h
theorem impl_KindsOfArea_all (L m : Nat) : impl_KindsOfArea_ok L (CN L (m + 8)) := by
  have key : ∀ args hp, CN L (m + 8) 15 args hp = run T (CN L (m + 7)) sh (keep 15) L Tryz.f15 args hp := fun args hp => callF_step (F := F) (by kernel_rfl) args hp
  have h := impl_KindsOfArea_run L (CN L (m + 7)) (impl_within_all L (m + 6)) (impl_kindOf_all L (m + 0)) (impl_triangle_all L (m + 6)) (slices_Equal_int_int_all L (m + 6))
  simpa only [impl_KindsOfArea_ok, key] using h
theorem spec_DrawKindsOfArea_all (L m : Nat) : spec_DrawKindsOfArea_ok L (CN L (m + 4)) := by
  have key : ∀ args hp, CN L (m + 4) 16 args hp = run T (CN L (m + 3)) sh (keep 16) L Tryz.f16 args hp := fun args hp => callF_step (F := F) (by kernel_rfl) args hp
  have h := spec_DrawKindsOfArea_run L (CN L (m + 3)) (spec_l1Cur_among_v2_all L (m + 0))
  simpa only [spec_DrawKindsOfArea_ok, key] using h
theorem spec_mvMade_all (L m : Nat) : spec_mvMade_ok L (CN L (m + 1)) := by
  have key : ∀ args hp, CN L (m + 1) 66 args hp = run T (CN L (m + 0)) sh (keep 66) L Tryz.f66 args hp := fun args hp => callF_step (F := F) (by kernel_rfl) args hp
  have h := spec_mvMade_run L (CN L (m + 0))
  simpa only [spec_mvMade_ok, key] using h
theorem spec_l1Same_all (L m : Nat) : spec_l1Same_ok L (CN L (m + 1)) := by
  have key : ∀ args hp, CN L (m + 1) 67 args hp = run T (CN L (m + 0)) sh (keep 67) L Tryz.f67 args hp := fun args hp => callF_step (F := F) (by kernel_rfl) args hp
  have h := spec_l1Same_run L (CN L (m + 0))
  simpa only [spec_l1Same_ok, key] using h
theorem spec_mvKinds_all (L m : Nat) : spec_mvKinds_ok L (CN L (m + 8)) := by
  have key : ∀ args hp, CN L (m + 8) 62 args hp = run T (CN L (m + 7)) sh (keep 62) L Tryz.f62 args hp := fun args hp => callF_step (F := F) (by kernel_rfl) args hp
  have h := spec_mvKinds_run L (CN L (m + 7)) (spec_mvList_all L (m + 0)) (spec_mvMade_all L (m + 6)) (spec_l1Same_all L (m + 6))
  simpa only [spec_mvKinds_ok, key] using h
theorem spec_KindsOfArea_all (L m : Nat) : spec_KindsOfArea_ok L (CN L (m + 9)) := by
  have key : ∀ args hp, CN L (m + 9) 17 args hp = run T (CN L (m + 8)) sh (keep 17) L Tryz.f17 args hp := fun args hp => callF_step (F := F) (by kernel_rfl) args hp
  have h := spec_KindsOfArea_run L (CN L (m + 8)) (spec_l1In_all L (m + 7)) (spec_mvKinds_all L (m + 0))
  simpa only [spec_KindsOfArea_ok, key] using h
theorem impl_CountKinds_all (L m : Nat) : impl_CountKinds_ok L (CN L (m + 9)) := by
  have key : ∀ args hp, CN L (m + 9) 18 args hp = run T (CN L (m + 8)) sh (keep 18) L Tryz.f18 args hp := fun args hp => callF_step (F := F) (by kernel_rfl) args hp
  have h := impl_CountKinds_run L (CN L (m + 8)) (impl_KindsOfArea_all L (m + 0))
  simpa only [impl_CountKinds_ok, key] using h
theorem spec_CountKinds_all (L m : Nat) : spec_CountKinds_ok L (CN L (m + 9)) := by
  have key : ∀ args hp, CN L (m + 9) 19 args hp = run T (CN L (m + 8)) sh (keep 19) L Tryz.f19 args hp := fun args hp => callF_step (F := F) (by kernel_rfl) args hp
  have h := spec_CountKinds_run L (CN L (m + 8)) (spec_l1In_all L (m + 7)) (spec_mvKinds_all L (m + 0))
  simpa only [spec_CountKinds_ok, key] using h
theorem spec_l1Own_all (L m : Nat) : spec_l1Own_ok L (CN L (m + 1)) := by
  have key : ∀ args hp, CN L (m + 1) 64 args hp = run T (CN L (m + 0)) sh (keep 64) L Tryz.f64 args hp := fun args hp => callF_step (F := F) (by kernel_rfl) args hp
  have h := spec_l1Own_run L (CN L (m + 0))
  simpa only [spec_l1Own_ok, key] using h
theorem spec_DrawTriangleOfKind_all (L m : Nat) : spec_DrawTriangleOfKind_ok L (CN L (m + 9)) := by
  have key : ∀ args hp, CN L (m + 9) 20 args hp = run T (CN L (m + 8)) sh (keep 20) L Tryz.f20 args hp := fun args hp => callF_step (F := F) (by kernel_rfl) args hp
  have h := spec_DrawTriangleOfKind_run L (CN L (m + 8)) (spec_l1Cur_pick_all L (m + 6)) (spec_l1Cur_one_all L (m + 5)) (spec_mvKinds_all L (m + 0)) (spec_l1Own_all L (m + 7))
  simpa only [spec_DrawTriangleOfKind_ok, key] using h
theorem spec_l1All_all (L m : Nat) : spec_l1All_ok L (CN L (m + 2)) := by
  have key : ∀ args hp, CN L (m + 2) 65 args hp = run T (CN L (m + 1)) sh (keep 65) L Tryz.f65 args hp := fun args hp => callF_step (F := F) (by kernel_rfl) args hp
  have h := spec_l1All_run L (CN L (m + 1)) (spec_l1In_all L (m + 0))
  simpa only [spec_l1All_ok, key] using h
theorem spec_TriangleOfKind_all (L m : Nat) : spec_TriangleOfKind_ok L (CN L (m + 8)) := by
  have key : ∀ args hp, CN L (m + 8) 21 args hp = run T (CN L (m + 7)) sh (keep 21) L Tryz.f21 args hp := fun args hp => callF_step (F := F) (by kernel_rfl) args hp
  have h := spec_TriangleOfKind_run L (CN L (m + 7)) (spec_mvThree_all L (m + 2)) (spec_mvList_all L (m + 0)) (spec_mvMade_all L (m + 6)) (spec_l1Same_all L (m + 6)) (spec_l1All_all L (m + 5))
  simpa only [spec_TriangleOfKind_ok, key] using h
theorem spec_l1Cur_move_all (L m : Nat) : spec_l1Cur_move_ok L (CN L (m + 4)) := by
  have key : ∀ args hp, CN L (m + 4) 68 args hp = run T (CN L (m + 3)) sh (keep 68) L Tryz.f68 args hp := fun args hp => callF_step (F := F) (by kernel_rfl) args hp
  have h := spec_l1Cur_move_run L (CN L (m + 3)) (spec_l1Cur_pick_all L (m + 1)) (spec_l1Cur_among_v2_all L (m + 0))
  simpa only [spec_l1Cur_move_ok, key] using h
theorem spec_mvGood_all (L m : Nat) : spec_mvGood_ok L (CN L (m + 3)) := by
  have key : ∀ args hp, CN L (m + 3) 105 args hp = run T (CN L (m + 2)) sh (keep 105) L Tryz.f105 args hp := fun args hp => callF_step (F := F) (by kernel_rfl) args hp
  have h := spec_mvGood_run L (CN L (m + 2)) (spec_l1Abs_all L (m + 0)) (spec_l1All_all L (m + 0))
  simpa only [spec_mvGood_ok, key] using h
theorem spec_pgMap_all (L m : Nat) : spec_pgMap_ok L (CN L (m + 3)) := by
  have key : ∀ args hp, CN L (m + 3) 106 args hp = run T (CN L (m + 2)) sh (keep 106) L Tryz.f106 args hp := fun args hp => callF_step (F := F) (by kernel_rfl) args hp
  have h := spec_pgMap_run L (CN L (m + 2)) (spec_pgIs_all L (m + 0))
  simpa only [spec_pgMap_ok, key] using h
theorem spec_MoveCorners_all (L m : Nat) : spec_MoveCorners_ok L (CN L (m + 5)) := by
  have key : ∀ args hp, CN L (m + 5) 69 args hp = run T (CN L (m + 4)) sh (keep 69) L Tryz.f69 args hp := fun args hp => callF_step (F := F) (by kernel_rfl) args hp
  have h := spec_MoveCorners_run L (CN L (m + 4)) (spec_pgGood_all L (m + 0)) (spec_mvGood_all L (m + 1)) (spec_pgMap_all L (m + 1))
  simpa only [spec_MoveCorners_ok, key] using h
theorem spec_DrawAreAlike_all (L m : Nat) : spec_DrawAreAlike_ok L (CN L (m + 7)) := by
  have key : ∀ args hp, CN L (m + 7) 22 args hp = run T (CN L (m + 6)) sh (keep 22) L Tryz.f22 args hp := fun args hp => callF_step (F := F) (by kernel_rfl) args hp
  have h := spec_DrawAreAlike_run L (CN L (m + 6)) (spec_l1Cur_pick_all L (m + 4)) (spec_l1Cur_one_all L (m + 3)) (spec_pgBack_all L (m + 5)) (spec_l1Cur_polygon_all L (m + 0)) (spec_l1Cur_move_all L (m + 2)) (spec_MoveCorners_all L (m + 1))
  simpa only [spec_DrawAreAlike_ok, key] using h
theorem spec_mvAlike_all (L m : Nat) : spec_mvAlike_ok L (CN L (m + 7)) := by
  have key : ∀ args hp, CN L (m + 7) 72 args hp = run T (CN L (m + 6)) sh (keep 72) L Tryz.f72 args hp := fun args hp => callF_step (F := F) (by kernel_rfl) args hp
  have h := spec_mvAlike_run L (CN L (m + 6)) (spec_mvBefore_all L (m + 4)) (spec_mvKind_all L (m + 0))
  simpa only [spec_mvAlike_ok, key] using h
theorem spec_AreAlike_all (L m : Nat) : spec_AreAlike_ok L (CN L (m + 8)) := by
  have key : ∀ args hp, CN L (m + 8) 23 args hp = run T (CN L (m + 7)) sh (keep 23) L Tryz.f23 args hp := fun args hp => callF_step (F := F) (by kernel_rfl) args hp
  have h := spec_AreAlike_run L (CN L (m + 7)) (spec_pgGood_all L (m + 3)) (spec_mvAlike_all L (m + 0))
  simpa only [spec_AreAlike_ok, key] using h
theorem impl_between_all (L m : Nat) : impl_between_ok L (CN L (m + 2)) := by
  have key : ∀ args hp, CN L (m + 2) 76 args hp = run T (CN L (m + 1)) sh (keep 76) L Tryz.f76 args hp := fun args hp => callF_step (F := F) (by kernel_rfl) args hp
  have h := impl_between_run L (CN L (m + 1)) (impl_Peg_less_all L (m + 0)) (impl_cross_all L (m + 0)) (impl_Move_bring_all L (m + 0))
  simpa only [impl_between_ok, key] using h
theorem impl_size_all (L m : Nat) : impl_size_ok L (CN L (m + 1)) := by
  have key : ∀ args hp, CN L (m + 1) 119 args hp = run T (CN L (m + 0)) sh (keep 119) L Tryz.f119 args hp := fun args hp => callF_step (F := F) (by kernel_rfl) args hp
  have h := impl_size_run L (CN L (m + 0))
  simpa only [impl_size_ok, key] using h
theorem impl_isWay_all (L m : Nat) : impl_isWay_ok L (CN L (m + 2)) := by
  have key : ∀ args hp, CN L (m + 2) 118 args hp = run T (CN L (m + 1)) sh (keep 118) L Tryz.f118 args hp := fun args hp => callF_step (F := F) (by kernel_rfl) args hp
  have h := impl_isWay_run L (CN L (m + 1)) (impl_size_all L (m + 0))
  simpa only [impl_isWay_ok, key] using h
theorem impl_Move_side_all (L m : Nat) : impl_Move_side_ok L (CN L (m + 1)) := by
  have key : ∀ args hp, CN L (m + 1) 120 args hp = run T (CN L (m + 0)) sh (keep 120) L Tryz.f120 args hp := fun args hp => callF_step (F := F) (by kernel_rfl) args hp
  have h := impl_Move_side_run L (CN L (m + 0))
  simpa only [impl_Move_side_ok, key] using h
theorem impl_IsMove_all (L m : Nat) : impl_IsMove_ok L (CN L (m + 3)) := by
  have key : ∀ args hp, CN L (m + 3) 83 args hp = run T (CN L (m + 2)) sh (keep 83) L Tryz.f83 args hp := fun args hp => callF_step (F := F) (by kernel_rfl) args hp
  have h := impl_IsMove_run L (CN L (m + 2)) (impl_within_all L (m + 1)) (impl_size_all L (m + 1)) (impl_isWay_all L (m + 0)) (impl_Move_side_all L (m + 1))
  simpa only [impl_IsMove_ok, key] using h
theorem impl_checkedMove_all (L m : Nat) : impl_checkedMove_ok L (CN L (m + 4)) := by
  have key : ∀ args hp, CN L (m + 4) 75 args hp = run T (CN L (m + 3)) sh (keep 75) L Tryz.f75 args hp := fun args hp => callF_step (F := F) (by kernel_rfl) args hp
  have h := impl_checkedMove_run L (CN L (m + 3)) (impl_IsMove_all L (m + 0))
  simpa only [impl_checkedMove_ok, key] using h
theorem impl_MoveBetween_all (L m : Nat) : impl_MoveBetween_ok L (CN L (m + 8)) := by
  have key : ∀ args hp, CN L (m + 8) 24 args hp = run T (CN L (m + 7)) sh (keep 24) L Tryz.f24 args hp := fun args hp => callF_step (F := F) (by kernel_rfl) args hp
  have h := impl_MoveBetween_run L (CN L (m + 7)) (impl_IsPolygon_all L (m + 0)) (impl_frame_all L (m + 5)) (impl_told_all L (m + 5)) (slices_Equal_impl_Peg_impl_Peg_all L (m + 6)) (impl_between_all L (m + 5)) (impl_checkedMove_all L (m + 3))
  simpa only [impl_MoveBetween_ok, key] using h
theorem spec_mvTo_all (L m : Nat) : spec_mvTo_ok L (CN L (m + 3)) := by
  have key : ∀ args hp, CN L (m + 3) 77 args hp = run T (CN L (m + 2)) sh (keep 77) L Tryz.f77 args hp := fun args hp => callF_step (F := F) (by kernel_rfl) args hp
  have h := spec_mvTo_run L (CN L (m + 2)) (spec_l1Abs_all L (m + 0)) (spec_mvPeg_all L (m + 1))
  simpa only [spec_mvTo_ok, key] using h
theorem spec_mvIf_all (L m : Nat) : spec_mvIf_ok L (CN L (m + 4)) := by
  have key : ∀ args hp, CN L (m + 4) 78 args hp = run T (CN L (m + 3)) sh (keep 78) L Tryz.f78 args hp := fun args hp => callF_step (F := F) (by kernel_rfl) args hp
  have h := spec_mvIf_run L (CN L (m + 3)) (spec_mvGood_all L (m + 0))
  simpa only [spec_mvIf_ok, key] using h
theorem spec_MoveBetween_all (L m : Nat) : spec_MoveBetween_ok L (CN L (m + 5)) := by
  have key : ∀ args hp, CN L (m + 5) 25 args hp = run T (CN L (m + 4)) sh (keep 25) L Tryz.f25 args hp := fun args hp => callF_step (F := F) (by kernel_rfl) args hp
  have h := spec_MoveBetween_run L (CN L (m + 4)) (spec_pgGood_all L (m + 0)) (spec_pgBack_all L (m + 3)) (spec_mvTo_all L (m + 1)) (spec_mvIf_all L (m + 0))
  simpa only [spec_MoveBetween_ok, key] using h
theorem spec_DrawIsPolygon_all (L m : Nat) : spec_DrawIsPolygon_ok L (CN L (m + 7)) := by
  have key : ∀ args hp, CN L (m + 7) 79 args hp = run T (CN L (m + 6)) sh (keep 79) L Tryz.f79 args hp := fun args hp => callF_step (F := F) (by kernel_rfl) args hp
  have h := spec_DrawIsPolygon_run L (CN L (m + 6)) (spec_l1Cur_pick_all L (m + 4)) (spec_l1Cur_one_all L (m + 3)) (spec_l1Cur_surePeg_all L (m + 3)) (spec_l1Cur_polygon_all L (m + 0))
  simpa only [spec_DrawIsPolygon_ok, key] using h
theorem spec_DrawKindOfPolygon_all (L m : Nat) : spec_DrawKindOfPolygon_ok L (CN L (m + 8)) := by
  have key : ∀ args hp, CN L (m + 8) 26 args hp = run T (CN L (m + 7)) sh (keep 26) L Tryz.f26 args hp := fun args hp => callF_step (F := F) (by kernel_rfl) args hp
  have h := spec_DrawKindOfPolygon_run L (CN L (m + 7)) (spec_DrawIsPolygon_all L (m + 0))
  simpa only [spec_DrawKindOfPolygon_ok, key] using h
theorem impl_KindOfPolygon_all (L m : Nat) : impl_KindOfPolygon_ok L (CN L (m + 8)) := by
  have key : ∀ args hp, CN L (m + 8) 27 args hp = run T (CN L (m + 7)) sh (keep 27) L Tryz.f27 args hp := fun args hp => callF_step (F := F) (by kernel_rfl) args hp
  have h := impl_KindOfPolygon_run L (CN L (m + 7)) (impl_arePegs_all L (m + 1)) (impl_IsPolygon_all L (m + 0)) (impl_firstFrame_all L (m + 1))
  simpa only [impl_KindOfPolygon_ok, key] using h
theorem spec_KindOfPolygon_all (L m : Nat) : spec_KindOfPolygon_ok L (CN L (m + 7)) := by
  have key : ∀ args hp, CN L (m + 7) 28 args hp = run T (CN L (m + 6)) sh (keep 28) L Tryz.f28 args hp := fun args hp => callF_step (F := F) (by kernel_rfl) args hp
  have h := spec_KindOfPolygon_run L (CN L (m + 6)) (spec_pgIs_all L (m + 4)) (spec_pgGood_all L (m + 2)) (spec_mvKind_all L (m + 0))
  simpa only [spec_KindOfPolygon_ok, key] using h
theorem laws_zRows_all (L m : Nat) : laws_zRows_ok L (CN L (m + 2)) := by
  have key : ∀ args hp, CN L (m + 2) 29 args hp = run T (CN L (m + 1)) sh (keep 29) L Tryz.f29 args hp := fun args hp => callF_step (F := F) (by kernel_rfl) args hp
  have h := laws_zRows_run L (CN L (m + 1)) (laws_zSame_all L (m + 0))
  simpa only [laws_zRows_ok, key] using h
theorem laws_zPegs_all (L m : Nat) : laws_zPegs_ok L (CN L (m + 1)) := by
  have key : ∀ args hp, CN L (m + 1) 30 args hp = run T (CN L (m + 0)) sh (keep 30) L Tryz.f30 args hp := fun args hp => callF_step (F := F) (by kernel_rfl) args hp
  have h := laws_zPegs_run L (CN L (m + 0))
  simpa only [laws_zPegs_ok, key] using h
theorem impl_changed_impl_Move_bring_all (L m : Nat) : impl_changed_impl_Move_bring_ok L (CN L (m + 8)) := by
  have key : ∀ args hp, CN L (m + 8) 84 args hp = run T (CN L (m + 7)) sh (keep 84) L Tryz.f84 args hp := fun args hp => callF_step (F := F) (by kernel_rfl) args hp
  have h := impl_changed_impl_Move_bring_run L (CN L (m + 7)) (impl_arePegs_all L (m + 1)) (impl_IsPolygon_all L (m + 0)) (impl_Move_bring_all L (m + 6))
  simpa only [impl_changed_impl_Move_bring_ok, key] using h
theorem impl_MoveCorners_all (L m : Nat) : impl_MoveCorners_ok L (CN L (m + 9)) := by
  have key : ∀ args hp, CN L (m + 9) 31 args hp = run T (CN L (m + 8)) sh (keep 31) L Tryz.f31 args hp := fun args hp => callF_step (F := F) (by kernel_rfl) args hp
  have h := impl_MoveCorners_run L (CN L (m + 8)) (impl_IsMove_all L (m + 5)) (impl_changed_impl_Move_bring_all L (m + 0))
  simpa only [impl_MoveCorners_ok, key] using h
theorem impl_first_all (L m : Nat) : impl_first_ok L (CN L (m + 4)) := by
  have key : ∀ args hp, CN L (m + 4) 121 args hp = run T (CN L (m + 3)) sh (keep 121) L Tryz.f121 args hp := fun args hp => callF_step (F := F) (by kernel_rfl) args hp
  have h := impl_first_run L (CN L (m + 3)) (impl_comparePegs_all L (m + 0))
  simpa only [impl_first_ok, key] using h
theorem impl_tellFirst_all (L m : Nat) : impl_tellFirst_ok L (CN L (m + 5)) := by
  have key : ∀ args hp, CN L (m + 5) 86 args hp = run T (CN L (m + 4)) sh (keep 86) L Tryz.f86 args hp := fun args hp => callF_step (F := F) (by kernel_rfl) args hp
  have h := impl_tellFirst_run L (CN L (m + 4)) (impl_sign_all L (m + 3)) (impl_told_all L (m + 2)) (impl_twice_all L (m + 2)) (impl_first_all L (m + 0))
  simpa only [impl_tellFirst_ok, key] using h
theorem impl_TellFirst_all (L m : Nat) : impl_TellFirst_ok L (CN L (m + 8)) := by
  have key : ∀ args hp, CN L (m + 8) 32 args hp = run T (CN L (m + 7)) sh (keep 32) L Tryz.f32 args hp := fun args hp => callF_step (F := F) (by kernel_rfl) args hp
  have h := impl_TellFirst_run L (CN L (m + 7)) (impl_IsPolygon_all L (m + 0)) (impl_tellFirst_all L (m + 2))
  simpa only [impl_TellFirst_ok, key] using h
theorem laws_FnKindsTold_all (L m : Nat) : laws_FnKindsTold_ok L (CN L (m + 10)) := by
  have key : ∀ args hp, CN L (m + 10) 3 args hp = run T (CN L (m + 9)) sh (keep 3) L Tryz.f3 args hp := fun args hp => callF_step (F := F) (by kernel_rfl) args hp
  have h := laws_FnKindsTold_run L (CN L (m + 9)) (laws_big_all L (m + 8)) (spec_DrawKindOfTriangle_all L (m + 2)) (impl_KindOfTriangle_all L (m + 0)) (spec_KindOfTriangle_all L (m + 1)) (laws_zSame_all L (m + 8)) (impl_TwiceArea_all L (m + 1)) (laws_zAbs_all L (m + 8)) (impl_TriangleOfKind_all L (m + 0)) (impl_AreAlike_all L (m + 1)) (impl_KindsOfArea_all L (m + 1)) (spec_DrawKindsOfArea_all L (m + 5)) (spec_KindsOfArea_all L (m + 0)) (impl_CountKinds_all L (m + 0)) (spec_CountKinds_all L (m + 0)) (spec_DrawTriangleOfKind_all L (m + 0)) (spec_TriangleOfKind_all L (m + 1)) (spec_DrawAreAlike_all L (m + 2)) (spec_AreAlike_all L (m + 1)) (impl_MoveBetween_all L (m + 1)) (spec_MoveBetween_all L (m + 4)) (spec_DrawKindOfPolygon_all L (m + 1)) (impl_KindOfPolygon_all L (m + 1)) (spec_KindOfPolygon_all L (m + 2)) (laws_zRows_all L (m + 7)) (laws_zPegs_all L (m + 8)) (impl_MoveCorners_all L (m + 0)) (impl_TellFirst_all L (m + 1))
  simpa only [laws_FnKindsTold_ok, key] using h
end Go.AM
