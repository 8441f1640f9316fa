import Derived.Test.YtokhceheoccfhaaAmM1
import Derived.KernelRfl
set_option linter.unusedVariables false
set_option linter.unusedSimpArgs false
set_option linter.unnecessarySimpa false
set_option linter.deprecated false
set_option linter.unusedSectionVars false
open Go Go.AM Go.Proofs
namespace Go.AM
set_option maxRecDepth 100000

noncomputable def rowsF : List (Nat × Func) := [(8, Try.f8), (15, Try.f15), (16, Try.f16), (19, Try.f19), (20, Try.f20), (55, Try.f55), (56, Try.f56), (84, Try.f84), (85, Try.f85), (86, Try.f86), (87, Try.f87), (88, Try.f88), (89, Try.f89), (90, Try.f90), (91, Try.f91), (92, Try.f92), (93, Try.f93), (94, Try.f94), (95, Try.f95), (96, Try.f96), (97, Try.f97), (98, Try.f98), (99, Try.f99), (100, Try.f100), (101, Try.f101), (102, Try.f102), (103, Try.f103), (104, Try.f104), (105, Try.f105), (106, Try.f106), (107, Try.f107), (108, Try.f108), (109, Try.f109), (110, Try.f110), (127, Try.f127), (128, Try.f128), (130, Try.f130), (131, Try.f131), (133, Try.f133), (134, Try.f134), (135, Try.f135), (137, Try.f137), (138, Try.f138), (140, Try.f140), (141, Try.f141), (143, Try.f143), (144, Try.f144), (145, Try.f145), (147, Try.f147), (148, Try.f148), (149, Try.f149), (150, Try.f150), (151, Try.f151), (163, Try.f163), (164, Try.f164), (165, Try.f165), (169, Try.f169), (172, Try.f172), (173, Try.f173), (174, Try.f174), (175, Try.f175), (176, Try.f176), (177, Try.f177), (178, Try.f178), (179, Try.f179), (181, Try.f181), (182, Try.f182), (184, Try.f184), (188, Try.f188), (191, Try.f191), (192, Try.f192), (193, Try.f193), (194, Try.f194), (195, Try.f195), (196, Try.f196), (197, Try.f197), (198, Try.f198), (199, Try.f199), (200, Try.f200), (201, Try.f201), (202, Try.f202), (203, Try.f203), (210, Try.f210), (220, Try.f220), (221, Try.f221), (222, Try.f222), (223, Try.f223), (233, Try.f233), (236, Try.f236), (237, Try.f237), (238, Try.f238), (239, Try.f239), (240, Try.f240), (256, Try.f256), (258, Try.f258)]
theorem fok8 : FOk Try.prog sh keep (8, Try.f8) := ⟨Try.func8, by kernel_rfl, by kernel_rfl⟩
theorem fok15 : FOk Try.prog sh keep (15, Try.f15) := ⟨Try.func15, by kernel_rfl, by kernel_rfl⟩
theorem fok16 : FOk Try.prog sh keep (16, Try.f16) := ⟨Try.func16, by kernel_rfl, by kernel_rfl⟩
theorem fok19 : FOk Try.prog sh keep (19, Try.f19) := ⟨Try.func19, by kernel_rfl, by kernel_rfl⟩
theorem fok20 : FOk Try.prog sh keep (20, Try.f20) := ⟨Try.func20, by kernel_rfl, by kernel_rfl⟩
theorem fok55 : FOk Try.prog sh keep (55, Try.f55) := ⟨Try.func55, by kernel_rfl, by kernel_rfl⟩
theorem fok56 : FOk Try.prog sh keep (56, Try.f56) := ⟨Try.func56, by kernel_rfl, by kernel_rfl⟩
theorem fok84 : FOk Try.prog sh keep (84, Try.f84) := ⟨Try.func84, by kernel_rfl, by kernel_rfl⟩
theorem fok85 : FOk Try.prog sh keep (85, Try.f85) := ⟨Try.func85, by kernel_rfl, by kernel_rfl⟩
theorem fok86 : FOk Try.prog sh keep (86, Try.f86) := ⟨Try.func86, by kernel_rfl, by kernel_rfl⟩
theorem fok87 : FOk Try.prog sh keep (87, Try.f87) := ⟨Try.func87, by kernel_rfl, by kernel_rfl⟩
theorem fok88 : FOk Try.prog sh keep (88, Try.f88) := ⟨Try.func88, by kernel_rfl, by kernel_rfl⟩
theorem fok89 : FOk Try.prog sh keep (89, Try.f89) := ⟨Try.func89, by kernel_rfl, by kernel_rfl⟩
theorem fok90 : FOk Try.prog sh keep (90, Try.f90) := ⟨Try.func90, by kernel_rfl, by kernel_rfl⟩
theorem fok91 : FOk Try.prog sh keep (91, Try.f91) := ⟨Try.func91, by kernel_rfl, by kernel_rfl⟩
theorem fok92 : FOk Try.prog sh keep (92, Try.f92) := ⟨Try.func92, by kernel_rfl, by kernel_rfl⟩
theorem fok93 : FOk Try.prog sh keep (93, Try.f93) := ⟨Try.func93, by kernel_rfl, by kernel_rfl⟩
theorem fok94 : FOk Try.prog sh keep (94, Try.f94) := ⟨Try.func94, by kernel_rfl, by kernel_rfl⟩
theorem fok95 : FOk Try.prog sh keep (95, Try.f95) := ⟨Try.func95, by kernel_rfl, by kernel_rfl⟩
theorem fok96 : FOk Try.prog sh keep (96, Try.f96) := ⟨Try.func96, by kernel_rfl, by kernel_rfl⟩
theorem fok97 : FOk Try.prog sh keep (97, Try.f97) := ⟨Try.func97, by kernel_rfl, by kernel_rfl⟩
theorem fok98 : FOk Try.prog sh keep (98, Try.f98) := ⟨Try.func98, by kernel_rfl, by kernel_rfl⟩
theorem fok99 : FOk Try.prog sh keep (99, Try.f99) := ⟨Try.func99, by kernel_rfl, by kernel_rfl⟩
theorem fok100 : FOk Try.prog sh keep (100, Try.f100) := ⟨Try.func100, by kernel_rfl, by kernel_rfl⟩
theorem fok101 : FOk Try.prog sh keep (101, Try.f101) := ⟨Try.func101, by kernel_rfl, by kernel_rfl⟩
theorem fok102 : FOk Try.prog sh keep (102, Try.f102) := ⟨Try.func102, by kernel_rfl, by kernel_rfl⟩
theorem fok103 : FOk Try.prog sh keep (103, Try.f103) := ⟨Try.func103, by kernel_rfl, by kernel_rfl⟩
theorem fok104 : FOk Try.prog sh keep (104, Try.f104) := ⟨Try.func104, by kernel_rfl, by kernel_rfl⟩
theorem fok105 : FOk Try.prog sh keep (105, Try.f105) := ⟨Try.func105, by kernel_rfl, by kernel_rfl⟩
theorem fok106 : FOk Try.prog sh keep (106, Try.f106) := ⟨Try.func106, by kernel_rfl, by kernel_rfl⟩
theorem fok107 : FOk Try.prog sh keep (107, Try.f107) := ⟨Try.func107, by kernel_rfl, by kernel_rfl⟩
theorem fok108 : FOk Try.prog sh keep (108, Try.f108) := ⟨Try.func108, by kernel_rfl, by kernel_rfl⟩
theorem fok109 : FOk Try.prog sh keep (109, Try.f109) := ⟨Try.func109, by kernel_rfl, by kernel_rfl⟩
theorem fok110 : FOk Try.prog sh keep (110, Try.f110) := ⟨Try.func110, by kernel_rfl, by kernel_rfl⟩
theorem fok127 : FOk Try.prog sh keep (127, Try.f127) := ⟨Try.func127, by kernel_rfl, by kernel_rfl⟩
theorem fok128 : FOk Try.prog sh keep (128, Try.f128) := ⟨Try.func128, by kernel_rfl, by kernel_rfl⟩
theorem fok130 : FOk Try.prog sh keep (130, Try.f130) := ⟨Try.func130, by kernel_rfl, by kernel_rfl⟩
theorem fok131 : FOk Try.prog sh keep (131, Try.f131) := ⟨Try.func131, by kernel_rfl, by kernel_rfl⟩
theorem fok133 : FOk Try.prog sh keep (133, Try.f133) := ⟨Try.func133, by kernel_rfl, by kernel_rfl⟩
theorem fok134 : FOk Try.prog sh keep (134, Try.f134) := ⟨Try.func134, by kernel_rfl, by kernel_rfl⟩
theorem fok135 : FOk Try.prog sh keep (135, Try.f135) := ⟨Try.func135, by kernel_rfl, by kernel_rfl⟩
theorem fok137 : FOk Try.prog sh keep (137, Try.f137) := ⟨Try.func137, by kernel_rfl, by kernel_rfl⟩
theorem fok138 : FOk Try.prog sh keep (138, Try.f138) := ⟨Try.func138, by kernel_rfl, by kernel_rfl⟩
theorem fok140 : FOk Try.prog sh keep (140, Try.f140) := ⟨Try.func140, by kernel_rfl, by kernel_rfl⟩
theorem fok141 : FOk Try.prog sh keep (141, Try.f141) := ⟨Try.func141, by kernel_rfl, by kernel_rfl⟩
theorem fok143 : FOk Try.prog sh keep (143, Try.f143) := ⟨Try.func143, by kernel_rfl, by kernel_rfl⟩
theorem fok144 : FOk Try.prog sh keep (144, Try.f144) := ⟨Try.func144, by kernel_rfl, by kernel_rfl⟩
theorem fok145 : FOk Try.prog sh keep (145, Try.f145) := ⟨Try.func145, by kernel_rfl, by kernel_rfl⟩
theorem fok147 : FOk Try.prog sh keep (147, Try.f147) := ⟨Try.func147, by kernel_rfl, by kernel_rfl⟩
theorem fok148 : FOk Try.prog sh keep (148, Try.f148) := ⟨Try.func148, by kernel_rfl, by kernel_rfl⟩
theorem fok149 : FOk Try.prog sh keep (149, Try.f149) := ⟨Try.func149, by kernel_rfl, by kernel_rfl⟩
theorem fok150 : FOk Try.prog sh keep (150, Try.f150) := ⟨Try.func150, by kernel_rfl, by kernel_rfl⟩
theorem fok151 : FOk Try.prog sh keep (151, Try.f151) := ⟨Try.func151, by kernel_rfl, by kernel_rfl⟩
theorem fok163 : FOk Try.prog sh keep (163, Try.f163) := ⟨Try.func163, by kernel_rfl, by kernel_rfl⟩
theorem fok164 : FOk Try.prog sh keep (164, Try.f164) := ⟨Try.func164, by kernel_rfl, by kernel_rfl⟩
theorem fok165 : FOk Try.prog sh keep (165, Try.f165) := ⟨Try.func165, by kernel_rfl, by kernel_rfl⟩
theorem fok169 : FOk Try.prog sh keep (169, Try.f169) := ⟨Try.func169, by kernel_rfl, by kernel_rfl⟩
theorem fok172 : FOk Try.prog sh keep (172, Try.f172) := ⟨Try.func172, by kernel_rfl, by kernel_rfl⟩
theorem fok173 : FOk Try.prog sh keep (173, Try.f173) := ⟨Try.func173, by kernel_rfl, by kernel_rfl⟩
theorem fok174 : FOk Try.prog sh keep (174, Try.f174) := ⟨Try.func174, by kernel_rfl, by kernel_rfl⟩
theorem fok175 : FOk Try.prog sh keep (175, Try.f175) := ⟨Try.func175, by kernel_rfl, by kernel_rfl⟩
theorem fok176 : FOk Try.prog sh keep (176, Try.f176) := ⟨Try.func176, by kernel_rfl, by kernel_rfl⟩
theorem fok177 : FOk Try.prog sh keep (177, Try.f177) := ⟨Try.func177, by kernel_rfl, by kernel_rfl⟩
theorem fok178 : FOk Try.prog sh keep (178, Try.f178) := ⟨Try.func178, by kernel_rfl, by kernel_rfl⟩
theorem fok179 : FOk Try.prog sh keep (179, Try.f179) := ⟨Try.func179, by kernel_rfl, by kernel_rfl⟩
theorem fok181 : FOk Try.prog sh keep (181, Try.f181) := ⟨Try.func181, by kernel_rfl, by kernel_rfl⟩
theorem fok182 : FOk Try.prog sh keep (182, Try.f182) := ⟨Try.func182, by kernel_rfl, by kernel_rfl⟩
theorem fok184 : FOk Try.prog sh keep (184, Try.f184) := ⟨Try.func184, by kernel_rfl, by kernel_rfl⟩
theorem fok188 : FOk Try.prog sh keep (188, Try.f188) := ⟨Try.func188, by kernel_rfl, by kernel_rfl⟩
theorem fok191 : FOk Try.prog sh keep (191, Try.f191) := ⟨Try.func191, by kernel_rfl, by kernel_rfl⟩
theorem fok192 : FOk Try.prog sh keep (192, Try.f192) := ⟨Try.func192, by kernel_rfl, by kernel_rfl⟩
theorem fok193 : FOk Try.prog sh keep (193, Try.f193) := ⟨Try.func193, by kernel_rfl, by kernel_rfl⟩
theorem fok194 : FOk Try.prog sh keep (194, Try.f194) := ⟨Try.func194, by kernel_rfl, by kernel_rfl⟩
theorem fok195 : FOk Try.prog sh keep (195, Try.f195) := ⟨Try.func195, by kernel_rfl, by kernel_rfl⟩
theorem fok196 : FOk Try.prog sh keep (196, Try.f196) := ⟨Try.func196, by kernel_rfl, by kernel_rfl⟩
theorem fok197 : FOk Try.prog sh keep (197, Try.f197) := ⟨Try.func197, by kernel_rfl, by kernel_rfl⟩
theorem fok198 : FOk Try.prog sh keep (198, Try.f198) := ⟨Try.func198, by kernel_rfl, by kernel_rfl⟩
theorem fok199 : FOk Try.prog sh keep (199, Try.f199) := ⟨Try.func199, by kernel_rfl, by kernel_rfl⟩
theorem fok200 : FOk Try.prog sh keep (200, Try.f200) := ⟨Try.func200, by kernel_rfl, by kernel_rfl⟩
theorem fok201 : FOk Try.prog sh keep (201, Try.f201) := ⟨Try.func201, by kernel_rfl, by kernel_rfl⟩
theorem fok202 : FOk Try.prog sh keep (202, Try.f202) := ⟨Try.func202, by kernel_rfl, by kernel_rfl⟩
theorem fok203 : FOk Try.prog sh keep (203, Try.f203) := ⟨Try.func203, by kernel_rfl, by kernel_rfl⟩
theorem fok210 : FOk Try.prog sh keep (210, Try.f210) := ⟨Try.func210, by kernel_rfl, by kernel_rfl⟩
theorem fok220 : FOk Try.prog sh keep (220, Try.f220) := ⟨Try.func220, by kernel_rfl, by kernel_rfl⟩
theorem fok221 : FOk Try.prog sh keep (221, Try.f221) := ⟨Try.func221, by kernel_rfl, by kernel_rfl⟩
theorem fok222 : FOk Try.prog sh keep (222, Try.f222) := ⟨Try.func222, by kernel_rfl, by kernel_rfl⟩
theorem fok223 : FOk Try.prog sh keep (223, Try.f223) := ⟨Try.func223, by kernel_rfl, by kernel_rfl⟩
theorem fok233 : FOk Try.prog sh keep (233, Try.f233) := ⟨Try.func233, by kernel_rfl, by kernel_rfl⟩
theorem fok236 : FOk Try.prog sh keep (236, Try.f236) := ⟨Try.func236, by kernel_rfl, by kernel_rfl⟩
theorem fok237 : FOk Try.prog sh keep (237, Try.f237) := ⟨Try.func237, by kernel_rfl, by kernel_rfl⟩
theorem fok238 : FOk Try.prog sh keep (238, Try.f238) := ⟨Try.func238, by kernel_rfl, by kernel_rfl⟩
theorem fok239 : FOk Try.prog sh keep (239, Try.f239) := ⟨Try.func239, by kernel_rfl, by kernel_rfl⟩
theorem fok240 : FOk Try.prog sh keep (240, Try.f240) := ⟨Try.func240, by kernel_rfl, by kernel_rfl⟩
theorem fok256 : FOk Try.prog sh keep (256, Try.f256) := ⟨Try.func256, by kernel_rfl, by kernel_rfl⟩
theorem fok258 : FOk Try.prog sh keep (258, Try.f258) := ⟨Try.func258, by kernel_rfl, by kernel_rfl⟩
theorem fokAll : ∀ p ∈ rowsF, FOk Try.prog sh keep p :=
  fOk_cons fok8 (fOk_cons fok15 (fOk_cons fok16 (fOk_cons fok19 (fOk_cons fok20 (fOk_cons fok55 (fOk_cons fok56 (fOk_cons fok84 (fOk_cons fok85 (fOk_cons fok86 (fOk_cons fok87 (fOk_cons fok88 (fOk_cons fok89 (fOk_cons fok90 (fOk_cons fok91 (fOk_cons fok92 (fOk_cons fok93 (fOk_cons fok94 (fOk_cons fok95 (fOk_cons fok96 (fOk_cons fok97 (fOk_cons fok98 (fOk_cons fok99 (fOk_cons fok100 (fOk_cons fok101 (fOk_cons fok102 (fOk_cons fok103 (fOk_cons fok104 (fOk_cons fok105 (fOk_cons fok106 (fOk_cons fok107 (fOk_cons fok108 (fOk_cons fok109 (fOk_cons fok110 (fOk_cons fok127 (fOk_cons fok128 (fOk_cons fok130 (fOk_cons fok131 (fOk_cons fok133 (fOk_cons fok134 (fOk_cons fok135 (fOk_cons fok137 (fOk_cons fok138 (fOk_cons fok140 (fOk_cons fok141 (fOk_cons fok143 (fOk_cons fok144 (fOk_cons fok145 (fOk_cons fok147 (fOk_cons fok148 (fOk_cons fok149 (fOk_cons fok150 (fOk_cons fok151 (fOk_cons fok163 (fOk_cons fok164 (fOk_cons fok165 (fOk_cons fok169 (fOk_cons fok172 (fOk_cons fok173 (fOk_cons fok174 (fOk_cons fok175 (fOk_cons fok176 (fOk_cons fok177 (fOk_cons fok178 (fOk_cons fok179 (fOk_cons fok181 (fOk_cons fok182 (fOk_cons fok184 (fOk_cons fok188 (fOk_cons fok191 (fOk_cons fok192 (fOk_cons fok193 (fOk_cons fok194 (fOk_cons fok195 (fOk_cons fok196 (fOk_cons fok197 (fOk_cons fok198 (fOk_cons fok199 (fOk_cons fok200 (fOk_cons fok201 (fOk_cons fok202 (fOk_cons fok203 (fOk_cons fok210 (fOk_cons fok220 (fOk_cons fok221 (fOk_cons fok222 (fOk_cons fok223 (fOk_cons fok233 (fOk_cons fok236 (fOk_cons fok237 (fOk_cons fok238 (fOk_cons fok239 (fOk_cons fok240 (fOk_cons fok256 (fOk_cons fok258 fOk_nil))))))))))))))))))))))))))))))))))))))))))))))))))))))))))))))))))))))))))))))))))))))))))))))
theorem tokAll : rowsT.all (tiR Try.prog) = true := by kernel_rfl
noncomputable def F : FuncId → Option Func := findL rowsF
noncomputable def CN (L n : Nat) : CF := callF T F sh keep L n
theorem cn_sound (L n : Nat) : CSound Try.prog (CN L n) := callF_sound tokAll fokAll (by kernel_rfl) L n
theorem spec_l1In_all (L m : Nat) : spec_l1In_ok L (CN L (m + 1)) := by
  have key : ∀ args hp, CN L (m + 1) 191 args hp = run T (CN L (m + 0)) sh (keep 191) L Try.f191 args hp := fun args hp => callF_step (F := F) (by kernel_rfl) args hp
  have h := spec_l1In_run L (CN L (m + 0))
  simpa only [spec_l1In_ok, key] using h
theorem spec_pgIs_all (L m : Nat) : spec_pgIs_ok L (CN L (m + 2)) := by
  have key : ∀ args hp, CN L (m + 2) 131 args hp = run T (CN L (m + 1)) sh (keep 131) L Try.f131 args hp := fun args hp => callF_step (F := F) (by kernel_rfl) args hp
  have h := spec_pgIs_run L (CN L (m + 1)) (spec_l1In_all L (m + 0))
  simpa only [spec_pgIs_ok, key] using h
theorem spec_pgTurn_all (L m : Nat) : spec_pgTurn_ok L (CN L (m + 1)) := by
  have key : ∀ args hp, CN L (m + 1) 221 args hp = run T (CN L (m + 0)) sh (keep 221) L Try.f221 args hp := fun args hp => callF_step (F := F) (by kernel_rfl) args hp
  have h := spec_pgTurn_run L (CN L (m + 0))
  simpa only [spec_pgTurn_ok, key] using h
theorem spec_pgOn_all (L m : Nat) : spec_pgOn_ok L (CN L (m + 2)) := by
  have key : ∀ args hp, CN L (m + 2) 223 args hp = run T (CN L (m + 1)) sh (keep 223) L Try.f223 args hp := fun args hp => callF_step (F := F) (by kernel_rfl) args hp
  have h := spec_pgOn_run L (CN L (m + 1)) (spec_pgTurn_all L (m + 0))
  simpa only [spec_pgOn_ok, key] using h
theorem spec_l1Sign_all (L m : Nat) : spec_l1Sign_ok L (CN L (m + 1)) := by
  have key : ∀ args hp, CN L (m + 1) 198 args hp = run T (CN L (m + 0)) sh (keep 198) L Try.f198 args hp := fun args hp => callF_step (F := F) (by kernel_rfl) args hp
  have h := spec_l1Sign_run L (CN L (m + 0))
  simpa only [spec_l1Sign_ok, key] using h
theorem spec_pgMeet_all (L m : Nat) : spec_pgMeet_ok L (CN L (m + 3)) := by
  have key : ∀ args hp, CN L (m + 3) 236 args hp = run T (CN L (m + 2)) sh (keep 236) L Try.f236 args hp := fun args hp => callF_step (F := F) (by kernel_rfl) args hp
  have h := spec_pgMeet_run L (CN L (m + 2)) (spec_pgTurn_all L (m + 1)) (spec_pgOn_all L (m + 0)) (spec_l1Sign_all L (m + 1))
  simpa only [spec_pgMeet_ok, key] using h
theorem spec_pgGood_all (L m : Nat) : spec_pgGood_ok L (CN L (m + 4)) := by
  have key : ∀ args hp, CN L (m + 4) 164 args hp = run T (CN L (m + 3)) sh (keep 164) L Try.f164 args hp := fun args hp => callF_step (F := F) (by kernel_rfl) args hp
  have h := spec_pgGood_run L (CN L (m + 3)) (spec_l1In_all L (m + 2)) (spec_pgIs_all L (m + 1)) (spec_pgTurn_all L (m + 2)) (spec_pgMeet_all L (m + 0))
  simpa only [spec_pgGood_ok, key] using h
theorem spec_pgArea_all (L m : Nat) : spec_pgArea_ok L (CN L (m + 2)) := by
  have key : ∀ args hp, CN L (m + 2) 145 args hp = run T (CN L (m + 1)) sh (keep 145) L Try.f145 args hp := fun args hp => callF_step (F := F) (by kernel_rfl) args hp
  have h := spec_pgArea_run L (CN L (m + 1)) (spec_pgTurn_all L (m + 0))
  simpa only [spec_pgArea_ok, key] using h
theorem spec_l1Most_all (L m : Nat) : spec_l1Most_ok L (CN L (m + 1)) := by
  have key : ∀ args hp, CN L (m + 1) 197 args hp = run T (CN L (m + 0)) sh (keep 197) L Try.f197 args hp := fun args hp => callF_step (F := F) (by kernel_rfl) args hp
  have h := spec_l1Most_run L (CN L (m + 0))
  simpa only [spec_l1Most_ok, key] using h
theorem spec_l1Abs_all (L m : Nat) : spec_l1Abs_ok L (CN L (m + 2)) := by
  have key : ∀ args hp, CN L (m + 2) 148 args hp = run T (CN L (m + 1)) sh (keep 148) L Try.f148 args hp := fun args hp => callF_step (F := F) (by kernel_rfl) args hp
  have h := spec_l1Abs_run L (CN L (m + 1)) (spec_l1Most_all L (m + 0))
  simpa only [spec_l1Abs_ok, key] using h
theorem spec_pgCommon_all (L m : Nat) : spec_pgCommon_ok L (CN L (m + 3)) := by
  have key : ∀ args hp, CN L (m + 3) 195 args hp = run T (CN L (m + 2)) sh (keep 195) L Try.f195 args hp := fun args hp => callF_step (F := F) (by kernel_rfl) args hp
  have h := spec_pgCommon_run L (CN L (m + 2)) (spec_l1Abs_all L (m + 0))
  simpa only [spec_pgCommon_ok, key] using h
theorem spec_pgStep_all (L m : Nat) : spec_pgStep_ok L (CN L (m + 4)) := by
  have key : ∀ args hp, CN L (m + 4) 220 args hp = run T (CN L (m + 3)) sh (keep 220) L Try.f220 args hp := fun args hp => callF_step (F := F) (by kernel_rfl) args hp
  have h := spec_pgStep_run L (CN L (m + 3)) (spec_pgCommon_all L (m + 0))
  simpa only [spec_pgStep_ok, key] using h
theorem spec_pgRound_all (L m : Nat) : spec_pgRound_ok L (CN L (m + 5)) := by
  have key : ∀ args hp, CN L (m + 5) 165 args hp = run T (CN L (m + 4)) sh (keep 165) L Try.f165 args hp := fun args hp => callF_step (F := F) (by kernel_rfl) args hp
  have h := spec_pgRound_run L (CN L (m + 4)) (spec_pgStep_all L (m + 0))
  simpa only [spec_pgRound_ok, key] using h
theorem spec_pgInside_all (L m : Nat) : spec_pgInside_ok L (CN L (m + 6)) := by
  have key : ∀ args hp, CN L (m + 6) 150 args hp = run T (CN L (m + 5)) sh (keep 150) L Try.f150 args hp := fun args hp => callF_step (F := F) (by kernel_rfl) args hp
  have h := spec_pgInside_run L (CN L (m + 5)) (spec_pgArea_all L (m + 3)) (spec_l1Abs_all L (m + 3)) (spec_pgRound_all L (m + 0))
  simpa only [spec_pgInside_ok, key] using h
theorem spec_pgBack_all (L m : Nat) : spec_pgBack_ok L (CN L (m + 1)) := by
  have key : ∀ args hp, CN L (m + 1) 169 args hp = run T (CN L (m + 0)) sh (keep 169) L Try.f169 args hp := fun args hp => callF_step (F := F) (by kernel_rfl) args hp
  have h := spec_pgBack_run L (CN L (m + 0))
  simpa only [spec_pgBack_ok, key] using h
theorem impl_within_all (L m : Nat) : impl_within_ok L (CN L (m + 1)) := by
  have key : ∀ args hp, CN L (m + 1) 134 args hp = run T (CN L (m + 0)) sh (keep 134) L Try.f134 args hp := fun args hp => callF_step (F := F) (by kernel_rfl) args hp
  have h := impl_within_run L (CN L (m + 0))
  simpa only [impl_within_ok, key] using h
theorem impl_IsPeg_all (L m : Nat) : impl_IsPeg_ok L (CN L (m + 2)) := by
  have key : ∀ args hp, CN L (m + 2) 128 args hp = run T (CN L (m + 1)) sh (keep 128) L Try.f128 args hp := fun args hp => callF_step (F := F) (by kernel_rfl) args hp
  have h := impl_IsPeg_run L (CN L (m + 1)) (impl_within_all L (m + 0))
  simpa only [impl_IsPeg_ok, key] using h
theorem impl_arePegs_1_all (L m : Nat) : impl_arePegs_1_ok L (CN L (m + 3)) := by
  have key : ∀ args hp, CN L (m + 3) 238 args hp = run T (CN L (m + 2)) sh (keep 238) L Try.f238 args hp := fun args hp => callF_step (F := F) (by kernel_rfl) args hp
  have h := impl_arePegs_1_run L (CN L (m + 2)) (impl_IsPeg_all L (m + 0))
  simpa only [impl_arePegs_1_ok, key] using h
theorem slices_IndexFunc_impl_Peg_impl_Peg_arePegs_all (L m : Nat) : slices_IndexFunc_impl_Peg_impl_Peg_arePegs_ok L (CN L (m + 4)) := by
  have key : ∀ args hp, CN L (m + 4) 258 args hp = run T (CN L (m + 3)) sh (keep 258) L Try.f258 args hp := fun args hp => callF_step (F := F) (by kernel_rfl) args hp
  have h := slices_IndexFunc_impl_Peg_impl_Peg_arePegs_run L (CN L (m + 3)) (impl_arePegs_1_all L (m + 0))
  simpa only [slices_IndexFunc_impl_Peg_impl_Peg_arePegs_ok, key] using h
theorem slices_ContainsFunc_impl_Peg_impl_Peg_arePegs_all (L m : Nat) : slices_ContainsFunc_impl_Peg_impl_Peg_arePegs_ok L (CN L (m + 5)) := by
  have key : ∀ args hp, CN L (m + 5) 237 args hp = run T (CN L (m + 4)) sh (keep 237) L Try.f237 args hp := fun args hp => callF_step (F := F) (by kernel_rfl) args hp
  have h := slices_ContainsFunc_impl_Peg_impl_Peg_arePegs_run L (CN L (m + 4)) (slices_IndexFunc_impl_Peg_impl_Peg_arePegs_all L (m + 0))
  simpa only [slices_ContainsFunc_impl_Peg_impl_Peg_arePegs_ok, key] using h
theorem impl_arePegs_all (L m : Nat) : impl_arePegs_ok L (CN L (m + 6)) := by
  have key : ∀ args hp, CN L (m + 6) 172 args hp = run T (CN L (m + 5)) sh (keep 172) L Try.f172 args hp := fun args hp => callF_step (F := F) (by kernel_rfl) args hp
  have h := impl_arePegs_run L (CN L (m + 5)) (slices_ContainsFunc_impl_Peg_impl_Peg_arePegs_all L (m + 0))
  simpa only [impl_arePegs_ok, key] using h
theorem slices_Index_impl_Peg_impl_Peg_all (L m : Nat) : slices_Index_impl_Peg_impl_Peg_ok L (CN L (m + 1)) := by
  have key : ∀ args hp, CN L (m + 1) 239 args hp = run T (CN L (m + 0)) sh (keep 239) L Try.f239 args hp := fun args hp => callF_step (F := F) (by kernel_rfl) args hp
  have h := slices_Index_impl_Peg_impl_Peg_run L (CN L (m + 0))
  simpa only [slices_Index_impl_Peg_impl_Peg_ok, key] using h
theorem slices_Contains_impl_Peg_impl_Peg_all (L m : Nat) : slices_Contains_impl_Peg_impl_Peg_ok L (CN L (m + 2)) := by
  have key : ∀ args hp, CN L (m + 2) 173 args hp = run T (CN L (m + 1)) sh (keep 173) L Try.f173 args hp := fun args hp => callF_step (F := F) (by kernel_rfl) args hp
  have h := slices_Contains_impl_Peg_impl_Peg_run L (CN L (m + 1)) (slices_Index_impl_Peg_impl_Peg_all L (m + 0))
  simpa only [slices_Contains_impl_Peg_impl_Peg_ok, key] using h
theorem impl_at_all (L m : Nat) : impl_at_ok L (CN L (m + 1)) := by
  have key : ∀ args hp, CN L (m + 1) 175 args hp = run T (CN L (m + 0)) sh (keep 175) L Try.f175 args hp := fun args hp => callF_step (F := F) (by kernel_rfl) args hp
  have h := impl_at_run L (CN L (m + 0))
  simpa only [impl_at_ok, key] using h
theorem impl_Peg_less_all (L m : Nat) : impl_Peg_less_ok L (CN L (m + 1)) := by
  have key : ∀ args hp, CN L (m + 1) 199 args hp = run T (CN L (m + 0)) sh (keep 199) L Try.f199 args hp := fun args hp => callF_step (F := F) (by kernel_rfl) args hp
  have h := impl_Peg_less_run L (CN L (m + 0))
  simpa only [impl_Peg_less_ok, key] using h
theorem impl_cross_all (L m : Nat) : impl_cross_ok L (CN L (m + 1)) := by
  have key : ∀ args hp, CN L (m + 1) 202 args hp = run T (CN L (m + 0)) sh (keep 202) L Try.f202 args hp := fun args hp => callF_step (F := F) (by kernel_rfl) args hp
  have h := impl_cross_run L (CN L (m + 0))
  simpa only [impl_cross_ok, key] using h
theorem impl_turn_all (L m : Nat) : impl_turn_ok L (CN L (m + 2)) := by
  have key : ∀ args hp, CN L (m + 2) 174 args hp = run T (CN L (m + 1)) sh (keep 174) L Try.f174 args hp := fun args hp => callF_step (F := F) (by kernel_rfl) args hp
  have h := impl_turn_run L (CN L (m + 1)) (impl_Peg_less_all L (m + 0)) (impl_cross_all L (m + 0))
  simpa only [impl_turn_ok, key] using h
theorem impl_sign_all (L m : Nat) : impl_sign_ok L (CN L (m + 1)) := by
  have key : ∀ args hp, CN L (m + 1) 196 args hp = run T (CN L (m + 0)) sh (keep 196) L Try.f196 args hp := fun args hp => callF_step (F := F) (by kernel_rfl) args hp
  have h := impl_sign_run L (CN L (m + 0))
  simpa only [impl_sign_ok, key] using h
theorem impl_isOn_all (L m : Nat) : impl_isOn_ok L (CN L (m + 3)) := by
  have key : ∀ args hp, CN L (m + 3) 179 args hp = run T (CN L (m + 2)) sh (keep 179) L Try.f179 args hp := fun args hp => callF_step (F := F) (by kernel_rfl) args hp
  have h := impl_isOn_run L (CN L (m + 2)) (impl_within_all L (m + 1)) (impl_turn_all L (m + 0))
  simpa only [impl_isOn_ok, key] using h
theorem impl_meet_all (L m : Nat) : impl_meet_ok L (CN L (m + 4)) := by
  have key : ∀ args hp, CN L (m + 4) 176 args hp = run T (CN L (m + 3)) sh (keep 176) L Try.f176 args hp := fun args hp => callF_step (F := F) (by kernel_rfl) args hp
  have h := impl_meet_run L (CN L (m + 3)) (impl_turn_all L (m + 1)) (impl_sign_all L (m + 2)) (impl_isOn_all L (m + 0))
  simpa only [impl_meet_ok, key] using h
theorem impl_IsPolygon_all (L m : Nat) : impl_IsPolygon_ok L (CN L (m + 7)) := by
  have key : ∀ args hp, CN L (m + 7) 56 args hp = run T (CN L (m + 6)) sh (keep 56) L Try.f56 args hp := fun args hp => callF_step (F := F) (by kernel_rfl) args hp
  have h := impl_IsPolygon_run L (CN L (m + 6)) (impl_within_all L (m + 5)) (impl_arePegs_all L (m + 0)) (slices_Contains_impl_Peg_impl_Peg_all L (m + 4)) (impl_at_all L (m + 5)) (impl_turn_all L (m + 4)) (impl_meet_all L (m + 2))
  simpa only [impl_IsPolygon_ok, key] using h
theorem impl_twice_all (L m : Nat) : impl_twice_ok L (CN L (m + 2)) := by
  have key : ∀ args hp, CN L (m + 2) 133 args hp = run T (CN L (m + 1)) sh (keep 133) L Try.f133 args hp := fun args hp => callF_step (F := F) (by kernel_rfl) args hp
  have h := impl_twice_run L (CN L (m + 1)) (impl_at_all L (m + 0)) (impl_cross_all L (m + 0))
  simpa only [impl_twice_ok, key] using h
theorem impl_size_all (L m : Nat) : impl_size_ok L (CN L (m + 1)) := by
  have key : ∀ args hp, CN L (m + 1) 147 args hp = run T (CN L (m + 0)) sh (keep 147) L Try.f147 args hp := fun args hp => callF_step (F := F) (by kernel_rfl) args hp
  have h := impl_size_run L (CN L (m + 0))
  simpa only [impl_size_ok, key] using h
theorem impl_divisor_all (L m : Nat) : impl_divisor_ok L (CN L (m + 2)) := by
  have key : ∀ args hp, CN L (m + 2) 194 args hp = run T (CN L (m + 1)) sh (keep 194) L Try.f194 args hp := fun args hp => callF_step (F := F) (by kernel_rfl) args hp
  have h := impl_divisor_run L (CN L (m + 1)) (impl_size_all L (m + 0))
  simpa only [impl_divisor_ok, key] using h
theorem impl_steps_all (L m : Nat) : impl_steps_ok L (CN L (m + 3)) := by
  have key : ∀ args hp, CN L (m + 3) 177 args hp = run T (CN L (m + 2)) sh (keep 177) L Try.f177 args hp := fun args hp => callF_step (F := F) (by kernel_rfl) args hp
  have h := impl_steps_run L (CN L (m + 2)) (impl_divisor_all L (m + 0))
  simpa only [impl_steps_ok, key] using h
theorem impl_around_all (L m : Nat) : impl_around_ok L (CN L (m + 4)) := by
  have key : ∀ args hp, CN L (m + 4) 151 args hp = run T (CN L (m + 3)) sh (keep 151) L Try.f151 args hp := fun args hp => callF_step (F := F) (by kernel_rfl) args hp
  have h := impl_around_run L (CN L (m + 3)) (impl_at_all L (m + 2)) (impl_steps_all L (m + 0))
  simpa only [impl_around_ok, key] using h
theorem impl_inner_all (L m : Nat) : impl_inner_ok L (CN L (m + 5)) := by
  have key : ∀ args hp, CN L (m + 5) 149 args hp = run T (CN L (m + 4)) sh (keep 149) L Try.f149 args hp := fun args hp => callF_step (F := F) (by kernel_rfl) args hp
  have h := impl_inner_run L (CN L (m + 4)) (impl_twice_all L (m + 2)) (impl_size_all L (m + 3)) (impl_around_all L (m + 0))
  simpa only [impl_inner_ok, key] using h
theorem impl_Peg_plus_all (L m : Nat) : impl_Peg_plus_ok L (CN L (m + 1)) := by
  have key : ∀ args hp, CN L (m + 1) 135 args hp = run T (CN L (m + 0)) sh (keep 135) L Try.f135 args hp := fun args hp => callF_step (F := F) (by kernel_rfl) args hp
  have h := impl_Peg_plus_run L (CN L (m + 0))
  simpa only [impl_Peg_plus_ok, key] using h
theorem impl_bezout_all (L m : Nat) : impl_bezout_ok L (CN L (m + 1)) := by
  have key : ∀ args hp, CN L (m + 1) 256 args hp = run T (CN L (m + 0)) sh (keep 256) L Try.f256 args hp := fun args hp => callF_step (F := F) (by kernel_rfl) args hp
  have h := impl_bezout_run L (CN L (m + 0))
  simpa only [impl_bezout_ok, key] using h
theorem impl_Move_bring_all (L m : Nat) : impl_Move_bring_ok L (CN L (m + 1)) := by
  have key : ∀ args hp, CN L (m + 1) 182 args hp = run T (CN L (m + 0)) sh (keep 182) L Try.f182 args hp := fun args hp => callF_step (F := F) (by kernel_rfl) args hp
  have h := impl_Move_bring_run L (CN L (m + 0))
  simpa only [impl_Move_bring_ok, key] using h
theorem impl_frame_all (L m : Nat) : impl_frame_ok L (CN L (m + 2)) := by
  have key : ∀ args hp, CN L (m + 2) 233 args hp = run T (CN L (m + 1)) sh (keep 233) L Try.f233 args hp := fun args hp => callF_step (F := F) (by kernel_rfl) args hp
  have h := impl_frame_run L (CN L (m + 1)) (impl_Peg_less_all L (m + 0)) (impl_bezout_all L (m + 0)) (impl_Move_bring_all L (m + 0))
  simpa only [impl_frame_ok, key] using h
theorem spec_trSquare_all (L m : Nat) : spec_trSquare_ok L (CN L (m + 1)) := by
  have key : ∀ args hp, CN L (m + 1) 210 args hp = run T (CN L (m + 0)) sh (keep 210) L Try.f210 args hp := fun args hp => callF_step (F := F) (by kernel_rfl) args hp
  have h := spec_trSquare_run L (CN L (m + 0))
  simpa only [spec_trSquare_ok, key] using h
theorem impl_Peg_square_all (L m : Nat) : impl_Peg_square_ok L (CN L (m + 1)) := by
  have key : ∀ args hp, CN L (m + 1) 200 args hp = run T (CN L (m + 0)) sh (keep 200) L Try.f200 args hp := fun args hp => callF_step (F := F) (by kernel_rfl) args hp
  have h := impl_Peg_square_run L (CN L (m + 0))
  simpa only [impl_Peg_square_ok, key] using h
theorem spec_l1Least_all (L m : Nat) : spec_l1Least_ok L (CN L (m + 1)) := by
  have key : ∀ args hp, CN L (m + 1) 201 args hp = run T (CN L (m + 0)) sh (keep 201) L Try.f201 args hp := fun args hp => callF_step (F := F) (by kernel_rfl) args hp
  have h := spec_l1Least_run L (CN L (m + 0))
  simpa only [spec_l1Least_ok, key] using h
theorem laws_big_all (L m : Nat) : laws_big_ok L (CN L (m + 1)) := by
  have key : ∀ args hp, CN L (m + 1) 15 args hp = run T (CN L (m + 0)) sh (keep 15) L Try.f15 args hp := fun args hp => callF_step (F := F) (by kernel_rfl) args hp
  have h := laws_big_run L (CN L (m + 0))
  simpa only [laws_big_ok, key] using h
theorem spec_l1Cur_next_all (L m : Nat) : spec_l1Cur_next_ok L (CN L (m + 1)) := by
  have key : ∀ args hp, CN L (m + 1) 222 args hp = run T (CN L (m + 0)) sh (keep 222) L Try.f222 args hp := fun args hp => callF_step (F := F) (by kernel_rfl) args hp
  have h := spec_l1Cur_next_run L (CN L (m + 0))
  simpa only [spec_l1Cur_next_ok, key] using h
theorem spec_l1Cur_pick_all (L m : Nat) : spec_l1Cur_pick_ok L (CN L (m + 2)) := by
  have key : ∀ args hp, CN L (m + 2) 140 args hp = run T (CN L (m + 1)) sh (keep 140) L Try.f140 args hp := fun args hp => callF_step (F := F) (by kernel_rfl) args hp
  have h := spec_l1Cur_pick_run L (CN L (m + 1)) (spec_l1Cur_next_all L (m + 0))
  simpa only [spec_l1Cur_pick_ok, key] using h
theorem spec_l1Cur_among_v2_all (L m : Nat) : spec_l1Cur_among_v2_ok L (CN L (m + 3)) := by
  have key : ∀ args hp, CN L (m + 3) 144 args hp = run T (CN L (m + 2)) sh (keep 144) L Try.f144 args hp := fun args hp => callF_step (F := F) (by kernel_rfl) args hp
  have h := spec_l1Cur_among_v2_run L (CN L (m + 2)) (spec_l1Cur_pick_all L (m + 0))
  simpa only [spec_l1Cur_among_v2_ok, key] using h
theorem spec_l1Cur_surePeg_all (L m : Nat) : spec_l1Cur_surePeg_ok L (CN L (m + 3)) := by
  have key : ∀ args hp, CN L (m + 3) 143 args hp = run T (CN L (m + 2)) sh (keep 143) L Try.f143 args hp := fun args hp => callF_step (F := F) (by kernel_rfl) args hp
  have h := spec_l1Cur_surePeg_run L (CN L (m + 2)) (spec_l1Cur_pick_all L (m + 0))
  simpa only [spec_l1Cur_surePeg_ok, key] using h
theorem spec_l1Cur_one_all (L m : Nat) : spec_l1Cur_one_ok L (CN L (m + 3)) := by
  have key : ∀ args hp, CN L (m + 3) 138 args hp = run T (CN L (m + 2)) sh (keep 138) L Try.f138 args hp := fun args hp => callF_step (F := F) (by kernel_rfl) args hp
  have h := spec_l1Cur_one_run L (CN L (m + 2)) (spec_l1Cur_pick_all L (m + 0))
  simpa only [spec_l1Cur_one_ok, key] using h
theorem spec_l1Cur_surePolygon_all (L m : Nat) : spec_l1Cur_surePolygon_ok L (CN L (m + 5)) := by
  have key : ∀ args hp, CN L (m + 5) 240 args hp = run T (CN L (m + 4)) sh (keep 240) L Try.f240 args hp := fun args hp => callF_step (F := F) (by kernel_rfl) args hp
  have h := spec_l1Cur_surePolygon_run L (CN L (m + 4)) (spec_pgGood_all L (m + 0)) (spec_pgBack_all L (m + 3)) (spec_l1Cur_pick_all L (m + 2)) (spec_l1Cur_surePeg_all L (m + 1)) (spec_l1Cur_one_all L (m + 1))
  simpa only [spec_l1Cur_surePolygon_ok, key] using h
theorem spec_l1Cur_peg_all (L m : Nat) : spec_l1Cur_peg_ok L (CN L (m + 4)) := by
  have key : ∀ args hp, CN L (m + 4) 141 args hp = run T (CN L (m + 3)) sh (keep 141) L Try.f141 args hp := fun args hp => callF_step (F := F) (by kernel_rfl) args hp
  have h := spec_l1Cur_peg_run L (CN L (m + 3)) (spec_l1Cur_among_v2_all L (m + 0)) (spec_l1Cur_surePeg_all L (m + 0)) (spec_l1Cur_one_all L (m + 0))
  simpa only [spec_l1Cur_peg_ok, key] using h
theorem spec_l1Cur_polygon_all (L m : Nat) : spec_l1Cur_polygon_ok L (CN L (m + 6)) := by
  have key : ∀ args hp, CN L (m + 6) 178 args hp = run T (CN L (m + 5)) sh (keep 178) L Try.f178 args hp := fun args hp => callF_step (F := F) (by kernel_rfl) args hp
  have h := spec_l1Cur_polygon_run L (CN L (m + 5)) (spec_l1Cur_pick_all L (m + 3)) (spec_l1Cur_surePolygon_all L (m + 0)) (spec_l1Cur_peg_all L (m + 1))
  simpa only [spec_l1Cur_polygon_ok, key] using h
theorem impl_GrowThree_1_v2_all (L m : Nat) : impl_GrowThree_1_v2_ok L (CN L (m + 2)) := by
  have key : ∀ args hp, CN L (m + 2) 203 args hp = run T (CN L (m + 1)) sh (keep 203) L Try.f203 args hp := fun args hp => callF_step (F := F) (by kernel_rfl) args hp
  have h := impl_GrowThree_1_v2_run L (CN L (m + 1)) (impl_Peg_less_all L (m + 0)) (impl_Peg_plus_all L (m + 0))
  simpa only [impl_GrowThree_1_v2_ok, key] using h
theorem impl_changed_impl_GrowThree_1_all (L m : Nat) : impl_changed_impl_GrowThree_1_ok L (CN L (m + 8)) := by
  have key : ∀ args hp, CN L (m + 8) 181 args hp = run T (CN L (m + 7)) sh (keep 181) L Try.f181 args hp := fun args hp => callF_step (F := F) (by kernel_rfl) args hp
  have h := impl_changed_impl_GrowThree_1_run L (CN L (m + 7)) (impl_arePegs_all L (m + 1)) (impl_IsPolygon_all L (m + 0)) (impl_GrowThree_1_v2_all L (m + 5))
  simpa only [impl_changed_impl_GrowThree_1_ok, key] using h
theorem spec_pgMap_all (L m : Nat) : spec_pgMap_ok L (CN L (m + 3)) := by
  have key : ∀ args hp, CN L (m + 3) 184 args hp = run T (CN L (m + 2)) sh (keep 184) L Try.f184 args hp := fun args hp => callF_step (F := F) (by kernel_rfl) args hp
  have h := spec_pgMap_run L (CN L (m + 2)) (spec_pgIs_all L (m + 0))
  simpa only [spec_pgMap_ok, key] using h
theorem laws_zPegs_all (L m : Nat) : laws_zPegs_ok L (CN L (m + 1)) := by
  have key : ∀ args hp, CN L (m + 1) 55 args hp = run T (CN L (m + 0)) sh (keep 55) L Try.f55 args hp := fun args hp => callF_step (F := F) (by kernel_rfl) args hp
  have h := laws_zPegs_run L (CN L (m + 0))
  simpa only [laws_zPegs_ok, key] using h
theorem impl_TwiceArea_all (L m : Nat) : impl_TwiceArea_ok L (CN L (m + 8)) := by
  have key : ∀ args hp, CN L (m + 8) 20 args hp = run T (CN L (m + 7)) sh (keep 20) L Try.f20 args hp := fun args hp => callF_step (F := F) (by kernel_rfl) args hp
  have h := impl_TwiceArea_run L (CN L (m + 7)) (impl_IsPolygon_all L (m + 0)) (impl_twice_all L (m + 5))
  simpa only [impl_TwiceArea_ok, key] using h
theorem spec_mvPeg_all (L m : Nat) : spec_mvPeg_ok L (CN L (m + 1)) := by
  have key : ∀ args hp, CN L (m + 1) 188 args hp = run T (CN L (m + 0)) sh (keep 188) L Try.f188 args hp := fun args hp => callF_step (F := F) (by kernel_rfl) args hp
  have h := spec_mvPeg_run L (CN L (m + 0))
  simpa only [spec_mvPeg_ok, key] using h
theorem spec_l1Cur_three_all (L m : Nat) : spec_l1Cur_three_ok L (CN L (m + 7)) := by
  have key : ∀ args hp, CN L (m + 7) 137 args hp = run T (CN L (m + 6)) sh (keep 137) L Try.f137 args hp := fun args hp => callF_step (F := F) (by kernel_rfl) args hp
  have h := spec_l1Cur_three_run L (CN L (m + 6)) (spec_l1Cur_pick_all L (m + 4)) (spec_l1Cur_surePeg_all L (m + 3)) (spec_l1Cur_one_all L (m + 3)) (spec_l1Cur_polygon_all L (m + 0))
  simpa only [spec_l1Cur_three_ok, key] using h
theorem spec_DrawInCircle_all (L m : Nat) : spec_DrawInCircle_ok L (CN L (m + 8)) := by
  have key : ∀ args hp, CN L (m + 8) 108 args hp = run T (CN L (m + 7)) sh (keep 108) L Try.f108 args hp := fun args hp => callF_step (F := F) (by kernel_rfl) args hp
  have h := spec_DrawInCircle_run L (CN L (m + 7)) (spec_l1Cur_pick_all L (m + 5)) (spec_l1Cur_one_all L (m + 4)) (spec_l1Cur_peg_all L (m + 3)) (spec_l1Cur_three_all L (m + 0))
  simpa only [spec_DrawInCircle_ok, key] using h
theorem spec_DrawPartsOfPeg_all (L m : Nat) : spec_DrawPartsOfPeg_ok L (CN L (m + 9)) := by
  have key : ∀ args hp, CN L (m + 9) 16 args hp = run T (CN L (m + 8)) sh (keep 16) L Try.f16 args hp := fun args hp => callF_step (F := F) (by kernel_rfl) args hp
  have h := spec_DrawPartsOfPeg_run L (CN L (m + 8)) (spec_DrawInCircle_all L (m + 0))
  simpa only [spec_DrawPartsOfPeg_ok, key] using h
theorem impl_isThree_all (L m : Nat) : impl_isThree_ok L (CN L (m + 8)) := by
  have key : ∀ args hp, CN L (m + 8) 127 args hp = run T (CN L (m + 7)) sh (keep 127) L Try.f127 args hp := fun args hp => callF_step (F := F) (by kernel_rfl) args hp
  have h := impl_isThree_run L (CN L (m + 7)) (impl_IsPolygon_all L (m + 0))
  simpa only [impl_isThree_ok, key] using h
theorem spec_trThree_all (L m : Nat) : spec_trThree_ok L (CN L (m + 5)) := by
  have key : ∀ args hp, CN L (m + 5) 130 args hp = run T (CN L (m + 4)) sh (keep 130) L Try.f130 args hp := fun args hp => callF_step (F := F) (by kernel_rfl) args hp
  have h := spec_trThree_run L (CN L (m + 4)) (spec_pgGood_all L (m + 0))
  simpa only [spec_trThree_ok, key] using h
theorem laws_zSame_all (L m : Nat) : laws_zSame_ok L (CN L (m + 1)) := by
  have key : ∀ args hp, CN L (m + 1) 19 args hp = run T (CN L (m + 0)) sh (keep 19) L Try.f19 args hp := fun args hp => callF_step (F := F) (by kernel_rfl) args hp
  have h := laws_zSame_run L (CN L (m + 0))
  simpa only [laws_zSame_ok, key] using h
theorem spec_DrawSidesOfThree_all (L m : Nat) : spec_DrawSidesOfThree_ok L (CN L (m + 8)) := by
  have key : ∀ args hp, CN L (m + 8) 84 args hp = run T (CN L (m + 7)) sh (keep 84) L Try.f84 args hp := fun args hp => callF_step (F := F) (by kernel_rfl) args hp
  have h := spec_DrawSidesOfThree_run L (CN L (m + 7)) (spec_l1Cur_three_all L (m + 0))
  simpa only [spec_DrawSidesOfThree_ok, key] using h
theorem impl_sides_all (L m : Nat) : impl_sides_ok L (CN L (m + 2)) := by
  have key : ∀ args hp, CN L (m + 2) 192 args hp = run T (CN L (m + 1)) sh (keep 192) L Try.f192 args hp := fun args hp => callF_step (F := F) (by kernel_rfl) args hp
  have h := impl_sides_run L (CN L (m + 1)) (impl_Peg_less_all L (m + 0)) (impl_Peg_square_all L (m + 0))
  simpa only [impl_sides_ok, key] using h
theorem impl_SidesOfThree_all (L m : Nat) : impl_SidesOfThree_ok L (CN L (m + 9)) := by
  have key : ∀ args hp, CN L (m + 9) 85 args hp = run T (CN L (m + 8)) sh (keep 85) L Try.f85 args hp := fun args hp => callF_step (F := F) (by kernel_rfl) args hp
  have h := impl_SidesOfThree_run L (CN L (m + 8)) (impl_isThree_all L (m + 0)) (impl_sides_all L (m + 6))
  simpa only [impl_SidesOfThree_ok, key] using h
theorem spec_trSides_all (L m : Nat) : spec_trSides_ok L (CN L (m + 2)) := by
  have key : ∀ args hp, CN L (m + 2) 193 args hp = run T (CN L (m + 1)) sh (keep 193) L Try.f193 args hp := fun args hp => callF_step (F := F) (by kernel_rfl) args hp
  have h := spec_trSides_run L (CN L (m + 1)) (spec_trSquare_all L (m + 0))
  simpa only [spec_trSides_ok, key] using h
theorem spec_SidesOfThree_all (L m : Nat) : spec_SidesOfThree_ok L (CN L (m + 6)) := by
  have key : ∀ args hp, CN L (m + 6) 86 args hp = run T (CN L (m + 5)) sh (keep 86) L Try.f86 args hp := fun args hp => callF_step (F := F) (by kernel_rfl) args hp
  have h := spec_SidesOfThree_run L (CN L (m + 5)) (spec_trThree_all L (m + 0)) (spec_trSides_all L (m + 3))
  simpa only [spec_SidesOfThree_ok, key] using h
theorem impl_HeightsOfThree_all (L m : Nat) : impl_HeightsOfThree_ok L (CN L (m + 9)) := by
  have key : ∀ args hp, CN L (m + 9) 87 args hp = run T (CN L (m + 8)) sh (keep 87) L Try.f87 args hp := fun args hp => callF_step (F := F) (by kernel_rfl) args hp
  have h := impl_HeightsOfThree_run L (CN L (m + 8)) (impl_twice_all L (m + 6)) (impl_divisor_all L (m + 6)) (impl_isThree_all L (m + 0)) (impl_sides_all L (m + 6))
  simpa only [impl_HeightsOfThree_ok, key] using h
theorem spec_HeightsOfThree_all (L m : Nat) : spec_HeightsOfThree_ok L (CN L (m + 6)) := by
  have key : ∀ args hp, CN L (m + 6) 88 args hp = run T (CN L (m + 5)) sh (keep 88) L Try.f88 args hp := fun args hp => callF_step (F := F) (by kernel_rfl) args hp
  have h := spec_HeightsOfThree_run L (CN L (m + 5)) (spec_pgArea_all L (m + 3)) (spec_pgCommon_all L (m + 2)) (spec_trThree_all L (m + 0)) (spec_trSides_all L (m + 3))
  simpa only [spec_HeightsOfThree_ok, key] using h
theorem impl_AngleKind_all (L m : Nat) : impl_AngleKind_ok L (CN L (m + 9)) := by
  have key : ∀ args hp, CN L (m + 9) 89 args hp = run T (CN L (m + 8)) sh (keep 89) L Try.f89 args hp := fun args hp => callF_step (F := F) (by kernel_rfl) args hp
  have h := impl_AngleKind_run L (CN L (m + 8)) (impl_sign_all L (m + 7)) (impl_isThree_all L (m + 0)) (impl_sides_all L (m + 6))
  simpa only [impl_AngleKind_ok, key] using h
theorem spec_AngleKind_all (L m : Nat) : spec_AngleKind_ok L (CN L (m + 6)) := by
  have key : ∀ args hp, CN L (m + 6) 90 args hp = run T (CN L (m + 5)) sh (keep 90) L Try.f90 args hp := fun args hp => callF_step (F := F) (by kernel_rfl) args hp
  have h := spec_AngleKind_run L (CN L (m + 5)) (spec_l1Sign_all L (m + 4)) (spec_l1Most_all L (m + 4)) (spec_trThree_all L (m + 0)) (spec_trSides_all L (m + 3))
  simpa only [spec_AngleKind_ok, key] using h
theorem impl_CircleOfThree_all (L m : Nat) : impl_CircleOfThree_ok L (CN L (m + 9)) := by
  have key : ∀ args hp, CN L (m + 9) 91 args hp = run T (CN L (m + 8)) sh (keep 91) L Try.f91 args hp := fun args hp => callF_step (F := F) (by kernel_rfl) args hp
  have h := impl_CircleOfThree_run L (CN L (m + 8)) (impl_at_all L (m + 7)) (impl_Peg_less_all L (m + 7)) (impl_sign_all L (m + 7)) (impl_twice_all L (m + 6)) (impl_divisor_all L (m + 6)) (impl_Peg_square_all L (m + 7)) (impl_isThree_all L (m + 0))
  simpa only [impl_CircleOfThree_ok, key] using h
theorem spec_CircleOfThree_all (L m : Nat) : spec_CircleOfThree_ok L (CN L (m + 6)) := by
  have key : ∀ args hp, CN L (m + 6) 92 args hp = run T (CN L (m + 5)) sh (keep 92) L Try.f92 args hp := fun args hp => callF_step (F := F) (by kernel_rfl) args hp
  have h := spec_CircleOfThree_run L (CN L (m + 5)) (spec_pgCommon_all L (m + 2)) (spec_trThree_all L (m + 0))
  simpa only [spec_CircleOfThree_ok, key] using h
theorem impl_ThriceCentre_all (L m : Nat) : impl_ThriceCentre_ok L (CN L (m + 9)) := by
  have key : ∀ args hp, CN L (m + 9) 93 args hp = run T (CN L (m + 8)) sh (keep 93) L Try.f93 args hp := fun args hp => callF_step (F := F) (by kernel_rfl) args hp
  have h := impl_ThriceCentre_run L (CN L (m + 8)) (impl_Peg_plus_all L (m + 7)) (impl_isThree_all L (m + 0))
  simpa only [impl_ThriceCentre_ok, key] using h
theorem spec_ThriceCentre_all (L m : Nat) : spec_ThriceCentre_ok L (CN L (m + 6)) := by
  have key : ∀ args hp, CN L (m + 6) 94 args hp = run T (CN L (m + 5)) sh (keep 94) L Try.f94 args hp := fun args hp => callF_step (F := F) (by kernel_rfl) args hp
  have h := spec_ThriceCentre_run L (CN L (m + 5)) (spec_trThree_all L (m + 0))
  simpa only [spec_ThriceCentre_ok, key] using h
theorem impl_HasCentrePeg_all (L m : Nat) : impl_HasCentrePeg_ok L (CN L (m + 10)) := by
  have key : ∀ args hp, CN L (m + 10) 95 args hp = run T (CN L (m + 9)) sh (keep 95) L Try.f95 args hp := fun args hp => callF_step (F := F) (by kernel_rfl) args hp
  have h := impl_HasCentrePeg_run L (CN L (m + 9)) (impl_ThriceCentre_all L (m + 0))
  simpa only [impl_HasCentrePeg_ok, key] using h
theorem spec_HasCentrePeg_all (L m : Nat) : spec_HasCentrePeg_ok L (CN L (m + 7)) := by
  have key : ∀ args hp, CN L (m + 7) 96 args hp = run T (CN L (m + 6)) sh (keep 96) L Try.f96 args hp := fun args hp => callF_step (F := F) (by kernel_rfl) args hp
  have h := spec_HasCentrePeg_run L (CN L (m + 6)) (spec_ThriceCentre_all L (m + 0))
  simpa only [spec_HasCentrePeg_ok, key] using h
theorem impl_MiddleThree_all (L m : Nat) : impl_MiddleThree_ok L (CN L (m + 9)) := by
  have key : ∀ args hp, CN L (m + 9) 97 args hp = run T (CN L (m + 8)) sh (keep 97) L Try.f97 args hp := fun args hp => callF_step (F := F) (by kernel_rfl) args hp
  have h := impl_MiddleThree_run L (CN L (m + 8)) (impl_at_all L (m + 7)) (impl_Peg_plus_all L (m + 7)) (impl_isThree_all L (m + 0))
  simpa only [impl_MiddleThree_ok, key] using h
theorem spec_MiddleThree_all (L m : Nat) : spec_MiddleThree_ok L (CN L (m + 6)) := by
  have key : ∀ args hp, CN L (m + 6) 98 args hp = run T (CN L (m + 5)) sh (keep 98) L Try.f98 args hp := fun args hp => callF_step (F := F) (by kernel_rfl) args hp
  have h := spec_MiddleThree_run L (CN L (m + 5)) (spec_trThree_all L (m + 0))
  simpa only [spec_MiddleThree_ok, key] using h
theorem impl_box_all (L m : Nat) : impl_box_ok L (CN L (m + 1)) := by
  have key : ∀ args hp, CN L (m + 1) 163 args hp = run T (CN L (m + 0)) sh (keep 163) L Try.f163 args hp := fun args hp => callF_step (F := F) (by kernel_rfl) args hp
  have h := impl_box_run L (CN L (m + 0))
  simpa only [impl_box_ok, key] using h
theorem impl_BoxOfThree_all (L m : Nat) : impl_BoxOfThree_ok L (CN L (m + 9)) := by
  have key : ∀ args hp, CN L (m + 9) 99 args hp = run T (CN L (m + 8)) sh (keep 99) L Try.f99 args hp := fun args hp => callF_step (F := F) (by kernel_rfl) args hp
  have h := impl_BoxOfThree_run L (CN L (m + 8)) (impl_isThree_all L (m + 0)) (impl_box_all L (m + 7))
  simpa only [impl_BoxOfThree_ok, key] using h
theorem spec_BoxOfThree_all (L m : Nat) : spec_BoxOfThree_ok L (CN L (m + 6)) := by
  have key : ∀ args hp, CN L (m + 6) 100 args hp = run T (CN L (m + 5)) sh (keep 100) L Try.f100 args hp := fun args hp => callF_step (F := F) (by kernel_rfl) args hp
  have h := spec_BoxOfThree_run L (CN L (m + 5)) (spec_l1Most_all L (m + 4)) (spec_l1Least_all L (m + 4)) (spec_trThree_all L (m + 0))
  simpa only [spec_BoxOfThree_ok, key] using h
theorem laws_zRows_all (L m : Nat) : laws_zRows_ok L (CN L (m + 2)) := by
  have key : ∀ args hp, CN L (m + 2) 101 args hp = run T (CN L (m + 1)) sh (keep 101) L Try.f101 args hp := fun args hp => callF_step (F := F) (by kernel_rfl) args hp
  have h := laws_zRows_run L (CN L (m + 1)) (laws_zSame_all L (m + 0))
  simpa only [laws_zRows_ok, key] using h
theorem impl_InCircle_all (L m : Nat) : impl_InCircle_ok L (CN L (m + 9)) := by
  have key : ∀ args hp, CN L (m + 9) 102 args hp = run T (CN L (m + 8)) sh (keep 102) L Try.f102 args hp := fun args hp => callF_step (F := F) (by kernel_rfl) args hp
  have h := impl_InCircle_run L (CN L (m + 8)) (impl_IsPeg_all L (m + 6)) (impl_at_all L (m + 7)) (impl_Peg_less_all L (m + 7)) (impl_cross_all L (m + 7)) (impl_sign_all L (m + 7)) (impl_twice_all L (m + 6)) (impl_Peg_square_all L (m + 7)) (impl_isThree_all L (m + 0))
  simpa only [impl_InCircle_ok, key] using h
theorem spec_DrawGrowThree_all (L m : Nat) : spec_DrawGrowThree_ok L (CN L (m + 8)) := by
  have key : ∀ args hp, CN L (m + 8) 103 args hp = run T (CN L (m + 7)) sh (keep 103) L Try.f103 args hp := fun args hp => callF_step (F := F) (by kernel_rfl) args hp
  have h := spec_DrawGrowThree_run L (CN L (m + 7)) (spec_l1Cur_among_v2_all L (m + 4)) (spec_l1Cur_three_all L (m + 0))
  simpa only [spec_DrawGrowThree_ok, key] using h
theorem impl_GrowThree_all (L m : Nat) : impl_GrowThree_ok L (CN L (m + 9)) := by
  have key : ∀ args hp, CN L (m + 9) 104 args hp = run T (CN L (m + 8)) sh (keep 104) L Try.f104 args hp := fun args hp => callF_step (F := F) (by kernel_rfl) args hp
  have h := impl_GrowThree_run L (CN L (m + 8)) (impl_within_all L (m + 7)) (impl_changed_impl_GrowThree_1_all L (m + 0)) (impl_isThree_all L (m + 0))
  simpa only [impl_GrowThree_ok, key] using h
theorem spec_GrowThree_all (L m : Nat) : spec_GrowThree_ok L (CN L (m + 6)) := by
  have key : ∀ args hp, CN L (m + 6) 105 args hp = run T (CN L (m + 5)) sh (keep 105) L Try.f105 args hp := fun args hp => callF_step (F := F) (by kernel_rfl) args hp
  have h := spec_GrowThree_run L (CN L (m + 5)) (spec_l1In_all L (m + 4)) (spec_pgMap_all L (m + 2)) (spec_trThree_all L (m + 0))
  simpa only [spec_GrowThree_ok, key] using h
theorem impl_PegsOfGrown_all (L m : Nat) : impl_PegsOfGrown_ok L (CN L (m + 9)) := by
  have key : ∀ args hp, CN L (m + 9) 106 args hp = run T (CN L (m + 8)) sh (keep 106) L Try.f106 args hp := fun args hp => callF_step (F := F) (by kernel_rfl) args hp
  have h := impl_PegsOfGrown_run L (CN L (m + 8)) (impl_within_all L (m + 7)) (impl_twice_all L (m + 6)) (impl_size_all L (m + 7)) (impl_around_all L (m + 4)) (impl_isThree_all L (m + 0))
  simpa only [impl_PegsOfGrown_ok, key] using h
theorem spec_PegsOfGrown_all (L m : Nat) : spec_PegsOfGrown_ok L (CN L (m + 6)) := by
  have key : ∀ args hp, CN L (m + 6) 107 args hp = run T (CN L (m + 5)) sh (keep 107) L Try.f107 args hp := fun args hp => callF_step (F := F) (by kernel_rfl) args hp
  have h := spec_PegsOfGrown_run L (CN L (m + 5)) (spec_l1In_all L (m + 4)) (spec_pgArea_all L (m + 3)) (spec_l1Abs_all L (m + 3)) (spec_pgRound_all L (m + 0)) (spec_trThree_all L (m + 0))
  simpa only [spec_PegsOfGrown_ok, key] using h
theorem spec_InCircle_all (L m : Nat) : spec_InCircle_ok L (CN L (m + 7)) := by
  have key : ∀ args hp, CN L (m + 7) 109 args hp = run T (CN L (m + 6)) sh (keep 109) L Try.f109 args hp := fun args hp => callF_step (F := F) (by kernel_rfl) args hp
  have h := spec_InCircle_run L (CN L (m + 6)) (spec_pgIs_all L (m + 4)) (spec_l1Sign_all L (m + 5)) (spec_trThree_all L (m + 1)) (spec_CircleOfThree_all L (m + 0))
  simpa only [spec_InCircle_ok, key] using h
theorem impl_PegsInAll_all (L m : Nat) : impl_PegsInAll_ok L (CN L (m + 8)) := by
  have key : ∀ args hp, CN L (m + 8) 110 args hp = run T (CN L (m + 7)) sh (keep 110) L Try.f110 args hp := fun args hp => callF_step (F := F) (by kernel_rfl) args hp
  have h := impl_PegsInAll_run L (CN L (m + 7)) (impl_IsPolygon_all L (m + 0)) (impl_around_all L (m + 3)) (impl_inner_all L (m + 2))
  simpa only [impl_PegsInAll_ok, key] using h
theorem laws_FnThreesMeasured_all (L m : Nat) : laws_FnThreesMeasured_ok L (CN L (m + 11)) := by
  have key : ∀ args hp, CN L (m + 11) 8 args hp = run T (CN L (m + 10)) sh (keep 8) L Try.f8 args hp := fun args hp => callF_step (F := F) (by kernel_rfl) args hp
  have h := laws_FnThreesMeasured_run L (CN L (m + 10)) (laws_big_all L (m + 9)) (laws_zPegs_all L (m + 9)) (impl_TwiceArea_all L (m + 2)) (spec_DrawInCircle_all L (m + 2)) (laws_zSame_all L (m + 9)) (spec_DrawSidesOfThree_all L (m + 2)) (impl_SidesOfThree_all L (m + 1)) (spec_SidesOfThree_all L (m + 4)) (impl_HeightsOfThree_all L (m + 1)) (spec_HeightsOfThree_all L (m + 4)) (impl_AngleKind_all L (m + 1)) (spec_AngleKind_all L (m + 4)) (impl_CircleOfThree_all L (m + 1)) (spec_CircleOfThree_all L (m + 4)) (impl_ThriceCentre_all L (m + 1)) (spec_ThriceCentre_all L (m + 4)) (impl_HasCentrePeg_all L (m + 0)) (spec_HasCentrePeg_all L (m + 3)) (impl_MiddleThree_all L (m + 1)) (spec_MiddleThree_all L (m + 4)) (impl_BoxOfThree_all L (m + 1)) (spec_BoxOfThree_all L (m + 4)) (laws_zRows_all L (m + 8)) (impl_InCircle_all L (m + 1)) (spec_DrawGrowThree_all L (m + 2)) (impl_GrowThree_all L (m + 1)) (spec_GrowThree_all L (m + 4)) (impl_PegsOfGrown_all L (m + 1)) (spec_PegsOfGrown_all L (m + 4)) (spec_InCircle_all L (m + 3)) (impl_PegsInAll_all L (m + 2))
  simpa only [laws_FnThreesMeasured_ok, key] using h
end Go.AM
