import Derived.Test.YtokhceheoccfhaaAmM1
import Derived.KernelRfl
import Derived.Test.YtokhceheoccfhaaAmLay
set_option linter.unusedVariables false
set_option linter.unusedSimpArgs false
set_option linter.unnecessarySimpa false
set_option linter.deprecated false
set_option linter.unusedSectionVars false
open Go Go.AM Go.Proofs
namespace Go.AM
set_option maxRecDepth 100000

noncomputable def rowsF : List (Nat × Func) := [(7, Try.f7), (15, Try.f15), (20, Try.f20), (35, Try.f35), (55, Try.f55), (56, Try.f56), (64, Try.f64), (65, Try.f65), (66, Try.f66), (67, Try.f67), (68, Try.f68), (69, Try.f69), (70, Try.f70), (71, Try.f71), (72, Try.f72), (73, Try.f73), (74, Try.f74), (75, Try.f75), (76, Try.f76), (77, Try.f77), (78, Try.f78), (79, Try.f79), (80, Try.f80), (81, Try.f81), (82, Try.f82), (83, Try.f83), (128, Try.f128), (131, Try.f131), (133, Try.f133), (134, Try.f134), (138, Try.f138), (140, Try.f140), (141, Try.f141), (143, Try.f143), (144, Try.f144), (146, Try.f146), (147, Try.f147), (148, Try.f148), (151, Try.f151), (159, Try.f159), (160, Try.f160), (164, Try.f164), (168, Try.f168), (169, Try.f169), (172, Try.f172), (173, Try.f173), (174, Try.f174), (175, Try.f175), (176, Try.f176), (177, Try.f177), (178, Try.f178), (179, Try.f179), (180, Try.f180), (181, Try.f181), (182, Try.f182), (183, Try.f183), (184, Try.f184), (185, Try.f185), (186, Try.f186), (187, Try.f187), (188, Try.f188), (189, Try.f189), (190, Try.f190), (191, Try.f191), (194, Try.f194), (195, Try.f195), (196, Try.f196), (197, Try.f197), (198, Try.f198), (199, Try.f199), (202, Try.f202), (215, Try.f215), (220, Try.f220), (221, Try.f221), (222, Try.f222), (223, Try.f223), (233, Try.f233), (234, Try.f234), (236, Try.f236), (237, Try.f237), (238, Try.f238), (239, Try.f239), (240, Try.f240), (245, Try.f245), (251, Try.f251), (255, Try.f255), (256, Try.f256), (257, Try.f257), (258, Try.f258), (262, Try.f262), (263, Try.f263)]
theorem fok7 : FOk Try.prog sh keep (7, Try.f7) := ⟨Try.func7, by kernel_rfl, by kernel_rfl⟩
theorem fok15 : FOk Try.prog sh keep (15, Try.f15) := ⟨Try.func15, by kernel_rfl, by kernel_rfl⟩
theorem fok20 : FOk Try.prog sh keep (20, Try.f20) := ⟨Try.func20, by kernel_rfl, by kernel_rfl⟩
theorem fok35 : FOk Try.prog sh keep (35, Try.f35) := ⟨Try.func35, by kernel_rfl, by kernel_rfl⟩
theorem fok55 : FOk Try.prog sh keep (55, Try.f55) := ⟨Try.func55, by kernel_rfl, by kernel_rfl⟩
theorem fok56 : FOk Try.prog sh keep (56, Try.f56) := ⟨Try.func56, by kernel_rfl, by kernel_rfl⟩
theorem fok64 : FOk Try.prog sh keep (64, Try.f64) := ⟨Try.func64, by kernel_rfl, by kernel_rfl⟩
theorem fok65 : FOk Try.prog sh keep (65, Try.f65) := ⟨Try.func65, by kernel_rfl, by kernel_rfl⟩
theorem fok66 : FOk Try.prog sh keep (66, Try.f66) := ⟨Try.func66, by kernel_rfl, by kernel_rfl⟩
theorem fok67 : FOk Try.prog sh keep (67, Try.f67) := ⟨Try.func67, by kernel_rfl, by kernel_rfl⟩
theorem fok68 : FOk Try.prog sh keep (68, Try.f68) := ⟨Try.func68, by kernel_rfl, by kernel_rfl⟩
theorem fok69 : FOk Try.prog sh keep (69, Try.f69) := ⟨Try.func69, by kernel_rfl, by kernel_rfl⟩
theorem fok70 : FOk Try.prog sh keep (70, Try.f70) := ⟨Try.func70, by kernel_rfl, by kernel_rfl⟩
theorem fok71 : FOk Try.prog sh keep (71, Try.f71) := ⟨Try.func71, by kernel_rfl, by kernel_rfl⟩
theorem fok72 : FOk Try.prog sh keep (72, Try.f72) := ⟨Try.func72, by kernel_rfl, by kernel_rfl⟩
theorem fok73 : FOk Try.prog sh keep (73, Try.f73) := ⟨Try.func73, by kernel_rfl, by kernel_rfl⟩
theorem fok74 : FOk Try.prog sh keep (74, Try.f74) := ⟨Try.func74, by kernel_rfl, by kernel_rfl⟩
theorem fok75 : FOk Try.prog sh keep (75, Try.f75) := ⟨Try.func75, by kernel_rfl, by kernel_rfl⟩
theorem fok76 : FOk Try.prog sh keep (76, Try.f76) := ⟨Try.func76, by kernel_rfl, by kernel_rfl⟩
theorem fok77 : FOk Try.prog sh keep (77, Try.f77) := ⟨Try.func77, by kernel_rfl, by kernel_rfl⟩
theorem fok78 : FOk Try.prog sh keep (78, Try.f78) := ⟨Try.func78, by kernel_rfl, by kernel_rfl⟩
theorem fok79 : FOk Try.prog sh keep (79, Try.f79) := ⟨Try.func79, by kernel_rfl, by kernel_rfl⟩
theorem fok80 : FOk Try.prog sh keep (80, Try.f80) := ⟨Try.func80, by kernel_rfl, by kernel_rfl⟩
theorem fok81 : FOk Try.prog sh keep (81, Try.f81) := ⟨Try.func81, by kernel_rfl, by kernel_rfl⟩
theorem fok82 : FOk Try.prog sh keep (82, Try.f82) := ⟨Try.func82, by kernel_rfl, by kernel_rfl⟩
theorem fok83 : FOk Try.prog sh keep (83, Try.f83) := ⟨Try.func83, by kernel_rfl, by kernel_rfl⟩
theorem fok128 : FOk Try.prog sh keep (128, Try.f128) := ⟨Try.func128, by kernel_rfl, by kernel_rfl⟩
theorem fok131 : FOk Try.prog sh keep (131, Try.f131) := ⟨Try.func131, by kernel_rfl, by kernel_rfl⟩
theorem fok133 : FOk Try.prog sh keep (133, Try.f133) := ⟨Try.func133, by kernel_rfl, by kernel_rfl⟩
theorem fok134 : FOk Try.prog sh keep (134, Try.f134) := ⟨Try.func134, by kernel_rfl, by kernel_rfl⟩
theorem fok138 : FOk Try.prog sh keep (138, Try.f138) := ⟨Try.func138, by kernel_rfl, by kernel_rfl⟩
theorem fok140 : FOk Try.prog sh keep (140, Try.f140) := ⟨Try.func140, by kernel_rfl, by kernel_rfl⟩
theorem fok141 : FOk Try.prog sh keep (141, Try.f141) := ⟨Try.func141, by kernel_rfl, by kernel_rfl⟩
theorem fok143 : FOk Try.prog sh keep (143, Try.f143) := ⟨Try.func143, by kernel_rfl, by kernel_rfl⟩
theorem fok144 : FOk Try.prog sh keep (144, Try.f144) := ⟨Try.func144, by kernel_rfl, by kernel_rfl⟩
theorem fok146 : FOk Try.prog sh keep (146, Try.f146) := ⟨Try.func146, by kernel_rfl, by kernel_rfl⟩
theorem fok147 : FOk Try.prog sh keep (147, Try.f147) := ⟨Try.func147, by kernel_rfl, by kernel_rfl⟩
theorem fok148 : FOk Try.prog sh keep (148, Try.f148) := ⟨Try.func148, by kernel_rfl, by kernel_rfl⟩
theorem fok151 : FOk Try.prog sh keep (151, Try.f151) := ⟨Try.func151, by kernel_rfl, by kernel_rfl⟩
theorem fok159 : FOk Try.prog sh keep (159, Try.f159) := ⟨Try.func159, by kernel_rfl, by kernel_rfl⟩
theorem fok160 : FOk Try.prog sh keep (160, Try.f160) := ⟨Try.func160, by kernel_rfl, by kernel_rfl⟩
theorem fok164 : FOk Try.prog sh keep (164, Try.f164) := ⟨Try.func164, by kernel_rfl, by kernel_rfl⟩
theorem fok168 : FOk Try.prog sh keep (168, Try.f168) := ⟨Try.func168, by kernel_rfl, by kernel_rfl⟩
theorem fok169 : FOk Try.prog sh keep (169, Try.f169) := ⟨Try.func169, by kernel_rfl, by kernel_rfl⟩
theorem fok172 : FOk Try.prog sh keep (172, Try.f172) := ⟨Try.func172, by kernel_rfl, by kernel_rfl⟩
theorem fok173 : FOk Try.prog sh keep (173, Try.f173) := ⟨Try.func173, by kernel_rfl, by kernel_rfl⟩
theorem fok174 : FOk Try.prog sh keep (174, Try.f174) := ⟨Try.func174, by kernel_rfl, by kernel_rfl⟩
theorem fok175 : FOk Try.prog sh keep (175, Try.f175) := ⟨Try.func175, by kernel_rfl, by kernel_rfl⟩
theorem fok176 : FOk Try.prog sh keep (176, Try.f176) := ⟨Try.func176, by kernel_rfl, by kernel_rfl⟩
theorem fok177 : FOk Try.prog sh keep (177, Try.f177) := ⟨Try.func177, by kernel_rfl, by kernel_rfl⟩
theorem fok178 : FOk Try.prog sh keep (178, Try.f178) := ⟨Try.func178, by kernel_rfl, by kernel_rfl⟩
theorem fok179 : FOk Try.prog sh keep (179, Try.f179) := ⟨Try.func179, by kernel_rfl, by kernel_rfl⟩
theorem fok180 : FOk Try.prog sh keep (180, Try.f180) := ⟨Try.func180, by kernel_rfl, by kernel_rfl⟩
theorem fok181 : FOk Try.prog sh keep (181, Try.f181) := ⟨Try.func181, by kernel_rfl, by kernel_rfl⟩
theorem fok182 : FOk Try.prog sh keep (182, Try.f182) := ⟨Try.func182, by kernel_rfl, by kernel_rfl⟩
theorem fok183 : FOk Try.prog sh keep (183, Try.f183) := ⟨Try.func183, by kernel_rfl, by kernel_rfl⟩
theorem fok184 : FOk Try.prog sh keep (184, Try.f184) := ⟨Try.func184, by kernel_rfl, by kernel_rfl⟩
theorem fok185 : FOk Try.prog sh keep (185, Try.f185) := ⟨Try.func185, by kernel_rfl, by kernel_rfl⟩
theorem fok186 : FOk Try.prog sh keep (186, Try.f186) := ⟨Try.func186, by kernel_rfl, by kernel_rfl⟩
theorem fok187 : FOk Try.prog sh keep (187, Try.f187) := ⟨Try.func187, by kernel_rfl, by kernel_rfl⟩
theorem fok188 : FOk Try.prog sh keep (188, Try.f188) := ⟨Try.func188, by kernel_rfl, by kernel_rfl⟩
theorem fok189 : FOk Try.prog sh keep (189, Try.f189) := ⟨Try.func189, by kernel_rfl, by kernel_rfl⟩
theorem fok190 : FOk Try.prog sh keep (190, Try.f190) := ⟨Try.func190, by kernel_rfl, by kernel_rfl⟩
theorem fok191 : FOk Try.prog sh keep (191, Try.f191) := ⟨Try.func191, by kernel_rfl, by kernel_rfl⟩
theorem fok194 : FOk Try.prog sh keep (194, Try.f194) := ⟨Try.func194, by kernel_rfl, by kernel_rfl⟩
theorem fok195 : FOk Try.prog sh keep (195, Try.f195) := ⟨Try.func195, by kernel_rfl, by kernel_rfl⟩
theorem fok196 : FOk Try.prog sh keep (196, Try.f196) := ⟨Try.func196, by kernel_rfl, by kernel_rfl⟩
theorem fok197 : FOk Try.prog sh keep (197, Try.f197) := ⟨Try.func197, by kernel_rfl, by kernel_rfl⟩
theorem fok198 : FOk Try.prog sh keep (198, Try.f198) := ⟨Try.func198, by kernel_rfl, by kernel_rfl⟩
theorem fok199 : FOk Try.prog sh keep (199, Try.f199) := ⟨Try.func199, by kernel_rfl, by kernel_rfl⟩
theorem fok202 : FOk Try.prog sh keep (202, Try.f202) := ⟨Try.func202, by kernel_rfl, by kernel_rfl⟩
theorem fok215 : FOk Try.prog sh keep (215, Try.f215) := ⟨Try.func215, by kernel_rfl, by kernel_rfl⟩
theorem fok220 : FOk Try.prog sh keep (220, Try.f220) := ⟨Try.func220, by kernel_rfl, by kernel_rfl⟩
theorem fok221 : FOk Try.prog sh keep (221, Try.f221) := ⟨Try.func221, by kernel_rfl, by kernel_rfl⟩
theorem fok222 : FOk Try.prog sh keep (222, Try.f222) := ⟨Try.func222, by kernel_rfl, by kernel_rfl⟩
theorem fok223 : FOk Try.prog sh keep (223, Try.f223) := ⟨Try.func223, by kernel_rfl, by kernel_rfl⟩
theorem fok233 : FOk Try.prog sh keep (233, Try.f233) := ⟨Try.func233, by kernel_rfl, by kernel_rfl⟩
theorem fok234 : FOk Try.prog sh keep (234, Try.f234) := ⟨Try.func234, by kernel_rfl, by kernel_rfl⟩
theorem fok236 : FOk Try.prog sh keep (236, Try.f236) := ⟨Try.func236, by kernel_rfl, by kernel_rfl⟩
theorem fok237 : FOk Try.prog sh keep (237, Try.f237) := ⟨Try.func237, by kernel_rfl, by kernel_rfl⟩
theorem fok238 : FOk Try.prog sh keep (238, Try.f238) := ⟨Try.func238, by kernel_rfl, by kernel_rfl⟩
theorem fok239 : FOk Try.prog sh keep (239, Try.f239) := ⟨Try.func239, by kernel_rfl, by kernel_rfl⟩
theorem fok240 : FOk Try.prog sh keep (240, Try.f240) := ⟨Try.func240, by kernel_rfl, by kernel_rfl⟩
theorem fok245 : FOk Try.prog sh keep (245, Try.f245) := ⟨Try.func245, by kernel_rfl, by kernel_rfl⟩
theorem fok251 : FOk Try.prog sh keep (251, Try.f251) := ⟨Try.func251, by kernel_rfl, by kernel_rfl⟩
theorem fok255 : FOk Try.prog sh keep (255, Try.f255) := ⟨Try.func255, by kernel_rfl, by kernel_rfl⟩
theorem fok256 : FOk Try.prog sh keep (256, Try.f256) := ⟨Try.func256, by kernel_rfl, by kernel_rfl⟩
theorem fok257 : FOk Try.prog sh keep (257, Try.f257) := ⟨Try.func257, by kernel_rfl, by kernel_rfl⟩
theorem fok258 : FOk Try.prog sh keep (258, Try.f258) := ⟨Try.func258, by kernel_rfl, by kernel_rfl⟩
theorem fok262 : FOk Try.prog sh keep (262, Try.f262) := ⟨Try.func262, by kernel_rfl, by kernel_rfl⟩
theorem fok263 : FOk Try.prog sh keep (263, Try.f263) := ⟨Try.func263, by kernel_rfl, by kernel_rfl⟩
theorem fokAll : ∀ p ∈ rowsF, FOk Try.prog sh keep p :=
  fOk_cons fok7 (fOk_cons fok15 (fOk_cons fok20 (fOk_cons fok35 (fOk_cons fok55 (fOk_cons fok56 (fOk_cons fok64 (fOk_cons fok65 (fOk_cons fok66 (fOk_cons fok67 (fOk_cons fok68 (fOk_cons fok69 (fOk_cons fok70 (fOk_cons fok71 (fOk_cons fok72 (fOk_cons fok73 (fOk_cons fok74 (fOk_cons fok75 (fOk_cons fok76 (fOk_cons fok77 (fOk_cons fok78 (fOk_cons fok79 (fOk_cons fok80 (fOk_cons fok81 (fOk_cons fok82 (fOk_cons fok83 (fOk_cons fok128 (fOk_cons fok131 (fOk_cons fok133 (fOk_cons fok134 (fOk_cons fok138 (fOk_cons fok140 (fOk_cons fok141 (fOk_cons fok143 (fOk_cons fok144 (fOk_cons fok146 (fOk_cons fok147 (fOk_cons fok148 (fOk_cons fok151 (fOk_cons fok159 (fOk_cons fok160 (fOk_cons fok164 (fOk_cons fok168 (fOk_cons fok169 (fOk_cons fok172 (fOk_cons fok173 (fOk_cons fok174 (fOk_cons fok175 (fOk_cons fok176 (fOk_cons fok177 (fOk_cons fok178 (fOk_cons fok179 (fOk_cons fok180 (fOk_cons fok181 (fOk_cons fok182 (fOk_cons fok183 (fOk_cons fok184 (fOk_cons fok185 (fOk_cons fok186 (fOk_cons fok187 (fOk_cons fok188 (fOk_cons fok189 (fOk_cons fok190 (fOk_cons fok191 (fOk_cons fok194 (fOk_cons fok195 (fOk_cons fok196 (fOk_cons fok197 (fOk_cons fok198 (fOk_cons fok199 (fOk_cons fok202 (fOk_cons fok215 (fOk_cons fok220 (fOk_cons fok221 (fOk_cons fok222 (fOk_cons fok223 (fOk_cons fok233 (fOk_cons fok234 (fOk_cons fok236 (fOk_cons fok237 (fOk_cons fok238 (fOk_cons fok239 (fOk_cons fok240 (fOk_cons fok245 (fOk_cons fok251 (fOk_cons fok255 (fOk_cons fok256 (fOk_cons fok257 (fOk_cons fok258 (fOk_cons fok262 (fOk_cons fok263 fOk_nil))))))))))))))))))))))))))))))))))))))))))))))))))))))))))))))))))))))))))))))))))))))))))
theorem tokAll : rowsT.all (tiR Try.prog) = true := by kernel_rfl
noncomputable def F : FuncId → Option Func := findL rowsF
noncomputable def CN (L n : Nat) : CF := callF T F sh keep L n
theorem cn_sound (L n : Nat) : CSound Try.prog (CN L n) := callF_sound tokAll fokAll (by kernel_rfl) L n
theorem spec_l1In_all (L m : Nat) : spec_l1In_ok L (CN L (m + 1)) := by
  have key : ∀ args hp, CN L (m + 1) 191 args hp = run T (CN L (m + 0)) sh (keep 191) L Try.f191 args hp := fun args hp => callF_step (F := F) (by kernel_rfl) args hp
  have h := spec_l1In_run L (CN L (m + 0))
  simpa only [spec_l1In_ok, key] using h
theorem spec_pgIs_all (L m : Nat) : spec_pgIs_ok L (CN L (m + 2)) := by
  have key : ∀ args hp, CN L (m + 2) 131 args hp = run T (CN L (m + 1)) sh (keep 131) L Try.f131 args hp := fun args hp => callF_step (F := F) (by kernel_rfl) args hp
  have h := spec_pgIs_run L (CN L (m + 1)) (spec_l1In_all L (m + 0))
  simpa only [spec_pgIs_ok, key] using h
theorem spec_pgTurn_all (L m : Nat) : spec_pgTurn_ok L (CN L (m + 1)) := by
  have key : ∀ args hp, CN L (m + 1) 221 args hp = run T (CN L (m + 0)) sh (keep 221) L Try.f221 args hp := fun args hp => callF_step (F := F) (by kernel_rfl) args hp
  have h := spec_pgTurn_run L (CN L (m + 0))
  simpa only [spec_pgTurn_ok, key] using h
theorem spec_pgOn_all (L m : Nat) : spec_pgOn_ok L (CN L (m + 2)) := by
  have key : ∀ args hp, CN L (m + 2) 223 args hp = run T (CN L (m + 1)) sh (keep 223) L Try.f223 args hp := fun args hp => callF_step (F := F) (by kernel_rfl) args hp
  have h := spec_pgOn_run L (CN L (m + 1)) (spec_pgTurn_all L (m + 0))
  simpa only [spec_pgOn_ok, key] using h
theorem spec_l1Sign_all (L m : Nat) : spec_l1Sign_ok L (CN L (m + 1)) := by
  have key : ∀ args hp, CN L (m + 1) 198 args hp = run T (CN L (m + 0)) sh (keep 198) L Try.f198 args hp := fun args hp => callF_step (F := F) (by kernel_rfl) args hp
  have h := spec_l1Sign_run L (CN L (m + 0))
  simpa only [spec_l1Sign_ok, key] using h
theorem spec_pgMeet_all (L m : Nat) : spec_pgMeet_ok L (CN L (m + 3)) := by
  have key : ∀ args hp, CN L (m + 3) 236 args hp = run T (CN L (m + 2)) sh (keep 236) L Try.f236 args hp := fun args hp => callF_step (F := F) (by kernel_rfl) args hp
  have h := spec_pgMeet_run L (CN L (m + 2)) (spec_pgTurn_all L (m + 1)) (spec_pgOn_all L (m + 0)) (spec_l1Sign_all L (m + 1))
  simpa only [spec_pgMeet_ok, key] using h
theorem spec_pgGood_all (L m : Nat) : spec_pgGood_ok L (CN L (m + 4)) := by
  have key : ∀ args hp, CN L (m + 4) 164 args hp = run T (CN L (m + 3)) sh (keep 164) L Try.f164 args hp := fun args hp => callF_step (F := F) (by kernel_rfl) args hp
  have h := spec_pgGood_run L (CN L (m + 3)) (spec_l1In_all L (m + 2)) (spec_pgIs_all L (m + 1)) (spec_pgTurn_all L (m + 2)) (spec_pgMeet_all L (m + 0))
  simpa only [spec_pgGood_ok, key] using h
theorem spec_l1Most_all (L m : Nat) : spec_l1Most_ok L (CN L (m + 1)) := by
  have key : ∀ args hp, CN L (m + 1) 197 args hp = run T (CN L (m + 0)) sh (keep 197) L Try.f197 args hp := fun args hp => callF_step (F := F) (by kernel_rfl) args hp
  have h := spec_l1Most_run L (CN L (m + 0))
  simpa only [spec_l1Most_ok, key] using h
theorem spec_l1Abs_all (L m : Nat) : spec_l1Abs_ok L (CN L (m + 2)) := by
  have key : ∀ args hp, CN L (m + 2) 148 args hp = run T (CN L (m + 1)) sh (keep 148) L Try.f148 args hp := fun args hp => callF_step (F := F) (by kernel_rfl) args hp
  have h := spec_l1Abs_run L (CN L (m + 1)) (spec_l1Most_all L (m + 0))
  simpa only [spec_l1Abs_ok, key] using h
theorem spec_pgCommon_all (L m : Nat) : spec_pgCommon_ok L (CN L (m + 3)) := by
  have key : ∀ args hp, CN L (m + 3) 195 args hp = run T (CN L (m + 2)) sh (keep 195) L Try.f195 args hp := fun args hp => callF_step (F := F) (by kernel_rfl) args hp
  have h := spec_pgCommon_run L (CN L (m + 2)) (spec_l1Abs_all L (m + 0))
  simpa only [spec_pgCommon_ok, key] using h
theorem spec_pgStep_all (L m : Nat) : spec_pgStep_ok L (CN L (m + 4)) := by
  have key : ∀ args hp, CN L (m + 4) 220 args hp = run T (CN L (m + 3)) sh (keep 220) L Try.f220 args hp := fun args hp => callF_step (F := F) (by kernel_rfl) args hp
  have h := spec_pgStep_run L (CN L (m + 3)) (spec_pgCommon_all L (m + 0))
  simpa only [spec_pgStep_ok, key] using h
theorem spec_pgBack_all (L m : Nat) : spec_pgBack_ok L (CN L (m + 1)) := by
  have key : ∀ args hp, CN L (m + 1) 169 args hp = run T (CN L (m + 0)) sh (keep 169) L Try.f169 args hp := fun args hp => callF_step (F := F) (by kernel_rfl) args hp
  have h := spec_pgBack_run L (CN L (m + 0))
  simpa only [spec_pgBack_ok, key] using h
theorem spec_pgLess_all (L m : Nat) : spec_pgLess_ok L (CN L (m + 1)) := by
  have key : ∀ args hp, CN L (m + 1) 215 args hp = run T (CN L (m + 0)) sh (keep 215) L Try.f215 args hp := fun args hp => callF_step (F := F) (by kernel_rfl) args hp
  have h := spec_pgLess_run L (CN L (m + 0))
  simpa only [spec_pgLess_ok, key] using h
theorem impl_within_all (L m : Nat) : impl_within_ok L (CN L (m + 1)) := by
  have key : ∀ args hp, CN L (m + 1) 134 args hp = run T (CN L (m + 0)) sh (keep 134) L Try.f134 args hp := fun args hp => callF_step (F := F) (by kernel_rfl) args hp
  have h := impl_within_run L (CN L (m + 0))
  simpa only [impl_within_ok, key] using h
theorem impl_IsPeg_all (L m : Nat) : impl_IsPeg_ok L (CN L (m + 2)) := by
  have key : ∀ args hp, CN L (m + 2) 128 args hp = run T (CN L (m + 1)) sh (keep 128) L Try.f128 args hp := fun args hp => callF_step (F := F) (by kernel_rfl) args hp
  have h := impl_IsPeg_run L (CN L (m + 1)) (impl_within_all L (m + 0))
  simpa only [impl_IsPeg_ok, key] using h
theorem impl_arePegs_1_all (L m : Nat) : impl_arePegs_1_ok L (CN L (m + 3)) := by
  have key : ∀ args hp, CN L (m + 3) 238 args hp = run T (CN L (m + 2)) sh (keep 238) L Try.f238 args hp := fun args hp => callF_step (F := F) (by kernel_rfl) args hp
  have h := impl_arePegs_1_run L (CN L (m + 2)) (impl_IsPeg_all L (m + 0))
  simpa only [impl_arePegs_1_ok, key] using h
theorem slices_IndexFunc_impl_Peg_impl_Peg_arePegs_all (L m : Nat) : slices_IndexFunc_impl_Peg_impl_Peg_arePegs_ok L (CN L (m + 4)) := by
  have key : ∀ args hp, CN L (m + 4) 258 args hp = run T (CN L (m + 3)) sh (keep 258) L Try.f258 args hp := fun args hp => callF_step (F := F) (by kernel_rfl) args hp
  have h := slices_IndexFunc_impl_Peg_impl_Peg_arePegs_run L (CN L (m + 3)) (impl_arePegs_1_all L (m + 0))
  simpa only [slices_IndexFunc_impl_Peg_impl_Peg_arePegs_ok, key] using h
theorem slices_ContainsFunc_impl_Peg_impl_Peg_arePegs_all (L m : Nat) : slices_ContainsFunc_impl_Peg_impl_Peg_arePegs_ok L (CN L (m + 5)) := by
  have key : ∀ args hp, CN L (m + 5) 237 args hp = run T (CN L (m + 4)) sh (keep 237) L Try.f237 args hp := fun args hp => callF_step (F := F) (by kernel_rfl) args hp
  have h := slices_ContainsFunc_impl_Peg_impl_Peg_arePegs_run L (CN L (m + 4)) (slices_IndexFunc_impl_Peg_impl_Peg_arePegs_all L (m + 0))
  simpa only [slices_ContainsFunc_impl_Peg_impl_Peg_arePegs_ok, key] using h
theorem impl_arePegs_all (L m : Nat) : impl_arePegs_ok L (CN L (m + 6)) := by
  have key : ∀ args hp, CN L (m + 6) 172 args hp = run T (CN L (m + 5)) sh (keep 172) L Try.f172 args hp := fun args hp => callF_step (F := F) (by kernel_rfl) args hp
  have h := impl_arePegs_run L (CN L (m + 5)) (slices_ContainsFunc_impl_Peg_impl_Peg_arePegs_all L (m + 0))
  simpa only [impl_arePegs_ok, key] using h
theorem slices_Index_impl_Peg_impl_Peg_all (L m : Nat) : slices_Index_impl_Peg_impl_Peg_ok L (CN L (m + 1)) := by
  have key : ∀ args hp, CN L (m + 1) 239 args hp = run T (CN L (m + 0)) sh (keep 239) L Try.f239 args hp := fun args hp => callF_step (F := F) (by kernel_rfl) args hp
  have h := slices_Index_impl_Peg_impl_Peg_run L (CN L (m + 0))
  simpa only [slices_Index_impl_Peg_impl_Peg_ok, key] using h
theorem slices_Contains_impl_Peg_impl_Peg_all (L m : Nat) : slices_Contains_impl_Peg_impl_Peg_ok L (CN L (m + 2)) := by
  have key : ∀ args hp, CN L (m + 2) 173 args hp = run T (CN L (m + 1)) sh (keep 173) L Try.f173 args hp := fun args hp => callF_step (F := F) (by kernel_rfl) args hp
  have h := slices_Contains_impl_Peg_impl_Peg_run L (CN L (m + 1)) (slices_Index_impl_Peg_impl_Peg_all L (m + 0))
  simpa only [slices_Contains_impl_Peg_impl_Peg_ok, key] using h
theorem impl_at_all (L m : Nat) : impl_at_ok L (CN L (m + 1)) := by
  have key : ∀ args hp, CN L (m + 1) 175 args hp = run T (CN L (m + 0)) sh (keep 175) L Try.f175 args hp := fun args hp => callF_step (F := F) (by kernel_rfl) args hp
  have h := impl_at_run L (CN L (m + 0))
  simpa only [impl_at_ok, key] using h
theorem impl_Peg_less_all (L m : Nat) : impl_Peg_less_ok L (CN L (m + 1)) := by
  have key : ∀ args hp, CN L (m + 1) 199 args hp = run T (CN L (m + 0)) sh (keep 199) L Try.f199 args hp := fun args hp => callF_step (F := F) (by kernel_rfl) args hp
  have h := impl_Peg_less_run L (CN L (m + 0))
  simpa only [impl_Peg_less_ok, key] using h
theorem impl_cross_all (L m : Nat) : impl_cross_ok L (CN L (m + 1)) := by
  have key : ∀ args hp, CN L (m + 1) 202 args hp = run T (CN L (m + 0)) sh (keep 202) L Try.f202 args hp := fun args hp => callF_step (F := F) (by kernel_rfl) args hp
  have h := impl_cross_run L (CN L (m + 0))
  simpa only [impl_cross_ok, key] using h
theorem impl_turn_all (L m : Nat) : impl_turn_ok L (CN L (m + 2)) := by
  have key : ∀ args hp, CN L (m + 2) 174 args hp = run T (CN L (m + 1)) sh (keep 174) L Try.f174 args hp := fun args hp => callF_step (F := F) (by kernel_rfl) args hp
  have h := impl_turn_run L (CN L (m + 1)) (impl_Peg_less_all L (m + 0)) (impl_cross_all L (m + 0))
  simpa only [impl_turn_ok, key] using h
theorem impl_sign_all (L m : Nat) : impl_sign_ok L (CN L (m + 1)) := by
  have key : ∀ args hp, CN L (m + 1) 196 args hp = run T (CN L (m + 0)) sh (keep 196) L Try.f196 args hp := fun args hp => callF_step (F := F) (by kernel_rfl) args hp
  have h := impl_sign_run L (CN L (m + 0))
  simpa only [impl_sign_ok, key] using h
theorem impl_isOn_all (L m : Nat) : impl_isOn_ok L (CN L (m + 3)) := by
  have key : ∀ args hp, CN L (m + 3) 179 args hp = run T (CN L (m + 2)) sh (keep 179) L Try.f179 args hp := fun args hp => callF_step (F := F) (by kernel_rfl) args hp
  have h := impl_isOn_run L (CN L (m + 2)) (impl_within_all L (m + 1)) (impl_turn_all L (m + 0))
  simpa only [impl_isOn_ok, key] using h
theorem impl_meet_all (L m : Nat) : impl_meet_ok L (CN L (m + 4)) := by
  have key : ∀ args hp, CN L (m + 4) 176 args hp = run T (CN L (m + 3)) sh (keep 176) L Try.f176 args hp := fun args hp => callF_step (F := F) (by kernel_rfl) args hp
  have h := impl_meet_run L (CN L (m + 3)) (impl_turn_all L (m + 1)) (impl_sign_all L (m + 2)) (impl_isOn_all L (m + 0))
  simpa only [impl_meet_ok, key] using h
theorem impl_IsPolygon_all (L m : Nat) : impl_IsPolygon_ok L (CN L (m + 7)) := by
  have key : ∀ args hp, CN L (m + 7) 56 args hp = run T (CN L (m + 6)) sh (keep 56) L Try.f56 args hp := fun args hp => callF_step (F := F) (by kernel_rfl) args hp
  have h := impl_IsPolygon_run L (CN L (m + 6)) (impl_within_all L (m + 5)) (impl_arePegs_all L (m + 0)) (slices_Contains_impl_Peg_impl_Peg_all L (m + 4)) (impl_at_all L (m + 5)) (impl_turn_all L (m + 4)) (impl_meet_all L (m + 2))
  simpa only [impl_IsPolygon_ok, key] using h
theorem impl_twice_all (L m : Nat) : impl_twice_ok L (CN L (m + 2)) := by
  have key : ∀ args hp, CN L (m + 2) 133 args hp = run T (CN L (m + 1)) sh (keep 133) L Try.f133 args hp := fun args hp => callF_step (F := F) (by kernel_rfl) args hp
  have h := impl_twice_run L (CN L (m + 1)) (impl_at_all L (m + 0)) (impl_cross_all L (m + 0))
  simpa only [impl_twice_ok, key] using h
theorem impl_size_all (L m : Nat) : impl_size_ok L (CN L (m + 1)) := by
  have key : ∀ args hp, CN L (m + 1) 147 args hp = run T (CN L (m + 0)) sh (keep 147) L Try.f147 args hp := fun args hp => callF_step (F := F) (by kernel_rfl) args hp
  have h := impl_size_run L (CN L (m + 0))
  simpa only [impl_size_ok, key] using h
theorem impl_divisor_all (L m : Nat) : impl_divisor_ok L (CN L (m + 2)) := by
  have key : ∀ args hp, CN L (m + 2) 194 args hp = run T (CN L (m + 1)) sh (keep 194) L Try.f194 args hp := fun args hp => callF_step (F := F) (by kernel_rfl) args hp
  have h := impl_divisor_run L (CN L (m + 1)) (impl_size_all L (m + 0))
  simpa only [impl_divisor_ok, key] using h
theorem impl_steps_all (L m : Nat) : impl_steps_ok L (CN L (m + 3)) := by
  have key : ∀ args hp, CN L (m + 3) 177 args hp = run T (CN L (m + 2)) sh (keep 177) L Try.f177 args hp := fun args hp => callF_step (F := F) (by kernel_rfl) args hp
  have h := impl_steps_run L (CN L (m + 2)) (impl_divisor_all L (m + 0))
  simpa only [impl_steps_ok, key] using h
theorem impl_around_all (L m : Nat) : impl_around_ok L (CN L (m + 4)) := by
  have key : ∀ args hp, CN L (m + 4) 151 args hp = run T (CN L (m + 3)) sh (keep 151) L Try.f151 args hp := fun args hp => callF_step (F := F) (by kernel_rfl) args hp
  have h := impl_around_run L (CN L (m + 3)) (impl_at_all L (m + 2)) (impl_steps_all L (m + 0))
  simpa only [impl_around_ok, key] using h
theorem cmp_isNaN_int_all (L m : Nat) : cmp_isNaN_int_ok L (CN L (m + 1)) := by
  have key : ∀ args hp, CN L (m + 1) 263 args hp = run T (CN L (m + 0)) sh (keep 263) L Try.f263 args hp := fun args hp => callF_step (F := F) (by kernel_rfl) args hp
  have h := cmp_isNaN_int_run L (CN L (m + 0))
  simpa only [cmp_isNaN_int_ok, key] using h
theorem cmp_Compare_int_all (L m : Nat) : cmp_Compare_int_ok L (CN L (m + 2)) := by
  have key : ∀ args hp, CN L (m + 2) 255 args hp = run T (CN L (m + 1)) sh (keep 255) L Try.f255 args hp := fun args hp => callF_step (F := F) (by kernel_rfl) args hp
  have h := cmp_Compare_int_run L (CN L (m + 1)) (cmp_isNaN_int_all L (m + 0))
  simpa only [cmp_Compare_int_ok, key] using h
theorem cmp_Or_int_all (L m : Nat) : cmp_Or_int_ok L (CN L (m + 1)) := by
  have key : ∀ args hp, CN L (m + 1) 262 args hp = run T (CN L (m + 0)) sh (keep 262) L Try.f262 args hp := fun args hp => callF_step (F := F) (by kernel_rfl) args hp
  have h := cmp_Or_int_run L (CN L (m + 0))
  simpa only [cmp_Or_int_ok, key] using h
theorem impl_comparePegs_all (L m : Nat) : impl_comparePegs_ok L (CN L (m + 3)) := by
  have key : ∀ args hp, CN L (m + 3) 251 args hp = run T (CN L (m + 2)) sh (keep 251) L Try.f251 args hp := fun args hp => callF_step (F := F) (by kernel_rfl) args hp
  have h := impl_comparePegs_run L (CN L (m + 2)) (cmp_Compare_int_all L (m + 0)) (cmp_Or_int_all L (m + 1))
  simpa only [impl_comparePegs_ok, key] using h
theorem impl_told_all (L m : Nat) : impl_told_ok L (CN L (m + 2)) := by
  have key : ∀ args hp, CN L (m + 2) 168 args hp = run T (CN L (m + 1)) sh (keep 168) L Try.f168 args hp := fun args hp => callF_step (F := F) (by kernel_rfl) args hp
  have h := impl_told_run L (CN L (m + 1)) (impl_at_all L (m + 0))
  simpa only [impl_told_ok, key] using h
theorem impl_bezout_all (L m : Nat) : impl_bezout_ok L (CN L (m + 1)) := by
  have key : ∀ args hp, CN L (m + 1) 256 args hp = run T (CN L (m + 0)) sh (keep 256) L Try.f256 args hp := fun args hp => callF_step (F := F) (by kernel_rfl) args hp
  have h := impl_bezout_run L (CN L (m + 0))
  simpa only [impl_bezout_ok, key] using h
theorem impl_Move_bring_all (L m : Nat) : impl_Move_bring_ok L (CN L (m + 1)) := by
  have key : ∀ args hp, CN L (m + 1) 182 args hp = run T (CN L (m + 0)) sh (keep 182) L Try.f182 args hp := fun args hp => callF_step (F := F) (by kernel_rfl) args hp
  have h := impl_Move_bring_run L (CN L (m + 0))
  simpa only [impl_Move_bring_ok, key] using h
theorem impl_frame_all (L m : Nat) : impl_frame_ok L (CN L (m + 2)) := by
  have key : ∀ args hp, CN L (m + 2) 233 args hp = run T (CN L (m + 1)) sh (keep 233) L Try.f233 args hp := fun args hp => callF_step (F := F) (by kernel_rfl) args hp
  have h := impl_frame_run L (CN L (m + 1)) (impl_Peg_less_all L (m + 0)) (impl_bezout_all L (m + 0)) (impl_Move_bring_all L (m + 0))
  simpa only [impl_frame_ok, key] using h
theorem slices_CompareFunc_impl_Peg_impl_Peg_impl_Peg_impl_Peg_all (L m : Nat) : slices_CompareFunc_impl_Peg_impl_Peg_impl_Peg_impl_Peg_ok L (CN L (m + 4)) := by
  have key : ∀ args hp, CN L (m + 4) 257 args hp = run T (CN L (m + 3)) sh (keep 257) L Try.f257 args hp := fun args hp => callF_step (F := F) (by kernel_rfl) args hp
  have h := slices_CompareFunc_impl_Peg_impl_Peg_impl_Peg_impl_Peg_run L (CN L (m + 3)) (impl_comparePegs_all L (m + 0))
  simpa only [slices_CompareFunc_impl_Peg_impl_Peg_impl_Peg_impl_Peg_ok, key] using h
theorem impl_comparePolygons_all (L m : Nat) : impl_comparePolygons_ok L (CN L (m + 5)) := by
  have key : ∀ args hp, CN L (m + 5) 234 args hp = run T (CN L (m + 4)) sh (keep 234) L Try.f234 args hp := fun args hp => callF_step (F := F) (by kernel_rfl) args hp
  have h := impl_comparePolygons_run L (CN L (m + 4)) (slices_CompareFunc_impl_Peg_impl_Peg_impl_Peg_impl_Peg_all L (m + 0))
  simpa only [impl_comparePolygons_ok, key] using h
theorem impl_firstFrame_all (L m : Nat) : impl_firstFrame_ok L (CN L (m + 6)) := by
  have key : ∀ args hp, CN L (m + 6) 160 args hp = run T (CN L (m + 5)) sh (keep 160) L Try.f160 args hp := fun args hp => callF_step (F := F) (by kernel_rfl) args hp
  have h := impl_firstFrame_run L (CN L (m + 5)) (impl_told_all L (m + 3)) (impl_frame_all L (m + 3)) (impl_comparePolygons_all L (m + 0))
  simpa only [impl_firstFrame_ok, key] using h
theorem slices_Equal_impl_Peg_impl_Peg_all (L m : Nat) : slices_Equal_impl_Peg_impl_Peg_ok L (CN L (m + 1)) := by
  have key : ∀ args hp, CN L (m + 1) 159 args hp = run T (CN L (m + 0)) sh (keep 159) L Try.f159 args hp := fun args hp => callF_step (F := F) (by kernel_rfl) args hp
  have h := slices_Equal_impl_Peg_impl_Peg_run L (CN L (m + 0))
  simpa only [slices_Equal_impl_Peg_impl_Peg_ok, key] using h
theorem spec_mvBefore_all (L m : Nat) : spec_mvBefore_ok L (CN L (m + 2)) := by
  have key : ∀ args hp, CN L (m + 2) 245 args hp = run T (CN L (m + 1)) sh (keep 245) L Try.f245 args hp := fun args hp => callF_step (F := F) (by kernel_rfl) args hp
  have h := spec_mvBefore_run L (CN L (m + 1)) (spec_pgLess_all L (m + 0))
  simpa only [spec_mvBefore_ok, key] using h
theorem laws_big_all (L m : Nat) : laws_big_ok L (CN L (m + 1)) := by
  have key : ∀ args hp, CN L (m + 1) 15 args hp = run T (CN L (m + 0)) sh (keep 15) L Try.f15 args hp := fun args hp => callF_step (F := F) (by kernel_rfl) args hp
  have h := laws_big_run L (CN L (m + 0))
  simpa only [laws_big_ok, key] using h
theorem spec_l1Cur_next_all (L m : Nat) : spec_l1Cur_next_ok L (CN L (m + 1)) := by
  have key : ∀ args hp, CN L (m + 1) 222 args hp = run T (CN L (m + 0)) sh (keep 222) L Try.f222 args hp := fun args hp => callF_step (F := F) (by kernel_rfl) args hp
  have h := spec_l1Cur_next_run L (CN L (m + 0))
  simpa only [spec_l1Cur_next_ok, key] using h
theorem spec_l1Cur_pick_all (L m : Nat) : spec_l1Cur_pick_ok L (CN L (m + 2)) := by
  have key : ∀ args hp, CN L (m + 2) 140 args hp = run T (CN L (m + 1)) sh (keep 140) L Try.f140 args hp := fun args hp => callF_step (F := F) (by kernel_rfl) args hp
  have h := spec_l1Cur_pick_run L (CN L (m + 1)) (spec_l1Cur_next_all L (m + 0))
  simpa only [spec_l1Cur_pick_ok, key] using h
theorem spec_l1Cur_among_v2_all (L m : Nat) : spec_l1Cur_among_v2_ok L (CN L (m + 3)) := by
  have key : ∀ args hp, CN L (m + 3) 144 args hp = run T (CN L (m + 2)) sh (keep 144) L Try.f144 args hp := fun args hp => callF_step (F := F) (by kernel_rfl) args hp
  have h := spec_l1Cur_among_v2_run L (CN L (m + 2)) (spec_l1Cur_pick_all L (m + 0))
  simpa only [spec_l1Cur_among_v2_ok, key] using h
theorem spec_l1Cur_move_all (L m : Nat) : spec_l1Cur_move_ok L (CN L (m + 4)) := by
  have key : ∀ args hp, CN L (m + 4) 180 args hp = run T (CN L (m + 3)) sh (keep 180) L Try.f180 args hp := fun args hp => callF_step (F := F) (by kernel_rfl) args hp
  have h := spec_l1Cur_move_run L (CN L (m + 3)) (spec_l1Cur_pick_all L (m + 1)) (spec_l1Cur_among_v2_all L (m + 0))
  simpa only [spec_l1Cur_move_ok, key] using h
theorem spec_l1Cur_surePeg_all (L m : Nat) : spec_l1Cur_surePeg_ok L (CN L (m + 3)) := by
  have key : ∀ args hp, CN L (m + 3) 143 args hp = run T (CN L (m + 2)) sh (keep 143) L Try.f143 args hp := fun args hp => callF_step (F := F) (by kernel_rfl) args hp
  have h := spec_l1Cur_surePeg_run L (CN L (m + 2)) (spec_l1Cur_pick_all L (m + 0))
  simpa only [spec_l1Cur_surePeg_ok, key] using h
theorem spec_l1Cur_one_all (L m : Nat) : spec_l1Cur_one_ok L (CN L (m + 3)) := by
  have key : ∀ args hp, CN L (m + 3) 138 args hp = run T (CN L (m + 2)) sh (keep 138) L Try.f138 args hp := fun args hp => callF_step (F := F) (by kernel_rfl) args hp
  have h := spec_l1Cur_one_run L (CN L (m + 2)) (spec_l1Cur_pick_all L (m + 0))
  simpa only [spec_l1Cur_one_ok, key] using h
theorem spec_l1Cur_surePolygon_all (L m : Nat) : spec_l1Cur_surePolygon_ok L (CN L (m + 5)) := by
  have key : ∀ args hp, CN L (m + 5) 240 args hp = run T (CN L (m + 4)) sh (keep 240) L Try.f240 args hp := fun args hp => callF_step (F := F) (by kernel_rfl) args hp
  have h := spec_l1Cur_surePolygon_run L (CN L (m + 4)) (spec_pgGood_all L (m + 0)) (spec_pgBack_all L (m + 3)) (spec_l1Cur_pick_all L (m + 2)) (spec_l1Cur_surePeg_all L (m + 1)) (spec_l1Cur_one_all L (m + 1))
  simpa only [spec_l1Cur_surePolygon_ok, key] using h
theorem spec_l1Cur_peg_all (L m : Nat) : spec_l1Cur_peg_ok L (CN L (m + 4)) := by
  have key : ∀ args hp, CN L (m + 4) 141 args hp = run T (CN L (m + 3)) sh (keep 141) L Try.f141 args hp := fun args hp => callF_step (F := F) (by kernel_rfl) args hp
  have h := spec_l1Cur_peg_run L (CN L (m + 3)) (spec_l1Cur_among_v2_all L (m + 0)) (spec_l1Cur_surePeg_all L (m + 0)) (spec_l1Cur_one_all L (m + 0))
  simpa only [spec_l1Cur_peg_ok, key] using h
theorem spec_l1Cur_polygon_all (L m : Nat) : spec_l1Cur_polygon_ok L (CN L (m + 6)) := by
  have key : ∀ args hp, CN L (m + 6) 178 args hp = run T (CN L (m + 5)) sh (keep 178) L Try.f178 args hp := fun args hp => callF_step (F := F) (by kernel_rfl) args hp
  have h := spec_l1Cur_polygon_run L (CN L (m + 5)) (spec_l1Cur_pick_all L (m + 3)) (spec_l1Cur_surePolygon_all L (m + 0)) (spec_l1Cur_peg_all L (m + 1))
  simpa only [spec_l1Cur_polygon_ok, key] using h
theorem spec_DrawMoveCorners_all (L m : Nat) : spec_DrawMoveCorners_ok L (CN L (m + 7)) := by
  have key : ∀ args hp, CN L (m + 7) 64 args hp = run T (CN L (m + 6)) sh (keep 64) L Try.f64 args hp := fun args hp => callF_step (F := F) (by kernel_rfl) args hp
  have h := spec_DrawMoveCorners_run L (CN L (m + 6)) (spec_l1Cur_move_all L (m + 2)) (spec_l1Cur_polygon_all L (m + 0))
  simpa only [spec_DrawMoveCorners_ok, key] using h
theorem impl_isWay_all (L m : Nat) : impl_isWay_ok L (CN L (m + 2)) := by
  have key : ∀ args hp, CN L (m + 2) 186 args hp = run T (CN L (m + 1)) sh (keep 186) L Try.f186 args hp := fun args hp => callF_step (F := F) (by kernel_rfl) args hp
  have h := impl_isWay_run L (CN L (m + 1)) (impl_size_all L (m + 0))
  simpa only [impl_isWay_ok, key] using h
theorem impl_Move_side_all (L m : Nat) : impl_Move_side_ok L (CN L (m + 1)) := by
  have key : ∀ args hp, CN L (m + 1) 185 args hp = run T (CN L (m + 0)) sh (keep 185) L Try.f185 args hp := fun args hp => callF_step (F := F) (by kernel_rfl) args hp
  have h := impl_Move_side_run L (CN L (m + 0))
  simpa only [impl_Move_side_ok, key] using h
theorem impl_IsMove_all (L m : Nat) : impl_IsMove_ok L (CN L (m + 3)) := by
  have key : ∀ args hp, CN L (m + 3) 68 args hp = run T (CN L (m + 2)) sh (keep 68) L Try.f68 args hp := fun args hp => callF_step (F := F) (by kernel_rfl) args hp
  have h := impl_IsMove_run L (CN L (m + 2)) (impl_within_all L (m + 1)) (impl_size_all L (m + 1)) (impl_isWay_all L (m + 0)) (impl_Move_side_all L (m + 1))
  simpa only [impl_IsMove_ok, key] using h
theorem impl_changed_impl_Move_bring_all (L m : Nat) : impl_changed_impl_Move_bring_ok L (CN L (m + 8)) := by
  have key : ∀ args hp, CN L (m + 8) 181 args hp = run T (CN L (m + 7)) sh (keep 181) L Try.f181 args hp := fun args hp => callF_step (F := F) (by kernel_rfl) args hp
  have h := impl_changed_impl_Move_bring_run L (CN L (m + 7)) (impl_arePegs_all L (m + 1)) (impl_IsPolygon_all L (m + 0)) (impl_Move_bring_all L (m + 6))
  simpa only [impl_changed_impl_Move_bring_ok, key] using h
theorem impl_MoveCorners_all (L m : Nat) : impl_MoveCorners_ok L (CN L (m + 9)) := by
  have key : ∀ args hp, CN L (m + 9) 65 args hp = run T (CN L (m + 8)) sh (keep 65) L Try.f65 args hp := fun args hp => callF_step (F := F) (by kernel_rfl) args hp
  have h := impl_MoveCorners_run L (CN L (m + 8)) (impl_IsMove_all L (m + 5)) (impl_changed_impl_Move_bring_all L (m + 0))
  simpa only [impl_MoveCorners_ok, key] using h
theorem spec_l1All_all (L m : Nat) : spec_l1All_ok L (CN L (m + 2)) := by
  have key : ∀ args hp, CN L (m + 2) 146 args hp = run T (CN L (m + 1)) sh (keep 146) L Try.f146 args hp := fun args hp => callF_step (F := F) (by kernel_rfl) args hp
  have h := spec_l1All_run L (CN L (m + 1)) (spec_l1In_all L (m + 0))
  simpa only [spec_l1All_ok, key] using h
theorem spec_mvGood_all (L m : Nat) : spec_mvGood_ok L (CN L (m + 3)) := by
  have key : ∀ args hp, CN L (m + 3) 183 args hp = run T (CN L (m + 2)) sh (keep 183) L Try.f183 args hp := fun args hp => callF_step (F := F) (by kernel_rfl) args hp
  have h := spec_mvGood_run L (CN L (m + 2)) (spec_l1Abs_all L (m + 0)) (spec_l1All_all L (m + 0))
  simpa only [spec_mvGood_ok, key] using h
theorem spec_pgMap_all (L m : Nat) : spec_pgMap_ok L (CN L (m + 3)) := by
  have key : ∀ args hp, CN L (m + 3) 184 args hp = run T (CN L (m + 2)) sh (keep 184) L Try.f184 args hp := fun args hp => callF_step (F := F) (by kernel_rfl) args hp
  have h := spec_pgMap_run L (CN L (m + 2)) (spec_pgIs_all L (m + 0))
  simpa only [spec_pgMap_ok, key] using h
theorem spec_MoveCorners_all (L m : Nat) : spec_MoveCorners_ok L (CN L (m + 5)) := by
  have key : ∀ args hp, CN L (m + 5) 66 args hp = run T (CN L (m + 4)) sh (keep 66) L Try.f66 args hp := fun args hp => callF_step (F := F) (by kernel_rfl) args hp
  have h := spec_MoveCorners_run L (CN L (m + 4)) (spec_pgGood_all L (m + 0)) (spec_mvGood_all L (m + 1)) (spec_pgMap_all L (m + 1))
  simpa only [spec_MoveCorners_ok, key] using h
theorem laws_zPegs_all (L m : Nat) : laws_zPegs_ok L (CN L (m + 1)) := by
  have key : ∀ args hp, CN L (m + 1) 55 args hp = run T (CN L (m + 0)) sh (keep 55) L Try.f55 args hp := fun args hp => callF_step (F := F) (by kernel_rfl) args hp
  have h := laws_zPegs_run L (CN L (m + 0))
  simpa only [laws_zPegs_ok, key] using h
theorem impl_SideOfMove_all (L m : Nat) : impl_SideOfMove_ok L (CN L (m + 4)) := by
  have key : ∀ args hp, CN L (m + 4) 67 args hp = run T (CN L (m + 3)) sh (keep 67) L Try.f67 args hp := fun args hp => callF_step (F := F) (by kernel_rfl) args hp
  have h := impl_SideOfMove_run L (CN L (m + 3)) (impl_Move_side_all L (m + 2)) (impl_IsMove_all L (m + 0))
  simpa only [impl_SideOfMove_ok, key] using h
theorem impl_TwiceArea_all (L m : Nat) : impl_TwiceArea_ok L (CN L (m + 8)) := by
  have key : ∀ args hp, CN L (m + 8) 20 args hp = run T (CN L (m + 7)) sh (keep 20) L Try.f20 args hp := fun args hp => callF_step (F := F) (by kernel_rfl) args hp
  have h := impl_TwiceArea_run L (CN L (m + 7)) (impl_IsPolygon_all L (m + 0)) (impl_twice_all L (m + 5))
  simpa only [impl_TwiceArea_ok, key] using h
theorem impl_PegsOn_all (L m : Nat) : impl_PegsOn_ok L (CN L (m + 8)) := by
  have key : ∀ args hp, CN L (m + 8) 35 args hp = run T (CN L (m + 7)) sh (keep 35) L Try.f35 args hp := fun args hp => callF_step (F := F) (by kernel_rfl) args hp
  have h := impl_PegsOn_run L (CN L (m + 7)) (impl_IsPolygon_all L (m + 0)) (impl_around_all L (m + 3))
  simpa only [impl_PegsOn_ok, key] using h
theorem impl_MovePeg_all (L m : Nat) : impl_MovePeg_ok L (CN L (m + 4)) := by
  have key : ∀ args hp, CN L (m + 4) 69 args hp = run T (CN L (m + 3)) sh (keep 69) L Try.f69 args hp := fun args hp => callF_step (F := F) (by kernel_rfl) args hp
  have h := impl_MovePeg_run L (CN L (m + 3)) (impl_IsPeg_all L (m + 1)) (impl_Move_bring_all L (m + 2)) (impl_IsMove_all L (m + 0))
  simpa only [impl_MovePeg_ok, key] using h
theorem impl_AreAlike_all (L m : Nat) : impl_AreAlike_ok L (CN L (m + 8)) := by
  have key : ∀ args hp, CN L (m + 8) 70 args hp = run T (CN L (m + 7)) sh (keep 70) L Try.f70 args hp := fun args hp => callF_step (F := F) (by kernel_rfl) args hp
  have h := impl_AreAlike_run L (CN L (m + 7)) (impl_IsPolygon_all L (m + 0)) (impl_firstFrame_all L (m + 1)) (slices_Equal_impl_Peg_impl_Peg_all L (m + 6))
  simpa only [impl_AreAlike_ok, key] using h
theorem spec_DrawJoinMoves_all (L m : Nat) : spec_DrawJoinMoves_ok L (CN L (m + 5)) := by
  have key : ∀ args hp, CN L (m + 5) 71 args hp = run T (CN L (m + 4)) sh (keep 71) L Try.f71 args hp := fun args hp => callF_step (F := F) (by kernel_rfl) args hp
  have h := spec_DrawJoinMoves_run L (CN L (m + 4)) (spec_l1Cur_move_all L (m + 0))
  simpa only [spec_DrawJoinMoves_ok, key] using h
theorem impl_checkedMove_all (L m : Nat) : impl_checkedMove_ok L (CN L (m + 4)) := by
  have key : ∀ args hp, CN L (m + 4) 187 args hp = run T (CN L (m + 3)) sh (keep 187) L Try.f187 args hp := fun args hp => callF_step (F := F) (by kernel_rfl) args hp
  have h := impl_checkedMove_run L (CN L (m + 3)) (impl_IsMove_all L (m + 0))
  simpa only [impl_checkedMove_ok, key] using h
theorem impl_JoinMoves_all (L m : Nat) : impl_JoinMoves_ok L (CN L (m + 5)) := by
  have key : ∀ args hp, CN L (m + 5) 72 args hp = run T (CN L (m + 4)) sh (keep 72) L Try.f72 args hp := fun args hp => callF_step (F := F) (by kernel_rfl) args hp
  have h := impl_JoinMoves_run L (CN L (m + 4)) (impl_Move_bring_all L (m + 3)) (impl_IsMove_all L (m + 1)) (impl_checkedMove_all L (m + 0))
  simpa only [impl_JoinMoves_ok, key] using h
theorem spec_mvPeg_all (L m : Nat) : spec_mvPeg_ok L (CN L (m + 1)) := by
  have key : ∀ args hp, CN L (m + 1) 188 args hp = run T (CN L (m + 0)) sh (keep 188) L Try.f188 args hp := fun args hp => callF_step (F := F) (by kernel_rfl) args hp
  have h := spec_mvPeg_run L (CN L (m + 0))
  simpa only [spec_mvPeg_ok, key] using h
theorem spec_mvIf_all (L m : Nat) : spec_mvIf_ok L (CN L (m + 4)) := by
  have key : ∀ args hp, CN L (m + 4) 189 args hp = run T (CN L (m + 3)) sh (keep 189) L Try.f189 args hp := fun args hp => callF_step (F := F) (by kernel_rfl) args hp
  have h := spec_mvIf_run L (CN L (m + 3)) (spec_mvGood_all L (m + 0))
  simpa only [spec_mvIf_ok, key] using h
theorem spec_JoinMoves_all (L m : Nat) : spec_JoinMoves_ok L (CN L (m + 5)) := by
  have key : ∀ args hp, CN L (m + 5) 73 args hp = run T (CN L (m + 4)) sh (keep 73) L Try.f73 args hp := fun args hp => callF_step (F := F) (by kernel_rfl) args hp
  have h := spec_JoinMoves_run L (CN L (m + 4)) (spec_mvGood_all L (m + 1)) (spec_mvPeg_all L (m + 3)) (spec_mvIf_all L (m + 0))
  simpa only [spec_JoinMoves_ok, key] using h
theorem spec_DrawIsMove_all (L m : Nat) : spec_DrawIsMove_ok L (CN L (m + 5)) := by
  have key : ∀ args hp, CN L (m + 5) 190 args hp = run T (CN L (m + 4)) sh (keep 190) L Try.f190 args hp := fun args hp => callF_step (F := F) (by kernel_rfl) args hp
  have h := spec_DrawIsMove_run L (CN L (m + 4)) (spec_l1Cur_move_all L (m + 0))
  simpa only [spec_DrawIsMove_ok, key] using h
theorem spec_DrawBackMove_all (L m : Nat) : spec_DrawBackMove_ok L (CN L (m + 6)) := by
  have key : ∀ args hp, CN L (m + 6) 74 args hp = run T (CN L (m + 5)) sh (keep 74) L Try.f74 args hp := fun args hp => callF_step (F := F) (by kernel_rfl) args hp
  have h := spec_DrawBackMove_run L (CN L (m + 5)) (spec_DrawIsMove_all L (m + 0))
  simpa only [spec_DrawBackMove_ok, key] using h
theorem impl_BackMove_all (L m : Nat) : impl_BackMove_ok L (CN L (m + 5)) := by
  have key : ∀ args hp, CN L (m + 5) 75 args hp = run T (CN L (m + 4)) sh (keep 75) L Try.f75 args hp := fun args hp => callF_step (F := F) (by kernel_rfl) args hp
  have h := impl_BackMove_run L (CN L (m + 4)) (impl_Move_bring_all L (m + 3)) (impl_Move_side_all L (m + 3)) (impl_IsMove_all L (m + 1)) (impl_checkedMove_all L (m + 0))
  simpa only [impl_BackMove_ok, key] using h
theorem spec_BackMove_all (L m : Nat) : spec_BackMove_ok L (CN L (m + 5)) := by
  have key : ∀ args hp, CN L (m + 5) 76 args hp = run T (CN L (m + 4)) sh (keep 76) L Try.f76 args hp := fun args hp => callF_step (F := F) (by kernel_rfl) args hp
  have h := spec_BackMove_run L (CN L (m + 4)) (spec_mvGood_all L (m + 1)) (spec_mvPeg_all L (m + 3)) (spec_mvIf_all L (m + 0))
  simpa only [spec_BackMove_ok, key] using h
theorem spec_SideOfMove_all (L m : Nat) : spec_SideOfMove_ok L (CN L (m + 4)) := by
  have key : ∀ args hp, CN L (m + 4) 77 args hp = run T (CN L (m + 3)) sh (keep 77) L Try.f77 args hp := fun args hp => callF_step (F := F) (by kernel_rfl) args hp
  have h := spec_SideOfMove_run L (CN L (m + 3)) (spec_mvGood_all L (m + 0))
  simpa only [spec_SideOfMove_ok, key] using h
theorem spec_DrawMovePeg_all (L m : Nat) : spec_DrawMovePeg_ok L (CN L (m + 5)) := by
  have key : ∀ args hp, CN L (m + 5) 78 args hp = run T (CN L (m + 4)) sh (keep 78) L Try.f78 args hp := fun args hp => callF_step (F := F) (by kernel_rfl) args hp
  have h := spec_DrawMovePeg_run L (CN L (m + 4)) (spec_l1Cur_move_all L (m + 0)) (spec_l1Cur_peg_all L (m + 0))
  simpa only [spec_DrawMovePeg_ok, key] using h
theorem spec_MovePeg_all (L m : Nat) : spec_MovePeg_ok L (CN L (m + 4)) := by
  have key : ∀ args hp, CN L (m + 4) 79 args hp = run T (CN L (m + 3)) sh (keep 79) L Try.f79 args hp := fun args hp => callF_step (F := F) (by kernel_rfl) args hp
  have h := spec_MovePeg_run L (CN L (m + 3)) (spec_pgIs_all L (m + 1)) (spec_mvGood_all L (m + 0)) (spec_mvPeg_all L (m + 2))
  simpa only [spec_MovePeg_ok, key] using h
theorem spec_DrawShearMove_all (L m : Nat) : spec_DrawShearMove_ok L (CN L (m + 4)) := by
  have key : ∀ args hp, CN L (m + 4) 80 args hp = run T (CN L (m + 3)) sh (keep 80) L Try.f80 args hp := fun args hp => callF_step (F := F) (by kernel_rfl) args hp
  have h := spec_DrawShearMove_run L (CN L (m + 3)) (spec_l1Cur_among_v2_all L (m + 0))
  simpa only [spec_DrawShearMove_ok, key] using h
theorem impl_ShearMove_all (L m : Nat) : impl_ShearMove_ok L (CN L (m + 5)) := by
  have key : ∀ args hp, CN L (m + 5) 81 args hp = run T (CN L (m + 4)) sh (keep 81) L Try.f81 args hp := fun args hp => callF_step (F := F) (by kernel_rfl) args hp
  have h := impl_ShearMove_run L (CN L (m + 4)) (impl_checkedMove_all L (m + 0))
  simpa only [impl_ShearMove_ok, key] using h
theorem spec_ShearMove_all (L m : Nat) : spec_ShearMove_ok L (CN L (m + 2)) := by
  have key : ∀ args hp, CN L (m + 2) 82 args hp = run T (CN L (m + 1)) sh (keep 82) L Try.f82 args hp := fun args hp => callF_step (F := F) (by kernel_rfl) args hp
  have h := spec_ShearMove_run L (CN L (m + 1)) (spec_l1In_all L (m + 0))
  simpa only [spec_ShearMove_ok, key] using h
theorem spec_IsMove_all (L m : Nat) : spec_IsMove_ok L (CN L (m + 4)) := by
  have key : ∀ args hp, CN L (m + 4) 83 args hp = run T (CN L (m + 3)) sh (keep 83) L Try.f83 args hp := fun args hp => callF_step (F := F) (by kernel_rfl) args hp
  have h := spec_IsMove_run L (CN L (m + 3)) (spec_mvGood_all L (m + 0))
  simpa only [spec_IsMove_ok, key] using h
theorem laws_FnMovesKeep_all (L m : Nat) : laws_FnMovesKeep_ok L (CN L (m + 10)) := by
  have key : ∀ args hp, CN L (m + 10) 7 args hp = run T (CN L (m + 9)) sh (keep 7) L Try.f7 args hp := fun args hp => callF_step (F := F) (by kernel_rfl) args hp
  have h := laws_FnMovesKeep_run L (CN L (m + 9)) (impl_IsPolygon_all L (m + 2)) (laws_big_all L (m + 8)) (spec_DrawMoveCorners_all L (m + 2)) (impl_IsMove_all L (m + 6)) (impl_MoveCorners_all L (m + 0)) (spec_MoveCorners_all L (m + 4)) (laws_zPegs_all L (m + 8)) (impl_SideOfMove_all L (m + 5)) (impl_TwiceArea_all L (m + 1)) (impl_PegsOn_all L (m + 1)) (impl_MovePeg_all L (m + 5)) (impl_AreAlike_all L (m + 1)) (spec_DrawJoinMoves_all L (m + 4)) (impl_JoinMoves_all L (m + 4)) (spec_JoinMoves_all L (m + 4)) (spec_DrawBackMove_all L (m + 3)) (impl_BackMove_all L (m + 4)) (spec_BackMove_all L (m + 4)) (spec_SideOfMove_all L (m + 5)) (spec_DrawMovePeg_all L (m + 4)) (spec_MovePeg_all L (m + 5)) (spec_DrawShearMove_all L (m + 5)) (impl_ShearMove_all L (m + 4)) (spec_ShearMove_all L (m + 7)) (spec_IsMove_all L (m + 5))
  simpa only [laws_FnMovesKeep_ok, key] using h
end Go.AM
