import Derived.Test.YtokhceheoccfhaaAmM1
import Derived.KernelRfl
set_option linter.unusedVariables false
set_option linter.unusedSimpArgs false
set_option linter.unnecessarySimpa false
set_option linter.deprecated false
set_option linter.unusedSectionVars false
open Go Go.AM Go.Proofs
namespace Go.AM
set_option maxRecDepth 100000

noncomputable def rowsF : List (Nat × Func) := [(3, Try.f3), (15, Try.f15), (16, Try.f16), (17, Try.f17), (18, Try.f18), (19, Try.f19), (20, Try.f20), (21, Try.f21), (22, Try.f22), (23, Try.f23), (24, Try.f24), (25, Try.f25), (26, Try.f26), (27, Try.f27), (28, Try.f28), (29, Try.f29), (30, Try.f30), (31, Try.f31), (32, Try.f32), (33, Try.f33), (34, Try.f34), (35, Try.f35), (55, Try.f55), (56, Try.f56), (108, Try.f108), (127, Try.f127), (128, Try.f128), (129, Try.f129), (130, Try.f130), (131, Try.f131), (132, Try.f132), (133, Try.f133), (134, Try.f134), (135, Try.f135), (136, Try.f136), (137, Try.f137), (138, Try.f138), (139, Try.f139), (140, Try.f140), (141, Try.f141), (142, Try.f142), (143, Try.f143), (144, Try.f144), (145, Try.f145), (146, Try.f146), (147, Try.f147), (148, Try.f148), (149, Try.f149), (150, Try.f150), (151, Try.f151), (164, Try.f164), (165, Try.f165), (169, Try.f169), (172, Try.f172), (173, Try.f173), (174, Try.f174), (175, Try.f175), (176, Try.f176), (177, Try.f177), (178, Try.f178), (179, Try.f179), (182, Try.f182), (188, Try.f188), (191, Try.f191), (194, Try.f194), (195, Try.f195), (196, Try.f196), (197, Try.f197), (198, Try.f198), (199, Try.f199), (202, Try.f202), (220, Try.f220), (221, Try.f221), (222, Try.f222), (223, Try.f223), (233, Try.f233), (236, Try.f236), (237, Try.f237), (238, Try.f238), (239, Try.f239), (240, Try.f240), (256, Try.f256), (258, Try.f258)]
theorem fok3 : FOk Try.prog sh keep (3, Try.f3) := ⟨Try.func3, by kernel_rfl, by kernel_rfl⟩
theorem fok15 : FOk Try.prog sh keep (15, Try.f15) := ⟨Try.func15, by kernel_rfl, by kernel_rfl⟩
theorem fok16 : FOk Try.prog sh keep (16, Try.f16) := ⟨Try.func16, by kernel_rfl, by kernel_rfl⟩
theorem fok17 : FOk Try.prog sh keep (17, Try.f17) := ⟨Try.func17, by kernel_rfl, by kernel_rfl⟩
theorem fok18 : FOk Try.prog sh keep (18, Try.f18) := ⟨Try.func18, by kernel_rfl, by kernel_rfl⟩
theorem fok19 : FOk Try.prog sh keep (19, Try.f19) := ⟨Try.func19, by kernel_rfl, by kernel_rfl⟩
theorem fok20 : FOk Try.prog sh keep (20, Try.f20) := ⟨Try.func20, by kernel_rfl, by kernel_rfl⟩
theorem fok21 : FOk Try.prog sh keep (21, Try.f21) := ⟨Try.func21, by kernel_rfl, by kernel_rfl⟩
theorem fok22 : FOk Try.prog sh keep (22, Try.f22) := ⟨Try.func22, by kernel_rfl, by kernel_rfl⟩
theorem fok23 : FOk Try.prog sh keep (23, Try.f23) := ⟨Try.func23, by kernel_rfl, by kernel_rfl⟩
theorem fok24 : FOk Try.prog sh keep (24, Try.f24) := ⟨Try.func24, by kernel_rfl, by kernel_rfl⟩
theorem fok25 : FOk Try.prog sh keep (25, Try.f25) := ⟨Try.func25, by kernel_rfl, by kernel_rfl⟩
theorem fok26 : FOk Try.prog sh keep (26, Try.f26) := ⟨Try.func26, by kernel_rfl, by kernel_rfl⟩
theorem fok27 : FOk Try.prog sh keep (27, Try.f27) := ⟨Try.func27, by kernel_rfl, by kernel_rfl⟩
theorem fok28 : FOk Try.prog sh keep (28, Try.f28) := ⟨Try.func28, by kernel_rfl, by kernel_rfl⟩
theorem fok29 : FOk Try.prog sh keep (29, Try.f29) := ⟨Try.func29, by kernel_rfl, by kernel_rfl⟩
theorem fok30 : FOk Try.prog sh keep (30, Try.f30) := ⟨Try.func30, by kernel_rfl, by kernel_rfl⟩
theorem fok31 : FOk Try.prog sh keep (31, Try.f31) := ⟨Try.func31, by kernel_rfl, by kernel_rfl⟩
theorem fok32 : FOk Try.prog sh keep (32, Try.f32) := ⟨Try.func32, by kernel_rfl, by kernel_rfl⟩
theorem fok33 : FOk Try.prog sh keep (33, Try.f33) := ⟨Try.func33, by kernel_rfl, by kernel_rfl⟩
theorem fok34 : FOk Try.prog sh keep (34, Try.f34) := ⟨Try.func34, by kernel_rfl, by kernel_rfl⟩
theorem fok35 : FOk Try.prog sh keep (35, Try.f35) := ⟨Try.func35, by kernel_rfl, by kernel_rfl⟩
theorem fok55 : FOk Try.prog sh keep (55, Try.f55) := ⟨Try.func55, by kernel_rfl, by kernel_rfl⟩
theorem fok56 : FOk Try.prog sh keep (56, Try.f56) := ⟨Try.func56, by kernel_rfl, by kernel_rfl⟩
theorem fok108 : FOk Try.prog sh keep (108, Try.f108) := ⟨Try.func108, by kernel_rfl, by kernel_rfl⟩
theorem fok127 : FOk Try.prog sh keep (127, Try.f127) := ⟨Try.func127, by kernel_rfl, by kernel_rfl⟩
theorem fok128 : FOk Try.prog sh keep (128, Try.f128) := ⟨Try.func128, by kernel_rfl, by kernel_rfl⟩
theorem fok129 : FOk Try.prog sh keep (129, Try.f129) := ⟨Try.func129, by kernel_rfl, by kernel_rfl⟩
theorem fok130 : FOk Try.prog sh keep (130, Try.f130) := ⟨Try.func130, by kernel_rfl, by kernel_rfl⟩
theorem fok131 : FOk Try.prog sh keep (131, Try.f131) := ⟨Try.func131, by kernel_rfl, by kernel_rfl⟩
theorem fok132 : FOk Try.prog sh keep (132, Try.f132) := ⟨Try.func132, by kernel_rfl, by kernel_rfl⟩
theorem fok133 : FOk Try.prog sh keep (133, Try.f133) := ⟨Try.func133, by kernel_rfl, by kernel_rfl⟩
theorem fok134 : FOk Try.prog sh keep (134, Try.f134) := ⟨Try.func134, by kernel_rfl, by kernel_rfl⟩
theorem fok135 : FOk Try.prog sh keep (135, Try.f135) := ⟨Try.func135, by kernel_rfl, by kernel_rfl⟩
theorem fok136 : FOk Try.prog sh keep (136, Try.f136) := ⟨Try.func136, by kernel_rfl, by kernel_rfl⟩
theorem fok137 : FOk Try.prog sh keep (137, Try.f137) := ⟨Try.func137, by kernel_rfl, by kernel_rfl⟩
theorem fok138 : FOk Try.prog sh keep (138, Try.f138) := ⟨Try.func138, by kernel_rfl, by kernel_rfl⟩
theorem fok139 : FOk Try.prog sh keep (139, Try.f139) := ⟨Try.func139, by kernel_rfl, by kernel_rfl⟩
theorem fok140 : FOk Try.prog sh keep (140, Try.f140) := ⟨Try.func140, by kernel_rfl, by kernel_rfl⟩
theorem fok141 : FOk Try.prog sh keep (141, Try.f141) := ⟨Try.func141, by kernel_rfl, by kernel_rfl⟩
theorem fok142 : FOk Try.prog sh keep (142, Try.f142) := ⟨Try.func142, by kernel_rfl, by kernel_rfl⟩
theorem fok143 : FOk Try.prog sh keep (143, Try.f143) := ⟨Try.func143, by kernel_rfl, by kernel_rfl⟩
theorem fok144 : FOk Try.prog sh keep (144, Try.f144) := ⟨Try.func144, by kernel_rfl, by kernel_rfl⟩
theorem fok145 : FOk Try.prog sh keep (145, Try.f145) := ⟨Try.func145, by kernel_rfl, by kernel_rfl⟩
theorem fok146 : FOk Try.prog sh keep (146, Try.f146) := ⟨Try.func146, by kernel_rfl, by kernel_rfl⟩
theorem fok147 : FOk Try.prog sh keep (147, Try.f147) := ⟨Try.func147, by kernel_rfl, by kernel_rfl⟩
theorem fok148 : FOk Try.prog sh keep (148, Try.f148) := ⟨Try.func148, by kernel_rfl, by kernel_rfl⟩
theorem fok149 : FOk Try.prog sh keep (149, Try.f149) := ⟨Try.func149, by kernel_rfl, by kernel_rfl⟩
theorem fok150 : FOk Try.prog sh keep (150, Try.f150) := ⟨Try.func150, by kernel_rfl, by kernel_rfl⟩
theorem fok151 : FOk Try.prog sh keep (151, Try.f151) := ⟨Try.func151, by kernel_rfl, by kernel_rfl⟩
theorem fok164 : FOk Try.prog sh keep (164, Try.f164) := ⟨Try.func164, by kernel_rfl, by kernel_rfl⟩
theorem fok165 : FOk Try.prog sh keep (165, Try.f165) := ⟨Try.func165, by kernel_rfl, by kernel_rfl⟩
theorem fok169 : FOk Try.prog sh keep (169, Try.f169) := ⟨Try.func169, by kernel_rfl, by kernel_rfl⟩
theorem fok172 : FOk Try.prog sh keep (172, Try.f172) := ⟨Try.func172, by kernel_rfl, by kernel_rfl⟩
theorem fok173 : FOk Try.prog sh keep (173, Try.f173) := ⟨Try.func173, by kernel_rfl, by kernel_rfl⟩
theorem fok174 : FOk Try.prog sh keep (174, Try.f174) := ⟨Try.func174, by kernel_rfl, by kernel_rfl⟩
theorem fok175 : FOk Try.prog sh keep (175, Try.f175) := ⟨Try.func175, by kernel_rfl, by kernel_rfl⟩
theorem fok176 : FOk Try.prog sh keep (176, Try.f176) := ⟨Try.func176, by kernel_rfl, by kernel_rfl⟩
theorem fok177 : FOk Try.prog sh keep (177, Try.f177) := ⟨Try.func177, by kernel_rfl, by kernel_rfl⟩
theorem fok178 : FOk Try.prog sh keep (178, Try.f178) := ⟨Try.func178, by kernel_rfl, by kernel_rfl⟩
theorem fok179 : FOk Try.prog sh keep (179, Try.f179) := ⟨Try.func179, by kernel_rfl, by kernel_rfl⟩
theorem fok182 : FOk Try.prog sh keep (182, Try.f182) := ⟨Try.func182, by kernel_rfl, by kernel_rfl⟩
theorem fok188 : FOk Try.prog sh keep (188, Try.f188) := ⟨Try.func188, by kernel_rfl, by kernel_rfl⟩
theorem fok191 : FOk Try.prog sh keep (191, Try.f191) := ⟨Try.func191, by kernel_rfl, by kernel_rfl⟩
theorem fok194 : FOk Try.prog sh keep (194, Try.f194) := ⟨Try.func194, by kernel_rfl, by kernel_rfl⟩
theorem fok195 : FOk Try.prog sh keep (195, Try.f195) := ⟨Try.func195, by kernel_rfl, by kernel_rfl⟩
theorem fok196 : FOk Try.prog sh keep (196, Try.f196) := ⟨Try.func196, by kernel_rfl, by kernel_rfl⟩
theorem fok197 : FOk Try.prog sh keep (197, Try.f197) := ⟨Try.func197, by kernel_rfl, by kernel_rfl⟩
theorem fok198 : FOk Try.prog sh keep (198, Try.f198) := ⟨Try.func198, by kernel_rfl, by kernel_rfl⟩
theorem fok199 : FOk Try.prog sh keep (199, Try.f199) := ⟨Try.func199, by kernel_rfl, by kernel_rfl⟩
theorem fok202 : FOk Try.prog sh keep (202, Try.f202) := ⟨Try.func202, by kernel_rfl, by kernel_rfl⟩
theorem fok220 : FOk Try.prog sh keep (220, Try.f220) := ⟨Try.func220, by kernel_rfl, by kernel_rfl⟩
theorem fok221 : FOk Try.prog sh keep (221, Try.f221) := ⟨Try.func221, by kernel_rfl, by kernel_rfl⟩
theorem fok222 : FOk Try.prog sh keep (222, Try.f222) := ⟨Try.func222, by kernel_rfl, by kernel_rfl⟩
theorem fok223 : FOk Try.prog sh keep (223, Try.f223) := ⟨Try.func223, by kernel_rfl, by kernel_rfl⟩
theorem fok233 : FOk Try.prog sh keep (233, Try.f233) := ⟨Try.func233, by kernel_rfl, by kernel_rfl⟩
theorem fok236 : FOk Try.prog sh keep (236, Try.f236) := ⟨Try.func236, by kernel_rfl, by kernel_rfl⟩
theorem fok237 : FOk Try.prog sh keep (237, Try.f237) := ⟨Try.func237, by kernel_rfl, by kernel_rfl⟩
theorem fok238 : FOk Try.prog sh keep (238, Try.f238) := ⟨Try.func238, by kernel_rfl, by kernel_rfl⟩
theorem fok239 : FOk Try.prog sh keep (239, Try.f239) := ⟨Try.func239, by kernel_rfl, by kernel_rfl⟩
theorem fok240 : FOk Try.prog sh keep (240, Try.f240) := ⟨Try.func240, by kernel_rfl, by kernel_rfl⟩
theorem fok256 : FOk Try.prog sh keep (256, Try.f256) := ⟨Try.func256, by kernel_rfl, by kernel_rfl⟩
theorem fok258 : FOk Try.prog sh keep (258, Try.f258) := ⟨Try.func258, by kernel_rfl, by kernel_rfl⟩
theorem fokAll : ∀ p ∈ rowsF, FOk Try.prog sh keep p :=
  fOk_cons fok3 (fOk_cons fok15 (fOk_cons fok16 (fOk_cons fok17 (fOk_cons fok18 (fOk_cons fok19 (fOk_cons fok20 (fOk_cons fok21 (fOk_cons fok22 (fOk_cons fok23 (fOk_cons fok24 (fOk_cons fok25 (fOk_cons fok26 (fOk_cons fok27 (fOk_cons fok28 (fOk_cons fok29 (fOk_cons fok30 (fOk_cons fok31 (fOk_cons fok32 (fOk_cons fok33 (fOk_cons fok34 (fOk_cons fok35 (fOk_cons fok55 (fOk_cons fok56 (fOk_cons fok108 (fOk_cons fok127 (fOk_cons fok128 (fOk_cons fok129 (fOk_cons fok130 (fOk_cons fok131 (fOk_cons fok132 (fOk_cons fok133 (fOk_cons fok134 (fOk_cons fok135 (fOk_cons fok136 (fOk_cons fok137 (fOk_cons fok138 (fOk_cons fok139 (fOk_cons fok140 (fOk_cons fok141 (fOk_cons fok142 (fOk_cons fok143 (fOk_cons fok144 (fOk_cons fok145 (fOk_cons fok146 (fOk_cons fok147 (fOk_cons fok148 (fOk_cons fok149 (fOk_cons fok150 (fOk_cons fok151 (fOk_cons fok164 (fOk_cons fok165 (fOk_cons fok169 (fOk_cons fok172 (fOk_cons fok173 (fOk_cons fok174 (fOk_cons fok175 (fOk_cons fok176 (fOk_cons fok177 (fOk_cons fok178 (fOk_cons fok179 (fOk_cons fok182 (fOk_cons fok188 (fOk_cons fok191 (fOk_cons fok194 (fOk_cons fok195 (fOk_cons fok196 (fOk_cons fok197 (fOk_cons fok198 (fOk_cons fok199 (fOk_cons fok202 (fOk_cons fok220 (fOk_cons fok221 (fOk_cons fok222 (fOk_cons fok223 (fOk_cons fok233 (fOk_cons fok236 (fOk_cons fok237 (fOk_cons fok238 (fOk_cons fok239 (fOk_cons fok240 (fOk_cons fok256 (fOk_cons fok258 fOk_nil))))))))))))))))))))))))))))))))))))))))))))))))))))))))))))))))))))))))))))))))))
theorem tokAll : rowsT.all (tiR Try.prog) = true := by kernel_rfl
noncomputable def F : FuncId → Option Func := findL rowsF
noncomputable def CN (L n : Nat) : CF := callF T F sh keep L n
theorem cn_sound (L n : Nat) : CSound Try.prog (CN L n) := callF_sound tokAll fokAll (by kernel_rfl) L n
theorem spec_l1In_all (L m : Nat) : spec_l1In_ok L (CN L (m + 1)) := by
  have key : ∀ args hp, CN L (m + 1) 191 args hp = run T (CN L (m + 0)) sh (keep 191) L Try.f191 args hp := fun args hp => callF_step (F := F) (by kernel_rfl) args hp
  have h := spec_l1In_run L (CN L (m + 0))
  simpa only [spec_l1In_ok, key] using h
theorem spec_pgIs_all (L m : Nat) : spec_pgIs_ok L (CN L (m + 2)) := by
  have key : ∀ args hp, CN L (m + 2) 131 args hp = run T (CN L (m + 1)) sh (keep 131) L Try.f131 args hp := fun args hp => callF_step (F := F) (by kernel_rfl) args hp
  have h := spec_pgIs_run L (CN L (m + 1)) (spec_l1In_all L (m + 0))
  simpa only [spec_pgIs_ok, key] using h
theorem spec_pgTurn_all (L m : Nat) : spec_pgTurn_ok L (CN L (m + 1)) := by
  have key : ∀ args hp, CN L (m + 1) 221 args hp = run T (CN L (m + 0)) sh (keep 221) L Try.f221 args hp := fun args hp => callF_step (F := F) (by kernel_rfl) args hp
  have h := spec_pgTurn_run L (CN L (m + 0))
  simpa only [spec_pgTurn_ok, key] using h
theorem spec_pgOn_all (L m : Nat) : spec_pgOn_ok L (CN L (m + 2)) := by
  have key : ∀ args hp, CN L (m + 2) 223 args hp = run T (CN L (m + 1)) sh (keep 223) L Try.f223 args hp := fun args hp => callF_step (F := F) (by kernel_rfl) args hp
  have h := spec_pgOn_run L (CN L (m + 1)) (spec_pgTurn_all L (m + 0))
  simpa only [spec_pgOn_ok, key] using h
theorem spec_l1Sign_all (L m : Nat) : spec_l1Sign_ok L (CN L (m + 1)) := by
  have key : ∀ args hp, CN L (m + 1) 198 args hp = run T (CN L (m + 0)) sh (keep 198) L Try.f198 args hp := fun args hp => callF_step (F := F) (by kernel_rfl) args hp
  have h := spec_l1Sign_run L (CN L (m + 0))
  simpa only [spec_l1Sign_ok, key] using h
theorem spec_pgMeet_all (L m : Nat) : spec_pgMeet_ok L (CN L (m + 3)) := by
  have key : ∀ args hp, CN L (m + 3) 236 args hp = run T (CN L (m + 2)) sh (keep 236) L Try.f236 args hp := fun args hp => callF_step (F := F) (by kernel_rfl) args hp
  have h := spec_pgMeet_run L (CN L (m + 2)) (spec_pgTurn_all L (m + 1)) (spec_pgOn_all L (m + 0)) (spec_l1Sign_all L (m + 1))
  simpa only [spec_pgMeet_ok, key] using h
theorem spec_pgGood_all (L m : Nat) : spec_pgGood_ok L (CN L (m + 4)) := by
  have key : ∀ args hp, CN L (m + 4) 164 args hp = run T (CN L (m + 3)) sh (keep 164) L Try.f164 args hp := fun args hp => callF_step (F := F) (by kernel_rfl) args hp
  have h := spec_pgGood_run L (CN L (m + 3)) (spec_l1In_all L (m + 2)) (spec_pgIs_all L (m + 1)) (spec_pgTurn_all L (m + 2)) (spec_pgMeet_all L (m + 0))
  simpa only [spec_pgGood_ok, key] using h
theorem spec_pgArea_all (L m : Nat) : spec_pgArea_ok L (CN L (m + 2)) := by
  have key : ∀ args hp, CN L (m + 2) 145 args hp = run T (CN L (m + 1)) sh (keep 145) L Try.f145 args hp := fun args hp => callF_step (F := F) (by kernel_rfl) args hp
  have h := spec_pgArea_run L (CN L (m + 1)) (spec_pgTurn_all L (m + 0))
  simpa only [spec_pgArea_ok, key] using h
theorem spec_l1Most_all (L m : Nat) : spec_l1Most_ok L (CN L (m + 1)) := by
  have key : ∀ args hp, CN L (m + 1) 197 args hp = run T (CN L (m + 0)) sh (keep 197) L Try.f197 args hp := fun args hp => callF_step (F := F) (by kernel_rfl) args hp
  have h := spec_l1Most_run L (CN L (m + 0))
  simpa only [spec_l1Most_ok, key] using h
theorem spec_l1Abs_all (L m : Nat) : spec_l1Abs_ok L (CN L (m + 2)) := by
  have key : ∀ args hp, CN L (m + 2) 148 args hp = run T (CN L (m + 1)) sh (keep 148) L Try.f148 args hp := fun args hp => callF_step (F := F) (by kernel_rfl) args hp
  have h := spec_l1Abs_run L (CN L (m + 1)) (spec_l1Most_all L (m + 0))
  simpa only [spec_l1Abs_ok, key] using h
theorem spec_pgCommon_all (L m : Nat) : spec_pgCommon_ok L (CN L (m + 3)) := by
  have key : ∀ args hp, CN L (m + 3) 195 args hp = run T (CN L (m + 2)) sh (keep 195) L Try.f195 args hp := fun args hp => callF_step (F := F) (by kernel_rfl) args hp
  have h := spec_pgCommon_run L (CN L (m + 2)) (spec_l1Abs_all L (m + 0))
  simpa only [spec_pgCommon_ok, key] using h
theorem spec_pgStep_all (L m : Nat) : spec_pgStep_ok L (CN L (m + 4)) := by
  have key : ∀ args hp, CN L (m + 4) 220 args hp = run T (CN L (m + 3)) sh (keep 220) L Try.f220 args hp := fun args hp => callF_step (F := F) (by kernel_rfl) args hp
  have h := spec_pgStep_run L (CN L (m + 3)) (spec_pgCommon_all L (m + 0))
  simpa only [spec_pgStep_ok, key] using h
theorem spec_pgRound_all (L m : Nat) : spec_pgRound_ok L (CN L (m + 5)) := by
  have key : ∀ args hp, CN L (m + 5) 165 args hp = run T (CN L (m + 4)) sh (keep 165) L Try.f165 args hp := fun args hp => callF_step (F := F) (by kernel_rfl) args hp
  have h := spec_pgRound_run L (CN L (m + 4)) (spec_pgStep_all L (m + 0))
  simpa only [spec_pgRound_ok, key] using h
theorem spec_pgInside_all (L m : Nat) : spec_pgInside_ok L (CN L (m + 6)) := by
  have key : ∀ args hp, CN L (m + 6) 150 args hp = run T (CN L (m + 5)) sh (keep 150) L Try.f150 args hp := fun args hp => callF_step (F := F) (by kernel_rfl) args hp
  have h := spec_pgInside_run L (CN L (m + 5)) (spec_pgArea_all L (m + 3)) (spec_l1Abs_all L (m + 3)) (spec_pgRound_all L (m + 0))
  simpa only [spec_pgInside_ok, key] using h
theorem spec_pgWhere_all (L m : Nat) : spec_pgWhere_ok L (CN L (m + 3)) := by
  have key : ∀ args hp, CN L (m + 3) 142 args hp = run T (CN L (m + 2)) sh (keep 142) L Try.f142 args hp := fun args hp => callF_step (F := F) (by kernel_rfl) args hp
  have h := spec_pgWhere_run L (CN L (m + 2)) (spec_pgTurn_all L (m + 1)) (spec_pgOn_all L (m + 0))
  simpa only [spec_pgWhere_ok, key] using h
theorem spec_pgBack_all (L m : Nat) : spec_pgBack_ok L (CN L (m + 1)) := by
  have key : ∀ args hp, CN L (m + 1) 169 args hp = run T (CN L (m + 0)) sh (keep 169) L Try.f169 args hp := fun args hp => callF_step (F := F) (by kernel_rfl) args hp
  have h := spec_pgBack_run L (CN L (m + 0))
  simpa only [spec_pgBack_ok, key] using h
theorem impl_within_all (L m : Nat) : impl_within_ok L (CN L (m + 1)) := by
  have key : ∀ args hp, CN L (m + 1) 134 args hp = run T (CN L (m + 0)) sh (keep 134) L Try.f134 args hp := fun args hp => callF_step (F := F) (by kernel_rfl) args hp
  have h := impl_within_run L (CN L (m + 0))
  simpa only [impl_within_ok, key] using h
theorem impl_IsPeg_all (L m : Nat) : impl_IsPeg_ok L (CN L (m + 2)) := by
  have key : ∀ args hp, CN L (m + 2) 128 args hp = run T (CN L (m + 1)) sh (keep 128) L Try.f128 args hp := fun args hp => callF_step (F := F) (by kernel_rfl) args hp
  have h := impl_IsPeg_run L (CN L (m + 1)) (impl_within_all L (m + 0))
  simpa only [impl_IsPeg_ok, key] using h
theorem impl_arePegs_1_all (L m : Nat) : impl_arePegs_1_ok L (CN L (m + 3)) := by
  have key : ∀ args hp, CN L (m + 3) 238 args hp = run T (CN L (m + 2)) sh (keep 238) L Try.f238 args hp := fun args hp => callF_step (F := F) (by kernel_rfl) args hp
  have h := impl_arePegs_1_run L (CN L (m + 2)) (impl_IsPeg_all L (m + 0))
  simpa only [impl_arePegs_1_ok, key] using h
theorem slices_IndexFunc_impl_Peg_impl_Peg_arePegs_all (L m : Nat) : slices_IndexFunc_impl_Peg_impl_Peg_arePegs_ok L (CN L (m + 4)) := by
  have key : ∀ args hp, CN L (m + 4) 258 args hp = run T (CN L (m + 3)) sh (keep 258) L Try.f258 args hp := fun args hp => callF_step (F := F) (by kernel_rfl) args hp
  have h := slices_IndexFunc_impl_Peg_impl_Peg_arePegs_run L (CN L (m + 3)) (impl_arePegs_1_all L (m + 0))
  simpa only [slices_IndexFunc_impl_Peg_impl_Peg_arePegs_ok, key] using h
theorem slices_ContainsFunc_impl_Peg_impl_Peg_arePegs_all (L m : Nat) : slices_ContainsFunc_impl_Peg_impl_Peg_arePegs_ok L (CN L (m + 5)) := by
  have key : ∀ args hp, CN L (m + 5) 237 args hp = run T (CN L (m + 4)) sh (keep 237) L Try.f237 args hp := fun args hp => callF_step (F := F) (by kernel_rfl) args hp
  have h := slices_ContainsFunc_impl_Peg_impl_Peg_arePegs_run L (CN L (m + 4)) (slices_IndexFunc_impl_Peg_impl_Peg_arePegs_all L (m + 0))
  simpa only [slices_ContainsFunc_impl_Peg_impl_Peg_arePegs_ok, key] using h
theorem impl_arePegs_all (L m : Nat) : impl_arePegs_ok L (CN L (m + 6)) := by
  have key : ∀ args hp, CN L (m + 6) 172 args hp = run T (CN L (m + 5)) sh (keep 172) L Try.f172 args hp := fun args hp => callF_step (F := F) (by kernel_rfl) args hp
  have h := impl_arePegs_run L (CN L (m + 5)) (slices_ContainsFunc_impl_Peg_impl_Peg_arePegs_all L (m + 0))
  simpa only [impl_arePegs_ok, key] using h
theorem slices_Index_impl_Peg_impl_Peg_all (L m : Nat) : slices_Index_impl_Peg_impl_Peg_ok L (CN L (m + 1)) := by
  have key : ∀ args hp, CN L (m + 1) 239 args hp = run T (CN L (m + 0)) sh (keep 239) L Try.f239 args hp := fun args hp => callF_step (F := F) (by kernel_rfl) args hp
  have h := slices_Index_impl_Peg_impl_Peg_run L (CN L (m + 0))
  simpa only [slices_Index_impl_Peg_impl_Peg_ok, key] using h
theorem slices_Contains_impl_Peg_impl_Peg_all (L m : Nat) : slices_Contains_impl_Peg_impl_Peg_ok L (CN L (m + 2)) := by
  have key : ∀ args hp, CN L (m + 2) 173 args hp = run T (CN L (m + 1)) sh (keep 173) L Try.f173 args hp := fun args hp => callF_step (F := F) (by kernel_rfl) args hp
  have h := slices_Contains_impl_Peg_impl_Peg_run L (CN L (m + 1)) (slices_Index_impl_Peg_impl_Peg_all L (m + 0))
  simpa only [slices_Contains_impl_Peg_impl_Peg_ok, key] using h
theorem impl_at_all (L m : Nat) : impl_at_ok L (CN L (m + 1)) := by
  have key : ∀ args hp, CN L (m + 1) 175 args hp = run T (CN L (m + 0)) sh (keep 175) L Try.f175 args hp := fun args hp => callF_step (F := F) (by kernel_rfl) args hp
  have h := impl_at_run L (CN L (m + 0))
  simpa only [impl_at_ok, key] using h
theorem impl_Peg_less_all (L m : Nat) : impl_Peg_less_ok L (CN L (m + 1)) := by
  have key : ∀ args hp, CN L (m + 1) 199 args hp = run T (CN L (m + 0)) sh (keep 199) L Try.f199 args hp := fun args hp => callF_step (F := F) (by kernel_rfl) args hp
  have h := impl_Peg_less_run L (CN L (m + 0))
  simpa only [impl_Peg_less_ok, key] using h
theorem impl_cross_all (L m : Nat) : impl_cross_ok L (CN L (m + 1)) := by
  have key : ∀ args hp, CN L (m + 1) 202 args hp = run T (CN L (m + 0)) sh (keep 202) L Try.f202 args hp := fun args hp => callF_step (F := F) (by kernel_rfl) args hp
  have h := impl_cross_run L (CN L (m + 0))
  simpa only [impl_cross_ok, key] using h
theorem impl_turn_all (L m : Nat) : impl_turn_ok L (CN L (m + 2)) := by
  have key : ∀ args hp, CN L (m + 2) 174 args hp = run T (CN L (m + 1)) sh (keep 174) L Try.f174 args hp := fun args hp => callF_step (F := F) (by kernel_rfl) args hp
  have h := impl_turn_run L (CN L (m + 1)) (impl_Peg_less_all L (m + 0)) (impl_cross_all L (m + 0))
  simpa only [impl_turn_ok, key] using h
theorem impl_sign_all (L m : Nat) : impl_sign_ok L (CN L (m + 1)) := by
  have key : ∀ args hp, CN L (m + 1) 196 args hp = run T (CN L (m + 0)) sh (keep 196) L Try.f196 args hp := fun args hp => callF_step (F := F) (by kernel_rfl) args hp
  have h := impl_sign_run L (CN L (m + 0))
  simpa only [impl_sign_ok, key] using h
theorem impl_isOn_all (L m : Nat) : impl_isOn_ok L (CN L (m + 3)) := by
  have key : ∀ args hp, CN L (m + 3) 179 args hp = run T (CN L (m + 2)) sh (keep 179) L Try.f179 args hp := fun args hp => callF_step (F := F) (by kernel_rfl) args hp
  have h := impl_isOn_run L (CN L (m + 2)) (impl_within_all L (m + 1)) (impl_turn_all L (m + 0))
  simpa only [impl_isOn_ok, key] using h
theorem impl_meet_all (L m : Nat) : impl_meet_ok L (CN L (m + 4)) := by
  have key : ∀ args hp, CN L (m + 4) 176 args hp = run T (CN L (m + 3)) sh (keep 176) L Try.f176 args hp := fun args hp => callF_step (F := F) (by kernel_rfl) args hp
  have h := impl_meet_run L (CN L (m + 3)) (impl_turn_all L (m + 1)) (impl_sign_all L (m + 2)) (impl_isOn_all L (m + 0))
  simpa only [impl_meet_ok, key] using h
theorem impl_IsPolygon_all (L m : Nat) : impl_IsPolygon_ok L (CN L (m + 7)) := by
  have key : ∀ args hp, CN L (m + 7) 56 args hp = run T (CN L (m + 6)) sh (keep 56) L Try.f56 args hp := fun args hp => callF_step (F := F) (by kernel_rfl) args hp
  have h := impl_IsPolygon_run L (CN L (m + 6)) (impl_within_all L (m + 5)) (impl_arePegs_all L (m + 0)) (slices_Contains_impl_Peg_impl_Peg_all L (m + 4)) (impl_at_all L (m + 5)) (impl_turn_all L (m + 4)) (impl_meet_all L (m + 2))
  simpa only [impl_IsPolygon_ok, key] using h
theorem impl_twice_all (L m : Nat) : impl_twice_ok L (CN L (m + 2)) := by
  have key : ∀ args hp, CN L (m + 2) 133 args hp = run T (CN L (m + 1)) sh (keep 133) L Try.f133 args hp := fun args hp => callF_step (F := F) (by kernel_rfl) args hp
  have h := impl_twice_run L (CN L (m + 1)) (impl_at_all L (m + 0)) (impl_cross_all L (m + 0))
  simpa only [impl_twice_ok, key] using h
theorem impl_size_all (L m : Nat) : impl_size_ok L (CN L (m + 1)) := by
  have key : ∀ args hp, CN L (m + 1) 147 args hp = run T (CN L (m + 0)) sh (keep 147) L Try.f147 args hp := fun args hp => callF_step (F := F) (by kernel_rfl) args hp
  have h := impl_size_run L (CN L (m + 0))
  simpa only [impl_size_ok, key] using h
theorem impl_divisor_all (L m : Nat) : impl_divisor_ok L (CN L (m + 2)) := by
  have key : ∀ args hp, CN L (m + 2) 194 args hp = run T (CN L (m + 1)) sh (keep 194) L Try.f194 args hp := fun args hp => callF_step (F := F) (by kernel_rfl) args hp
  have h := impl_divisor_run L (CN L (m + 1)) (impl_size_all L (m + 0))
  simpa only [impl_divisor_ok, key] using h
theorem impl_steps_all (L m : Nat) : impl_steps_ok L (CN L (m + 3)) := by
  have key : ∀ args hp, CN L (m + 3) 177 args hp = run T (CN L (m + 2)) sh (keep 177) L Try.f177 args hp := fun args hp => callF_step (F := F) (by kernel_rfl) args hp
  have h := impl_steps_run L (CN L (m + 2)) (impl_divisor_all L (m + 0))
  simpa only [impl_steps_ok, key] using h
theorem impl_around_all (L m : Nat) : impl_around_ok L (CN L (m + 4)) := by
  have key : ∀ args hp, CN L (m + 4) 151 args hp = run T (CN L (m + 3)) sh (keep 151) L Try.f151 args hp := fun args hp => callF_step (F := F) (by kernel_rfl) args hp
  have h := impl_around_run L (CN L (m + 3)) (impl_at_all L (m + 2)) (impl_steps_all L (m + 0))
  simpa only [impl_around_ok, key] using h
theorem impl_inner_all (L m : Nat) : impl_inner_ok L (CN L (m + 5)) := by
  have key : ∀ args hp, CN L (m + 5) 149 args hp = run T (CN L (m + 4)) sh (keep 149) L Try.f149 args hp := fun args hp => callF_step (F := F) (by kernel_rfl) args hp
  have h := impl_inner_run L (CN L (m + 4)) (impl_twice_all L (m + 2)) (impl_size_all L (m + 3)) (impl_around_all L (m + 0))
  simpa only [impl_inner_ok, key] using h
theorem impl_where_all (L m : Nat) : impl_where_ok L (CN L (m + 4)) := by
  have key : ∀ args hp, CN L (m + 4) 136 args hp = run T (CN L (m + 3)) sh (keep 136) L Try.f136 args hp := fun args hp => callF_step (F := F) (by kernel_rfl) args hp
  have h := impl_where_run L (CN L (m + 3)) (impl_at_all L (m + 2)) (impl_turn_all L (m + 1)) (impl_isOn_all L (m + 0))
  simpa only [impl_where_ok, key] using h
theorem impl_Peg_plus_all (L m : Nat) : impl_Peg_plus_ok L (CN L (m + 1)) := by
  have key : ∀ args hp, CN L (m + 1) 135 args hp = run T (CN L (m + 0)) sh (keep 135) L Try.f135 args hp := fun args hp => callF_step (F := F) (by kernel_rfl) args hp
  have h := impl_Peg_plus_run L (CN L (m + 0))
  simpa only [impl_Peg_plus_ok, key] using h
theorem impl_bezout_all (L m : Nat) : impl_bezout_ok L (CN L (m + 1)) := by
  have key : ∀ args hp, CN L (m + 1) 256 args hp = run T (CN L (m + 0)) sh (keep 256) L Try.f256 args hp := fun args hp => callF_step (F := F) (by kernel_rfl) args hp
  have h := impl_bezout_run L (CN L (m + 0))
  simpa only [impl_bezout_ok, key] using h
theorem impl_Move_bring_all (L m : Nat) : impl_Move_bring_ok L (CN L (m + 1)) := by
  have key : ∀ args hp, CN L (m + 1) 182 args hp = run T (CN L (m + 0)) sh (keep 182) L Try.f182 args hp := fun args hp => callF_step (F := F) (by kernel_rfl) args hp
  have h := impl_Move_bring_run L (CN L (m + 0))
  simpa only [impl_Move_bring_ok, key] using h
theorem impl_frame_all (L m : Nat) : impl_frame_ok L (CN L (m + 2)) := by
  have key : ∀ args hp, CN L (m + 2) 233 args hp = run T (CN L (m + 1)) sh (keep 233) L Try.f233 args hp := fun args hp => callF_step (F := F) (by kernel_rfl) args hp
  have h := impl_frame_run L (CN L (m + 1)) (impl_Peg_less_all L (m + 0)) (impl_bezout_all L (m + 0)) (impl_Move_bring_all L (m + 0))
  simpa only [impl_frame_ok, key] using h
theorem laws_big_all (L m : Nat) : laws_big_ok L (CN L (m + 1)) := by
  have key : ∀ args hp, CN L (m + 1) 15 args hp = run T (CN L (m + 0)) sh (keep 15) L Try.f15 args hp := fun args hp => callF_step (F := F) (by kernel_rfl) args hp
  have h := laws_big_run L (CN L (m + 0))
  simpa only [laws_big_ok, key] using h
theorem spec_l1Cur_next_all (L m : Nat) : spec_l1Cur_next_ok L (CN L (m + 1)) := by
  have key : ∀ args hp, CN L (m + 1) 222 args hp = run T (CN L (m + 0)) sh (keep 222) L Try.f222 args hp := fun args hp => callF_step (F := F) (by kernel_rfl) args hp
  have h := spec_l1Cur_next_run L (CN L (m + 0))
  simpa only [spec_l1Cur_next_ok, key] using h
theorem spec_l1Cur_pick_all (L m : Nat) : spec_l1Cur_pick_ok L (CN L (m + 2)) := by
  have key : ∀ args hp, CN L (m + 2) 140 args hp = run T (CN L (m + 1)) sh (keep 140) L Try.f140 args hp := fun args hp => callF_step (F := F) (by kernel_rfl) args hp
  have h := spec_l1Cur_pick_run L (CN L (m + 1)) (spec_l1Cur_next_all L (m + 0))
  simpa only [spec_l1Cur_pick_ok, key] using h
theorem spec_l1Cur_among_v2_all (L m : Nat) : spec_l1Cur_among_v2_ok L (CN L (m + 3)) := by
  have key : ∀ args hp, CN L (m + 3) 144 args hp = run T (CN L (m + 2)) sh (keep 144) L Try.f144 args hp := fun args hp => callF_step (F := F) (by kernel_rfl) args hp
  have h := spec_l1Cur_among_v2_run L (CN L (m + 2)) (spec_l1Cur_pick_all L (m + 0))
  simpa only [spec_l1Cur_among_v2_ok, key] using h
theorem spec_l1Cur_surePeg_all (L m : Nat) : spec_l1Cur_surePeg_ok L (CN L (m + 3)) := by
  have key : ∀ args hp, CN L (m + 3) 143 args hp = run T (CN L (m + 2)) sh (keep 143) L Try.f143 args hp := fun args hp => callF_step (F := F) (by kernel_rfl) args hp
  have h := spec_l1Cur_surePeg_run L (CN L (m + 2)) (spec_l1Cur_pick_all L (m + 0))
  simpa only [spec_l1Cur_surePeg_ok, key] using h
theorem spec_l1Cur_one_all (L m : Nat) : spec_l1Cur_one_ok L (CN L (m + 3)) := by
  have key : ∀ args hp, CN L (m + 3) 138 args hp = run T (CN L (m + 2)) sh (keep 138) L Try.f138 args hp := fun args hp => callF_step (F := F) (by kernel_rfl) args hp
  have h := spec_l1Cur_one_run L (CN L (m + 2)) (spec_l1Cur_pick_all L (m + 0))
  simpa only [spec_l1Cur_one_ok, key] using h
theorem spec_l1Cur_surePolygon_all (L m : Nat) : spec_l1Cur_surePolygon_ok L (CN L (m + 5)) := by
  have key : ∀ args hp, CN L (m + 5) 240 args hp = run T (CN L (m + 4)) sh (keep 240) L Try.f240 args hp := fun args hp => callF_step (F := F) (by kernel_rfl) args hp
  have h := spec_l1Cur_surePolygon_run L (CN L (m + 4)) (spec_pgGood_all L (m + 0)) (spec_pgBack_all L (m + 3)) (spec_l1Cur_pick_all L (m + 2)) (spec_l1Cur_surePeg_all L (m + 1)) (spec_l1Cur_one_all L (m + 1))
  simpa only [spec_l1Cur_surePolygon_ok, key] using h
theorem spec_l1Cur_peg_all (L m : Nat) : spec_l1Cur_peg_ok L (CN L (m + 4)) := by
  have key : ∀ args hp, CN L (m + 4) 141 args hp = run T (CN L (m + 3)) sh (keep 141) L Try.f141 args hp := fun args hp => callF_step (F := F) (by kernel_rfl) args hp
  have h := spec_l1Cur_peg_run L (CN L (m + 3)) (spec_l1Cur_among_v2_all L (m + 0)) (spec_l1Cur_surePeg_all L (m + 0)) (spec_l1Cur_one_all L (m + 0))
  simpa only [spec_l1Cur_peg_ok, key] using h
theorem spec_l1Cur_polygon_all (L m : Nat) : spec_l1Cur_polygon_ok L (CN L (m + 6)) := by
  have key : ∀ args hp, CN L (m + 6) 178 args hp = run T (CN L (m + 5)) sh (keep 178) L Try.f178 args hp := fun args hp => callF_step (F := F) (by kernel_rfl) args hp
  have h := spec_l1Cur_polygon_run L (CN L (m + 5)) (spec_l1Cur_pick_all L (m + 3)) (spec_l1Cur_surePolygon_all L (m + 0)) (spec_l1Cur_peg_all L (m + 1))
  simpa only [spec_l1Cur_polygon_ok, key] using h
theorem spec_l1All_all (L m : Nat) : spec_l1All_ok L (CN L (m + 2)) := by
  have key : ∀ args hp, CN L (m + 2) 146 args hp = run T (CN L (m + 1)) sh (keep 146) L Try.f146 args hp := fun args hp => callF_step (F := F) (by kernel_rfl) args hp
  have h := spec_l1All_run L (CN L (m + 1)) (spec_l1In_all L (m + 0))
  simpa only [spec_l1All_ok, key] using h
theorem laws_zPegs_all (L m : Nat) : laws_zPegs_ok L (CN L (m + 1)) := by
  have key : ∀ args hp, CN L (m + 1) 55 args hp = run T (CN L (m + 0)) sh (keep 55) L Try.f55 args hp := fun args hp => callF_step (F := F) (by kernel_rfl) args hp
  have h := laws_zPegs_run L (CN L (m + 0))
  simpa only [laws_zPegs_ok, key] using h
theorem impl_TwiceArea_all (L m : Nat) : impl_TwiceArea_ok L (CN L (m + 8)) := by
  have key : ∀ args hp, CN L (m + 8) 20 args hp = run T (CN L (m + 7)) sh (keep 20) L Try.f20 args hp := fun args hp => callF_step (F := F) (by kernel_rfl) args hp
  have h := impl_TwiceArea_run L (CN L (m + 7)) (impl_IsPolygon_all L (m + 0)) (impl_twice_all L (m + 5))
  simpa only [impl_TwiceArea_ok, key] using h
theorem impl_PegsOn_all (L m : Nat) : impl_PegsOn_ok L (CN L (m + 8)) := by
  have key : ∀ args hp, CN L (m + 8) 35 args hp = run T (CN L (m + 7)) sh (keep 35) L Try.f35 args hp := fun args hp => callF_step (F := F) (by kernel_rfl) args hp
  have h := impl_PegsOn_run L (CN L (m + 7)) (impl_IsPolygon_all L (m + 0)) (impl_around_all L (m + 3))
  simpa only [impl_PegsOn_ok, key] using h
theorem spec_mvPeg_all (L m : Nat) : spec_mvPeg_ok L (CN L (m + 1)) := by
  have key : ∀ args hp, CN L (m + 1) 188 args hp = run T (CN L (m + 0)) sh (keep 188) L Try.f188 args hp := fun args hp => callF_step (F := F) (by kernel_rfl) args hp
  have h := spec_mvPeg_run L (CN L (m + 0))
  simpa only [spec_mvPeg_ok, key] using h
theorem spec_l1Cur_three_all (L m : Nat) : spec_l1Cur_three_ok L (CN L (m + 7)) := by
  have key : ∀ args hp, CN L (m + 7) 137 args hp = run T (CN L (m + 6)) sh (keep 137) L Try.f137 args hp := fun args hp => callF_step (F := F) (by kernel_rfl) args hp
  have h := spec_l1Cur_three_run L (CN L (m + 6)) (spec_l1Cur_pick_all L (m + 4)) (spec_l1Cur_surePeg_all L (m + 3)) (spec_l1Cur_one_all L (m + 3)) (spec_l1Cur_polygon_all L (m + 0))
  simpa only [spec_l1Cur_three_ok, key] using h
theorem spec_DrawInCircle_all (L m : Nat) : spec_DrawInCircle_ok L (CN L (m + 8)) := by
  have key : ∀ args hp, CN L (m + 8) 108 args hp = run T (CN L (m + 7)) sh (keep 108) L Try.f108 args hp := fun args hp => callF_step (F := F) (by kernel_rfl) args hp
  have h := spec_DrawInCircle_run L (CN L (m + 7)) (spec_l1Cur_pick_all L (m + 5)) (spec_l1Cur_one_all L (m + 4)) (spec_l1Cur_peg_all L (m + 3)) (spec_l1Cur_three_all L (m + 0))
  simpa only [spec_DrawInCircle_ok, key] using h
theorem spec_DrawPartsOfPeg_all (L m : Nat) : spec_DrawPartsOfPeg_ok L (CN L (m + 9)) := by
  have key : ∀ args hp, CN L (m + 9) 16 args hp = run T (CN L (m + 8)) sh (keep 16) L Try.f16 args hp := fun args hp => callF_step (F := F) (by kernel_rfl) args hp
  have h := spec_DrawPartsOfPeg_run L (CN L (m + 8)) (spec_DrawInCircle_all L (m + 0))
  simpa only [spec_DrawPartsOfPeg_ok, key] using h
theorem impl_isThree_all (L m : Nat) : impl_isThree_ok L (CN L (m + 8)) := by
  have key : ∀ args hp, CN L (m + 8) 127 args hp = run T (CN L (m + 7)) sh (keep 127) L Try.f127 args hp := fun args hp => callF_step (F := F) (by kernel_rfl) args hp
  have h := impl_isThree_run L (CN L (m + 7)) (impl_IsPolygon_all L (m + 0))
  simpa only [impl_isThree_ok, key] using h
theorem impl_parts_all (L m : Nat) : impl_parts_ok L (CN L (m + 3)) := by
  have key : ∀ args hp, CN L (m + 3) 129 args hp = run T (CN L (m + 2)) sh (keep 129) L Try.f129 args hp := fun args hp => callF_step (F := F) (by kernel_rfl) args hp
  have h := impl_parts_run L (CN L (m + 2)) (impl_turn_all L (m + 0))
  simpa only [impl_parts_ok, key] using h
theorem impl_PartsOfPeg_all (L m : Nat) : impl_PartsOfPeg_ok L (CN L (m + 9)) := by
  have key : ∀ args hp, CN L (m + 9) 17 args hp = run T (CN L (m + 8)) sh (keep 17) L Try.f17 args hp := fun args hp => callF_step (F := F) (by kernel_rfl) args hp
  have h := impl_PartsOfPeg_run L (CN L (m + 8)) (impl_IsPeg_all L (m + 6)) (impl_isThree_all L (m + 0)) (impl_parts_all L (m + 5))
  simpa only [impl_PartsOfPeg_ok, key] using h
theorem spec_trThree_all (L m : Nat) : spec_trThree_ok L (CN L (m + 5)) := by
  have key : ∀ args hp, CN L (m + 5) 130 args hp = run T (CN L (m + 4)) sh (keep 130) L Try.f130 args hp := fun args hp => callF_step (F := F) (by kernel_rfl) args hp
  have h := spec_trThree_run L (CN L (m + 4)) (spec_pgGood_all L (m + 0))
  simpa only [spec_trThree_ok, key] using h
theorem spec_trParts_all (L m : Nat) : spec_trParts_ok L (CN L (m + 2)) := by
  have key : ∀ args hp, CN L (m + 2) 132 args hp = run T (CN L (m + 1)) sh (keep 132) L Try.f132 args hp := fun args hp => callF_step (F := F) (by kernel_rfl) args hp
  have h := spec_trParts_run L (CN L (m + 1)) (spec_pgTurn_all L (m + 0))
  simpa only [spec_trParts_ok, key] using h
theorem spec_PartsOfPeg_all (L m : Nat) : spec_PartsOfPeg_ok L (CN L (m + 6)) := by
  have key : ∀ args hp, CN L (m + 6) 18 args hp = run T (CN L (m + 5)) sh (keep 18) L Try.f18 args hp := fun args hp => callF_step (F := F) (by kernel_rfl) args hp
  have h := spec_PartsOfPeg_run L (CN L (m + 5)) (spec_pgIs_all L (m + 3)) (spec_trThree_all L (m + 0)) (spec_trParts_all L (m + 3))
  simpa only [spec_PartsOfPeg_ok, key] using h
theorem laws_zSame_all (L m : Nat) : laws_zSame_ok L (CN L (m + 1)) := by
  have key : ∀ args hp, CN L (m + 1) 19 args hp = run T (CN L (m + 0)) sh (keep 19) L Try.f19 args hp := fun args hp => callF_step (F := F) (by kernel_rfl) args hp
  have h := laws_zSame_run L (CN L (m + 0))
  simpa only [laws_zSame_ok, key] using h
theorem impl_PegOfParts_all (L m : Nat) : impl_PegOfParts_ok L (CN L (m + 9)) := by
  have key : ∀ args hp, CN L (m + 9) 21 args hp = run T (CN L (m + 8)) sh (keep 21) L Try.f21 args hp := fun args hp => callF_step (F := F) (by kernel_rfl) args hp
  have h := impl_PegOfParts_run L (CN L (m + 8)) (impl_within_all L (m + 7)) (impl_IsPeg_all L (m + 6)) (impl_twice_all L (m + 6)) (impl_Peg_plus_all L (m + 7)) (impl_isThree_all L (m + 0))
  simpa only [impl_PegOfParts_ok, key] using h
theorem impl_WhereIs_all (L m : Nat) : impl_WhereIs_ok L (CN L (m + 8)) := by
  have key : ∀ args hp, CN L (m + 8) 22 args hp = run T (CN L (m + 7)) sh (keep 22) L Try.f22 args hp := fun args hp => callF_step (F := F) (by kernel_rfl) args hp
  have h := impl_WhereIs_run L (CN L (m + 7)) (impl_IsPeg_all L (m + 5)) (impl_IsPolygon_all L (m + 0)) (impl_where_all L (m + 3))
  simpa only [impl_WhereIs_ok, key] using h
theorem spec_pgList_all (L m : Nat) : spec_pgList_ok L (CN L (m + 4)) := by
  have key : ∀ args hp, CN L (m + 4) 139 args hp = run T (CN L (m + 3)) sh (keep 139) L Try.f139 args hp := fun args hp => callF_step (F := F) (by kernel_rfl) args hp
  have h := spec_pgList_run L (CN L (m + 3)) (spec_pgWhere_all L (m + 0))
  simpa only [spec_pgList_ok, key] using h
theorem spec_DrawSplitThree_all (L m : Nat) : spec_DrawSplitThree_ok L (CN L (m + 8)) := by
  have key : ∀ args hp, CN L (m + 8) 23 args hp = run T (CN L (m + 7)) sh (keep 23) L Try.f23 args hp := fun args hp => callF_step (F := F) (by kernel_rfl) args hp
  have h := spec_DrawSplitThree_run L (CN L (m + 7)) (spec_l1Cur_pick_all L (m + 5)) (spec_l1Cur_one_all L (m + 4)) (spec_l1Cur_peg_all L (m + 3)) (spec_l1Cur_three_all L (m + 0)) (spec_trThree_all L (m + 2)) (spec_pgList_all L (m + 3))
  simpa only [spec_DrawSplitThree_ok, key] using h
theorem impl_SplitThree_all (L m : Nat) : impl_SplitThree_ok L (CN L (m + 9)) := by
  have key : ∀ args hp, CN L (m + 9) 24 args hp = run T (CN L (m + 8)) sh (keep 24) L Try.f24 args hp := fun args hp => callF_step (F := F) (by kernel_rfl) args hp
  have h := impl_SplitThree_run L (CN L (m + 8)) (impl_IsPeg_all L (m + 6)) (impl_where_all L (m + 4)) (impl_isThree_all L (m + 0))
  simpa only [impl_SplitThree_ok, key] using h
theorem spec_SplitThree_all (L m : Nat) : spec_SplitThree_ok L (CN L (m + 6)) := by
  have key : ∀ args hp, CN L (m + 6) 25 args hp = run T (CN L (m + 5)) sh (keep 25) L Try.f25 args hp := fun args hp => callF_step (F := F) (by kernel_rfl) args hp
  have h := spec_SplitThree_run L (CN L (m + 5)) (spec_pgIs_all L (m + 3)) (spec_pgWhere_all L (m + 2)) (spec_trThree_all L (m + 0))
  simpa only [spec_SplitThree_ok, key] using h
theorem spec_DrawPegOfParts_all (L m : Nat) : spec_DrawPegOfParts_ok L (CN L (m + 8)) := by
  have key : ∀ args hp, CN L (m + 8) 26 args hp = run T (CN L (m + 7)) sh (keep 26) L Try.f26 args hp := fun args hp => callF_step (F := F) (by kernel_rfl) args hp
  have h := spec_DrawPegOfParts_run L (CN L (m + 7)) (spec_pgArea_all L (m + 5)) (spec_l1Cur_pick_all L (m + 5)) (spec_l1Cur_among_v2_all L (m + 4)) (spec_l1Cur_surePeg_all L (m + 4)) (spec_l1Cur_three_all L (m + 0)) (spec_trThree_all L (m + 2)) (spec_trParts_all L (m + 5))
  simpa only [spec_DrawPegOfParts_ok, key] using h
theorem spec_PegOfParts_all (L m : Nat) : spec_PegOfParts_ok L (CN L (m + 6)) := by
  have key : ∀ args hp, CN L (m + 6) 27 args hp = run T (CN L (m + 5)) sh (keep 27) L Try.f27 args hp := fun args hp => callF_step (F := F) (by kernel_rfl) args hp
  have h := spec_PegOfParts_run L (CN L (m + 5)) (spec_pgIs_all L (m + 3)) (spec_pgArea_all L (m + 3)) (spec_l1All_all L (m + 3)) (spec_trThree_all L (m + 0))
  simpa only [spec_PegOfParts_ok, key] using h
theorem spec_DrawIsEmptyThree_all (L m : Nat) : spec_DrawIsEmptyThree_ok L (CN L (m + 8)) := by
  have key : ∀ args hp, CN L (m + 8) 28 args hp = run T (CN L (m + 7)) sh (keep 28) L Try.f28 args hp := fun args hp => callF_step (F := F) (by kernel_rfl) args hp
  have h := spec_DrawIsEmptyThree_run L (CN L (m + 7)) (spec_l1Cur_three_all L (m + 0))
  simpa only [spec_DrawIsEmptyThree_ok, key] using h
theorem impl_IsEmptyThree_all (L m : Nat) : impl_IsEmptyThree_ok L (CN L (m + 9)) := by
  have key : ∀ args hp, CN L (m + 9) 29 args hp = run T (CN L (m + 8)) sh (keep 29) L Try.f29 args hp := fun args hp => callF_step (F := F) (by kernel_rfl) args hp
  have h := impl_IsEmptyThree_run L (CN L (m + 8)) (impl_twice_all L (m + 6)) (impl_size_all L (m + 7)) (impl_isThree_all L (m + 0))
  simpa only [impl_IsEmptyThree_ok, key] using h
theorem spec_IsEmptyThree_all (L m : Nat) : spec_IsEmptyThree_ok L (CN L (m + 6)) := by
  have key : ∀ args hp, CN L (m + 6) 30 args hp = run T (CN L (m + 5)) sh (keep 30) L Try.f30 args hp := fun args hp => callF_step (F := F) (by kernel_rfl) args hp
  have h := spec_IsEmptyThree_run L (CN L (m + 5)) (spec_pgArea_all L (m + 3)) (spec_l1Abs_all L (m + 3)) (spec_trThree_all L (m + 0))
  simpa only [spec_IsEmptyThree_ok, key] using h
theorem impl_IsHollowThree_all (L m : Nat) : impl_IsHollowThree_ok L (CN L (m + 9)) := by
  have key : ∀ args hp, CN L (m + 9) 31 args hp = run T (CN L (m + 8)) sh (keep 31) L Try.f31 args hp := fun args hp => callF_step (F := F) (by kernel_rfl) args hp
  have h := impl_IsHollowThree_run L (CN L (m + 8)) (impl_inner_all L (m + 3)) (impl_isThree_all L (m + 0))
  simpa only [impl_IsHollowThree_ok, key] using h
theorem spec_IsHollowThree_all (L m : Nat) : spec_IsHollowThree_ok L (CN L (m + 7)) := by
  have key : ∀ args hp, CN L (m + 7) 32 args hp = run T (CN L (m + 6)) sh (keep 32) L Try.f32 args hp := fun args hp => callF_step (F := F) (by kernel_rfl) args hp
  have h := spec_IsHollowThree_run L (CN L (m + 6)) (spec_pgInside_all L (m + 0)) (spec_trThree_all L (m + 1))
  simpa only [spec_IsHollowThree_ok, key] using h
theorem laws_zLists_all (L m : Nat) : laws_zLists_ok L (CN L (m + 2)) := by
  have key : ∀ args hp, CN L (m + 2) 33 args hp = run T (CN L (m + 1)) sh (keep 33) L Try.f33 args hp := fun args hp => callF_step (F := F) (by kernel_rfl) args hp
  have h := laws_zLists_run L (CN L (m + 1)) (laws_zPegs_all L (m + 0))
  simpa only [laws_zLists_ok, key] using h
theorem impl_PegsInside_all (L m : Nat) : impl_PegsInside_ok L (CN L (m + 8)) := by
  have key : ∀ args hp, CN L (m + 8) 34 args hp = run T (CN L (m + 7)) sh (keep 34) L Try.f34 args hp := fun args hp => callF_step (F := F) (by kernel_rfl) args hp
  have h := impl_PegsInside_run L (CN L (m + 7)) (impl_IsPolygon_all L (m + 0)) (impl_inner_all L (m + 2))
  simpa only [impl_PegsInside_ok, key] using h
theorem laws_FnThreesParted_all (L m : Nat) : laws_FnThreesParted_ok L (CN L (m + 10)) := by
  have key : ∀ args hp, CN L (m + 10) 3 args hp = run T (CN L (m + 9)) sh (keep 3) L Try.f3 args hp := fun args hp => callF_step (F := F) (by kernel_rfl) args hp
  have h := laws_FnThreesParted_run L (CN L (m + 9)) (laws_big_all L (m + 8)) (impl_TwiceArea_all L (m + 1)) (impl_PegsOn_all L (m + 1)) (spec_DrawPartsOfPeg_all L (m + 0)) (impl_PartsOfPeg_all L (m + 0)) (spec_PartsOfPeg_all L (m + 3)) (laws_zSame_all L (m + 8)) (impl_PegOfParts_all L (m + 0)) (impl_WhereIs_all L (m + 1)) (spec_DrawSplitThree_all L (m + 1)) (impl_SplitThree_all L (m + 0)) (spec_SplitThree_all L (m + 3)) (spec_DrawPegOfParts_all L (m + 1)) (spec_PegOfParts_all L (m + 3)) (spec_DrawIsEmptyThree_all L (m + 1)) (impl_IsEmptyThree_all L (m + 0)) (spec_IsEmptyThree_all L (m + 3)) (impl_IsHollowThree_all L (m + 0)) (spec_IsHollowThree_all L (m + 2)) (laws_zLists_all L (m + 7)) (impl_PegsInside_all L (m + 1))
  simpa only [laws_FnThreesParted_ok, key] using h
end Go.AM
