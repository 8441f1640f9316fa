import Derived.Test.YtokhceheoccfhaaAmP0
import Derived.KernelRfl
set_option linter.unusedVariables false
set_option linter.unusedSimpArgs false
set_option linter.unnecessarySimpa false
open Go Go.AM Go.Proofs
namespace Go.AM
set_option maxRecDepth 100000

noncomputable def rowsF : List (Nat × Func) := [(4, Try.f4), (36, Try.f36), (37, Try.f37), (38, Try.f38), (39, Try.f39), (40, Try.f40), (56, Try.f56), (115, Try.f115), (119, Try.f119), (128, Try.f128), (131, Try.f131), (133, Try.f133), (134, Try.f134), (135, Try.f135), (136, Try.f136), (142, Try.f142), (145, Try.f145), (147, Try.f147), (148, Try.f148), (149, Try.f149), (150, Try.f150), (151, Try.f151), (152, Try.f152), (153, Try.f153), (154, Try.f154), (155, Try.f155), (156, Try.f156), (157, Try.f157), (158, Try.f158), (161, Try.f161), (164, Try.f164), (165, Try.f165), (166, Try.f166), (167, Try.f167), (168, Try.f168), (169, Try.f169), (170, Try.f170), (171, Try.f171), (172, Try.f172), (173, Try.f173), (174, Try.f174), (175, Try.f175), (176, Try.f176), (177, Try.f177), (179, Try.f179), (191, Try.f191), (194, Try.f194), (195, Try.f195), (196, Try.f196), (197, Try.f197), (198, Try.f198), (199, Try.f199), (202, Try.f202), (215, Try.f215), (220, Try.f220), (221, Try.f221), (223, Try.f223), (224, Try.f224), (225, Try.f225), (226, Try.f226), (227, Try.f227), (228, Try.f228), (229, Try.f229), (230, Try.f230), (231, Try.f231), (232, Try.f232), (234, Try.f234), (235, Try.f235), (236, Try.f236), (237, Try.f237), (238, Try.f238), (239, Try.f239), (251, Try.f251), (252, Try.f252), (253, Try.f253), (254, Try.f254), (255, Try.f255), (257, Try.f257), (258, Try.f258), (262, Try.f262), (263, Try.f263)]
theorem fok4 : FOk Try.prog sh keep (4, Try.f4) := ⟨Try.func4, by kernel_rfl, by kernel_rfl⟩
theorem fok36 : FOk Try.prog sh keep (36, Try.f36) := ⟨Try.func36, by kernel_rfl, by kernel_rfl⟩
theorem fok37 : FOk Try.prog sh keep (37, Try.f37) := ⟨Try.func37, by kernel_rfl, by kernel_rfl⟩
theorem fok38 : FOk Try.prog sh keep (38, Try.f38) := ⟨Try.func38, by kernel_rfl, by kernel_rfl⟩
theorem fok39 : FOk Try.prog sh keep (39, Try.f39) := ⟨Try.func39, by kernel_rfl, by kernel_rfl⟩
theorem fok40 : FOk Try.prog sh keep (40, Try.f40) := ⟨Try.func40, by kernel_rfl, by kernel_rfl⟩
theorem fok56 : FOk Try.prog sh keep (56, Try.f56) := ⟨Try.func56, by kernel_rfl, by kernel_rfl⟩
theorem fok115 : FOk Try.prog sh keep (115, Try.f115) := ⟨Try.func115, by kernel_rfl, by kernel_rfl⟩
theorem fok119 : FOk Try.prog sh keep (119, Try.f119) := ⟨Try.func119, by kernel_rfl, by kernel_rfl⟩
theorem fok128 : FOk Try.prog sh keep (128, Try.f128) := ⟨Try.func128, by kernel_rfl, by kernel_rfl⟩
theorem fok131 : FOk Try.prog sh keep (131, Try.f131) := ⟨Try.func131, by kernel_rfl, by kernel_rfl⟩
theorem fok133 : FOk Try.prog sh keep (133, Try.f133) := ⟨Try.func133, by kernel_rfl, by kernel_rfl⟩
theorem fok134 : FOk Try.prog sh keep (134, Try.f134) := ⟨Try.func134, by kernel_rfl, by kernel_rfl⟩
theorem fok135 : FOk Try.prog sh keep (135, Try.f135) := ⟨Try.func135, by kernel_rfl, by kernel_rfl⟩
theorem fok136 : FOk Try.prog sh keep (136, Try.f136) := ⟨Try.func136, by kernel_rfl, by kernel_rfl⟩
theorem fok142 : FOk Try.prog sh keep (142, Try.f142) := ⟨Try.func142, by kernel_rfl, by kernel_rfl⟩
theorem fok145 : FOk Try.prog sh keep (145, Try.f145) := ⟨Try.func145, by kernel_rfl, by kernel_rfl⟩
theorem fok147 : FOk Try.prog sh keep (147, Try.f147) := ⟨Try.func147, by kernel_rfl, by kernel_rfl⟩
theorem fok148 : FOk Try.prog sh keep (148, Try.f148) := ⟨Try.func148, by kernel_rfl, by kernel_rfl⟩
theorem fok149 : FOk Try.prog sh keep (149, Try.f149) := ⟨Try.func149, by kernel_rfl, by kernel_rfl⟩
theorem fok150 : FOk Try.prog sh keep (150, Try.f150) := ⟨Try.func150, by kernel_rfl, by kernel_rfl⟩
theorem fok151 : FOk Try.prog sh keep (151, Try.f151) := ⟨Try.func151, by kernel_rfl, by kernel_rfl⟩
theorem fok152 : FOk Try.prog sh keep (152, Try.f152) := ⟨Try.func152, by kernel_rfl, by kernel_rfl⟩
theorem fok153 : FOk Try.prog sh keep (153, Try.f153) := ⟨Try.func153, by kernel_rfl, by kernel_rfl⟩
theorem fok154 : FOk Try.prog sh keep (154, Try.f154) := ⟨Try.func154, by kernel_rfl, by kernel_rfl⟩
theorem fok155 : FOk Try.prog sh keep (155, Try.f155) := ⟨Try.func155, by kernel_rfl, by kernel_rfl⟩
theorem fok156 : FOk Try.prog sh keep (156, Try.f156) := ⟨Try.func156, by kernel_rfl, by kernel_rfl⟩
theorem fok157 : FOk Try.prog sh keep (157, Try.f157) := ⟨Try.func157, by kernel_rfl, by kernel_rfl⟩
theorem fok158 : FOk Try.prog sh keep (158, Try.f158) := ⟨Try.func158, by kernel_rfl, by kernel_rfl⟩
theorem fok161 : FOk Try.prog sh keep (161, Try.f161) := ⟨Try.func161, by kernel_rfl, by kernel_rfl⟩
theorem fok164 : FOk Try.prog sh keep (164, Try.f164) := ⟨Try.func164, by kernel_rfl, by kernel_rfl⟩
theorem fok165 : FOk Try.prog sh keep (165, Try.f165) := ⟨Try.func165, by kernel_rfl, by kernel_rfl⟩
theorem fok166 : FOk Try.prog sh keep (166, Try.f166) := ⟨Try.func166, by kernel_rfl, by kernel_rfl⟩
theorem fok167 : FOk Try.prog sh keep (167, Try.f167) := ⟨Try.func167, by kernel_rfl, by kernel_rfl⟩
theorem fok168 : FOk Try.prog sh keep (168, Try.f168) := ⟨Try.func168, by kernel_rfl, by kernel_rfl⟩
theorem fok169 : FOk Try.prog sh keep (169, Try.f169) := ⟨Try.func169, by kernel_rfl, by kernel_rfl⟩
theorem fok170 : FOk Try.prog sh keep (170, Try.f170) := ⟨Try.func170, by kernel_rfl, by kernel_rfl⟩
theorem fok171 : FOk Try.prog sh keep (171, Try.f171) := ⟨Try.func171, by kernel_rfl, by kernel_rfl⟩
theorem fok172 : FOk Try.prog sh keep (172, Try.f172) := ⟨Try.func172, by kernel_rfl, by kernel_rfl⟩
theorem fok173 : FOk Try.prog sh keep (173, Try.f173) := ⟨Try.func173, by kernel_rfl, by kernel_rfl⟩
theorem fok174 : FOk Try.prog sh keep (174, Try.f174) := ⟨Try.func174, by kernel_rfl, by kernel_rfl⟩
theorem fok175 : FOk Try.prog sh keep (175, Try.f175) := ⟨Try.func175, by kernel_rfl, by kernel_rfl⟩
theorem fok176 : FOk Try.prog sh keep (176, Try.f176) := ⟨Try.func176, by kernel_rfl, by kernel_rfl⟩
theorem fok177 : FOk Try.prog sh keep (177, Try.f177) := ⟨Try.func177, by kernel_rfl, by kernel_rfl⟩
theorem fok179 : FOk Try.prog sh keep (179, Try.f179) := ⟨Try.func179, by kernel_rfl, by kernel_rfl⟩
theorem fok191 : FOk Try.prog sh keep (191, Try.f191) := ⟨Try.func191, by kernel_rfl, by kernel_rfl⟩
theorem fok194 : FOk Try.prog sh keep (194, Try.f194) := ⟨Try.func194, by kernel_rfl, by kernel_rfl⟩
theorem fok195 : FOk Try.prog sh keep (195, Try.f195) := ⟨Try.func195, by kernel_rfl, by kernel_rfl⟩
theorem fok196 : FOk Try.prog sh keep (196, Try.f196) := ⟨Try.func196, by kernel_rfl, by kernel_rfl⟩
theorem fok197 : FOk Try.prog sh keep (197, Try.f197) := ⟨Try.func197, by kernel_rfl, by kernel_rfl⟩
theorem fok198 : FOk Try.prog sh keep (198, Try.f198) := ⟨Try.func198, by kernel_rfl, by kernel_rfl⟩
theorem fok199 : FOk Try.prog sh keep (199, Try.f199) := ⟨Try.func199, by kernel_rfl, by kernel_rfl⟩
theorem fok202 : FOk Try.prog sh keep (202, Try.f202) := ⟨Try.func202, by kernel_rfl, by kernel_rfl⟩
theorem fok215 : FOk Try.prog sh keep (215, Try.f215) := ⟨Try.func215, by kernel_rfl, by kernel_rfl⟩
theorem fok220 : FOk Try.prog sh keep (220, Try.f220) := ⟨Try.func220, by kernel_rfl, by kernel_rfl⟩
theorem fok221 : FOk Try.prog sh keep (221, Try.f221) := ⟨Try.func221, by kernel_rfl, by kernel_rfl⟩
theorem fok223 : FOk Try.prog sh keep (223, Try.f223) := ⟨Try.func223, by kernel_rfl, by kernel_rfl⟩
theorem fok224 : FOk Try.prog sh keep (224, Try.f224) := ⟨Try.func224, by kernel_rfl, by kernel_rfl⟩
theorem fok225 : FOk Try.prog sh keep (225, Try.f225) := ⟨Try.func225, by kernel_rfl, by kernel_rfl⟩
theorem fok226 : FOk Try.prog sh keep (226, Try.f226) := ⟨Try.func226, by kernel_rfl, by kernel_rfl⟩
theorem fok227 : FOk Try.prog sh keep (227, Try.f227) := ⟨Try.func227, by kernel_rfl, by kernel_rfl⟩
theorem fok228 : FOk Try.prog sh keep (228, Try.f228) := ⟨Try.func228, by kernel_rfl, by kernel_rfl⟩
theorem fok229 : FOk Try.prog sh keep (229, Try.f229) := ⟨Try.func229, by kernel_rfl, by kernel_rfl⟩
theorem fok230 : FOk Try.prog sh keep (230, Try.f230) := ⟨Try.func230, by kernel_rfl, by kernel_rfl⟩
theorem fok231 : FOk Try.prog sh keep (231, Try.f231) := ⟨Try.func231, by kernel_rfl, by kernel_rfl⟩
theorem fok232 : FOk Try.prog sh keep (232, Try.f232) := ⟨Try.func232, by kernel_rfl, by kernel_rfl⟩
theorem fok234 : FOk Try.prog sh keep (234, Try.f234) := ⟨Try.func234, by kernel_rfl, by kernel_rfl⟩
theorem fok235 : FOk Try.prog sh keep (235, Try.f235) := ⟨Try.func235, by kernel_rfl, by kernel_rfl⟩
theorem fok236 : FOk Try.prog sh keep (236, Try.f236) := ⟨Try.func236, by kernel_rfl, by kernel_rfl⟩
theorem fok237 : FOk Try.prog sh keep (237, Try.f237) := ⟨Try.func237, by kernel_rfl, by kernel_rfl⟩
theorem fok238 : FOk Try.prog sh keep (238, Try.f238) := ⟨Try.func238, by kernel_rfl, by kernel_rfl⟩
theorem fok239 : FOk Try.prog sh keep (239, Try.f239) := ⟨Try.func239, by kernel_rfl, by kernel_rfl⟩
theorem fok251 : FOk Try.prog sh keep (251, Try.f251) := ⟨Try.func251, by kernel_rfl, by kernel_rfl⟩
theorem fok252 : FOk Try.prog sh keep (252, Try.f252) := ⟨Try.func252, by kernel_rfl, by kernel_rfl⟩
theorem fok253 : FOk Try.prog sh keep (253, Try.f253) := ⟨Try.func253, by kernel_rfl, by kernel_rfl⟩
theorem fok254 : FOk Try.prog sh keep (254, Try.f254) := ⟨Try.func254, by kernel_rfl, by kernel_rfl⟩
theorem fok255 : FOk Try.prog sh keep (255, Try.f255) := ⟨Try.func255, by kernel_rfl, by kernel_rfl⟩
theorem fok257 : FOk Try.prog sh keep (257, Try.f257) := ⟨Try.func257, by kernel_rfl, by kernel_rfl⟩
theorem fok258 : FOk Try.prog sh keep (258, Try.f258) := ⟨Try.func258, by kernel_rfl, by kernel_rfl⟩
theorem fok262 : FOk Try.prog sh keep (262, Try.f262) := ⟨Try.func262, by kernel_rfl, by kernel_rfl⟩
theorem fok263 : FOk Try.prog sh keep (263, Try.f263) := ⟨Try.func263, by kernel_rfl, by kernel_rfl⟩
theorem fokAll : ∀ p ∈ rowsF, FOk Try.prog sh keep p :=
  fOk_cons fok4 (fOk_cons fok36 (fOk_cons fok37 (fOk_cons fok38 (fOk_cons fok39 (fOk_cons fok40 (fOk_cons fok56 (fOk_cons fok115 (fOk_cons fok119 (fOk_cons fok128 (fOk_cons fok131 (fOk_cons fok133 (fOk_cons fok134 (fOk_cons fok135 (fOk_cons fok136 (fOk_cons fok142 (fOk_cons fok145 (fOk_cons fok147 (fOk_cons fok148 (fOk_cons fok149 (fOk_cons fok150 (fOk_cons fok151 (fOk_cons fok152 (fOk_cons fok153 (fOk_cons fok154 (fOk_cons fok155 (fOk_cons fok156 (fOk_cons fok157 (fOk_cons fok158 (fOk_cons fok161 (fOk_cons fok164 (fOk_cons fok165 (fOk_cons fok166 (fOk_cons fok167 (fOk_cons fok168 (fOk_cons fok169 (fOk_cons fok170 (fOk_cons fok171 (fOk_cons fok172 (fOk_cons fok173 (fOk_cons fok174 (fOk_cons fok175 (fOk_cons fok176 (fOk_cons fok177 (fOk_cons fok179 (fOk_cons fok191 (fOk_cons fok194 (fOk_cons fok195 (fOk_cons fok196 (fOk_cons fok197 (fOk_cons fok198 (fOk_cons fok199 (fOk_cons fok202 (fOk_cons fok215 (fOk_cons fok220 (fOk_cons fok221 (fOk_cons fok223 (fOk_cons fok224 (fOk_cons fok225 (fOk_cons fok226 (fOk_cons fok227 (fOk_cons fok228 (fOk_cons fok229 (fOk_cons fok230 (fOk_cons fok231 (fOk_cons fok232 (fOk_cons fok234 (fOk_cons fok235 (fOk_cons fok236 (fOk_cons fok237 (fOk_cons fok238 (fOk_cons fok239 (fOk_cons fok251 (fOk_cons fok252 (fOk_cons fok253 (fOk_cons fok254 (fOk_cons fok255 (fOk_cons fok257 (fOk_cons fok258 (fOk_cons fok262 (fOk_cons fok263 fOk_nil))))))))))))))))))))))))))))))))))))))))))))))))))))))))))))))))))))))))))))))))
theorem tokAll : rowsT.all (tiR Try.prog) = true := by kernel_rfl
noncomputable def F : FuncId → Option Func := findL rowsF
noncomputable def CN (L n : Nat) : CF := callF T F sh keep L n
theorem cn_sound (L n : Nat) : CSound Try.prog (CN L n) := callF_sound tokAll fokAll (by kernel_rfl) L n
theorem laws_szPegS_all (L m : Nat) : laws_szPegS_ok L (CN L (m + 1)) := by
  have key : ∀ args hp, CN L (m + 1) 36 args hp = run T (CN L (m + 0)) sh (keep 36) L Try.f36 args hp := fun args hp => callF_step (F := F) (by kernel_rfl) args hp
  have h := laws_szPegS_run L (CN L (m + 0))
  simpa only [laws_szPegS_ok, key] using h
theorem laws_toPeg_all (L m : Nat) : laws_toPeg_ok L (CN L (m + 1)) := by
  have key : ∀ args hp, CN L (m + 1) 119 args hp = run T (CN L (m + 0)) sh (keep 119) L Try.f119 args hp := fun args hp => callF_step (F := F) (by kernel_rfl) args hp
  have h := laws_toPeg_run L (CN L (m + 0))
  simpa only [laws_toPeg_ok, key] using h
theorem laws_toPegS_all (L m : Nat) : laws_toPegS_ok L (CN L (m + 2)) := by
  have key : ∀ args hp, CN L (m + 2) 38 args hp = run T (CN L (m + 1)) sh (keep 38) L Try.f38 args hp := fun args hp => callF_step (F := F) (by kernel_rfl) args hp
  have h := laws_toPegS_run L (CN L (m + 1)) (laws_toPeg_all L (m + 0))
  simpa only [laws_toPegS_ok, key] using h
theorem spec_l1In_all (L m : Nat) : spec_l1In_ok L (CN L (m + 1)) := by
  have key : ∀ args hp, CN L (m + 1) 191 args hp = run T (CN L (m + 0)) sh (keep 191) L Try.f191 args hp := fun args hp => callF_step (F := F) (by kernel_rfl) args hp
  have h := spec_l1In_run L (CN L (m + 0))
  simpa only [spec_l1In_ok, key] using h
theorem spec_pgIs_all (L m : Nat) : spec_pgIs_ok L (CN L (m + 2)) := by
  have key : ∀ args hp, CN L (m + 2) 131 args hp = run T (CN L (m + 1)) sh (keep 131) L Try.f131 args hp := fun args hp => callF_step (F := F) (by kernel_rfl) args hp
  have h := spec_pgIs_run L (CN L (m + 1)) (spec_l1In_all L (m + 0))
  simpa only [spec_pgIs_ok, key] using h
theorem spec_pgTurn_all (L m : Nat) : spec_pgTurn_ok L (CN L (m + 1)) := by
  have key : ∀ args hp, CN L (m + 1) 221 args hp = run T (CN L (m + 0)) sh (keep 221) L Try.f221 args hp := fun args hp => callF_step (F := F) (by kernel_rfl) args hp
  have h := spec_pgTurn_run L (CN L (m + 0))
  simpa only [spec_pgTurn_ok, key] using h
theorem spec_pgOn_all (L m : Nat) : spec_pgOn_ok L (CN L (m + 2)) := by
  have key : ∀ args hp, CN L (m + 2) 223 args hp = run T (CN L (m + 1)) sh (keep 223) L Try.f223 args hp := fun args hp => callF_step (F := F) (by kernel_rfl) args hp
  have h := spec_pgOn_run L (CN L (m + 1)) (spec_pgTurn_all L (m + 0))
  simpa only [spec_pgOn_ok, key] using h
theorem spec_l1Sign_all (L m : Nat) : spec_l1Sign_ok L (CN L (m + 1)) := by
  have key : ∀ args hp, CN L (m + 1) 198 args hp = run T (CN L (m + 0)) sh (keep 198) L Try.f198 args hp := fun args hp => callF_step (F := F) (by kernel_rfl) args hp
  have h := spec_l1Sign_run L (CN L (m + 0))
  simpa only [spec_l1Sign_ok, key] using h
theorem spec_pgMeet_all (L m : Nat) : spec_pgMeet_ok L (CN L (m + 3)) := by
  have key : ∀ args hp, CN L (m + 3) 236 args hp = run T (CN L (m + 2)) sh (keep 236) L Try.f236 args hp := fun args hp => callF_step (F := F) (by kernel_rfl) args hp
  have h := spec_pgMeet_run L (CN L (m + 2)) (spec_pgTurn_all L (m + 1)) (spec_pgOn_all L (m + 0)) (spec_l1Sign_all L (m + 1))
  simpa only [spec_pgMeet_ok, key] using h
theorem spec_pgGood_all (L m : Nat) : spec_pgGood_ok L (CN L (m + 4)) := by
  have key : ∀ args hp, CN L (m + 4) 164 args hp = run T (CN L (m + 3)) sh (keep 164) L Try.f164 args hp := fun args hp => callF_step (F := F) (by kernel_rfl) args hp
  have h := spec_pgGood_run L (CN L (m + 3)) (spec_l1In_all L (m + 2)) (spec_pgIs_all L (m + 1)) (spec_pgTurn_all L (m + 2)) (spec_pgMeet_all L (m + 0))
  simpa only [spec_pgGood_ok, key] using h
theorem spec_pgArea_all (L m : Nat) : spec_pgArea_ok L (CN L (m + 2)) := by
  have key : ∀ args hp, CN L (m + 2) 145 args hp = run T (CN L (m + 1)) sh (keep 145) L Try.f145 args hp := fun args hp => callF_step (F := F) (by kernel_rfl) args hp
  have h := spec_pgArea_run L (CN L (m + 1)) (spec_pgTurn_all L (m + 0))
  simpa only [spec_pgArea_ok, key] using h
theorem spec_pgConvex_all (L m : Nat) : spec_pgConvex_ok L (CN L (m + 3)) := by
  have key : ∀ args hp, CN L (m + 3) 167 args hp = run T (CN L (m + 2)) sh (keep 167) L Try.f167 args hp := fun args hp => callF_step (F := F) (by kernel_rfl) args hp
  have h := spec_pgConvex_run L (CN L (m + 2)) (spec_pgTurn_all L (m + 1)) (spec_l1Sign_all L (m + 1)) (spec_pgArea_all L (m + 0))
  simpa only [spec_pgConvex_ok, key] using h
theorem spec_l1Most_all (L m : Nat) : spec_l1Most_ok L (CN L (m + 1)) := by
  have key : ∀ args hp, CN L (m + 1) 197 args hp = run T (CN L (m + 0)) sh (keep 197) L Try.f197 args hp := fun args hp => callF_step (F := F) (by kernel_rfl) args hp
  have h := spec_l1Most_run L (CN L (m + 0))
  simpa only [spec_l1Most_ok, key] using h
theorem spec_l1Abs_all (L m : Nat) : spec_l1Abs_ok L (CN L (m + 2)) := by
  have key : ∀ args hp, CN L (m + 2) 148 args hp = run T (CN L (m + 1)) sh (keep 148) L Try.f148 args hp := fun args hp => callF_step (F := F) (by kernel_rfl) args hp
  have h := spec_l1Abs_run L (CN L (m + 1)) (spec_l1Most_all L (m + 0))
  simpa only [spec_l1Abs_ok, key] using h
theorem spec_pgCommon_all (L m : Nat) : spec_pgCommon_ok L (CN L (m + 3)) := by
  have key : ∀ args hp, CN L (m + 3) 195 args hp = run T (CN L (m + 2)) sh (keep 195) L Try.f195 args hp := fun args hp => callF_step (F := F) (by kernel_rfl) args hp
  have h := spec_pgCommon_run L (CN L (m + 2)) (spec_l1Abs_all L (m + 0))
  simpa only [spec_pgCommon_ok, key] using h
theorem spec_pgStep_all (L m : Nat) : spec_pgStep_ok L (CN L (m + 4)) := by
  have key : ∀ args hp, CN L (m + 4) 220 args hp = run T (CN L (m + 3)) sh (keep 220) L Try.f220 args hp := fun args hp => callF_step (F := F) (by kernel_rfl) args hp
  have h := spec_pgStep_run L (CN L (m + 3)) (spec_pgCommon_all L (m + 0))
  simpa only [spec_pgStep_ok, key] using h
theorem spec_pgRound_all (L m : Nat) : spec_pgRound_ok L (CN L (m + 5)) := by
  have key : ∀ args hp, CN L (m + 5) 165 args hp = run T (CN L (m + 4)) sh (keep 165) L Try.f165 args hp := fun args hp => callF_step (F := F) (by kernel_rfl) args hp
  have h := spec_pgRound_run L (CN L (m + 4)) (spec_pgStep_all L (m + 0))
  simpa only [spec_pgRound_ok, key] using h
theorem spec_pgInside_all (L m : Nat) : spec_pgInside_ok L (CN L (m + 6)) := by
  have key : ∀ args hp, CN L (m + 6) 150 args hp = run T (CN L (m + 5)) sh (keep 150) L Try.f150 args hp := fun args hp => callF_step (F := F) (by kernel_rfl) args hp
  have h := spec_pgInside_run L (CN L (m + 5)) (spec_pgArea_all L (m + 3)) (spec_l1Abs_all L (m + 3)) (spec_pgRound_all L (m + 0))
  simpa only [spec_pgInside_ok, key] using h
theorem spec_pgWhere_all (L m : Nat) : spec_pgWhere_ok L (CN L (m + 3)) := by
  have key : ∀ args hp, CN L (m + 3) 142 args hp = run T (CN L (m + 2)) sh (keep 142) L Try.f142 args hp := fun args hp => callF_step (F := F) (by kernel_rfl) args hp
  have h := spec_pgWhere_run L (CN L (m + 2)) (spec_pgTurn_all L (m + 1)) (spec_pgOn_all L (m + 0))
  simpa only [spec_pgWhere_ok, key] using h
theorem spec_duOne_all (L m : Nat) : spec_duOne_ok L (CN L (m + 7)) := by
  have key : ∀ args hp, CN L (m + 7) 152 args hp = run T (CN L (m + 6)) sh (keep 152) L Try.f152 args hp := fun args hp => callF_step (F := F) (by kernel_rfl) args hp
  have h := spec_duOne_run L (CN L (m + 6)) (spec_pgGood_all L (m + 2)) (spec_pgConvex_all L (m + 3)) (spec_pgInside_all L (m + 0)) (spec_pgWhere_all L (m + 3))
  simpa only [spec_duOne_ok, key] using h
theorem spec_pgBack_all (L m : Nat) : spec_pgBack_ok L (CN L (m + 1)) := by
  have key : ∀ args hp, CN L (m + 1) 169 args hp = run T (CN L (m + 0)) sh (keep 169) L Try.f169 args hp := fun args hp => callF_step (F := F) (by kernel_rfl) args hp
  have h := spec_pgBack_run L (CN L (m + 0))
  simpa only [spec_pgBack_ok, key] using h
theorem spec_pgLess_all (L m : Nat) : spec_pgLess_ok L (CN L (m + 1)) := by
  have key : ∀ args hp, CN L (m + 1) 215 args hp = run T (CN L (m + 0)) sh (keep 215) L Try.f215 args hp := fun args hp => callF_step (F := F) (by kernel_rfl) args hp
  have h := spec_pgLess_run L (CN L (m + 0))
  simpa only [spec_pgLess_ok, key] using h
theorem spec_pgFirst_all (L m : Nat) : spec_pgFirst_ok L (CN L (m + 3)) := by
  have key : ∀ args hp, CN L (m + 3) 171 args hp = run T (CN L (m + 2)) sh (keep 171) L Try.f171 args hp := fun args hp => callF_step (F := F) (by kernel_rfl) args hp
  have h := spec_pgFirst_run L (CN L (m + 2)) (spec_pgArea_all L (m + 0)) (spec_pgBack_all L (m + 1)) (spec_pgLess_all L (m + 1))
  simpa only [spec_pgFirst_ok, key] using h
theorem spec_duAround_all (L m : Nat) : spec_duAround_ok L (CN L (m + 5)) := by
  have key : ∀ args hp, CN L (m + 5) 227 args hp = run T (CN L (m + 4)) sh (keep 227) L Try.f227 args hp := fun args hp => callF_step (F := F) (by kernel_rfl) args hp
  have h := spec_duAround_run L (CN L (m + 4)) (spec_pgStep_all L (m + 0)) (spec_pgFirst_all L (m + 1))
  simpa only [spec_duAround_ok, key] using h
theorem spec_duNumbers_all (L m : Nat) : spec_duNumbers_ok L (CN L (m + 1)) := by
  have key : ∀ args hp, CN L (m + 1) 226 args hp = run T (CN L (m + 0)) sh (keep 226) L Try.f226 args hp := fun args hp => callF_step (F := F) (by kernel_rfl) args hp
  have h := spec_duNumbers_run L (CN L (m + 0))
  simpa only [spec_duNumbers_ok, key] using h
theorem spec_l1Own_all (L m : Nat) : spec_l1Own_ok L (CN L (m + 1)) := by
  have key : ∀ args hp, CN L (m + 1) 252 args hp = run T (CN L (m + 0)) sh (keep 252) L Try.f252 args hp := fun args hp => callF_step (F := F) (by kernel_rfl) args hp
  have h := spec_l1Own_run L (CN L (m + 0))
  simpa only [spec_l1Own_ok, key] using h
theorem spec_duBefore_all (L m : Nat) : spec_duBefore_ok L (CN L (m + 1)) := by
  have key : ∀ args hp, CN L (m + 1) 253 args hp = run T (CN L (m + 0)) sh (keep 253) L Try.f253 args hp := fun args hp => callF_step (F := F) (by kernel_rfl) args hp
  have h := spec_duBefore_run L (CN L (m + 0))
  simpa only [spec_duBefore_ok, key] using h
theorem spec_duLeast_all (L m : Nat) : spec_duLeast_ok L (CN L (m + 2)) := by
  have key : ∀ args hp, CN L (m + 2) 225 args hp = run T (CN L (m + 1)) sh (keep 225) L Try.f225 args hp := fun args hp => callF_step (F := F) (by kernel_rfl) args hp
  have h := spec_duLeast_run L (CN L (m + 1)) (spec_l1Own_all L (m + 0)) (spec_duBefore_all L (m + 0))
  simpa only [spec_duLeast_ok, key] using h
theorem spec_l1Same_all (L m : Nat) : spec_l1Same_ok L (CN L (m + 1)) := by
  have key : ∀ args hp, CN L (m + 1) 224 args hp = run T (CN L (m + 0)) sh (keep 224) L Try.f224 args hp := fun args hp => callF_step (F := F) (by kernel_rfl) args hp
  have h := spec_l1Same_run L (CN L (m + 0))
  simpa only [spec_l1Same_ok, key] using h
theorem spec_duSame_all (L m : Nat) : spec_duSame_ok L (CN L (m + 6)) := by
  have key : ∀ args hp, CN L (m + 6) 153 args hp = run T (CN L (m + 5)) sh (keep 153) L Try.f153 args hp := fun args hp => callF_step (F := F) (by kernel_rfl) args hp
  have h := spec_duSame_run L (CN L (m + 5)) (spec_duAround_all L (m + 0)) (spec_duNumbers_all L (m + 4)) (spec_duLeast_all L (m + 3)) (spec_l1Same_all L (m + 4))
  simpa only [spec_duSame_ok, key] using h
theorem spec_AreSameAround_all (L m : Nat) : spec_AreSameAround_ok L (CN L (m + 8)) := by
  have key : ∀ args hp, CN L (m + 8) 37 args hp = run T (CN L (m + 7)) sh (keep 37) L Try.f37 args hp := fun args hp => callF_step (F := F) (by kernel_rfl) args hp
  have h := spec_AreSameAround_run L (CN L (m + 7)) (spec_duOne_all L (m + 0)) (spec_duSame_all L (m + 1))
  simpa only [spec_AreSameAround_ok, key] using h
theorem impl_within_all (L m : Nat) : impl_within_ok L (CN L (m + 1)) := by
  have key : ∀ args hp, CN L (m + 1) 134 args hp = run T (CN L (m + 0)) sh (keep 134) L Try.f134 args hp := fun args hp => callF_step (F := F) (by kernel_rfl) args hp
  have h := impl_within_run L (CN L (m + 0))
  simpa only [impl_within_ok, key] using h
theorem impl_IsPeg_all (L m : Nat) : impl_IsPeg_ok L (CN L (m + 2)) := by
  have key : ∀ args hp, CN L (m + 2) 128 args hp = run T (CN L (m + 1)) sh (keep 128) L Try.f128 args hp := fun args hp => callF_step (F := F) (by kernel_rfl) args hp
  have h := impl_IsPeg_run L (CN L (m + 1)) (impl_within_all L (m + 0))
  simpa only [impl_IsPeg_ok, key] using h
theorem impl_arePegs_1_all (L m : Nat) : impl_arePegs_1_ok L (CN L (m + 3)) := by
  have key : ∀ args hp, CN L (m + 3) 238 args hp = run T (CN L (m + 2)) sh (keep 238) L Try.f238 args hp := fun args hp => callF_step (F := F) (by kernel_rfl) args hp
  have h := impl_arePegs_1_run L (CN L (m + 2)) (impl_IsPeg_all L (m + 0))
  simpa only [impl_arePegs_1_ok, key] using h
theorem slices_IndexFunc_impl_Peg_impl_Peg_arePegs_all (L m : Nat) : slices_IndexFunc_impl_Peg_impl_Peg_arePegs_ok L (CN L (m + 4)) := by
  have key : ∀ args hp, CN L (m + 4) 258 args hp = run T (CN L (m + 3)) sh (keep 258) L Try.f258 args hp := fun args hp => callF_step (F := F) (by kernel_rfl) args hp
  have h := slices_IndexFunc_impl_Peg_impl_Peg_arePegs_run L (CN L (m + 3)) (impl_arePegs_1_all L (m + 0))
  simpa only [slices_IndexFunc_impl_Peg_impl_Peg_arePegs_ok, key] using h
theorem slices_ContainsFunc_impl_Peg_impl_Peg_arePegs_all (L m : Nat) : slices_ContainsFunc_impl_Peg_impl_Peg_arePegs_ok L (CN L (m + 5)) := by
  have key : ∀ args hp, CN L (m + 5) 237 args hp = run T (CN L (m + 4)) sh (keep 237) L Try.f237 args hp := fun args hp => callF_step (F := F) (by kernel_rfl) args hp
  have h := slices_ContainsFunc_impl_Peg_impl_Peg_arePegs_run L (CN L (m + 4)) (slices_IndexFunc_impl_Peg_impl_Peg_arePegs_all L (m + 0))
  simpa only [slices_ContainsFunc_impl_Peg_impl_Peg_arePegs_ok, key] using h
theorem impl_arePegs_all (L m : Nat) : impl_arePegs_ok L (CN L (m + 6)) := by
  have key : ∀ args hp, CN L (m + 6) 172 args hp = run T (CN L (m + 5)) sh (keep 172) L Try.f172 args hp := fun args hp => callF_step (F := F) (by kernel_rfl) args hp
  have h := impl_arePegs_run L (CN L (m + 5)) (slices_ContainsFunc_impl_Peg_impl_Peg_arePegs_all L (m + 0))
  simpa only [impl_arePegs_ok, key] using h
theorem slices_Index_impl_Peg_impl_Peg_all (L m : Nat) : slices_Index_impl_Peg_impl_Peg_ok L (CN L (m + 1)) := by
  have key : ∀ args hp, CN L (m + 1) 239 args hp = run T (CN L (m + 0)) sh (keep 239) L Try.f239 args hp := fun args hp => callF_step (F := F) (by kernel_rfl) args hp
  have h := slices_Index_impl_Peg_impl_Peg_run L (CN L (m + 0))
  simpa only [slices_Index_impl_Peg_impl_Peg_ok, key] using h
theorem slices_Contains_impl_Peg_impl_Peg_all (L m : Nat) : slices_Contains_impl_Peg_impl_Peg_ok L (CN L (m + 2)) := by
  have key : ∀ args hp, CN L (m + 2) 173 args hp = run T (CN L (m + 1)) sh (keep 173) L Try.f173 args hp := fun args hp => callF_step (F := F) (by kernel_rfl) args hp
  have h := slices_Contains_impl_Peg_impl_Peg_run L (CN L (m + 1)) (slices_Index_impl_Peg_impl_Peg_all L (m + 0))
  simpa only [slices_Contains_impl_Peg_impl_Peg_ok, key] using h
theorem impl_at_all (L m : Nat) : impl_at_ok L (CN L (m + 1)) := by
  have key : ∀ args hp, CN L (m + 1) 175 args hp = run T (CN L (m + 0)) sh (keep 175) L Try.f175 args hp := fun args hp => callF_step (F := F) (by kernel_rfl) args hp
  have h := impl_at_run L (CN L (m + 0))
  simpa only [impl_at_ok, key] using h
theorem impl_Peg_less_all (L m : Nat) : impl_Peg_less_ok L (CN L (m + 1)) := by
  have key : ∀ args hp, CN L (m + 1) 199 args hp = run T (CN L (m + 0)) sh (keep 199) L Try.f199 args hp := fun args hp => callF_step (F := F) (by kernel_rfl) args hp
  have h := impl_Peg_less_run L (CN L (m + 0))
  simpa only [impl_Peg_less_ok, key] using h
theorem impl_cross_all (L m : Nat) : impl_cross_ok L (CN L (m + 1)) := by
  have key : ∀ args hp, CN L (m + 1) 202 args hp = run T (CN L (m + 0)) sh (keep 202) L Try.f202 args hp := fun args hp => callF_step (F := F) (by kernel_rfl) args hp
  have h := impl_cross_run L (CN L (m + 0))
  simpa only [impl_cross_ok, key] using h
theorem impl_turn_all (L m : Nat) : impl_turn_ok L (CN L (m + 2)) := by
  have key : ∀ args hp, CN L (m + 2) 174 args hp = run T (CN L (m + 1)) sh (keep 174) L Try.f174 args hp := fun args hp => callF_step (F := F) (by kernel_rfl) args hp
  have h := impl_turn_run L (CN L (m + 1)) (impl_Peg_less_all L (m + 0)) (impl_cross_all L (m + 0))
  simpa only [impl_turn_ok, key] using h
theorem impl_sign_all (L m : Nat) : impl_sign_ok L (CN L (m + 1)) := by
  have key : ∀ args hp, CN L (m + 1) 196 args hp = run T (CN L (m + 0)) sh (keep 196) L Try.f196 args hp := fun args hp => callF_step (F := F) (by kernel_rfl) args hp
  have h := impl_sign_run L (CN L (m + 0))
  simpa only [impl_sign_ok, key] using h
theorem impl_isOn_all (L m : Nat) : impl_isOn_ok L (CN L (m + 3)) := by
  have key : ∀ args hp, CN L (m + 3) 179 args hp = run T (CN L (m + 2)) sh (keep 179) L Try.f179 args hp := fun args hp => callF_step (F := F) (by kernel_rfl) args hp
  have h := impl_isOn_run L (CN L (m + 2)) (impl_within_all L (m + 1)) (impl_turn_all L (m + 0))
  simpa only [impl_isOn_ok, key] using h
theorem impl_meet_all (L m : Nat) : impl_meet_ok L (CN L (m + 4)) := by
  have key : ∀ args hp, CN L (m + 4) 176 args hp = run T (CN L (m + 3)) sh (keep 176) L Try.f176 args hp := fun args hp => callF_step (F := F) (by kernel_rfl) args hp
  have h := impl_meet_run L (CN L (m + 3)) (impl_turn_all L (m + 1)) (impl_sign_all L (m + 2)) (impl_isOn_all L (m + 0))
  simpa only [impl_meet_ok, key] using h
theorem impl_IsPolygon_all (L m : Nat) : impl_IsPolygon_ok L (CN L (m + 7)) := by
  have key : ∀ args hp, CN L (m + 7) 56 args hp = run T (CN L (m + 6)) sh (keep 56) L Try.f56 args hp := fun args hp => callF_step (F := F) (by kernel_rfl) args hp
  have h := impl_IsPolygon_run L (CN L (m + 6)) (impl_within_all L (m + 5)) (impl_arePegs_all L (m + 0)) (slices_Contains_impl_Peg_impl_Peg_all L (m + 4)) (impl_at_all L (m + 5)) (impl_turn_all L (m + 4)) (impl_meet_all L (m + 2))
  simpa only [impl_IsPolygon_ok, key] using h
theorem impl_twice_all (L m : Nat) : impl_twice_ok L (CN L (m + 2)) := by
  have key : ∀ args hp, CN L (m + 2) 133 args hp = run T (CN L (m + 1)) sh (keep 133) L Try.f133 args hp := fun args hp => callF_step (F := F) (by kernel_rfl) args hp
  have h := impl_twice_run L (CN L (m + 1)) (impl_at_all L (m + 0)) (impl_cross_all L (m + 0))
  simpa only [impl_twice_ok, key] using h
theorem impl_isConvex_all (L m : Nat) : impl_isConvex_ok L (CN L (m + 3)) := by
  have key : ∀ args hp, CN L (m + 3) 166 args hp = run T (CN L (m + 2)) sh (keep 166) L Try.f166 args hp := fun args hp => callF_step (F := F) (by kernel_rfl) args hp
  have h := impl_isConvex_run L (CN L (m + 2)) (impl_at_all L (m + 1)) (impl_turn_all L (m + 0)) (impl_sign_all L (m + 1)) (impl_twice_all L (m + 0))
  simpa only [impl_isConvex_ok, key] using h
theorem impl_size_all (L m : Nat) : impl_size_ok L (CN L (m + 1)) := by
  have key : ∀ args hp, CN L (m + 1) 147 args hp = run T (CN L (m + 0)) sh (keep 147) L Try.f147 args hp := fun args hp => callF_step (F := F) (by kernel_rfl) args hp
  have h := impl_size_run L (CN L (m + 0))
  simpa only [impl_size_ok, key] using h
theorem impl_divisor_all (L m : Nat) : impl_divisor_ok L (CN L (m + 2)) := by
  have key : ∀ args hp, CN L (m + 2) 194 args hp = run T (CN L (m + 1)) sh (keep 194) L Try.f194 args hp := fun args hp => callF_step (F := F) (by kernel_rfl) args hp
  have h := impl_divisor_run L (CN L (m + 1)) (impl_size_all L (m + 0))
  simpa only [impl_divisor_ok, key] using h
theorem impl_steps_all (L m : Nat) : impl_steps_ok L (CN L (m + 3)) := by
  have key : ∀ args hp, CN L (m + 3) 177 args hp = run T (CN L (m + 2)) sh (keep 177) L Try.f177 args hp := fun args hp => callF_step (F := F) (by kernel_rfl) args hp
  have h := impl_steps_run L (CN L (m + 2)) (impl_divisor_all L (m + 0))
  simpa only [impl_steps_ok, key] using h
theorem impl_around_all (L m : Nat) : impl_around_ok L (CN L (m + 4)) := by
  have key : ∀ args hp, CN L (m + 4) 151 args hp = run T (CN L (m + 3)) sh (keep 151) L Try.f151 args hp := fun args hp => callF_step (F := F) (by kernel_rfl) args hp
  have h := impl_around_run L (CN L (m + 3)) (impl_at_all L (m + 2)) (impl_steps_all L (m + 0))
  simpa only [impl_around_ok, key] using h
theorem impl_inner_all (L m : Nat) : impl_inner_ok L (CN L (m + 5)) := by
  have key : ∀ args hp, CN L (m + 5) 149 args hp = run T (CN L (m + 4)) sh (keep 149) L Try.f149 args hp := fun args hp => callF_step (F := F) (by kernel_rfl) args hp
  have h := impl_inner_run L (CN L (m + 4)) (impl_twice_all L (m + 2)) (impl_size_all L (m + 3)) (impl_around_all L (m + 0))
  simpa only [impl_inner_ok, key] using h
theorem impl_where_all (L m : Nat) : impl_where_ok L (CN L (m + 4)) := by
  have key : ∀ args hp, CN L (m + 4) 136 args hp = run T (CN L (m + 3)) sh (keep 136) L Try.f136 args hp := fun args hp => callF_step (F := F) (by kernel_rfl) args hp
  have h := impl_where_run L (CN L (m + 3)) (impl_at_all L (m + 2)) (impl_turn_all L (m + 1)) (impl_isOn_all L (m + 0))
  simpa only [impl_where_ok, key] using h
theorem impl_isOneInside_all (L m : Nat) : impl_isOneInside_ok L (CN L (m + 6)) := by
  have key : ∀ args hp, CN L (m + 6) 232 args hp = run T (CN L (m + 5)) sh (keep 232) L Try.f232 args hp := fun args hp => callF_step (F := F) (by kernel_rfl) args hp
  have h := impl_isOneInside_run L (CN L (m + 5)) (impl_isConvex_all L (m + 2)) (impl_inner_all L (m + 0)) (impl_where_all L (m + 1))
  simpa only [impl_isOneInside_ok, key] using h
theorem impl_isDualist_all (L m : Nat) : impl_isDualist_ok L (CN L (m + 8)) := by
  have key : ∀ args hp, CN L (m + 8) 158 args hp = run T (CN L (m + 7)) sh (keep 158) L Try.f158 args hp := fun args hp => callF_step (F := F) (by kernel_rfl) args hp
  have h := impl_isDualist_run L (CN L (m + 7)) (impl_IsPolygon_all L (m + 0)) (impl_isOneInside_all L (m + 1))
  simpa only [impl_isDualist_ok, key] using h
theorem cmp_isNaN_int_all (L m : Nat) : cmp_isNaN_int_ok L (CN L (m + 1)) := by
  have key : ∀ args hp, CN L (m + 1) 263 args hp = run T (CN L (m + 0)) sh (keep 263) L Try.f263 args hp := fun args hp => callF_step (F := F) (by kernel_rfl) args hp
  have h := cmp_isNaN_int_run L (CN L (m + 0))
  simpa only [cmp_isNaN_int_ok, key] using h
theorem cmp_Compare_int_all (L m : Nat) : cmp_Compare_int_ok L (CN L (m + 2)) := by
  have key : ∀ args hp, CN L (m + 2) 255 args hp = run T (CN L (m + 1)) sh (keep 255) L Try.f255 args hp := fun args hp => callF_step (F := F) (by kernel_rfl) args hp
  have h := cmp_Compare_int_run L (CN L (m + 1)) (cmp_isNaN_int_all L (m + 0))
  simpa only [cmp_Compare_int_ok, key] using h
theorem cmp_Or_int_all (L m : Nat) : cmp_Or_int_ok L (CN L (m + 1)) := by
  have key : ∀ args hp, CN L (m + 1) 262 args hp = run T (CN L (m + 0)) sh (keep 262) L Try.f262 args hp := fun args hp => callF_step (F := F) (by kernel_rfl) args hp
  have h := cmp_Or_int_run L (CN L (m + 0))
  simpa only [cmp_Or_int_ok, key] using h
theorem impl_comparePegs_all (L m : Nat) : impl_comparePegs_ok L (CN L (m + 3)) := by
  have key : ∀ args hp, CN L (m + 3) 251 args hp = run T (CN L (m + 2)) sh (keep 251) L Try.f251 args hp := fun args hp => callF_step (F := F) (by kernel_rfl) args hp
  have h := impl_comparePegs_run L (CN L (m + 2)) (cmp_Compare_int_all L (m + 0)) (cmp_Or_int_all L (m + 1))
  simpa only [impl_comparePegs_ok, key] using h
theorem impl_first_all (L m : Nat) : impl_first_ok L (CN L (m + 4)) := by
  have key : ∀ args hp, CN L (m + 4) 235 args hp = run T (CN L (m + 3)) sh (keep 235) L Try.f235 args hp := fun args hp => callF_step (F := F) (by kernel_rfl) args hp
  have h := impl_first_run L (CN L (m + 3)) (impl_comparePegs_all L (m + 0))
  simpa only [impl_first_ok, key] using h
theorem impl_told_all (L m : Nat) : impl_told_ok L (CN L (m + 2)) := by
  have key : ∀ args hp, CN L (m + 2) 168 args hp = run T (CN L (m + 1)) sh (keep 168) L Try.f168 args hp := fun args hp => callF_step (F := F) (by kernel_rfl) args hp
  have h := impl_told_run L (CN L (m + 1)) (impl_at_all L (m + 0))
  simpa only [impl_told_ok, key] using h
theorem impl_tellFirst_all (L m : Nat) : impl_tellFirst_ok L (CN L (m + 5)) := by
  have key : ∀ args hp, CN L (m + 5) 170 args hp = run T (CN L (m + 4)) sh (keep 170) L Try.f170 args hp := fun args hp => callF_step (F := F) (by kernel_rfl) args hp
  have h := impl_tellFirst_run L (CN L (m + 4)) (impl_sign_all L (m + 3)) (impl_twice_all L (m + 2)) (impl_first_all L (m + 0)) (impl_told_all L (m + 2))
  simpa only [impl_tellFirst_ok, key] using h
theorem impl_Peg_plus_all (L m : Nat) : impl_Peg_plus_ok L (CN L (m + 1)) := by
  have key : ∀ args hp, CN L (m + 1) 135 args hp = run T (CN L (m + 0)) sh (keep 135) L Try.f135 args hp := fun args hp => callF_step (F := F) (by kernel_rfl) args hp
  have h := impl_Peg_plus_run L (CN L (m + 0))
  simpa only [impl_Peg_plus_ok, key] using h
theorem impl_pegsAround_all (L m : Nat) : impl_pegsAround_ok L (CN L (m + 5)) := by
  have key : ∀ args hp, CN L (m + 5) 254 args hp = run T (CN L (m + 4)) sh (keep 254) L Try.f254 args hp := fun args hp => callF_step (F := F) (by kernel_rfl) args hp
  have h := impl_pegsAround_run L (CN L (m + 4)) (impl_at_all L (m + 3)) (impl_Peg_less_all L (m + 3)) (impl_steps_all L (m + 1)) (impl_first_all L (m + 0)) (impl_told_all L (m + 2)) (impl_Peg_plus_all L (m + 3))
  simpa only [impl_pegsAround_ok, key] using h
theorem impl_AroundOf_all (L m : Nat) : impl_AroundOf_ok L (CN L (m + 9)) := by
  have key : ∀ args hp, CN L (m + 9) 228 args hp = run T (CN L (m + 8)) sh (keep 228) L Try.f228 args hp := fun args hp => callF_step (F := F) (by kernel_rfl) args hp
  have h := impl_AroundOf_run L (CN L (m + 8)) (impl_isDualist_all L (m + 0)) (impl_tellFirst_all L (m + 3)) (impl_pegsAround_all L (m + 3))
  simpa only [impl_AroundOf_ok, key] using h
theorem impl_ratios_all (L m : Nat) : impl_ratios_ok L (CN L (m + 2)) := by
  have key : ∀ args hp, CN L (m + 2) 229 args hp = run T (CN L (m + 1)) sh (keep 229) L Try.f229 args hp := fun args hp => callF_step (F := F) (by kernel_rfl) args hp
  have h := impl_ratios_run L (CN L (m + 1)) (impl_at_all L (m + 0)) (impl_Peg_plus_all L (m + 0))
  simpa only [impl_ratios_ok, key] using h
theorem impl_NumbersAround_all (L m : Nat) : impl_NumbersAround_ok L (CN L (m + 10)) := by
  have key : ∀ args hp, CN L (m + 10) 154 args hp = run T (CN L (m + 9)) sh (keep 154) L Try.f154 args hp := fun args hp => callF_step (F := F) (by kernel_rfl) args hp
  have h := impl_NumbersAround_run L (CN L (m + 9)) (impl_AroundOf_all L (m + 0)) (impl_ratios_all L (m + 7))
  simpa only [impl_NumbersAround_ok, key] using h
theorem slices_Compare_int_int_all (L m : Nat) : slices_Compare_int_int_ok L (CN L (m + 3)) := by
  have key : ∀ args hp, CN L (m + 3) 230 args hp = run T (CN L (m + 2)) sh (keep 230) L Try.f230 args hp := fun args hp => callF_step (F := F) (by kernel_rfl) args hp
  have h := slices_Compare_int_int_run L (CN L (m + 2)) (cmp_Compare_int_all L (m + 0))
  simpa only [slices_Compare_int_int_ok, key] using h
theorem slices_Clone_int_int_all (L m : Nat) : slices_Clone_int_int_ok L (CN L (m + 1)) := by
  have key : ∀ args hp, CN L (m + 1) 231 args hp = run T (CN L (m + 0)) sh (keep 231) L Try.f231 args hp := fun args hp => callF_step (F := F) (by kernel_rfl) args hp
  have h := slices_Clone_int_int_run L (CN L (m + 0))
  simpa only [slices_Clone_int_int_ok, key] using h
theorem impl_leastNumbers_all (L m : Nat) : impl_leastNumbers_ok L (CN L (m + 4)) := by
  have key : ∀ args hp, CN L (m + 4) 156 args hp = run T (CN L (m + 3)) sh (keep 156) L Try.f156 args hp := fun args hp => callF_step (F := F) (by kernel_rfl) args hp
  have h := impl_leastNumbers_run L (CN L (m + 3)) (slices_Compare_int_int_all L (m + 0)) (slices_Clone_int_int_all L (m + 2))
  simpa only [impl_leastNumbers_ok, key] using h
theorem slices_Equal_int_int_all (L m : Nat) : slices_Equal_int_int_ok L (CN L (m + 1)) := by
  have key : ∀ args hp, CN L (m + 1) 155 args hp = run T (CN L (m + 0)) sh (keep 155) L Try.f155 args hp := fun args hp => callF_step (F := F) (by kernel_rfl) args hp
  have h := slices_Equal_int_int_run L (CN L (m + 0))
  simpa only [slices_Equal_int_int_ok, key] using h
theorem impl_AreSameAround_all (L m : Nat) : impl_AreSameAround_ok L (CN L (m + 11)) := by
  have key : ∀ args hp, CN L (m + 11) 39 args hp = run T (CN L (m + 10)) sh (keep 39) L Try.f39 args hp := fun args hp => callF_step (F := F) (by kernel_rfl) args hp
  have h := impl_AreSameAround_run L (CN L (m + 10)) (impl_NumbersAround_all L (m + 0)) (impl_leastNumbers_all L (m + 6)) (slices_Equal_int_int_all L (m + 9))
  simpa only [impl_AreSameAround_ok, key] using h
theorem laws_eqPeg_all (L m : Nat) : laws_eqPeg_ok L (CN L (m + 1)) := by
  have key : ∀ args hp, CN L (m + 1) 115 args hp = run T (CN L (m + 0)) sh (keep 115) L Try.f115 args hp := fun args hp => callF_step (F := F) (by kernel_rfl) args hp
  have h := laws_eqPeg_run L (CN L (m + 0))
  simpa only [laws_eqPeg_ok, key] using h
theorem laws_eqPegS_all (L m : Nat) : laws_eqPegS_ok L (CN L (m + 2)) := by
  have key : ∀ args hp, CN L (m + 2) 40 args hp = run T (CN L (m + 1)) sh (keep 40) L Try.f40 args hp := fun args hp => callF_step (F := F) (by kernel_rfl) args hp
  have h := laws_eqPegS_run L (CN L (m + 1)) (laws_eqPeg_all L (m + 0))
  simpa only [laws_eqPegS_ok, key] using h
theorem laws_FnExactAreSameAround_all (L m : Nat) : laws_FnExactAreSameAround_ok L (CN L (m + 12)) := by
  have key : ∀ args hp, CN L (m + 12) 4 args hp = run T (CN L (m + 11)) sh (keep 4) L Try.f4 args hp := fun args hp => callF_step (F := F) (by kernel_rfl) args hp
  have h := laws_FnExactAreSameAround_run L (CN L (m + 11)) (laws_szPegS_all L (m + 10)) (laws_toPegS_all L (m + 9)) (spec_AreSameAround_all L (m + 3)) (impl_AreSameAround_all L (m + 0)) (laws_eqPegS_all L (m + 9))
  simpa only [laws_FnExactAreSameAround_ok, key] using h
theorem spec_duDual_all (L m : Nat) : spec_duDual_ok L (CN L (m + 5)) := by
  have key : ∀ args hp, CN L (m + 5) 157 args hp = run T (CN L (m + 4)) sh (keep 157) L Try.f157 args hp := fun args hp => callF_step (F := F) (by kernel_rfl) args hp
  have h := spec_duDual_run L (CN L (m + 4)) (spec_pgStep_all L (m + 0)) (spec_pgFirst_all L (m + 1))
  simpa only [spec_duDual_ok, key] using h
theorem slices_CompareFunc_impl_Peg_impl_Peg_impl_Peg_impl_Peg_all (L m : Nat) : slices_CompareFunc_impl_Peg_impl_Peg_impl_Peg_impl_Peg_ok L (CN L (m + 4)) := by
  have key : ∀ args hp, CN L (m + 4) 257 args hp = run T (CN L (m + 3)) sh (keep 257) L Try.f257 args hp := fun args hp => callF_step (F := F) (by kernel_rfl) args hp
  have h := slices_CompareFunc_impl_Peg_impl_Peg_impl_Peg_impl_Peg_run L (CN L (m + 3)) (impl_comparePegs_all L (m + 0))
  simpa only [slices_CompareFunc_impl_Peg_impl_Peg_impl_Peg_impl_Peg_ok, key] using h
theorem impl_comparePolygons_all (L m : Nat) : impl_comparePolygons_ok L (CN L (m + 5)) := by
  have key : ∀ args hp, CN L (m + 5) 234 args hp = run T (CN L (m + 4)) sh (keep 234) L Try.f234 args hp := fun args hp => callF_step (F := F) (by kernel_rfl) args hp
  have h := impl_comparePolygons_run L (CN L (m + 4)) (slices_CompareFunc_impl_Peg_impl_Peg_impl_Peg_impl_Peg_all L (m + 0))
  simpa only [impl_comparePolygons_ok, key] using h
theorem impl_dual_all (L m : Nat) : impl_dual_ok L (CN L (m + 6)) := by
  have key : ∀ args hp, CN L (m + 6) 161 args hp = run T (CN L (m + 5)) sh (keep 161) L Try.f161 args hp := fun args hp => callF_step (F := F) (by kernel_rfl) args hp
  have h := impl_dual_run L (CN L (m + 5)) (impl_at_all L (m + 4)) (impl_cross_all L (m + 4)) (impl_first_all L (m + 1)) (impl_told_all L (m + 3)) (impl_tellFirst_all L (m + 0))
  simpa only [impl_dual_ok, key] using h
end Go.AM
