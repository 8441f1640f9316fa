import Derived.Test.YtokhceheoccfhaaAmM0
import Derived.KernelRfl
import Derived.Test.YtokhceheoccfhaaAmLay
set_option linter.unusedVariables false
set_option linter.unusedSimpArgs false
set_option linter.unnecessarySimpa false
set_option linter.deprecated false
set_option linter.unusedSectionVars false
open Go Go.AM Go.Proofs
namespace Go.AM
set_option maxRecDepth 100000

noncomputable def rowsF : List (Nat × Func) := [(13, Try.f13), (36, Try.f36), (38, Try.f38), (40, Try.f40), (56, Try.f56), (115, Try.f115), (119, Try.f119), (121, Try.f121), (122, Try.f122), (123, Try.f123), (124, Try.f124), (128, Try.f128), (131, Try.f131), (134, Try.f134), (147, Try.f147), (148, Try.f148), (164, Try.f164), (172, Try.f172), (173, Try.f173), (174, Try.f174), (175, Try.f175), (176, Try.f176), (179, Try.f179), (191, Try.f191), (194, Try.f194), (195, Try.f195), (196, Try.f196), (197, Try.f197), (198, Try.f198), (199, Try.f199), (201, Try.f201), (202, Try.f202), (213, Try.f213), (214, Try.f214), (215, Try.f215), (216, Try.f216), (217, Try.f217), (218, Try.f218), (219, Try.f219), (221, Try.f221), (223, Try.f223), (236, Try.f236), (237, Try.f237), (238, Try.f238), (239, Try.f239), (247, Try.f247), (248, Try.f248), (249, Try.f249), (251, Try.f251), (255, Try.f255), (258, Try.f258), (262, Try.f262), (263, Try.f263)]
theorem fok13 : FOk Try.prog sh keep (13, Try.f13) := ⟨Try.func13, by kernel_rfl, by kernel_rfl⟩
theorem fok36 : FOk Try.prog sh keep (36, Try.f36) := ⟨Try.func36, by kernel_rfl, by kernel_rfl⟩
theorem fok38 : FOk Try.prog sh keep (38, Try.f38) := ⟨Try.func38, by kernel_rfl, by kernel_rfl⟩
theorem fok40 : FOk Try.prog sh keep (40, Try.f40) := ⟨Try.func40, by kernel_rfl, by kernel_rfl⟩
theorem fok56 : FOk Try.prog sh keep (56, Try.f56) := ⟨Try.func56, by kernel_rfl, by kernel_rfl⟩
theorem fok115 : FOk Try.prog sh keep (115, Try.f115) := ⟨Try.func115, by kernel_rfl, by kernel_rfl⟩
theorem fok119 : FOk Try.prog sh keep (119, Try.f119) := ⟨Try.func119, by kernel_rfl, by kernel_rfl⟩
theorem fok121 : FOk Try.prog sh keep (121, Try.f121) := ⟨Try.func121, by kernel_rfl, by kernel_rfl⟩
theorem fok122 : FOk Try.prog sh keep (122, Try.f122) := ⟨Try.func122, by kernel_rfl, by kernel_rfl⟩
theorem fok123 : FOk Try.prog sh keep (123, Try.f123) := ⟨Try.func123, by kernel_rfl, by kernel_rfl⟩
theorem fok124 : FOk Try.prog sh keep (124, Try.f124) := ⟨Try.func124, by kernel_rfl, by kernel_rfl⟩
theorem fok128 : FOk Try.prog sh keep (128, Try.f128) := ⟨Try.func128, by kernel_rfl, by kernel_rfl⟩
theorem fok131 : FOk Try.prog sh keep (131, Try.f131) := ⟨Try.func131, by kernel_rfl, by kernel_rfl⟩
theorem fok134 : FOk Try.prog sh keep (134, Try.f134) := ⟨Try.func134, by kernel_rfl, by kernel_rfl⟩
theorem fok147 : FOk Try.prog sh keep (147, Try.f147) := ⟨Try.func147, by kernel_rfl, by kernel_rfl⟩
theorem fok148 : FOk Try.prog sh keep (148, Try.f148) := ⟨Try.func148, by kernel_rfl, by kernel_rfl⟩
theorem fok164 : FOk Try.prog sh keep (164, Try.f164) := ⟨Try.func164, by kernel_rfl, by kernel_rfl⟩
theorem fok172 : FOk Try.prog sh keep (172, Try.f172) := ⟨Try.func172, by kernel_rfl, by kernel_rfl⟩
theorem fok173 : FOk Try.prog sh keep (173, Try.f173) := ⟨Try.func173, by kernel_rfl, by kernel_rfl⟩
theorem fok174 : FOk Try.prog sh keep (174, Try.f174) := ⟨Try.func174, by kernel_rfl, by kernel_rfl⟩
theorem fok175 : FOk Try.prog sh keep (175, Try.f175) := ⟨Try.func175, by kernel_rfl, by kernel_rfl⟩
theorem fok176 : FOk Try.prog sh keep (176, Try.f176) := ⟨Try.func176, by kernel_rfl, by kernel_rfl⟩
theorem fok179 : FOk Try.prog sh keep (179, Try.f179) := ⟨Try.func179, by kernel_rfl, by kernel_rfl⟩
theorem fok191 : FOk Try.prog sh keep (191, Try.f191) := ⟨Try.func191, by kernel_rfl, by kernel_rfl⟩
theorem fok194 : FOk Try.prog sh keep (194, Try.f194) := ⟨Try.func194, by kernel_rfl, by kernel_rfl⟩
theorem fok195 : FOk Try.prog sh keep (195, Try.f195) := ⟨Try.func195, by kernel_rfl, by kernel_rfl⟩
theorem fok196 : FOk Try.prog sh keep (196, Try.f196) := ⟨Try.func196, by kernel_rfl, by kernel_rfl⟩
theorem fok197 : FOk Try.prog sh keep (197, Try.f197) := ⟨Try.func197, by kernel_rfl, by kernel_rfl⟩
theorem fok198 : FOk Try.prog sh keep (198, Try.f198) := ⟨Try.func198, by kernel_rfl, by kernel_rfl⟩
theorem fok199 : FOk Try.prog sh keep (199, Try.f199) := ⟨Try.func199, by kernel_rfl, by kernel_rfl⟩
theorem fok201 : FOk Try.prog sh keep (201, Try.f201) := ⟨Try.func201, by kernel_rfl, by kernel_rfl⟩
theorem fok202 : FOk Try.prog sh keep (202, Try.f202) := ⟨Try.func202, by kernel_rfl, by kernel_rfl⟩
theorem fok213 : FOk Try.prog sh keep (213, Try.f213) := ⟨Try.func213, by kernel_rfl, by kernel_rfl⟩
theorem fok214 : FOk Try.prog sh keep (214, Try.f214) := ⟨Try.func214, by kernel_rfl, by kernel_rfl⟩
theorem fok215 : FOk Try.prog sh keep (215, Try.f215) := ⟨Try.func215, by kernel_rfl, by kernel_rfl⟩
theorem fok216 : FOk Try.prog sh keep (216, Try.f216) := ⟨Try.func216, by kernel_rfl, by kernel_rfl⟩
theorem fok217 : FOk Try.prog sh keep (217, Try.f217) := ⟨Try.func217, by kernel_rfl, by kernel_rfl⟩
theorem fok218 : FOk Try.prog sh keep (218, Try.f218) := ⟨Try.func218, by kernel_rfl, by kernel_rfl⟩
theorem fok219 : FOk Try.prog sh keep (219, Try.f219) := ⟨Try.func219, by kernel_rfl, by kernel_rfl⟩
theorem fok221 : FOk Try.prog sh keep (221, Try.f221) := ⟨Try.func221, by kernel_rfl, by kernel_rfl⟩
theorem fok223 : FOk Try.prog sh keep (223, Try.f223) := ⟨Try.func223, by kernel_rfl, by kernel_rfl⟩
theorem fok236 : FOk Try.prog sh keep (236, Try.f236) := ⟨Try.func236, by kernel_rfl, by kernel_rfl⟩
theorem fok237 : FOk Try.prog sh keep (237, Try.f237) := ⟨Try.func237, by kernel_rfl, by kernel_rfl⟩
theorem fok238 : FOk Try.prog sh keep (238, Try.f238) := ⟨Try.func238, by kernel_rfl, by kernel_rfl⟩
theorem fok239 : FOk Try.prog sh keep (239, Try.f239) := ⟨Try.func239, by kernel_rfl, by kernel_rfl⟩
theorem fok247 : FOk Try.prog sh keep (247, Try.f247) := ⟨Try.func247, by kernel_rfl, by kernel_rfl⟩
theorem fok248 : FOk Try.prog sh keep (248, Try.f248) := ⟨Try.func248, by kernel_rfl, by kernel_rfl⟩
theorem fok249 : FOk Try.prog sh keep (249, Try.f249) := ⟨Try.func249, by kernel_rfl, by kernel_rfl⟩
theorem fok251 : FOk Try.prog sh keep (251, Try.f251) := ⟨Try.func251, by kernel_rfl, by kernel_rfl⟩
theorem fok255 : FOk Try.prog sh keep (255, Try.f255) := ⟨Try.func255, by kernel_rfl, by kernel_rfl⟩
theorem fok258 : FOk Try.prog sh keep (258, Try.f258) := ⟨Try.func258, by kernel_rfl, by kernel_rfl⟩
theorem fok262 : FOk Try.prog sh keep (262, Try.f262) := ⟨Try.func262, by kernel_rfl, by kernel_rfl⟩
theorem fok263 : FOk Try.prog sh keep (263, Try.f263) := ⟨Try.func263, by kernel_rfl, by kernel_rfl⟩
theorem fokAll : ∀ p ∈ rowsF, FOk Try.prog sh keep p :=
  fOk_cons fok13 (fOk_cons fok36 (fOk_cons fok38 (fOk_cons fok40 (fOk_cons fok56 (fOk_cons fok115 (fOk_cons fok119 (fOk_cons fok121 (fOk_cons fok122 (fOk_cons fok123 (fOk_cons fok124 (fOk_cons fok128 (fOk_cons fok131 (fOk_cons fok134 (fOk_cons fok147 (fOk_cons fok148 (fOk_cons fok164 (fOk_cons fok172 (fOk_cons fok173 (fOk_cons fok174 (fOk_cons fok175 (fOk_cons fok176 (fOk_cons fok179 (fOk_cons fok191 (fOk_cons fok194 (fOk_cons fok195 (fOk_cons fok196 (fOk_cons fok197 (fOk_cons fok198 (fOk_cons fok199 (fOk_cons fok201 (fOk_cons fok202 (fOk_cons fok213 (fOk_cons fok214 (fOk_cons fok215 (fOk_cons fok216 (fOk_cons fok217 (fOk_cons fok218 (fOk_cons fok219 (fOk_cons fok221 (fOk_cons fok223 (fOk_cons fok236 (fOk_cons fok237 (fOk_cons fok238 (fOk_cons fok239 (fOk_cons fok247 (fOk_cons fok248 (fOk_cons fok249 (fOk_cons fok251 (fOk_cons fok255 (fOk_cons fok258 (fOk_cons fok262 (fOk_cons fok263 fOk_nil))))))))))))))))))))))))))))))))))))))))))))))))))))
theorem tokAll : rowsT.all (tiR Try.prog) = true := by kernel_rfl
noncomputable def F : FuncId → Option Func := findL rowsF
noncomputable def CN0 (L n : Nat) : CF := callF T F sh keep L n
theorem cn0_sound (L n : Nat) : CSound Try.prog (CN0 L n) := callF_sound tokAll fokAll (by kernel_rfl) L n
theorem cmp_isNaN_int_all0 (L m : Nat) : cmp_isNaN_int_ok L (CN0 L (m + 1)) := by
  have key : ∀ args hp, CN0 L (m + 1) 263 args hp = run T (CN0 L (m + 0)) sh (keep 263) L Try.f263 args hp := fun args hp => callF_step (F := F) (by kernel_rfl) args hp
  have h := cmp_isNaN_int_run L (CN0 L (m + 0))
  simpa only [cmp_isNaN_int_ok, key] using h
theorem cmp_Compare_int_all0 (L m : Nat) : cmp_Compare_int_ok L (CN0 L (m + 2)) := by
  have key : ∀ args hp, CN0 L (m + 2) 255 args hp = run T (CN0 L (m + 1)) sh (keep 255) L Try.f255 args hp := fun args hp => callF_step (F := F) (by kernel_rfl) args hp
  have h := cmp_Compare_int_run L (CN0 L (m + 1)) (cmp_isNaN_int_all0 L (m + 0))
  simpa only [cmp_Compare_int_ok, key] using h
theorem cmp_Or_int_all0 (L m : Nat) : cmp_Or_int_ok L (CN0 L (m + 1)) := by
  have key : ∀ args hp, CN0 L (m + 1) 262 args hp = run T (CN0 L (m + 0)) sh (keep 262) L Try.f262 args hp := fun args hp => callF_step (F := F) (by kernel_rfl) args hp
  have h := cmp_Or_int_run L (CN0 L (m + 0))
  simpa only [cmp_Or_int_ok, key] using h
theorem impl_comparePegs_all0 (L m : Nat) : impl_comparePegs_ok L (CN0 L (m + 3)) := by
  have key : ∀ args hp, CN0 L (m + 3) 251 args hp = run T (CN0 L (m + 2)) sh (keep 251) L Try.f251 args hp := fun args hp => callF_step (F := F) (by kernel_rfl) args hp
  have h := impl_comparePegs_run L (CN0 L (m + 2)) (cmp_Compare_int_all0 L (m + 0)) (cmp_Or_int_all0 L (m + 1))
  simpa only [impl_comparePegs_ok, key] using h
theorem cmp_holds (p q : Pt) : CN0 10 (0 + 3) 251 [ep p, ep q] [] = some (.int .i64 (ordP p q), []) := by
  have h := impl_comparePegs_all0 10 0 p.x p.y q.x q.y
  rw [cmp_val] at h
  exact h
noncomputable def XF : CF := sortX 250 251 ordP
def isX (f : FuncId) : Bool := Nat.beq f 250
theorem xf_sound : CSound Try.prog fun f args hp => bif isX f then XF f args hp else none := by
  have h := sortX_sound (P := Try.prog) (ρ := sortPegs_ren) sortPegs sortPegs_agg sortPegs_size (cn0_sound 10 (0 + 3)) (fC := 251) (cf := ordP) cmp_holds swo_ordP tot_ordP ⟨Try.f250, Try.func250, by kernel_rfl, by kernel_rfl⟩
  intro f args hp res hp' e
  cases hx : isX f with
  | true => simp only [hx, cond_true] at e; exact h f args hp res hp' e
  | false => simp only [hx, cond_false] at e; cases e
noncomputable def CN (L n : Nat) : CF := callN T F XF isX sh keep L n
theorem cn_sound (L n : Nat) : CSound Try.prog (CN L n) := callN_sound (tOk_rows tokAll) (by kernel_rfl) (fun f fn h => fokAll _ (findL_mem h)) xf_sound n
theorem slices_SortFunc_impl_Peg_impl_Peg_all (L m : Nat) : slices_SortFunc_impl_Peg_impl_Peg_ok L (CN L (m + 1)) := by
  intro c x l hx
  have key := callX_ext (T := T) (F := F) (X := XF) (isX := isX) (sh := sh) (keep := keep) (L := L) (n := m) (f := 250) rfl [.own 0 2 none c, .fn 251 [] []] [.rows .live 2 x]
  exact key.trans (sortX_all c x l hx)
theorem laws_szPegS_all (L m : Nat) : laws_szPegS_ok L (CN L (m + 1)) := by
  have key : ∀ args hp, CN L (m + 1) 36 args hp = run T (CN L (m + 0)) sh (keep 36) L Try.f36 args hp := fun args hp => callX_step (F := F) rfl (by kernel_rfl) args hp
  have h := laws_szPegS_run L (CN L (m + 0))
  simpa only [laws_szPegS_ok, key] using h
theorem laws_toPeg_all (L m : Nat) : laws_toPeg_ok L (CN L (m + 1)) := by
  have key : ∀ args hp, CN L (m + 1) 119 args hp = run T (CN L (m + 0)) sh (keep 119) L Try.f119 args hp := fun args hp => callX_step (F := F) rfl (by kernel_rfl) args hp
  have h := laws_toPeg_run L (CN L (m + 0))
  simpa only [laws_toPeg_ok, key] using h
theorem laws_toPegS_all (L m : Nat) : laws_toPegS_ok L (CN L (m + 2)) := by
  have key : ∀ args hp, CN L (m + 2) 38 args hp = run T (CN L (m + 1)) sh (keep 38) L Try.f38 args hp := fun args hp => callX_step (F := F) rfl (by kernel_rfl) args hp
  have h := laws_toPegS_run L (CN L (m + 1)) (laws_toPeg_all L (m + 0))
  simpa only [laws_toPegS_ok, key] using h
theorem spec_l1In_all (L m : Nat) : spec_l1In_ok L (CN L (m + 1)) := by
  have key : ∀ args hp, CN L (m + 1) 191 args hp = run T (CN L (m + 0)) sh (keep 191) L Try.f191 args hp := fun args hp => callX_step (F := F) rfl (by kernel_rfl) args hp
  have h := spec_l1In_run L (CN L (m + 0))
  simpa only [spec_l1In_ok, key] using h
theorem spec_pgIs_all (L m : Nat) : spec_pgIs_ok L (CN L (m + 2)) := by
  have key : ∀ args hp, CN L (m + 2) 131 args hp = run T (CN L (m + 1)) sh (keep 131) L Try.f131 args hp := fun args hp => callX_step (F := F) rfl (by kernel_rfl) args hp
  have h := spec_pgIs_run L (CN L (m + 1)) (spec_l1In_all L (m + 0))
  simpa only [spec_pgIs_ok, key] using h
theorem spec_pgTurn_all (L m : Nat) : spec_pgTurn_ok L (CN L (m + 1)) := by
  have key : ∀ args hp, CN L (m + 1) 221 args hp = run T (CN L (m + 0)) sh (keep 221) L Try.f221 args hp := fun args hp => callX_step (F := F) rfl (by kernel_rfl) args hp
  have h := spec_pgTurn_run L (CN L (m + 0))
  simpa only [spec_pgTurn_ok, key] using h
theorem spec_pgOn_all (L m : Nat) : spec_pgOn_ok L (CN L (m + 2)) := by
  have key : ∀ args hp, CN L (m + 2) 223 args hp = run T (CN L (m + 1)) sh (keep 223) L Try.f223 args hp := fun args hp => callX_step (F := F) rfl (by kernel_rfl) args hp
  have h := spec_pgOn_run L (CN L (m + 1)) (spec_pgTurn_all L (m + 0))
  simpa only [spec_pgOn_ok, key] using h
theorem spec_l1Sign_all (L m : Nat) : spec_l1Sign_ok L (CN L (m + 1)) := by
  have key : ∀ args hp, CN L (m + 1) 198 args hp = run T (CN L (m + 0)) sh (keep 198) L Try.f198 args hp := fun args hp => callX_step (F := F) rfl (by kernel_rfl) args hp
  have h := spec_l1Sign_run L (CN L (m + 0))
  simpa only [spec_l1Sign_ok, key] using h
theorem spec_pgMeet_all (L m : Nat) : spec_pgMeet_ok L (CN L (m + 3)) := by
  have key : ∀ args hp, CN L (m + 3) 236 args hp = run T (CN L (m + 2)) sh (keep 236) L Try.f236 args hp := fun args hp => callX_step (F := F) rfl (by kernel_rfl) args hp
  have h := spec_pgMeet_run L (CN L (m + 2)) (spec_pgTurn_all L (m + 1)) (spec_pgOn_all L (m + 0)) (spec_l1Sign_all L (m + 1))
  simpa only [spec_pgMeet_ok, key] using h
theorem spec_pgGood_all (L m : Nat) : spec_pgGood_ok L (CN L (m + 4)) := by
  have key : ∀ args hp, CN L (m + 4) 164 args hp = run T (CN L (m + 3)) sh (keep 164) L Try.f164 args hp := fun args hp => callX_step (F := F) rfl (by kernel_rfl) args hp
  have h := spec_pgGood_run L (CN L (m + 3)) (spec_l1In_all L (m + 2)) (spec_pgIs_all L (m + 1)) (spec_pgTurn_all L (m + 2)) (spec_pgMeet_all L (m + 0))
  simpa only [spec_pgGood_ok, key] using h
theorem spec_l1Most_all (L m : Nat) : spec_l1Most_ok L (CN L (m + 1)) := by
  have key : ∀ args hp, CN L (m + 1) 197 args hp = run T (CN L (m + 0)) sh (keep 197) L Try.f197 args hp := fun args hp => callX_step (F := F) rfl (by kernel_rfl) args hp
  have h := spec_l1Most_run L (CN L (m + 0))
  simpa only [spec_l1Most_ok, key] using h
theorem spec_l1Abs_all (L m : Nat) : spec_l1Abs_ok L (CN L (m + 2)) := by
  have key : ∀ args hp, CN L (m + 2) 148 args hp = run T (CN L (m + 1)) sh (keep 148) L Try.f148 args hp := fun args hp => callX_step (F := F) rfl (by kernel_rfl) args hp
  have h := spec_l1Abs_run L (CN L (m + 1)) (spec_l1Most_all L (m + 0))
  simpa only [spec_l1Abs_ok, key] using h
theorem spec_pgCommon_all (L m : Nat) : spec_pgCommon_ok L (CN L (m + 3)) := by
  have key : ∀ args hp, CN L (m + 3) 195 args hp = run T (CN L (m + 2)) sh (keep 195) L Try.f195 args hp := fun args hp => callX_step (F := F) rfl (by kernel_rfl) args hp
  have h := spec_pgCommon_run L (CN L (m + 2)) (spec_l1Abs_all L (m + 0))
  simpa only [spec_pgCommon_ok, key] using h
theorem spec_pgLess_all (L m : Nat) : spec_pgLess_ok L (CN L (m + 1)) := by
  have key : ∀ args hp, CN L (m + 1) 215 args hp = run T (CN L (m + 0)) sh (keep 215) L Try.f215 args hp := fun args hp => callX_step (F := F) rfl (by kernel_rfl) args hp
  have h := spec_pgLess_run L (CN L (m + 0))
  simpa only [spec_pgLess_ok, key] using h
theorem impl_within_all (L m : Nat) : impl_within_ok L (CN L (m + 1)) := by
  have key : ∀ args hp, CN L (m + 1) 134 args hp = run T (CN L (m + 0)) sh (keep 134) L Try.f134 args hp := fun args hp => callX_step (F := F) rfl (by kernel_rfl) args hp
  have h := impl_within_run L (CN L (m + 0))
  simpa only [impl_within_ok, key] using h
theorem impl_IsPeg_all (L m : Nat) : impl_IsPeg_ok L (CN L (m + 2)) := by
  have key : ∀ args hp, CN L (m + 2) 128 args hp = run T (CN L (m + 1)) sh (keep 128) L Try.f128 args hp := fun args hp => callX_step (F := F) rfl (by kernel_rfl) args hp
  have h := impl_IsPeg_run L (CN L (m + 1)) (impl_within_all L (m + 0))
  simpa only [impl_IsPeg_ok, key] using h
theorem impl_arePegs_1_all (L m : Nat) : impl_arePegs_1_ok L (CN L (m + 3)) := by
  have key : ∀ args hp, CN L (m + 3) 238 args hp = run T (CN L (m + 2)) sh (keep 238) L Try.f238 args hp := fun args hp => callX_step (F := F) rfl (by kernel_rfl) args hp
  have h := impl_arePegs_1_run L (CN L (m + 2)) (impl_IsPeg_all L (m + 0))
  simpa only [impl_arePegs_1_ok, key] using h
theorem slices_IndexFunc_impl_Peg_impl_Peg_arePegs_all (L m : Nat) : slices_IndexFunc_impl_Peg_impl_Peg_arePegs_ok L (CN L (m + 4)) := by
  have key : ∀ args hp, CN L (m + 4) 258 args hp = run T (CN L (m + 3)) sh (keep 258) L Try.f258 args hp := fun args hp => callX_step (F := F) rfl (by kernel_rfl) args hp
  have h := slices_IndexFunc_impl_Peg_impl_Peg_arePegs_run L (CN L (m + 3)) (impl_arePegs_1_all L (m + 0))
  simpa only [slices_IndexFunc_impl_Peg_impl_Peg_arePegs_ok, key] using h
theorem slices_ContainsFunc_impl_Peg_impl_Peg_arePegs_all (L m : Nat) : slices_ContainsFunc_impl_Peg_impl_Peg_arePegs_ok L (CN L (m + 5)) := by
  have key : ∀ args hp, CN L (m + 5) 237 args hp = run T (CN L (m + 4)) sh (keep 237) L Try.f237 args hp := fun args hp => callX_step (F := F) rfl (by kernel_rfl) args hp
  have h := slices_ContainsFunc_impl_Peg_impl_Peg_arePegs_run L (CN L (m + 4)) (slices_IndexFunc_impl_Peg_impl_Peg_arePegs_all L (m + 0))
  simpa only [slices_ContainsFunc_impl_Peg_impl_Peg_arePegs_ok, key] using h
theorem impl_arePegs_all (L m : Nat) : impl_arePegs_ok L (CN L (m + 6)) := by
  have key : ∀ args hp, CN L (m + 6) 172 args hp = run T (CN L (m + 5)) sh (keep 172) L Try.f172 args hp := fun args hp => callX_step (F := F) rfl (by kernel_rfl) args hp
  have h := impl_arePegs_run L (CN L (m + 5)) (slices_ContainsFunc_impl_Peg_impl_Peg_arePegs_all L (m + 0))
  simpa only [impl_arePegs_ok, key] using h
theorem slices_Index_impl_Peg_impl_Peg_all (L m : Nat) : slices_Index_impl_Peg_impl_Peg_ok L (CN L (m + 1)) := by
  have key : ∀ args hp, CN L (m + 1) 239 args hp = run T (CN L (m + 0)) sh (keep 239) L Try.f239 args hp := fun args hp => callX_step (F := F) rfl (by kernel_rfl) args hp
  have h := slices_Index_impl_Peg_impl_Peg_run L (CN L (m + 0))
  simpa only [slices_Index_impl_Peg_impl_Peg_ok, key] using h
theorem slices_Contains_impl_Peg_impl_Peg_all (L m : Nat) : slices_Contains_impl_Peg_impl_Peg_ok L (CN L (m + 2)) := by
  have key : ∀ args hp, CN L (m + 2) 173 args hp = run T (CN L (m + 1)) sh (keep 173) L Try.f173 args hp := fun args hp => callX_step (F := F) rfl (by kernel_rfl) args hp
  have h := slices_Contains_impl_Peg_impl_Peg_run L (CN L (m + 1)) (slices_Index_impl_Peg_impl_Peg_all L (m + 0))
  simpa only [slices_Contains_impl_Peg_impl_Peg_ok, key] using h
theorem impl_at_all (L m : Nat) : impl_at_ok L (CN L (m + 1)) := by
  have key : ∀ args hp, CN L (m + 1) 175 args hp = run T (CN L (m + 0)) sh (keep 175) L Try.f175 args hp := fun args hp => callX_step (F := F) rfl (by kernel_rfl) args hp
  have h := impl_at_run L (CN L (m + 0))
  simpa only [impl_at_ok, key] using h
theorem impl_Peg_less_all (L m : Nat) : impl_Peg_less_ok L (CN L (m + 1)) := by
  have key : ∀ args hp, CN L (m + 1) 199 args hp = run T (CN L (m + 0)) sh (keep 199) L Try.f199 args hp := fun args hp => callX_step (F := F) rfl (by kernel_rfl) args hp
  have h := impl_Peg_less_run L (CN L (m + 0))
  simpa only [impl_Peg_less_ok, key] using h
theorem impl_cross_all (L m : Nat) : impl_cross_ok L (CN L (m + 1)) := by
  have key : ∀ args hp, CN L (m + 1) 202 args hp = run T (CN L (m + 0)) sh (keep 202) L Try.f202 args hp := fun args hp => callX_step (F := F) rfl (by kernel_rfl) args hp
  have h := impl_cross_run L (CN L (m + 0))
  simpa only [impl_cross_ok, key] using h
theorem impl_turn_all (L m : Nat) : impl_turn_ok L (CN L (m + 2)) := by
  have key : ∀ args hp, CN L (m + 2) 174 args hp = run T (CN L (m + 1)) sh (keep 174) L Try.f174 args hp := fun args hp => callX_step (F := F) rfl (by kernel_rfl) args hp
  have h := impl_turn_run L (CN L (m + 1)) (impl_Peg_less_all L (m + 0)) (impl_cross_all L (m + 0))
  simpa only [impl_turn_ok, key] using h
theorem impl_sign_all (L m : Nat) : impl_sign_ok L (CN L (m + 1)) := by
  have key : ∀ args hp, CN L (m + 1) 196 args hp = run T (CN L (m + 0)) sh (keep 196) L Try.f196 args hp := fun args hp => callX_step (F := F) rfl (by kernel_rfl) args hp
  have h := impl_sign_run L (CN L (m + 0))
  simpa only [impl_sign_ok, key] using h
theorem impl_isOn_all (L m : Nat) : impl_isOn_ok L (CN L (m + 3)) := by
  have key : ∀ args hp, CN L (m + 3) 179 args hp = run T (CN L (m + 2)) sh (keep 179) L Try.f179 args hp := fun args hp => callX_step (F := F) rfl (by kernel_rfl) args hp
  have h := impl_isOn_run L (CN L (m + 2)) (impl_within_all L (m + 1)) (impl_turn_all L (m + 0))
  simpa only [impl_isOn_ok, key] using h
theorem impl_meet_all (L m : Nat) : impl_meet_ok L (CN L (m + 4)) := by
  have key : ∀ args hp, CN L (m + 4) 176 args hp = run T (CN L (m + 3)) sh (keep 176) L Try.f176 args hp := fun args hp => callX_step (F := F) rfl (by kernel_rfl) args hp
  have h := impl_meet_run L (CN L (m + 3)) (impl_turn_all L (m + 1)) (impl_sign_all L (m + 2)) (impl_isOn_all L (m + 0))
  simpa only [impl_meet_ok, key] using h
theorem impl_IsPolygon_all (L m : Nat) : impl_IsPolygon_ok L (CN L (m + 7)) := by
  have key : ∀ args hp, CN L (m + 7) 56 args hp = run T (CN L (m + 6)) sh (keep 56) L Try.f56 args hp := fun args hp => callX_step (F := F) rfl (by kernel_rfl) args hp
  have h := impl_IsPolygon_run L (CN L (m + 6)) (impl_within_all L (m + 5)) (impl_arePegs_all L (m + 0)) (slices_Contains_impl_Peg_impl_Peg_all L (m + 4)) (impl_at_all L (m + 5)) (impl_turn_all L (m + 4)) (impl_meet_all L (m + 2))
  simpa only [impl_IsPolygon_ok, key] using h
theorem impl_size_all (L m : Nat) : impl_size_ok L (CN L (m + 1)) := by
  have key : ∀ args hp, CN L (m + 1) 147 args hp = run T (CN L (m + 0)) sh (keep 147) L Try.f147 args hp := fun args hp => callX_step (F := F) rfl (by kernel_rfl) args hp
  have h := impl_size_run L (CN L (m + 0))
  simpa only [impl_size_ok, key] using h
theorem impl_divisor_all (L m : Nat) : impl_divisor_ok L (CN L (m + 2)) := by
  have key : ∀ args hp, CN L (m + 2) 194 args hp = run T (CN L (m + 1)) sh (keep 194) L Try.f194 args hp := fun args hp => callX_step (F := F) rfl (by kernel_rfl) args hp
  have h := impl_divisor_run L (CN L (m + 1)) (impl_size_all L (m + 0))
  simpa only [impl_divisor_ok, key] using h
theorem cmp_isNaN_int_all (L m : Nat) : cmp_isNaN_int_ok L (CN L (m + 1)) := by
  have key : ∀ args hp, CN L (m + 1) 263 args hp = run T (CN L (m + 0)) sh (keep 263) L Try.f263 args hp := fun args hp => callX_step (F := F) rfl (by kernel_rfl) args hp
  have h := cmp_isNaN_int_run L (CN L (m + 0))
  simpa only [cmp_isNaN_int_ok, key] using h
theorem cmp_Compare_int_all (L m : Nat) : cmp_Compare_int_ok L (CN L (m + 2)) := by
  have key : ∀ args hp, CN L (m + 2) 255 args hp = run T (CN L (m + 1)) sh (keep 255) L Try.f255 args hp := fun args hp => callX_step (F := F) rfl (by kernel_rfl) args hp
  have h := cmp_Compare_int_run L (CN L (m + 1)) (cmp_isNaN_int_all L (m + 0))
  simpa only [cmp_Compare_int_ok, key] using h
theorem cmp_Or_int_all (L m : Nat) : cmp_Or_int_ok L (CN L (m + 1)) := by
  have key : ∀ args hp, CN L (m + 1) 262 args hp = run T (CN L (m + 0)) sh (keep 262) L Try.f262 args hp := fun args hp => callX_step (F := F) rfl (by kernel_rfl) args hp
  have h := cmp_Or_int_run L (CN L (m + 0))
  simpa only [cmp_Or_int_ok, key] using h
theorem impl_comparePegs_all (L m : Nat) : impl_comparePegs_ok L (CN L (m + 3)) := by
  have key : ∀ args hp, CN L (m + 3) 251 args hp = run T (CN L (m + 2)) sh (keep 251) L Try.f251 args hp := fun args hp => callX_step (F := F) rfl (by kernel_rfl) args hp
  have h := impl_comparePegs_run L (CN L (m + 2)) (cmp_Compare_int_all L (m + 0)) (cmp_Or_int_all L (m + 1))
  simpa only [impl_comparePegs_ok, key] using h
theorem laws_eqPeg_all (L m : Nat) : laws_eqPeg_ok L (CN L (m + 1)) := by
  have key : ∀ args hp, CN L (m + 1) 115 args hp = run T (CN L (m + 0)) sh (keep 115) L Try.f115 args hp := fun args hp => callX_step (F := F) rfl (by kernel_rfl) args hp
  have h := laws_eqPeg_run L (CN L (m + 0))
  simpa only [laws_eqPeg_ok, key] using h
theorem laws_eqPegS_all (L m : Nat) : laws_eqPegS_ok L (CN L (m + 2)) := by
  have key : ∀ args hp, CN L (m + 2) 40 args hp = run T (CN L (m + 1)) sh (keep 40) L Try.f40 args hp := fun args hp => callX_step (F := F) rfl (by kernel_rfl) args hp
  have h := laws_eqPegS_run L (CN L (m + 1)) (laws_eqPeg_all L (m + 0))
  simpa only [laws_eqPegS_ok, key] using h
theorem slices_Clone_impl_Peg_impl_Peg_all (L m : Nat) : slices_Clone_impl_Peg_impl_Peg_ok L (CN L (m + 1)) := by
  have key : ∀ args hp, CN L (m + 1) 249 args hp = run T (CN L (m + 0)) sh (keep 249) L Try.f249 args hp := fun args hp => callX_step (F := F) rfl (by kernel_rfl) args hp
  have h := slices_Clone_impl_Peg_impl_Peg_run L (CN L (m + 0))
  simpa only [slices_Clone_impl_Peg_impl_Peg_ok, key] using h
theorem impl_sorted_all (L m : Nat) : impl_sorted_ok L (CN L (m + 2)) := by
  have key : ∀ args hp, CN L (m + 2) 218 args hp = run T (CN L (m + 1)) sh (keep 218) L Try.f218 args hp := fun args hp => callX_step (F := F) rfl (by kernel_rfl) args hp
  have h := impl_sorted_run L (CN L (m + 1)) (slices_Clone_impl_Peg_impl_Peg_all L (m + 0)) (slices_SortFunc_impl_Peg_impl_Peg_all L (m + 0))
  simpa only [impl_sorted_ok, key] using h
theorem spec_wiDirection_all (L m : Nat) : spec_wiDirection_ok L (CN L (m + 4)) := by
  have key : ∀ args hp, CN L (m + 4) 247 args hp = run T (CN L (m + 3)) sh (keep 247) L Try.f247 args hp := fun args hp => callX_step (F := F) rfl (by kernel_rfl) args hp
  have h := spec_wiDirection_run L (CN L (m + 3)) (spec_l1In_all L (m + 2)) (spec_pgCommon_all L (m + 0))
  simpa only [spec_wiDirection_ok, key] using h
theorem spec_wiAsked_all (L m : Nat) : spec_wiAsked_ok L (CN L (m + 5)) := by
  have key : ∀ args hp, CN L (m + 5) 213 args hp = run T (CN L (m + 4)) sh (keep 213) L Try.f213 args hp := fun args hp => callX_step (F := F) rfl (by kernel_rfl) args hp
  have h := spec_wiAsked_run L (CN L (m + 4)) (spec_pgGood_all L (m + 0)) (spec_wiDirection_all L (m + 0))
  simpa only [spec_wiAsked_ok, key] using h
theorem spec_l1Least_all (L m : Nat) : spec_l1Least_ok L (CN L (m + 1)) := by
  have key : ∀ args hp, CN L (m + 1) 201 args hp = run T (CN L (m + 0)) sh (keep 201) L Try.f201 args hp := fun args hp => callX_step (F := F) rfl (by kernel_rfl) args hp
  have h := spec_l1Least_run L (CN L (m + 0))
  simpa only [spec_l1Least_ok, key] using h
theorem spec_wiRange_all (L m : Nat) : spec_wiRange_ok L (CN L (m + 2)) := by
  have key : ∀ args hp, CN L (m + 2) 214 args hp = run T (CN L (m + 1)) sh (keep 214) L Try.f214 args hp := fun args hp => callX_step (F := F) rfl (by kernel_rfl) args hp
  have h := spec_wiRange_run L (CN L (m + 1)) (spec_l1Most_all L (m + 0)) (spec_l1Least_all L (m + 0))
  simpa only [spec_wiRange_ok, key] using h
theorem spec_SupportOf_all (L m : Nat) : spec_SupportOf_ok L (CN L (m + 6)) := by
  have key : ∀ args hp, CN L (m + 6) 121 args hp = run T (CN L (m + 5)) sh (keep 121) L Try.f121 args hp := fun args hp => callX_step (F := F) rfl (by kernel_rfl) args hp
  have h := spec_SupportOf_run L (CN L (m + 5)) (spec_pgLess_all L (m + 4)) (spec_wiAsked_all L (m + 0)) (spec_wiRange_all L (m + 3))
  simpa only [spec_SupportOf_ok, key] using h
theorem impl_isDirection_all (L m : Nat) : impl_isDirection_ok L (CN L (m + 3)) := by
  have key : ∀ args hp, CN L (m + 3) 248 args hp = run T (CN L (m + 2)) sh (keep 248) L Try.f248 args hp := fun args hp => callX_step (F := F) rfl (by kernel_rfl) args hp
  have h := impl_isDirection_run L (CN L (m + 2)) (impl_within_all L (m + 1)) (impl_divisor_all L (m + 0))
  simpa only [impl_isDirection_ok, key] using h
theorem impl_isWide_all (L m : Nat) : impl_isWide_ok L (CN L (m + 8)) := by
  have key : ∀ args hp, CN L (m + 8) 216 args hp = run T (CN L (m + 7)) sh (keep 216) L Try.f216 args hp := fun args hp => callX_step (F := F) rfl (by kernel_rfl) args hp
  have h := impl_isWide_run L (CN L (m + 7)) (impl_IsPolygon_all L (m + 0)) (impl_isDirection_all L (m + 4))
  simpa only [impl_isWide_ok, key] using h
theorem impl_value_all (L m : Nat) : impl_value_ok L (CN L (m + 1)) := by
  have key : ∀ args hp, CN L (m + 1) 219 args hp = run T (CN L (m + 0)) sh (keep 219) L Try.f219 args hp := fun args hp => callX_step (F := F) rfl (by kernel_rfl) args hp
  have h := impl_value_run L (CN L (m + 0))
  simpa only [impl_value_ok, key] using h
theorem impl_extent_all (L m : Nat) : impl_extent_ok L (CN L (m + 2)) := by
  have key : ∀ args hp, CN L (m + 2) 217 args hp = run T (CN L (m + 1)) sh (keep 217) L Try.f217 args hp := fun args hp => callX_step (F := F) rfl (by kernel_rfl) args hp
  have h := impl_extent_run L (CN L (m + 1)) (impl_value_all L (m + 0))
  simpa only [impl_extent_ok, key] using h
theorem impl_SupportOf_all (L m : Nat) : impl_SupportOf_ok L (CN L (m + 9)) := by
  have key : ∀ args hp, CN L (m + 9) 122 args hp = run T (CN L (m + 8)) sh (keep 122) L Try.f122 args hp := fun args hp => callX_step (F := F) rfl (by kernel_rfl) args hp
  have h := impl_SupportOf_run L (CN L (m + 8)) (impl_sorted_all L (m + 6)) (impl_isWide_all L (m + 0)) (impl_value_all L (m + 7)) (impl_extent_all L (m + 6))
  simpa only [impl_SupportOf_ok, key] using h
theorem laws_markPegS_all (L m : Nat) : laws_markPegS_ok L (CN L (m + 1)) := by
  have key : ∀ args hp, CN L (m + 1) 123 args hp = run T (CN L (m + 0)) sh (keep 123) L Try.f123 args hp := fun args hp => callX_step (F := F) rfl (by kernel_rfl) args hp
  have h := laws_markPegS_run L (CN L (m + 0))
  simpa only [laws_markPegS_ok, key] using h
theorem laws_heldPegS_all (L m : Nat) : laws_heldPegS_ok L (CN L (m + 1)) := by
  have key : ∀ args hp, CN L (m + 1) 124 args hp = run T (CN L (m + 0)) sh (keep 124) L Try.f124 args hp := fun args hp => callX_step (F := F) rfl (by kernel_rfl) args hp
  have h := laws_heldPegS_run L (CN L (m + 0))
  simpa only [laws_heldPegS_ok, key] using h
theorem laws_FnExactSupportOf_all (L m : Nat) : laws_FnExactSupportOf_ok L (CN L (m + 10)) := by
  have key : ∀ args hp, CN L (m + 10) 13 args hp = run T (CN L (m + 9)) sh (keep 13) L Try.f13 args hp := fun args hp => callX_step (F := F) rfl (by kernel_rfl) args hp
  have h := laws_FnExactSupportOf_run L (CN L (m + 9)) (laws_szPegS_all L (m + 8)) (laws_toPegS_all L (m + 7)) (laws_eqPegS_all L (m + 7)) (spec_SupportOf_all L (m + 3)) (impl_SupportOf_all L (m + 0)) (laws_markPegS_all L (m + 8)) (laws_heldPegS_all L (m + 8))
  simpa only [laws_FnExactSupportOf_ok, key] using h
end Go.AM
