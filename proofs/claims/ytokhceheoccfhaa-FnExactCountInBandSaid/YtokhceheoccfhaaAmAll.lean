import Derived.Test.YtokhceheoccfhaaAmM0
import Derived.KernelRfl
import Derived.Test.YtokhceheoccfhaaAmLay
set_option linter.unusedVariables false
set_option linter.unusedSimpArgs false
set_option linter.unnecessarySimpa false
set_option linter.deprecated false
set_option linter.unusedSectionVars false
open Go Go.AM Go.Proofs
namespace Go.AM
set_option maxRecDepth 100000

noncomputable def rowsF : List (Nat × Func) := [(14, Try.f14), (36, Try.f36), (38, Try.f38), (40, Try.f40), (115, Try.f115), (119, Try.f119), (125, Try.f125), (126, Try.f126), (128, Try.f128), (131, Try.f131), (133, Try.f133), (134, Try.f134), (145, Try.f145), (147, Try.f147), (148, Try.f148), (151, Try.f151), (165, Try.f165), (172, Try.f172), (173, Try.f173), (174, Try.f174), (175, Try.f175), (177, Try.f177), (191, Try.f191), (194, Try.f194), (195, Try.f195), (197, Try.f197), (199, Try.f199), (202, Try.f202), (204, Try.f204), (205, Try.f205), (206, Try.f206), (207, Try.f207), (215, Try.f215), (218, Try.f218), (220, Try.f220), (221, Try.f221), (237, Try.f237), (238, Try.f238), (239, Try.f239), (241, Try.f241), (242, Try.f242), (243, Try.f243), (244, Try.f244), (249, Try.f249), (251, Try.f251), (255, Try.f255), (258, Try.f258), (259, Try.f259), (262, Try.f262), (263, Try.f263)]
theorem fok14 : FOk Try.prog sh keep (14, Try.f14) := ⟨Try.func14, by kernel_rfl, by kernel_rfl⟩
theorem fok36 : FOk Try.prog sh keep (36, Try.f36) := ⟨Try.func36, by kernel_rfl, by kernel_rfl⟩
theorem fok38 : FOk Try.prog sh keep (38, Try.f38) := ⟨Try.func38, by kernel_rfl, by kernel_rfl⟩
theorem fok40 : FOk Try.prog sh keep (40, Try.f40) := ⟨Try.func40, by kernel_rfl, by kernel_rfl⟩
theorem fok115 : FOk Try.prog sh keep (115, Try.f115) := ⟨Try.func115, by kernel_rfl, by kernel_rfl⟩
theorem fok119 : FOk Try.prog sh keep (119, Try.f119) := ⟨Try.func119, by kernel_rfl, by kernel_rfl⟩
theorem fok125 : FOk Try.prog sh keep (125, Try.f125) := ⟨Try.func125, by kernel_rfl, by kernel_rfl⟩
theorem fok126 : FOk Try.prog sh keep (126, Try.f126) := ⟨Try.func126, by kernel_rfl, by kernel_rfl⟩
theorem fok128 : FOk Try.prog sh keep (128, Try.f128) := ⟨Try.func128, by kernel_rfl, by kernel_rfl⟩
theorem fok131 : FOk Try.prog sh keep (131, Try.f131) := ⟨Try.func131, by kernel_rfl, by kernel_rfl⟩
theorem fok133 : FOk Try.prog sh keep (133, Try.f133) := ⟨Try.func133, by kernel_rfl, by kernel_rfl⟩
theorem fok134 : FOk Try.prog sh keep (134, Try.f134) := ⟨Try.func134, by kernel_rfl, by kernel_rfl⟩
theorem fok145 : FOk Try.prog sh keep (145, Try.f145) := ⟨Try.func145, by kernel_rfl, by kernel_rfl⟩
theorem fok147 : FOk Try.prog sh keep (147, Try.f147) := ⟨Try.func147, by kernel_rfl, by kernel_rfl⟩
theorem fok148 : FOk Try.prog sh keep (148, Try.f148) := ⟨Try.func148, by kernel_rfl, by kernel_rfl⟩
theorem fok151 : FOk Try.prog sh keep (151, Try.f151) := ⟨Try.func151, by kernel_rfl, by kernel_rfl⟩
theorem fok165 : FOk Try.prog sh keep (165, Try.f165) := ⟨Try.func165, by kernel_rfl, by kernel_rfl⟩
theorem fok172 : FOk Try.prog sh keep (172, Try.f172) := ⟨Try.func172, by kernel_rfl, by kernel_rfl⟩
theorem fok173 : FOk Try.prog sh keep (173, Try.f173) := ⟨Try.func173, by kernel_rfl, by kernel_rfl⟩
theorem fok174 : FOk Try.prog sh keep (174, Try.f174) := ⟨Try.func174, by kernel_rfl, by kernel_rfl⟩
theorem fok175 : FOk Try.prog sh keep (175, Try.f175) := ⟨Try.func175, by kernel_rfl, by kernel_rfl⟩
theorem fok177 : FOk Try.prog sh keep (177, Try.f177) := ⟨Try.func177, by kernel_rfl, by kernel_rfl⟩
theorem fok191 : FOk Try.prog sh keep (191, Try.f191) := ⟨Try.func191, by kernel_rfl, by kernel_rfl⟩
theorem fok194 : FOk Try.prog sh keep (194, Try.f194) := ⟨Try.func194, by kernel_rfl, by kernel_rfl⟩
theorem fok195 : FOk Try.prog sh keep (195, Try.f195) := ⟨Try.func195, by kernel_rfl, by kernel_rfl⟩
theorem fok197 : FOk Try.prog sh keep (197, Try.f197) := ⟨Try.func197, by kernel_rfl, by kernel_rfl⟩
theorem fok199 : FOk Try.prog sh keep (199, Try.f199) := ⟨Try.func199, by kernel_rfl, by kernel_rfl⟩
theorem fok202 : FOk Try.prog sh keep (202, Try.f202) := ⟨Try.func202, by kernel_rfl, by kernel_rfl⟩
theorem fok204 : FOk Try.prog sh keep (204, Try.f204) := ⟨Try.func204, by kernel_rfl, by kernel_rfl⟩
theorem fok205 : FOk Try.prog sh keep (205, Try.f205) := ⟨Try.func205, by kernel_rfl, by kernel_rfl⟩
theorem fok206 : FOk Try.prog sh keep (206, Try.f206) := ⟨Try.func206, by kernel_rfl, by kernel_rfl⟩
theorem fok207 : FOk Try.prog sh keep (207, Try.f207) := ⟨Try.func207, by kernel_rfl, by kernel_rfl⟩
theorem fok215 : FOk Try.prog sh keep (215, Try.f215) := ⟨Try.func215, by kernel_rfl, by kernel_rfl⟩
theorem fok218 : FOk Try.prog sh keep (218, Try.f218) := ⟨Try.func218, by kernel_rfl, by kernel_rfl⟩
theorem fok220 : FOk Try.prog sh keep (220, Try.f220) := ⟨Try.func220, by kernel_rfl, by kernel_rfl⟩
theorem fok221 : FOk Try.prog sh keep (221, Try.f221) := ⟨Try.func221, by kernel_rfl, by kernel_rfl⟩
theorem fok237 : FOk Try.prog sh keep (237, Try.f237) := ⟨Try.func237, by kernel_rfl, by kernel_rfl⟩
theorem fok238 : FOk Try.prog sh keep (238, Try.f238) := ⟨Try.func238, by kernel_rfl, by kernel_rfl⟩
theorem fok239 : FOk Try.prog sh keep (239, Try.f239) := ⟨Try.func239, by kernel_rfl, by kernel_rfl⟩
theorem fok241 : FOk Try.prog sh keep (241, Try.f241) := ⟨Try.func241, by kernel_rfl, by kernel_rfl⟩
theorem fok242 : FOk Try.prog sh keep (242, Try.f242) := ⟨Try.func242, by kernel_rfl, by kernel_rfl⟩
theorem fok243 : FOk Try.prog sh keep (243, Try.f243) := ⟨Try.func243, by kernel_rfl, by kernel_rfl⟩
theorem fok244 : FOk Try.prog sh keep (244, Try.f244) := ⟨Try.func244, by kernel_rfl, by kernel_rfl⟩
theorem fok249 : FOk Try.prog sh keep (249, Try.f249) := ⟨Try.func249, by kernel_rfl, by kernel_rfl⟩
theorem fok251 : FOk Try.prog sh keep (251, Try.f251) := ⟨Try.func251, by kernel_rfl, by kernel_rfl⟩
theorem fok255 : FOk Try.prog sh keep (255, Try.f255) := ⟨Try.func255, by kernel_rfl, by kernel_rfl⟩
theorem fok258 : FOk Try.prog sh keep (258, Try.f258) := ⟨Try.func258, by kernel_rfl, by kernel_rfl⟩
theorem fok259 : FOk Try.prog sh keep (259, Try.f259) := ⟨Try.func259, by kernel_rfl, by kernel_rfl⟩
theorem fok262 : FOk Try.prog sh keep (262, Try.f262) := ⟨Try.func262, by kernel_rfl, by kernel_rfl⟩
theorem fok263 : FOk Try.prog sh keep (263, Try.f263) := ⟨Try.func263, by kernel_rfl, by kernel_rfl⟩
theorem fokAll : ∀ p ∈ rowsF, FOk Try.prog sh keep p :=
  fOk_cons fok14 (fOk_cons fok36 (fOk_cons fok38 (fOk_cons fok40 (fOk_cons fok115 (fOk_cons fok119 (fOk_cons fok125 (fOk_cons fok126 (fOk_cons fok128 (fOk_cons fok131 (fOk_cons fok133 (fOk_cons fok134 (fOk_cons fok145 (fOk_cons fok147 (fOk_cons fok148 (fOk_cons fok151 (fOk_cons fok165 (fOk_cons fok172 (fOk_cons fok173 (fOk_cons fok174 (fOk_cons fok175 (fOk_cons fok177 (fOk_cons fok191 (fOk_cons fok194 (fOk_cons fok195 (fOk_cons fok197 (fOk_cons fok199 (fOk_cons fok202 (fOk_cons fok204 (fOk_cons fok205 (fOk_cons fok206 (fOk_cons fok207 (fOk_cons fok215 (fOk_cons fok218 (fOk_cons fok220 (fOk_cons fok221 (fOk_cons fok237 (fOk_cons fok238 (fOk_cons fok239 (fOk_cons fok241 (fOk_cons fok242 (fOk_cons fok243 (fOk_cons fok244 (fOk_cons fok249 (fOk_cons fok251 (fOk_cons fok255 (fOk_cons fok258 (fOk_cons fok259 (fOk_cons fok262 (fOk_cons fok263 fOk_nil)))))))))))))))))))))))))))))))))))))))))))))))))
theorem tokAll : rowsT.all (tiR Try.prog) = true := by kernel_rfl
noncomputable def F : FuncId → Option Func := findL rowsF
noncomputable def CN0 (L n : Nat) : CF := callF T F sh keep L n
theorem cn0_sound (L n : Nat) : CSound Try.prog (CN0 L n) := callF_sound tokAll fokAll (by kernel_rfl) L n
theorem cmp_isNaN_int_all0 (L m : Nat) : cmp_isNaN_int_ok L (CN0 L (m + 1)) := by
  have key : ∀ args hp, CN0 L (m + 1) 263 args hp = run T (CN0 L (m + 0)) sh (keep 263) L Try.f263 args hp := fun args hp => callF_step (F := F) (by kernel_rfl) args hp
  have h := cmp_isNaN_int_run L (CN0 L (m + 0))
  simpa only [cmp_isNaN_int_ok, key] using h
theorem cmp_Compare_int_all0 (L m : Nat) : cmp_Compare_int_ok L (CN0 L (m + 2)) := by
  have key : ∀ args hp, CN0 L (m + 2) 255 args hp = run T (CN0 L (m + 1)) sh (keep 255) L Try.f255 args hp := fun args hp => callF_step (F := F) (by kernel_rfl) args hp
  have h := cmp_Compare_int_run L (CN0 L (m + 1)) (cmp_isNaN_int_all0 L (m + 0))
  simpa only [cmp_Compare_int_ok, key] using h
theorem cmp_Or_int_all0 (L m : Nat) : cmp_Or_int_ok L (CN0 L (m + 1)) := by
  have key : ∀ args hp, CN0 L (m + 1) 262 args hp = run T (CN0 L (m + 0)) sh (keep 262) L Try.f262 args hp := fun args hp => callF_step (F := F) (by kernel_rfl) args hp
  have h := cmp_Or_int_run L (CN0 L (m + 0))
  simpa only [cmp_Or_int_ok, key] using h
theorem impl_comparePegs_all0 (L m : Nat) : impl_comparePegs_ok L (CN0 L (m + 3)) := by
  have key : ∀ args hp, CN0 L (m + 3) 251 args hp = run T (CN0 L (m + 2)) sh (keep 251) L Try.f251 args hp := fun args hp => callF_step (F := F) (by kernel_rfl) args hp
  have h := impl_comparePegs_run L (CN0 L (m + 2)) (cmp_Compare_int_all0 L (m + 0)) (cmp_Or_int_all0 L (m + 1))
  simpa only [impl_comparePegs_ok, key] using h
theorem cmp_holds (p q : Pt) : CN0 10 (0 + 3) 251 [ep p, ep q] [] = some (.int .i64 (ordP p q), []) := by
  have h := impl_comparePegs_all0 10 0 p.x p.y q.x q.y
  rw [cmp_val] at h
  exact h
noncomputable def XF : CF := sortX 250 251 ordP
def isX (f : FuncId) : Bool := Nat.beq f 250
theorem xf_sound : CSound Try.prog fun f args hp => bif isX f then XF f args hp else none := by
  have h := sortX_sound (P := Try.prog) (ρ := sortPegs_ren) sortPegs sortPegs_agg sortPegs_size (cn0_sound 10 (0 + 3)) (fC := 251) (cf := ordP) cmp_holds swo_ordP tot_ordP ⟨Try.f250, Try.func250, by kernel_rfl, by kernel_rfl⟩
  intro f args hp res hp' e
  cases hx : isX f with
  | true => simp only [hx, cond_true] at e; exact h f args hp res hp' e
  | false => simp only [hx, cond_false] at e; cases e
noncomputable def CN (L n : Nat) : CF := callN T F XF isX sh keep L n
theorem cn_sound (L n : Nat) : CSound Try.prog (CN L n) := callN_sound (tOk_rows tokAll) (by kernel_rfl) (fun f fn h => fokAll _ (findL_mem h)) xf_sound n
theorem slices_SortFunc_impl_Peg_impl_Peg_all (L m : Nat) : slices_SortFunc_impl_Peg_impl_Peg_ok L (CN L (m + 1)) := by
  intro c x l hx
  have key := callX_ext (T := T) (F := F) (X := XF) (isX := isX) (sh := sh) (keep := keep) (L := L) (n := m) (f := 250) rfl [.own 0 2 none c, .fn 251 [] []] [.rows .live 2 x]
  exact key.trans (sortX_all c x l hx)
theorem laws_szPegS_all (L m : Nat) : laws_szPegS_ok L (CN L (m + 1)) := by
  have key : ∀ args hp, CN L (m + 1) 36 args hp = run T (CN L (m + 0)) sh (keep 36) L Try.f36 args hp := fun args hp => callX_step (F := F) rfl (by kernel_rfl) args hp
  have h := laws_szPegS_run L (CN L (m + 0))
  simpa only [laws_szPegS_ok, key] using h
theorem laws_toPeg_all (L m : Nat) : laws_toPeg_ok L (CN L (m + 1)) := by
  have key : ∀ args hp, CN L (m + 1) 119 args hp = run T (CN L (m + 0)) sh (keep 119) L Try.f119 args hp := fun args hp => callX_step (F := F) rfl (by kernel_rfl) args hp
  have h := laws_toPeg_run L (CN L (m + 0))
  simpa only [laws_toPeg_ok, key] using h
theorem laws_toPegS_all (L m : Nat) : laws_toPegS_ok L (CN L (m + 2)) := by
  have key : ∀ args hp, CN L (m + 2) 38 args hp = run T (CN L (m + 1)) sh (keep 38) L Try.f38 args hp := fun args hp => callX_step (F := F) rfl (by kernel_rfl) args hp
  have h := laws_toPegS_run L (CN L (m + 1)) (laws_toPeg_all L (m + 0))
  simpa only [laws_toPegS_ok, key] using h
theorem spec_l1In_all (L m : Nat) : spec_l1In_ok L (CN L (m + 1)) := by
  have key : ∀ args hp, CN L (m + 1) 191 args hp = run T (CN L (m + 0)) sh (keep 191) L Try.f191 args hp := fun args hp => callX_step (F := F) rfl (by kernel_rfl) args hp
  have h := spec_l1In_run L (CN L (m + 0))
  simpa only [spec_l1In_ok, key] using h
theorem spec_pgIs_all (L m : Nat) : spec_pgIs_ok L (CN L (m + 2)) := by
  have key : ∀ args hp, CN L (m + 2) 131 args hp = run T (CN L (m + 1)) sh (keep 131) L Try.f131 args hp := fun args hp => callX_step (F := F) rfl (by kernel_rfl) args hp
  have h := spec_pgIs_run L (CN L (m + 1)) (spec_l1In_all L (m + 0))
  simpa only [spec_pgIs_ok, key] using h
theorem spec_pgTurn_all (L m : Nat) : spec_pgTurn_ok L (CN L (m + 1)) := by
  have key : ∀ args hp, CN L (m + 1) 221 args hp = run T (CN L (m + 0)) sh (keep 221) L Try.f221 args hp := fun args hp => callX_step (F := F) rfl (by kernel_rfl) args hp
  have h := spec_pgTurn_run L (CN L (m + 0))
  simpa only [spec_pgTurn_ok, key] using h
theorem spec_pgArea_all (L m : Nat) : spec_pgArea_ok L (CN L (m + 2)) := by
  have key : ∀ args hp, CN L (m + 2) 145 args hp = run T (CN L (m + 1)) sh (keep 145) L Try.f145 args hp := fun args hp => callX_step (F := F) rfl (by kernel_rfl) args hp
  have h := spec_pgArea_run L (CN L (m + 1)) (spec_pgTurn_all L (m + 0))
  simpa only [spec_pgArea_ok, key] using h
theorem spec_l1Most_all (L m : Nat) : spec_l1Most_ok L (CN L (m + 1)) := by
  have key : ∀ args hp, CN L (m + 1) 197 args hp = run T (CN L (m + 0)) sh (keep 197) L Try.f197 args hp := fun args hp => callX_step (F := F) rfl (by kernel_rfl) args hp
  have h := spec_l1Most_run L (CN L (m + 0))
  simpa only [spec_l1Most_ok, key] using h
theorem spec_l1Abs_all (L m : Nat) : spec_l1Abs_ok L (CN L (m + 2)) := by
  have key : ∀ args hp, CN L (m + 2) 148 args hp = run T (CN L (m + 1)) sh (keep 148) L Try.f148 args hp := fun args hp => callX_step (F := F) rfl (by kernel_rfl) args hp
  have h := spec_l1Abs_run L (CN L (m + 1)) (spec_l1Most_all L (m + 0))
  simpa only [spec_l1Abs_ok, key] using h
theorem spec_pgCommon_all (L m : Nat) : spec_pgCommon_ok L (CN L (m + 3)) := by
  have key : ∀ args hp, CN L (m + 3) 195 args hp = run T (CN L (m + 2)) sh (keep 195) L Try.f195 args hp := fun args hp => callX_step (F := F) rfl (by kernel_rfl) args hp
  have h := spec_pgCommon_run L (CN L (m + 2)) (spec_l1Abs_all L (m + 0))
  simpa only [spec_pgCommon_ok, key] using h
theorem spec_pgStep_all (L m : Nat) : spec_pgStep_ok L (CN L (m + 4)) := by
  have key : ∀ args hp, CN L (m + 4) 220 args hp = run T (CN L (m + 3)) sh (keep 220) L Try.f220 args hp := fun args hp => callX_step (F := F) rfl (by kernel_rfl) args hp
  have h := spec_pgStep_run L (CN L (m + 3)) (spec_pgCommon_all L (m + 0))
  simpa only [spec_pgStep_ok, key] using h
theorem spec_pgRound_all (L m : Nat) : spec_pgRound_ok L (CN L (m + 5)) := by
  have key : ∀ args hp, CN L (m + 5) 165 args hp = run T (CN L (m + 4)) sh (keep 165) L Try.f165 args hp := fun args hp => callX_step (F := F) rfl (by kernel_rfl) args hp
  have h := spec_pgRound_run L (CN L (m + 4)) (spec_pgStep_all L (m + 0))
  simpa only [spec_pgRound_ok, key] using h
theorem spec_pgLess_all (L m : Nat) : spec_pgLess_ok L (CN L (m + 1)) := by
  have key : ∀ args hp, CN L (m + 1) 215 args hp = run T (CN L (m + 0)) sh (keep 215) L Try.f215 args hp := fun args hp => callX_step (F := F) rfl (by kernel_rfl) args hp
  have h := spec_pgLess_run L (CN L (m + 0))
  simpa only [spec_pgLess_ok, key] using h
theorem impl_within_all (L m : Nat) : impl_within_ok L (CN L (m + 1)) := by
  have key : ∀ args hp, CN L (m + 1) 134 args hp = run T (CN L (m + 0)) sh (keep 134) L Try.f134 args hp := fun args hp => callX_step (F := F) rfl (by kernel_rfl) args hp
  have h := impl_within_run L (CN L (m + 0))
  simpa only [impl_within_ok, key] using h
theorem impl_IsPeg_all (L m : Nat) : impl_IsPeg_ok L (CN L (m + 2)) := by
  have key : ∀ args hp, CN L (m + 2) 128 args hp = run T (CN L (m + 1)) sh (keep 128) L Try.f128 args hp := fun args hp => callX_step (F := F) rfl (by kernel_rfl) args hp
  have h := impl_IsPeg_run L (CN L (m + 1)) (impl_within_all L (m + 0))
  simpa only [impl_IsPeg_ok, key] using h
theorem impl_arePegs_1_all (L m : Nat) : impl_arePegs_1_ok L (CN L (m + 3)) := by
  have key : ∀ args hp, CN L (m + 3) 238 args hp = run T (CN L (m + 2)) sh (keep 238) L Try.f238 args hp := fun args hp => callX_step (F := F) rfl (by kernel_rfl) args hp
  have h := impl_arePegs_1_run L (CN L (m + 2)) (impl_IsPeg_all L (m + 0))
  simpa only [impl_arePegs_1_ok, key] using h
theorem slices_IndexFunc_impl_Peg_impl_Peg_arePegs_all (L m : Nat) : slices_IndexFunc_impl_Peg_impl_Peg_arePegs_ok L (CN L (m + 4)) := by
  have key : ∀ args hp, CN L (m + 4) 258 args hp = run T (CN L (m + 3)) sh (keep 258) L Try.f258 args hp := fun args hp => callX_step (F := F) rfl (by kernel_rfl) args hp
  have h := slices_IndexFunc_impl_Peg_impl_Peg_arePegs_run L (CN L (m + 3)) (impl_arePegs_1_all L (m + 0))
  simpa only [slices_IndexFunc_impl_Peg_impl_Peg_arePegs_ok, key] using h
theorem slices_ContainsFunc_impl_Peg_impl_Peg_arePegs_all (L m : Nat) : slices_ContainsFunc_impl_Peg_impl_Peg_arePegs_ok L (CN L (m + 5)) := by
  have key : ∀ args hp, CN L (m + 5) 237 args hp = run T (CN L (m + 4)) sh (keep 237) L Try.f237 args hp := fun args hp => callX_step (F := F) rfl (by kernel_rfl) args hp
  have h := slices_ContainsFunc_impl_Peg_impl_Peg_arePegs_run L (CN L (m + 4)) (slices_IndexFunc_impl_Peg_impl_Peg_arePegs_all L (m + 0))
  simpa only [slices_ContainsFunc_impl_Peg_impl_Peg_arePegs_ok, key] using h
theorem impl_arePegs_all (L m : Nat) : impl_arePegs_ok L (CN L (m + 6)) := by
  have key : ∀ args hp, CN L (m + 6) 172 args hp = run T (CN L (m + 5)) sh (keep 172) L Try.f172 args hp := fun args hp => callX_step (F := F) rfl (by kernel_rfl) args hp
  have h := impl_arePegs_run L (CN L (m + 5)) (slices_ContainsFunc_impl_Peg_impl_Peg_arePegs_all L (m + 0))
  simpa only [impl_arePegs_ok, key] using h
theorem slices_Index_impl_Peg_impl_Peg_all (L m : Nat) : slices_Index_impl_Peg_impl_Peg_ok L (CN L (m + 1)) := by
  have key : ∀ args hp, CN L (m + 1) 239 args hp = run T (CN L (m + 0)) sh (keep 239) L Try.f239 args hp := fun args hp => callX_step (F := F) rfl (by kernel_rfl) args hp
  have h := slices_Index_impl_Peg_impl_Peg_run L (CN L (m + 0))
  simpa only [slices_Index_impl_Peg_impl_Peg_ok, key] using h
theorem slices_Contains_impl_Peg_impl_Peg_all (L m : Nat) : slices_Contains_impl_Peg_impl_Peg_ok L (CN L (m + 2)) := by
  have key : ∀ args hp, CN L (m + 2) 173 args hp = run T (CN L (m + 1)) sh (keep 173) L Try.f173 args hp := fun args hp => callX_step (F := F) rfl (by kernel_rfl) args hp
  have h := slices_Contains_impl_Peg_impl_Peg_run L (CN L (m + 1)) (slices_Index_impl_Peg_impl_Peg_all L (m + 0))
  simpa only [slices_Contains_impl_Peg_impl_Peg_ok, key] using h
theorem impl_at_all (L m : Nat) : impl_at_ok L (CN L (m + 1)) := by
  have key : ∀ args hp, CN L (m + 1) 175 args hp = run T (CN L (m + 0)) sh (keep 175) L Try.f175 args hp := fun args hp => callX_step (F := F) rfl (by kernel_rfl) args hp
  have h := impl_at_run L (CN L (m + 0))
  simpa only [impl_at_ok, key] using h
theorem impl_Peg_less_all (L m : Nat) : impl_Peg_less_ok L (CN L (m + 1)) := by
  have key : ∀ args hp, CN L (m + 1) 199 args hp = run T (CN L (m + 0)) sh (keep 199) L Try.f199 args hp := fun args hp => callX_step (F := F) rfl (by kernel_rfl) args hp
  have h := impl_Peg_less_run L (CN L (m + 0))
  simpa only [impl_Peg_less_ok, key] using h
theorem impl_cross_all (L m : Nat) : impl_cross_ok L (CN L (m + 1)) := by
  have key : ∀ args hp, CN L (m + 1) 202 args hp = run T (CN L (m + 0)) sh (keep 202) L Try.f202 args hp := fun args hp => callX_step (F := F) rfl (by kernel_rfl) args hp
  have h := impl_cross_run L (CN L (m + 0))
  simpa only [impl_cross_ok, key] using h
theorem impl_turn_all (L m : Nat) : impl_turn_ok L (CN L (m + 2)) := by
  have key : ∀ args hp, CN L (m + 2) 174 args hp = run T (CN L (m + 1)) sh (keep 174) L Try.f174 args hp := fun args hp => callX_step (F := F) rfl (by kernel_rfl) args hp
  have h := impl_turn_run L (CN L (m + 1)) (impl_Peg_less_all L (m + 0)) (impl_cross_all L (m + 0))
  simpa only [impl_turn_ok, key] using h
theorem impl_twice_all (L m : Nat) : impl_twice_ok L (CN L (m + 2)) := by
  have key : ∀ args hp, CN L (m + 2) 133 args hp = run T (CN L (m + 1)) sh (keep 133) L Try.f133 args hp := fun args hp => callX_step (F := F) rfl (by kernel_rfl) args hp
  have h := impl_twice_run L (CN L (m + 1)) (impl_at_all L (m + 0)) (impl_cross_all L (m + 0))
  simpa only [impl_twice_ok, key] using h
theorem impl_size_all (L m : Nat) : impl_size_ok L (CN L (m + 1)) := by
  have key : ∀ args hp, CN L (m + 1) 147 args hp = run T (CN L (m + 0)) sh (keep 147) L Try.f147 args hp := fun args hp => callX_step (F := F) rfl (by kernel_rfl) args hp
  have h := impl_size_run L (CN L (m + 0))
  simpa only [impl_size_ok, key] using h
theorem impl_divisor_all (L m : Nat) : impl_divisor_ok L (CN L (m + 2)) := by
  have key : ∀ args hp, CN L (m + 2) 194 args hp = run T (CN L (m + 1)) sh (keep 194) L Try.f194 args hp := fun args hp => callX_step (F := F) rfl (by kernel_rfl) args hp
  have h := impl_divisor_run L (CN L (m + 1)) (impl_size_all L (m + 0))
  simpa only [impl_divisor_ok, key] using h
theorem impl_steps_all (L m : Nat) : impl_steps_ok L (CN L (m + 3)) := by
  have key : ∀ args hp, CN L (m + 3) 177 args hp = run T (CN L (m + 2)) sh (keep 177) L Try.f177 args hp := fun args hp => callX_step (F := F) rfl (by kernel_rfl) args hp
  have h := impl_steps_run L (CN L (m + 2)) (impl_divisor_all L (m + 0))
  simpa only [impl_steps_ok, key] using h
theorem impl_around_all (L m : Nat) : impl_around_ok L (CN L (m + 4)) := by
  have key : ∀ args hp, CN L (m + 4) 151 args hp = run T (CN L (m + 3)) sh (keep 151) L Try.f151 args hp := fun args hp => callX_step (F := F) rfl (by kernel_rfl) args hp
  have h := impl_around_run L (CN L (m + 3)) (impl_at_all L (m + 2)) (impl_steps_all L (m + 0))
  simpa only [impl_around_ok, key] using h
theorem cmp_isNaN_int_all (L m : Nat) : cmp_isNaN_int_ok L (CN L (m + 1)) := by
  have key : ∀ args hp, CN L (m + 1) 263 args hp = run T (CN L (m + 0)) sh (keep 263) L Try.f263 args hp := fun args hp => callX_step (F := F) rfl (by kernel_rfl) args hp
  have h := cmp_isNaN_int_run L (CN L (m + 0))
  simpa only [cmp_isNaN_int_ok, key] using h
theorem cmp_Compare_int_all (L m : Nat) : cmp_Compare_int_ok L (CN L (m + 2)) := by
  have key : ∀ args hp, CN L (m + 2) 255 args hp = run T (CN L (m + 1)) sh (keep 255) L Try.f255 args hp := fun args hp => callX_step (F := F) rfl (by kernel_rfl) args hp
  have h := cmp_Compare_int_run L (CN L (m + 1)) (cmp_isNaN_int_all L (m + 0))
  simpa only [cmp_Compare_int_ok, key] using h
theorem cmp_Or_int_all (L m : Nat) : cmp_Or_int_ok L (CN L (m + 1)) := by
  have key : ∀ args hp, CN L (m + 1) 262 args hp = run T (CN L (m + 0)) sh (keep 262) L Try.f262 args hp := fun args hp => callX_step (F := F) rfl (by kernel_rfl) args hp
  have h := cmp_Or_int_run L (CN L (m + 0))
  simpa only [cmp_Or_int_ok, key] using h
theorem impl_comparePegs_all (L m : Nat) : impl_comparePegs_ok L (CN L (m + 3)) := by
  have key : ∀ args hp, CN L (m + 3) 251 args hp = run T (CN L (m + 2)) sh (keep 251) L Try.f251 args hp := fun args hp => callX_step (F := F) rfl (by kernel_rfl) args hp
  have h := impl_comparePegs_run L (CN L (m + 2)) (cmp_Compare_int_all L (m + 0)) (cmp_Or_int_all L (m + 1))
  simpa only [impl_comparePegs_ok, key] using h
theorem laws_eqPeg_all (L m : Nat) : laws_eqPeg_ok L (CN L (m + 1)) := by
  have key : ∀ args hp, CN L (m + 1) 115 args hp = run T (CN L (m + 0)) sh (keep 115) L Try.f115 args hp := fun args hp => callX_step (F := F) rfl (by kernel_rfl) args hp
  have h := laws_eqPeg_run L (CN L (m + 0))
  simpa only [laws_eqPeg_ok, key] using h
theorem laws_eqPegS_all (L m : Nat) : laws_eqPegS_ok L (CN L (m + 2)) := by
  have key : ∀ args hp, CN L (m + 2) 40 args hp = run T (CN L (m + 1)) sh (keep 40) L Try.f40 args hp := fun args hp => callX_step (F := F) rfl (by kernel_rfl) args hp
  have h := laws_eqPegS_run L (CN L (m + 1)) (laws_eqPeg_all L (m + 0))
  simpa only [laws_eqPegS_ok, key] using h
theorem spec_bdGood_all (L m : Nat) : spec_bdGood_ok L (CN L (m + 3)) := by
  have key : ∀ args hp, CN L (m + 3) 204 args hp = run T (CN L (m + 2)) sh (keep 204) L Try.f204 args hp := fun args hp => callX_step (F := F) rfl (by kernel_rfl) args hp
  have h := spec_bdGood_run L (CN L (m + 2)) (spec_l1In_all L (m + 1)) (spec_pgIs_all L (m + 0))
  simpa only [spec_bdGood_ok, key] using h
theorem spec_bdSorted_all (L m : Nat) : spec_bdSorted_ok L (CN L (m + 2)) := by
  have key : ∀ args hp, CN L (m + 2) 241 args hp = run T (CN L (m + 1)) sh (keep 241) L Try.f241 args hp := fun args hp => callX_step (F := F) rfl (by kernel_rfl) args hp
  have h := spec_bdSorted_run L (CN L (m + 1)) (spec_pgLess_all L (m + 0))
  simpa only [spec_bdSorted_ok, key] using h
theorem spec_bdBand_all (L m : Nat) : spec_bdBand_ok L (CN L (m + 3)) := by
  have key : ∀ args hp, CN L (m + 3) 205 args hp = run T (CN L (m + 2)) sh (keep 205) L Try.f205 args hp := fun args hp => callX_step (F := F) rfl (by kernel_rfl) args hp
  have h := spec_bdBand_run L (CN L (m + 2)) (spec_pgTurn_all L (m + 1)) (spec_bdSorted_all L (m + 0))
  simpa only [spec_bdBand_ok, key] using h
theorem impl_AreDifferent_all (L m : Nat) : impl_AreDifferent_ok L (CN L (m + 7)) := by
  have key : ∀ args hp, CN L (m + 7) 206 args hp = run T (CN L (m + 6)) sh (keep 206) L Try.f206 args hp := fun args hp => callX_step (F := F) rfl (by kernel_rfl) args hp
  have h := impl_AreDifferent_run L (CN L (m + 6)) (impl_within_all L (m + 5)) (impl_arePegs_all L (m + 0)) (slices_Contains_impl_Peg_impl_Peg_all L (m + 4))
  simpa only [impl_AreDifferent_ok, key] using h
theorem slices_Clone_impl_Peg_impl_Peg_all (L m : Nat) : slices_Clone_impl_Peg_impl_Peg_ok L (CN L (m + 1)) := by
  have key : ∀ args hp, CN L (m + 1) 249 args hp = run T (CN L (m + 0)) sh (keep 249) L Try.f249 args hp := fun args hp => callX_step (F := F) rfl (by kernel_rfl) args hp
  have h := slices_Clone_impl_Peg_impl_Peg_run L (CN L (m + 0))
  simpa only [slices_Clone_impl_Peg_impl_Peg_ok, key] using h
theorem impl_sorted_all (L m : Nat) : impl_sorted_ok L (CN L (m + 2)) := by
  have key : ∀ args hp, CN L (m + 2) 218 args hp = run T (CN L (m + 1)) sh (keep 218) L Try.f218 args hp := fun args hp => callX_step (F := F) rfl (by kernel_rfl) args hp
  have h := impl_sorted_run L (CN L (m + 1)) (slices_Clone_impl_Peg_impl_Peg_all L (m + 0)) (slices_SortFunc_impl_Peg_impl_Peg_all L (m + 0))
  simpa only [impl_sorted_ok, key] using h
theorem impl_chain_all (L m : Nat) : impl_chain_ok L (CN L (m + 3)) := by
  have key : ∀ args hp, CN L (m + 3) 242 args hp = run T (CN L (m + 2)) sh (keep 242) L Try.f242 args hp := fun args hp => callX_step (F := F) rfl (by kernel_rfl) args hp
  have h := impl_chain_run L (CN L (m + 2)) (impl_turn_all L (m + 0))
  simpa only [impl_chain_ok, key] using h
theorem slices_Reverse_impl_Peg_impl_Peg_all (L m : Nat) : slices_Reverse_impl_Peg_impl_Peg_ok L (CN L (m + 1)) := by
  have key : ∀ args hp, CN L (m + 1) 243 args hp = run T (CN L (m + 0)) sh (keep 243) L Try.f243 args hp := fun args hp => callX_step (F := F) rfl (by kernel_rfl) args hp
  have h := slices_Reverse_impl_Peg_impl_Peg_run L (CN L (m + 0))
  simpa only [slices_Reverse_impl_Peg_impl_Peg_ok, key] using h
theorem slices_Grow_impl_Peg_impl_Peg_v2_all (L m : Nat) : slices_Grow_impl_Peg_impl_Peg_v2_ok L (CN L (m + 1)) := by
  have key : ∀ args hp, CN L (m + 1) 259 args hp = run T (CN L (m + 0)) sh (keep 259) L Try.f259 args hp := fun args hp => callX_step (F := F) rfl (by kernel_rfl) args hp
  have h := slices_Grow_impl_Peg_impl_Peg_v2_run L (CN L (m + 0))
  simpa only [slices_Grow_impl_Peg_impl_Peg_v2_ok, key] using h
theorem slices_Concat_impl_Peg_impl_Peg_all (L m : Nat) : slices_Concat_impl_Peg_impl_Peg_ok L (CN L (m + 2)) := by
  have key : ∀ args hp, CN L (m + 2) 244 args hp = run T (CN L (m + 1)) sh (keep 244) L Try.f244 args hp := fun args hp => callX_step (F := F) rfl (by kernel_rfl) args hp
  have h := slices_Concat_impl_Peg_impl_Peg_run L (CN L (m + 1)) (slices_Grow_impl_Peg_impl_Peg_v2_all L (m + 0))
  simpa only [slices_Concat_impl_Peg_impl_Peg_ok, key] using h
theorem impl_band_all (L m : Nat) : impl_band_ok L (CN L (m + 4)) := by
  have key : ∀ args hp, CN L (m + 4) 207 args hp = run T (CN L (m + 3)) sh (keep 207) L Try.f207 args hp := fun args hp => callX_step (F := F) rfl (by kernel_rfl) args hp
  have h := impl_band_run L (CN L (m + 3)) (impl_sorted_all L (m + 1)) (impl_chain_all L (m + 0)) (slices_Reverse_impl_Peg_impl_Peg_all L (m + 2)) (slices_Concat_impl_Peg_impl_Peg_all L (m + 1))
  simpa only [impl_band_ok, key] using h
theorem spec_CountInBand_all (L m : Nat) : spec_CountInBand_ok L (CN L (m + 6)) := by
  have key : ∀ args hp, CN L (m + 6) 125 args hp = run T (CN L (m + 5)) sh (keep 125) L Try.f125 args hp := fun args hp => callX_step (F := F) rfl (by kernel_rfl) args hp
  have h := spec_CountInBand_run L (CN L (m + 5)) (spec_pgArea_all L (m + 3)) (spec_pgStep_all L (m + 1)) (spec_pgRound_all L (m + 0)) (spec_bdGood_all L (m + 2)) (spec_bdBand_all L (m + 2))
  simpa only [spec_CountInBand_ok, key] using h
theorem impl_CountInBand_all (L m : Nat) : impl_CountInBand_ok L (CN L (m + 8)) := by
  have key : ∀ args hp, CN L (m + 8) 126 args hp = run T (CN L (m + 7)) sh (keep 126) L Try.f126 args hp := fun args hp => callX_step (F := F) rfl (by kernel_rfl) args hp
  have h := impl_CountInBand_run L (CN L (m + 7)) (impl_twice_all L (m + 5)) (impl_around_all L (m + 3)) (impl_AreDifferent_all L (m + 0)) (impl_band_all L (m + 3))
  simpa only [impl_CountInBand_ok, key] using h
theorem laws_FnExactCountInBand_all (L m : Nat) : laws_FnExactCountInBand_ok L (CN L (m + 9)) := by
  have key : ∀ args hp, CN L (m + 9) 14 args hp = run T (CN L (m + 8)) sh (keep 14) L Try.f14 args hp := fun args hp => callX_step (F := F) rfl (by kernel_rfl) args hp
  have h := laws_FnExactCountInBand_run L (CN L (m + 8)) (laws_szPegS_all L (m + 7)) (laws_toPegS_all L (m + 6)) (laws_eqPegS_all L (m + 6)) (spec_CountInBand_all L (m + 2)) (impl_CountInBand_all L (m + 0))
  simpa only [laws_FnExactCountInBand_ok, key] using h
end Go.AM
