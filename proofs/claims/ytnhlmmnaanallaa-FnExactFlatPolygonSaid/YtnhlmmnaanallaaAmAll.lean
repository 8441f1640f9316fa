import Derived.Test.YtnhlmmnaanallaaAmM1
import Derived.KernelRfl
import Derived.Test.YtnhlmmnaanallaaAmLay
set_option linter.unusedVariables false
set_option linter.unusedSimpArgs false
set_option linter.unnecessarySimpa false
set_option linter.deprecated false
set_option linter.unusedSectionVars false
open Go Go.AM Go.Proofs
namespace Go.AM
set_option maxRecDepth 100000

noncomputable def rowsF : List (Nat × Func) := [(13, Try.f13), (15, Try.f15), (17, Try.f17), (19, Try.f19), (21, Try.f21), (23, Try.f23), (26, Try.f26), (27, Try.f27), (46, Try.f46), (47, Try.f47), (49, Try.f49), (50, Try.f50), (55, Try.f55), (56, Try.f56), (57, Try.f57), (58, Try.f58), (59, Try.f59), (60, Try.f60), (62, Try.f62), (67, Try.f67), (72, Try.f72), (74, Try.f74), (77, Try.f77), (78, Try.f78), (79, Try.f79), (80, Try.f80), (81, Try.f81), (90, Try.f90), (91, Try.f91), (92, Try.f92), (96, Try.f96), (97, Try.f97), (98, Try.f98), (99, Try.f99), (100, Try.f100), (101, Try.f101), (102, Try.f102), (107, Try.f107), (108, Try.f108), (109, Try.f109), (110, Try.f110), (111, Try.f111), (112, Try.f112), (113, Try.f113), (114, Try.f114), (115, Try.f115), (119, Try.f119), (121, Try.f121), (122, Try.f122), (125, Try.f125), (127, Try.f127), (128, Try.f128), (129, Try.f129), (130, Try.f130), (131, Try.f131), (132, Try.f132), (133, Try.f133), (134, Try.f134), (135, Try.f135), (136, Try.f136), (137, Try.f137), (138, Try.f138), (139, Try.f139), (148, Try.f148), (156, Try.f156), (157, Try.f157), (158, Try.f158), (159, Try.f159), (160, Try.f160), (172, Try.f172), (173, Try.f173), (174, Try.f174), (175, Try.f175), (176, Try.f176), (177, Try.f177), (187, Try.f187)]
theorem fok13 : FOk Try.prog sh keep (13, Try.f13) := ⟨Try.func13, by kernel_rfl, by kernel_rfl⟩
theorem fok15 : FOk Try.prog sh keep (15, Try.f15) := ⟨Try.func15, by kernel_rfl, by kernel_rfl⟩
theorem fok17 : FOk Try.prog sh keep (17, Try.f17) := ⟨Try.func17, by kernel_rfl, by kernel_rfl⟩
theorem fok19 : FOk Try.prog sh keep (19, Try.f19) := ⟨Try.func19, by kernel_rfl, by kernel_rfl⟩
theorem fok21 : FOk Try.prog sh keep (21, Try.f21) := ⟨Try.func21, by kernel_rfl, by kernel_rfl⟩
theorem fok23 : FOk Try.prog sh keep (23, Try.f23) := ⟨Try.func23, by kernel_rfl, by kernel_rfl⟩
theorem fok26 : FOk Try.prog sh keep (26, Try.f26) := ⟨Try.func26, by kernel_rfl, by kernel_rfl⟩
theorem fok27 : FOk Try.prog sh keep (27, Try.f27) := ⟨Try.func27, by kernel_rfl, by kernel_rfl⟩
theorem fok46 : FOk Try.prog sh keep (46, Try.f46) := ⟨Try.func46, by kernel_rfl, by kernel_rfl⟩
theorem fok47 : FOk Try.prog sh keep (47, Try.f47) := ⟨Try.func47, by kernel_rfl, by kernel_rfl⟩
theorem fok49 : FOk Try.prog sh keep (49, Try.f49) := ⟨Try.func49, by kernel_rfl, by kernel_rfl⟩
theorem fok50 : FOk Try.prog sh keep (50, Try.f50) := ⟨Try.func50, by kernel_rfl, by kernel_rfl⟩
theorem fok55 : FOk Try.prog sh keep (55, Try.f55) := ⟨Try.func55, by kernel_rfl, by kernel_rfl⟩
theorem fok56 : FOk Try.prog sh keep (56, Try.f56) := ⟨Try.func56, by kernel_rfl, by kernel_rfl⟩
theorem fok57 : FOk Try.prog sh keep (57, Try.f57) := ⟨Try.func57, by kernel_rfl, by kernel_rfl⟩
theorem fok58 : FOk Try.prog sh keep (58, Try.f58) := ⟨Try.func58, by kernel_rfl, by kernel_rfl⟩
theorem fok59 : FOk Try.prog sh keep (59, Try.f59) := ⟨Try.func59, by kernel_rfl, by kernel_rfl⟩
theorem fok60 : FOk Try.prog sh keep (60, Try.f60) := ⟨Try.func60, by kernel_rfl, by kernel_rfl⟩
theorem fok62 : FOk Try.prog sh keep (62, Try.f62) := ⟨Try.func62, by kernel_rfl, by kernel_rfl⟩
theorem fok67 : FOk Try.prog sh keep (67, Try.f67) := ⟨Try.func67, by kernel_rfl, by kernel_rfl⟩
theorem fok72 : FOk Try.prog sh keep (72, Try.f72) := ⟨Try.func72, by kernel_rfl, by kernel_rfl⟩
theorem fok74 : FOk Try.prog sh keep (74, Try.f74) := ⟨Try.func74, by kernel_rfl, by kernel_rfl⟩
theorem fok77 : FOk Try.prog sh keep (77, Try.f77) := ⟨Try.func77, by kernel_rfl, by kernel_rfl⟩
theorem fok78 : FOk Try.prog sh keep (78, Try.f78) := ⟨Try.func78, by kernel_rfl, by kernel_rfl⟩
theorem fok79 : FOk Try.prog sh keep (79, Try.f79) := ⟨Try.func79, by kernel_rfl, by kernel_rfl⟩
theorem fok80 : FOk Try.prog sh keep (80, Try.f80) := ⟨Try.func80, by kernel_rfl, by kernel_rfl⟩
theorem fok81 : FOk Try.prog sh keep (81, Try.f81) := ⟨Try.func81, by kernel_rfl, by kernel_rfl⟩
theorem fok90 : FOk Try.prog sh keep (90, Try.f90) := ⟨Try.func90, by kernel_rfl, by kernel_rfl⟩
theorem fok91 : FOk Try.prog sh keep (91, Try.f91) := ⟨Try.func91, by kernel_rfl, by kernel_rfl⟩
theorem fok92 : FOk Try.prog sh keep (92, Try.f92) := ⟨Try.func92, by kernel_rfl, by kernel_rfl⟩
theorem fok96 : FOk Try.prog sh keep (96, Try.f96) := ⟨Try.func96, by kernel_rfl, by kernel_rfl⟩
theorem fok97 : FOk Try.prog sh keep (97, Try.f97) := ⟨Try.func97, by kernel_rfl, by kernel_rfl⟩
theorem fok98 : FOk Try.prog sh keep (98, Try.f98) := ⟨Try.func98, by kernel_rfl, by kernel_rfl⟩
theorem fok99 : FOk Try.prog sh keep (99, Try.f99) := ⟨Try.func99, by kernel_rfl, by kernel_rfl⟩
theorem fok100 : FOk Try.prog sh keep (100, Try.f100) := ⟨Try.func100, by kernel_rfl, by kernel_rfl⟩
theorem fok101 : FOk Try.prog sh keep (101, Try.f101) := ⟨Try.func101, by kernel_rfl, by kernel_rfl⟩
theorem fok102 : FOk Try.prog sh keep (102, Try.f102) := ⟨Try.func102, by kernel_rfl, by kernel_rfl⟩
theorem fok107 : FOk Try.prog sh keep (107, Try.f107) := ⟨Try.func107, by kernel_rfl, by kernel_rfl⟩
theorem fok108 : FOk Try.prog sh keep (108, Try.f108) := ⟨Try.func108, by kernel_rfl, by kernel_rfl⟩
theorem fok109 : FOk Try.prog sh keep (109, Try.f109) := ⟨Try.func109, by kernel_rfl, by kernel_rfl⟩
theorem fok110 : FOk Try.prog sh keep (110, Try.f110) := ⟨Try.func110, by kernel_rfl, by kernel_rfl⟩
theorem fok111 : FOk Try.prog sh keep (111, Try.f111) := ⟨Try.func111, by kernel_rfl, by kernel_rfl⟩
theorem fok112 : FOk Try.prog sh keep (112, Try.f112) := ⟨Try.func112, by kernel_rfl, by kernel_rfl⟩
theorem fok113 : FOk Try.prog sh keep (113, Try.f113) := ⟨Try.func113, by kernel_rfl, by kernel_rfl⟩
theorem fok114 : FOk Try.prog sh keep (114, Try.f114) := ⟨Try.func114, by kernel_rfl, by kernel_rfl⟩
theorem fok115 : FOk Try.prog sh keep (115, Try.f115) := ⟨Try.func115, by kernel_rfl, by kernel_rfl⟩
theorem fok119 : FOk Try.prog sh keep (119, Try.f119) := ⟨Try.func119, by kernel_rfl, by kernel_rfl⟩
theorem fok121 : FOk Try.prog sh keep (121, Try.f121) := ⟨Try.func121, by kernel_rfl, by kernel_rfl⟩
theorem fok122 : FOk Try.prog sh keep (122, Try.f122) := ⟨Try.func122, by kernel_rfl, by kernel_rfl⟩
theorem fok125 : FOk Try.prog sh keep (125, Try.f125) := ⟨Try.func125, by kernel_rfl, by kernel_rfl⟩
theorem fok127 : FOk Try.prog sh keep (127, Try.f127) := ⟨Try.func127, by kernel_rfl, by kernel_rfl⟩
theorem fok128 : FOk Try.prog sh keep (128, Try.f128) := ⟨Try.func128, by kernel_rfl, by kernel_rfl⟩
theorem fok129 : FOk Try.prog sh keep (129, Try.f129) := ⟨Try.func129, by kernel_rfl, by kernel_rfl⟩
theorem fok130 : FOk Try.prog sh keep (130, Try.f130) := ⟨Try.func130, by kernel_rfl, by kernel_rfl⟩
theorem fok131 : FOk Try.prog sh keep (131, Try.f131) := ⟨Try.func131, by kernel_rfl, by kernel_rfl⟩
theorem fok132 : FOk Try.prog sh keep (132, Try.f132) := ⟨Try.func132, by kernel_rfl, by kernel_rfl⟩
theorem fok133 : FOk Try.prog sh keep (133, Try.f133) := ⟨Try.func133, by kernel_rfl, by kernel_rfl⟩
theorem fok134 : FOk Try.prog sh keep (134, Try.f134) := ⟨Try.func134, by kernel_rfl, by kernel_rfl⟩
theorem fok135 : FOk Try.prog sh keep (135, Try.f135) := ⟨Try.func135, by kernel_rfl, by kernel_rfl⟩
theorem fok136 : FOk Try.prog sh keep (136, Try.f136) := ⟨Try.func136, by kernel_rfl, by kernel_rfl⟩
theorem fok137 : FOk Try.prog sh keep (137, Try.f137) := ⟨Try.func137, by kernel_rfl, by kernel_rfl⟩
theorem fok138 : FOk Try.prog sh keep (138, Try.f138) := ⟨Try.func138, by kernel_rfl, by kernel_rfl⟩
theorem fok139 : FOk Try.prog sh keep (139, Try.f139) := ⟨Try.func139, by kernel_rfl, by kernel_rfl⟩
theorem fok148 : FOk Try.prog sh keep (148, Try.f148) := ⟨Try.func148, by kernel_rfl, by kernel_rfl⟩
theorem fok156 : FOk Try.prog sh keep (156, Try.f156) := ⟨Try.func156, by kernel_rfl, by kernel_rfl⟩
theorem fok157 : FOk Try.prog sh keep (157, Try.f157) := ⟨Try.func157, by kernel_rfl, by kernel_rfl⟩
theorem fok158 : FOk Try.prog sh keep (158, Try.f158) := ⟨Try.func158, by kernel_rfl, by kernel_rfl⟩
theorem fok159 : FOk Try.prog sh keep (159, Try.f159) := ⟨Try.func159, by kernel_rfl, by kernel_rfl⟩
theorem fok160 : FOk Try.prog sh keep (160, Try.f160) := ⟨Try.func160, by kernel_rfl, by kernel_rfl⟩
theorem fok172 : FOk Try.prog sh keep (172, Try.f172) := ⟨Try.func172, by kernel_rfl, by kernel_rfl⟩
theorem fok173 : FOk Try.prog sh keep (173, Try.f173) := ⟨Try.func173, by kernel_rfl, by kernel_rfl⟩
theorem fok174 : FOk Try.prog sh keep (174, Try.f174) := ⟨Try.func174, by kernel_rfl, by kernel_rfl⟩
theorem fok175 : FOk Try.prog sh keep (175, Try.f175) := ⟨Try.func175, by kernel_rfl, by kernel_rfl⟩
theorem fok176 : FOk Try.prog sh keep (176, Try.f176) := ⟨Try.func176, by kernel_rfl, by kernel_rfl⟩
theorem fok177 : FOk Try.prog sh keep (177, Try.f177) := ⟨Try.func177, by kernel_rfl, by kernel_rfl⟩
theorem fok187 : FOk Try.prog sh keep (187, Try.f187) := ⟨Try.func187, by kernel_rfl, by kernel_rfl⟩
theorem fokAll : ∀ p ∈ rowsF, FOk Try.prog sh keep p :=
  fOk_cons fok13 (fOk_cons fok15 (fOk_cons fok17 (fOk_cons fok19 (fOk_cons fok21 (fOk_cons fok23 (fOk_cons fok26 (fOk_cons fok27 (fOk_cons fok46 (fOk_cons fok47 (fOk_cons fok49 (fOk_cons fok50 (fOk_cons fok55 (fOk_cons fok56 (fOk_cons fok57 (fOk_cons fok58 (fOk_cons fok59 (fOk_cons fok60 (fOk_cons fok62 (fOk_cons fok67 (fOk_cons fok72 (fOk_cons fok74 (fOk_cons fok77 (fOk_cons fok78 (fOk_cons fok79 (fOk_cons fok80 (fOk_cons fok81 (fOk_cons fok90 (fOk_cons fok91 (fOk_cons fok92 (fOk_cons fok96 (fOk_cons fok97 (fOk_cons fok98 (fOk_cons fok99 (fOk_cons fok100 (fOk_cons fok101 (fOk_cons fok102 (fOk_cons fok107 (fOk_cons fok108 (fOk_cons fok109 (fOk_cons fok110 (fOk_cons fok111 (fOk_cons fok112 (fOk_cons fok113 (fOk_cons fok114 (fOk_cons fok115 (fOk_cons fok119 (fOk_cons fok121 (fOk_cons fok122 (fOk_cons fok125 (fOk_cons fok127 (fOk_cons fok128 (fOk_cons fok129 (fOk_cons fok130 (fOk_cons fok131 (fOk_cons fok132 (fOk_cons fok133 (fOk_cons fok134 (fOk_cons fok135 (fOk_cons fok136 (fOk_cons fok137 (fOk_cons fok138 (fOk_cons fok139 (fOk_cons fok148 (fOk_cons fok156 (fOk_cons fok157 (fOk_cons fok158 (fOk_cons fok159 (fOk_cons fok160 (fOk_cons fok172 (fOk_cons fok173 (fOk_cons fok174 (fOk_cons fok175 (fOk_cons fok176 (fOk_cons fok177 (fOk_cons fok187 fOk_nil)))))))))))))))))))))))))))))))))))))))))))))))))))))))))))))))))))))))))))
theorem tokAll : rowsT.all (tiR Try.prog) = true := by kernel_rfl
noncomputable def F : FuncId → Option Func := findL rowsF
noncomputable def CN0 (L n : Nat) : CF := callF T F sh keep L n
theorem cn0_sound (L n : Nat) : CSound Try.prog (CN0 L n) := callF_sound tokAll fokAll (by kernel_rfl) L n
theorem cmp_isNaN_int_all0 (L m : Nat) : cmp_isNaN_int_ok L (CN0 L (m + 1)) := by
  have key : ∀ args hp, CN0 L (m + 1) 125 args hp = run T (CN0 L (m + 0)) sh (keep 125) L Try.f125 args hp := fun args hp => callF_step (F := F) (by kernel_rfl) args hp
  have h := cmp_isNaN_int_run L (CN0 L (m + 0))
  simpa only [cmp_isNaN_int_ok, key] using h
theorem cmp_Compare_int_all0 (L m : Nat) : cmp_Compare_int_ok L (CN0 L (m + 2)) := by
  have key : ∀ args hp, CN0 L (m + 2) 80 args hp = run T (CN0 L (m + 1)) sh (keep 80) L Try.f80 args hp := fun args hp => callF_step (F := F) (by kernel_rfl) args hp
  have h := cmp_Compare_int_run L (CN0 L (m + 1)) (cmp_isNaN_int_all0 L (m + 0))
  simpa only [cmp_Compare_int_ok, key] using h
theorem cmp_Or_int_all0 (L m : Nat) : cmp_Or_int_ok L (CN0 L (m + 1)) := by
  have key : ∀ args hp, CN0 L (m + 1) 77 args hp = run T (CN0 L (m + 0)) sh (keep 77) L Try.f77 args hp := fun args hp => callF_step (F := F) (by kernel_rfl) args hp
  have h := cmp_Or_int_run L (CN0 L (m + 0))
  simpa only [cmp_Or_int_ok, key] using h
theorem impl_comparePegs_all0 (L m : Nat) : impl_comparePegs_ok L (CN0 L (m + 3)) := by
  have key : ∀ args hp, CN0 L (m + 3) 122 args hp = run T (CN0 L (m + 2)) sh (keep 122) L Try.f122 args hp := fun args hp => callF_step (F := F) (by kernel_rfl) args hp
  have h := impl_comparePegs_run L (CN0 L (m + 2)) (cmp_Compare_int_all0 L (m + 0)) (cmp_Or_int_all0 L (m + 1))
  simpa only [impl_comparePegs_ok, key] using h
theorem cmp_holds (p q : Pt) : CN0 10 (0 + 3) 122 [ep p, ep q] [] = some (.int .i64 (ordP p q), []) := by
  have h := impl_comparePegs_all0 10 0 p.x p.y q.x q.y
  rw [cmp_val] at h
  exact h
noncomputable def XF : CF := sortX 75 122 ordP
def isX (f : FuncId) : Bool := Nat.beq f 75
theorem xf_sound : CSound Try.prog fun f args hp => bif isX f then XF f args hp else none := by
  have h := sortX_sound (P := Try.prog) (ρ := sortPegs_ren) sortPegs sortPegs_agg sortPegs_size (cn0_sound 10 (0 + 3)) (fC := 122) (cf := ordP) cmp_holds swo_ordP tot_ordP ⟨Try.f75, Try.func75, by kernel_rfl, by kernel_rfl⟩
  intro f args hp res hp' e
  cases hx : isX f with
  | true => simp only [hx, cond_true] at e; exact h f args hp res hp' e
  | false => simp only [hx, cond_false] at e; cases e
noncomputable def CN (L n : Nat) : CF := callN T F XF isX sh keep L n
theorem cn_sound (L n : Nat) : CSound Try.prog (CN L n) := callN_sound (tOk_rows tokAll) (by kernel_rfl) (fun f fn h => fokAll _ (findL_mem h)) xf_sound n
theorem slices_SortFunc_impl_Peg_impl_Peg_all (L m : Nat) : slices_SortFunc_impl_Peg_impl_Peg_ok L (CN L (m + 1)) := by
  intro c x l hx
  have key := callX_ext (T := T) (F := F) (X := XF) (isX := isX) (sh := sh) (keep := keep) (L := L) (n := m) (f := 75) rfl [.own 0 2 none c, .fn 122 [] []] [.rows .live 2 x]
  exact key.trans (sortX_all c x l hx)
theorem laws_szPegS_all (L m : Nat) : laws_szPegS_ok L (CN L (m + 1)) := by
  have key : ∀ args hp, CN L (m + 1) 15 args hp = run T (CN L (m + 0)) sh (keep 15) L Try.f15 args hp := fun args hp => callX_step (F := F) rfl (by kernel_rfl) args hp
  have h := laws_szPegS_run L (CN L (m + 0))
  simpa only [laws_szPegS_ok, key] using h
theorem laws_toPeg_all (L m : Nat) : laws_toPeg_ok L (CN L (m + 1)) := by
  have key : ∀ args hp, CN L (m + 1) 21 args hp = run T (CN L (m + 0)) sh (keep 21) L Try.f21 args hp := fun args hp => callX_step (F := F) rfl (by kernel_rfl) args hp
  have h := laws_toPeg_run L (CN L (m + 0))
  simpa only [laws_toPeg_ok, key] using h
theorem laws_toPegS_all (L m : Nat) : laws_toPegS_ok L (CN L (m + 2)) := by
  have key : ∀ args hp, CN L (m + 2) 17 args hp = run T (CN L (m + 1)) sh (keep 17) L Try.f17 args hp := fun args hp => callX_step (F := F) rfl (by kernel_rfl) args hp
  have h := laws_toPegS_run L (CN L (m + 1)) (laws_toPeg_all L (m + 0))
  simpa only [laws_toPegS_ok, key] using h
theorem spec_l1In_all (L m : Nat) : spec_l1In_ok L (CN L (m + 1)) := by
  have key : ∀ args hp, CN L (m + 1) 56 args hp = run T (CN L (m + 0)) sh (keep 56) L Try.f56 args hp := fun args hp => callX_step (F := F) rfl (by kernel_rfl) args hp
  have h := spec_l1In_run L (CN L (m + 0))
  simpa only [spec_l1In_ok, key] using h
theorem spec_pgIs_all (L m : Nat) : spec_pgIs_ok L (CN L (m + 2)) := by
  have key : ∀ args hp, CN L (m + 2) 62 args hp = run T (CN L (m + 1)) sh (keep 62) L Try.f62 args hp := fun args hp => callX_step (F := F) rfl (by kernel_rfl) args hp
  have h := spec_pgIs_run L (CN L (m + 1)) (spec_l1In_all L (m + 0))
  simpa only [spec_pgIs_ok, key] using h
theorem spec_pgTurn_all (L m : Nat) : spec_pgTurn_ok L (CN L (m + 1)) := by
  have key : ∀ args hp, CN L (m + 1) 72 args hp = run T (CN L (m + 0)) sh (keep 72) L Try.f72 args hp := fun args hp => callX_step (F := F) rfl (by kernel_rfl) args hp
  have h := spec_pgTurn_run L (CN L (m + 0))
  simpa only [spec_pgTurn_ok, key] using h
theorem spec_pgOn_all (L m : Nat) : spec_pgOn_ok L (CN L (m + 2)) := by
  have key : ∀ args hp, CN L (m + 2) 156 args hp = run T (CN L (m + 1)) sh (keep 156) L Try.f156 args hp := fun args hp => callX_step (F := F) rfl (by kernel_rfl) args hp
  have h := spec_pgOn_run L (CN L (m + 1)) (spec_pgTurn_all L (m + 0))
  simpa only [spec_pgOn_ok, key] using h
theorem spec_l1Sign_all (L m : Nat) : spec_l1Sign_ok L (CN L (m + 1)) := by
  have key : ∀ args hp, CN L (m + 1) 157 args hp = run T (CN L (m + 0)) sh (keep 157) L Try.f157 args hp := fun args hp => callX_step (F := F) rfl (by kernel_rfl) args hp
  have h := spec_l1Sign_run L (CN L (m + 0))
  simpa only [spec_l1Sign_ok, key] using h
theorem spec_pgMeet_all (L m : Nat) : spec_pgMeet_ok L (CN L (m + 3)) := by
  have key : ∀ args hp, CN L (m + 3) 107 args hp = run T (CN L (m + 2)) sh (keep 107) L Try.f107 args hp := fun args hp => callX_step (F := F) rfl (by kernel_rfl) args hp
  have h := spec_pgMeet_run L (CN L (m + 2)) (spec_pgTurn_all L (m + 1)) (spec_pgOn_all L (m + 0)) (spec_l1Sign_all L (m + 1))
  simpa only [spec_pgMeet_ok, key] using h
theorem spec_pgGood_all (L m : Nat) : spec_pgGood_ok L (CN L (m + 4)) := by
  have key : ∀ args hp, CN L (m + 4) 55 args hp = run T (CN L (m + 3)) sh (keep 55) L Try.f55 args hp := fun args hp => callX_step (F := F) rfl (by kernel_rfl) args hp
  have h := spec_pgGood_run L (CN L (m + 3)) (spec_l1In_all L (m + 2)) (spec_pgIs_all L (m + 1)) (spec_pgTurn_all L (m + 2)) (spec_pgMeet_all L (m + 0))
  simpa only [spec_pgGood_ok, key] using h
theorem spec_l1Most_all (L m : Nat) : spec_l1Most_ok L (CN L (m + 1)) := by
  have key : ∀ args hp, CN L (m + 1) 174 args hp = run T (CN L (m + 0)) sh (keep 174) L Try.f174 args hp := fun args hp => callX_step (F := F) rfl (by kernel_rfl) args hp
  have h := spec_l1Most_run L (CN L (m + 0))
  simpa only [spec_l1Most_ok, key] using h
theorem spec_l1Abs_all (L m : Nat) : spec_l1Abs_ok L (CN L (m + 2)) := by
  have key : ∀ args hp, CN L (m + 2) 132 args hp = run T (CN L (m + 1)) sh (keep 132) L Try.f132 args hp := fun args hp => callX_step (F := F) rfl (by kernel_rfl) args hp
  have h := spec_l1Abs_run L (CN L (m + 1)) (spec_l1Most_all L (m + 0))
  simpa only [spec_l1Abs_ok, key] using h
theorem spec_pgCommon_all (L m : Nat) : spec_pgCommon_ok L (CN L (m + 3)) := by
  have key : ∀ args hp, CN L (m + 3) 108 args hp = run T (CN L (m + 2)) sh (keep 108) L Try.f108 args hp := fun args hp => callX_step (F := F) rfl (by kernel_rfl) args hp
  have h := spec_pgCommon_run L (CN L (m + 2)) (spec_l1Abs_all L (m + 0))
  simpa only [spec_pgCommon_ok, key] using h
theorem spec_l1Least_all (L m : Nat) : spec_l1Least_ok L (CN L (m + 1)) := by
  have key : ∀ args hp, CN L (m + 1) 175 args hp = run T (CN L (m + 0)) sh (keep 175) L Try.f175 args hp := fun args hp => callX_step (F := F) rfl (by kernel_rfl) args hp
  have h := spec_l1Least_run L (CN L (m + 0))
  simpa only [spec_l1Least_ok, key] using h
theorem spec_wiRange_all (L m : Nat) : spec_wiRange_ok L (CN L (m + 2)) := by
  have key : ∀ args hp, CN L (m + 2) 134 args hp = run T (CN L (m + 1)) sh (keep 134) L Try.f134 args hp := fun args hp => callX_step (F := F) rfl (by kernel_rfl) args hp
  have h := spec_wiRange_run L (CN L (m + 1)) (spec_l1Most_all L (m + 0)) (spec_l1Least_all L (m + 0))
  simpa only [spec_wiRange_ok, key] using h
theorem spec_wiWidth_all (L m : Nat) : spec_wiWidth_ok L (CN L (m + 3)) := by
  have key : ∀ args hp, CN L (m + 3) 109 args hp = run T (CN L (m + 2)) sh (keep 109) L Try.f109 args hp := fun args hp => callX_step (F := F) rfl (by kernel_rfl) args hp
  have h := spec_wiWidth_run L (CN L (m + 2)) (spec_wiRange_all L (m + 0))
  simpa only [spec_wiWidth_ok, key] using h
theorem spec_wiAll_all (L m : Nat) : spec_wiAll_ok L (CN L (m + 4)) := by
  have key : ∀ args hp, CN L (m + 4) 57 args hp = run T (CN L (m + 3)) sh (keep 57) L Try.f57 args hp := fun args hp => callX_step (F := F) rfl (by kernel_rfl) args hp
  have h := spec_wiAll_run L (CN L (m + 3)) (spec_pgCommon_all L (m + 0)) (spec_wiWidth_all L (m + 0))
  simpa only [spec_wiAll_ok, key] using h
theorem impl_within_all (L m : Nat) : impl_within_ok L (CN L (m + 1)) := by
  have key : ∀ args hp, CN L (m + 1) 59 args hp = run T (CN L (m + 0)) sh (keep 59) L Try.f59 args hp := fun args hp => callX_step (F := F) rfl (by kernel_rfl) args hp
  have h := impl_within_run L (CN L (m + 0))
  simpa only [impl_within_ok, key] using h
theorem impl_IsPeg_all (L m : Nat) : impl_IsPeg_ok L (CN L (m + 2)) := by
  have key : ∀ args hp, CN L (m + 2) 67 args hp = run T (CN L (m + 1)) sh (keep 67) L Try.f67 args hp := fun args hp => callX_step (F := F) rfl (by kernel_rfl) args hp
  have h := impl_IsPeg_run L (CN L (m + 1)) (impl_within_all L (m + 0))
  simpa only [impl_IsPeg_ok, key] using h
theorem impl_arePegs_1_all (L m : Nat) : impl_arePegs_1_ok L (CN L (m + 3)) := by
  have key : ∀ args hp, CN L (m + 3) 159 args hp = run T (CN L (m + 2)) sh (keep 159) L Try.f159 args hp := fun args hp => callX_step (F := F) rfl (by kernel_rfl) args hp
  have h := impl_arePegs_1_run L (CN L (m + 2)) (impl_IsPeg_all L (m + 0))
  simpa only [impl_arePegs_1_ok, key] using h
theorem impl_value_all (L m : Nat) : impl_value_ok L (CN L (m + 1)) := by
  have key : ∀ args hp, CN L (m + 1) 187 args hp = run T (CN L (m + 0)) sh (keep 187) L Try.f187 args hp := fun args hp => callX_step (F := F) rfl (by kernel_rfl) args hp
  have h := impl_value_run L (CN L (m + 0))
  simpa only [impl_value_ok, key] using h
theorem impl_extent_all (L m : Nat) : impl_extent_ok L (CN L (m + 2)) := by
  have key : ∀ args hp, CN L (m + 2) 160 args hp = run T (CN L (m + 1)) sh (keep 160) L Try.f160 args hp := fun args hp => callX_step (F := F) rfl (by kernel_rfl) args hp
  have h := impl_extent_run L (CN L (m + 1)) (impl_value_all L (m + 0))
  simpa only [impl_extent_ok, key] using h
theorem impl_width_all (L m : Nat) : impl_width_ok L (CN L (m + 3)) := by
  have key : ∀ args hp, CN L (m + 3) 115 args hp = run T (CN L (m + 2)) sh (keep 115) L Try.f115 args hp := fun args hp => callX_step (F := F) rfl (by kernel_rfl) args hp
  have h := impl_width_run L (CN L (m + 2)) (impl_extent_all L (m + 0))
  simpa only [impl_width_ok, key] using h
theorem impl_least_1_v2_all (L m : Nat) : impl_least_1_v2_ok L (CN L (m + 4)) := by
  have key : ∀ args hp, CN L (m + 4) 129 args hp = run T (CN L (m + 3)) sh (keep 129) L Try.f129 args hp := fun args hp => callX_step (F := F) rfl (by kernel_rfl) args hp
  have h := impl_least_1_v2_run L (CN L (m + 3)) (impl_width_all L (m + 0))
  simpa only [impl_least_1_v2_ok, key] using h
theorem slices_IndexFunc_impl_Peg_impl_Peg_172_arePegs_all (L m : Nat) : slices_IndexFunc_impl_Peg_impl_Peg_172_arePegs_ok L (CN L (m + 4)) := by
  have key : ∀ args hp, CN L (m + 4) 172 args hp = run T (CN L (m + 3)) sh (keep 172) L Try.f172 args hp := fun args hp => callX_step (F := F) rfl (by kernel_rfl) args hp
  have h := slices_IndexFunc_impl_Peg_impl_Peg_172_arePegs_run L (CN L (m + 3)) (impl_arePegs_1_all L (m + 0))
  simpa only [slices_IndexFunc_impl_Peg_impl_Peg_172_arePegs_ok, key] using h
theorem slices_IndexFunc_impl_Peg_impl_Peg_172_impl_least_1_all (L m : Nat) : slices_IndexFunc_impl_Peg_impl_Peg_172_impl_least_1_ok L (CN L (m + 5)) := by
  have key : ∀ args hp, CN L (m + 5) 172 args hp = run T (CN L (m + 4)) sh (keep 172) L Try.f172 args hp := fun args hp => callX_step (F := F) rfl (by kernel_rfl) args hp
  have h := slices_IndexFunc_impl_Peg_impl_Peg_172_impl_least_1_run L (CN L (m + 4)) (impl_least_1_v2_all L (m + 0))
  simpa only [slices_IndexFunc_impl_Peg_impl_Peg_172_impl_least_1_ok, key] using h
theorem slices_ContainsFunc_impl_Peg_impl_Peg_158_arePegs_all (L m : Nat) : slices_ContainsFunc_impl_Peg_impl_Peg_158_arePegs_ok L (CN L (m + 5)) := by
  have key : ∀ args hp, CN L (m + 5) 158 args hp = run T (CN L (m + 4)) sh (keep 158) L Try.f158 args hp := fun args hp => callX_step (F := F) rfl (by kernel_rfl) args hp
  have h := slices_ContainsFunc_impl_Peg_impl_Peg_158_arePegs_run L (CN L (m + 4)) (slices_IndexFunc_impl_Peg_impl_Peg_172_arePegs_all L (m + 0))
  simpa only [slices_ContainsFunc_impl_Peg_impl_Peg_158_arePegs_ok, key] using h
theorem impl_arePegs_all (L m : Nat) : impl_arePegs_ok L (CN L (m + 6)) := by
  have key : ∀ args hp, CN L (m + 6) 110 args hp = run T (CN L (m + 5)) sh (keep 110) L Try.f110 args hp := fun args hp => callX_step (F := F) rfl (by kernel_rfl) args hp
  have h := impl_arePegs_run L (CN L (m + 5)) (slices_ContainsFunc_impl_Peg_impl_Peg_158_arePegs_all L (m + 0))
  simpa only [impl_arePegs_ok, key] using h
theorem slices_Index_impl_Peg_impl_Peg_all (L m : Nat) : slices_Index_impl_Peg_impl_Peg_ok L (CN L (m + 1)) := by
  have key : ∀ args hp, CN L (m + 1) 127 args hp = run T (CN L (m + 0)) sh (keep 127) L Try.f127 args hp := fun args hp => callX_step (F := F) rfl (by kernel_rfl) args hp
  have h := slices_Index_impl_Peg_impl_Peg_run L (CN L (m + 0))
  simpa only [slices_Index_impl_Peg_impl_Peg_ok, key] using h
theorem slices_Contains_impl_Peg_impl_Peg_all (L m : Nat) : slices_Contains_impl_Peg_impl_Peg_ok L (CN L (m + 2)) := by
  have key : ∀ args hp, CN L (m + 2) 90 args hp = run T (CN L (m + 1)) sh (keep 90) L Try.f90 args hp := fun args hp => callX_step (F := F) rfl (by kernel_rfl) args hp
  have h := slices_Contains_impl_Peg_impl_Peg_run L (CN L (m + 1)) (slices_Index_impl_Peg_impl_Peg_all L (m + 0))
  simpa only [slices_Contains_impl_Peg_impl_Peg_ok, key] using h
theorem impl_at_all (L m : Nat) : impl_at_ok L (CN L (m + 1)) := by
  have key : ∀ args hp, CN L (m + 1) 111 args hp = run T (CN L (m + 0)) sh (keep 111) L Try.f111 args hp := fun args hp => callX_step (F := F) rfl (by kernel_rfl) args hp
  have h := impl_at_run L (CN L (m + 0))
  simpa only [impl_at_ok, key] using h
theorem impl_Peg_less_all (L m : Nat) : impl_Peg_less_ok L (CN L (m + 1)) := by
  have key : ∀ args hp, CN L (m + 1) 81 args hp = run T (CN L (m + 0)) sh (keep 81) L Try.f81 args hp := fun args hp => callX_step (F := F) rfl (by kernel_rfl) args hp
  have h := impl_Peg_less_run L (CN L (m + 0))
  simpa only [impl_Peg_less_ok, key] using h
theorem impl_cross_all (L m : Nat) : impl_cross_ok L (CN L (m + 1)) := by
  have key : ∀ args hp, CN L (m + 1) 113 args hp = run T (CN L (m + 0)) sh (keep 113) L Try.f113 args hp := fun args hp => callX_step (F := F) rfl (by kernel_rfl) args hp
  have h := impl_cross_run L (CN L (m + 0))
  simpa only [impl_cross_ok, key] using h
theorem impl_turn_all (L m : Nat) : impl_turn_ok L (CN L (m + 2)) := by
  have key : ∀ args hp, CN L (m + 2) 79 args hp = run T (CN L (m + 1)) sh (keep 79) L Try.f79 args hp := fun args hp => callX_step (F := F) rfl (by kernel_rfl) args hp
  have h := impl_turn_run L (CN L (m + 1)) (impl_Peg_less_all L (m + 0)) (impl_cross_all L (m + 0))
  simpa only [impl_turn_ok, key] using h
theorem impl_sign_all (L m : Nat) : impl_sign_ok L (CN L (m + 1)) := by
  have key : ∀ args hp, CN L (m + 1) 78 args hp = run T (CN L (m + 0)) sh (keep 78) L Try.f78 args hp := fun args hp => callX_step (F := F) rfl (by kernel_rfl) args hp
  have h := impl_sign_run L (CN L (m + 0))
  simpa only [impl_sign_ok, key] using h
theorem impl_isOn_all (L m : Nat) : impl_isOn_ok L (CN L (m + 3)) := by
  have key : ∀ args hp, CN L (m + 3) 119 args hp = run T (CN L (m + 2)) sh (keep 119) L Try.f119 args hp := fun args hp => callX_step (F := F) rfl (by kernel_rfl) args hp
  have h := impl_isOn_run L (CN L (m + 2)) (impl_within_all L (m + 1)) (impl_turn_all L (m + 0))
  simpa only [impl_isOn_ok, key] using h
theorem impl_meet_all (L m : Nat) : impl_meet_ok L (CN L (m + 4)) := by
  have key : ∀ args hp, CN L (m + 4) 112 args hp = run T (CN L (m + 3)) sh (keep 112) L Try.f112 args hp := fun args hp => callX_step (F := F) rfl (by kernel_rfl) args hp
  have h := impl_meet_run L (CN L (m + 3)) (impl_turn_all L (m + 1)) (impl_sign_all L (m + 2)) (impl_isOn_all L (m + 0))
  simpa only [impl_meet_ok, key] using h
theorem impl_IsPolygon_all (L m : Nat) : impl_IsPolygon_ok L (CN L (m + 7)) := by
  have key : ∀ args hp, CN L (m + 7) 58 args hp = run T (CN L (m + 6)) sh (keep 58) L Try.f58 args hp := fun args hp => callX_step (F := F) rfl (by kernel_rfl) args hp
  have h := impl_IsPolygon_run L (CN L (m + 6)) (impl_within_all L (m + 5)) (impl_arePegs_all L (m + 0)) (slices_Contains_impl_Peg_impl_Peg_all L (m + 4)) (impl_at_all L (m + 5)) (impl_turn_all L (m + 4)) (impl_meet_all L (m + 2))
  simpa only [impl_IsPolygon_ok, key] using h
theorem impl_size_all (L m : Nat) : impl_size_ok L (CN L (m + 1)) := by
  have key : ∀ args hp, CN L (m + 1) 148 args hp = run T (CN L (m + 0)) sh (keep 148) L Try.f148 args hp := fun args hp => callX_step (F := F) rfl (by kernel_rfl) args hp
  have h := impl_size_run L (CN L (m + 0))
  simpa only [impl_size_ok, key] using h
theorem impl_divisor_all (L m : Nat) : impl_divisor_ok L (CN L (m + 2)) := by
  have key : ∀ args hp, CN L (m + 2) 114 args hp = run T (CN L (m + 1)) sh (keep 114) L Try.f114 args hp := fun args hp => callX_step (F := F) rfl (by kernel_rfl) args hp
  have h := impl_divisor_run L (CN L (m + 1)) (impl_size_all L (m + 0))
  simpa only [impl_divisor_ok, key] using h
theorem slices_Clone_impl_Peg_impl_Peg_all (L m : Nat) : slices_Clone_impl_Peg_impl_Peg_ok L (CN L (m + 1)) := by
  have key : ∀ args hp, CN L (m + 1) 121 args hp = run T (CN L (m + 0)) sh (keep 121) L Try.f121 args hp := fun args hp => callX_step (F := F) rfl (by kernel_rfl) args hp
  have h := slices_Clone_impl_Peg_impl_Peg_run L (CN L (m + 0))
  simpa only [slices_Clone_impl_Peg_impl_Peg_ok, key] using h
theorem cmp_isNaN_int_all (L m : Nat) : cmp_isNaN_int_ok L (CN L (m + 1)) := by
  have key : ∀ args hp, CN L (m + 1) 125 args hp = run T (CN L (m + 0)) sh (keep 125) L Try.f125 args hp := fun args hp => callX_step (F := F) rfl (by kernel_rfl) args hp
  have h := cmp_isNaN_int_run L (CN L (m + 0))
  simpa only [cmp_isNaN_int_ok, key] using h
theorem cmp_Compare_int_all (L m : Nat) : cmp_Compare_int_ok L (CN L (m + 2)) := by
  have key : ∀ args hp, CN L (m + 2) 80 args hp = run T (CN L (m + 1)) sh (keep 80) L Try.f80 args hp := fun args hp => callX_step (F := F) rfl (by kernel_rfl) args hp
  have h := cmp_Compare_int_run L (CN L (m + 1)) (cmp_isNaN_int_all L (m + 0))
  simpa only [cmp_Compare_int_ok, key] using h
theorem cmp_Or_int_all (L m : Nat) : cmp_Or_int_ok L (CN L (m + 1)) := by
  have key : ∀ args hp, CN L (m + 1) 77 args hp = run T (CN L (m + 0)) sh (keep 77) L Try.f77 args hp := fun args hp => callX_step (F := F) rfl (by kernel_rfl) args hp
  have h := cmp_Or_int_run L (CN L (m + 0))
  simpa only [cmp_Or_int_ok, key] using h
theorem impl_comparePegs_all (L m : Nat) : impl_comparePegs_ok L (CN L (m + 3)) := by
  have key : ∀ args hp, CN L (m + 3) 122 args hp = run T (CN L (m + 2)) sh (keep 122) L Try.f122 args hp := fun args hp => callX_step (F := F) rfl (by kernel_rfl) args hp
  have h := impl_comparePegs_run L (CN L (m + 2)) (cmp_Compare_int_all L (m + 0)) (cmp_Or_int_all L (m + 1))
  simpa only [impl_comparePegs_ok, key] using h
theorem impl_sorted_all (L m : Nat) : impl_sorted_ok L (CN L (m + 2)) := by
  have key : ∀ args hp, CN L (m + 2) 74 args hp = run T (CN L (m + 1)) sh (keep 74) L Try.f74 args hp := fun args hp => callX_step (F := F) rfl (by kernel_rfl) args hp
  have h := impl_sorted_run L (CN L (m + 1)) (slices_Clone_impl_Peg_impl_Peg_all L (m + 0)) (slices_SortFunc_impl_Peg_impl_Peg_all L (m + 0))
  simpa only [impl_sorted_ok, key] using h
theorem impl_directions_all (L m : Nat) : impl_directions_ok L (CN L (m + 4)) := by
  have key : ∀ args hp, CN L (m + 4) 60 args hp = run T (CN L (m + 3)) sh (keep 60) L Try.f60 args hp := fun args hp => callX_step (F := F) rfl (by kernel_rfl) args hp
  have h := impl_directions_run L (CN L (m + 3)) (impl_width_all L (m + 0)) (impl_Peg_less_all L (m + 2)) (impl_cross_all L (m + 2)) (impl_divisor_all L (m + 1)) (impl_sorted_all L (m + 1))
  simpa only [impl_directions_ok, key] using h
theorem laws_eqPeg_all (L m : Nat) : laws_eqPeg_ok L (CN L (m + 1)) := by
  have key : ∀ args hp, CN L (m + 1) 23 args hp = run T (CN L (m + 0)) sh (keep 23) L Try.f23 args hp := fun args hp => callX_step (F := F) rfl (by kernel_rfl) args hp
  have h := laws_eqPeg_run L (CN L (m + 0))
  simpa only [laws_eqPeg_ok, key] using h
theorem laws_eqPegS_all (L m : Nat) : laws_eqPegS_ok L (CN L (m + 2)) := by
  have key : ∀ args hp, CN L (m + 2) 19 args hp = run T (CN L (m + 1)) sh (keep 19) L Try.f19 args hp := fun args hp => callX_step (F := F) rfl (by kernel_rfl) args hp
  have h := laws_eqPegS_run L (CN L (m + 1)) (laws_eqPeg_all L (m + 0))
  simpa only [laws_eqPegS_ok, key] using h
theorem laws_markPegS_all (L m : Nat) : laws_markPegS_ok L (CN L (m + 1)) := by
  have key : ∀ args hp, CN L (m + 1) 26 args hp = run T (CN L (m + 0)) sh (keep 26) L Try.f26 args hp := fun args hp => callX_step (F := F) rfl (by kernel_rfl) args hp
  have h := laws_markPegS_run L (CN L (m + 0))
  simpa only [laws_markPegS_ok, key] using h
theorem laws_heldPegS_all (L m : Nat) : laws_heldPegS_ok L (CN L (m + 1)) := by
  have key : ∀ args hp, CN L (m + 1) 27 args hp = run T (CN L (m + 0)) sh (keep 27) L Try.f27 args hp := fun args hp => callX_step (F := F) rfl (by kernel_rfl) args hp
  have h := laws_heldPegS_run L (CN L (m + 0))
  simpa only [laws_heldPegS_ok, key] using h
theorem spec_wiLeast_all (L m : Nat) : spec_wiLeast_ok L (CN L (m + 5)) := by
  have key : ∀ args hp, CN L (m + 5) 91 args hp = run T (CN L (m + 4)) sh (keep 91) L Try.f91 args hp := fun args hp => callX_step (F := F) rfl (by kernel_rfl) args hp
  have h := spec_wiLeast_run L (CN L (m + 4)) (spec_wiAll_all L (m + 0))
  simpa only [spec_wiLeast_ok, key] using h
theorem slices_DeleteFunc_impl_Peg_impl_Peg_least_all (L m : Nat) : slices_DeleteFunc_impl_Peg_impl_Peg_least_ok L (CN L (m + 6)) := by
  have key : ∀ args hp, CN L (m + 6) 128 args hp = run T (CN L (m + 5)) sh (keep 128) L Try.f128 args hp := fun args hp => callX_step (F := F) rfl (by kernel_rfl) args hp
  have h := slices_DeleteFunc_impl_Peg_impl_Peg_least_run L (CN L (m + 5)) (impl_least_1_v2_all L (m + 1)) (slices_IndexFunc_impl_Peg_impl_Peg_172_impl_least_1_all L (m + 0))
  simpa only [slices_DeleteFunc_impl_Peg_impl_Peg_least_ok, key] using h
theorem impl_least_all (L m : Nat) : impl_least_ok L (CN L (m + 7)) := by
  have key : ∀ args hp, CN L (m + 7) 92 args hp = run T (CN L (m + 6)) sh (keep 92) L Try.f92 args hp := fun args hp => callX_step (F := F) rfl (by kernel_rfl) args hp
  have h := impl_least_run L (CN L (m + 6)) (impl_width_all L (m + 3)) (impl_directions_all L (m + 2)) (slices_DeleteFunc_impl_Peg_impl_Peg_least_all L (m + 0))
  simpa only [impl_least_ok, key] using h
theorem spec_mvFull_all (L m : Nat) : spec_mvFull_ok L (CN L (m + 1)) := by
  have key : ∀ args hp, CN L (m + 1) 131 args hp = run T (CN L (m + 0)) sh (keep 131) L Try.f131 args hp := fun args hp => callX_step (F := F) rfl (by kernel_rfl) args hp
  have h := spec_mvFull_run L (CN L (m + 0))
  simpa only [spec_mvFull_ok, key] using h
theorem spec_wiNearer_all (L m : Nat) : spec_wiNearer_ok L (CN L (m + 3)) := by
  have key : ∀ args hp, CN L (m + 3) 133 args hp = run T (CN L (m + 2)) sh (keep 133) L Try.f133 args hp := fun args hp => callX_step (F := F) rfl (by kernel_rfl) args hp
  have h := spec_wiNearer_run L (CN L (m + 2)) (spec_l1Abs_all L (m + 0))
  simpa only [spec_wiNearer_ok, key] using h
theorem spec_wiFlat_all (L m : Nat) : spec_wiFlat_ok L (CN L (m + 6)) := by
  have key : ∀ args hp, CN L (m + 6) 97 args hp = run T (CN L (m + 5)) sh (keep 97) L Try.f97 args hp := fun args hp => callX_step (F := F) rfl (by kernel_rfl) args hp
  have h := spec_wiFlat_run L (CN L (m + 5)) (spec_l1Abs_all L (m + 3)) (spec_wiRange_all L (m + 3)) (spec_wiLeast_all L (m + 0)) (spec_mvFull_all L (m + 4)) (spec_wiNearer_all L (m + 2))
  simpa only [spec_wiFlat_ok, key] using h
theorem spec_l1All_all (L m : Nat) : spec_l1All_ok L (CN L (m + 2)) := by
  have key : ∀ args hp, CN L (m + 2) 173 args hp = run T (CN L (m + 1)) sh (keep 173) L Try.f173 args hp := fun args hp => callX_step (F := F) rfl (by kernel_rfl) args hp
  have h := spec_l1All_run L (CN L (m + 1)) (spec_l1In_all L (m + 0))
  simpa only [spec_l1All_ok, key] using h
theorem spec_mvGood_all (L m : Nat) : spec_mvGood_ok L (CN L (m + 3)) := by
  have key : ∀ args hp, CN L (m + 3) 130 args hp = run T (CN L (m + 2)) sh (keep 130) L Try.f130 args hp := fun args hp => callX_step (F := F) rfl (by kernel_rfl) args hp
  have h := spec_mvGood_run L (CN L (m + 2)) (spec_l1Abs_all L (m + 0)) (spec_l1All_all L (m + 0))
  simpa only [spec_mvGood_ok, key] using h
theorem spec_mvIf_all (L m : Nat) : spec_mvIf_ok L (CN L (m + 4)) := by
  have key : ∀ args hp, CN L (m + 4) 96 args hp = run T (CN L (m + 3)) sh (keep 96) L Try.f96 args hp := fun args hp => callX_step (F := F) rfl (by kernel_rfl) args hp
  have h := spec_mvIf_run L (CN L (m + 3)) (spec_mvGood_all L (m + 0))
  simpa only [spec_mvIf_ok, key] using h
theorem spec_FlatMove_all (L m : Nat) : spec_FlatMove_ok L (CN L (m + 7)) := by
  have key : ∀ args hp, CN L (m + 7) 46 args hp = run T (CN L (m + 6)) sh (keep 46) L Try.f46 args hp := fun args hp => callX_step (F := F) rfl (by kernel_rfl) args hp
  have h := spec_FlatMove_run L (CN L (m + 6)) (spec_pgGood_all L (m + 2)) (spec_wiFlat_all L (m + 0)) (spec_mvIf_all L (m + 2))
  simpa only [spec_FlatMove_ok, key] using h
theorem impl_bezout_all (L m : Nat) : impl_bezout_ok L (CN L (m + 1)) := by
  have key : ∀ args hp, CN L (m + 1) 136 args hp = run T (CN L (m + 0)) sh (keep 136) L Try.f136 args hp := fun args hp => callX_step (F := F) rfl (by kernel_rfl) args hp
  have h := impl_bezout_run L (CN L (m + 0))
  simpa only [impl_bezout_ok, key] using h
theorem impl_isLess_all (L m : Nat) : impl_isLess_ok L (CN L (m + 2)) := by
  have key : ∀ args hp, CN L (m + 2) 137 args hp = run T (CN L (m + 1)) sh (keep 137) L Try.f137 args hp := fun args hp => callX_step (F := F) rfl (by kernel_rfl) args hp
  have h := impl_isLess_run L (CN L (m + 1)) (impl_size_all L (m + 0))
  simpa only [impl_isLess_ok, key] using h
theorem impl_Move_bring_all (L m : Nat) : impl_Move_bring_ok L (CN L (m + 1)) := by
  have key : ∀ args hp, CN L (m + 1) 102 args hp = run T (CN L (m + 0)) sh (keep 102) L Try.f102 args hp := fun args hp => callX_step (F := F) rfl (by kernel_rfl) args hp
  have h := impl_Move_bring_run L (CN L (m + 0))
  simpa only [impl_Move_bring_ok, key] using h
theorem impl_box_all (L m : Nat) : impl_box_ok L (CN L (m + 1)) := by
  have key : ∀ args hp, CN L (m + 1) 138 args hp = run T (CN L (m + 0)) sh (keep 138) L Try.f138 args hp := fun args hp => callX_step (F := F) rfl (by kernel_rfl) args hp
  have h := impl_box_run L (CN L (m + 0))
  simpa only [impl_box_ok, key] using h
theorem impl_flatMove_all (L m : Nat) : impl_flatMove_ok L (CN L (m + 8)) := by
  have key : ∀ args hp, CN L (m + 8) 99 args hp = run T (CN L (m + 7)) sh (keep 99) L Try.f99 args hp := fun args hp => callX_step (F := F) rfl (by kernel_rfl) args hp
  have h := impl_flatMove_run L (CN L (m + 7)) (impl_least_all L (m + 0)) (impl_bezout_all L (m + 6)) (impl_isLess_all L (m + 5)) (impl_Move_bring_all L (m + 6)) (impl_box_all L (m + 6))
  simpa only [impl_flatMove_ok, key] using h
theorem impl_isWay_all (L m : Nat) : impl_isWay_ok L (CN L (m + 2)) := by
  have key : ∀ args hp, CN L (m + 2) 176 args hp = run T (CN L (m + 1)) sh (keep 176) L Try.f176 args hp := fun args hp => callX_step (F := F) rfl (by kernel_rfl) args hp
  have h := impl_isWay_run L (CN L (m + 1)) (impl_size_all L (m + 0))
  simpa only [impl_isWay_ok, key] using h
theorem impl_Move_side_all (L m : Nat) : impl_Move_side_ok L (CN L (m + 1)) := by
  have key : ∀ args hp, CN L (m + 1) 177 args hp = run T (CN L (m + 0)) sh (keep 177) L Try.f177 args hp := fun args hp => callX_step (F := F) rfl (by kernel_rfl) args hp
  have h := impl_Move_side_run L (CN L (m + 0))
  simpa only [impl_Move_side_ok, key] using h
theorem impl_IsMove_all (L m : Nat) : impl_IsMove_ok L (CN L (m + 3)) := by
  have key : ∀ args hp, CN L (m + 3) 135 args hp = run T (CN L (m + 2)) sh (keep 135) L Try.f135 args hp := fun args hp => callX_step (F := F) rfl (by kernel_rfl) args hp
  have h := impl_IsMove_run L (CN L (m + 2)) (impl_within_all L (m + 1)) (impl_size_all L (m + 1)) (impl_isWay_all L (m + 0)) (impl_Move_side_all L (m + 1))
  simpa only [impl_IsMove_ok, key] using h
theorem impl_checkedMove_all (L m : Nat) : impl_checkedMove_ok L (CN L (m + 4)) := by
  have key : ∀ args hp, CN L (m + 4) 98 args hp = run T (CN L (m + 3)) sh (keep 98) L Try.f98 args hp := fun args hp => callX_step (F := F) rfl (by kernel_rfl) args hp
  have h := impl_checkedMove_run L (CN L (m + 3)) (impl_IsMove_all L (m + 0))
  simpa only [impl_checkedMove_ok, key] using h
theorem impl_FlatMove_all (L m : Nat) : impl_FlatMove_ok L (CN L (m + 9)) := by
  have key : ∀ args hp, CN L (m + 9) 47 args hp = run T (CN L (m + 8)) sh (keep 47) L Try.f47 args hp := fun args hp => callX_step (F := F) rfl (by kernel_rfl) args hp
  have h := impl_FlatMove_run L (CN L (m + 8)) (impl_IsPolygon_all L (m + 1)) (impl_flatMove_all L (m + 0)) (impl_checkedMove_all L (m + 4))
  simpa only [impl_FlatMove_ok, key] using h
theorem spec_pgMap_all (L m : Nat) : spec_pgMap_ok L (CN L (m + 3)) := by
  have key : ∀ args hp, CN L (m + 3) 139 args hp = run T (CN L (m + 2)) sh (keep 139) L Try.f139 args hp := fun args hp => callX_step (F := F) rfl (by kernel_rfl) args hp
  have h := spec_pgMap_run L (CN L (m + 2)) (spec_pgIs_all L (m + 0))
  simpa only [spec_pgMap_ok, key] using h
theorem spec_MoveCorners_all (L m : Nat) : spec_MoveCorners_ok L (CN L (m + 5)) := by
  have key : ∀ args hp, CN L (m + 5) 100 args hp = run T (CN L (m + 4)) sh (keep 100) L Try.f100 args hp := fun args hp => callX_step (F := F) rfl (by kernel_rfl) args hp
  have h := spec_MoveCorners_run L (CN L (m + 4)) (spec_pgGood_all L (m + 0)) (spec_mvGood_all L (m + 1)) (spec_pgMap_all L (m + 1))
  simpa only [spec_MoveCorners_ok, key] using h
theorem spec_FlatPolygon_all (L m : Nat) : spec_FlatPolygon_ok L (CN L (m + 8)) := by
  have key : ∀ args hp, CN L (m + 8) 49 args hp = run T (CN L (m + 7)) sh (keep 49) L Try.f49 args hp := fun args hp => callX_step (F := F) rfl (by kernel_rfl) args hp
  have h := spec_FlatPolygon_run L (CN L (m + 7)) (spec_FlatMove_all L (m + 0)) (spec_MoveCorners_all L (m + 2))
  simpa only [spec_FlatPolygon_ok, key] using h
theorem impl_changed_impl_Move_bring_all (L m : Nat) : impl_changed_impl_Move_bring_ok L (CN L (m + 8)) := by
  have key : ∀ args hp, CN L (m + 8) 101 args hp = run T (CN L (m + 7)) sh (keep 101) L Try.f101 args hp := fun args hp => callX_step (F := F) rfl (by kernel_rfl) args hp
  have h := impl_changed_impl_Move_bring_run L (CN L (m + 7)) (impl_arePegs_all L (m + 1)) (impl_IsPolygon_all L (m + 0)) (impl_Move_bring_all L (m + 6))
  simpa only [impl_changed_impl_Move_bring_ok, key] using h
theorem impl_FlatPolygon_all (L m : Nat) : impl_FlatPolygon_ok L (CN L (m + 10)) := by
  have key : ∀ args hp, CN L (m + 10) 50 args hp = run T (CN L (m + 9)) sh (keep 50) L Try.f50 args hp := fun args hp => callX_step (F := F) rfl (by kernel_rfl) args hp
  have h := impl_FlatPolygon_run L (CN L (m + 9)) (impl_FlatMove_all L (m + 0)) (impl_changed_impl_Move_bring_all L (m + 1))
  simpa only [impl_FlatPolygon_ok, key] using h
theorem laws_FnExactFlatPolygon_all (L m : Nat) : laws_FnExactFlatPolygon_ok L (CN L (m + 11)) := by
  have key : ∀ args hp, CN L (m + 11) 13 args hp = run T (CN L (m + 10)) sh (keep 13) L Try.f13 args hp := fun args hp => callX_step (F := F) rfl (by kernel_rfl) args hp
  have h := laws_FnExactFlatPolygon_run L (CN L (m + 10)) (laws_szPegS_all L (m + 9)) (laws_toPegS_all L (m + 8)) (laws_eqPegS_all L (m + 8)) (laws_markPegS_all L (m + 9)) (laws_heldPegS_all L (m + 9)) (spec_FlatPolygon_all L (m + 2)) (impl_FlatPolygon_all L (m + 0))
  simpa only [laws_FnExactFlatPolygon_ok, key] using h
end Go.AM
