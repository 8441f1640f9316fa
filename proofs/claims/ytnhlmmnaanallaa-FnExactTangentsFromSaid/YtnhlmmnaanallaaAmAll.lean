import Derived.Test.YtnhlmmnaanallaaAmM0
import Derived.KernelRfl
import Derived.Test.YtnhlmmnaanallaaAmLay
set_option linter.unusedVariables false
set_option linter.unusedSimpArgs false
set_option linter.unnecessarySimpa false
set_option linter.deprecated false
set_option linter.unusedSectionVars false
open Go Go.AM Go.Proofs
namespace Go.AM
set_option maxRecDepth 100000

noncomputable def rowsF : List (Nat × Func) := [(4, Try.f4), (15, Try.f15), (17, Try.f17), (19, Try.f19), (20, Try.f20), (21, Try.f21), (22, Try.f22), (23, Try.f23), (56, Try.f56), (59, Try.f59), (61, Try.f61), (62, Try.f62), (63, Try.f63), (64, Try.f64), (65, Try.f65), (66, Try.f66), (67, Try.f67), (68, Try.f68), (69, Try.f69), (70, Try.f70), (71, Try.f71), (72, Try.f72), (73, Try.f73), (74, Try.f74), (77, Try.f77), (79, Try.f79), (80, Try.f80), (81, Try.f81), (82, Try.f82), (83, Try.f83), (90, Try.f90), (110, Try.f110), (111, Try.f111), (113, Try.f113), (116, Try.f116), (117, Try.f117), (118, Try.f118), (119, Try.f119), (120, Try.f120), (121, Try.f121), (122, Try.f122), (125, Try.f125), (126, Try.f126), (127, Try.f127), (156, Try.f156), (158, Try.f158), (159, Try.f159), (161, Try.f161), (172, Try.f172)]
theorem fok4 : FOk Try.prog sh keep (4, Try.f4) := ⟨Try.func4, by kernel_rfl, by kernel_rfl⟩
theorem fok15 : FOk Try.prog sh keep (15, Try.f15) := ⟨Try.func15, by kernel_rfl, by kernel_rfl⟩
theorem fok17 : FOk Try.prog sh keep (17, Try.f17) := ⟨Try.func17, by kernel_rfl, by kernel_rfl⟩
theorem fok19 : FOk Try.prog sh keep (19, Try.f19) := ⟨Try.func19, by kernel_rfl, by kernel_rfl⟩
theorem fok20 : FOk Try.prog sh keep (20, Try.f20) := ⟨Try.func20, by kernel_rfl, by kernel_rfl⟩
theorem fok21 : FOk Try.prog sh keep (21, Try.f21) := ⟨Try.func21, by kernel_rfl, by kernel_rfl⟩
theorem fok22 : FOk Try.prog sh keep (22, Try.f22) := ⟨Try.func22, by kernel_rfl, by kernel_rfl⟩
theorem fok23 : FOk Try.prog sh keep (23, Try.f23) := ⟨Try.func23, by kernel_rfl, by kernel_rfl⟩
theorem fok56 : FOk Try.prog sh keep (56, Try.f56) := ⟨Try.func56, by kernel_rfl, by kernel_rfl⟩
theorem fok59 : FOk Try.prog sh keep (59, Try.f59) := ⟨Try.func59, by kernel_rfl, by kernel_rfl⟩
theorem fok61 : FOk Try.prog sh keep (61, Try.f61) := ⟨Try.func61, by kernel_rfl, by kernel_rfl⟩
theorem fok62 : FOk Try.prog sh keep (62, Try.f62) := ⟨Try.func62, by kernel_rfl, by kernel_rfl⟩
theorem fok63 : FOk Try.prog sh keep (63, Try.f63) := ⟨Try.func63, by kernel_rfl, by kernel_rfl⟩
theorem fok64 : FOk Try.prog sh keep (64, Try.f64) := ⟨Try.func64, by kernel_rfl, by kernel_rfl⟩
theorem fok65 : FOk Try.prog sh keep (65, Try.f65) := ⟨Try.func65, by kernel_rfl, by kernel_rfl⟩
theorem fok66 : FOk Try.prog sh keep (66, Try.f66) := ⟨Try.func66, by kernel_rfl, by kernel_rfl⟩
theorem fok67 : FOk Try.prog sh keep (67, Try.f67) := ⟨Try.func67, by kernel_rfl, by kernel_rfl⟩
theorem fok68 : FOk Try.prog sh keep (68, Try.f68) := ⟨Try.func68, by kernel_rfl, by kernel_rfl⟩
theorem fok69 : FOk Try.prog sh keep (69, Try.f69) := ⟨Try.func69, by kernel_rfl, by kernel_rfl⟩
theorem fok70 : FOk Try.prog sh keep (70, Try.f70) := ⟨Try.func70, by kernel_rfl, by kernel_rfl⟩
theorem fok71 : FOk Try.prog sh keep (71, Try.f71) := ⟨Try.func71, by kernel_rfl, by kernel_rfl⟩
theorem fok72 : FOk Try.prog sh keep (72, Try.f72) := ⟨Try.func72, by kernel_rfl, by kernel_rfl⟩
theorem fok73 : FOk Try.prog sh keep (73, Try.f73) := ⟨Try.func73, by kernel_rfl, by kernel_rfl⟩
theorem fok74 : FOk Try.prog sh keep (74, Try.f74) := ⟨Try.func74, by kernel_rfl, by kernel_rfl⟩
theorem fok77 : FOk Try.prog sh keep (77, Try.f77) := ⟨Try.func77, by kernel_rfl, by kernel_rfl⟩
theorem fok79 : FOk Try.prog sh keep (79, Try.f79) := ⟨Try.func79, by kernel_rfl, by kernel_rfl⟩
theorem fok80 : FOk Try.prog sh keep (80, Try.f80) := ⟨Try.func80, by kernel_rfl, by kernel_rfl⟩
theorem fok81 : FOk Try.prog sh keep (81, Try.f81) := ⟨Try.func81, by kernel_rfl, by kernel_rfl⟩
theorem fok82 : FOk Try.prog sh keep (82, Try.f82) := ⟨Try.func82, by kernel_rfl, by kernel_rfl⟩
theorem fok83 : FOk Try.prog sh keep (83, Try.f83) := ⟨Try.func83, by kernel_rfl, by kernel_rfl⟩
theorem fok90 : FOk Try.prog sh keep (90, Try.f90) := ⟨Try.func90, by kernel_rfl, by kernel_rfl⟩
theorem fok110 : FOk Try.prog sh keep (110, Try.f110) := ⟨Try.func110, by kernel_rfl, by kernel_rfl⟩
theorem fok111 : FOk Try.prog sh keep (111, Try.f111) := ⟨Try.func111, by kernel_rfl, by kernel_rfl⟩
theorem fok113 : FOk Try.prog sh keep (113, Try.f113) := ⟨Try.func113, by kernel_rfl, by kernel_rfl⟩
theorem fok116 : FOk Try.prog sh keep (116, Try.f116) := ⟨Try.func116, by kernel_rfl, by kernel_rfl⟩
theorem fok117 : FOk Try.prog sh keep (117, Try.f117) := ⟨Try.func117, by kernel_rfl, by kernel_rfl⟩
theorem fok118 : FOk Try.prog sh keep (118, Try.f118) := ⟨Try.func118, by kernel_rfl, by kernel_rfl⟩
theorem fok119 : FOk Try.prog sh keep (119, Try.f119) := ⟨Try.func119, by kernel_rfl, by kernel_rfl⟩
theorem fok120 : FOk Try.prog sh keep (120, Try.f120) := ⟨Try.func120, by kernel_rfl, by kernel_rfl⟩
theorem fok121 : FOk Try.prog sh keep (121, Try.f121) := ⟨Try.func121, by kernel_rfl, by kernel_rfl⟩
theorem fok122 : FOk Try.prog sh keep (122, Try.f122) := ⟨Try.func122, by kernel_rfl, by kernel_rfl⟩
theorem fok125 : FOk Try.prog sh keep (125, Try.f125) := ⟨Try.func125, by kernel_rfl, by kernel_rfl⟩
theorem fok126 : FOk Try.prog sh keep (126, Try.f126) := ⟨Try.func126, by kernel_rfl, by kernel_rfl⟩
theorem fok127 : FOk Try.prog sh keep (127, Try.f127) := ⟨Try.func127, by kernel_rfl, by kernel_rfl⟩
theorem fok156 : FOk Try.prog sh keep (156, Try.f156) := ⟨Try.func156, by kernel_rfl, by kernel_rfl⟩
theorem fok158 : FOk Try.prog sh keep (158, Try.f158) := ⟨Try.func158, by kernel_rfl, by kernel_rfl⟩
theorem fok159 : FOk Try.prog sh keep (159, Try.f159) := ⟨Try.func159, by kernel_rfl, by kernel_rfl⟩
theorem fok161 : FOk Try.prog sh keep (161, Try.f161) := ⟨Try.func161, by kernel_rfl, by kernel_rfl⟩
theorem fok172 : FOk Try.prog sh keep (172, Try.f172) := ⟨Try.func172, by kernel_rfl, by kernel_rfl⟩
theorem fokAll : ∀ p ∈ rowsF, FOk Try.prog sh keep p :=
  fOk_cons fok4 (fOk_cons fok15 (fOk_cons fok17 (fOk_cons fok19 (fOk_cons fok20 (fOk_cons fok21 (fOk_cons fok22 (fOk_cons fok23 (fOk_cons fok56 (fOk_cons fok59 (fOk_cons fok61 (fOk_cons fok62 (fOk_cons fok63 (fOk_cons fok64 (fOk_cons fok65 (fOk_cons fok66 (fOk_cons fok67 (fOk_cons fok68 (fOk_cons fok69 (fOk_cons fok70 (fOk_cons fok71 (fOk_cons fok72 (fOk_cons fok73 (fOk_cons fok74 (fOk_cons fok77 (fOk_cons fok79 (fOk_cons fok80 (fOk_cons fok81 (fOk_cons fok82 (fOk_cons fok83 (fOk_cons fok90 (fOk_cons fok110 (fOk_cons fok111 (fOk_cons fok113 (fOk_cons fok116 (fOk_cons fok117 (fOk_cons fok118 (fOk_cons fok119 (fOk_cons fok120 (fOk_cons fok121 (fOk_cons fok122 (fOk_cons fok125 (fOk_cons fok126 (fOk_cons fok127 (fOk_cons fok156 (fOk_cons fok158 (fOk_cons fok159 (fOk_cons fok161 (fOk_cons fok172 fOk_nil))))))))))))))))))))))))))))))))))))))))))))))))
theorem tokAll : rowsT.all (tiR Try.prog) = true := by kernel_rfl
noncomputable def F : FuncId → Option Func := findL rowsF
noncomputable def CN0 (L n : Nat) : CF := callF T F sh keep L n
theorem cn0_sound (L n : Nat) : CSound Try.prog (CN0 L n) := callF_sound tokAll fokAll (by kernel_rfl) L n
theorem cmp_isNaN_int_all0 (L m : Nat) : cmp_isNaN_int_ok L (CN0 L (m + 1)) := by
  have key : ∀ args hp, CN0 L (m + 1) 125 args hp = run T (CN0 L (m + 0)) sh (keep 125) L Try.f125 args hp := fun args hp => callF_step (F := F) (by kernel_rfl) args hp
  have h := cmp_isNaN_int_run L (CN0 L (m + 0))
  simpa only [cmp_isNaN_int_ok, key] using h
theorem cmp_Compare_int_all0 (L m : Nat) : cmp_Compare_int_ok L (CN0 L (m + 2)) := by
  have key : ∀ args hp, CN0 L (m + 2) 80 args hp = run T (CN0 L (m + 1)) sh (keep 80) L Try.f80 args hp := fun args hp => callF_step (F := F) (by kernel_rfl) args hp
  have h := cmp_Compare_int_run L (CN0 L (m + 1)) (cmp_isNaN_int_all0 L (m + 0))
  simpa only [cmp_Compare_int_ok, key] using h
theorem cmp_Or_int_all0 (L m : Nat) : cmp_Or_int_ok L (CN0 L (m + 1)) := by
  have key : ∀ args hp, CN0 L (m + 1) 77 args hp = run T (CN0 L (m + 0)) sh (keep 77) L Try.f77 args hp := fun args hp => callF_step (F := F) (by kernel_rfl) args hp
  have h := cmp_Or_int_run L (CN0 L (m + 0))
  simpa only [cmp_Or_int_ok, key] using h
theorem impl_comparePegs_all0 (L m : Nat) : impl_comparePegs_ok L (CN0 L (m + 3)) := by
  have key : ∀ args hp, CN0 L (m + 3) 122 args hp = run T (CN0 L (m + 2)) sh (keep 122) L Try.f122 args hp := fun args hp => callF_step (F := F) (by kernel_rfl) args hp
  have h := impl_comparePegs_run L (CN0 L (m + 2)) (cmp_Compare_int_all0 L (m + 0)) (cmp_Or_int_all0 L (m + 1))
  simpa only [impl_comparePegs_ok, key] using h
theorem cmp_holds (p q : Pt) : CN0 10 (0 + 3) 122 [ep p, ep q] [] = some (.int .i64 (ordP p q), []) := by
  have h := impl_comparePegs_all0 10 0 p.x p.y q.x q.y
  rw [cmp_val] at h
  exact h
noncomputable def XF : CF := sortX 75 122 ordP
def isX (f : FuncId) : Bool := Nat.beq f 75
theorem xf_sound : CSound Try.prog fun f args hp => bif isX f then XF f args hp else none := by
  have h := sortX_sound (P := Try.prog) (ρ := sortPegs_ren) sortPegs sortPegs_agg sortPegs_size (cn0_sound 10 (0 + 3)) (fC := 122) (cf := ordP) cmp_holds swo_ordP tot_ordP ⟨Try.f75, Try.func75, by kernel_rfl, by kernel_rfl⟩
  intro f args hp res hp' e
  cases hx : isX f with
  | true => simp only [hx, cond_true] at e; exact h f args hp res hp' e
  | false => simp only [hx, cond_false] at e; cases e
noncomputable def CN (L n : Nat) : CF := callN T F XF isX sh keep L n
theorem cn_sound (L n : Nat) : CSound Try.prog (CN L n) := callN_sound (tOk_rows tokAll) (by kernel_rfl) (fun f fn h => fokAll _ (findL_mem h)) xf_sound n
theorem slices_SortFunc_impl_Peg_impl_Peg_all (L m : Nat) : slices_SortFunc_impl_Peg_impl_Peg_ok L (CN L (m + 1)) := by
  intro c x l hx
  have key := callX_ext (T := T) (F := F) (X := XF) (isX := isX) (sh := sh) (keep := keep) (L := L) (n := m) (f := 75) rfl [.own 0 2 none c, .fn 122 [] []] [.rows .live 2 x]
  exact key.trans (sortX_all c x l hx)
theorem laws_szPegS_all (L m : Nat) : laws_szPegS_ok L (CN L (m + 1)) := by
  have key : ∀ args hp, CN L (m + 1) 15 args hp = run T (CN L (m + 0)) sh (keep 15) L Try.f15 args hp := fun args hp => callX_step (F := F) rfl (by kernel_rfl) args hp
  have h := laws_szPegS_run L (CN L (m + 0))
  simpa only [laws_szPegS_ok, key] using h
theorem laws_toPeg_all (L m : Nat) : laws_toPeg_ok L (CN L (m + 1)) := by
  have key : ∀ args hp, CN L (m + 1) 21 args hp = run T (CN L (m + 0)) sh (keep 21) L Try.f21 args hp := fun args hp => callX_step (F := F) rfl (by kernel_rfl) args hp
  have h := laws_toPeg_run L (CN L (m + 0))
  simpa only [laws_toPeg_ok, key] using h
theorem laws_toPegS_all (L m : Nat) : laws_toPegS_ok L (CN L (m + 2)) := by
  have key : ∀ args hp, CN L (m + 2) 17 args hp = run T (CN L (m + 1)) sh (keep 17) L Try.f17 args hp := fun args hp => callX_step (F := F) rfl (by kernel_rfl) args hp
  have h := laws_toPegS_run L (CN L (m + 1)) (laws_toPeg_all L (m + 0))
  simpa only [laws_toPegS_ok, key] using h
theorem spec_l1In_all (L m : Nat) : spec_l1In_ok L (CN L (m + 1)) := by
  have key : ∀ args hp, CN L (m + 1) 56 args hp = run T (CN L (m + 0)) sh (keep 56) L Try.f56 args hp := fun args hp => callX_step (F := F) rfl (by kernel_rfl) args hp
  have h := spec_l1In_run L (CN L (m + 0))
  simpa only [spec_l1In_ok, key] using h
theorem spec_pgIs_all (L m : Nat) : spec_pgIs_ok L (CN L (m + 2)) := by
  have key : ∀ args hp, CN L (m + 2) 62 args hp = run T (CN L (m + 1)) sh (keep 62) L Try.f62 args hp := fun args hp => callX_step (F := F) rfl (by kernel_rfl) args hp
  have h := spec_pgIs_run L (CN L (m + 1)) (spec_l1In_all L (m + 0))
  simpa only [spec_pgIs_ok, key] using h
theorem spec_pgTurn_all (L m : Nat) : spec_pgTurn_ok L (CN L (m + 1)) := by
  have key : ∀ args hp, CN L (m + 1) 72 args hp = run T (CN L (m + 0)) sh (keep 72) L Try.f72 args hp := fun args hp => callX_step (F := F) rfl (by kernel_rfl) args hp
  have h := spec_pgTurn_run L (CN L (m + 0))
  simpa only [spec_pgTurn_ok, key] using h
theorem spec_pgOn_all (L m : Nat) : spec_pgOn_ok L (CN L (m + 2)) := by
  have key : ∀ args hp, CN L (m + 2) 156 args hp = run T (CN L (m + 1)) sh (keep 156) L Try.f156 args hp := fun args hp => callX_step (F := F) rfl (by kernel_rfl) args hp
  have h := spec_pgOn_run L (CN L (m + 1)) (spec_pgTurn_all L (m + 0))
  simpa only [spec_pgOn_ok, key] using h
theorem impl_within_all (L m : Nat) : impl_within_ok L (CN L (m + 1)) := by
  have key : ∀ args hp, CN L (m + 1) 59 args hp = run T (CN L (m + 0)) sh (keep 59) L Try.f59 args hp := fun args hp => callX_step (F := F) rfl (by kernel_rfl) args hp
  have h := impl_within_run L (CN L (m + 0))
  simpa only [impl_within_ok, key] using h
theorem impl_IsPeg_all (L m : Nat) : impl_IsPeg_ok L (CN L (m + 2)) := by
  have key : ∀ args hp, CN L (m + 2) 67 args hp = run T (CN L (m + 1)) sh (keep 67) L Try.f67 args hp := fun args hp => callX_step (F := F) rfl (by kernel_rfl) args hp
  have h := impl_IsPeg_run L (CN L (m + 1)) (impl_within_all L (m + 0))
  simpa only [impl_IsPeg_ok, key] using h
theorem impl_arePegs_1_all (L m : Nat) : impl_arePegs_1_ok L (CN L (m + 3)) := by
  have key : ∀ args hp, CN L (m + 3) 159 args hp = run T (CN L (m + 2)) sh (keep 159) L Try.f159 args hp := fun args hp => callX_step (F := F) rfl (by kernel_rfl) args hp
  have h := impl_arePegs_1_run L (CN L (m + 2)) (impl_IsPeg_all L (m + 0))
  simpa only [impl_arePegs_1_ok, key] using h
theorem slices_IndexFunc_impl_Peg_impl_Peg_172_arePegs_all (L m : Nat) : slices_IndexFunc_impl_Peg_impl_Peg_172_arePegs_ok L (CN L (m + 4)) := by
  have key : ∀ args hp, CN L (m + 4) 172 args hp = run T (CN L (m + 3)) sh (keep 172) L Try.f172 args hp := fun args hp => callX_step (F := F) rfl (by kernel_rfl) args hp
  have h := slices_IndexFunc_impl_Peg_impl_Peg_172_arePegs_run L (CN L (m + 3)) (impl_arePegs_1_all L (m + 0))
  simpa only [slices_IndexFunc_impl_Peg_impl_Peg_172_arePegs_ok, key] using h
theorem slices_ContainsFunc_impl_Peg_impl_Peg_158_arePegs_all (L m : Nat) : slices_ContainsFunc_impl_Peg_impl_Peg_158_arePegs_ok L (CN L (m + 5)) := by
  have key : ∀ args hp, CN L (m + 5) 158 args hp = run T (CN L (m + 4)) sh (keep 158) L Try.f158 args hp := fun args hp => callX_step (F := F) rfl (by kernel_rfl) args hp
  have h := slices_ContainsFunc_impl_Peg_impl_Peg_158_arePegs_run L (CN L (m + 4)) (slices_IndexFunc_impl_Peg_impl_Peg_172_arePegs_all L (m + 0))
  simpa only [slices_ContainsFunc_impl_Peg_impl_Peg_158_arePegs_ok, key] using h
theorem impl_arePegs_all (L m : Nat) : impl_arePegs_ok L (CN L (m + 6)) := by
  have key : ∀ args hp, CN L (m + 6) 110 args hp = run T (CN L (m + 5)) sh (keep 110) L Try.f110 args hp := fun args hp => callX_step (F := F) rfl (by kernel_rfl) args hp
  have h := impl_arePegs_run L (CN L (m + 5)) (slices_ContainsFunc_impl_Peg_impl_Peg_158_arePegs_all L (m + 0))
  simpa only [impl_arePegs_ok, key] using h
theorem slices_Index_impl_Peg_impl_Peg_all (L m : Nat) : slices_Index_impl_Peg_impl_Peg_ok L (CN L (m + 1)) := by
  have key : ∀ args hp, CN L (m + 1) 127 args hp = run T (CN L (m + 0)) sh (keep 127) L Try.f127 args hp := fun args hp => callX_step (F := F) rfl (by kernel_rfl) args hp
  have h := slices_Index_impl_Peg_impl_Peg_run L (CN L (m + 0))
  simpa only [slices_Index_impl_Peg_impl_Peg_ok, key] using h
theorem slices_Contains_impl_Peg_impl_Peg_all (L m : Nat) : slices_Contains_impl_Peg_impl_Peg_ok L (CN L (m + 2)) := by
  have key : ∀ args hp, CN L (m + 2) 90 args hp = run T (CN L (m + 1)) sh (keep 90) L Try.f90 args hp := fun args hp => callX_step (F := F) rfl (by kernel_rfl) args hp
  have h := slices_Contains_impl_Peg_impl_Peg_run L (CN L (m + 1)) (slices_Index_impl_Peg_impl_Peg_all L (m + 0))
  simpa only [slices_Contains_impl_Peg_impl_Peg_ok, key] using h
theorem impl_at_all (L m : Nat) : impl_at_ok L (CN L (m + 1)) := by
  have key : ∀ args hp, CN L (m + 1) 111 args hp = run T (CN L (m + 0)) sh (keep 111) L Try.f111 args hp := fun args hp => callX_step (F := F) rfl (by kernel_rfl) args hp
  have h := impl_at_run L (CN L (m + 0))
  simpa only [impl_at_ok, key] using h
theorem impl_Peg_less_all (L m : Nat) : impl_Peg_less_ok L (CN L (m + 1)) := by
  have key : ∀ args hp, CN L (m + 1) 81 args hp = run T (CN L (m + 0)) sh (keep 81) L Try.f81 args hp := fun args hp => callX_step (F := F) rfl (by kernel_rfl) args hp
  have h := impl_Peg_less_run L (CN L (m + 0))
  simpa only [impl_Peg_less_ok, key] using h
theorem impl_cross_all (L m : Nat) : impl_cross_ok L (CN L (m + 1)) := by
  have key : ∀ args hp, CN L (m + 1) 113 args hp = run T (CN L (m + 0)) sh (keep 113) L Try.f113 args hp := fun args hp => callX_step (F := F) rfl (by kernel_rfl) args hp
  have h := impl_cross_run L (CN L (m + 0))
  simpa only [impl_cross_ok, key] using h
theorem impl_turn_all (L m : Nat) : impl_turn_ok L (CN L (m + 2)) := by
  have key : ∀ args hp, CN L (m + 2) 79 args hp = run T (CN L (m + 1)) sh (keep 79) L Try.f79 args hp := fun args hp => callX_step (F := F) rfl (by kernel_rfl) args hp
  have h := impl_turn_run L (CN L (m + 1)) (impl_Peg_less_all L (m + 0)) (impl_cross_all L (m + 0))
  simpa only [impl_turn_ok, key] using h
theorem impl_isOn_all (L m : Nat) : impl_isOn_ok L (CN L (m + 3)) := by
  have key : ∀ args hp, CN L (m + 3) 119 args hp = run T (CN L (m + 2)) sh (keep 119) L Try.f119 args hp := fun args hp => callX_step (F := F) rfl (by kernel_rfl) args hp
  have h := impl_isOn_run L (CN L (m + 2)) (impl_within_all L (m + 1)) (impl_turn_all L (m + 0))
  simpa only [impl_isOn_ok, key] using h
theorem slices_Clone_impl_Peg_impl_Peg_all (L m : Nat) : slices_Clone_impl_Peg_impl_Peg_ok L (CN L (m + 1)) := by
  have key : ∀ args hp, CN L (m + 1) 121 args hp = run T (CN L (m + 0)) sh (keep 121) L Try.f121 args hp := fun args hp => callX_step (F := F) rfl (by kernel_rfl) args hp
  have h := slices_Clone_impl_Peg_impl_Peg_run L (CN L (m + 0))
  simpa only [slices_Clone_impl_Peg_impl_Peg_ok, key] using h
theorem cmp_isNaN_int_all (L m : Nat) : cmp_isNaN_int_ok L (CN L (m + 1)) := by
  have key : ∀ args hp, CN L (m + 1) 125 args hp = run T (CN L (m + 0)) sh (keep 125) L Try.f125 args hp := fun args hp => callX_step (F := F) rfl (by kernel_rfl) args hp
  have h := cmp_isNaN_int_run L (CN L (m + 0))
  simpa only [cmp_isNaN_int_ok, key] using h
theorem cmp_Compare_int_all (L m : Nat) : cmp_Compare_int_ok L (CN L (m + 2)) := by
  have key : ∀ args hp, CN L (m + 2) 80 args hp = run T (CN L (m + 1)) sh (keep 80) L Try.f80 args hp := fun args hp => callX_step (F := F) rfl (by kernel_rfl) args hp
  have h := cmp_Compare_int_run L (CN L (m + 1)) (cmp_isNaN_int_all L (m + 0))
  simpa only [cmp_Compare_int_ok, key] using h
theorem cmp_Or_int_all (L m : Nat) : cmp_Or_int_ok L (CN L (m + 1)) := by
  have key : ∀ args hp, CN L (m + 1) 77 args hp = run T (CN L (m + 0)) sh (keep 77) L Try.f77 args hp := fun args hp => callX_step (F := F) rfl (by kernel_rfl) args hp
  have h := cmp_Or_int_run L (CN L (m + 0))
  simpa only [cmp_Or_int_ok, key] using h
theorem impl_comparePegs_all (L m : Nat) : impl_comparePegs_ok L (CN L (m + 3)) := by
  have key : ∀ args hp, CN L (m + 3) 122 args hp = run T (CN L (m + 2)) sh (keep 122) L Try.f122 args hp := fun args hp => callX_step (F := F) rfl (by kernel_rfl) args hp
  have h := impl_comparePegs_run L (CN L (m + 2)) (cmp_Compare_int_all L (m + 0)) (cmp_Or_int_all L (m + 1))
  simpa only [impl_comparePegs_ok, key] using h
theorem impl_sorted_all (L m : Nat) : impl_sorted_ok L (CN L (m + 2)) := by
  have key : ∀ args hp, CN L (m + 2) 74 args hp = run T (CN L (m + 1)) sh (keep 74) L Try.f74 args hp := fun args hp => callX_step (F := F) rfl (by kernel_rfl) args hp
  have h := impl_sorted_run L (CN L (m + 1)) (slices_Clone_impl_Peg_impl_Peg_all L (m + 0)) (slices_SortFunc_impl_Peg_impl_Peg_all L (m + 0))
  simpa only [impl_sorted_ok, key] using h
theorem laws_eqPeg_all (L m : Nat) : laws_eqPeg_ok L (CN L (m + 1)) := by
  have key : ∀ args hp, CN L (m + 1) 23 args hp = run T (CN L (m + 0)) sh (keep 23) L Try.f23 args hp := fun args hp => callX_step (F := F) rfl (by kernel_rfl) args hp
  have h := laws_eqPeg_run L (CN L (m + 0))
  simpa only [laws_eqPeg_ok, key] using h
theorem laws_eqPegS_all (L m : Nat) : laws_eqPegS_ok L (CN L (m + 2)) := by
  have key : ∀ args hp, CN L (m + 2) 19 args hp = run T (CN L (m + 1)) sh (keep 19) L Try.f19 args hp := fun args hp => callX_step (F := F) rfl (by kernel_rfl) args hp
  have h := laws_eqPegS_run L (CN L (m + 1)) (laws_eqPeg_all L (m + 0))
  simpa only [laws_eqPegS_ok, key] using h
theorem spec_bdGood_all (L m : Nat) : spec_bdGood_ok L (CN L (m + 3)) := by
  have key : ∀ args hp, CN L (m + 3) 61 args hp = run T (CN L (m + 2)) sh (keep 61) L Try.f61 args hp := fun args hp => callX_step (F := F) rfl (by kernel_rfl) args hp
  have h := spec_bdGood_run L (CN L (m + 2)) (spec_l1In_all L (m + 1)) (spec_pgIs_all L (m + 0))
  simpa only [spec_bdGood_ok, key] using h
theorem spec_pgLess_all (L m : Nat) : spec_pgLess_ok L (CN L (m + 1)) := by
  have key : ∀ args hp, CN L (m + 1) 120 args hp = run T (CN L (m + 0)) sh (keep 120) L Try.f120 args hp := fun args hp => callX_step (F := F) rfl (by kernel_rfl) args hp
  have h := spec_pgLess_run L (CN L (m + 0))
  simpa only [spec_pgLess_ok, key] using h
theorem spec_bdSorted_all (L m : Nat) : spec_bdSorted_ok L (CN L (m + 2)) := by
  have key : ∀ args hp, CN L (m + 2) 71 args hp = run T (CN L (m + 1)) sh (keep 71) L Try.f71 args hp := fun args hp => callX_step (F := F) rfl (by kernel_rfl) args hp
  have h := spec_bdSorted_run L (CN L (m + 1)) (spec_pgLess_all L (m + 0))
  simpa only [spec_bdSorted_ok, key] using h
theorem spec_bdBand_all (L m : Nat) : spec_bdBand_ok L (CN L (m + 3)) := by
  have key : ∀ args hp, CN L (m + 3) 63 args hp = run T (CN L (m + 2)) sh (keep 63) L Try.f63 args hp := fun args hp => callX_step (F := F) rfl (by kernel_rfl) args hp
  have h := spec_bdBand_run L (CN L (m + 2)) (spec_pgTurn_all L (m + 1)) (spec_bdSorted_all L (m + 0))
  simpa only [spec_bdBand_ok, key] using h
theorem spec_bdOn_all (L m : Nat) : spec_bdOn_ok L (CN L (m + 3)) := by
  have key : ∀ args hp, CN L (m + 3) 116 args hp = run T (CN L (m + 2)) sh (keep 116) L Try.f116 args hp := fun args hp => callX_step (F := F) rfl (by kernel_rfl) args hp
  have h := spec_bdOn_run L (CN L (m + 2)) (spec_pgOn_all L (m + 0))
  simpa only [spec_bdOn_ok, key] using h
theorem spec_bdIn_all (L m : Nat) : spec_bdIn_ok L (CN L (m + 4)) := by
  have key : ∀ args hp, CN L (m + 4) 64 args hp = run T (CN L (m + 3)) sh (keep 64) L Try.f64 args hp := fun args hp => callX_step (F := F) rfl (by kernel_rfl) args hp
  have h := spec_bdIn_run L (CN L (m + 3)) (spec_pgTurn_all L (m + 2)) (spec_bdOn_all L (m + 0))
  simpa only [spec_bdIn_ok, key] using h
theorem spec_bdFar_all (L m : Nat) : spec_bdFar_ok L (CN L (m + 1)) := by
  have key : ∀ args hp, CN L (m + 1) 73 args hp = run T (CN L (m + 0)) sh (keep 73) L Try.f73 args hp := fun args hp => callX_step (F := F) rfl (by kernel_rfl) args hp
  have h := spec_bdFar_run L (CN L (m + 0))
  simpa only [spec_bdFar_ok, key] using h
theorem spec_bdTangent_all (L m : Nat) : spec_bdTangent_ok L (CN L (m + 2)) := by
  have key : ∀ args hp, CN L (m + 2) 65 args hp = run T (CN L (m + 1)) sh (keep 65) L Try.f65 args hp := fun args hp => callX_step (F := F) rfl (by kernel_rfl) args hp
  have h := spec_bdTangent_run L (CN L (m + 1)) (spec_pgTurn_all L (m + 0)) (spec_bdFar_all L (m + 0))
  simpa only [spec_bdTangent_ok, key] using h
theorem spec_TangentsFrom_all (L m : Nat) : spec_TangentsFrom_ok L (CN L (m + 5)) := by
  have key : ∀ args hp, CN L (m + 5) 20 args hp = run T (CN L (m + 4)) sh (keep 20) L Try.f20 args hp := fun args hp => callX_step (F := F) rfl (by kernel_rfl) args hp
  have h := spec_TangentsFrom_run L (CN L (m + 4)) (spec_pgIs_all L (m + 2)) (spec_bdGood_all L (m + 1)) (spec_bdBand_all L (m + 1)) (spec_bdIn_all L (m + 0)) (spec_bdTangent_all L (m + 2))
  simpa only [spec_TangentsFrom_ok, key] using h
theorem impl_AreDifferent_all (L m : Nat) : impl_AreDifferent_ok L (CN L (m + 7)) := by
  have key : ∀ args hp, CN L (m + 7) 66 args hp = run T (CN L (m + 6)) sh (keep 66) L Try.f66 args hp := fun args hp => callX_step (F := F) rfl (by kernel_rfl) args hp
  have h := impl_AreDifferent_run L (CN L (m + 6)) (impl_within_all L (m + 5)) (impl_arePegs_all L (m + 0)) (slices_Contains_impl_Peg_impl_Peg_all L (m + 4))
  simpa only [impl_AreDifferent_ok, key] using h
theorem impl_chain_all (L m : Nat) : impl_chain_ok L (CN L (m + 3)) := by
  have key : ∀ args hp, CN L (m + 3) 117 args hp = run T (CN L (m + 2)) sh (keep 117) L Try.f117 args hp := fun args hp => callX_step (F := F) rfl (by kernel_rfl) args hp
  have h := impl_chain_run L (CN L (m + 2)) (impl_turn_all L (m + 0))
  simpa only [impl_chain_ok, key] using h
theorem slices_Reverse_impl_Peg_impl_Peg_all (L m : Nat) : slices_Reverse_impl_Peg_impl_Peg_ok L (CN L (m + 1)) := by
  have key : ∀ args hp, CN L (m + 1) 83 args hp = run T (CN L (m + 0)) sh (keep 83) L Try.f83 args hp := fun args hp => callX_step (F := F) rfl (by kernel_rfl) args hp
  have h := slices_Reverse_impl_Peg_impl_Peg_run L (CN L (m + 0))
  simpa only [slices_Reverse_impl_Peg_impl_Peg_ok, key] using h
theorem slices_Grow_impl_Peg_impl_Peg_v2_all (L m : Nat) : slices_Grow_impl_Peg_impl_Peg_v2_ok L (CN L (m + 1)) := by
  have key : ∀ args hp, CN L (m + 1) 161 args hp = run T (CN L (m + 0)) sh (keep 161) L Try.f161 args hp := fun args hp => callX_step (F := F) rfl (by kernel_rfl) args hp
  have h := slices_Grow_impl_Peg_impl_Peg_v2_run L (CN L (m + 0))
  simpa only [slices_Grow_impl_Peg_impl_Peg_v2_ok, key] using h
theorem slices_Concat_impl_Peg_impl_Peg_all (L m : Nat) : slices_Concat_impl_Peg_impl_Peg_ok L (CN L (m + 2)) := by
  have key : ∀ args hp, CN L (m + 2) 118 args hp = run T (CN L (m + 1)) sh (keep 118) L Try.f118 args hp := fun args hp => callX_step (F := F) rfl (by kernel_rfl) args hp
  have h := slices_Concat_impl_Peg_impl_Peg_run L (CN L (m + 1)) (slices_Grow_impl_Peg_impl_Peg_v2_all L (m + 0))
  simpa only [slices_Concat_impl_Peg_impl_Peg_ok, key] using h
theorem impl_band_all (L m : Nat) : impl_band_ok L (CN L (m + 4)) := by
  have key : ∀ args hp, CN L (m + 4) 68 args hp = run T (CN L (m + 3)) sh (keep 68) L Try.f68 args hp := fun args hp => callX_step (F := F) rfl (by kernel_rfl) args hp
  have h := impl_band_run L (CN L (m + 3)) (impl_sorted_all L (m + 1)) (impl_chain_all L (m + 0)) (slices_Reverse_impl_Peg_impl_Peg_all L (m + 2)) (slices_Concat_impl_Peg_impl_Peg_all L (m + 1))
  simpa only [impl_band_ok, key] using h
theorem impl_where_all (L m : Nat) : impl_where_ok L (CN L (m + 4)) := by
  have key : ∀ args hp, CN L (m + 4) 69 args hp = run T (CN L (m + 3)) sh (keep 69) L Try.f69 args hp := fun args hp => callX_step (F := F) rfl (by kernel_rfl) args hp
  have h := impl_where_run L (CN L (m + 3)) (impl_at_all L (m + 2)) (impl_turn_all L (m + 1)) (impl_isOn_all L (m + 0))
  simpa only [impl_where_ok, key] using h
theorem impl_Peg_square_all (L m : Nat) : impl_Peg_square_ok L (CN L (m + 1)) := by
  have key : ∀ args hp, CN L (m + 1) 82 args hp = run T (CN L (m + 0)) sh (keep 82) L Try.f82 args hp := fun args hp => callX_step (F := F) rfl (by kernel_rfl) args hp
  have h := impl_Peg_square_run L (CN L (m + 0))
  simpa only [impl_Peg_square_ok, key] using h
theorem impl_tangent_all (L m : Nat) : impl_tangent_ok L (CN L (m + 3)) := by
  have key : ∀ args hp, CN L (m + 3) 70 args hp = run T (CN L (m + 2)) sh (keep 70) L Try.f70 args hp := fun args hp => callX_step (F := F) rfl (by kernel_rfl) args hp
  have h := impl_tangent_run L (CN L (m + 2)) (impl_Peg_less_all L (m + 1)) (impl_turn_all L (m + 0)) (impl_Peg_square_all L (m + 1))
  simpa only [impl_tangent_ok, key] using h
theorem impl_TangentsFrom_all (L m : Nat) : impl_TangentsFrom_ok L (CN L (m + 8)) := by
  have key : ∀ args hp, CN L (m + 8) 22 args hp = run T (CN L (m + 7)) sh (keep 22) L Try.f22 args hp := fun args hp => callX_step (F := F) rfl (by kernel_rfl) args hp
  have h := impl_TangentsFrom_run L (CN L (m + 7)) (impl_IsPeg_all L (m + 5)) (impl_AreDifferent_all L (m + 0)) (impl_band_all L (m + 3)) (impl_where_all L (m + 3)) (impl_tangent_all L (m + 4))
  simpa only [impl_TangentsFrom_ok, key] using h
theorem laws_FnExactTangentsFrom_all (L m : Nat) : laws_FnExactTangentsFrom_ok L (CN L (m + 9)) := by
  have key : ∀ args hp, CN L (m + 9) 4 args hp = run T (CN L (m + 8)) sh (keep 4) L Try.f4 args hp := fun args hp => callX_step (F := F) rfl (by kernel_rfl) args hp
  have h := laws_FnExactTangentsFrom_run L (CN L (m + 8)) (laws_szPegS_all L (m + 7)) (laws_toPeg_all L (m + 7)) (laws_toPegS_all L (m + 6)) (laws_eqPeg_all L (m + 7)) (laws_eqPegS_all L (m + 6)) (spec_TangentsFrom_all L (m + 3)) (impl_TangentsFrom_all L (m + 0))
  simpa only [laws_FnExactTangentsFrom_ok, key] using h
theorem impl_bandWhere_all (L m : Nat) : impl_bandWhere_ok L (CN L (m + 5)) := by
  have key : ∀ args hp, CN L (m + 5) 126 args hp = run T (CN L (m + 4)) sh (keep 126) L Try.f126 args hp := fun args hp => callX_step (F := F) rfl (by kernel_rfl) args hp
  have h := impl_bandWhere_run L (CN L (m + 4)) (impl_where_all L (m + 0))
  simpa only [impl_bandWhere_ok, key] using h
end Go.AM
