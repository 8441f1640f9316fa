import Derived.Test.YtjedbgbiamndnaaGreatAmM1
import Derived.KernelRfl
import Derived.Test.YtjedbgbiamndnaaGreatAmLay
set_option linter.unusedVariables false
set_option linter.unusedSimpArgs false
set_option linter.unnecessarySimpa false
set_option linter.deprecated false
set_option linter.unusedSectionVars false
open Go Go.AM Go.Proofs
namespace Go.AM
set_option maxRecDepth 100000
noncomputable def rowsF : List (Nat × Func) := [(3, Tryz.f3), (4, Tryz.f4), (5, Tryz.f5), (6, Tryz.f6), (7, Tryz.f7), (8, Tryz.f8), (9, Tryz.f9), (10, Tryz.f10), (11, Tryz.f11), (12, Tryz.f12), (13, Tryz.f13), (14, Tryz.f14), (15, Tryz.f15), (16, Tryz.f16), (17, Tryz.f17), (18, Tryz.f18), (19, Tryz.f19), (20, Tryz.f20), (21, Tryz.f21), (22, Tryz.f22), (23, Tryz.f23), (24, Tryz.f24), (25, Tryz.f25), (26, Tryz.f26), (27, Tryz.f27), (28, Tryz.f28), (29, Tryz.f29), (30, Tryz.f30), (31, Tryz.f31), (32, Tryz.f32), (33, Tryz.f33), (34, Tryz.f34), (35, Tryz.f35), (36, Tryz.f36), (37, Tryz.f37), (38, Tryz.f38), (39, Tryz.f39), (40, Tryz.f40), (41, Tryz.f41), (42, Tryz.f42), (43, Tryz.f43), (44, Tryz.f44), (45, Tryz.f45), (46, Tryz.f46), (47, Tryz.f47), (48, Tryz.f48), (49, Tryz.f49), (50, Tryz.f50), (51, Tryz.f51), (52, Tryz.f52), (53, Tryz.f53), (54, Tryz.f54), (55, Tryz.f55), (56, Tryz.f56), (57, Tryz.f57), (58, Tryz.f58), (59, Tryz.f59), (60, Tryz.f60), (61, Tryz.f61), (62, Tryz.f62), (63, Tryz.f63), (64, Tryz.f64), (65, Tryz.f65), (66, Tryz.f66), (67, Tryz.f67), (68, Tryz.f68), (69, Tryz.f69), (70, Tryz.f70), (71, Tryz.f71), (72, Tryz.f72), (73, Tryz.f73), (74, Tryz.f74), (75, Tryz.f75), (76, Tryz.f76), (77, Tryz.f77), (78, Tryz.f78), (79, Tryz.f79), (80, Tryz.f80), (81, Tryz.f81), (82, Tryz.f82), (83, Tryz.f83), (84, Tryz.f84), (85, Tryz.f85), (86, Tryz.f86), (87, Tryz.f87), (88, Tryz.f88), (89, Tryz.f89), (91, Tryz.f91), (92, Tryz.f92), (93, Tryz.f93), (94, Tryz.f94), (95, Tryz.f95), (96, Tryz.f96), (97, Tryz.f97), (98, Tryz.f98), (99, Tryz.f99), (100, Tryz.f100), (101, Tryz.f101), (102, Tryz.f102), (105, Tryz.f105), (106, Tryz.f106), (117, Tryz.f117)]
theorem fok3 : FOk Tryz.prog sh keep (3, Tryz.f3) := ⟨Tryz.func3, by kernel_rfl, by kernel_rfl⟩
theorem fok4 : FOk Tryz.prog sh keep (4, Tryz.f4) := ⟨Tryz.func4, by kernel_rfl, by kernel_rfl⟩
theorem fok5 : FOk Tryz.prog sh keep (5, Tryz.f5) := ⟨Tryz.func5, by kernel_rfl, by kernel_rfl⟩
theorem fok6 : FOk Tryz.prog sh keep (6, Tryz.f6) := ⟨Tryz.func6, by kernel_rfl, by kernel_rfl⟩
theorem fok7 : FOk Tryz.prog sh keep (7, Tryz.f7) := ⟨Tryz.func7, by kernel_rfl, by kernel_rfl⟩
theorem fok8 : FOk Tryz.prog sh keep (8, Tryz.f8) := ⟨Tryz.func8, by kernel_rfl, by kernel_rfl⟩
theorem fok9 : FOk Tryz.prog sh keep (9, Tryz.f9) := ⟨Tryz.func9, by kernel_rfl, by kernel_rfl⟩
theorem fok10 : FOk Tryz.prog sh keep (10, Tryz.f10) := ⟨Tryz.func10, by kernel_rfl, by kernel_rfl⟩
theorem fok11 : FOk Tryz.prog sh keep (11, Tryz.f11) := ⟨Tryz.func11, by kernel_rfl, by kernel_rfl⟩
theorem fok12 : FOk Tryz.prog sh keep (12, Tryz.f12) := ⟨Tryz.func12, by kernel_rfl, by kernel_rfl⟩
theorem fok13 : FOk Tryz.prog sh keep (13, Tryz.f13) := ⟨Tryz.func13, by kernel_rfl, by kernel_rfl⟩
theorem fok14 : FOk Tryz.prog sh keep (14, Tryz.f14) := ⟨Tryz.func14, by kernel_rfl, by kernel_rfl⟩
theorem fok15 : FOk Tryz.prog sh keep (15, Tryz.f15) := ⟨Tryz.func15, by kernel_rfl, by kernel_rfl⟩
theorem fok16 : FOk Tryz.prog sh keep (16, Tryz.f16) := ⟨Tryz.func16, by kernel_rfl, by kernel_rfl⟩
theorem fok17 : FOk Tryz.prog sh keep (17, Tryz.f17) := ⟨Tryz.func17, by kernel_rfl, by kernel_rfl⟩
theorem fok18 : FOk Tryz.prog sh keep (18, Tryz.f18) := ⟨Tryz.func18, by kernel_rfl, by kernel_rfl⟩
theorem fok19 : FOk Tryz.prog sh keep (19, Tryz.f19) := ⟨Tryz.func19, by kernel_rfl, by kernel_rfl⟩
theorem fok20 : FOk Tryz.prog sh keep (20, Tryz.f20) := ⟨Tryz.func20, by kernel_rfl, by kernel_rfl⟩
theorem fok21 : FOk Tryz.prog sh keep (21, Tryz.f21) := ⟨Tryz.func21, by kernel_rfl, by kernel_rfl⟩
theorem fok22 : FOk Tryz.prog sh keep (22, Tryz.f22) := ⟨Tryz.func22, by kernel_rfl, by kernel_rfl⟩
theorem fok23 : FOk Tryz.prog sh keep (23, Tryz.f23) := ⟨Tryz.func23, by kernel_rfl, by kernel_rfl⟩
theorem fok24 : FOk Tryz.prog sh keep (24, Tryz.f24) := ⟨Tryz.func24, by kernel_rfl, by kernel_rfl⟩
theorem fok25 : FOk Tryz.prog sh keep (25, Tryz.f25) := ⟨Tryz.func25, by kernel_rfl, by kernel_rfl⟩
theorem fok26 : FOk Tryz.prog sh keep (26, Tryz.f26) := ⟨Tryz.func26, by kernel_rfl, by kernel_rfl⟩
theorem fok27 : FOk Tryz.prog sh keep (27, Tryz.f27) := ⟨Tryz.func27, by kernel_rfl, by kernel_rfl⟩
theorem fok28 : FOk Tryz.prog sh keep (28, Tryz.f28) := ⟨Tryz.func28, by kernel_rfl, by kernel_rfl⟩
theorem fok29 : FOk Tryz.prog sh keep (29, Tryz.f29) := ⟨Tryz.func29, by kernel_rfl, by kernel_rfl⟩
theorem fok30 : FOk Tryz.prog sh keep (30, Tryz.f30) := ⟨Tryz.func30, by kernel_rfl, by kernel_rfl⟩
theorem fok31 : FOk Tryz.prog sh keep (31, Tryz.f31) := ⟨Tryz.func31, by kernel_rfl, by kernel_rfl⟩
theorem fok32 : FOk Tryz.prog sh keep (32, Tryz.f32) := ⟨Tryz.func32, by kernel_rfl, by kernel_rfl⟩
theorem fok33 : FOk Tryz.prog sh keep (33, Tryz.f33) := ⟨Tryz.func33, by kernel_rfl, by kernel_rfl⟩
theorem fok34 : FOk Tryz.prog sh keep (34, Tryz.f34) := ⟨Tryz.func34, by kernel_rfl, by kernel_rfl⟩
theorem fok35 : FOk Tryz.prog sh keep (35, Tryz.f35) := ⟨Tryz.func35, by kernel_rfl, by kernel_rfl⟩
theorem fok36 : FOk Tryz.prog sh keep (36, Tryz.f36) := ⟨Tryz.func36, by kernel_rfl, by kernel_rfl⟩
theorem fok37 : FOk Tryz.prog sh keep (37, Tryz.f37) := ⟨Tryz.func37, by kernel_rfl, by kernel_rfl⟩
theorem fok38 : FOk Tryz.prog sh keep (38, Tryz.f38) := ⟨Tryz.func38, by kernel_rfl, by kernel_rfl⟩
theorem fok39 : FOk Tryz.prog sh keep (39, Tryz.f39) := ⟨Tryz.func39, by kernel_rfl, by kernel_rfl⟩
theorem fok40 : FOk Tryz.prog sh keep (40, Tryz.f40) := ⟨Tryz.func40, by kernel_rfl, by kernel_rfl⟩
theorem fok41 : FOk Tryz.prog sh keep (41, Tryz.f41) := ⟨Tryz.func41, by kernel_rfl, by kernel_rfl⟩
theorem fok42 : FOk Tryz.prog sh keep (42, Tryz.f42) := ⟨Tryz.func42, by kernel_rfl, by kernel_rfl⟩
theorem fok43 : FOk Tryz.prog sh keep (43, Tryz.f43) := ⟨Tryz.func43, by kernel_rfl, by kernel_rfl⟩
theorem fok44 : FOk Tryz.prog sh keep (44, Tryz.f44) := ⟨Tryz.func44, by kernel_rfl, by kernel_rfl⟩
theorem fok45 : FOk Tryz.prog sh keep (45, Tryz.f45) := ⟨Tryz.func45, by kernel_rfl, by kernel_rfl⟩
theorem fok46 : FOk Tryz.prog sh keep (46, Tryz.f46) := ⟨Tryz.func46, by kernel_rfl, by kernel_rfl⟩
theorem fok47 : FOk Tryz.prog sh keep (47, Tryz.f47) := ⟨Tryz.func47, by kernel_rfl, by kernel_rfl⟩
theorem fok48 : FOk Tryz.prog sh keep (48, Tryz.f48) := ⟨Tryz.func48, by kernel_rfl, by kernel_rfl⟩
theorem fok49 : FOk Tryz.prog sh keep (49, Tryz.f49) := ⟨Tryz.func49, by kernel_rfl, by kernel_rfl⟩
theorem fok50 : FOk Tryz.prog sh keep (50, Tryz.f50) := ⟨Tryz.func50, by kernel_rfl, by kernel_rfl⟩
theorem fok51 : FOk Tryz.prog sh keep (51, Tryz.f51) := ⟨Tryz.func51, by kernel_rfl, by kernel_rfl⟩
theorem fok52 : FOk Tryz.prog sh keep (52, Tryz.f52) := ⟨Tryz.func52, by kernel_rfl, by kernel_rfl⟩
theorem fok53 : FOk Tryz.prog sh keep (53, Tryz.f53) := ⟨Tryz.func53, by kernel_rfl, by kernel_rfl⟩
theorem fok54 : FOk Tryz.prog sh keep (54, Tryz.f54) := ⟨Tryz.func54, by kernel_rfl, by kernel_rfl⟩
theorem fok55 : FOk Tryz.prog sh keep (55, Tryz.f55) := ⟨Tryz.func55, by kernel_rfl, by kernel_rfl⟩
theorem fok56 : FOk Tryz.prog sh keep (56, Tryz.f56) := ⟨Tryz.func56, by kernel_rfl, by kernel_rfl⟩
theorem fok57 : FOk Tryz.prog sh keep (57, Tryz.f57) := ⟨Tryz.func57, by kernel_rfl, by kernel_rfl⟩
theorem fok58 : FOk Tryz.prog sh keep (58, Tryz.f58) := ⟨Tryz.func58, by kernel_rfl, by kernel_rfl⟩
theorem fok59 : FOk Tryz.prog sh keep (59, Tryz.f59) := ⟨Tryz.func59, by kernel_rfl, by kernel_rfl⟩
theorem fok60 : FOk Tryz.prog sh keep (60, Tryz.f60) := ⟨Tryz.func60, by kernel_rfl, by kernel_rfl⟩
theorem fok61 : FOk Tryz.prog sh keep (61, Tryz.f61) := ⟨Tryz.func61, by kernel_rfl, by kernel_rfl⟩
theorem fok62 : FOk Tryz.prog sh keep (62, Tryz.f62) := ⟨Tryz.func62, by kernel_rfl, by kernel_rfl⟩
theorem fok63 : FOk Tryz.prog sh keep (63, Tryz.f63) := ⟨Tryz.func63, by kernel_rfl, by kernel_rfl⟩
theorem fok64 : FOk Tryz.prog sh keep (64, Tryz.f64) := ⟨Tryz.func64, by kernel_rfl, by kernel_rfl⟩
theorem fok65 : FOk Tryz.prog sh keep (65, Tryz.f65) := ⟨Tryz.func65, by kernel_rfl, by kernel_rfl⟩
theorem fok66 : FOk Tryz.prog sh keep (66, Tryz.f66) := ⟨Tryz.func66, by kernel_rfl, by kernel_rfl⟩
theorem fok67 : FOk Tryz.prog sh keep (67, Tryz.f67) := ⟨Tryz.func67, by kernel_rfl, by kernel_rfl⟩
theorem fok68 : FOk Tryz.prog sh keep (68, Tryz.f68) := ⟨Tryz.func68, by kernel_rfl, by kernel_rfl⟩
theorem fok69 : FOk Tryz.prog sh keep (69, Tryz.f69) := ⟨Tryz.func69, by kernel_rfl, by kernel_rfl⟩
theorem fok70 : FOk Tryz.prog sh keep (70, Tryz.f70) := ⟨Tryz.func70, by kernel_rfl, by kernel_rfl⟩
theorem fok71 : FOk Tryz.prog sh keep (71, Tryz.f71) := ⟨Tryz.func71, by kernel_rfl, by kernel_rfl⟩
theorem fok72 : FOk Tryz.prog sh keep (72, Tryz.f72) := ⟨Tryz.func72, by kernel_rfl, by kernel_rfl⟩
theorem fok73 : FOk Tryz.prog sh keep (73, Tryz.f73) := ⟨Tryz.func73, by kernel_rfl, by kernel_rfl⟩
theorem fok74 : FOk Tryz.prog sh keep (74, Tryz.f74) := ⟨Tryz.func74, by kernel_rfl, by kernel_rfl⟩
theorem fok75 : FOk Tryz.prog sh keep (75, Tryz.f75) := ⟨Tryz.func75, by kernel_rfl, by kernel_rfl⟩
theorem fok76 : FOk Tryz.prog sh keep (76, Tryz.f76) := ⟨Tryz.func76, by kernel_rfl, by kernel_rfl⟩
theorem fok77 : FOk Tryz.prog sh keep (77, Tryz.f77) := ⟨Tryz.func77, by kernel_rfl, by kernel_rfl⟩
theorem fok78 : FOk Tryz.prog sh keep (78, Tryz.f78) := ⟨Tryz.func78, by kernel_rfl, by kernel_rfl⟩
theorem fok79 : FOk Tryz.prog sh keep (79, Tryz.f79) := ⟨Tryz.func79, by kernel_rfl, by kernel_rfl⟩
theorem fok80 : FOk Tryz.prog sh keep (80, Tryz.f80) := ⟨Tryz.func80, by kernel_rfl, by kernel_rfl⟩
theorem fok81 : FOk Tryz.prog sh keep (81, Tryz.f81) := ⟨Tryz.func81, by kernel_rfl, by kernel_rfl⟩
theorem fok82 : FOk Tryz.prog sh keep (82, Tryz.f82) := ⟨Tryz.func82, by kernel_rfl, by kernel_rfl⟩
theorem fok83 : FOk Tryz.prog sh keep (83, Tryz.f83) := ⟨Tryz.func83, by kernel_rfl, by kernel_rfl⟩
theorem fok84 : FOk Tryz.prog sh keep (84, Tryz.f84) := ⟨Tryz.func84, by kernel_rfl, by kernel_rfl⟩
theorem fok85 : FOk Tryz.prog sh keep (85, Tryz.f85) := ⟨Tryz.func85, by kernel_rfl, by kernel_rfl⟩
theorem fok86 : FOk Tryz.prog sh keep (86, Tryz.f86) := ⟨Tryz.func86, by kernel_rfl, by kernel_rfl⟩
theorem fok87 : FOk Tryz.prog sh keep (87, Tryz.f87) := ⟨Tryz.func87, by kernel_rfl, by kernel_rfl⟩
theorem fok88 : FOk Tryz.prog sh keep (88, Tryz.f88) := ⟨Tryz.func88, by kernel_rfl, by kernel_rfl⟩
theorem fok89 : FOk Tryz.prog sh keep (89, Tryz.f89) := ⟨Tryz.func89, by kernel_rfl, by kernel_rfl⟩
theorem fok91 : FOk Tryz.prog sh keep (91, Tryz.f91) := ⟨Tryz.func91, by kernel_rfl, by kernel_rfl⟩
theorem fok92 : FOk Tryz.prog sh keep (92, Tryz.f92) := ⟨Tryz.func92, by kernel_rfl, by kernel_rfl⟩
theorem fok93 : FOk Tryz.prog sh keep (93, Tryz.f93) := ⟨Tryz.func93, by kernel_rfl, by kernel_rfl⟩
theorem fok94 : FOk Tryz.prog sh keep (94, Tryz.f94) := ⟨Tryz.func94, by kernel_rfl, by kernel_rfl⟩
theorem fok95 : FOk Tryz.prog sh keep (95, Tryz.f95) := ⟨Tryz.func95, by kernel_rfl, by kernel_rfl⟩
theorem fok96 : FOk Tryz.prog sh keep (96, Tryz.f96) := ⟨Tryz.func96, by kernel_rfl, by kernel_rfl⟩
theorem fok97 : FOk Tryz.prog sh keep (97, Tryz.f97) := ⟨Tryz.func97, by kernel_rfl, by kernel_rfl⟩
theorem fok98 : FOk Tryz.prog sh keep (98, Tryz.f98) := ⟨Tryz.func98, by kernel_rfl, by kernel_rfl⟩
theorem fok99 : FOk Tryz.prog sh keep (99, Tryz.f99) := ⟨Tryz.func99, by kernel_rfl, by kernel_rfl⟩
theorem fok100 : FOk Tryz.prog sh keep (100, Tryz.f100) := ⟨Tryz.func100, by kernel_rfl, by kernel_rfl⟩
theorem fok101 : FOk Tryz.prog sh keep (101, Tryz.f101) := ⟨Tryz.func101, by kernel_rfl, by kernel_rfl⟩
theorem fok102 : FOk Tryz.prog sh keep (102, Tryz.f102) := ⟨Tryz.func102, by kernel_rfl, by kernel_rfl⟩
theorem fok105 : FOk Tryz.prog sh keep (105, Tryz.f105) := ⟨Tryz.func105, by kernel_rfl, by kernel_rfl⟩
theorem fok106 : FOk Tryz.prog sh keep (106, Tryz.f106) := ⟨Tryz.func106, by kernel_rfl, by kernel_rfl⟩
theorem fok117 : FOk Tryz.prog sh keep (117, Tryz.f117) := ⟨Tryz.func117, by kernel_rfl, by kernel_rfl⟩
theorem fokAll : ∀ p ∈ rowsF, FOk Tryz.prog sh keep p :=
  fOk_cons fok3 (fOk_cons fok4 (fOk_cons fok5 (fOk_cons fok6 (fOk_cons fok7 (fOk_cons fok8 (fOk_cons fok9 (fOk_cons fok10 (fOk_cons fok11 (fOk_cons fok12 (fOk_cons fok13 (fOk_cons fok14 (fOk_cons fok15 (fOk_cons fok16 (fOk_cons fok17 (fOk_cons fok18 (fOk_cons fok19 (fOk_cons fok20 (fOk_cons fok21 (fOk_cons fok22 (fOk_cons fok23 (fOk_cons fok24 (fOk_cons fok25 (fOk_cons fok26 (fOk_cons fok27 (fOk_cons fok28 (fOk_cons fok29 (fOk_cons fok30 (fOk_cons fok31 (fOk_cons fok32 (fOk_cons fok33 (fOk_cons fok34 (fOk_cons fok35 (fOk_cons fok36 (fOk_cons fok37 (fOk_cons fok38 (fOk_cons fok39 (fOk_cons fok40 (fOk_cons fok41 (fOk_cons fok42 (fOk_cons fok43 (fOk_cons fok44 (fOk_cons fok45 (fOk_cons fok46 (fOk_cons fok47 (fOk_cons fok48 (fOk_cons fok49 (fOk_cons fok50 (fOk_cons fok51 (fOk_cons fok52 (fOk_cons fok53 (fOk_cons fok54 (fOk_cons fok55 (fOk_cons fok56 (fOk_cons fok57 (fOk_cons fok58 (fOk_cons fok59 (fOk_cons fok60 (fOk_cons fok61 (fOk_cons fok62 (fOk_cons fok63 (fOk_cons fok64 (fOk_cons fok65 (fOk_cons fok66 (fOk_cons fok67 (fOk_cons fok68 (fOk_cons fok69 (fOk_cons fok70 (fOk_cons fok71 (fOk_cons fok72 (fOk_cons fok73 (fOk_cons fok74 (fOk_cons fok75 (fOk_cons fok76 (fOk_cons fok77 (fOk_cons fok78 (fOk_cons fok79 (fOk_cons fok80 (fOk_cons fok81 (fOk_cons fok82 (fOk_cons fok83 (fOk_cons fok84 (fOk_cons fok85 (fOk_cons fok86 (fOk_cons fok87 (fOk_cons fok88 (fOk_cons fok89 (fOk_cons fok91 (fOk_cons fok92 (fOk_cons fok93 (fOk_cons fok94 (fOk_cons fok95 (fOk_cons fok96 (fOk_cons fok97 (fOk_cons fok98 (fOk_cons fok99 (fOk_cons fok100 (fOk_cons fok101 (fOk_cons fok102 (fOk_cons fok105 (fOk_cons fok106 (fOk_cons fok117 fOk_nil)))))))))))))))))))))))))))))))))))))))))))))))))))))))))))))))))))))))))))))))))))))))))))))))))))))
theorem tokAll : rowsT.all (tiR Tryz.prog) = true := by kernel_rfl
noncomputable def F : FuncId → Option Func := findL rowsF
noncomputable def CN0 (L n : Nat) : CF := callF T F sh keep L n
theorem cn0_sound (L n : Nat) : CSound Tryz.prog (CN0 L n) := callF_sound tokAll fokAll (by kernel_rfl) L n
theorem kx0 {L n n' k : Nat} {f : Func} (e : n' = n + 1) (h : F k = some f) (args : List AV) (hp : List Blk) : CN0 L n' k args hp = run T (CN0 L n) sh (keep k) L f args hp := by
  subst e; exact callF_step (F := F) h args hp
theorem cmp_isNaN_int_all0 (L m : Nat) : cmp_isNaN_int_ok L (CN0 L (m + 1)) := by
  have h := cmp_isNaN_int_run L (CN0 L (m + 0))
  simpa only [cmp_isNaN_int_ok, kx0 (L := L) (n := m + 0) (n' := m + 1) (k := 117) (f := Tryz.f117) rfl (by kernel_rfl)] using h
theorem cmp_Compare_int_all0 (L m : Nat) : cmp_Compare_int_ok L (CN0 L (m + 2)) := by
  have h := cmp_Compare_int_run L (CN0 L (m + 1)) (cmp_isNaN_int_all0 L (m + 0))
  simpa only [cmp_Compare_int_ok, kx0 (L := L) (n := m + 1) (n' := m + 2) (k := 106) (f := Tryz.f106) rfl (by kernel_rfl)] using h
theorem cmp_Or_int_all0 (L m : Nat) : cmp_Or_int_ok L (CN0 L (m + 1)) := by
  have h := cmp_Or_int_run L (CN0 L (m + 0))
  simpa only [cmp_Or_int_ok, kx0 (L := L) (n := m + 0) (n' := m + 1) (k := 105) (f := Tryz.f105) rfl (by kernel_rfl)] using h
theorem impl_comparePegs_all0 (L m : Nat) : impl_comparePegs_ok L (CN0 L (m + 3)) := by
  have h := impl_comparePegs_run L (CN0 L (m + 2)) (cmp_Compare_int_all0 L (m + 0)) (cmp_Or_int_all0 L (m + 1))
  simpa only [impl_comparePegs_ok, kx0 (L := L) (n := m + 2) (n' := m + 3) (k := 91) (f := Tryz.f91) rfl (by kernel_rfl)] using h
theorem cmp_holds (p q : Pt) : CN0 10 (0 + 3) 91 [ep p, ep q] [] = some (.int .i64 (ordP p q), []) := by
  have h := impl_comparePegs_all0 10 0 p.x p.y q.x q.y
  rw [cmp_val] at h
  exact h
noncomputable def XF : CF := sortX 90 91 ordP
def isX (f : FuncId) : Bool := Nat.beq f 90
theorem xf_sound : CSound Tryz.prog fun f args hp => bif isX f then XF f args hp else none := by
  have h := sortX_sound (P := Tryz.prog) (ρ := sortPegs_ren) sortPegs sortPegs_agg sortPegs_size (cn0_sound 10 (0 + 3)) (fC := 91) (cf := ordP) cmp_holds swo_ordP tot_ordP ⟨Tryz.f90, Tryz.func90, by kernel_rfl, by kernel_rfl⟩
  intro f args hp res hp' e
  cases hx : isX f with
  | true => simp only [hx, cond_true] at e; exact h f args hp res hp' e
  | false => simp only [hx, cond_false] at e; cases e
noncomputable def CN (L n : Nat) : CF := callN T F XF isX sh keep L n
theorem cn_sound (L n : Nat) : CSound Tryz.prog (CN L n) := callN_sound (tOk_rows tokAll) (by kernel_rfl) (fun f fn h => fokAll _ (findL_mem h)) xf_sound n
theorem slices_SortFunc_impl_Peg_impl_Peg_all (L m : Nat) : slices_SortFunc_impl_Peg_impl_Peg_ok L (CN L (m + 1)) := by
  intro c x l hx
  have key := callX_ext (T := T) (F := F) (X := XF) (isX := isX) (sh := sh) (keep := keep) (L := L) (n := m) (f := 90) rfl [.own 0 2 none c, .fn 91 [] []] [.rows .live 2 x]
  exact key.trans (sortX_all c x l hx)
theorem kx {L n n' k : Nat} {f : Func} (e : n' = n + 1) (hx : isX k = false) (h : F k = some f) (args : List AV) (hp : List Blk) : CN L n' k args hp = run T (CN L n) sh (keep k) L f args hp := by
  subst e; exact callX_step (F := F) hx h args hp
theorem laws_big_all (L m : Nat) : laws_big_ok L (CN L (m + 1)) := by
  have h := laws_big_run L (CN L (m + 0))
  simpa only [laws_big_ok, kx (L := L) (n := m + 0) (n' := m + 1) (k := 4) (f := Tryz.f4) rfl rfl (by kernel_rfl)] using h
theorem spec_l1Cur_next_all (L m : Nat) : spec_l1Cur_next_ok L (CN L (m + 1)) := by
  have h := spec_l1Cur_next_run L (CN L (m + 0))
  simpa only [spec_l1Cur_next_ok, kx (L := L) (n := m + 0) (n' := m + 1) (k := 93) (f := Tryz.f93) rfl rfl (by kernel_rfl)] using h
theorem spec_l1Cur_pick_all (L m : Nat) : spec_l1Cur_pick_ok L (CN L (m + 2)) := by
  have h := spec_l1Cur_pick_run L (CN L (m + 1)) (spec_l1Cur_next_all L (m + 0))
  simpa only [spec_l1Cur_pick_ok, kx (L := L) (n := m + 1) (n' := m + 2) (k := 60) (f := Tryz.f60) rfl rfl (by kernel_rfl)] using h
theorem spec_l1Cur_one_all (L m : Nat) : spec_l1Cur_one_ok L (CN L (m + 3)) := by
  have h := spec_l1Cur_one_run L (CN L (m + 2)) (spec_l1Cur_pick_all L (m + 0))
  simpa only [spec_l1Cur_one_ok, kx (L := L) (n := m + 2) (n' := m + 3) (k := 29) (f := Tryz.f29) rfl rfl (by kernel_rfl)] using h
theorem spec_l1Cur_surePeg_all (L m : Nat) : spec_l1Cur_surePeg_ok L (CN L (m + 3)) := by
  have h := spec_l1Cur_surePeg_run L (CN L (m + 2)) (spec_l1Cur_pick_all L (m + 0))
  simpa only [spec_l1Cur_surePeg_ok, kx (L := L) (n := m + 2) (n' := m + 3) (k := 61) (f := Tryz.f61) rfl rfl (by kernel_rfl)] using h
theorem spec_l1In_all (L m : Nat) : spec_l1In_ok L (CN L (m + 1)) := by
  have h := spec_l1In_run L (CN L (m + 0))
  simpa only [spec_l1In_ok, kx (L := L) (n := m + 0) (n' := m + 1) (k := 59) (f := Tryz.f59) rfl rfl (by kernel_rfl)] using h
theorem spec_pgIs_all (L m : Nat) : spec_pgIs_ok L (CN L (m + 2)) := by
  have h := spec_pgIs_run L (CN L (m + 1)) (spec_l1In_all L (m + 0))
  simpa only [spec_pgIs_ok, kx (L := L) (n := m + 1) (n' := m + 2) (k := 71) (f := Tryz.f71) rfl rfl (by kernel_rfl)] using h
theorem spec_pgTurn_all (L m : Nat) : spec_pgTurn_ok L (CN L (m + 1)) := by
  have h := spec_pgTurn_run L (CN L (m + 0))
  simpa only [spec_pgTurn_ok, kx (L := L) (n := m + 0) (n' := m + 1) (k := 72) (f := Tryz.f72) rfl rfl (by kernel_rfl)] using h
theorem spec_pgOn_all (L m : Nat) : spec_pgOn_ok L (CN L (m + 2)) := by
  have h := spec_pgOn_run L (CN L (m + 1)) (spec_pgTurn_all L (m + 0))
  simpa only [spec_pgOn_ok, kx (L := L) (n := m + 1) (n' := m + 2) (k := 101) (f := Tryz.f101) rfl rfl (by kernel_rfl)] using h
theorem spec_l1Sign_all (L m : Nat) : spec_l1Sign_ok L (CN L (m + 1)) := by
  have h := spec_l1Sign_run L (CN L (m + 0))
  simpa only [spec_l1Sign_ok, kx (L := L) (n := m + 0) (n' := m + 1) (k := 102) (f := Tryz.f102) rfl rfl (by kernel_rfl)] using h
theorem spec_pgMeet_all (L m : Nat) : spec_pgMeet_ok L (CN L (m + 3)) := by
  have h := spec_pgMeet_run L (CN L (m + 2)) (spec_pgTurn_all L (m + 1)) (spec_pgOn_all L (m + 0)) (spec_l1Sign_all L (m + 1))
  simpa only [spec_pgMeet_ok, kx (L := L) (n := m + 2) (n' := m + 3) (k := 73) (f := Tryz.f73) rfl rfl (by kernel_rfl)] using h
theorem spec_pgGood_all (L m : Nat) : spec_pgGood_ok L (CN L (m + 4)) := by
  have h := spec_pgGood_run L (CN L (m + 3)) (spec_l1In_all L (m + 2)) (spec_pgIs_all L (m + 1)) (spec_pgTurn_all L (m + 2)) (spec_pgMeet_all L (m + 0))
  simpa only [spec_pgGood_ok, kx (L := L) (n := m + 3) (n' := m + 4) (k := 34) (f := Tryz.f34) rfl rfl (by kernel_rfl)] using h
theorem spec_pgBack_all (L m : Nat) : spec_pgBack_ok L (CN L (m + 1)) := by
  have h := spec_pgBack_run L (CN L (m + 0))
  simpa only [spec_pgBack_ok, kx (L := L) (n := m + 0) (n' := m + 1) (k := 94) (f := Tryz.f94) rfl rfl (by kernel_rfl)] using h
theorem spec_l1Cur_surePolygon_all (L m : Nat) : spec_l1Cur_surePolygon_ok L (CN L (m + 5)) := by
  have h := spec_l1Cur_surePolygon_run L (CN L (m + 4)) (spec_l1Cur_pick_all L (m + 2)) (spec_l1Cur_one_all L (m + 1)) (spec_l1Cur_surePeg_all L (m + 1)) (spec_pgGood_all L (m + 0)) (spec_pgBack_all L (m + 3))
  simpa only [spec_l1Cur_surePolygon_ok, kx (L := L) (n := m + 4) (n' := m + 5) (k := 62) (f := Tryz.f62) rfl rfl (by kernel_rfl)] using h
theorem spec_l1Cur_among_v2_all (L m : Nat) : spec_l1Cur_among_v2_ok L (CN L (m + 3)) := by
  have h := spec_l1Cur_among_v2_run L (CN L (m + 2)) (spec_l1Cur_pick_all L (m + 0))
  simpa only [spec_l1Cur_among_v2_ok, kx (L := L) (n := m + 2) (n' := m + 3) (k := 58) (f := Tryz.f58) rfl rfl (by kernel_rfl)] using h
theorem spec_l1Cur_peg_all (L m : Nat) : spec_l1Cur_peg_ok L (CN L (m + 4)) := by
  have h := spec_l1Cur_peg_run L (CN L (m + 3)) (spec_l1Cur_one_all L (m + 0)) (spec_l1Cur_surePeg_all L (m + 0)) (spec_l1Cur_among_v2_all L (m + 0))
  simpa only [spec_l1Cur_peg_ok, kx (L := L) (n := m + 3) (n' := m + 4) (k := 63) (f := Tryz.f63) rfl rfl (by kernel_rfl)] using h
theorem spec_l1Cur_polygon_all (L m : Nat) : spec_l1Cur_polygon_ok L (CN L (m + 6)) := by
  have h := spec_l1Cur_polygon_run L (CN L (m + 5)) (spec_l1Cur_pick_all L (m + 3)) (spec_l1Cur_surePolygon_all L (m + 0)) (spec_l1Cur_peg_all L (m + 1))
  simpa only [spec_l1Cur_polygon_ok, kx (L := L) (n := m + 5) (n' := m + 6) (k := 31) (f := Tryz.f31) rfl rfl (by kernel_rfl)] using h
theorem spec_l1Cur_three_all (L m : Nat) : spec_l1Cur_three_ok L (CN L (m + 7)) := by
  have h := spec_l1Cur_three_run L (CN L (m + 6)) (spec_l1Cur_pick_all L (m + 4)) (spec_l1Cur_one_all L (m + 3)) (spec_l1Cur_surePeg_all L (m + 3)) (spec_l1Cur_polygon_all L (m + 0))
  simpa only [spec_l1Cur_three_ok, kx (L := L) (n := m + 6) (n' := m + 7) (k := 30) (f := Tryz.f30) rfl rfl (by kernel_rfl)] using h
theorem spec_DrawLeastWidth_all (L m : Nat) : spec_DrawLeastWidth_ok L (CN L (m + 8)) := by
  have h := spec_DrawLeastWidth_run L (CN L (m + 7)) (spec_l1Cur_one_all L (m + 4)) (spec_l1Cur_polygon_all L (m + 1)) (spec_l1Cur_three_all L (m + 0))
  simpa only [spec_DrawLeastWidth_ok, kx (L := L) (n := m + 7) (n' := m + 8) (k := 5) (f := Tryz.f5) rfl rfl (by kernel_rfl)] using h
theorem impl_within_all (L m : Nat) : impl_within_ok L (CN L (m + 1)) := by
  have h := impl_within_run L (CN L (m + 0))
  simpa only [impl_within_ok, kx (L := L) (n := m + 0) (n' := m + 1) (k := 43) (f := Tryz.f43) rfl rfl (by kernel_rfl)] using h
theorem impl_IsPeg_all (L m : Nat) : impl_IsPeg_ok L (CN L (m + 2)) := by
  have h := impl_IsPeg_run L (CN L (m + 1)) (impl_within_all L (m + 0))
  simpa only [impl_IsPeg_ok, kx (L := L) (n := m + 1) (n' := m + 2) (k := 97) (f := Tryz.f97) rfl rfl (by kernel_rfl)] using h
theorem impl_arePegs_1_all (L m : Nat) : impl_arePegs_1_ok L (CN L (m + 3)) := by
  have h := impl_arePegs_1_run L (CN L (m + 2)) (impl_IsPeg_all L (m + 0))
  simpa only [impl_arePegs_1_ok, kx (L := L) (n := m + 2) (n' := m + 3) (k := 96) (f := Tryz.f96) rfl rfl (by kernel_rfl)] using h
theorem impl_value_all (L m : Nat) : impl_value_ok L (CN L (m + 1)) := by
  have h := impl_value_run L (CN L (m + 0))
  simpa only [impl_value_ok, kx (L := L) (n := m + 0) (n' := m + 1) (k := 49) (f := Tryz.f49) rfl rfl (by kernel_rfl)] using h
theorem impl_extent_all (L m : Nat) : impl_extent_ok L (CN L (m + 2)) := by
  have h := impl_extent_run L (CN L (m + 1)) (impl_value_all L (m + 0))
  simpa only [impl_extent_ok, kx (L := L) (n := m + 1) (n' := m + 2) (k := 46) (f := Tryz.f46) rfl rfl (by kernel_rfl)] using h
theorem impl_width_all (L m : Nat) : impl_width_ok L (CN L (m + 3)) := by
  have h := impl_width_run L (CN L (m + 2)) (impl_extent_all L (m + 0))
  simpa only [impl_width_ok, kx (L := L) (n := m + 2) (n' := m + 3) (k := 42) (f := Tryz.f42) rfl rfl (by kernel_rfl)] using h
theorem impl_least_1_v2_all (L m : Nat) : impl_least_1_v2_ok L (CN L (m + 4)) := by
  have h := impl_least_1_v2_run L (CN L (m + 3)) (impl_width_all L (m + 0))
  simpa only [impl_least_1_v2_ok, kx (L := L) (n := m + 3) (n' := m + 4) (k := 70) (f := Tryz.f70) rfl rfl (by kernel_rfl)] using h
theorem slices_IndexFunc_impl_Peg_impl_Peg_arePegs_all (L m : Nat) : slices_IndexFunc_impl_Peg_impl_Peg_arePegs_ok L (CN L (m + 4)) := by
  have h := slices_IndexFunc_impl_Peg_impl_Peg_arePegs_run L (CN L (m + 3)) (impl_arePegs_1_all L (m + 0))
  simpa only [slices_IndexFunc_impl_Peg_impl_Peg_arePegs_ok, kx (L := L) (n := m + 3) (n' := m + 4) (k := 100) (f := Tryz.f100) rfl rfl (by kernel_rfl)] using h
theorem slices_IndexFunc_impl_Peg_impl_Peg_impl_least_1_all (L m : Nat) : slices_IndexFunc_impl_Peg_impl_Peg_impl_least_1_ok L (CN L (m + 5)) := by
  have h := slices_IndexFunc_impl_Peg_impl_Peg_impl_least_1_run L (CN L (m + 4)) (impl_least_1_v2_all L (m + 0))
  simpa only [slices_IndexFunc_impl_Peg_impl_Peg_impl_least_1_ok, kx (L := L) (n := m + 4) (n' := m + 5) (k := 100) (f := Tryz.f100) rfl rfl (by kernel_rfl)] using h
theorem slices_ContainsFunc_impl_Peg_impl_Peg_arePegs_all (L m : Nat) : slices_ContainsFunc_impl_Peg_impl_Peg_arePegs_ok L (CN L (m + 5)) := by
  have h := slices_ContainsFunc_impl_Peg_impl_Peg_arePegs_run L (CN L (m + 4)) (slices_IndexFunc_impl_Peg_impl_Peg_arePegs_all L (m + 0))
  simpa only [slices_ContainsFunc_impl_Peg_impl_Peg_arePegs_ok, kx (L := L) (n := m + 4) (n' := m + 5) (k := 95) (f := Tryz.f95) rfl rfl (by kernel_rfl)] using h
theorem impl_arePegs_all (L m : Nat) : impl_arePegs_ok L (CN L (m + 6)) := by
  have h := impl_arePegs_run L (CN L (m + 5)) (slices_ContainsFunc_impl_Peg_impl_Peg_arePegs_all L (m + 0))
  simpa only [impl_arePegs_ok, kx (L := L) (n := m + 5) (n' := m + 6) (k := 64) (f := Tryz.f64) rfl rfl (by kernel_rfl)] using h
theorem slices_Index_impl_Peg_impl_Peg_all (L m : Nat) : slices_Index_impl_Peg_impl_Peg_ok L (CN L (m + 1)) := by
  have h := slices_Index_impl_Peg_impl_Peg_run L (CN L (m + 0))
  simpa only [slices_Index_impl_Peg_impl_Peg_ok, kx (L := L) (n := m + 0) (n' := m + 1) (k := 98) (f := Tryz.f98) rfl rfl (by kernel_rfl)] using h
theorem slices_Contains_impl_Peg_impl_Peg_all (L m : Nat) : slices_Contains_impl_Peg_impl_Peg_ok L (CN L (m + 2)) := by
  have h := slices_Contains_impl_Peg_impl_Peg_run L (CN L (m + 1)) (slices_Index_impl_Peg_impl_Peg_all L (m + 0))
  simpa only [slices_Contains_impl_Peg_impl_Peg_ok, kx (L := L) (n := m + 1) (n' := m + 2) (k := 65) (f := Tryz.f65) rfl rfl (by kernel_rfl)] using h
theorem impl_at_all (L m : Nat) : impl_at_ok L (CN L (m + 1)) := by
  have h := impl_at_run L (CN L (m + 0))
  simpa only [impl_at_ok, kx (L := L) (n := m + 0) (n' := m + 1) (k := 67) (f := Tryz.f67) rfl rfl (by kernel_rfl)] using h
theorem impl_Peg_less_all (L m : Nat) : impl_Peg_less_ok L (CN L (m + 1)) := by
  have h := impl_Peg_less_run L (CN L (m + 0))
  simpa only [impl_Peg_less_ok, kx (L := L) (n := m + 0) (n' := m + 1) (k := 82) (f := Tryz.f82) rfl rfl (by kernel_rfl)] using h
theorem impl_cross_all (L m : Nat) : impl_cross_ok L (CN L (m + 1)) := by
  have h := impl_cross_run L (CN L (m + 0))
  simpa only [impl_cross_ok, kx (L := L) (n := m + 0) (n' := m + 1) (k := 83) (f := Tryz.f83) rfl rfl (by kernel_rfl)] using h
theorem impl_turn_all (L m : Nat) : impl_turn_ok L (CN L (m + 2)) := by
  have h := impl_turn_run L (CN L (m + 1)) (impl_Peg_less_all L (m + 0)) (impl_cross_all L (m + 0))
  simpa only [impl_turn_ok, kx (L := L) (n := m + 1) (n' := m + 2) (k := 66) (f := Tryz.f66) rfl rfl (by kernel_rfl)] using h
theorem impl_sign_all (L m : Nat) : impl_sign_ok L (CN L (m + 1)) := by
  have h := impl_sign_run L (CN L (m + 0))
  simpa only [impl_sign_ok, kx (L := L) (n := m + 0) (n' := m + 1) (k := 99) (f := Tryz.f99) rfl rfl (by kernel_rfl)] using h
theorem impl_isOn_all (L m : Nat) : impl_isOn_ok L (CN L (m + 3)) := by
  have h := impl_isOn_run L (CN L (m + 2)) (impl_within_all L (m + 1)) (impl_turn_all L (m + 0))
  simpa only [impl_isOn_ok, kx (L := L) (n := m + 2) (n' := m + 3) (k := 86) (f := Tryz.f86) rfl rfl (by kernel_rfl)] using h
theorem impl_meet_all (L m : Nat) : impl_meet_ok L (CN L (m + 4)) := by
  have h := impl_meet_run L (CN L (m + 3)) (impl_turn_all L (m + 1)) (impl_sign_all L (m + 2)) (impl_isOn_all L (m + 0))
  simpa only [impl_meet_ok, kx (L := L) (n := m + 3) (n' := m + 4) (k := 68) (f := Tryz.f68) rfl rfl (by kernel_rfl)] using h
theorem impl_IsPolygon_all (L m : Nat) : impl_IsPolygon_ok L (CN L (m + 7)) := by
  have h := impl_IsPolygon_run L (CN L (m + 6)) (impl_within_all L (m + 5)) (impl_arePegs_all L (m + 0)) (slices_Contains_impl_Peg_impl_Peg_all L (m + 4)) (impl_at_all L (m + 5)) (impl_turn_all L (m + 4)) (impl_meet_all L (m + 2))
  simpa only [impl_IsPolygon_ok, kx (L := L) (n := m + 6) (n' := m + 7) (k := 32) (f := Tryz.f32) rfl rfl (by kernel_rfl)] using h
theorem impl_size_all (L m : Nat) : impl_size_ok L (CN L (m + 1)) := by
  have h := impl_size_run L (CN L (m + 0))
  simpa only [impl_size_ok, kx (L := L) (n := m + 0) (n' := m + 1) (k := 75) (f := Tryz.f75) rfl rfl (by kernel_rfl)] using h
theorem impl_divisor_all (L m : Nat) : impl_divisor_ok L (CN L (m + 2)) := by
  have h := impl_divisor_run L (CN L (m + 1)) (impl_size_all L (m + 0))
  simpa only [impl_divisor_ok, kx (L := L) (n := m + 1) (n' := m + 2) (k := 84) (f := Tryz.f84) rfl rfl (by kernel_rfl)] using h
theorem slices_Clone_impl_Peg_impl_Peg_all (L m : Nat) : slices_Clone_impl_Peg_impl_Peg_ok L (CN L (m + 1)) := by
  have h := slices_Clone_impl_Peg_impl_Peg_run L (CN L (m + 0))
  simpa only [slices_Clone_impl_Peg_impl_Peg_ok, kx (L := L) (n := m + 0) (n' := m + 1) (k := 89) (f := Tryz.f89) rfl rfl (by kernel_rfl)] using h
theorem cmp_isNaN_int_all (L m : Nat) : cmp_isNaN_int_ok L (CN L (m + 1)) := by
  have h := cmp_isNaN_int_run L (CN L (m + 0))
  simpa only [cmp_isNaN_int_ok, kx (L := L) (n := m + 0) (n' := m + 1) (k := 117) (f := Tryz.f117) rfl rfl (by kernel_rfl)] using h
theorem cmp_Compare_int_all (L m : Nat) : cmp_Compare_int_ok L (CN L (m + 2)) := by
  have h := cmp_Compare_int_run L (CN L (m + 1)) (cmp_isNaN_int_all L (m + 0))
  simpa only [cmp_Compare_int_ok, kx (L := L) (n := m + 1) (n' := m + 2) (k := 106) (f := Tryz.f106) rfl rfl (by kernel_rfl)] using h
theorem cmp_Or_int_all (L m : Nat) : cmp_Or_int_ok L (CN L (m + 1)) := by
  have h := cmp_Or_int_run L (CN L (m + 0))
  simpa only [cmp_Or_int_ok, kx (L := L) (n := m + 0) (n' := m + 1) (k := 105) (f := Tryz.f105) rfl rfl (by kernel_rfl)] using h
theorem impl_comparePegs_all (L m : Nat) : impl_comparePegs_ok L (CN L (m + 3)) := by
  have h := impl_comparePegs_run L (CN L (m + 2)) (cmp_Compare_int_all L (m + 0)) (cmp_Or_int_all L (m + 1))
  simpa only [impl_comparePegs_ok, kx (L := L) (n := m + 2) (n' := m + 3) (k := 91) (f := Tryz.f91) rfl rfl (by kernel_rfl)] using h
theorem impl_sorted_all (L m : Nat) : impl_sorted_ok L (CN L (m + 2)) := by
  have h := impl_sorted_run L (CN L (m + 1)) (slices_Clone_impl_Peg_impl_Peg_all L (m + 0)) (slices_SortFunc_impl_Peg_impl_Peg_all L (m + 0))
  simpa only [impl_sorted_ok, kx (L := L) (n := m + 1) (n' := m + 2) (k := 54) (f := Tryz.f54) rfl rfl (by kernel_rfl)] using h
theorem impl_directions_all (L m : Nat) : impl_directions_ok L (CN L (m + 4)) := by
  have h := impl_directions_run L (CN L (m + 3)) (impl_width_all L (m + 0)) (impl_Peg_less_all L (m + 2)) (impl_cross_all L (m + 2)) (impl_divisor_all L (m + 1)) (impl_sorted_all L (m + 1))
  simpa only [impl_directions_ok, kx (L := L) (n := m + 3) (n' := m + 4) (k := 44) (f := Tryz.f44) rfl rfl (by kernel_rfl)] using h
theorem slices_DeleteFunc_impl_Peg_impl_Peg_least_all (L m : Nat) : slices_DeleteFunc_impl_Peg_impl_Peg_least_ok L (CN L (m + 6)) := by
  have h := slices_DeleteFunc_impl_Peg_impl_Peg_least_run L (CN L (m + 5)) (impl_least_1_v2_all L (m + 1)) (slices_IndexFunc_impl_Peg_impl_Peg_impl_least_1_all L (m + 0))
  simpa only [slices_DeleteFunc_impl_Peg_impl_Peg_least_ok, kx (L := L) (n := m + 5) (n' := m + 6) (k := 69) (f := Tryz.f69) rfl rfl (by kernel_rfl)] using h
theorem impl_least_all (L m : Nat) : impl_least_ok L (CN L (m + 7)) := by
  have h := impl_least_run L (CN L (m + 6)) (impl_width_all L (m + 3)) (impl_directions_all L (m + 2)) (slices_DeleteFunc_impl_Peg_impl_Peg_least_all L (m + 0))
  simpa only [impl_least_ok, kx (L := L) (n := m + 6) (n' := m + 7) (k := 33) (f := Tryz.f33) rfl rfl (by kernel_rfl)] using h
theorem impl_LeastWidth_all (L m : Nat) : impl_LeastWidth_ok L (CN L (m + 8)) := by
  have h := impl_LeastWidth_run L (CN L (m + 7)) (impl_IsPolygon_all L (m + 0)) (impl_least_all L (m + 0))
  simpa only [impl_LeastWidth_ok, kx (L := L) (n := m + 7) (n' := m + 8) (k := 6) (f := Tryz.f6) rfl rfl (by kernel_rfl)] using h
theorem spec_l1Most_all (L m : Nat) : spec_l1Most_ok L (CN L (m + 1)) := by
  have h := spec_l1Most_run L (CN L (m + 0))
  simpa only [spec_l1Most_ok, kx (L := L) (n := m + 0) (n' := m + 1) (k := 53) (f := Tryz.f53) rfl rfl (by kernel_rfl)] using h
theorem spec_l1Abs_all (L m : Nat) : spec_l1Abs_ok L (CN L (m + 2)) := by
  have h := spec_l1Abs_run L (CN L (m + 1)) (spec_l1Most_all L (m + 0))
  simpa only [spec_l1Abs_ok, kx (L := L) (n := m + 1) (n' := m + 2) (k := 78) (f := Tryz.f78) rfl rfl (by kernel_rfl)] using h
theorem spec_pgCommon_all (L m : Nat) : spec_pgCommon_ok L (CN L (m + 3)) := by
  have h := spec_pgCommon_run L (CN L (m + 2)) (spec_l1Abs_all L (m + 0))
  simpa only [spec_pgCommon_ok, kx (L := L) (n := m + 2) (n' := m + 3) (k := 74) (f := Tryz.f74) rfl rfl (by kernel_rfl)] using h
theorem spec_l1Least_all (L m : Nat) : spec_l1Least_ok L (CN L (m + 1)) := by
  have h := spec_l1Least_run L (CN L (m + 0))
  simpa only [spec_l1Least_ok, kx (L := L) (n := m + 0) (n' := m + 1) (k := 92) (f := Tryz.f92) rfl rfl (by kernel_rfl)] using h
theorem spec_wiRange_all (L m : Nat) : spec_wiRange_ok L (CN L (m + 2)) := by
  have h := spec_wiRange_run L (CN L (m + 1)) (spec_l1Most_all L (m + 0)) (spec_l1Least_all L (m + 0))
  simpa only [spec_wiRange_ok, kx (L := L) (n := m + 1) (n' := m + 2) (k := 55) (f := Tryz.f55) rfl rfl (by kernel_rfl)] using h
theorem spec_wiWidth_all (L m : Nat) : spec_wiWidth_ok L (CN L (m + 3)) := by
  have h := spec_wiWidth_run L (CN L (m + 2)) (spec_wiRange_all L (m + 0))
  simpa only [spec_wiWidth_ok, kx (L := L) (n := m + 2) (n' := m + 3) (k := 57) (f := Tryz.f57) rfl rfl (by kernel_rfl)] using h
theorem spec_wiAll_all (L m : Nat) : spec_wiAll_ok L (CN L (m + 4)) := by
  have h := spec_wiAll_run L (CN L (m + 3)) (spec_pgCommon_all L (m + 0)) (spec_wiWidth_all L (m + 0))
  simpa only [spec_wiAll_ok, kx (L := L) (n := m + 3) (n' := m + 4) (k := 36) (f := Tryz.f36) rfl rfl (by kernel_rfl)] using h
theorem spec_wiLeast_all (L m : Nat) : spec_wiLeast_ok L (CN L (m + 5)) := by
  have h := spec_wiLeast_run L (CN L (m + 4)) (spec_wiAll_all L (m + 0))
  simpa only [spec_wiLeast_ok, kx (L := L) (n := m + 4) (n' := m + 5) (k := 35) (f := Tryz.f35) rfl rfl (by kernel_rfl)] using h
theorem spec_LeastWidth_all (L m : Nat) : spec_LeastWidth_ok L (CN L (m + 6)) := by
  have h := spec_LeastWidth_run L (CN L (m + 5)) (spec_pgGood_all L (m + 1)) (spec_wiLeast_all L (m + 0))
  simpa only [spec_LeastWidth_ok, kx (L := L) (n := m + 5) (n' := m + 6) (k := 7) (f := Tryz.f7) rfl rfl (by kernel_rfl)] using h
theorem impl_DirectionsOfWidth_all (L m : Nat) : impl_DirectionsOfWidth_ok L (CN L (m + 8)) := by
  have h := impl_DirectionsOfWidth_run L (CN L (m + 7)) (impl_IsPolygon_all L (m + 0)) (impl_least_all L (m + 0))
  simpa only [impl_DirectionsOfWidth_ok, kx (L := L) (n := m + 7) (n' := m + 8) (k := 8) (f := Tryz.f8) rfl rfl (by kernel_rfl)] using h
theorem spec_DirectionsOfWidth_all (L m : Nat) : spec_DirectionsOfWidth_ok L (CN L (m + 6)) := by
  have h := spec_DirectionsOfWidth_run L (CN L (m + 5)) (spec_pgGood_all L (m + 1)) (spec_wiLeast_all L (m + 0))
  simpa only [spec_DirectionsOfWidth_ok, kx (L := L) (n := m + 5) (n' := m + 6) (k := 9) (f := Tryz.f9) rfl rfl (by kernel_rfl)] using h
theorem impl_IsThin_all (L m : Nat) : impl_IsThin_ok L (CN L (m + 9)) := by
  have h := impl_IsThin_run L (CN L (m + 8)) (impl_LeastWidth_all L (m + 0))
  simpa only [impl_IsThin_ok, kx (L := L) (n := m + 8) (n' := m + 9) (k := 10) (f := Tryz.f10) rfl rfl (by kernel_rfl)] using h
theorem spec_IsThin_all (L m : Nat) : spec_IsThin_ok L (CN L (m + 5)) := by
  have h := spec_IsThin_run L (CN L (m + 4)) (spec_pgGood_all L (m + 0)) (spec_wiAll_all L (m + 0))
  simpa only [spec_IsThin_ok, kx (L := L) (n := m + 4) (n' := m + 5) (k := 11) (f := Tryz.f11) rfl rfl (by kernel_rfl)] using h
theorem impl_twice_all (L m : Nat) : impl_twice_ok L (CN L (m + 2)) := by
  have h := impl_twice_run L (CN L (m + 1)) (impl_at_all L (m + 0)) (impl_cross_all L (m + 0))
  simpa only [impl_twice_ok, kx (L := L) (n := m + 1) (n' := m + 2) (k := 76) (f := Tryz.f76) rfl rfl (by kernel_rfl)] using h
theorem impl_steps_all (L m : Nat) : impl_steps_ok L (CN L (m + 3)) := by
  have h := impl_steps_run L (CN L (m + 2)) (impl_divisor_all L (m + 0))
  simpa only [impl_steps_ok, kx (L := L) (n := m + 2) (n' := m + 3) (k := 77) (f := Tryz.f77) rfl rfl (by kernel_rfl)] using h
theorem impl_around_all (L m : Nat) : impl_around_ok L (CN L (m + 4)) := by
  have h := impl_around_run L (CN L (m + 3)) (impl_at_all L (m + 2)) (impl_steps_all L (m + 0))
  simpa only [impl_around_ok, kx (L := L) (n := m + 3) (n' := m + 4) (k := 38) (f := Tryz.f38) rfl rfl (by kernel_rfl)] using h
theorem impl_inner_all (L m : Nat) : impl_inner_ok L (CN L (m + 5)) := by
  have h := impl_inner_run L (CN L (m + 4)) (impl_size_all L (m + 3)) (impl_twice_all L (m + 2)) (impl_around_all L (m + 0))
  simpa only [impl_inner_ok, kx (L := L) (n := m + 4) (n' := m + 5) (k := 37) (f := Tryz.f37) rfl rfl (by kernel_rfl)] using h
theorem impl_PegsInAll_all (L m : Nat) : impl_PegsInAll_ok L (CN L (m + 8)) := by
  have h := impl_PegsInAll_run L (CN L (m + 7)) (impl_IsPolygon_all L (m + 0)) (impl_around_all L (m + 3)) (impl_inner_all L (m + 2))
  simpa only [impl_PegsInAll_ok, kx (L := L) (n := m + 7) (n' := m + 8) (k := 12) (f := Tryz.f12) rfl rfl (by kernel_rfl)] using h
theorem spec_pgArea_all (L m : Nat) : spec_pgArea_ok L (CN L (m + 2)) := by
  have h := spec_pgArea_run L (CN L (m + 1)) (spec_pgTurn_all L (m + 0))
  simpa only [spec_pgArea_ok, kx (L := L) (n := m + 1) (n' := m + 2) (k := 79) (f := Tryz.f79) rfl rfl (by kernel_rfl)] using h
theorem spec_pgStep_all (L m : Nat) : spec_pgStep_ok L (CN L (m + 4)) := by
  have h := spec_pgStep_run L (CN L (m + 3)) (spec_pgCommon_all L (m + 0))
  simpa only [spec_pgStep_ok, kx (L := L) (n := m + 3) (n' := m + 4) (k := 80) (f := Tryz.f80) rfl rfl (by kernel_rfl)] using h
theorem spec_pgRound_all (L m : Nat) : spec_pgRound_ok L (CN L (m + 5)) := by
  have h := spec_pgRound_run L (CN L (m + 4)) (spec_pgStep_all L (m + 0))
  simpa only [spec_pgRound_ok, kx (L := L) (n := m + 4) (n' := m + 5) (k := 40) (f := Tryz.f40) rfl rfl (by kernel_rfl)] using h
theorem spec_pgInside_all (L m : Nat) : spec_pgInside_ok L (CN L (m + 6)) := by
  have h := spec_pgInside_run L (CN L (m + 5)) (spec_l1Abs_all L (m + 3)) (spec_pgArea_all L (m + 3)) (spec_pgRound_all L (m + 0))
  simpa only [spec_pgInside_ok, kx (L := L) (n := m + 5) (n' := m + 6) (k := 39) (f := Tryz.f39) rfl rfl (by kernel_rfl)] using h
theorem spec_PegsInAll_all (L m : Nat) : spec_PegsInAll_ok L (CN L (m + 7)) := by
  have h := spec_PegsInAll_run L (CN L (m + 6)) (spec_pgGood_all L (m + 2)) (spec_pgRound_all L (m + 1)) (spec_pgInside_all L (m + 0))
  simpa only [spec_PegsInAll_ok, kx (L := L) (n := m + 6) (n' := m + 7) (k := 13) (f := Tryz.f13) rfl rfl (by kernel_rfl)] using h
theorem laws_zSame_all (L m : Nat) : laws_zSame_ok L (CN L (m + 1)) := by
  have h := laws_zSame_run L (CN L (m + 0))
  simpa only [laws_zSame_ok, kx (L := L) (n := m + 0) (n' := m + 1) (k := 27) (f := Tryz.f27) rfl rfl (by kernel_rfl)] using h
theorem laws_zRows_all (L m : Nat) : laws_zRows_ok L (CN L (m + 2)) := by
  have h := laws_zRows_run L (CN L (m + 1)) (laws_zSame_all L (m + 0))
  simpa only [laws_zRows_ok, kx (L := L) (n := m + 1) (n' := m + 2) (k := 14) (f := Tryz.f14) rfl rfl (by kernel_rfl)] using h
theorem impl_isDirection_all (L m : Nat) : impl_isDirection_ok L (CN L (m + 3)) := by
  have h := impl_isDirection_run L (CN L (m + 2)) (impl_within_all L (m + 1)) (impl_divisor_all L (m + 0))
  simpa only [impl_isDirection_ok, kx (L := L) (n := m + 2) (n' := m + 3) (k := 81) (f := Tryz.f81) rfl rfl (by kernel_rfl)] using h
theorem impl_isWide_all (L m : Nat) : impl_isWide_ok L (CN L (m + 8)) := by
  have h := impl_isWide_run L (CN L (m + 7)) (impl_IsPolygon_all L (m + 0)) (impl_isDirection_all L (m + 4))
  simpa only [impl_isWide_ok, kx (L := L) (n := m + 7) (n' := m + 8) (k := 41) (f := Tryz.f41) rfl rfl (by kernel_rfl)] using h
theorem impl_WidthIn_all (L m : Nat) : impl_WidthIn_ok L (CN L (m + 9)) := by
  have h := impl_WidthIn_run L (CN L (m + 8)) (impl_width_all L (m + 5)) (impl_isWide_all L (m + 0))
  simpa only [impl_WidthIn_ok, kx (L := L) (n := m + 8) (n' := m + 9) (k := 15) (f := Tryz.f15) rfl rfl (by kernel_rfl)] using h
theorem impl_CountDirections_all (L m : Nat) : impl_CountDirections_ok L (CN L (m + 8)) := by
  have h := impl_CountDirections_run L (CN L (m + 7)) (impl_within_all L (m + 6)) (impl_IsPolygon_all L (m + 0)) (impl_directions_all L (m + 3))
  simpa only [impl_CountDirections_ok, kx (L := L) (n := m + 7) (n' := m + 8) (k := 16) (f := Tryz.f16) rfl rfl (by kernel_rfl)] using h
theorem spec_l1Cur_direction_all (L m : Nat) : spec_l1Cur_direction_ok L (CN L (m + 4)) := by
  have h := spec_l1Cur_direction_run L (CN L (m + 3)) (spec_l1Cur_pick_all L (m + 1)) (spec_l1Cur_one_all L (m + 0)) (spec_l1Cur_among_v2_all L (m + 0)) (spec_pgCommon_all L (m + 0))
  simpa only [spec_l1Cur_direction_ok, kx (L := L) (n := m + 3) (n' := m + 4) (k := 85) (f := Tryz.f85) rfl rfl (by kernel_rfl)] using h
theorem spec_DrawWidthIn_all (L m : Nat) : spec_DrawWidthIn_ok L (CN L (m + 7)) := by
  have h := spec_DrawWidthIn_run L (CN L (m + 6)) (spec_l1Cur_polygon_all L (m + 0)) (spec_l1Cur_direction_all L (m + 2))
  simpa only [spec_DrawWidthIn_ok, kx (L := L) (n := m + 6) (n' := m + 7) (k := 45) (f := Tryz.f45) rfl rfl (by kernel_rfl)] using h
theorem spec_DrawPegsPerLine_all (L m : Nat) : spec_DrawPegsPerLine_ok L (CN L (m + 8)) := by
  have h := spec_DrawPegsPerLine_run L (CN L (m + 7)) (spec_DrawWidthIn_all L (m + 0))
  simpa only [spec_DrawPegsPerLine_ok, kx (L := L) (n := m + 7) (n' := m + 8) (k := 17) (f := Tryz.f17) rfl rfl (by kernel_rfl)] using h
theorem impl_box_all (L m : Nat) : impl_box_ok L (CN L (m + 1)) := by
  have h := impl_box_run L (CN L (m + 0))
  simpa only [impl_box_ok, kx (L := L) (n := m + 0) (n' := m + 1) (k := 47) (f := Tryz.f47) rfl rfl (by kernel_rfl)] using h
theorem impl_where_all (L m : Nat) : impl_where_ok L (CN L (m + 4)) := by
  have h := impl_where_run L (CN L (m + 3)) (impl_at_all L (m + 2)) (impl_turn_all L (m + 1)) (impl_isOn_all L (m + 0))
  simpa only [impl_where_ok, kx (L := L) (n := m + 3) (n' := m + 4) (k := 48) (f := Tryz.f48) rfl rfl (by kernel_rfl)] using h
theorem impl_PegsPerLine_all (L m : Nat) : impl_PegsPerLine_ok L (CN L (m + 9)) := by
  have h := impl_PegsPerLine_run L (CN L (m + 8)) (impl_value_all L (m + 7)) (impl_extent_all L (m + 6)) (impl_isWide_all L (m + 0)) (impl_box_all L (m + 7)) (impl_where_all L (m + 4))
  simpa only [impl_PegsPerLine_ok, kx (L := L) (n := m + 8) (n' := m + 9) (k := 18) (f := Tryz.f18) rfl rfl (by kernel_rfl)] using h
theorem spec_wiDirection_all (L m : Nat) : spec_wiDirection_ok L (CN L (m + 4)) := by
  have h := spec_wiDirection_run L (CN L (m + 3)) (spec_l1In_all L (m + 2)) (spec_pgCommon_all L (m + 0))
  simpa only [spec_wiDirection_ok, kx (L := L) (n := m + 3) (n' := m + 4) (k := 87) (f := Tryz.f87) rfl rfl (by kernel_rfl)] using h
theorem spec_wiAsked_all (L m : Nat) : spec_wiAsked_ok L (CN L (m + 5)) := by
  have h := spec_wiAsked_run L (CN L (m + 4)) (spec_pgGood_all L (m + 0)) (spec_wiDirection_all L (m + 0))
  simpa only [spec_wiAsked_ok, kx (L := L) (n := m + 4) (n' := m + 5) (k := 50) (f := Tryz.f50) rfl rfl (by kernel_rfl)] using h
theorem spec_pgWhere_all (L m : Nat) : spec_pgWhere_ok L (CN L (m + 3)) := by
  have h := spec_pgWhere_run L (CN L (m + 2)) (spec_pgTurn_all L (m + 1)) (spec_pgOn_all L (m + 0))
  simpa only [spec_pgWhere_ok, kx (L := L) (n := m + 2) (n' := m + 3) (k := 88) (f := Tryz.f88) rfl rfl (by kernel_rfl)] using h
theorem spec_wiLines_all (L m : Nat) : spec_wiLines_ok L (CN L (m + 4)) := by
  have h := spec_wiLines_run L (CN L (m + 3)) (spec_wiRange_all L (m + 1)) (spec_pgWhere_all L (m + 0))
  simpa only [spec_wiLines_ok, kx (L := L) (n := m + 3) (n' := m + 4) (k := 51) (f := Tryz.f51) rfl rfl (by kernel_rfl)] using h
theorem spec_PegsPerLine_all (L m : Nat) : spec_PegsPerLine_ok L (CN L (m + 6)) := by
  have h := spec_PegsPerLine_run L (CN L (m + 5)) (spec_wiAsked_all L (m + 0)) (spec_wiLines_all L (m + 1))
  simpa only [spec_PegsPerLine_ok, kx (L := L) (n := m + 5) (n' := m + 6) (k := 19) (f := Tryz.f19) rfl rfl (by kernel_rfl)] using h
theorem slices_Max_int_int_all (L m : Nat) : slices_Max_int_int_ok L (CN L (m + 1)) := by
  have h := slices_Max_int_int_run L (CN L (m + 0))
  simpa only [slices_Max_int_int_ok, kx (L := L) (n := m + 0) (n' := m + 1) (k := 52) (f := Tryz.f52) rfl rfl (by kernel_rfl)] using h
theorem impl_MostOnLine_all (L m : Nat) : impl_MostOnLine_ok L (CN L (m + 10)) := by
  have h := impl_MostOnLine_run L (CN L (m + 9)) (impl_PegsPerLine_all L (m + 0)) (slices_Max_int_int_all L (m + 8))
  simpa only [impl_MostOnLine_ok, kx (L := L) (n := m + 9) (n' := m + 10) (k := 20) (f := Tryz.f20) rfl rfl (by kernel_rfl)] using h
theorem spec_MostOnLine_all (L m : Nat) : spec_MostOnLine_ok L (CN L (m + 6)) := by
  have h := spec_MostOnLine_run L (CN L (m + 5)) (spec_l1Most_all L (m + 4)) (spec_wiAsked_all L (m + 0)) (spec_wiLines_all L (m + 1))
  simpa only [spec_MostOnLine_ok, kx (L := L) (n := m + 5) (n' := m + 6) (k := 21) (f := Tryz.f21) rfl rfl (by kernel_rfl)] using h
theorem impl_SupportOf_all (L m : Nat) : impl_SupportOf_ok L (CN L (m + 9)) := by
  have h := impl_SupportOf_run L (CN L (m + 8)) (impl_value_all L (m + 7)) (impl_extent_all L (m + 6)) (impl_sorted_all L (m + 6)) (impl_isWide_all L (m + 0))
  simpa only [impl_SupportOf_ok, kx (L := L) (n := m + 8) (n' := m + 9) (k := 22) (f := Tryz.f22) rfl rfl (by kernel_rfl)] using h
theorem spec_pgLess_all (L m : Nat) : spec_pgLess_ok L (CN L (m + 1)) := by
  have h := spec_pgLess_run L (CN L (m + 0))
  simpa only [spec_pgLess_ok, kx (L := L) (n := m + 0) (n' := m + 1) (k := 56) (f := Tryz.f56) rfl rfl (by kernel_rfl)] using h
theorem spec_SupportOf_all (L m : Nat) : spec_SupportOf_ok L (CN L (m + 6)) := by
  have h := spec_SupportOf_run L (CN L (m + 5)) (spec_wiRange_all L (m + 3)) (spec_wiAsked_all L (m + 0)) (spec_pgLess_all L (m + 4))
  simpa only [spec_SupportOf_ok, kx (L := L) (n := m + 5) (n' := m + 6) (k := 23) (f := Tryz.f23) rfl rfl (by kernel_rfl)] using h
theorem spec_WidthIn_all (L m : Nat) : spec_WidthIn_ok L (CN L (m + 6)) := by
  have h := spec_WidthIn_run L (CN L (m + 5)) (spec_wiWidth_all L (m + 2)) (spec_wiAsked_all L (m + 0))
  simpa only [spec_WidthIn_ok, kx (L := L) (n := m + 5) (n' := m + 6) (k := 24) (f := Tryz.f24) rfl rfl (by kernel_rfl)] using h
theorem spec_DrawCountDirections_all (L m : Nat) : spec_DrawCountDirections_ok L (CN L (m + 9)) := by
  have h := spec_DrawCountDirections_run L (CN L (m + 8)) (spec_l1Cur_among_v2_all L (m + 5)) (spec_DrawLeastWidth_all L (m + 0))
  simpa only [spec_DrawCountDirections_ok, kx (L := L) (n := m + 8) (n' := m + 9) (k := 25) (f := Tryz.f25) rfl rfl (by kernel_rfl)] using h
theorem spec_CountDirections_all (L m : Nat) : spec_CountDirections_ok L (CN L (m + 5)) := by
  have h := spec_CountDirections_run L (CN L (m + 4)) (spec_l1In_all L (m + 3)) (spec_pgGood_all L (m + 0)) (spec_wiAll_all L (m + 0))
  simpa only [spec_CountDirections_ok, kx (L := L) (n := m + 4) (n' := m + 5) (k := 26) (f := Tryz.f26) rfl rfl (by kernel_rfl)] using h
theorem laws_zPegs_all (L m : Nat) : laws_zPegs_ok L (CN L (m + 1)) := by
  have h := laws_zPegs_run L (CN L (m + 0))
  simpa only [laws_zPegs_ok, kx (L := L) (n := m + 0) (n' := m + 1) (k := 28) (f := Tryz.f28) rfl rfl (by kernel_rfl)] using h
theorem laws_FnWidthsLeast_all (L m : Nat) : laws_FnWidthsLeast_ok L (CN L (m + 11)) := by
  have h := laws_FnWidthsLeast_run L (CN L (m + 10)) (laws_big_all L (m + 9)) (spec_DrawLeastWidth_all L (m + 2)) (impl_LeastWidth_all L (m + 2)) (spec_LeastWidth_all L (m + 4)) (impl_DirectionsOfWidth_all L (m + 2)) (spec_DirectionsOfWidth_all L (m + 4)) (impl_IsThin_all L (m + 1)) (spec_IsThin_all L (m + 5)) (impl_PegsInAll_all L (m + 2)) (spec_PegsInAll_all L (m + 3)) (laws_zSame_all L (m + 9)) (laws_zRows_all L (m + 8)) (impl_WidthIn_all L (m + 1)) (impl_CountDirections_all L (m + 2)) (spec_DrawPegsPerLine_all L (m + 2)) (impl_PegsPerLine_all L (m + 1)) (spec_PegsPerLine_all L (m + 4)) (impl_MostOnLine_all L (m + 0)) (spec_MostOnLine_all L (m + 4)) (impl_SupportOf_all L (m + 1)) (spec_SupportOf_all L (m + 4)) (spec_WidthIn_all L (m + 4)) (spec_DrawCountDirections_all L (m + 1)) (spec_CountDirections_all L (m + 5)) (laws_zPegs_all L (m + 9))
  simpa only [laws_FnWidthsLeast_ok, kx (L := L) (n := m + 10) (n' := m + 11) (k := 3) (f := Tryz.f3) rfl rfl (by kernel_rfl)] using h
end Go.AM
