import Derived.Test.YtjedbgbiamndnaaGreatAmAll
import Derived.Test.YtjedbgbiamndnaaGreatAmM1
import Derived.Test.YtjedbgbiamndnaaGreatRows
import Derived.ProofKit
import Derived.WalkKit
import Derived.OpenShut
import Derived.ChangeOld
set_option linter.unusedVariables false
set_option linter.unusedSimpArgs false
set_option linter.unnecessarySimpa false
set_option linter.deprecated false
set_option linter.unusedSectionVars false
/-! The row of FnWidthsLeast: the program answers as the statement says, for all arguments. -/
namespace Go.Proofs.YtjedbgbiamndnaaGreat.LWl
open Go Go.AM Go.Proofs Go.Proofs.YtjedbgbiamndnaaGreat
open Go.ChangeShapes Go.WideShapes Go.ChangeAt Go.RowKit
set_option linter.unusedVariables false
theorem own : ownKnob Tryz.prog.godebug = none := by kernel_rfl
theorem laidOut : laidOutB Tryz.prog = true := by kernel_rfl

set_option maxRecDepth 100000 in
theorem lifted (os : Os) (started : os.Started) (H : Type) (enc : TypeId × Value → H) :
    ReturnsInHanded {} Tryz.checked os 3 .any (Rows.fnWidthsLeastSpec.pre6 enc Tryz.prog Tryz.f3 Rows.fnWidthsLeastRow.domain false) (Rows.fnWidthsLeastSpec.post enc Tryz.prog Tryz.f3 false true false false) := by
  refine returnsInHanded_of_change (C := Tryz.checked) own started (by kernel_rfl) Tryz.func3
    (ChangeSpec.witness6 (enc := enc) (C := Tryz.checked) false ⟨#[], #[.slice none 0 0, .slice none 0 0], []⟩ 8 (by kernel_rfl) (by kernel_rfl) (by kernel_rfl) (by kernel_rfl)) ?_
  intro W base args ds gs before hval0 hW hcnd _
  have hval : ∀ (j : Nat) t v, Tryz.f3.params[j]? = some t → args[j]? = some v → Value.okWide Tryz.prog W .any base t v := hval0
  have hW' := hW
  obtain ⟨p, q, hA0, hV, rfl, hfz, hnd⟩ := hW
  have hA : DataW.TrodAll enc Tryz.prog W 0 (fun _ => true) true Tryz.f3.params.toList args.toList ds p := hA0
  rw [Tryz.params3] at hA hval
  obtain ⟨v0, vs0, d0, ds0, p0, q0, hargs0, rfl, rfl, h0, r0⟩ := trodAll_cons hA
  obtain ⟨v1, vs1, d1, ds1, p1, q1, hargs1, rfl, rfl, h1, r1⟩ := trodAll_cons r0
  obtain ⟨rfl, rfl, rfl⟩ := trodAll_nil r1
  subst hargs1
  obtain rfl : args = #[v0, v1] := by cases args; simp_all
  obtain ⟨rfl, rfl⟩ := trodVars_none hV
  obtain ⟨a0, len0, cap0, rfl⟩ := okWide_slice Tryz.underlying22 (hval 0 22 v0 rfl rfl)
  have k0 := h0
  have lt0 : ∀ x ∈ p0, x.block < W.heap.size := by obtain ⟨m, hm⟩ := k0; exact DataW.trod_lt m _ _ _ hm
  obtain ⟨fuel0, hf0⟩ := h0
  obtain ⟨x0, wf0, hx0⟩ := open_bytesA (e := 5) Tryz.underlying22 Tryz.underlying5 (by kernel_rfl) hf0
  obtain ⟨a1, len1, cap1, rfl⟩ := okWide_slice Tryz.underlying22 (hval 1 22 v1 rfl rfl)
  have k1 := h1
  have lt1 : ∀ x ∈ p1, x.block < W.heap.size := by obtain ⟨m, hm⟩ := k1; exact DataW.trod_lt m _ _ _ hm
  obtain ⟨fuel1, hf1⟩ := h1
  obtain ⟨x1, wf1, hx1⟩ := open_bytesA (e := 5) Tryz.underlying22 Tryz.underlying5 (by kernel_rfl) hf1
  have hv : All2 (V3 (gAll W) [] W) [.lst false false 1 (x0.map eU), .lst false false 1 (x1.map eU)] [.slice a0 len0 cap0, .slice a1 len1 cap1] := ⟨hx0 _ (fun b h => h), hx1 _ (fun b h => h), trivial⟩
  clear hA0 hval0
  have b0 := by_of wf0
  have b1 := by_of wf1
  obtain ⟨L, hL⟩ := widthsLeast_law x0 x1 b0 b1
  have hr := laws_FnWidthsLeast_all L 0 false false _ x0 rfl false false _ x1 rfl
  rw [hL] at hr
  refine (law_calls (cn_sound L _) hr hv).mono fun e W' ⟨he, bel⟩ => ?_
  subst he
  exact ⟨_, rfl, _, _, _, [], _, [], hW', trodAll_mk1 (shut_bool Tryz.underlying4 _), (trodAll_cons_mk (Below.trod laidOut (by kernel_rfl) (of_decide_eq_true (by kernel_rfl)) k0 bel lt0) (trodAll_cons_mk (Below.trod laidOut (by kernel_rfl) (of_decide_eq_true (by kernel_rfl)) k1 bel lt1) trodAll_mk0)), rfl, bel.frame _, fun h => by cases h⟩

theorem namedF : Tryz.pinned.checked.prog.funcNamed Rows.fnWidthsLeastRow.func = some 3 := by kernel_rfl
theorem closedF : joinedFacts Tryz.pinned.checked.prog 3 Tryz.f3 Rows.fnWidthsLeastSpec Rows.fnWidthsLeastRow = true := by kernel_rfl
theorem instF : Tryz.f3.isInstance Tryz.pinned.checked.prog Rows.fnWidthsLeastRow.origin Rows.fnWidthsLeastRow.targs := of_decide_eq_true (by kernel_rfl)
theorem wrapF : Tryz.f3.isWrapper Tryz.pinned.checked.prog Rows.fnWidthsLeastRow.wrapper Rows.fnWidthsLeastRow.mainSum := by unfold Func.isWrapper; first | (rw [if_pos (by decide +kernel)]; kernel_rfl) | (rw [if_neg (by decide +kernel)]; exact ⟨rfl, rfl⟩)
theorem over : Rows.fnWidthsLeastRow.holds Tryz.pinned (OpenSpec.ofChange Rows.fnWidthsLeastSpec) :=
  OpenClaim.holds_of_wide 3 Tryz.f3 rfl rfl rfl rfl rfl rfl rfl ⟨rfl, rfl, rfl, rfl, rfl⟩ rfl rfl rfl rfl rfl namedF Tryz.func3 closedF instF wrapF
    (fun os started H enc _ => lifted os started H enc)
theorem fnWidthsLeast_holds : Rows.FnWidthsLeastSaid := over
end Go.Proofs.YtjedbgbiamndnaaGreat.LWl
