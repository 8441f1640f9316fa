import Derived.Test.YtpadelggoahfeaaAmAll
import Derived.Test.YtpadelggoahfeaaAmM1
import Derived.Test.YtpadelggoahfeaaRows
import Derived.ProofKit
import Derived.WalkKit
import Derived.OpenShut
import Derived.ChangeOld
set_option linter.unusedVariables false
set_option linter.unusedSimpArgs false
set_option linter.unnecessarySimpa false
set_option linter.deprecated false
set_option linter.unusedSectionVars false
/-! The row of FnExactIsOwnDual: the program answers as the statement says, for all arguments. -/
namespace Go.Proofs.Ytpadelggoahfeaa.LOd
open Go Go.AM Go.Proofs Go.Proofs.Ytpadelggoahfeaa
open Go.ChangeShapes Go.WideShapes Go.ChangeAt Go.RowKit
set_option linter.unusedVariables false
theorem own : ownKnob Try.prog.godebug = none := by kernel_rfl
theorem laidOut : laidOutB Try.prog = true := by kernel_rfl

set_option maxRecDepth 100000 in
theorem lifted (os : Os) (started : os.Started) (H : Type) (enc : TypeId × Value → H) :
    ReturnsInHanded {} Try.checked os 3 .any (Rows.fnExactIsOwnDualSpec.pre6 enc Try.prog Try.f3 Rows.fnExactIsOwnDualRow.domain false) (Rows.fnExactIsOwnDualSpec.post enc Try.prog Try.f3 false true false false) := by
  refine returnsInHanded_of_change (C := Try.checked) own started (by kernel_rfl) Try.func3
    (ChangeSpec.witness6 (enc := enc) (C := Try.checked) false ⟨#[], #[.slice none 0 0], []⟩ 8 (by kernel_rfl) (by kernel_rfl) (by kernel_rfl) (by kernel_rfl)) ?_
  intro W base args ds gs before hval0 hW hcnd _
  have hval : ∀ (j : Nat) t v, Try.f3.params[j]? = some t → args[j]? = some v → Value.okWide Try.prog W .any base t v := hval0
  have hW' := hW
  obtain ⟨p, q, hA0, hV, rfl, hfz, hnd⟩ := hW
  have hA : DataW.TrodAll enc Try.prog W 0 (fun _ => true) true Try.f3.params.toList args.toList ds p := hA0
  rw [Try.params3] at hA hval
  obtain ⟨v0, vs0, d0, ds0, p0, q0, hargs0, rfl, rfl, h0, r0⟩ := trodAll_cons hA
  obtain ⟨rfl, rfl, rfl⟩ := trodAll_nil r0
  obtain rfl : args = #[v0] := by cases args; simp_all
  obtain ⟨rfl, rfl⟩ := trodVars_none hV
  obtain ⟨a0, len0, cap0, rfl⟩ := okWide_slice Try.underlying22 (hval 0 22 v0 rfl rfl)
  have k0 := h0
  have lt0 : ∀ x ∈ p0, x.block < W.heap.size := by obtain ⟨m, hm⟩ := k0; exact DataW.trod_lt m _ _ _ hm
  obtain ⟨fuel0, hf0⟩ := h0
  obtain ⟨x0, wf0, hx0⟩ := open_structs (n := 2) (e := 35) (by kernel_rfl) hf0
  have hv : All2 (V3 (gAll W) [] W) [.lst false false 2 (x0.map eA)] [.slice a0 len0 cap0] := ⟨hx0 _ (fun b h => h), trivial⟩
  clear hA0 hval0
  have e0 := pts_of (fun c hc => (wf0 c hc).1)
  have hlen0 : ((ptsOf x0).length : Int) ≤ 9223372036854775807 := by
    obtain ⟨A, cap, e, _⟩ := hx0 (gAll W) (fun b h => h)
    injection e with _ e2 _
    rw [List.length_map] at e2
    have e3 : (ptsOf x0).length = x0.length := by simp [ptsOf]
    rcases DataW.trod_slice Try.underlying22 hf0 with ⟨h0, _⟩ | ⟨a', len', cap', _, _, _, _, h0, _, _, hl, hm, _⟩
    · cases h0; omega
    · cases h0
      simp only [maxLen] at hm
      omega
  obtain ⟨L, hL⟩ := isOwnDual_law (ptsOf x0) hlen0
  have hr := laws_FnExactIsOwnDual_all L 0 false false _ _ e0
  rw [hL] at hr
  refine (law_calls (cn_sound L _) hr hv).mono fun e W' ⟨he, bel⟩ => ?_
  subst he
  exact ⟨_, rfl, _, _, _, [], _, [], hW', trodAll_mk1 (shut_bool Try.underlying4 _), (trodAll_cons_mk (Below.trod laidOut (by kernel_rfl) (of_decide_eq_true (by kernel_rfl)) k0 bel lt0) trodAll_mk0), rfl, bel.frame _, fun h => by cases h⟩

theorem namedF : Try.pinned.checked.prog.funcNamed Rows.fnExactIsOwnDualRow.func = some 3 := by kernel_rfl
theorem closedF : joinedFacts Try.pinned.checked.prog 3 Try.f3 Rows.fnExactIsOwnDualSpec Rows.fnExactIsOwnDualRow = true := by kernel_rfl
theorem instF : Try.f3.isInstance Try.pinned.checked.prog Rows.fnExactIsOwnDualRow.origin Rows.fnExactIsOwnDualRow.targs := of_decide_eq_true (by kernel_rfl)
theorem wrapF : Try.f3.isWrapper Try.pinned.checked.prog Rows.fnExactIsOwnDualRow.wrapper Rows.fnExactIsOwnDualRow.mainSum := by unfold Func.isWrapper; first | (rw [if_pos (by decide +kernel)]; kernel_rfl) | (rw [if_neg (by decide +kernel)]; exact ⟨rfl, rfl⟩)
theorem over : Rows.fnExactIsOwnDualRow.holds Try.pinned (OpenSpec.ofChange Rows.fnExactIsOwnDualSpec) :=
  OpenClaim.holds_of_wide 3 Try.f3 rfl rfl rfl rfl rfl rfl rfl ⟨rfl, rfl, rfl, rfl, rfl⟩ rfl rfl rfl rfl rfl namedF Try.func3 closedF instF wrapF
    (fun os started H enc _ => lifted os started H enc)
theorem fnExactIsOwnDual_holds : Rows.FnExactIsOwnDualSaid := over
end Go.Proofs.Ytpadelggoahfeaa.LOd
