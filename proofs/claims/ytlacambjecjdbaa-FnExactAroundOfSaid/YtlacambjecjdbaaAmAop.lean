import Derived.Test.YtlacambjecjdbaaAmShare2
set_option linter.unusedVariables false
set_option linter.unusedSimpArgs false
set_option linter.unnecessarySimpa false
/-! Every operation. -/
namespace Go.AM

section
variable {P : Program} {T : TypeId → Option TI} {C : CF} {sh : FuncId → Bool} {o : Oper} {tm : List AV} {hp : List Blk} {κ : AV → List Blk → R} {r : AV × List Blk}

theorem call_step (hC : CSound P C) {c : Call} {f : Operand} (ho : o.op = .call c) (hc : c.callee = .value f) (h : (evK tm f fun
      | .fn g fs cs => evsK tm c.args.toList fun args => apndB args cs fun l => apndB fs l fun l => callK C sh g l hp κ
      | _ => none) = some r) : StepN P o tm hp κ r ∨ (isMut sh o = true ∧ StepM P o tm hp κ r) := by
  obtain ⟨v, hv, h1⟩ := evK_some h
  clear h
  split at h1
  case h_2 => cases h1
  rename_i gf fs cs
  obtain ⟨args, ha, h2⟩ := evsK_some h1
  clear h1
  rw [apndB_eq, apndB_eq] at h2
  unfold callK at h2
  rcases cond_some h2 with ⟨hs, h3⟩ | ⟨hs, h3⟩
  · right
    dsimp only at h3
    refine ⟨?_, scall_step hC ho hc hv ha (boxToks_okI (toks3_okI OkIds.nil _) _) h3⟩
    unfold isMut
    rw [ho]
    simp only [hc]
    cases f with
    | func f0 =>
      simp only [evD, Option.some.injEq, AV.fn.injEq] at hv
      simp only [hv.1, hs]
    | _ => rfl
  · exact .inl (pcall_step hC ho hc hv ha h3)

theorem aop_ok (hT : TOk P T) (hC : CSound P C) (h : aopK T C sh o tm hp κ = some r) : StepN P o tm hp κ r ∨ (isMut sh o = true ∧ StepM P o tm hp κ r) := by
  unfold aopK at h
  split at h
  · rename_i x ho; exact .inl (move_step ho h)
  · rename_i x ho; exact .inl (assign_step hT ho h)
  · rename_i c a b ho; exact .inl (pick_step ho h)
  · rename_i t ho; exact .inl (alloc_step hT ho h)
  · rename_i t x ho; exact .inl (box_step ho h)
  · rename_i t ps ho; exact .inl (build_step hT ho h)
  · rename_i t n ps ho; exact .inr ⟨by simp [isMut, ho], buildSlice_step hT ho h⟩
  · rename_i t x ho; exact .inl (load_step hT ho h)
  · rename_i t x y ho; exact .inr ⟨by simp [isMut, ho], store_step hT ho h⟩
  · rename_i x ho; exact .inl (nilCheck_step ho h)
  · rename_i op t x y ty ho; exact .inl (binOp_step hT ho h)
  · rename_i op t x ho; exact .inl (unOp_step ho h)
  · rename_i s d x ho; exact .inl (convert_step hT ho h)
  · rename_i f fs cs ho; exact .inl (makeFunc_step ho h)
  · rename_i t l c ho; exact .inl (makeSlice_step hT ho h)
  · rename_i t x lo hi mx ho; exact .inl (slice_step hT ho h)
  · rename_i t x f ho; exact .inl (fieldAddr_step hT ho h)
  · rename_i t x ix ho; exact .inl (indexAddr_step hT ho h)
  · rename_i t x ix ho; exact .inl (index_step hT ho h)
  · rename_i x i ho; exact .inl (extract_step ho h)
  · rename_i c ho
    split at h
    · rename_i hc; exact .inl (len_step hT ho hc h)
    · rename_i hc; exact .inr ⟨by simp [isMut, ho, hc], append_step hT ho hc h⟩
    · rename_i hc; exact .inl (max_step ho hc h)
    · rename_i hc; exact .inl (min_step ho hc h)
    · rename_i f hc; exact call_step hC ho hc h
    · cases h
  · cases h
end
end Go.AM
