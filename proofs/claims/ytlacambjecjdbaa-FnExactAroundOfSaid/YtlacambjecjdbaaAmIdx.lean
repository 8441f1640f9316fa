import Derived.Test.YtlacambjecjdbaaAmAddr
set_option linter.unusedVariables false
set_option linter.unusedSimpArgs false
set_option linter.unnecessarySimpa false
/-! The address of an element. -/
namespace Go.AM

section
variable {P : Program} {T : TypeId → Option TI} {o : Oper} {tm : List AV} {hp : List Blk} {κ : AV → List Blk → R} {r : AV × List Blk}

theorem indexAt_run {w : World} {t e : TypeId} {E : Nat} {k : IntKind} {i : Int} {ad : Addr} {l c : Nat} (hu : (Go.underlying t).run P w = .ok (.slice e) w)
    (hs : (Go.sizeOf e).run P w = .ok E w) (h0 : 0 ≤ i) (h1 : i < l) :
    (Instr.indexAt t (.slice (some ad) l c) (.int k i)).run P w = .ok (.pointer (some (ad.add (i.toNat * E)))) w := by
  simp [Instr.indexAt, asIntOf, hu, hs, h0, h1]

theorem indexAddr_step (hT : TOk P T) {t : TypeId} {x ix : Operand} (ho : o.op = .indexAddr t x ix) (h : (tyK T t fun _ _ _ _ d => match (generalizing := false) d with
    | .slice e => tyK T e fun E _ _ _ _ => evK tm ix fun
      | .int _ i => evK tm x fun
        | .lst _ _ E' xs => bif Nat.beq E E' then gbind (lget xs i) fun x => κ (.at x 0) hp else none
        | .own τ E' r _ => bif Nat.beq E E' then getK hp τ fun
          | .rows m E'' xs => bif Nat.beq E E'' then
              match (generalizing := false) r with
              | none => match (generalizing := false) m with
                | .dead => none
                | _ => bif ile 0 i && ilt i (ilen xs) then κ (.ptr τ i 0 E) hp else none
              | some (o, l) => bif ile 0 i && ilt i l then κ (.ptr τ (iadd o i) 0 E) hp else none
              else none
          | _ => none
          else none
        | _ => none
      | _ => none
    | _ => none) = some r) : StepN P o tm hp κ r := by
  obtain ⟨s1, a1, b1, z1, d1, hs, h⟩ := tyK_some h
  split at h
  case h_2 => cases h
  rename_i e
  obtain ⟨E, a2, b2, z2, d2, he, h⟩ := tyK_some h
  obtain ⟨vi, hvi, h⟩ := evK_some h
  split at h
  case h_2 => cases h
  rename_i k i
  obtain ⟨vx, hvx, h⟩ := evK_some h
  have hu : ∀ w : World, (Go.underlying t).run P w = .ok (.slice e) w := fun w => by
    obtain ⟨u, hu, _, hr⟩ := (hT _ _ _ _ _ _ hs).underlying (w := w)
    simp only [DRel] at hr
    subst hr
    exact hu
  have hz : ∀ w : World, (Go.sizeOf e).run P w = .ok E w := fun w => (hT _ _ _ _ _ _ he).sizeOf
  split at h
  · rename_i oo cc E' xs
    obtain ⟨rfl, h'⟩ := beqE_some h
    obtain ⟨y, hy, h⟩ := gbind_some h'
    obtain ⟨h0, h1, h2⟩ := lget_some hy
    refine ⟨_, hp, h, opN_pure fun a w g H _ _ hh hg => ?_⟩
    have hi := V3_int.1 (hh ix (by simp [ho, Op.operands]) _ hvi)
    have hx := hh x (by simp [ho, Op.operands]) _ hvx
    simp only [V3, V2, V1, PCell] at hx
    obtain ⟨A, cap, hv, hcap, hc, hor⟩ := hx
    rcases hor with rfl | ⟨b, off, hA, hS, hR⟩
    · simp at h1
    · subst hA
      have hSb : g.S b := by
        cases oo
        · exact hg.sub b (by simpa using hS)
        · simpa using hS
      refine ⟨.pointer (some ⟨b, off + i.toNat * E, none⟩), ?_, ?_⟩
      · have := indexAt_run (P := P) (w := w) (k := k) (ad := ⟨b, off, none⟩) (l := xs.length) (c := cap) (hu w) (hz w) h0 (by omega)
        simp only [execOp, ho, hi, hv, Sem.run_bind, this, Result.andThen_ok, Sem.run_pure, addr_add]
      · exact ⟨b, off + i.toNat * E, by simp, hSb, rfl, (PRows_get hR h2).2.weak⟩
  · rename_i τ E' rr cc
    obtain ⟨rfl, h'⟩ := beqE_some h
    obtain ⟨blk, hb, h2⟩ := getK_some h'
    split at h2
    case h_2 => cases h2
    rename_i m E'' xs
    obtain ⟨rfl, h3⟩ := beqE_some h2
    have fin : ∀ (a : Act) (w : World) (g : G) (H : List Blk) (o' l' : Nat), V3 g H w (.own τ E rr cc) (a.eval x) → (∀ b base, g.ρ τ = some (b, base) → ∃ cap, a.eval x = .slice (some ⟨b, base + o' * E, none⟩) l' cap) →
        (g.ρ τ = none → False) → H[τ]? = some (.rows m E xs) → a.eval ix = .int k i → 0 ≤ i → i < l' → ∀ j : Int, j = (o' : Int) + i →
        ∃ vv, (execOp a.eval o).run P w = .ok (.value vv) w ∧ V3 g H w (.ptr τ j 0 E) vv := by
      intro a w g H o' l' hx hsl hn hbH hi h0 h1 j hj
      cases hρ : g.ρ τ with
      | none => exact (hn hρ).elim
      | some p =>
        obtain ⟨b, base⟩ := p
        obtain ⟨cap, hv⟩ := hsl b base hρ
        have := indexAt_run (P := P) (w := w) (k := k) (ad := ⟨b, base + o' * E, none⟩) (l := l') (c := cap) (hu w) (hz w) h0 h1
        refine ⟨_, by simp only [execOp, ho, hi, hv, Sem.run_bind, this, Result.andThen_ok, Sem.run_pure]; rfl, ?_⟩
        refine ⟨hx.1, fun y hy => (by rw [hbH] at hy; cases hy), b, base, o' + i.toNat, hρ, by omega, ?_⟩
        simp [Addr.add, Nat.add_mul, Nat.add_assoc]
    split at h3
    · split at h3
      · cases h3
      · rename_i hm
        obtain ⟨hb2, h4⟩ := cond_none h3
        simp only [ile_eq, ilt_eq, ilen_eq, Bool.and_eq_true, decide_eq_true_eq] at hb2
        refine ⟨_, hp, h4, opN_pure fun a w g H hH _ hh hg => ?_⟩
        have hi := V3_int.1 (hh ix (by simp [ho, Op.operands]) _ hvi)
        have hx := hh x (by simp [ho, Op.operands]) _ hvx
        have hbH : H[τ]? = some (.rows m E xs) := prefix_get hH hb
        have hx' := hx.2
        refine fin a w g H 0 xs.length hx ?_ ?_ hbH hi hb2.1 (by omega) i (by simp)
        · intro b base hρ
          simp only [hρ] at hx'
          obtain ⟨k2, o2, l2, cap, hv, hk2, hcap, _, _, _, ho2, hl2⟩ := hx'
          have := hl2 m E xs hbH (fun e => hm e)
          subst ho2; subst this
          rcases hk2 with rfl | hk2
          · exact ⟨cap, hv⟩
          · omega
        · intro hρ
          simp only [hρ] at hx'
          have := hx'.2 m E xs hbH (fun e => hm e)
          omega
    · rename_i o1 l1
      obtain ⟨hb2, h4⟩ := cond_none h3
      simp only [ile_eq, ilt_eq, Bool.and_eq_true, decide_eq_true_eq] at hb2
      refine ⟨_, hp, h4, opN_pure fun a w g H hH _ hh hg => ?_⟩
      have hi := V3_int.1 (hh ix (by simp [ho, Op.operands]) _ hvi)
      have hx := hh x (by simp [ho, Op.operands]) _ hvx
      have hx' := hx.2
      cases hρ : g.ρ τ with
      | none =>
        simp only [hρ] at hx'
        have := hx'.2
        omega
      | some p =>
        simp only [hρ] at hx'
        obtain ⟨k2, o2, l2, cap, hv, hk2, hcap, _, _, _, ho2, hl2, _⟩ := hx'
        subst ho2; subst hl2
        have hk2 := hk2.resolve_right (by omega)
        subst hk2
        refine fin a w g H o2 l2 hx (fun b base h0 => ?_) (fun h0 => by rw [hρ] at h0; cases h0) (prefix_get hH hb) hi hb2.1 (by omega) _ (by rw [iadd_eq])
        rw [hρ] at h0
        cases h0
        exact ⟨cap, hv⟩
  · cases h
end
end Go.AM
