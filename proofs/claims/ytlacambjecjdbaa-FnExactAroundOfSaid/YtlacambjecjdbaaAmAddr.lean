import Derived.Test.YtlacambjecjdbaaAmPure
import Derived.Laws.Cells
set_option linter.unusedVariables false
set_option linter.unusedSimpArgs false
set_option linter.unnecessarySimpa false
/-! Addresses. -/
namespace Go.AM

section
variable {P : Program} {T : TypeId → Option TI} {o : Oper} {tm : List AV} {hp : List Blk} {κ : AV → List Blk → R} {r : AV × List Blk}

theorem field_get {fields : Array Field} {f : Nat} {a : Nat} {ft : TypeId} (h : (fields.toList.map fun f => (f.offset, f.type))[f]? = some (a, ft)) :
    ∃ fl, fields[f]? = some fl ∧ fl.offset = a ∧ fl.type = ft := by
  simp only [List.getElem?_map, Array.getElem?_toList, Option.map_eq_some_iff] at h
  obtain ⟨fl, h1, h2⟩ := h
  cases h2
  exact ⟨fl, h1, rfl, rfl⟩

theorem bytes_get (l : List UInt8) (n : Nat) : (⟨⟨l⟩⟩ : ByteArray)[n]? = l[n]? := by
  show decidableGetElem? (⟨⟨l⟩⟩ : ByteArray) n = _
  unfold decidableGetElem?
  split
  · rename_i h
    have h' : n < l.length := h
    rw [List.getElem?_eq_getElem h']
    rfl
  · rename_i h
    have h' : ¬ n < l.length := h
    rw [List.getElem?_eq_none (by omega)]

theorem fieldAddr_step (hT : TOk P T) {t : TypeId} {x : Operand} {f : Nat} (ho : o.op = .fieldAddr t x f) (h : (tyK T t fun _ _ _ _ d => match (generalizing := false) d with
    | .struct offs _ => getK offs f fun (a, ft) => tyK T ft fun fsz _ _ _ _ => bif Nat.beq fsz 0 then none else evK tm x fun
      | .ptr τ idx off E => natK (off + a) fun off => κ (.ptr τ idx off E) hp
      | .at v off => natK (off + a) fun off => κ (.at v off) hp
      | _ => none
    | _ => none) = some r) : StepN P o tm hp κ r := by
  obtain ⟨s1, a1, b1, z1, d1, hs, h⟩ := tyK_some h
  split at h
  · rename_i offs eq
    obtain ⟨⟨a, ft⟩, hof, h⟩ := getK_some h
    obtain ⟨s2, a2, b2, z2, d2, hf, h⟩ := tyK_some h
    rcases cond_some h with ⟨_, h⟩ | ⟨h0, h⟩
    · cases h
    have h0 : s2 ≠ 0 := by intro e; subst e; cases h0
    obtain ⟨v, hv, h⟩ := evK_some h
    have hfl : ∀ (w : World) (ad : Addr), ∃ fields fl, (Go.underlying t).run P w = .ok (.struct fields) w ∧ fields[f]? = some fl ∧ (fieldPlace ad fl).run P w = .ok (ad.add a) w := by
      intro w ad
      obtain ⟨u, hu, _, hr⟩ := (hT _ _ _ _ _ _ hs).underlying (w := w)
      obtain ⟨fields, rfl, hfs⟩ := hr
      obtain ⟨fl, h1, h2, h3⟩ := field_get (hfs ▸ hof)
      refine ⟨fields, fl, hu, h1, ?_⟩
      subst h2; subst h3
      simp [fieldPlace, (hT _ _ _ _ _ _ hf).sizeOf, h0]
    split at h
    · rename_i τ idx off E
      rw [natK_eq] at h
      refine ⟨_, hp, h, opN_pure fun ac w g H _ _ hh _ => ?_⟩
      have h1 := hh x (by simp [ho, Op.operands]) _ hv
      obtain ⟨hd, hz, b, base, n, h2, h3, he⟩ := h1
      obtain ⟨fields, fl, e1, e2, e3⟩ := hfl w ⟨b, base + n * E + off, none⟩
      refine ⟨_, by simp only [execOp, ho, he, Instr.fieldAt, Instr.sureAddr, Sem.run_bind, e1, e2, e3, Result.andThen_ok, Sem.run_pure]; rfl, ?_⟩
      exact ⟨hd, hz, b, base, n, h2, h3, by simp [Addr.add, Nat.add_assoc]⟩
    · rename_i v' o'
      rw [natK_eq] at h
      refine ⟨_, hp, h, opN_pure fun ac w g H _ _ hh _ => ?_⟩
      have h1 := hh x (by simp [ho, Op.operands]) _ hv
      obtain ⟨b, off, he, h2, h3⟩ := h1
      obtain ⟨fields, fl, e1, e2, e3⟩ := hfl w ⟨b, off + o', none⟩
      refine ⟨_, by simp only [execOp, ho, he, Instr.fieldAt, Instr.sureAddr, Sem.run_bind, e1, e2, e3, Result.andThen_ok, Sem.run_pure]; rfl, ?_⟩
      exact ⟨b, off, by simp [Addr.add, Nat.add_assoc], h2, h3⟩
    · cases h
  · cases h

theorem index_step (hT : TOk P T) {t : TypeId} {x ix : Operand} (ho : o.op = .index t x ix) (h : (tyK T t fun _ _ _ _ d => match (generalizing := false) d with
    | .str => evK tm x fun
      | .str l => evK tm ix fun
        | .int _ i => gbind (lget l i) fun b => κ (.int .u8 (bchr b)) hp
        | _ => none
      | _ => none
    | _ => none) = some r) : StepN P o tm hp κ r := by
  obtain ⟨s1, a1, b1, z1, d1, hs, h⟩ := tyK_some h
  split at h
  · obtain ⟨v, hv, h⟩ := evK_some h
    split at h
    · rename_i l
      obtain ⟨v', hv', h⟩ := evK_some h
      split at h
      · rename_i k i
        obtain ⟨b, hb, h⟩ := gbind_some h
        refine ⟨_, hp, h, opN_pure fun ac w g H _ _ hh _ => ?_⟩
        have h1 := V3_str.1 (hh x (by simp [ho, Op.operands]) _ hv)
        have h2 := V3_int.1 (hh ix (by simp [ho, Op.operands]) _ hv')
        obtain ⟨u, hu, _, hr⟩ := (hT _ _ _ _ _ _ hs).underlying (w := w)
        simp only [DRel] at hr
        subst hr
        rw [lget_eq] at hb
        have hb' : (if 0 ≤ i then (⟨⟨l⟩⟩ : ByteArray)[i.toNat]? else none) = some b := by
          by_cases h0 : 0 ≤ i
          · simp only [h0, if_true] at hb ⊢
            rw [← hb]
            exact bytes_get l i.toNat
          · simp [h0] at hb
        refine ⟨.int .u8 b.toNat, ?_, V3_int.2 (by simp [bchr_eq])⟩
        simp only [execOp, ho, h1, h2, Instr.index, asIntOf, Sem.run_bind, hu, Sem.run_pure, Result.andThen_ok, hb']
      · cases h
    · cases h
  · cases h
theorem PRows_get {S Sl : Nat → Prop} {w : World} {E : Nat} : ∀ {xs : List AV} {b off i : Nat} {x : AV}, PRows S Sl w E xs b off → xs[i]? = some x → PElem F0 Sl w E x b (off + i * E)
  | [], _, _, _, _, _, h => by simp at h
  | y :: xs, b, off, 0, x, h, hx => by
    simp at hx; subst hx
    simpa using (PRows_cons.1 h).1
  | y :: xs, b, off, i + 1, x, h, hx => by
    have := PRows_get (i := i) (PRows_cons.1 h).2 (by simpa using hx)
    rw [Nat.succ_mul]
    rw [show off + (i * E + E) = off + E + i * E by omega]
    exact this

theorem beq_eq {a b : Nat} (h : Nat.beq a b = true) : a = b := Nat.eq_of_beq_eq_true h

theorem beqE_some {α : Type} {a b : Nat} {x : Option α} {r : α} (h : (bif Nat.beq a b then x else none) = some r) : a = b ∧ x = some r := by
  obtain ⟨h1, h2⟩ := cond_none h
  exact ⟨beq_eq h1, h2⟩

theorem prefix_get {α : Type} {xs ys : List α} {n : Nat} {x : α} (h : xs <+: ys) (hx : xs[n]? = some x) : ys[n]? = some x := by
  obtain ⟨zs, rfl⟩ := h
  rw [List.getElem?_append_left (List.getElem?_eq_some_iff.1 hx).1]
  exact hx

theorem addr_add (b k n : Nat) : (⟨b, k, none⟩ : Addr).add n = ⟨b, k + n, none⟩ := by
  simp only [Addr.add]
  split <;> simp_all

theorem lget_some {α : Type} {xs : List α} {i : Int} {x : α} (h : lget xs i = some x) : 0 ≤ i ∧ i.toNat < xs.length ∧ xs[i.toNat]? = some x := by
  rw [lget_eq] at h
  by_cases h0 : 0 ≤ i
  · simp only [h0, if_true] at h
    exact ⟨h0, (List.getElem?_eq_some_iff.1 h).1, h⟩
  · simp [h0] at h
end
end Go.AM
