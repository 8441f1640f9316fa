import Derived.Test.YtlacambjecjdbaaAmRows
set_option linter.unusedVariables false
set_option linter.unusedSimpArgs false
set_option linter.unnecessarySimpa false
/-! makeSlice, a nil slice that is grown later. -/
namespace Go.AM

section
variable {P : Program} {T : TypeId → Option TI} {o : Oper} {tm : List AV} {hp : List Blk} {κ : AV → List Blk → R} {r : AV × List Blk}

theorem LenOk_last {H : List Blk} {E : Nat} {xs : List AV} (h : hp ++ [.rows .live E xs] <+: H) : LenOk H hp.length xs.length := by
  intro m E' ys hh _
  rw [prefix_last h] at hh
  cases hh
  rfl

theorem own_new {g : G} {H : List Blk} {w : World} {E n : Nat} {xs : List AV} {b : Nat} {c : Bool} (h : hp ++ [.rows .live E xs] <+: H) (hd : g.dom hp.length) (hρ : g.ρ hp.length = some (b, 0)) (hn : xs.length ≤ n) (hc : c = true → n = xs.length) (hu : Unf w b (n * E)) :
    V3 g H w (.own hp.length E none c) (.slice (some ⟨b, 0, none⟩) xs.length n) := by
  refine ⟨hd, ?_⟩
  rw [hρ]
  refine ⟨0, 0, xs.length, n, rfl, .inl (by simp), hn, hc, fun _ m E' ys hh _ => ?_, by simpa using hu, rfl, LenOk_last h⟩
  rw [prefix_last h] at hh
  cases hh
  simpa using hn

theorem own_null {g : G} {H : List Blk} {w : World} {E : Nat} {c : Bool} {A : Option Addr} (h : hp ++ [.rows .live E []] <+: H) (hd : g.dom hp.length) (hρ : g.ρ hp.length = none) :
    V3 g H w (.own hp.length E none c) (.slice A 0 0) := by
  refine ⟨hd, ?_⟩
  rw [hρ]
  exact ⟨⟨A, rfl⟩, LenOk_last h⟩

theorem assign_step (hT : TOk P T) {x : Operand} (ho : o.op = .assign x) (h : (evK tm x fun
    | .nil => tyK T o.type fun _ _ _ _ d => match (generalizing := false) d with
      | .slice e => tyK T e fun E _ _ _ _ => snocK hp (.rows .live E []) 0 fun n hp => κ (.own n E none false) hp
      | _ => none
    | v => κ v hp) = some r) : StepN P o tm hp κ r := by
  obtain ⟨v, hv, h⟩ := evK_some h
  split at h
  · obtain ⟨s1, a1, b1, z1, d1, hs, h⟩ := tyK_some h
    split at h
    case h_2 => cases h
    obtain ⟨E, a2, b2, z2, d2, he, h⟩ := tyK_some h
    rw [snocK_eq, Nat.zero_add] at h
    refine ⟨_, _, h, opN_null fun a w g H hH hh hg hτ => ?_⟩
    have h1 := hh x (by simp [ho, Op.operands]) _ hv
    simp only [V3, V2, V1, PCell] at h1
    obtain ⟨A, h1⟩ := h1
    refine ⟨.slice A 0 0, by simp [execOp, ho, h1], fun g' hg' => ?_⟩
    subst hg'
    exact own_null hH G.add_dom G.add_ρ
  · exact ⟨v, hp, h, move_ok (.inr ho) hv⟩

/-- a value that names no token -/
theorem purz_ok {z : AV} {κ : AV → List Blk → R} (h : purK [] z κ = some r) : ∃ z', κ z' [] = some r ∧ (cells z').length = (cells z).length ∧ (z ≠ .top) ∧
    ∀ (g : G) (H : List Blk) (w : World) (v : Value), V2 g H w z v → PE g w z' v := by
  have one : ∀ {v : AV} {κ : AV → List Blk → R}, pur1K [] v κ = some r → κ v [] = some r ∧ ∀ (g : G) (H : List Blk) (w : World) (u : Value), V1 g H w v u → PC g w v u := by
    intro v κ h
    cases v with
    | lst o c E xs =>
      simp only [pur1K] at h
      rcases cond_some h with ⟨_, h1⟩ | ⟨rfl, h1⟩
      · cases h1
      · exact ⟨h1, fun g H w u hh => hh⟩
    | _ => simp only [pur1K] at h; first
      | exact ⟨h, fun g H w u hh => hh⟩
      | (cases h; done)
      | (simp [getK] at h; done)
  have many : ∀ {l : List AV} {κ : List AV → List Blk → R}, pursK [] l κ = some r → κ l [] = some r ∧ ∀ (g : G) (H : List Blk) (w : World) (u : List Value), All2 (V1 g H w) l u → All2 (PC g w) l u := by
    intro l
    induction l with
    | nil => intro κ h; exact ⟨h, fun g H w u hh => by cases u with | nil => trivial | cons _ _ => exact hh.elim⟩
    | cons x l ih =>
      intro κ h
      simp only [pursK] at h
      obtain ⟨h, h1⟩ := one h
      obtain ⟨h, h2⟩ := ih h
      refine ⟨h, fun g H w u hh => ?_⟩
      cases u with
      | nil => exact hh.elim
      | cons v vs => exact ⟨h1 g H w v hh.1, h2 g H w vs hh.2⟩
  unfold purK at h
  split at h
  · obtain ⟨h, h1⟩ := many h
    exact ⟨_, h, rfl, by simp, fun g H w v ⟨vs, e, hv⟩ => by subst e; exact h1 g H w vs hv⟩
  · rename_i hne
    have hc : cells z = [z] := by
      cases z <;> first
        | rfl
        | exact absurd rfl (hne _)
    obtain ⟨h', h1⟩ := one h
    refine ⟨_, h', rfl, fun e => by subst e; simp [pur1K] at h, fun g H w v hv => ?_⟩
    have hv : V1 g H w z v := by
      cases z <;> first
        | exact hv
        | exact absurd rfl (hne _)
    unfold PE
    rw [hc, (V1_one hv).1]
    exact ⟨h1 g H w v hv, trivial⟩

theorem PFlat.take {g : G} {w : World} {E : Nat} : ∀ {n : Nat} {xs : List AV} {vs : List Value}, PFlat g w E xs vs → PFlat g w E (xs.take n) (vs.take (n * E))
  | 0, xs, vs, h => by simp [PFlat]
  | n + 1, [], vs, h => by simp only [PFlat] at h; subst h; simp [PFlat]
  | n + 1, x :: xs, vs, ⟨r, vs', e, h1, h2, h3⟩ => by
    subst e
    refine ⟨r, vs'.take (n * E), ?_, h1, h2, h3.take⟩
    rw [Nat.succ_mul, ← h1, All2_len h2, Nat.add_comm, List.take_length_add_append]

theorem makeSlice_step (hT : TOk P T) {t : TypeId} {l c : Operand} (ho : o.op = .makeSlice t l c) (h : (tyK T t fun _ _ _ _ d => match (generalizing := false) d with
    | .slice e => tyK T e fun E _ by_ z _ => evK tm l fun
      | .int _ l => evK tm c fun
        | .int _ c => bif Nat.beq by_ 0 then none else bif ile 0 l && ile l c && fits c by_ then
            purK [] z fun z _ => snocK hp (.rows .live E (lrep l z)) 0 fun n hp => κ (.own n E none false) hp else none
        | _ => none
      | _ => none
    | _ => none) = some r) : StepN P o tm hp κ r := by
  obtain ⟨s1, a1, b1, z1, d1, hs, h⟩ := tyK_some h
  split at h
  case h_2 => cases h
  rename_i e
  obtain ⟨E, a2, b2, z, d2, he, h⟩ := tyK_some h
  obtain ⟨v, hv, h⟩ := evK_some h
  split at h
  case h_2 => cases h
  rename_i k1 l'
  obtain ⟨v', hv', h⟩ := evK_some h
  split at h
  case h_2 => cases h
  rename_i k2 c'
  rcases cond_some h with ⟨_, h⟩ | ⟨hb0, h⟩
  · cases h
  have hb0 : b2 ≠ 0 := by intro e; subst e; cases hb0
  obtain ⟨hcond, h⟩ := cond_none h
  simp only [Bool.and_eq_true, ile_eq, fits_eq, decide_eq_true_eq] at hcond
  obtain ⟨z', h, hzl, hz, hpe⟩ := purz_ok h
  rw [snocK_eq, Nat.zero_add, lrep_eq] at h
  refine ⟨_, _, h, opN_new fun a w g H hH hh hg hτ => ?_⟩
  have h1 := V3_int.1 (hh l (by simp [ho, Op.operands]) _ hv)
  have h2 := V3_int.1 (hh c (by simp [ho, Op.operands]) _ hv')
  obtain ⟨u, hu, _, hr⟩ := (hT _ _ _ _ _ _ hs).underlying (w := w)
  simp only [DRel] at hr
  subst hr
  obtain ⟨i, hi, hi1, hi2, _⟩ := (hT _ _ _ _ _ _ he).typeInfo (w := w)
  obtain ⟨zv, e1, e2, e3⟩ := (hT _ _ _ _ _ _ he).zeroValue (w := w) hz
  have hsz := (hT _ _ _ _ _ _ he).sizeOf (w := w)
  have hb1 : c' * 1 ≤ c' * (b2 : Int) := Int.mul_le_mul_of_nonneg_left (by omega) (by omega)
  have w1 : IntKind.i64.wrap l' = l' := by
    simp [IntKind.wrap, IntKind.signed, IntKind.bits]
    omega
  have w2 : IntKind.i64.wrap c' = c' := by
    simp [IntKind.wrap, IntKind.signed, IntKind.bits]
    omega
  have hzero : (if c'.toNat * E = 0 then pure #[] else do pure (← Go.zeroValue e).cells : Sem (Array Value)).run P w = .ok (if c'.toNat * E = 0 then #[] else zv.cells) w := by
    by_cases h0 : c'.toNat * E = 0
    · rw [if_pos h0, if_pos h0]; simp
    · rw [if_neg h0, if_neg h0]; simp [e1]
  have hcells : ((Array.range (c'.toNat * E)).map (fun j => (if c'.toNat * E = 0 then #[] else zv.cells)[j % (if c'.toNat * E = 0 then #[] else zv.cells).size]!)).toList = (List.replicate c'.toNat zv.cells.toList).flatten := by
    by_cases h0 : c'.toNat * E = 0
    · rw [if_pos h0, h0]
      rcases Nat.mul_eq_zero.1 h0 with h0 | h0
      · simp [h0]
      · have : zv.cells.toList = [] := List.eq_nil_of_length_eq_zero (by simpa [e2] using h0)
        rw [this]; simp
    · rw [if_neg h0]
      have := flat_rep (zero := zv.cells) (n := c'.toNat) (.inl (by rw [e2]; exact Nat.pos_of_ne_zero fun h => h0 (by rw [h]; simp)))
      rw [e2] at this
      rw [e2]
      exact this
  refine ⟨.slice (some ⟨w.heap.size, 0, none⟩) l'.toNat c'.toNat, _, e, w.alloc (.cells ((Array.range (c'.toNat * E)).map (fun j => (if c'.toNat * E = 0 then #[] else zv.cells)[j % (if c'.toNat * E = 0 then #[] else zv.cells).size]!)) e), ?_, rfl, .refl w, ?_⟩
  · have hne1 : ¬ (c' < 0) := by omega
    have hne2 : ¬ ((b2 : Int) * c' > 2 ^ 48) := by rw [Int.mul_comm]; omega
    have hne3 : ¬ l' < 0 := by omega
    have hne4 : ¬ l' > c' := by omega
    simp only [execOp, ho, h1, h2, Instr.makeSlice, asInt, asIntOf, Sem.run_bind, hu, Result.andThen_ok, Sem.run_pure, hi, w1, w2, hi2]
    rw [if_neg (by simp [hne1, hne2, hne3, hne4]; omega)]
    simp only [Sem.run_bind]
    have hroom : (askRoom (c'.toNat * b2)).run P w = .ok () w := by simp
    simp only [hroom, Result.andThen_ok, hsz]
    by_cases h0 : c'.toNat * E = 0 <;> simp [newRow, h0, e1]
  · intro g' hg' ht
    subst hg'
    have hpl : PFlat (g.add hp.length (some (w.heap.size, 0))) (w.alloc (.cells ((Array.range (c'.toNat * E)).map (fun j => (if c'.toNat * E = 0 then #[] else zv.cells)[j % (if c'.toNat * E = 0 then #[] else zv.cells).size]!)) e)) E (List.replicate c'.toNat z') (List.replicate c'.toNat zv.cells.toList).flatten := by
      refine PFlat.rep ?_ (hpe _ [] _ zv (e3 _ _ _)) _
      have := All2_len (V2_cells (e3 g H w))
      rw [hzl, this]; simpa using e2
    have hlen := hpl.len
    have hpl2 := hpl.take (n := l'.toNat)
    rw [List.take_replicate, Nat.min_eq_left (by omega)] at hpl2
    refine ⟨.inr ⟨w.heap.size, 0, G.add_ρ, fun h => ?_, unf_push rfl (Nat.zero_le _), hpl2.rows fun j v hj => ?_⟩, ?_⟩
    · have := hg.lt _ h; omega
    · rw [Nat.zero_add, cell_push rfl, ← Array.getElem?_toList, hcells]
      rw [List.getElem?_take] at hj
      split at hj
      · exact hj
      · cases hj
    · have := own_new (E := E) (n := c'.toNat) (c := false) hH (G.add_dom (g := g) (p := some (w.heap.size, 0))) G.add_ρ (by simp; omega) (by simp) (w := w.alloc (.cells ((Array.range (c'.toNat * E)).map (fun j => (if c'.toNat * E = 0 then #[] else zv.cells)[j % (if c'.toNat * E = 0 then #[] else zv.cells).size]!)) e)) (unf_push rfl (by simp))
      simpa using this
end
end Go.AM
