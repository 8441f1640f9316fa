import Derived.Test.YtlacambjecjdbaaAmMake
set_option linter.unusedVariables false
set_option linter.unusedSimpArgs false
set_option linter.unnecessarySimpa false
/-! buildSlice: a row written at once; own slices in it are frozen. -/
namespace Go.AM

section
variable {P : Program} {T : TypeId → Option TI} {o : Oper} {tm : List AV} {hp : List Blk} {κ : AV → List Blk → R} {r : AV × List Blk}

theorem repK_eq : ∀ (n : Nat) (v : AV) (κ : List AV → R), repK n v κ = κ (List.replicate n v)
  | 0, _, _ => rfl
  | n + 1, v, κ => by simp [repK, repK_eq n, List.replicate_succ]

/-- more blocks behind -/
theorem Trans.ext {g : G} {H H' : List Blk} {w : World} (hp : H <+: H') (hd : ∀ τ, g.dom τ → τ < H.length) : Trans g H w g H' w where
  dom _ h := h
  ρ _ _ := rfl
  S _ h := h
  Sl _ h := h
  newS _ h := .inl h
  newSl _ h := .inl h
  size := Nat.le_refl _
  shape := .refl w
  env := .refl w
  prot _ _ _ := rfl
  own b h := by
    obtain ⟨τ, o, h1, h2, blk, h3, h4⟩ := h
    refine .inr ⟨τ, o, h1, h2, blk, ?_, h4⟩
    obtain ⟨L, rfl⟩ := hp
    rw [List.getElem?_append_left (hd τ h1)] at h3
    exact h3
  len τ h m E xs hx hm := by
    obtain ⟨L, rfl⟩ := hp
    rw [List.getElem?_append_left (hd τ h)] at hx
    exact ⟨m, xs, hx, hm, rfl⟩
  box τ h y hy := by
    obtain ⟨L, rfl⟩ := hp
    rw [List.getElem?_append_left (hd τ h)] at hy
    exact ⟨y, hy⟩

theorem Good.ext {g : G} {H H' : List Blk} {w : World} (hg : Good g H w) (hp : H <+: H') (hd : ∀ τ, g.dom τ → τ < H.length) : Good g H' w where
  sub := hg.sub
  lt := hg.lt
  tok x hx := by
    obtain ⟨blk, hb, hr⟩ := hg.tok x hx
    exact ⟨blk, prefix_get hp hb, hr.trans (Trans.ext hp hd) hg hx fun b o hρ ho => ⟨rfl, Own.notS hg ⟨x, o, hx, hρ, owned_of hb ho⟩⟩⟩
  inj x y b o o' hx hy h1 h2 h3 h4 := by
    have key : ∀ z, g.dom z → owned H' z → owned H z := by
      rintro z hz ⟨blk, h5, h6⟩
      obtain ⟨L, rfl⟩ := hp
      rw [List.getElem?_append_left (hd z hz)] at h5
      exact ⟨blk, h5, h6⟩
    exact hg.inj x y b o o' hx hy h1 h2 (key x hx h3) (key y hy h4)

theorem elems_ok {E : Nat} : ∀ {ps : List (Nat × Operand)} {xs : List AV} {hp : List Blk} {κ : List AV → List Blk → R}, elemsK E tm hp ps xs κ = some r →
      ∃ xs' hp', κ xs' hp' = some r ∧ hp'.length = hp.length ∧ xs'.length = xs.length ∧ ∀ (g : G) (w : World) (a : Act), Good g hp w →
        (∀ x ∈ ps.map (·.2), ∀ u, evD tm x = some u → V3 g hp w u (a.eval x)) → ∀ vs : List Value, PFlat g w E xs vs →
        ∃ g', Trans g hp w g' hp' w ∧ Good g' hp' w ∧ g'.dom = g.dom ∧
          ∃ vs', Instr.fill (fun i => some (i * E, E)) vs.toArray (ps.map fun (i, x) => (i, a.eval x)) = some vs'.toArray ∧ PFlat g' w E xs' vs'
  | [], xs, hp, κ, h => ⟨xs, hp, h, rfl, rfl, fun g w a hg _ vs hv => ⟨g, Trans.refl g hp w, hg, rfl, vs, rfl, hv⟩⟩
  | (i, x) :: l, xs, hp, κ, h => by
    simp only [elemsK] at h
    obtain ⟨v, hv, h⟩ := evK_some h
    rw [lenK_eq, Nat.zero_add] at h
    obtain ⟨hE, h⟩ := beqE_some h
    rw [lenK_eq, Nat.zero_add] at h
    obtain ⟨hi, h'⟩ := cond_none h
    have hi := Nat.le_of_ble_eq_true hi
    obtain ⟨v', hp1, h, hl, hV, hlen, hf⟩ := pur_ok h'
    rw [setK_eq] at h
    obtain ⟨xs', hp2, h, h2, h3, h4⟩ := elems_ok h
    refine ⟨xs', hp2, h, by omega, by simpa using h3, fun g w a hg hh vs hvs => ?_⟩
    have hx := hV _ _ _ _ (hh x (by simp) v hv)
    obtain ⟨g1, ht1, hg1, hd1, hp1⟩ := hf g w _ hg hx
    have hps := PFlat.set (i := i) (hl.trans hE) hp1 (hvs.trans ht1 hg) (by omega)
    obtain ⟨g2, ht2, hg2, hd2, vs', h5, h6⟩ := h4 g1 w a hg1 (fun y hy u hu => (hh y (by simp at hy ⊢; exact .inr hy) u hu).trans ht1 hg) _ hps
    refine ⟨g2, ht1.trans ht2, hg2, hd2.trans hd1, vs', ?_, h6⟩
    have hsz : (a.eval x).cells.size = E := by
      have := All2_len hp1
      rw [hl, hE] at this
      simpa using this.symm
    have hle : (i + 1) * E ≤ xs.length * E := Nat.mul_le_mul_right _ hi
    rw [List.map_cons, fill_one (off := i * E) (size := E) rfl hsz (by rw [hsz]; simp only [List.size_toArray]; rw [hvs.len, ← Nat.succ_mul]; exact hle)]
    exact h5

theorem buildSlice_step (hT : TOk P T) {t : TypeId} {n : Nat} {ps : Array (Nat × Operand)} (ho : o.op = .buildSlice t n ps) (h : (tyK T t fun _ _ _ _ d => match (generalizing := false) d with
    | .slice e => tyK T e fun E _ _ z _ => bif Nat.ble (n * E) 16777216 then purK [] z fun z _ => repK n z fun xs => elemsK E tm hp ps.toList xs fun xs hp => snocK hp (.rows .live E xs) 0 fun n hp => κ (.own n E none false) hp else none
    | _ => none) = some r) : StepM P o tm hp κ r := by
  obtain ⟨s1, a1, b1, z1, d1, hs, h⟩ := tyK_some h
  split at h
  case h_2 => cases h
  rename_i e
  obtain ⟨E, a2, b2, z, d2, he, h⟩ := tyK_some h
  obtain ⟨hn, h⟩ := cond_none h
  have hn := Nat.le_of_ble_eq_true hn
  obtain ⟨z', h, hzl, hz, hpe⟩ := purz_ok h
  rw [repK_eq] at h
  obtain ⟨xs, hp1, h, h1, h2, h3⟩ := elems_ok h
  rw [snocK_eq, Nat.zero_add] at h
  refine ⟨_, _, h, fun Q a w g N hd hh hg hN => ?_⟩
  obtain ⟨u, hu, _, hr⟩ := (hT _ _ _ _ _ _ hs).underlying (w := w)
  simp only [DRel] at hr
  subst hr
  obtain ⟨zv, e1, e2, e3⟩ := (hT _ _ _ _ _ _ he).zeroValue (w := w) hz
  have hsz := (hT _ _ _ _ _ _ he).sizeOf (w := w)
  have hpl : PFlat g w E (List.replicate n z') (List.replicate n zv.cells.toList).flatten := by
    refine PFlat.rep ?_ (hpe _ [] _ zv (e3 _ _ _)) _
    have := All2_len (V2_cells (e3 g hp w))
    rw [hzl, this]; simpa using e2
  obtain ⟨g1, ht1, hg1, hd1, vs', h5, h6⟩ := h3 g w a hg (fun x hx => hh x (by rw [ho]; simp [Op.operands]; simpa using hx)) _ hpl
  have hcells : ((Array.range (n * E)).map (fun j => (if n * E = 0 then #[] else zv.cells)[j % (if n * E = 0 then #[] else zv.cells).size]!)) = (List.replicate n zv.cells.toList).flatten.toArray := by
    apply Array.ext'
    by_cases h0 : n * E = 0
    · rw [if_pos h0, h0]
      rcases Nat.mul_eq_zero.1 h0 with h0 | h0
      · simp [h0]
      · have : zv.cells.toList = [] := List.eq_nil_of_length_eq_zero (by simpa [e2] using h0)
        rw [this]; simp
    · rw [if_neg h0]
      have := flat_rep (zero := zv.cells) (n := n) (.inl (by rw [e2]; exact Nat.pos_of_ne_zero fun h => h0 (by rw [h]; simp)))
      rw [e2] at this
      rw [e2]
      exact this
  rw [← hcells] at h5
  have hrun : (execOp a.eval o).run P w = .ok (.value (.slice (some ⟨w.heap.size, 0, none⟩) n n)) (w.alloc (.cells vs'.toArray e)) := by
    simp only [execOp, ho, Instr.buildSlice, Sem.run_bind, hu, Result.andThen_ok, hsz]
    rw [if_neg (by omega)]
    have h5' : Instr.fill (fun i => some (i * E, E)) (Array.map (fun x => (if n * E = 0 then #[] else zv.cells)[x % (if n * E = 0 then #[] else zv.cells).size]!) (Array.range (n * E))) (ps.map fun (i, x) => (i, a.eval x)).toList = some vs'.toArray := by
      rw [Array.toList_map]; exact h5
    by_cases h0 : n * E = 0
    · simp only [h0, if_true] at h5' ⊢
      simp only [Sem.run_bind, Sem.run_pure, Result.andThen_ok, h5']
      simp [newRow]
    · simp only [h0, if_false] at h5' ⊢
      simp only [Sem.run_bind, Sem.run_pure, Result.andThen_ok, e1, h5']
      simp [newRow]
  have hdd : ∀ τ, g1.dom τ → τ < hp1.length := fun τ h => by rw [hd1] at h; have := (hd τ).1 h; omega
  have hpre : hp1 <+: hp1 ++ [.rows .live E xs] := List.prefix_append _ _
  have hg2 := hg1.ext hpre hdd
  have hτ : ¬ g1.dom hp1.length := fun h => by have := hdd _ h; omega
  have ht3 := Trans.push (w1 := w.alloc (.cells vs'.toArray e)) hg2 hτ (cs := vs'.toArray) (el := e) rfl (.refl w)
  have h7 := h6.trans ((Trans.ext hpre hdd).trans ht3) hg1
  simp only [Oper.wp, hrun, Oper.upon]
  have hb : BlkRel (g1.add hp1.length (some (w.heap.size, 0))) (hp1 ++ [.rows .live E xs]) (w.alloc (.cells vs'.toArray e)) hp1.length (.rows .live E xs) := by
    refine .inr ⟨w.heap.size, 0, G.add_ρ, fun h => ?_, unf_push rfl (Nat.zero_le _), h7.rows fun j v hj => ?_⟩
    · have := hg1.lt _ h; omega
    · rw [Nat.zero_add, cell_push rfl]; simpa using hj
  refine hN _ _ _ (ht1.trans ((Trans.ext hpre hdd).trans ht3)) (Good.push hg2 hτ rfl (.refl w) (prefix_last (List.prefix_refl _)) hb) (fun τ => ?_) ?_ ?_
  · simp only [G.add, hd1, hd, List.length_append, List.length_singleton]; omega
  rotate_left
  · intro b hb _
    exact heap_alloc_old hb
  · have hl : xs.length = n := by rw [h2]; simp
    have := own_new (E := E) (n := n) (c := false) (xs := xs) (List.prefix_refl (hp1 ++ [.rows .live E xs])) (G.add_dom (g := g1) (p := some (w.heap.size, 0))) G.add_ρ (by omega) (by simp) (w := w.alloc (.cells vs'.toArray e)) (unf_push rfl (by simp; rw [h6.len, hl]; exact Nat.le_refl _))
    rw [hl] at this
    exact this
end
end Go.AM
