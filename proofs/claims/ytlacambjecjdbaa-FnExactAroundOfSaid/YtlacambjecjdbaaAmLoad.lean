import Derived.Test.YtlacambjecjdbaaAmIdx
set_option linter.unusedVariables false
set_option linter.unusedSimpArgs false
set_option linter.unnecessarySimpa false
/-! Loads. -/
namespace Go.AM

section
variable {P : Program} {T : TypeId → Option TI} {o : Oper} {tm : List AV} {hp : List Blk} {κ : AV → List Blk → R} {r : AV × List Blk}

theorem V1_of_PCell {g : G} {H : List Blk} {w : World} {x : AV} {v : Value} (h : PCell g.S g.Sl w x v) : V1 g H w x v := by
  cases x <;> first
    | exact h
    | (simp [PCell] at h)

theorem V1s_of_PCells {g : G} {H : List Blk} {w : World} : ∀ {cs : List AV} {b k : Nat}, PCells g.S g.Sl w cs b k → V1s g H w cs b k
  | [], _, _, _ => trivial
  | _ :: _, _, _, ⟨⟨v, hv, h⟩, hr⟩ => ⟨⟨v, hv, V1_of_PCell h⟩, V1s_of_PCells hr⟩

theorem V1s_get {g : G} {H : List Blk} {w : World} : ∀ {cs : List AV} {b k i : Nat} {x : AV}, V1s g H w cs b k → cs[i]? = some x → ∃ v, w.cell? ⟨b, k + i, none⟩ = some v ∧ V1 g H w x v
  | [], _, _, _, _, _, h => by simp at h
  | y :: cs, b, k, 0, x, h, hx => by
    simp at hx; subst hx; simpa using h.1
  | y :: cs, b, k, i + 1, x, h, hx => by
    have := V1s_get (i := i) h.2 (by simpa using hx)
    rwa [show k + (i + 1) = k + 1 + i by omega]

theorem V1s_all {g : G} {H : List Blk} {w : World} : ∀ {cs : List AV} {b k : Nat}, V1s g H w cs b k → ∃ vs : List Value, All2 (V1 g H w) cs vs ∧ vs.length = cs.length ∧ ∀ (j : Nat) v, vs[j]? = some v → w.cell? ⟨b, k + j, none⟩ = some v
  | [], _, _, _ => ⟨[], trivial, rfl, fun j v h => by simp at h⟩
  | c :: cs, b, k, ⟨⟨v, hv, h⟩, hr⟩ => by
    obtain ⟨vs, h1, h2, h3⟩ := V1s_all hr
    refine ⟨v :: vs, ⟨h, h1⟩, by simp [h2], fun j u hj => ?_⟩
    cases j with
    | zero => simp at hj; subst hj; simpa using hv
    | succ j => rw [show k + (j + 1) = k + 1 + j by omega]; exact h3 j u (by simpa using hj)

theorem V1s_drop {g : G} {H : List Blk} {w : World} : ∀ {n : Nat} {cs : List AV} {b k : Nat}, V1s g H w cs b k → V1s g H w (cs.drop n) b (k + n)
  | 0, _, _, _, h => h
  | n + 1, [], _, _, _ => trivial
  | n + 1, c :: cs, b, k, h => by
    have := V1s_drop (n := n) h.2
    rwa [show k + (n + 1) = k + 1 + n by omega]
theorem V1s_take {g : G} {H : List Blk} {w : World} : ∀ {n : Nat} {cs : List AV} {b k : Nat}, V1s g H w cs b k → V1s g H w (cs.take n) b k
  | 0, _, _, _, _ => by simp [V1s]
  | n + 1, [], _, _, _ => trivial
  | n + 1, c :: cs, b, k, h => ⟨h.1, V1s_take h.2⟩

theorem loadCells_run {w : World} {b k : Nat} {vs : List Value} (h : ∀ (j : Nat) v, vs[j]? = some v → w.cell? ⟨b, k + j, none⟩ = some v) :
    (loadCells ⟨b, k, none⟩ vs.length).run P w = .ok vs.toArray w :=
  run_loadCells_list w ⟨b, k, none⟩ vs fun j v hj => by rw [addr_add]; exact h j v hj

theorem V3_of_V1 {g : G} {H : List Blk} {w : World} {x : AV} {v : Value} (h : V1 g H w x v) : V3 g H w x v := by
  cases x <;> first
    | exact h
    | (simp [V1, PCell] at h)

/-- another world, in which the cells that stand here stand as they stand here -/
def Same (w w2 : World) : Prop := ∀ b, b < w.heap.size → w2.heap[b]? = w.heap[b]?

theorem Same.refl (w : World) : Same w w := fun _ _ => rfl

theorem Same.cell {w w2 : World} (h : Same w w2) {b k : Nat} {v : Value} (hc : w.cell? ⟨b, k, none⟩ = some v) : w2.cell? ⟨b, k, none⟩ = some v := by
  have hb : b < w.heap.size := by
    rcases Nat.lt_or_ge b w.heap.size with h' | h'
    · exact h'
    · simp [World.cell?, Array.getElem?_eq_none h'] at hc
  rw [← hc]
  simp [World.cell?, h b hb]

theorem load_agg {g : G} {H : List Blk} {w : World} {t : TypeId} {sz by_ : Nat} {z : AV} {d : TD} (ht : TRel P t sz true by_ z d) {cs : List AV} {b k : Nat}
    (h : V1s g H w cs b k) (hl : cs.length = sz) : ∃ vv, (∀ w2, Same w w2 → (loadVar t ⟨b, k, none⟩).run P w2 = .ok vv w2) ∧ V3 g H w (.agg cs) vv := by
  obtain ⟨vs, h1, h2, h3⟩ := V1s_all h
  refine ⟨.agg ⟨vs⟩, fun w2 hs => ?_, vs, rfl, h1⟩
  have := loadCells_run (P := P) (w := w2) fun j v hj => hs.cell (h3 j v hj)
  rw [h2, hl] at this
  simp [loadVar, ht.isAgg, ht.sizeOf, this]

theorem load_one {g : G} {H : List Blk} {w : World} {t : TypeId} {sz by_ : Nat} {z : AV} {d : TD} (ht : TRel P t sz false by_ z d) {x : AV} {b k : Nat} {v : Value}
    (h : w.cell? ⟨b, k, none⟩ = some v) (hv : V1 g H w x v) : ∃ vv, (∀ w2, Same w w2 → (loadVar t ⟨b, k, none⟩).run P w2 = .ok vv w2) ∧ V3 g H w x vv :=
  ⟨v, fun w2 hs => by simp [loadVar, ht.isAgg, hs.cell h], V3_of_V1 hv⟩

theorem part_load {v : AV} {sz off : Nat} {ag : Bool} {κ : AV → R} (h : partK sz ag v off κ = some r) : ∃ u, κ u = some r ∧
    ∀ (g : G) (H : List Blk) (w : World) (t : TypeId) (by_ : Nat) (z : AV) (d : TD) (b k : Nat), TRel P t sz ag by_ z d → V1s g H w (cells v) b k →
      ∃ vv, (∀ w2, Same w w2 → (loadVar t ⟨b, k + off, none⟩).run P w2 = .ok vv w2) ∧ V3 g H w u vv := by
  unfold partK at h
  split at h
  · rename_i cs
    rcases cond_some h with ⟨h0, h'⟩ | ⟨h0, h⟩
    · simp only [Bool.and_eq_true] at h0
      have e1 := beq_eq h0.1
      have e2 := beq_eq h0.2
      subst e1
      exact ⟨_, h', fun g H w t by_ z d b k ht hv => load_agg ht hv e2.symm⟩
    · obtain ⟨h1, h⟩ := dropK_some h
      obtain ⟨h2, h⟩ := takeK_some h
      exact ⟨_, h, fun g H w t by_ z d b k ht hv => load_agg ht (V1s_take (V1s_drop hv)) (by simp at h2 ⊢; omega)⟩
  · obtain ⟨x, hx, h⟩ := getK_some h
    refine ⟨_, h, fun g H w t by_ z d b k ht hv => ?_⟩
    obtain ⟨v, hc, hv⟩ := V1s_get hv hx
    exact load_one ht hc hv
  · cases h
  · cases h
  · rename_i h1 h2 h3
    obtain ⟨h0, h'⟩ := cond_none h
    have e1 := beq_eq h0
    subst e1
    refine ⟨_, h', fun g H w t by_ z d b k ht hv => ?_⟩
    have hc : cells v = [v] := by
      cases v <;> first
        | rfl
        | exact absurd rfl (h1 _)
    rw [hc] at hv
    obtain ⟨⟨u, hu, hv⟩, _⟩ := hv
    exact load_one ht hu hv
  · cases h

/-- an operation that yields its value in every world that has the cells of this one (where 'ld' is false: in every world) -/
def StepE (P : Program) (ld : Bool) (o : Oper) (tm : List AV) (hp : List Blk) (κ : AV → List Blk → R) (r : AV × List Blk) : Prop :=
  ∃ v, κ v hp = some r ∧ ∀ (a : Act) (w : World) (g : G) (H : List Blk), hp <+: H → (∀ x ∈ o.op.operands, ∀ u, evD tm x = some u → V3 g H w u (a.eval x)) → Good g H w →
    ∃ vv, (∀ w2, (ld = true → Same w w2) → (execOp a.eval o).run P w2 = .ok (.value vv) w2) ∧ V3 g H w v vv

theorem StepE.toN {ld : Bool} (h : StepE P ld o tm hp κ r) : StepN P o tm hp κ r := by
  obtain ⟨v, h1, h2⟩ := h
  refine ⟨v, hp, h1, opN_pure fun a w g H hH _ hh hg => ?_⟩
  obtain ⟨vv, h3, h4⟩ := h2 a w g H hH hh hg
  exact ⟨vv, h3 w fun _ => .refl w, h4⟩

theorem load_stepE (hT : TOk P T) {t : TypeId} {x : Operand} (ho : o.op = .load t x) (h : (tyK T t fun sz ag _ _ _ => evK tm x fun
    | .ptr τ idx off E => getK hp τ fun
      | .box v => partK sz ag v off fun v => κ v hp
      | .rows m E' xs => bif Nat.beq E E' then match (generalizing := false) m with
        | .dead => none
        | _ => gbind (lget xs idx) fun x => partK sz ag x off fun v => κ v hp
        else none
    | .at v off => partK sz ag v off fun v => κ v hp
    | _ => none) = some r) : StepE P true o tm hp κ r := by
  obtain ⟨sz, ag, b1, z1, d1, hs, h⟩ := tyK_some h
  obtain ⟨v, hv, h⟩ := evK_some h
  have go : ∀ {y : AV} {off : Nat}, (partK sz ag y off fun v => κ v hp) = some r →
      (∀ (a : Act) (w : World) (g : G) (H : List Blk), hp <+: H → V3 g H w v (a.eval x) → Good g H w → ∃ b k, a.eval x = .pointer (some ⟨b, k + off, none⟩) ∧ V1s g H w (cells y) b k) → StepE P true o tm hp κ r := by
    intro y off hp1 hq
    obtain ⟨u, hu, h3⟩ := part_load hp1
    refine ⟨u, hu, fun a w g H hH hh hg => ?_⟩
    obtain ⟨b, k, he, hc⟩ := hq a w g H hH (hh x (by simp [ho, Op.operands]) _ hv) hg
    obtain ⟨vv, h4, h5⟩ := h3 g H w t b1 z1 d1 b k (hT _ _ _ _ _ _ hs) hc
    exact ⟨vv, fun w2 hs => by simp only [execOp, ho, he, Instr.loadAt, Instr.sureAddr, Sem.run_bind, Sem.run_pure, Result.andThen_ok, h4 w2 (hs rfl)], h5⟩
  split at h
  · rename_i τ idx off E
    obtain ⟨blk, hb, h⟩ := getK_some h
    split at h
    · rename_i y
      refine go h fun a w g H hH hx hg => ?_
      obtain ⟨hd, hz, b, base, n, h1, h2, h3⟩ := hx
      obtain ⟨blk', h4, h5⟩ := hg.tok τ hd
      rw [prefix_get hH hb] at h4
      cases h4
      obtain ⟨b', o', h6, _, _, h7⟩ := h5
      rw [h1] at h6
      cases h6
      have h8 := hz _ (prefix_get hH hb)
      have h9 : n = 0 := by omega
      subst h9
      exact ⟨b, base, by simpa using h3, h7⟩
    · rename_i m E' xs
      obtain ⟨rfl, h'⟩ := beqE_some h
      split at h'
      · cases h'
      · rename_i hm
        obtain ⟨y, hy, h2⟩ := gbind_some h'
        refine go h2 fun a w g H hH hx hg => ?_
        obtain ⟨hd, _, b, base, n, h1, hn, h3⟩ := hx
        obtain ⟨blk', h4, h5⟩ := hg.tok τ hd
        rw [prefix_get hH hb] at h4
        cases h4
        obtain ⟨h0, _, hy⟩ := lget_some hy
        refine ⟨b, base + n * E, h3, V1s_of_PCells ?_⟩
        have hn' : idx.toNat = n := by omega
        rw [hn'] at hy
        cases m with
        | dead => exact absurd rfl hm
        | live =>
          rcases h5 with ⟨h6, _⟩ | ⟨b', o', h6, _, _, h7⟩
          · rw [h1] at h6; cases h6
          · rw [h1] at h6; cases h6; exact (PRows_get h7 hy).2.weak
        | frozen =>
          rcases h5 with ⟨h6, _⟩ | ⟨b', o', h6, _, _, h7⟩
          · rw [h1] at h6; cases h6
          · rw [h1] at h6; cases h6; exact (PRows_get h7 hy).2.weak
  · rename_i y off
    refine go h fun a w g H hH hx hg => ?_
    obtain ⟨b, k, h1, _, h2⟩ := hx
    exact ⟨b, k, h1, V1s_of_PCells h2.2⟩
  · cases h
theorem load_step (hT : TOk P T) {t : TypeId} {x : Operand} (ho : o.op = .load t x) (h : (tyK T t fun sz ag _ _ _ => evK tm x fun
    | .ptr τ idx off E => getK hp τ fun
      | .box v => partK sz ag v off fun v => κ v hp
      | .rows m E' xs => bif Nat.beq E E' then match (generalizing := false) m with
        | .dead => none
        | _ => gbind (lget xs idx) fun x => partK sz ag x off fun v => κ v hp
        else none
    | .at v off => partK sz ag v off fun v => κ v hp
    | _ => none) = some r) : StepN P o tm hp κ r :=
  (load_stepE hT ho h).toN
end
end Go.AM
