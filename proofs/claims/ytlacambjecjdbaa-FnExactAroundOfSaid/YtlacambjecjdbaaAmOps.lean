import Derived.Test.YtlacambjecjdbaaAmNew
import Derived.Laws.Sem
import Derived.Laws.Cells
set_option linter.unusedVariables false
set_option linter.unusedSimpArgs false
set_option linter.unnecessarySimpa false
/-! The machine's operations do what the abstract ones do. -/
namespace Go.AM

def aggD : TypeDesc → Bool
  | .struct _ => true
  | .array _ _ => true
  | _ => false

def DRel : TD → TypeDesc → Prop
  | .int k, u => u = .int k
  | .bool, u => u = .bool
  | .str, u => u = .string
  | .slice e, u => u = .slice e
  | .array n e, u => u = .array n e
  | .struct fs _, u => ∃ fields : Array Field, u = .struct fields ∧ fs = fields.toList.map fun f => (f.offset, f.type)
  | .ptr e, u => u = .pointer e
  | .other, _ => True

structure TRel (P : Program) (t : TypeId) (s : Nat) (ag : Bool) (by_ : Nat) (z : AV) (d : TD) : Prop where
  info : ∃ i, P.info? t = some i ∧ i.size = s ∧ i.bytes = by_ ∧ (z = .top ∨ ∃ zv, i.zero = some zv ∧ zv.cells.size = s ∧ ∀ g H w, V2 g H w z zv)
  under : ∃ u, P.underlying t = some u ∧ ag = aggD u ∧ DRel d u
  flds : ∀ fields, P.underlying t = some (.struct fields) → ∀ f ∈ fields, ∃ i, P.info? f.type = some i
  eq : ∀ fs, d = .struct fs true → ∀ (xs ys : List Int), xs.length = s → ys.length = s → ∀ w,
    (Op.equal t (.agg ⟨xs.map (.int .i64)⟩) (.agg ⟨ys.map (.int .i64)⟩)).run P w = .ok (decide (xs = ys)) w ∧
    P.eqGuardType P.depth t = false

def TOk (P : Program) (T : TypeId → Option TI) : Prop := ∀ t s ag by_ z d, T t = some (.mk s ag by_ z d) → TRel P t s ag by_ z d

section
variable {P : Program} {t : TypeId} {s : Nat} {ag : Bool} {by_ : Nat} {z : AV} {d : TD} {w : World}

theorem TRel.typeInfo (h : TRel P t s ag by_ z d) : ∃ i, (Go.typeInfo t).run P w = .ok i w ∧ i.size = s ∧ i.bytes = by_ ∧ (z = .top ∨ ∃ zv, i.zero = some zv ∧ zv.cells.size = s ∧ ∀ g H w, V2 g H w z zv) := by
  obtain ⟨i, hi, h1, h2, h3⟩ := h.info
  exact ⟨i, by simp [Go.typeInfo, hi], h1, h2, h3⟩
theorem TRel.sizeOf (h : TRel P t s ag by_ z d) : (Go.sizeOf t).run P w = .ok s w := by
  obtain ⟨i, hi, h1, h2, h3⟩ := h.typeInfo (w := w)
  simp [Go.sizeOf, hi, h1]
theorem TRel.underlying (h : TRel P t s ag by_ z d) : ∃ u, (Go.underlying t).run P w = .ok u w ∧ ag = aggD u ∧ DRel d u := by
  obtain ⟨u, hu, h1, h2⟩ := h.under
  exact ⟨u, by simp [Go.underlying, hu], h1, h2⟩
theorem TRel.isAgg (h : TRel P t s ag by_ z d) : (Go.isAgg t).run P w = .ok ag w := by
  obtain ⟨u, hu, h1, h2⟩ := h.underlying (w := w)
  subst h1
  simp only [Go.isAgg, Sem.run_bind, hu, Result.andThen_ok]
  cases u <;> simp [aggD]
theorem TRel.zeroValue (h : TRel P t s ag by_ z d) (hz : z ≠ .top) : ∃ zv, (Go.zeroValue t).run P w = .ok zv w ∧ zv.cells.size = s ∧ ∀ g H w, V2 g H w z zv := by
  obtain ⟨i, hi, h1, h2, h3⟩ := h.typeInfo (w := w)
  obtain ⟨zv, hz1, hz2, hz3⟩ := h3.resolve_left hz
  exact ⟨zv, by simp [Go.zeroValue, hi, hz1], hz2, hz3⟩
end

/-- an operation that neither writes nor spends a token: at whatever time it is carried out -/
def OpN (P : Program) (o : Oper) (tm : List AV) (hp : List Blk) (v : AV) (hp' : List Blk) : Prop :=
  hp <+: hp' ∧ ∀ (Q : Exit → Act → World → Prop) (a : Act) (w : World) (g : G) (H : List Blk) (N : Act → World → Prop), hp' <+: H →
    (∀ τ, g.dom τ → τ < hp.length ∨ hp'.length ≤ τ) → (∀ x ∈ o.op.operands, ∀ u, evD tm x = some u → V3 g H w u (a.eval x)) → Good g H w →
    (∀ vv w' g', (∀ b, b < w.heap.size → w'.heap[b]? = w.heap[b]?) → Trans g H w g' H w' → Good g' H w' → (∀ τ, g'.dom τ ↔ g.dom τ ∨ (hp.length ≤ τ ∧ τ < hp'.length)) → V3 g' H w' v vv →
      (∀ τ, hp.length ≤ τ → τ < hp'.length → ∀ b o, g'.ρ τ = some (b, o) → w.heap.size ≤ b) → N (a.put o.dst vv) w') →
    o.wp P a w N Q

/-- blocks that an operation may write -/
def wrB (o : Oper) (a : Act) (b : Nat) : Prop :=
  match o.op with
  | .store _ x _ => ∃ k, a.eval x = .pointer (some ⟨b, k, none⟩)
  | .buildSlice _ _ _ => False
  | _ => True

/-- one that writes, or spends a token: everything that stands ahead of it is done -/
def OpM (P : Program) (o : Oper) (tm : List AV) (hp : List Blk) (v : AV) (hp' : List Blk) : Prop :=
  ∀ (Q : Exit → Act → World → Prop) (a : Act) (w : World) (g : G) (N : Act → World → Prop),
    (∀ τ, g.dom τ ↔ τ < hp.length) → (∀ x ∈ o.op.operands, ∀ u, evD tm x = some u → V3 g hp w u (a.eval x)) → Good g hp w →
    (∀ vv w' g', Trans g hp w g' hp' w' → Good g' hp' w' → (∀ τ, g'.dom τ ↔ τ < hp'.length) → V3 g' hp' w' v vv → (∀ b, b < w.heap.size → ¬ wrB o a b → w'.heap[b]? = w.heap[b]?) → N (a.put o.dst vv) w') →
    o.wp P a w N Q

theorem opN_pure {P : Program} {o : Oper} {tm : List AV} {hp : List Blk} {v : AV}
    (h : ∀ (a : Act) (w : World) (g : G) (H : List Blk), hp <+: H → (∀ τ, g.dom τ → τ < hp.length ∨ hp.length ≤ τ) → (∀ x ∈ o.op.operands, ∀ u, evD tm x = some u → V3 g H w u (a.eval x)) → Good g H w →
      ∃ vv, (execOp a.eval o).run P w = .ok (.value vv) w ∧ V3 g H w v vv) : OpN P o tm hp v hp := by
  refine ⟨List.prefix_refl _, fun Q a w g H N hH hd hx hg hN => ?_⟩
  obtain ⟨vv, hr, hv⟩ := h a w g H hH hd hx hg
  simp only [Oper.wp, hr, Oper.upon]
  exact hN vv w g (fun _ _ => rfl) (Trans.refl g H w) hg (fun τ => ⟨.inl, fun h => h.resolve_right (by omega)⟩) hv (fun τ h1 h2 => by omega)

theorem const_V3 {g : G} {H : List Blk} {w : World} {v : Value} {u : AV} (h : constD v = some u) : V3 g H w u v := by
  unfold constD at h
  split at h <;> first
    | (cases h; simp [V3, V2, V1, PCell]; done)
    | cases h

theorem move_ok {P : Program} {o : Oper} {tm : List AV} {hp : List Blk} {x : Operand} {v : AV} (ho : o.op = .move x ∨ o.op = .assign x) (hv : evD tm x = some v) : OpN P o tm hp v hp := by
  refine opN_pure fun a w g H _ _ hx _ => ⟨a.eval x, ?_, hx x ?_ v hv⟩
  · rcases ho with ho | ho <;> simp [execOp, ho]
  · rcases ho with ho | ho <;> simp [ho, Op.operands]
end Go.AM
