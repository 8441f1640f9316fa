import Derived.Test.YtlacambjecjdbaaAmRun
set_option linter.unusedVariables false
set_option linter.unusedSimpArgs false
set_option linter.unnecessarySimpa false
/-! All functions of a program together; what a table of types says, checked by evaluation. -/
namespace Go.AM

/-- functions by their runs, to a depth; `X` are told otherwise -/
noncomputable def callN (T : TypeId → Option TI) (F : FuncId → Option Func) (X : CF) (isX : FuncId → Bool) (sh : FuncId → Bool) (keep : FuncId → Nat → List (Tmp × Nat)) (L : Nat) : Nat → CF
  | 0, _, _, _ => none
  | n + 1, f, args, hp => bif isX f then X f args hp else match F f with
    | some fn => run T (callN T F X isX sh keep L n) sh (keep f) L fn args hp
    | none => none

noncomputable def bodyOk (sh : FuncId → Bool) (keep : Nat → List (Tmp × Nat)) (fn : Func) : Bool :=
  match fn.body with
  | some c => codeOk sh keep c
  | none => false

def entB (fn : Func) : Bool := !(fn.name == "runtime.NumGoroutine") && !fn.body.isNone

theorem callN_sound {P : Program} {T : TypeId → Option TI} {F : FuncId → Option Func} {X : CF} {isX : FuncId → Bool} {sh : FuncId → Bool} {keep : FuncId → Nat → List (Tmp × Nat)} {L : Nat} (hT : TOk P T) (hm : P.follows .mixedOrders = true)
    (hF : ∀ f fn, F f = some fn → P.funcs[f]? = some fn ∧ bodyOk sh (keep f) fn = true ∧ entB fn = true) (hX : CSound P fun f args hp => bif isX f then X f args hp else none) : ∀ n, CSound P (callN T F X isX sh keep L n)
  | 0 => fun f args hp res hp' h => by cases h
  | n + 1 => fun f args hp res hp' h => by
    simp only [callN] at h
    cases hx : isX f with
    | true =>
      rw [hx] at h
      exact hX f args hp res hp' (by simp only [hx]; exact h)
    | false =>
      rw [hx] at h
      simp only [cond_false] at h
      split at h
      · rename_i fn hfn
        obtain ⟨h1, h2, h3⟩ := hF f fn hfn
        simp only [entB, Bool.and_eq_true, Bool.not_eq_true'] at h3
        refine ⟨⟨fn, h1, h3.1, h3.2⟩, fun g w vs hg hd hv => ?_⟩
        exact run_ok hT (callN_sound hT hm hF hX n) hm h1 (fun c hc => by unfold bodyOk at h2; rw [hc] at h2; exact h2) h hg hd hv
      · cases h

/-- no function is told otherwise -/
theorem noX_sound {P : Program} {X : CF} {isX : FuncId → Bool} (h : ∀ f, isX f = false) : CSound P fun f args hp => bif isX f then X f args hp else none := fun f args hp res hp' hh => by
  simp [h] at hh

/-! types -/
def zOk1 : AV → Value → Bool
  | .int k n, v => match v with | .int k' n' => decide (k = k') && decide (n = n') | _ => false
  | .bool b, v => match v with | .bool b' => b == b' | _ => false
  | .str l, v => match v with | .string ⟨⟨l'⟩⟩ => l == l' | _ => false
  | .nil, v => match v with | .slice _ 0 0 => true | _ => false
  | .iface0, v => match v with | .nilIface => true | _ => false
  | _, _ => false
def zOks : List AV → List Value → Bool
  | [], [] => true
  | x :: xs, v :: vs => zOk1 x v && zOks xs vs
  | _, _ => false
def zOk : AV → Value → Bool
  | .agg cs, v => match v with | .agg ⟨vs⟩ => zOks cs vs | _ => false
  | x, v => zOk1 x v

theorem zOk1_ok {x : AV} {v : Value} (h : zOk1 x v = true) (g : G) (H : List Blk) (w : World) : V1 g H w x v := by
  cases x with
  | int k n =>
    cases v with
    | int k' n' => simp [zOk1] at h; obtain ⟨rfl, rfl⟩ := h; simp [V1, PCell]
    | _ => simp [zOk1] at h
  | bool b =>
    cases v with
    | bool b' => simp [zOk1] at h; subst h; simp [V1, PCell]
    | _ => simp [zOk1] at h
  | str l =>
    cases v with
    | string s => obtain ⟨⟨l'⟩⟩ := s; simp [zOk1] at h; subst h; simp [V1, PCell]
    | _ => simp [zOk1] at h
  | nil =>
    simp only [zOk1] at h
    split at h
    · simp [V1, PCell]
    · cases h
  | iface0 =>
    cases v with
    | nilIface => simp [V1, PCell]
    | _ => simp [zOk1] at h
  | _ => cases v <;> simp [zOk1] at h

theorem zOks_ok : ∀ {xs : List AV} {vs : List Value}, zOks xs vs = true → ∀ (g : G) (H : List Blk) (w : World), All2 (V1 g H w) xs vs
  | [], [], _, _, _, _ => trivial
  | x :: xs, v :: vs, h, g, H, w => by
    simp only [zOks, Bool.and_eq_true] at h
    exact ⟨zOk1_ok h.1 g H w, zOks_ok h.2 g H w⟩
  | [], _ :: _, h, _, _, _ => by simp [zOks] at h
  | _ :: _, [], h, _, _, _ => by simp [zOks] at h

theorem zOk_ok {x : AV} {v : Value} (h : zOk x v = true) (g : G) (H : List Blk) (w : World) : V2 g H w x v := by
  unfold zOk at h
  split at h
  · rename_i cs
    cases v with
    | agg a => obtain ⟨vs⟩ := a; exact ⟨vs, rfl, zOks_ok h g H w⟩
    | _ => simp at h
  · rename_i hne
    have := zOk1_ok h g H w
    cases x <;> first | exact this | exact absurd rfl (hne _)

def dOk : TD → TypeDesc → Bool
  | .int k, u => match u with | .int k' => decide (k = k') | _ => false
  | .bool, u => match u with | .bool => true | _ => false
  | .str, u => match u with | .string => true | _ => false
  | .slice e, u => match u with | .slice e' => e == e' | _ => false
  | .array n e, u => match u with | .array n' e' => n == n' && e == e' | _ => false
  | .struct fs _, u => match u with | .struct fields => fs == fields.toList.map fun f => (f.offset, f.type) | _ => false
  | .ptr e, u => match u with | .pointer e' => e == e' | _ => false
  | .other, _ => true

theorem dOk_ok {d : TD} {u : TypeDesc} (h : dOk d u = true) : DRel d u := by
  cases d with
  | other => trivial
  | struct fs eq =>
    cases u with
    | struct fields => simp only [dOk, beq_iff_eq] at h; exact ⟨fields, rfl, h⟩
    | _ => simp [dOk] at h
  | _ => cases u <;> simp [dOk] at h <;> simp [DRel, h]

/-- a struct of plain integers, one behind the other -/
def eqB (P : Program) : List Field → Nat → Bool
  | [], _ => true
  | f :: fs, k => f.name != "_" && f.offset == k && (match P.underlying f.type with | some (.int .i64) => true | _ => false) && eqB P fs (k + 1)

theorem eqFields_run {P : Program} {w : World} {d : Nat} {xs ys : List Int} : ∀ {fs : List Field} {k : Nat}, eqB P fs k = true → k + fs.length = xs.length → xs.length = ys.length →
    (Op.eqFields (d + 1) ⟨xs.map (.int .i64)⟩ ⟨ys.map (.int .i64)⟩ fs).run P w = .ok (decide (xs.drop k = ys.drop k)) w
  | [], k, _, hk, hl => by
    have h1 : xs.drop k = [] := List.drop_eq_nil_of_le (by simp at hk; omega)
    have h2 : ys.drop k = [] := List.drop_eq_nil_of_le (by simp at hk; omega)
    simp [Op.eqFields, h1, h2]
  | f :: fs, k, h, hk, hl => by
    simp only [eqB, Bool.and_eq_true, bne_iff_ne, ne_eq, beq_iff_eq] at h
    obtain ⟨⟨⟨h1, h2⟩, h3⟩, h4⟩ := h
    simp only [List.length_cons] at hk
    have hu : P.underlying f.type = some (.int .i64) := by
      revert h3
      cases P.underlying f.type with
      | none => simp
      | some u => cases u with
        | int k => cases k <;> simp
        | _ => simp
    have hk1 : k < xs.length := by omega
    have hk2 : k < ys.length := by omega
    have part : ∀ (zs : List Int), k < zs.length → ∀ w : World, (part f.type ⟨zs.map (.int .i64)⟩ f.offset).run P w = .ok (.int .i64 (zs.getD k 0)) w := fun zs hz w => by
      simp [Go.part, Go.isAgg, run_underlying hu, h2, hz]
    have heq : ∀ a b : Int, (Op.equalIn (d + 1) f.type (.int .i64 a) (.int .i64 b)).run P w = .ok (a == b) w := fun a b => by
      simp [Op.equalIn, run_underlying hu]
    have hx : xs.drop k = xs.getD k 0 :: xs.drop (k + 1) := by
      rw [List.drop_eq_getElem_cons hk1]; simp [hk1]
    have hy : ys.drop k = ys.getD k 0 :: ys.drop (k + 1) := by
      rw [List.drop_eq_getElem_cons hk2]; simp [hk2]
    simp only [Op.eqFields, ne_eq, h1, not_false_eq_true, if_true, Sem.run_bind, part xs hk1, part ys hk2, Result.andThen_ok, heq]
    rw [hx, hy]
    by_cases he : xs.getD k 0 = ys.getD k 0
    · have hb : (xs.getD k 0 == ys.getD k 0) = true := by simpa using he
      rw [hb]
      simp only [Bool.not_true, Bool.false_eq_true, if_false]
      rw [eqFields_run h4 (by omega) hl]
      congr 1
      simp only [List.cons.injEq, he, true_and]
    · have hb : (xs.getD k 0 == ys.getD k 0) = false := by simpa using he
      rw [hb]
      simp only [Bool.not_false, if_true, Sem.run_pure]
      congr 1
      symm
      simp only [decide_eq_false_iff_not, List.cons.injEq]
      exact fun e => he e.1

/-- a row of the table, checked -/
def tiB (P : Program) (t : TypeId) (s : Nat) (ag : Bool) (by_ : Nat) (z : AV) (d : TD) : Bool :=
  (match P.info? t with
    | some i => i.size == s && i.bytes == by_ && (match i.zero with | some zv => zv.cells.size == s && zOk z zv | none => false)
    | none => false) &&
  (match P.underlying t with
    | some u => (ag == aggD u) && dOk d u && (match u with | .struct fields => fields.toList.all fun f => (P.info? f.type).isSome | _ => true)
    | none => false) &&
  (match d with
    | .struct _ true => (match P.underlying t with
      | some (.struct fields) => eqB P fields.toList 0 && fields.size == s && !P.stoodInHeld t && !P.eqGuardType P.depth t
      | _ => false)
    | _ => true)

theorem tiB_ok {P : Program} {t : TypeId} {s : Nat} {ag : Bool} {by_ : Nat} {z : AV} {d : TD} (h : tiB P t s ag by_ z d = true) : TRel P t s ag by_ z d := by
  simp only [tiB, Bool.and_eq_true] at h
  obtain ⟨⟨h1, h2⟩, h3⟩ := h
  cases hi : P.info? t with
  | none => simp [hi] at h1
  | some i =>
    cases hu : P.underlying t with
    | none => simp [hu] at h2
    | some u =>
      simp only [hi, hu, Bool.and_eq_true, beq_iff_eq] at h1 h2
      obtain ⟨⟨h11, h12⟩, h13⟩ := h1
      obtain ⟨⟨h21, h22⟩, h23⟩ := h2
      refine ⟨⟨i, hi, h11, h12, .inr ?_⟩, ⟨u, hu, h21, dOk_ok h22⟩, fun fields hf f hff => ?_, fun fs hd xs ys hx hy w => ?_⟩
      · cases hz : i.zero with
        | none => simp [hz] at h13
        | some zv =>
          simp only [hz, Bool.and_eq_true, beq_iff_eq] at h13
          exact ⟨zv, rfl, h13.1, fun g H w => zOk_ok h13.2 g H w⟩
      · rw [hu] at hf
        cases hf
        simp only [List.all_eq_true] at h23
        have := h23 f (by simpa using hff)
        exact Option.isSome_iff_exists.1 this
      · subst hd
        simp only at h3
        cases u with
        | struct fields =>
          simp only [hu, Bool.and_eq_true, beq_iff_eq, Bool.not_eq_true'] at h3
          obtain ⟨⟨⟨h31, h32⟩, h33⟩, h34⟩ := h3
          refine ⟨?_, h34⟩
          have hfo : P.fieldsOf t = fields := by simp [Program.fieldsOf, hu]
          have e : (Op.equal t (.agg ⟨xs.map (.int .i64)⟩) (.agg ⟨ys.map (.int .i64)⟩)).run P w = (Op.eqFields (9998 + 1) ⟨xs.map (.int .i64)⟩ ⟨ys.map (.int .i64)⟩ (P.fieldsOf t).toList).run P w :=
            run_equalIn_struct (P := P) w 9999 t _ _ (by rw [hfo]; exact hu) h33
          rw [e, hfo, eqFields_run h31 (by simp; omega) (by omega)]
          simp
        | _ => simp [hu] at h3
end Go.AM
