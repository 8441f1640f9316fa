import Derived.Test.YtlacambjecjdbaaAmBin
set_option linter.unusedVariables false
set_option linter.unusedSimpArgs false
set_option linter.unnecessarySimpa false
/-! Operations that compute alone. -/
namespace Go.AM

section
variable {P : Program} {T : TypeId → Option TI} {o : Oper} {tm : List AV} {hp : List Blk} {κ : AV → List Blk → R} {r : AV × List Blk}

/-- the abstract step came through: what it gave, and that the machine's does the same -/
def StepN (P : Program) (o : Oper) (tm : List AV) (hp : List Blk) (κ : AV → List Blk → R) (r : AV × List Blk) : Prop :=
  ∃ v hp', κ v hp' = some r ∧ OpN P o tm hp v hp'

theorem opnd {g : G} {H : List Blk} {w : World} {a : Act} {x : Operand} {u : AV} (hh : ∀ x ∈ o.op.operands, ∀ u, evD tm x = some u → V3 g H w u (a.eval x))
    (hx : x ∈ o.op.operands) (hu : evD tm x = some u) : V3 g H w u (a.eval x) := hh x hx u hu

theorem move_step {x : Operand} (ho : o.op = .move x) (h : (evK tm x fun v => κ v hp) = some r) : StepN P o tm hp κ r := by
  obtain ⟨v, hv, h⟩ := evK_some h
  exact ⟨v, hp, h, move_ok (.inl ho) hv⟩

theorem pick_step {c x y : Operand} (ho : o.op = .pick c x y) (h : (evK tm c fun
    | .bool t => bif t then evK tm x fun v => κ v hp else evK tm y fun v => κ v hp
    | _ => none) = some r) : StepN P o tm hp κ r := by
  obtain ⟨v, hv, h⟩ := evK_some h
  split at h
  · rename_i t
    have go : ∀ z, z ∈ o.op.operands → (∀ a : Act, (if t then a.eval x else a.eval y) = a.eval z) → (evK tm z fun v => κ v hp) = some r → StepN P o tm hp κ r := by
      intro z hz he h
      obtain ⟨u, hu, h⟩ := evK_some h
      refine ⟨u, hp, h, opN_pure fun a w g H _ _ hh _ => ⟨a.eval z, ?_, hh z hz u hu⟩⟩
      have h1 := V3_bool.1 (hh c (by simp [ho, Op.operands]) _ hv)
      have e := he a
      simp only [execOp, ho, h1, asBool, Sem.run_bind, Sem.run_pure, Result.andThen_ok]
      rw [e]
    rcases cond_some h with ⟨ht, h⟩ | ⟨ht, h⟩
    · exact go x (by simp [ho, Op.operands]) (fun a => by simp [ht]) h
    · exact go y (by simp [ho, Op.operands]) (fun a => by simp [ht]) h
  · cases h

theorem unOp_step {op : UnOp} {t : TypeId} {x : Operand} (ho : o.op = .unOp op t x) (h : (evK tm x fun x => match (generalizing := false) op, x with
    | .neg, .int k n => κ (.int k (wr k (isub 0 n))) hp
    | .not, .bool b => κ (.bool (!b)) hp
    | _, _ => none) = some r) : StepN P o tm hp κ r := by
  obtain ⟨v, hv, h⟩ := evK_some h
  split at h
  · refine ⟨_, hp, h, opN_pure fun a w g H _ _ hh _ => ?_⟩
    have h1 := V3_int.1 (hh x (by simp [ho, Op.operands]) _ hv)
    exact ⟨_, by simp only [execOp, ho, h1, Op.unary, Op.intArith, Sem.run_bind, Sem.run_pure, Result.andThen_ok]; rfl, V3_int.2 (by simp [wr_eq, isub_eq])⟩
  · refine ⟨_, hp, h, opN_pure fun a w g H _ _ hh _ => ?_⟩
    have h1 := V3_bool.1 (hh x (by simp [ho, Op.operands]) _ hv)
    exact ⟨_, by simp only [execOp, ho, h1, Op.unary, Sem.run_bind, Sem.run_pure, Result.andThen_ok], V3_bool.2 rfl⟩
  · cases h

theorem convert_step (hT : TOk P T) {s d : TypeId} {x : Operand} (ho : o.op = .convert s d x) (h : (tyK T s fun _ _ _ _ s => tyK T d fun _ _ _ _ d => evK tm x fun x => match s, d, x with
    | .int _, .int k, .int _ n => κ (.int k (wr k n)) hp
    | .str, .str, .str l => κ (.str l) hp
    | _, _, _ => none) = some r) : StepN P o tm hp κ r := by
  obtain ⟨s1, a1, b1, z1, d1, hs, h⟩ := tyK_some h
  obtain ⟨s2, a2, b2, z2, d2, hd, h⟩ := tyK_some h
  obtain ⟨v, hv, h⟩ := evK_some h
  split at h
  · refine ⟨_, hp, h, opN_pure fun a w g H _ _ hh _ => ?_⟩
    have h1 := V3_int.1 (hh x (by simp [ho, Op.operands]) _ hv)
    obtain ⟨u1, hu1, _, hr1⟩ := (hT _ _ _ _ _ _ hs).underlying (w := w)
    obtain ⟨u2, hu2, _, hr2⟩ := (hT _ _ _ _ _ _ hd).underlying (w := w)
    simp only [DRel] at hr1 hr2
    subst hr1; subst hr2
    exact ⟨_, by simp only [execOp, ho, h1, convert, Conv.intToInt, Sem.run_bind, hu1, hu2, Sem.run_pure, Result.andThen_ok]; rfl, V3_int.2 (by simp [wr_eq])⟩
  · refine ⟨_, hp, h, opN_pure fun a w g H _ _ hh _ => ?_⟩
    have h1 := V3_str.1 (hh x (by simp [ho, Op.operands]) _ hv)
    obtain ⟨u1, hu1, _, hr1⟩ := (hT _ _ _ _ _ _ hs).underlying (w := w)
    obtain ⟨u2, hu2, _, hr2⟩ := (hT _ _ _ _ _ _ hd).underlying (w := w)
    simp only [DRel] at hr1 hr2
    subst hr1; subst hr2
    exact ⟨_, by simp only [execOp, ho, h1, convert, Sem.run_bind, hu1, hu2, Sem.run_pure, Result.andThen_ok], V3_str.2 rfl⟩
  · cases h

theorem All2_get {R : AV → Value → Prop} : ∀ {xs : List AV} {vs : List Value} {i : Nat} {x : AV}, All2 R xs vs → xs[i]? = some x → ∃ v, vs[i]? = some v ∧ R x v
  | [], _, _, _, _, h => by simp at h
  | x :: xs, [], _, _, h, _ => h.elim
  | x :: xs, v :: vs, 0, y, h, hx => by simp at hx; subst hx; exact ⟨v, rfl, h.1⟩
  | x :: xs, v :: vs, i + 1, y, h, hx => by simpa using All2_get (i := i) h.2 (by simpa using hx)

theorem V3_of_V2 {g : G} {H : List Blk} {w : World} {x : AV} {v : Value} (h : V2 g H w x v) : V3 g H w x v := by
  cases x <;> first
    | exact h
    | (simp [V2, V1, PCell] at h)

theorem extract_step {x : Operand} {i : Nat} (ho : o.op = .extract x i) (h : (evK tm x fun
    | .tup vs => getK vs i fun v => κ v hp
    | _ => none) = some r) : StepN P o tm hp κ r := by
  obtain ⟨v, hv, h⟩ := evK_some h
  split at h
  · rename_i vs
    obtain ⟨u, hu, h⟩ := getK_some h
    refine ⟨u, hp, h, opN_pure fun a w g H _ _ hh _ => ?_⟩
    have h1 := hh x (by simp [ho, Op.operands]) _ hv
    obtain ⟨ws, hw, h2⟩ := h1
    obtain ⟨vv, hvv, h3⟩ := All2_get h2 hu
    exact ⟨vv, by simp [execOp, ho, hw, Instr.extract, hvv], V3_of_V2 h3⟩
  · cases h

theorem All2_evs {R : AV → Value → Prop} {a : Act} : ∀ {l : List Operand} {us : List AV}, evsD tm l = some us → (∀ x ∈ l, ∀ u, evD tm x = some u → R u (a.eval x)) → All2 R us (l.map a.eval)
  | [], us, h, _ => by simp [evsD] at h; subst h; trivial
  | x :: l, us, h, hh => by
    simp only [evsD] at h
    obtain ⟨v, hv, h⟩ := Option.bind_eq_some_iff.mp h
    obtain ⟨vs, hvs, h⟩ := Option.bind_eq_some_iff.mp h
    cases h
    exact ⟨hh x (by simp) v hv, All2_evs hvs fun y hy => hh y (by simp [hy])⟩

theorem nilCheck_step {x : Operand} (ho : o.op = .nilCheck x) (h : (evK tm x fun
    | .ptr τ idx off E => κ (.ptr τ idx off E) hp
    | .at v off => κ (.at v off) hp
    | _ => none) = some r) : StepN P o tm hp κ r := by
  obtain ⟨v, hv, h⟩ := evK_some h
  split at h
  · refine ⟨_, hp, h, opN_pure fun a w g H _ _ hh _ => ?_⟩
    have h1 := hh x (by simp [ho, Op.operands]) _ hv
    refine ⟨a.eval x, ?_, h1⟩
    obtain ⟨_, _, b, base, n, _, _, he⟩ := h1
    simp [execOp, ho, he]
  · refine ⟨_, hp, h, opN_pure fun a w g H _ _ hh _ => ?_⟩
    have h1 := hh x (by simp [ho, Op.operands]) _ hv
    refine ⟨a.eval x, ?_, h1⟩
    obtain ⟨b, off, he, _⟩ := h1
    simp [execOp, ho, he]
  · cases h
end
end Go.AM
