import Derived.Test.YtlacambjecjdbaaAmSlice2
set_option linter.unusedVariables false
set_option linter.unusedSimpArgs false
set_option linter.unnecessarySimpa false
/-! '== nil', '==' of structs of integers: all of binOp. -/
namespace Go.AM

section
variable {P : Program} {T : TypeId → Option TI} {o : Oper} {tm : List AV} {hp : List Blk} {κ : AV → List Blk → R} {r : AV × List Blk}

theorem eqNil_run {w : World} {t e : TypeId} {b : Addr} {l c : Nat} (hu : P.underlying t = some (.slice e)) : (Op.equal t (.slice (some b) l c) (.slice none 0 0)).run P w = .ok false w := by
  have h : ∀ d, (Op.equalIn (d + 1) t (.slice (some b) l c) (.slice none 0 0)).run P w = .ok false w := fun d => by
    simp only [Op.equalIn, Sem.run_bind, run_underlying hu, Result.andThen_ok, Sem.run_pure]
  exact h 9999

theorem isNilC_eq {y : Operand} (h : isNilC y = true) : y = .const (.slice none 0 0) := by
  unfold isNilC at h
  split at h
  · rfl
  · cases h

theorem nil_step {op : BinOp} {t ty : TypeId} {x y : Operand} (hT : TOk P T) (ho : o.op = .binOp op t x y ty) {X : AV} (hx : evD tm x = some X)
    (h : (bif isNilC y then tyK T t fun _ _ _ _ d => match (generalizing := false) d with
      | .slice _ => nilK op hp X fun v => κ v hp
      | _ => none
      else none) = some r) : StepN P o tm hp κ r := by
  obtain ⟨hy, h1⟩ := cond_none h
  clear h
  have hy := isNilC_eq hy
  obtain ⟨s1, a1, b1, z1, d1, hs, h⟩ := tyK_some h1
  clear h1
  split at h
  case h_2 => cases h
  rename_i e
  obtain ⟨u, hu, _, hr⟩ := (hT _ _ _ _ _ _ hs).under
  simp only [DRel] at hr
  subst hr
  have go : ∀ (κ' : Bool → R), nilK.go hp X κ' = some r → κ' false = some r ∧ ∀ (a : Act) (w : World) (g : G) (H : List Blk), hp <+: H → Good g H w → V3 g H w X (a.eval x) → ∃ b l c, a.eval x = .slice (some b) l c := by
    intro κ' h
    cases X with
    | lst oo c E xs =>
      simp only [nilK.go] at h
      rcases cond_some h with ⟨_, h⟩ | ⟨h0, h⟩
      · cases h
      refine ⟨h, fun a w g H hH hg hv => ?_⟩
      simp only [V3, V2, V1, PCell] at hv
      obtain ⟨A, cap, e1, _, _, hx⟩ := hv
      rcases hx with rfl | ⟨b, off, rfl, _⟩
      · simp [ieq_eq, ilen_eq] at h0
      · exact ⟨_, _, _, e1⟩
    | own τ E rr c =>
      cases rr with
      | some p => simp only [nilK.go] at h; cases h
      | none =>
      simp only [nilK.go] at h
      obtain ⟨blk, hb, h2⟩ := getK_some h
      clear h
      have key : ∀ m E' xs, blk = .rows m E' xs → m ≠ .dead → (bif ieq (ilen xs) 0 then none else κ' false) = some r → κ' false = some r ∧ ∀ (a : Act) (w : World) (g : G) (H : List Blk), hp <+: H → Good g H w → V3 g H w (.own τ E none c) (a.eval x) → ∃ b l c, a.eval x = .slice (some b) l c := by
        intro m E' xs e1 hm h
        subst e1
        rcases cond_some h with ⟨_, h⟩ | ⟨h0, h⟩
        · cases h
        refine ⟨h, fun a w g H hH hg hv => ?_⟩
        obtain ⟨hd, hv⟩ := hv
        cases hρ : g.ρ τ with
        | none =>
          have := good_nil hg hd (prefix_get hH hb) hm hρ
          subst this
          simp [ieq_eq, ilen_eq] at h0
        | some p =>
          simp only [hρ] at hv
          obtain ⟨k, o, l, cap, e1, _⟩ := hv
          exact ⟨_, _, _, e1⟩
      split at h2
      · cases h2
      · rename_i m E' xs hm
        exact key m E' xs rfl (fun e => hm (by rw [e])) h2
      · cases h2
    | _ => simp only [nilK.go] at h; cases h
  have fin : ∀ (κ' : Bool → R) (v : AV), nilK.go hp X κ' = some r → (κ' false = κ v hp) → (∀ (w : World) (b : Addr) (l c : Nat), ∃ bb, v = .bool bb ∧ (binOp op t (.slice (some b) l c) (.slice none 0 0)).run P w = .ok (.bool bb) w) → StepN P o tm hp κ r := by
    intro κ' v h hk hv
    obtain ⟨h1, h2⟩ := go κ' h
    refine ⟨v, hp, by rw [← hk]; exact h1, opN_pure fun a w g H hH _ hh hg => ?_⟩
    obtain ⟨b, l, c, e1⟩ := h2 a w g H hH hg (hh x (by simp [ho, Op.operands]) _ hx)
    have e2 : a.eval y = .slice none 0 0 := by rw [hy]; rfl
    obtain ⟨bb, rfl, h3⟩ := hv w b l c
    exact ⟨.bool bb, binOp_run ho (eqGuard_plain (.inr (.inr (.inr ⟨_, _, _, e1⟩)))) (by rw [e1, e2]; exact h3), V3_bool.2 rfl⟩
  cases op <;> simp only [nilK] at h <;> try (cases h; done)
  · exact fin _ _ h rfl fun w b l c => ⟨false, rfl, by simp only [binOp, Sem.run_bind, eqNil_run hu, Result.andThen_ok, Sem.run_pure]⟩
  · exact fin _ _ h rfl fun w b l c => ⟨true, rfl, by simp only [binOp, Sem.run_bind, eqNil_run hu, Result.andThen_ok, Sem.run_pure]; rfl⟩

theorem eqCells_some : ∀ {a b : List AV} {κ : Bool → R}, eqCells a b κ = some r → ∃ xs ys : List Int, a = xs.map (.int .i64) ∧ b = ys.map (.int .i64) ∧ xs.length = ys.length ∧ κ (decide (xs = ys)) = some r
  | [], [], κ, h => ⟨[], [], rfl, rfl, rfl, by simpa [eqCells] using h⟩
  | [.int .i64 a], [.int .i64 b], κ, h => ⟨[a], [b], rfl, rfl, rfl, by simpa [eqCells, ieq_eq] using h⟩
  | x :: x' :: l, y :: m, κ, h => by
    cases x <;> try (simp [eqCells] at h; done)
    rename_i k a
    cases k <;> try (simp [eqCells] at h; done)
    cases y <;> try (simp [eqCells] at h; done)
    rename_i k b
    cases k <;> try (simp [eqCells] at h; done)
    have h' : eqCells (x' :: l) m (fun t => κ (ieq a b && t)) = some r := by
      cases m <;> simpa [eqCells] using h
    obtain ⟨xs, ys, e1, e2, e3, h2⟩ := eqCells_some h'
    refine ⟨a :: xs, b :: ys, by rw [e1]; rfl, by rw [e2]; rfl, by simp [e3], ?_⟩
    rw [ieq_eq] at h2
    have e4 : decide (a :: xs = b :: ys) = (decide (a = b) && decide (xs = ys)) := by simp
    rw [e4]; exact h2
  | [x], [y], κ, h => by
    cases x <;> try (simp [eqCells] at h; done)
    rename_i k a
    cases k <;> try (simp [eqCells] at h; done)
    cases y <;> try (simp [eqCells] at h; done)
    rename_i k b
    cases k <;> try (simp [eqCells] at h; done)
    exact ⟨[a], [b], rfl, rfl, rfl, by simpa [eqCells, ieq_eq] using h⟩
  | [x], y :: y' :: m, κ, h => by
    cases x <;> try (simp [eqCells] at h; done)
    rename_i k a
    cases k <;> try (simp [eqCells] at h; done)
    cases y <;> try (simp [eqCells] at h; done)
    rename_i k b
    cases k <;> simp [eqCells] at h
  | [], _ :: _, κ, h => by simp [eqCells] at h
  | x :: l, [], κ, h => by
    cases x <;> try (simp [eqCells] at h; done)

theorem ints_of {g : G} {H : List Blk} {w : World} : ∀ {xs : List Int} {vs : List Value}, All2 (V1 g H w) (xs.map (.int .i64)) vs → vs = xs.map (.int .i64)
  | [], [], _ => rfl
  | x :: xs, v :: vs, h => by
    rw [ints_of h.2]
    have h1 := h.1
    simp only [V1, PCell] at h1
    rw [h1]; rfl
  | [], _ :: _, h => h.elim
  | _ :: _, [], h => h.elim

theorem eqGuardType_run {w : World} {op : BinOp} {t : TypeId} {x y : Operand} {a b : Array Value} (h : P.eqGuardType P.depth t = false) : (eqGuard op t x y (.agg a) (.agg b)).run P w = .ok () w := by
  cases op <;> simp [eqGuard, h]

theorem aggEq_step {op : BinOp} {t ty : TypeId} {x y : Operand} (hT : TOk P T) (ho : o.op = .binOp op t x y ty) {a b : List AV} (hx : evD tm x = some (.agg a)) (hy : evD tm y = some (.agg b))
    (h : (tyK T t fun sz _ _ _ d => match (generalizing := false) d with
      | .struct _ true => lenK a 0 fun n => bif Nat.beq n sz then binAggK op a b fun v => κ v hp else none
      | _ => none) = some r) : StepN P o tm hp κ r := by
  obtain ⟨sz, a1, b1, z1, d1, hs, h1⟩ := tyK_some h
  clear h
  split at h1
  case h_2 => cases h1
  rename_i fs
  rw [lenK_eq, Nat.zero_add] at h1
  obtain ⟨hl, h2⟩ := beqE_some h1
  clear h1
  have fin : ∀ (κ' : Bool → R) (f : Bool → Bool), eqCells a b κ' = some r → (∀ b, κ' b = κ (.bool (f b)) hp) → (∀ (w : World) (p q : Array Value) (bb : Bool), (Op.equal t (.agg p) (.agg q)).run P w = .ok bb w → (binOp op t (.agg p) (.agg q)).run P w = .ok (.bool (f bb)) w) → StepN P o tm hp κ r := by
    intro κ' f h hk hv
    obtain ⟨xs, ys, e1, e2, e3, h3⟩ := eqCells_some h
    rw [hk] at h3
    refine ⟨_, hp, h3, opN_pure fun ac w g H hH _ hh hg => ?_⟩
    obtain ⟨vs, e4, h4⟩ := hh x (by simp [ho, Op.operands]) _ hx
    obtain ⟨us, e5, h5⟩ := hh y (by simp [ho, Op.operands]) _ hy
    rw [e1] at h4; rw [e2] at h5
    have h4 := ints_of h4
    have h5 := ints_of h5
    subst h4; subst h5
    have hxl : xs.length = sz := by rw [← hl, e1]; simp
    obtain ⟨h6, h7⟩ := (hT _ _ _ _ _ _ hs).eq fs rfl xs ys hxl (by omega) w
    exact ⟨_, binOp_run ho (by rw [e4, e5]; exact eqGuardType_run h7) (by rw [e4, e5]; exact hv w _ _ _ h6), V3_bool.2 rfl⟩
  cases op <;> simp only [binAggK] at h2 <;> try (cases h2; done)
  · exact fin _ id h2 (fun _ => rfl) fun w p q bb h => by simp only [binOp, Sem.run_bind, h, Result.andThen_ok, Sem.run_pure]; rfl
  · exact fin _ (!·) h2 (fun _ => rfl) fun w p q bb h => by simp only [binOp, Sem.run_bind, h, Result.andThen_ok, Sem.run_pure]

theorem binOp_step {op : BinOp} {t ty : TypeId} {x y' : Operand} (hT : TOk P T) (ho : o.op = .binOp op t x y' ty) (h : (evK tm x fun x => evK tm y' fun y => match (generalizing := false) x, y with
    | x, .nil => bif isNilC y' then tyK T t fun _ _ _ _ d => match (generalizing := false) d with
      | .slice _ => nilK op hp x fun v => κ v hp
      | _ => none
      else none
    | .agg a, .agg b => tyK T t fun sz _ _ _ d => match (generalizing := false) d with
      | .struct _ true => lenK a 0 fun n => bif Nat.beq n sz then binAggK op a b fun v => κ v hp else none
      | _ => none
    | .bool a, .bool b => tyK T t fun _ _ _ _ d => match (generalizing := false) d with
      | .bool => binBoolK op a b fun v => κ v hp
      | _ => none
    | x, y => binK op x y fun v => κ v hp) = some r) : StepN P o tm hp κ r := by
  obtain ⟨X, hx, h1⟩ := evK_some h
  clear h
  obtain ⟨Y, hy, h⟩ := evK_some h1
  clear h1
  split at h
  · exact nil_step hT ho hx h
  · exact aggEq_step hT ho hx hy h
  · obtain ⟨s1, a1, b1, z1, d1, hs, h1⟩ := tyK_some h
    split at h1
    · obtain ⟨u, hu, _, hr⟩ := (hT _ _ _ _ _ _ hs).under
      simp only [DRel] at hr
      subst hr
      obtain ⟨v, h2, h3⟩ := binBool_ok ho hx hy hu h1
      exact ⟨v, hp, h2, h3⟩
    · cases h1
  · obtain ⟨v, h2, h3⟩ := binK_ok ho hx hy h
    exact ⟨v, hp, h2, h3⟩
end
end Go.AM
