import Derived.Test.YtlacambjecjdbaaAmFlat
set_option linter.unusedVariables false
set_option linter.unusedSimpArgs false
set_option linter.unnecessarySimpa false
/-! Structs, rows: build, makeSlice, buildSlice. -/
namespace Go.AM

section
variable {P : Program} {T : TypeId → Option TI} {o : Oper} {tm : List AV} {hp : List Blk} {κ : AV → List Blk → R} {r : AV × List Blk}

/-- the abstract step came through, and the machine's does the same, once all ahead of it is done -/
def StepM (P : Program) (o : Oper) (tm : List AV) (hp : List Blk) (κ : AV → List Blk → R) (r : AV × List Blk) : Prop :=
  ∃ v hp', κ v hp' = some r ∧ OpM P o tm hp v hp'

theorem All2.append {R : AV → Value → Prop} : ∀ {xs ys : List AV} {vs us : List Value}, All2 R xs vs → All2 R ys us → All2 R (xs ++ ys) (vs ++ us)
  | [], _, [], _, _, h => h
  | _ :: _, _, _ :: _, _, h, h' => ⟨h.1, h.2.append h'⟩
  | [], _, _ :: _, _, h, _ => h.elim
  | _ :: _, _, [], _, h, _ => h.elim
theorem All2.take {R : AV → Value → Prop} : ∀ {n : Nat} {xs : List AV} {vs : List Value}, All2 R xs vs → All2 R (xs.take n) (vs.take n)
  | 0, _, _, _ => by simp [All2]
  | n + 1, [], [], _ => by simp [All2]
  | n + 1, _ :: _, _ :: _, h => ⟨h.1, h.2.take⟩
  | _ + 1, [], _ :: _, h => h.elim
  | _ + 1, _ :: _, [], h => h.elim
theorem All2.drop {R : AV → Value → Prop} : ∀ {n : Nat} {xs : List AV} {vs : List Value}, All2 R xs vs → All2 R (xs.drop n) (vs.drop n)
  | 0, _, _, h => h
  | n + 1, [], [], _ => by simp [All2]
  | n + 1, _ :: _, _ :: _, h => h.2.drop
  | _ + 1, [], _ :: _, h => h.elim
  | _ + 1, _ :: _, [], h => h.elim
theorem All2.splice {R : AV → Value → Prop} {n : Nat} {xs ys : List AV} {vs us : List Value} (h : All2 R xs vs) (h' : All2 R ys us) : All2 R (splice xs n ys) (splice vs n us) := by
  unfold AM.splice
  rw [All2_len h']
  exact (h.take.append h').append h.drop

theorem splice_nil {α : Type} (cs : List α) (off : Nat) : splice cs off [] = cs := by simp [splice]

theorem splice_len {α : Type} {cs vs : List α} {off : Nat} (h : off + vs.length ≤ cs.length) : (splice cs off vs).length = cs.length := by
  simp [splice]; omega

theorem places_run {w : World} {fields : Array Field} (h : ∀ f ∈ fields, ∃ i, P.info? f.type = some i) :
    ∃ places : Array (Nat × Nat), (fields.mapM fun (f : Field) => do pure (f.offset, ← Go.sizeOf f.type) : Sem (Array (Nat × Nat))).run P w = .ok places w ∧
      ∀ (i : Nat) (f : Field), fields[i]? = some f → ∃ inf, P.info? f.type = some inf ∧ places[i]? = some (f.offset, inf.size) := by
  have key : ∀ fs : List Field, (∀ f ∈ fs, ∃ i, P.info? f.type = some i) → ∃ places, fs.mapM (fun (f : Field) => (P.info? f.type).map fun i => (f.offset, i.size)) = some places ∧
      ∀ (i : Nat) f, fs[i]? = some f → ∃ inf, P.info? f.type = some inf ∧ places[i]? = some (f.offset, inf.size) := by
    intro fs
    induction fs with
    | nil => intro _; exact ⟨[], by simp, fun i f h => by simp at h⟩
    | cons f fs ih =>
      intro hh
      obtain ⟨inf, hi⟩ := hh f (by simp)
      obtain ⟨ps, hp, hall⟩ := ih fun f hf => hh f (by simp [hf])
      refine ⟨(f.offset, inf.size) :: ps, by simp [List.mapM_cons, hi, hp], fun i f' hf => ?_⟩
      cases i with
      | zero => simp at hf; subst hf; exact ⟨inf, hi, rfl⟩
      | succ i => simpa using hall i f' (by simpa using hf)
  obtain ⟨ps, h1, h2⟩ := key fields.toList (fun f hf => h f (by simpa using hf))
  refine ⟨ps.toArray, ?_, fun i f hf => by simpa using h2 i f (by simpa using hf)⟩
  have := run_places (P := P) w fields.toList ps h1
  have e : (fields.mapM fun (f : Field) => do pure (f.offset, ← Go.sizeOf f.type) : Sem (Array (Nat × Nat))) = List.toArray <$> (fields.toList.mapM fun (f : Field) => Prod.mk f.offset <$> Go.sizeOf f.type) := by
    rw [Array.mapM_eq_mapM_toList]
    rfl
  rw [e]
  simp [this]

theorem fill_ok {fields : Array Field} {offs : List (Nat × TypeId)} (hT : TOk P T) (ho : offs = fields.toList.map fun f => (f.offset, f.type)) : ∀ {ps : List (Nat × Operand)} {cs : List AV} {κ : List AV → R}, fillK T offs tm ps cs κ = some r →
      ∃ cs', κ cs' = some r ∧ ∀ (g : G) (H : List Blk) (w : World) (a : Act) (places : Array (Nat × Nat)), (∀ (i : Nat) (f : Field), fields[i]? = some f → ∃ inf, P.info? f.type = some inf ∧ places[i]? = some (f.offset, inf.size)) →
        (∀ x ∈ ps.map (·.2), ∀ u, evD tm x = some u → V3 g H w u (a.eval x)) → ∀ vs : List Value, All2 (V1 g H w) cs vs →
        ∃ vs', Instr.fill (places[·]?) vs.toArray (ps.map fun (i, x) => (i, a.eval x)) = some vs'.toArray ∧ All2 (V1 g H w) cs' vs'
  | [], cs, κ, h => ⟨cs, h, fun _ _ _ _ _ _ _ vs hv => ⟨vs, rfl, hv⟩⟩
  | (i, x) :: l, cs, κ, h => by
    simp only [fillK] at h
    obtain ⟨⟨off, ft⟩, h1, h⟩ := getK_some h
    obtain ⟨sz, a2, b2, z2, d2, hf, h⟩ := tyK_some h
    obtain ⟨v, hv, h⟩ := evK_some h
    subst ho
    obtain ⟨fl, e1, e2, e3⟩ := field_get h1
    subst e3
    have key : ∀ u : List AV, cells v = u → (∀ g H w val, V3 g H w v val → V2 g H w v val) → sz = u.length → u ≠ [] → (spliceK cs off u fun cs => fillK T (fields.toList.map fun f => (f.offset, f.type)) tm l cs κ) = some r →
        ∃ cs', κ cs' = some r ∧ ∀ (g : G) (H : List Blk) (w : World) (a : Act) (places : Array (Nat × Nat)), (∀ (i : Nat) (f : Field), fields[i]? = some f → ∃ inf, P.info? f.type = some inf ∧ places[i]? = some (f.offset, inf.size)) →
        (∀ x_1 ∈ ((i, x) :: l).map (·.2), ∀ u, evD tm x_1 = some u → V3 g H w u (a.eval x_1)) → ∀ vs : List Value, All2 (V1 g H w) cs vs →
        ∃ vs', Instr.fill (places[·]?) vs.toArray (((i, x) :: l).map fun (i, x) => (i, a.eval x)) = some vs'.toArray ∧ All2 (V1 g H w) cs' vs' := by
      intro u hu hv2 hlen hne h
      obtain ⟨_, h6, h7⟩ := spliceK_some h
      obtain ⟨cs', h8, h9⟩ := fill_ok hT rfl h7
      refine ⟨cs', h8, fun g H w a places hp hh vs hvs => ?_⟩
      obtain ⟨inf, e4, e5⟩ := hp i fl e1
      have hsz : inf.size = sz := by
        obtain ⟨i', h1', h2', _⟩ := (hT _ _ _ _ _ _ hf).info
        rw [e4] at h1'; cases h1'; exact h2'
      have h10 := V2_cells (hv2 _ _ _ _ (hh x (by simp) v hv))
      have h11 : (a.eval x).cells.size = u.length := by
        have := All2_len h10
        rw [hu] at this
        simpa using this.symm
      have hb := h6.resolve_left hne
      have h12 := hvs.splice (n := off) h10
      have h13 : (if u = [] then cs else splice cs off u) = splice cs off (cells v) := by
        rw [hu, if_neg hne]
      rw [h13] at h9
      obtain ⟨vs', h14, h15⟩ := h9 g H w a places hp (fun y hy => hh y (by simp at hy ⊢; exact .inr hy)) _ h12
      refine ⟨vs', ?_, h15⟩
      rw [List.map_cons]
      rw [fill_one (off := fl.offset) (size := inf.size) e5 (by omega) (by simp; rw [← All2_len hvs]; omega), e2]
      exact h14
    split at h
    · cases h
    · rename_i us hus
      rw [lenK_eq, Nat.zero_add] at h
      obtain ⟨h1, h⟩ := beqE_some h
      exact key us rfl (fun _ _ _ _ h => h) h1 (fun e => hus (by rw [e])) h
    · cases h
    · cases h
    · cases h
    · cases h
    · rename_i n1 n2 n3 n4 n5
      obtain ⟨h1, h⟩ := beqE_some h
      have hc : cells v = [v] := by
        cases v <;> first
          | rfl
          | exact absurd rfl (n1 _)
      refine key [v] hc (fun g H w val hval => ?_) h1 (by simp) h
      cases v <;> first
        | exact hval
        | exact absurd rfl n2
        | exact absurd rfl (n3 _)
        | exact absurd rfl (n4 _ _ _)
        | exact absurd rfl (n5 _ _)

theorem build_step (hT : TOk P T) {t : TypeId} {ps : Array (Nat × Operand)} (ho : o.op = .build t ps) (h : (tyK T t fun sz _ _ z d => match (generalizing := false) z, d with
    | .agg zs, .struct offs _ => fillK T offs tm ps.toList zs fun cs => κ (.agg cs) hp
    | _, _ => none) = some r) : StepN P o tm hp κ r := by
  obtain ⟨sz, a1, b1, z, d1, hs, h⟩ := tyK_some h
  split at h
  case h_2 => cases h
  rename_i zs offs eq
  obtain ⟨u, hu, _, fields, rfl, hof⟩ := (hT _ _ _ _ _ _ hs).under
  obtain ⟨cs', h1, h2⟩ := fill_ok hT hof h
  refine ⟨_, hp, h1, opN_pure fun a w g H hH _ hh hg => ?_⟩
  obtain ⟨zv, e1, e2, e3⟩ := (hT _ _ _ _ _ _ hs).zeroValue (w := w) (by simp)
  obtain ⟨vs, rfl, hvs⟩ := e3 g H w
  obtain ⟨places, e4, e5⟩ := places_run (P := P) (w := w) ((hT _ _ _ _ _ _ hs).flds fields hu)
  obtain ⟨vs', e6, e7⟩ := h2 g H w a places e5 (fun x hx => hh x (by rw [ho]; simp [Op.operands]; simpa using hx)) vs hvs
  refine ⟨.agg vs'.toArray, ?_, vs', rfl, e7⟩
  have hu' := run_underlying hu w
  have e6' : Instr.fill (fun x => places[x]?) (Value.agg { toList := vs }).cells (ps.map fun (i, x) => (i, a.eval x)).toList = some vs'.toArray := by
    rw [Array.toList_map]; exact e6
  simp only [execOp, ho, Instr.build, Sem.run_bind, e1, Result.andThen_ok, hu', e4, e6', Sem.run_pure]
end
end Go.AM
