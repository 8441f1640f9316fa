import Derived.Test.YtlacambjecjdbaaAmLoad
set_option linter.unusedVariables false
set_option linter.unusedSimpArgs false
set_option linter.unnecessarySimpa false
/-! len, max, min, closures. -/
namespace Go.AM

section
variable {P : Program} {T : TypeId → Option TI} {o : Oper} {tm : List AV} {hp : List Blk} {κ : AV → List Blk → R} {r : AV × List Blk}

theorem builtin_run {a : Act} {w : World} {c : Call} {b : Builtin} (ho : o.op = .call c) (hc : c.callee = .builtin b) {x : Result Next}
    (h : (builtin b c.argTypes o.type (c.args.map fun | .const _ => true | _ => false) (c.args.map a.eval)).run P w = x) : (execOp a.eval o).run P w = x := by
  simp only [execOp, ho, resolve, hc, Sem.run_bind, Sem.run_pure, Result.andThen_ok, invoke]
  exact h

theorem All2_one {R : AV → Value → Prop} {x : AV} {vs : List Value} (h : All2 R [x] vs) : ∃ v, vs = [v] ∧ R x v := by
  match vs, h with
  | [v], h => exact ⟨v, rfl, h.1⟩

theorem args_rel {c : Call} (ho : o.op = .call c) {us : List AV} (hu : evsD tm c.args.toList = some us) {g : G} {H : List Blk} {w : World} {a : Act}
    (hh : ∀ x ∈ o.op.operands, ∀ u, evD tm x = some u → V3 g H w u (a.eval x)) : All2 (V3 g H w) us (c.args.map a.eval).toList := by
  rw [Array.toList_map]
  exact All2_evs hu fun x hx u h => hh x (by rw [ho]; simp [Op.operands, Call.operands]; exact .inr (by simpa using hx)) u h

theorem len_step (hT : TOk P T) {c : Call} (ho : o.op = .call c) (hc : c.callee = .builtin .len) (h : (match c.argTypes.toList with
      | [t] => tyK T t fun _ _ _ _ d => evsK tm c.args.toList fun as => match (generalizing := false) d with
        | .slice _ => lenSlK hp as fun n => κ (.int .i64 n) hp
        | .str => match (generalizing := false) as with
          | [.str l] => κ (.int .i64 (ilen l)) hp
          | _ => none
        | _ => none
      | _ => none) = some r) : StepN P o tm hp κ r := by
  split at h
  case h_2 => cases h
  rename_i t ht
  obtain ⟨s1, a1, b1, z1, d1, hs, h⟩ := tyK_some h
  obtain ⟨us, hus, h⟩ := evsK_some h
  have hat : c.argTypes = #[t] := by rw [← Array.toList_inj]; exact ht
  split at h
  · rename_i e
    have key : ∃ n, κ (.int .i64 n) hp = some r ∧ ∀ (a : Act) (w : World) (g : G) (H : List Blk), hp <+: H → All2 (V3 g H w) us (c.args.map a.eval).toList →
        ∃ A cap m, (c.args.map a.eval).toList = [.slice A m cap] ∧ (m : Int) = n := by
      unfold lenSlK at h
      split at h
      · rename_i oo cc E xs
        refine ⟨_, h, fun a w g H _ hr => ?_⟩
        obtain ⟨v, hv, h1⟩ := All2_one hr
        simp only [V3, V2, V1, PCell] at h1
        obtain ⟨A, cap, rfl, _⟩ := h1
        exact ⟨A, cap, _, hv, by rw [ilen_eq]⟩
      · refine ⟨_, h, fun a w g H _ hr => ?_⟩
        obtain ⟨v, hv, h1⟩ := All2_one hr
        simp only [V3, V2, V1, PCell] at h1
        obtain ⟨A, rfl⟩ := h1
        exact ⟨A, 0, 0, hv, rfl⟩
      · rename_i τ E cc
        obtain ⟨blk, hb, h2⟩ := getK_some h
        have hm : ∃ m E' xs, blk = .rows m E' xs ∧ m ≠ .dead ∧ κ (.int .i64 (ilen xs)) hp = some r := by
          split at h2
          · cases h2
          · rename_i m E' xs hne
            exact ⟨m, E', xs, rfl, fun e => hne (by rw [e]), h2⟩
          · cases h2
        obtain ⟨m, E', xs, rfl, hm, h3⟩ := hm
        refine ⟨_, h3, fun a w g H hH hr => ?_⟩
        obtain ⟨v, hv, h1⟩ := All2_one hr
        have hbH := prefix_get hH hb
        obtain ⟨hd, h4⟩ := h1
        cases hρ : g.ρ τ with
        | none =>
          simp only [hρ] at h4
          obtain ⟨⟨A, rfl⟩, hl⟩ := h4
          have := hl m E' xs hbH hm
          exact ⟨A, 0, 0, hv, by rw [ilen_eq]; omega⟩
        | some p =>
          simp only [hρ] at h4
          obtain ⟨k', o', l, cap, rfl, _, _, _, _, _, _, hl⟩ := h4
          have := hl m E' xs hbH hm
          exact ⟨_, cap, l, hv, by rw [ilen_eq]; omega⟩
      · rename_i τ E o1 l1 cc
        refine ⟨_, h, fun a w g H hH hr => ?_⟩
        obtain ⟨v, hv, h1⟩ := All2_one hr
        obtain ⟨hd, h4⟩ := h1
        cases hρ : g.ρ τ with
        | none =>
          simp only [hρ] at h4
          obtain ⟨⟨A, rfl⟩, hl⟩ := h4
          exact ⟨A, 0, 0, hv, by omega⟩
        | some p =>
          simp only [hρ] at h4
          obtain ⟨k', o', l, cap, rfl, _, _, _, _, _, _, hl, _⟩ := h4
          exact ⟨_, cap, l, hv, by omega⟩
      · cases h
    obtain ⟨n, hk, hall⟩ := key
    refine ⟨_, hp, hk, opN_pure fun a w g H hH _ hh _ => ?_⟩
    obtain ⟨A, cap, m, hv, hm⟩ := hall a w g H hH (args_rel ho hus hh)
    have hv' : c.args.map a.eval = #[.slice A m cap] := by rw [← Array.toList_inj]; exact hv
    obtain ⟨u, hu, _, hr⟩ := (hT _ _ _ _ _ _ hs).underlying (w := w)
    simp only [DRel] at hr
    subst hr
    refine ⟨.int .i64 m, builtin_run ho hc ?_, V3_int.2 (by rw [hm])⟩
    simp [builtin, Builtin.len_, hat, hv', hu, goInt]
  · split at h
    · rename_i l
      refine ⟨_, hp, h, opN_pure fun a w g H hH _ hh _ => ?_⟩
      obtain ⟨v, hv, h1⟩ := All2_one (args_rel ho hus hh)
      have h1 := V3_str.1 h1
      subst h1
      have hv' : c.args.map a.eval = #[.string ⟨⟨l⟩⟩] := by rw [← Array.toList_inj]; exact hv
      obtain ⟨u, hu, _, hr⟩ := (hT _ _ _ _ _ _ hs).underlying (w := w)
      simp only [DRel] at hr
      subst hr
      refine ⟨.int .i64 l.length, builtin_run ho hc ?_, V3_int.2 (by rw [ilen_eq])⟩
      simp [builtin, Builtin.len_, hat, hv', hu, goInt]
      rfl
    · cases h
  · cases h

theorem foldMM_some {f : Int → Int → Int} {κ : Int → R} {r : AV × List Blk} {k : IntKind} {M : Value → Value → Sem Value}
    (hM : ∀ (k' : IntKind) (x y : Int) (w : World), (M (.int k x) (.int k' y)).run P w = .ok (.int k (f x y)) w) : ∀ {l : List AV} {a : Int}, foldMM f l a κ = some r →
      ∃ n, κ n = some r ∧ ∀ (g : G) (H : List Blk) (w : World) (vs : List Value), All2 (V3 g H w) l vs → (vs.foldlM M (.int k a)).run P w = .ok (.int k n) w
  | [], a, h => ⟨a, h, fun g H w vs hv => by cases vs with | nil => simp | cons v vs => exact hv.elim⟩
  | x :: l, a, h => by
    unfold foldMM at h
    split at h
    · rename_i e; cases e
    · rename_i k' b l' e
      cases e
      obtain ⟨n, hn, hr⟩ := foldMM_some hM h
      refine ⟨n, hn, fun g H w vs hv => ?_⟩
      cases vs with
      | nil => exact hv.elim
      | cons v vs =>
        have h1 := V3_int.1 hv.1
        subst h1
        simp only [List.foldlM_cons, Sem.run_bind, hM, Result.andThen_ok]
        exact hr g H w vs hv.2
    · cases h

theorem max_step {c : Call} (ho : o.op = .call c) (hc : c.callee = .builtin .max) (h : (evsK tm c.args.toList fun
      | .int k a :: l => foldMM imax l a fun n => κ (.int k n) hp
      | _ => none) = some r) : StepN P o tm hp κ r := by
  obtain ⟨us, hus, h⟩ := evsK_some h
  split at h
  · rename_i k a l
    obtain ⟨n, hn, hr⟩ := foldMM_some (P := P) (k := k) (M := Builtin.max2) (fun k' x y w => by simp [Builtin.max2, imax_eq]) h
    refine ⟨_, hp, hn, opN_pure fun ac w g H hH _ hh _ => ⟨.int k n, builtin_run ho hc ?_, V3_int.2 rfl⟩⟩
    have h1 := args_rel ho hus hh
    cases hv : (c.args.map ac.eval).toList with
    | nil => rw [hv] at h1; exact h1.elim
    | cons v vs =>
      rw [hv] at h1
      have h2 := V3_int.1 h1.1
      subst h2
      have h3 := hr g H w vs h1.2
      simp only [builtin, Builtin.max_, hv, Sem.run_bind, h3, Result.andThen_ok, Sem.run_pure]
  · cases h

theorem min_step {c : Call} (ho : o.op = .call c) (hc : c.callee = .builtin .min) (h : (evsK tm c.args.toList fun
      | .int k a :: l => foldMM imin l a fun n => κ (.int k n) hp
      | _ => none) = some r) : StepN P o tm hp κ r := by
  obtain ⟨us, hus, h⟩ := evsK_some h
  split at h
  · rename_i k a l
    obtain ⟨n, hn, hr⟩ := foldMM_some (P := P) (k := k) (M := Builtin.min2) (fun k' x y w => by simp [Builtin.min2, imin_eq]) h
    refine ⟨_, hp, hn, opN_pure fun ac w g H hH _ hh _ => ⟨.int k n, builtin_run ho hc ?_, V3_int.2 rfl⟩⟩
    have h1 := args_rel ho hus hh
    cases hv : (c.args.map ac.eval).toList with
    | nil => rw [hv] at h1; exact h1.elim
    | cons v vs =>
      rw [hv] at h1
      have h2 := V3_int.1 h1.1
      subst h2
      have h3 := hr g H w vs h1.2
      simp only [builtin, Builtin.min_, hv, Sem.run_bind, h3, Result.andThen_ok, Sem.run_pure]
  · cases h

theorem evs_V2 {a : Act} {g : G} {H : List Blk} {w : World} : ∀ {l : List Operand} {us : List AV}, evsD tm l = some us → (∀ u ∈ us, ∀ v, V3 g H w u v → V2 g H w u v) →
    (∀ x ∈ l, ∀ u, evD tm x = some u → V3 g H w u (a.eval x)) → All2 (V2 g H w) us (l.map a.eval)
  | [], us, h, _, _ => by simp [evsD] at h; subst h; trivial
  | x :: l, us, h, hu, hh => by
    simp only [evsD] at h
    obtain ⟨v, hv, h⟩ := Option.bind_eq_some_iff.mp h
    obtain ⟨vs, hvs, h⟩ := Option.bind_eq_some_iff.mp h
    cases h
    exact ⟨hu v (by simp) _ (hh x (by simp) v hv), evs_V2 hvs (fun u h => hu u (by simp [h])) fun y hy => hh y (by simp [hy])⟩

theorem allVar_V2 {g : G} {H : List Blk} {w : World} : ∀ {us : List AV}, allVar us = true → ∀ u ∈ us, ∀ v, V3 g H w u v → V2 g H w u v
  | [], _, u, hu, _, _ => by cases hu
  | x :: us, h, u, hu, v, hv => by
    cases hu with
    | head => cases x <;> first
        | exact hv
        | (simp [allVar] at h)
    | tail _ hu =>
      refine allVar_V2 ?_ u hu v hv
      cases x <;> first
        | exact h
        | (simp [allVar] at h)

theorem makeFunc_step {f : FuncId} {fs cs : Array Operand} (ho : o.op = .makeFunc (.func f) fs cs) (h : (evsK tm fs.toList fun fs => evsK tm cs.toList fun cs => bif allVar fs && allVar cs then κ (.fn f fs cs) hp else none) = some r) :
    StepN P o tm hp κ r := by
  obtain ⟨us, hus, h⟩ := evsK_some h
  obtain ⟨vs, hvs, h⟩ := evsK_some h
  obtain ⟨hb, h⟩ := cond_none h
  simp only [Bool.and_eq_true] at hb
  refine ⟨_, hp, h, opN_pure fun a w g H hH _ hh _ => ?_⟩
  refine ⟨.func (.func f) (fs.map a.eval) (cs.map a.eval), by simp [execOp, ho, Instr.makeFunc], (fs.map a.eval).toList, (cs.map a.eval).toList, rfl, ?_, ?_⟩
  · rw [Array.toList_map]
    exact evs_V2 hus (allVar_V2 hb.1) fun x hx => hh x (by rw [ho]; simp [Op.operands]; exact .inl (by simpa using hx))
  · rw [Array.toList_map]
    exact evs_V2 hvs (allVar_V2 hb.2) fun x hx => hh x (by rw [ho]; simp [Op.operands]; exact .inr (by simpa using hx))
end
end Go.AM
