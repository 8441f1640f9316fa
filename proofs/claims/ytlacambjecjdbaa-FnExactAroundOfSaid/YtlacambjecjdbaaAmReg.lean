import Derived.Test.YtlacambjecjdbaaAmAop
import Derived.Orders
set_option linter.unusedVariables false
set_option linter.unusedSimpArgs false
set_option linter.unnecessarySimpa false
/-! Regions. -/
namespace Go.AM

section
variable {P : Program} {T : TypeId → Option TI} {C : CF} {sh : FuncId → Bool} {o : Oper} {tm : List AV} {hp : List Blk} {κ : AV → List Blk → R} {r : AV × List Blk}

theorem OpN.toM {v : AV} {hp' : List Blk} (h : OpN P o tm hp v hp') : OpM P o tm hp v hp' := by
  intro Q a w g N hd hh hg hN
  have hdd : ∀ τ, g.dom τ → τ < hp.length := fun τ h => (hd τ).1 h
  have ht := Trans.ext (w := w) h.1 hdd
  refine h.2 Q a w g hp' N (List.prefix_refl _) (fun τ h => .inl (hdd τ h)) (fun x hx u hu => (hh x hx u hu).trans ht hg) (hg.ext h.1 hdd) fun vv w' g' k0 k1 k2 k3 k4 _ => hN vv w' g' (ht.trans k1) k2 (fun τ => ?_) k4 (fun b hb _ => k0 b hb)
  rw [k3, hd]
  have := h.1.length_le
  omega

def putL (tm : List AV) (d : Option Tmp) (v : AV) : List AV :=
  match d with
  | some d => tm.set d v
  | none => tm

theorem putK_eq (tm : List AV) (d : Option Tmp) (v : AV) (κ : List AV → R) : putK tm d v κ = κ (putL tm d v) := by
  cases d <;> simp [putK, putL, setK_eq]

/-- the temporaries are as told -/
def TmR (g : G) (H : List Blk) (w : World) (tm : List AV) (a : Act) : Prop := All2 (V3 g H w) tm a.tmps.toList

theorem TmR.get {g : G} {H : List Blk} {w : World} {a : Act} (h : TmR g H w tm a) {t : Nat} {x : AV} (hx : tm[t]? = some x) : a.tmps[t]? = some (a.tmps.getD t undef) ∧ V3 g H w x (a.tmps.getD t undef) := by
  obtain ⟨v, hv, hv2⟩ := All2_get h hx
  have e : a.tmps[t]? = some v := by simpa using hv
  have : a.tmps.getD t undef = v := by simp [e]
  rw [this]
  exact ⟨e, hv2⟩

theorem ev_V3 {g : G} {H : List Blk} {w : World} {a : Act} {x : Operand} {u : AV} (ht : ∀ t, x = .tmp t → ∀ y, tm[t]? = some y → V3 g H w y (a.tmps.getD t undef)) (h : evD tm x = some u) : V3 g H w u (a.eval x) := by
  cases x with
  | tmp t => exact ht t rfl u h
  | const v => exact const_V3 h
  | func f =>
    simp only [evD, Option.some.injEq] at h
    subst h
    exact ⟨[], [], rfl, trivial, trivial⟩
  | global _ => cases h

theorem TmR.ev {g : G} {H : List Blk} {w : World} {a : Act} (h : TmR g H w tm a) {x : Operand} {u : AV} (hu : evD tm x = some u) : V3 g H w u (a.eval x) :=
  ev_V3 (fun t _ y hy => (h.get hy).2) hu

theorem All2_set {R : AV → Value → Prop} : ∀ {xs : List AV} {vs : List Value} {i : Nat} {x : AV} {v : Value}, All2 R xs vs → R x v → All2 R (xs.set i x) (vs.set i v)
  | [], [], _, _, _, _, _ => trivial
  | _ :: _, _ :: _, 0, _, _, h, hx => ⟨hx, h.2⟩
  | _ :: _, _ :: _, i + 1, _, _, h, hx => ⟨h.1, All2_set h.2 hx⟩
  | [], _ :: _, _, _, _, h, _ => h.elim
  | _ :: _, [], _, _, _, h, _ => h.elim

theorem TmR.put {g : G} {H : List Blk} {w : World} {a : Act} (h : TmR g H w tm a) {v : AV} {vv : Value} (hv : V3 g H w v vv) (d : Option Tmp) : TmR g H w (putL tm d v) (a.put d vv) := by
  cases d with
  | none => exact h
  | some d =>
    unfold TmR
    simp only [putL, Act.put, Array.toList_setIfInBounds]
    exact All2_set h hv

/-- the guard's word: is the operation carried out? -/
def GuardR (ops : Array Oper) (o : Oper) (tm : List AV) (want : Bool) : Prop :=
  match o.guard with
  | none => want = true
  | some (j, b) => ∃ t, (ops[j]?).bind (·.dst) = some t ∧ ((∃ c, tm[t]? = some (.bool c) ∧ want = (c == b)) ∨ (tm[t]? = some (.tup []) ∧ want = false))

theorem GuardR.wanted {ops : Array Oper} {want : Bool} (h : GuardR ops o tm want) {g : G} {H : List Blk} {w : World} {a : Act}
    (ht : ∀ t, (∃ j b, o.guard = some (j, b) ∧ (ops[j]?).bind (·.dst) = some t) → ∀ y, tm[t]? = some y → a.tmps[t]? = some (a.tmps.getD t undef) ∧ V3 g H w y (a.tmps.getD t undef)) :
    Region.wanted o (yielded ops a.tmps) = want := by
  unfold GuardR at h
  unfold Region.wanted
  cases hg : o.guard with
  | none => rw [hg] at h; simp [h]
  | some p =>
    obtain ⟨j, b⟩ := p
    rw [hg] at h
    obtain ⟨t, h1, h2⟩ := h
    have hy : ∀ v : Value, a.tmps[t]? = some v → yielded ops a.tmps j = match v with | .bool b => some b | _ => none := by
      intro v hv
      simp only [yielded, h1, Option.bind_some, hv]
      cases v <;> rfl
    rcases h2 with ⟨c, h3, rfl⟩ | ⟨h3, rfl⟩
    · obtain ⟨h4, h5⟩ := ht t ⟨j, b, hg, h1⟩ _ h3
      rw [V3_bool.1 h5] at h4
      simp only [hy _ h4]
      cases c <;> cases b <;> rfl
    · obtain ⟨h4, ws, h5, h6⟩ := ht t ⟨j, b, hg, h1⟩ _ h3
      rw [h5] at h4
      simp only [hy _ h4]
      cases b <;> rfl

/-- one operation's step -/
structure OpStep (P : Program) (sh : FuncId → Bool) (ops : Array Oper) (o : Oper) (tm : List AV) (hp : List Blk) (tm' : List AV) (hp' : List Blk) : Prop where
  go : ∃ want v, GuardR ops o tm want ∧ tm' = putL tm o.dst v ∧ ((want = false ∧ v = .tup [] ∧ hp' = hp) ∨ (want = true ∧ (OpN P o tm hp v hp' ∨ (isMut sh o = true ∧ OpM P o tm hp v hp'))))

theorem dstK_ok {κ : Tmp → R} : ∀ {ops : List Oper} {j : Nat}, dstK ops j κ = some r → ∃ t, (ops[j]?).bind (·.dst) = some t ∧ κ t = some r
  | [], j, h => by simp [dstK] at h
  | o :: l, 0, h => by
    simp only [dstK] at h
    split at h
    · rename_i t ht; exact ⟨t, by simp [ht], h⟩
    · cases h
  | o :: l, j + 1, h => by
    simp only [dstK] at h
    obtain ⟨t, h1, h2⟩ := dstK_ok h
    exact ⟨t, by simpa using h1, h2⟩

/-- the states between the operations -/
structure Trace (P : Program) (sh : FuncId → Bool) (ops : Array Oper) (l : List Oper) (tms : Nat → List AV) (hps : Nat → List Blk) : Prop where
  step : ∀ j o, l[j]? = some o → OpStep P sh ops o (tms j) (hps j) (tms (j + 1)) (hps (j + 1))

theorem ops_ok (hT : TOk P T) (hC : CSound P C) {all : Array Oper} : ∀ {l : List Oper} {tm : List AV} {hp : List Blk} {κ : List AV → List Blk → R}, opsK T C sh all.toList l tm hp κ = some r →
    ∃ tms hps, tms 0 = tm ∧ hps 0 = hp ∧ κ (tms l.length) (hps l.length) = some r ∧ Trace P sh all l tms hps
  | [], tm, hp, κ, h => ⟨fun _ => tm, fun _ => hp, rfl, rfl, h, ⟨fun j o h => by simp at h⟩⟩
  | o :: l, tm, hp, κ, h => by
    have fin : ∀ tm1 hp1, OpStep P sh all o tm hp tm1 hp1 → opsK T C sh all.toList l tm1 hp1 κ = some r →
        ∃ tms hps, tms 0 = tm ∧ hps 0 = hp ∧ κ (tms (o :: l).length) (hps (o :: l).length) = some r ∧ Trace P sh all (o :: l) tms hps := by
      intro tm1 hp1 hst h
      obtain ⟨tms, hps, e1, e2, e3, e4⟩ := ops_ok hT hC h
      refine ⟨fun i => match i with | 0 => tm | i + 1 => tms i, fun i => match i with | 0 => hp | i + 1 => hps i, rfl, rfl, e3, ⟨fun j o' hj => ?_⟩⟩
      cases j with
      | zero => simp at hj; subst hj; simp only [e1, e2]; exact hst
      | succ j => exact e4.step j o' (by simpa using hj)
    have run : ∀ (want : Bool), GuardR all o tm want → want = true → (aopK T C sh o tm hp fun v hp => putK tm o.dst v fun tm => opsK T C sh all.toList l tm hp κ) = some r →
        ∃ tms hps, tms 0 = tm ∧ hps 0 = hp ∧ κ (tms (o :: l).length) (hps (o :: l).length) = some r ∧ Trace P sh all (o :: l) tms hps := by
      intro want hgd hw h
      rcases aop_ok hT hC h with ⟨v, hp', h1, h2⟩ | ⟨hm, v, hp', h1, h2⟩
      · dsimp only at h1
        rw [putK_eq] at h1
        exact fin _ _ ⟨want, v, hgd, rfl, .inr ⟨hw, .inl h2⟩⟩ h1
      · dsimp only at h1
        rw [putK_eq] at h1
        exact fin _ _ ⟨want, v, hgd, rfl, .inr ⟨hw, .inr ⟨hm, h2⟩⟩⟩ h1
    have skip : ∀ (want : Bool), GuardR all o tm want → want = false → (putK tm o.dst (.tup []) fun tm => opsK T C sh all.toList l tm hp κ) = some r →
        ∃ tms hps, tms 0 = tm ∧ hps 0 = hp ∧ κ (tms (o :: l).length) (hps (o :: l).length) = some r ∧ Trace P sh all (o :: l) tms hps := by
      intro want hgd hw h
      rw [putK_eq] at h
      exact fin _ _ ⟨want, _, hgd, rfl, .inl ⟨hw, rfl, rfl⟩⟩ h
    have h' : (match o.guard with
      | none => aopK T C sh o tm hp fun v hp => putK tm o.dst v fun tm => opsK T C sh all.toList l tm hp κ
      | some (j, want) => dstK all.toList j fun t => getK tm t fun
        | .bool b =>
          bif b then
            setK tm t (.bool true) fun tm =>
              bif want then aopK T C sh o tm hp fun v hp => putK tm o.dst v fun tm => opsK T C sh all.toList l tm hp κ
              else putK tm o.dst (.tup []) fun tm => opsK T C sh all.toList l tm hp κ
          else
            setK tm t (.bool false) fun tm =>
              bif want then putK tm o.dst (.tup []) fun tm => opsK T C sh all.toList l tm hp κ
              else aopK T C sh o tm hp fun v hp => putK tm o.dst v fun tm => opsK T C sh all.toList l tm hp κ
        | .tup [] => putK tm o.dst (.tup []) fun tm => opsK T C sh all.toList l tm hp κ
        | _ => none) = some r := h
    clear h
    split at h'
    · rename_i hg
      exact run true (by unfold GuardR; rw [hg]) rfl h'
    · rename_i j want hg
      obtain ⟨t, h1, h2⟩ := dstK_ok h'
      clear h'
      obtain ⟨x, h3, h4⟩ := getK_some h2
      clear h2
      have h1' : (all[j]?).bind (·.dst) = some t := by simpa using h1
      have hset : ∀ c, x = .bool c → tm.set t (.bool c) = tm := by
        intro c e
        subst e
        have := (List.getElem?_eq_some_iff.1 h3)
        rw [← this.2]
        exact List.set_getElem_self _
      split at h4
      · rename_i b
        have hgd : GuardR all o tm (b == want) := by unfold GuardR; rw [hg]; exact ⟨t, h1', .inl ⟨b, h3, rfl⟩⟩
        rcases cond_some h4 with ⟨rfl, h5⟩ | ⟨rfl, h5⟩
        · rw [setK_eq, hset true rfl] at h5
          rcases cond_some h5 with ⟨rfl, h6⟩ | ⟨rfl, h6⟩
          · exact run _ hgd rfl h6
          · exact skip _ hgd rfl h6
        · rw [setK_eq, hset false rfl] at h5
          rcases cond_some h5 with ⟨rfl, h6⟩ | ⟨rfl, h6⟩
          · exact skip _ hgd rfl h6
          · exact run _ hgd rfl h6
      · exact skip false (by unfold GuardR; rw [hg]; exact ⟨t, h1', .inr ⟨h3, rfl⟩⟩) rfl h4
      · cases h4

/-- the state of a run -/
structure RS (g : G) (tm : List AV) (hp : List Blk) (a : Act) (w : World) : Prop where
  good : Good g hp w
  dom : ∀ τ, g.dom τ ↔ τ < hp.length
  tmps : TmR g hp w tm a
  defers : a.defers = []

theorem Act.put_def (a : Act) (d : Option Tmp) (v : Value) : (a.put d v).defers = a.defers := by cases d <;> rfl

theorem tup_undef {g : G} {H : List Blk} {w : World} : V3 g H w (.tup []) undef := ⟨[], rfl, trivial⟩

/-- operations in their order -/
theorem seq_ok {ops : Array Oper} {Q : Exit → Act → World → Prop} {tms : Nat → List AV} {hps : Nat → List Blk} (ht : Trace P sh ops ops.toList tms hps) {g0 : G} {H0 : List Blk} {w0 : World} :
    ∀ (m k : Nat), k + m = ops.size → ∀ (g : G) (a : Act) (w : World), Trans g0 H0 w0 g (hps k) w → RS g (tms k) (hps k) a w →
      (∀ g' a' w', Trans g0 H0 w0 g' (hps ops.size) w' → RS g' (tms ops.size) (hps ops.size) a' w' → Q .normal a' w') → wpOps P ops Q (List.range' k m) a w
  | 0, k, hk, g, a, w, htr, hst, hQ => by
    have : k = ops.size := by omega
    subst this
    exact hQ g a w htr hst
  | m + 1, k, hk, g, a, w, htr, hst, hQ => by
    have hkl : k < ops.size := by omega
    have hok : ops[k]? = some ops[k] := Array.getElem?_eq_getElem hkl
    obtain ⟨want, v, hgd, htm, hor⟩ := (ht.step k ops[k] (by simpa using hok)).go
    have hw := hgd.wanted (g := g) (H := hps k) (w := w) (a := a) (fun t _ y hy => hst.tmps.get hy)
    rw [List.range'_succ]
    simp only [wpOps, hok, hw]
    rcases hor with ⟨rfl, rfl, he⟩ | ⟨rfl, hor⟩
    · simp only [Bool.false_eq_true, if_false]
      refine seq_ok ht m (k + 1) (by omega) g _ w (by rw [he]; exact htr) ⟨by rw [he]; exact hst.good, by rw [he]; exact hst.dom, ?_, by rw [Act.put_def]; exact hst.defers⟩ hQ
      rw [he, htm]
      exact hst.tmps.put tup_undef _
    · simp only [if_true]
      left
      have hM : OpM P ops[k] (tms k) (hps k) v (hps (k + 1)) := hor.elim OpN.toM And.right
      refine hM Q a w g _ hst.dom (fun x _ u hu => hst.tmps.ev hu) hst.good fun vv w' g' k1 k2 k3 k4 _ => ?_
      refine seq_ok ht m (k + 1) (by omega) g' _ w' (htr.trans k1) ⟨k2, k3, ?_, by rw [Act.put_def]; exact hst.defers⟩ hQ
      rw [htm]
      exact TmR.put (hst.tmps.imp fun _ _ h => h.trans k1 hst.good) k4 _
end
end Go.AM
