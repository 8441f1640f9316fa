import Derived.Test.YtlacambjecjdbaaAmReg
import Derived.OrdersHeld
set_option linter.unusedVariables false
set_option linter.unusedSimpArgs false
set_option linter.unnecessarySimpa false
/-! Regions that draw their order. -/
namespace Go.AM

def reachB (ops : Array Oper) (i : Nat) : Nat → Nat → Bool
  | 0, _ => false
  | fuel + 1, d => match ops[d]? with
    | some o => o.after.any fun e => Region.binds .any e && (e.on == i || reachB ops i fuel e.on)
    | none => false
def regB (sh : FuncId → Bool) (ops : Array Oper) (es : List (Tmp × Nat)) : Bool :=
  (List.range ops.size).all fun j => (List.range j).all fun i =>
    match ops[i]?, ops[j]? with
    | some a, some b => bif memB i es then true else bif memB j es then a.apart ops b else reachB ops i ops.size j || (a.apart ops b && !isMut sh a && !isMut sh b)
    | _, _ => true
def earB (ops : Array Oper) : List (Tmp × Nat) → Array Bool → Bool
  | [], _ => true
  | (i, _) :: es, listed => (Region.ready .any ops listed).contains i && Region.free .any ops listed i && earB ops es (listed.setIfInBounds i true)
def fwdB (ops : Array Oper) : Bool :=
  (List.range ops.size).all fun j => match ops[j]? with
    | some b => b.after.all fun e => !Region.binds .any e || e.on < j
    | _ => true

def drawB (sh : FuncId → Bool) (ops : Array Oper) (es : List (Tmp × Nat)) : Bool :=
  fwdB ops && regB sh ops es && Region.noSelect ops && earB ops es (Array.replicate ops.size false)

/-- one step of a region of which some have been taken first -/
def EStep (P : Program) (sh : FuncId → Bool) (ops : Array Oper) (es : List (Tmp × Nat)) (ld : Bool) (n0 idx : Nat) (o : Oper) (tm : List AV) (hp : List Blk) (tm' : List AV) (hp' : List Blk) : Prop :=
  (memB idx es = true ∧ tm' = tm ∧ hp' = hp) ∨ (memB idx es = false ∧ OpStep P sh ops o tm hp tm' hp' ∧ (ld = true → isMut sh o = true →
    (∃ t x y τ i of E, o.op = .store t x y ∧ evD tm x = some (.ptr τ i of E) ∧ n0 ≤ τ) ∧ hp'.length = hp.length))

def TraceE (P : Program) (sh : FuncId → Bool) (ops : Array Oper) (es : List (Tmp × Nat)) (ld : Bool) (n0 : Nat) (tms : Nat → List AV) (hps : Nat → List Blk) : Prop :=
  ∀ j o, ops[j]? = some o → EStep P sh ops es ld n0 j o (tms j) (hps j) (tms (j + 1)) (hps (j + 1))

section
variable {P : Program} {T : TypeId → Option TI} {C : CF} {sh : FuncId → Bool} {o : Oper} {tm : List AV} {hp : List Blk} {r : AV × List Blk}

theorem lateK_ok {c : Bool} {n0 : Nat} {x : R} (h : lateK c n0 o tm x = some r) : x = some r ∧ (c = true → ∃ t x y τ i of E, o.op = .store t x y ∧ evD tm x = some (.ptr τ i of E) ∧ n0 ≤ τ) := by
  unfold lateK at h
  rcases cond_some h with ⟨hc, h1⟩ | ⟨hc, h1⟩
  · split at h1
    · rename_i t x' y ho
      obtain ⟨u, hu, h2⟩ := evK_some h1
      split at h2
      · rename_i τ i of E
        obtain ⟨h3, h4⟩ := cond_none h2
        exact ⟨h4, fun _ => ⟨t, x', y, τ, i, of, E, ho, hu, Nat.le_of_ble_eq_true h3⟩⟩
      · cases h2
    · cases h1
  · exact ⟨h1, fun e => by rw [hc] at e; cases e⟩

theorem opsE_ok (hT : TOk P T) (hC : CSound P C) {all : Array Oper} {es : List (Tmp × Nat)} {ld : Bool} {n0 : Nat} : ∀ {l : List Oper} {j0 : Nat} {tm : List AV} {hp : List Blk} {κ : List AV → List Blk → R}, opsE T C sh all.toList es ld n0 j0 l tm hp κ = some r →
    ∃ (tms : Nat → List AV) (hps : Nat → List Blk), tms 0 = tm ∧ hps 0 = hp ∧ κ (tms l.length) (hps l.length) = some r ∧ ∀ j o, l[j]? = some o → EStep P sh all es ld n0 (j0 + j) o (tms j) (hps j) (tms (j + 1)) (hps (j + 1))
  | [], j0, tm, hp, κ, h => ⟨fun _ => tm, fun _ => hp, rfl, rfl, h, fun j o h => by simp at h⟩
  | o :: l, j0, tm, hp, κ, h => by
    have fin : ∀ tm1 hp1, EStep P sh all es ld n0 j0 o tm hp tm1 hp1 → opsE T C sh all.toList es ld n0 (j0 + 1) l tm1 hp1 κ = some r →
        ∃ (tms : Nat → List AV) (hps : Nat → List Blk), tms 0 = tm ∧ hps 0 = hp ∧ κ (tms (o :: l).length) (hps (o :: l).length) = some r ∧ ∀ j o', (o :: l)[j]? = some o' → EStep P sh all es ld n0 (j0 + j) o' (tms j) (hps j) (tms (j + 1)) (hps (j + 1)) := by
      intro tm1 hp1 hst h
      obtain ⟨tms, hps, e1, e2, e3, e4⟩ := opsE_ok hT hC h
      refine ⟨fun i => match i with | 0 => tm | i + 1 => tms i, fun i => match i with | 0 => hp | i + 1 => hps i, rfl, rfl, e3, fun j o' hj => ?_⟩
      cases j with
      | zero => simp at hj; subst hj; simp only [e1, e2]; exact hst
      | succ j =>
        have := e4 j o' (by simpa using hj)
        rw [show j0 + (j + 1) = j0 + 1 + j by omega]
        exact this
    unfold opsE at h
    rcases cond_some h with ⟨hm, h1⟩ | ⟨hm, h1⟩
    · exact fin tm hp (.inl ⟨hm, rfl, rfl⟩) h1
    · obtain ⟨h2, h3⟩ := lateK_ok h1
      obtain ⟨tms, hps, e1, e2, e3, e4⟩ := ops_ok hT hC h2
      have hst := e4.step 0 o rfl
      simp only [List.length_cons, List.length_nil] at e3
      rw [e1, e2] at hst
      rcases cond_some e3 with ⟨hc, h4⟩ | ⟨hc, h4⟩
      · obtain ⟨h5, h6⟩ := cond_none h4
        refine fin _ _ (.inr ⟨hm, hst, fun _ _ => ⟨h3 hc, beq_eq h5⟩⟩) h6
      · refine fin _ _ (.inr ⟨hm, hst, fun e1 e2 => ?_⟩) h4
        rw [e1, e2] at hc
        cases hc
end

section
variable {P : Program} {sh : FuncId → Bool} {ops : Array Oper} {es : List (Tmp × Nat)} {ld : Bool} {n0 : Nat} {Q : Exit → Act → World → Prop} {tms : Nat → List AV} {hps : Nat → List Blk}

theorem fwd_spec (h : fwdB ops = true) {j : Nat} {o : Oper} (hj : ops[j]? = some o) : ∀ e ∈ o.after, Region.binds .any e = true → e.on < j := by
  intro e he hb
  unfold fwdB at h
  rw [List.all_eq_true] at h
  have hl := (Array.getElem?_eq_some_iff.1 hj).1
  have h1 := h j (List.mem_range.2 hl)
  simp only [hj] at h1
  have h2 := Array.all_eq_true_iff_forall_mem.1 h1 e he
  simpa [hb] using h2

theorem reg_spec (h : regB sh ops es = true) {i j : Nat} {a b : Oper} (hij : i < j) (hi : ops[i]? = some a) (hj : ops[j]? = some b) (h1 : memB i es = false) (h2 : memB j es = false) :
    reachB ops i ops.size j = true ∨ (a.apart ops b = true ∧ isMut sh a = false ∧ isMut sh b = false) := by
  unfold regB at h
  rw [List.all_eq_true] at h
  have hl := (Array.getElem?_eq_some_iff.1 hj).1
  have h3 := h j (List.mem_range.2 hl)
  rw [List.all_eq_true] at h3
  have h4 := h3 i (List.mem_range.2 hij)
  simp only [hi, hj, h1, h2, cond_false, Bool.or_eq_true, Bool.and_eq_true, Bool.not_eq_true'] at h4
  exact h4.imp id fun ⟨⟨h3, h4⟩, h5⟩ => ⟨h3, h4, h5⟩

theorem reg_early (h : regB sh ops es = true) {i j : Nat} {a b : Oper} (hij : i < j) (hi : ops[i]? = some a) (hj : ops[j]? = some b) (h1 : memB i es = false) (h2 : memB j es = true) : a.apart ops b = true := by
  unfold regB at h
  rw [List.all_eq_true] at h
  have hl := (Array.getElem?_eq_some_iff.1 hj).1
  have h3 := h j (List.mem_range.2 hl)
  rw [List.all_eq_true] at h3
  have h4 := h3 i (List.mem_range.2 hij)
  simpa only [hi, hj, h1, h2, cond_false, cond_true] using h4

abbrev Ls (listed : Array Bool) (i : Nat) : Prop := listed.getD i false = true

def Closed (ops : Array Oper) (listed : Array Bool) : Prop := ∀ j o, ops[j]? = some o → Ls listed j → ∀ e ∈ o.after, Region.binds .any e = true → Ls listed e.on

theorem reach_preds {listed : Array Bool} (hc : Closed ops listed) {i : Nat} : ∀ {fuel d : Nat} {o : Oper}, ops[d]? = some o → (∀ e ∈ o.after, Region.binds .any e = true → Ls listed e.on) → reachB ops i fuel d = true → Ls listed i
  | 0, d, o, _, _, h => by simp [reachB] at h
  | fuel + 1, d, o, hd, hp, h => by
    simp only [reachB, hd] at h
    obtain ⟨e, he, h1⟩ := Array.any_eq_true'.1 h
    simp only [Bool.and_eq_true, Bool.or_eq_true, beq_iff_eq] at h1
    obtain ⟨hb, h2⟩ := h1
    have hl := hp e he hb
    rcases h2 with rfl | h2
    · exact hl
    · cases ho : ops[e.on]? with
      | none => cases fuel <;> simp [reachB, ho] at h2
      | some o' => exact reach_preds hc ho (hc e.on o' ho hl) h2

theorem reach_listed {listed : Array Bool} (hc : Closed ops listed) {i fuel d : Nat} (hd : Ls listed d) (h : reachB ops i fuel d = true) : Ls listed i := by
  cases ho : ops[d]? with
  | none => cases fuel <;> simp [reachB, ho] at h
  | some o => exact reach_preds hc ho (hc d o ho hd) h

/-- operation i writes temporary t -/
def Wr (ops : Array Oper) (i t : Nat) : Prop := (ops[i]?).bind (·.dst) = some t

theorem TraceE.pre {tms : Nat → List AV} (ht : TraceE P sh ops es ld n0 tms hps) {i j : Nat} (hij : i ≤ j) (hj : j ≤ ops.size) (hn : ∀ k, i ≤ k → k < j → ∀ o, ops[k]? = some o → memB k es = false → isMut sh o = false) : hps i <+: hps j := by
  induction j with
  | zero => obtain rfl : i = 0 := by omega
            exact List.prefix_refl _
  | succ j ih =>
    rcases Nat.lt_or_ge j i with h | h
    · obtain rfl : i = j + 1 := by omega
      exact List.prefix_refl _
    · refine (ih h (by omega) fun k h1 h2 => hn k h1 (by omega)).trans ?_
      have hjl : j < ops.size := by omega
      have hok : ops[j]? = some ops[j] := Array.getElem?_eq_getElem hjl
      rcases ht j ops[j] hok with ⟨_, _, he⟩ | ⟨hm, hst, _⟩
      · rw [he]; exact List.prefix_refl _
      obtain ⟨want, v, _, _, hor⟩ := hst.go
      rcases hor with ⟨_, _, he⟩ | ⟨_, hor⟩
      · rw [he]; exact List.prefix_refl _
      · rcases hor with h1 | ⟨h1, _⟩
        · exact h1.1
        · rw [hn j h (by omega) _ hok hm] at h1; cases h1

theorem TraceE.len {tms : Nat → List AV} (ht : TraceE P sh ops es ld n0 tms hps) {p : Nat} (hp : p ≤ ops.size) : (tms p).length = (tms 0).length := by
  induction p with
  | zero => rfl
  | succ p ih =>
    have hok : ops[p]? = some ops[p] := Array.getElem?_eq_getElem (by omega)
    rcases ht p ops[p] hok with ⟨_, he, _⟩ | ⟨hm, hst, _⟩
    · rw [he]; exact ih (by omega)
    obtain ⟨want, v, _, he, _⟩ := hst.go
    rw [he, ← ih (by omega)]
    cases ops[p].dst <;> simp [putL]

/-- a temporary that is not written stays -/
theorem TraceE.same {tms : Nat → List AV} (ht : TraceE P sh ops es ld n0 tms hps) {t p q : Nat} (hpq : p ≤ q) (hq : q ≤ ops.size) (hn : ∀ i, p ≤ i → i < q → Wr ops i t → memB i es = true) : (tms q)[t]? = (tms p)[t]? := by
  induction q with
  | zero => obtain rfl : p = 0 := by omega
            rfl
  | succ q ih =>
    rcases Nat.lt_or_ge q p with h | h
    · obtain rfl : p = q + 1 := by omega
      rfl
    · rw [← ih h (by omega) fun i h1 h2 => hn i h1 (by omega)]
      have hok : ops[q]? = some ops[q] := Array.getElem?_eq_getElem (by omega)
      rcases ht q ops[q] hok with ⟨_, he, _⟩ | ⟨hm, hst, _⟩
      · rw [he]
      obtain ⟨want, v, _, he, _⟩ := hst.go
      rw [he]
      cases hd : ops[q].dst with
      | none => rfl
      | some d =>
        have hne : ¬ Wr ops q t := fun hw => by rw [hn q h (by omega) hw] at hm; cases hm
        simp only [putL]
        rw [List.getElem?_set, if_neg]
        intro e
        subst e
        exact hne (by simp [Wr, hok, hd])

structure Inv (P : Program) (sh : FuncId → Bool) (ops : Array Oper) (es : List (Tmp × Nat)) (ld : Bool) (n0 : Nat) (w1 : World) (tms : Nat → List AV) (hps : Nat → List Blk) (g0 : G) (H0 : List Blk) (w0 : World) (listed : Array Bool) (a : Act) (w : World) (g : G) (s e : Nat) : Prop where
  size : listed.size = ops.size
  closed : Closed ops listed
  se : s ≤ e
  en : e ≤ ops.size
  done : ∀ i, i < s → Ls listed i
  rest : ∀ i, e ≤ i → Ls listed i → memB i es = true
  early : ∀ i, i < ops.size → memB i es = true → Ls listed i
  nomut : ∀ i, s ≤ i → i < e → ∀ o, ops[i]? = some o → memB i es = false → isMut sh o = false
  emut : e = ops.size ∨ ∃ o, ops[e]? = some o ∧ isMut sh o = true ∧ memB e es = false
  tr : Trans g0 H0 w0 g (hps e) w
  good : Good g (hps e) w
  dom : ∀ τ, g.dom τ ↔ τ < (hps s).length ∨ ∃ i, s ≤ i ∧ i < e ∧ Ls listed i ∧ (hps i).length ≤ τ ∧ τ < (hps (i + 1)).length
  tm : ∀ t p x, p ≤ ops.size → (∀ i, i < p → Wr ops i t → Ls listed i) → (∀ i, p ≤ i → Ls listed i → ¬ Wr ops i t) → (tms p)[t]? = some x → a.tmps[t]? = some (a.tmps.getD t undef) ∧ V3 g (hps e) w x (a.tmps.getD t undef)
  len : (tms 0).length = a.tmps.size
  defers : a.defers = []
  fresh : ld = true → ∀ τ, g.dom τ → n0 ≤ τ → ∀ b o, g.ρ τ = some (b, o) → w1.heap.size ≤ b
  held : ld = true → Same w1 w
  sz : w1.heap.size ≤ w.heap.size

section
variable {g0 : G} {H0 : List Blk} {w0 w1 : World} {listed : Array Bool} {a : Act} {w : World} {g : G} {s e : Nat}

theorem Ls_set {i j : Nat} (hi : i < listed.size) : Ls (listed.setIfInBounds i true) j ↔ Ls listed j ∨ j = i := by
  by_cases h : j = i
  · subst h
    simp [Ls, hi]
  · have h' : i ≠ j := fun e => h e.symm
    simp only [Ls, h, or_false]
    rw [getD_set_ne false h']

theorem noLs {n i : Nat} : ¬ Ls (Array.replicate n false) i := by
  unfold Ls
  rw [Array.getD_eq_getD_getElem?, Array.getElem?_replicate]
  split <;> simp

theorem unlisted {j : Nat} (hj : listed.getD j true = false) : ¬ Ls listed j ∧ j < listed.size := by
  rcases Nat.lt_or_ge j listed.size with h | h
  · simp [h] at hj
    exact ⟨by simp [Ls, h, hj], h⟩
  · simp [Array.getElem?_eq_none h] at hj

theorem Inv.late (hI : Inv P sh ops es ld n0 w1 tms hps g0 H0 w0 listed a w g s e) {j : Nat} {o : Oper} (hj : ops[j]? = some o) (hun : ¬ Ls listed j) : memB j es = false := by
  cases h : memB j es with
  | false => rfl
  | true => exact absurd (hI.early j (Array.getElem?_eq_some_iff.1 hj).1 h) hun

/-- what an operation reads is as it is told in the order of the text -/
theorem Inv.reads (ht : TraceE P sh ops es ld n0 tms hps) (hr : regB sh ops es = true) (hI : Inv P sh ops es ld n0 w1 tms hps g0 H0 w0 listed a w g s e) {j : Nat} {o : Oper} (hj : ops[j]? = some o) (hun : ¬ Ls listed j)
    (hpre : ∀ e ∈ o.after, Region.binds .any e = true → Ls listed e.on) {t : Nat} (hl : t ∈ o.looksAt ops) {x : AV} (hx : (tms j)[t]? = some x) :
    a.tmps[t]? = some (a.tmps.getD t undef) ∧ V3 g (hps e) w x (a.tmps.getD t undef) := by
  have hjl := (Array.getElem?_eq_some_iff.1 hj).1
  refine hI.tm t j x (by omega) (fun i hi hw => ?_) (fun i hi hL hw => ?_) hx
  · obtain ⟨oi, ho⟩ : ∃ oi, ops[i]? = some oi := ⟨_, Array.getElem?_eq_getElem (show i < ops.size by omega)⟩
    cases hmi : memB i es with
    | true => exact hI.early i (by omega) hmi
    | false =>
      rcases reg_spec hr hi ho hj hmi (hI.late hj hun) with h | ⟨h, _, _⟩
      · exact reach_preds hI.closed hj hpre h
      · obtain ⟨h1, _, _⟩ := Oper.apart_spec h
        simp only [Wr, ho, Option.bind_some] at hw
        exact absurd hl (h1 t hw)
  · by_cases he : i = j
    · subst he; exact hun hL
    · obtain ⟨oi, ho⟩ : ∃ oi, ops[i]? = some oi := by
        cases h : ops[i]? with
        | none => simp [Wr, h] at hw
        | some oi => exact ⟨oi, rfl⟩
      cases hmi : memB i es with
      | true =>
        obtain ⟨_, _, h3⟩ := Oper.apart_spec (reg_early hr (show j < i by omega) hj ho (hI.late hj hun) hmi)
        simp only [Wr, ho, Option.bind_some] at hw
        exact h3 t hw hl
      | false =>
        rcases reg_spec hr (show j < i by omega) hj ho (hI.late hj hun) hmi with h | ⟨h, _, _⟩
        · exact hun (reach_listed hI.closed hL h)
        · obtain ⟨_, _, h3⟩ := Oper.apart_spec h
          simp only [Wr, ho, Option.bind_some] at hw
          exact h3 t hw hl

/-- the temporaries behind an operation -/
theorem Inv.put (ht : TraceE P sh ops es ld n0 tms hps) (hr : regB sh ops es = true) (hI : Inv P sh ops es ld n0 w1 tms hps g0 H0 w0 listed a w g s e) {j : Nat} {o : Oper} (hj : ops[j]? = some o) (hun : ¬ Ls listed j)
    {v : AV} {vv : Value} {g' : G} {H' : List Blk} {w' : World} (htm : tms (j + 1) = putL (tms j) o.dst v) (hmono : ∀ x u, V3 g (hps e) w x u → V3 g' H' w' x u) (hv : V3 g' H' w' v vv) :
    ∀ t p x, p ≤ ops.size → (∀ i, i < p → Wr ops i t → Ls (listed.setIfInBounds j true) i) → (∀ i, p ≤ i → Ls (listed.setIfInBounds j true) i → ¬ Wr ops i t) → (tms p)[t]? = some x →
      (a.put o.dst vv).tmps[t]? = some ((a.put o.dst vv).tmps.getD t undef) ∧ V3 g' H' w' x ((a.put o.dst vv).tmps.getD t undef) := by
  intro t p x hp h1 h2 hx
  have hjl := (Array.getElem?_eq_some_iff.1 hj).1
  have hjs : j < listed.size := by rw [hI.size]; exact hjl
  have htl : t < a.tmps.size := by
    have := (List.getElem?_eq_some_iff.1 hx).1
    rw [ht.len hp, hI.len] at this
    exact this
  by_cases hd : o.dst = some t
  · have hwj : Wr ops j t := by simp [Wr, hj, hd]
    have hpj : j < p := by
      rcases Nat.lt_or_ge j p with h | h
      · exact h
      · exact absurd hwj (h2 j h ((Ls_set hjs).2 (.inr rfl)))
    have hsame : (tms p)[t]? = (tms (j + 1))[t]? := ht.same (by omega) hp fun i hi hip hw => by
      have hL := (Ls_set hjs).1 (h1 i hip hw)
      have hL := hL.resolve_right (by omega)
      obtain ⟨oi, ho⟩ : ∃ oi, ops[i]? = some oi := ⟨_, Array.getElem?_eq_getElem (show i < ops.size by omega)⟩
      cases hmi : memB i es with
      | true => rfl
      | false =>
        exfalso
        rcases reg_spec hr (show j < i by omega) hj ho (hI.late hj hun) hmi with h | ⟨h, _, _⟩
        · exact hun (reach_listed hI.closed hL h)
        · obtain ⟨_, h4, _⟩ := Oper.apart_spec h
          simp only [Wr, ho, Option.bind_some] at hw
          exact h4 t hd hw
    have hsize : t < (tms j).length := by rw [ht.len (by omega), hI.len]; exact htl
    rw [hsame, htm, hd] at hx
    simp only [putL, List.getElem?_set, if_true, if_pos hsize, Option.some.injEq] at hx
    subst hx
    rw [hd]
    simp only [Act.put]
    refine ⟨by simp [htl], ?_⟩
    simpa [htl] using hv
  · have hnw : ¬ Wr ops j t := fun h => by
      simp only [Wr, hj, Option.bind_some] at h
      exact hd h
    obtain ⟨k1, k2⟩ := hI.tm t p x hp (fun i hi hw => by
      rcases (Ls_set hjs).1 (h1 i hi hw) with h | rfl
      · exact h
      · exact absurd hw hnw) (fun i hi hL => h2 i hi ((Ls_set hjs).2 (.inl hL))) hx
    have e : (a.put o.dst vv).tmps[t]? = a.tmps[t]? := by
      cases hdd : o.dst with
      | none => rfl
      | some d =>
        have hne : d ≠ t := fun e => hd (by rw [hdd, e])
        simp only [Act.put]
        rw [Array.getElem?_setIfInBounds_ne hne]
    have e2 : (a.put o.dst vv).tmps.getD t undef = a.tmps.getD t undef := by simp [e]
    rw [e, e2]
    exact ⟨k1, hmono _ _ k2⟩

theorem put_size (a : Act) (d : Option Tmp) (v : Value) : (a.put d v).tmps.size = a.tmps.size := by cases d <;> simp [Act.put]

theorem nextMut {k : Nat} (hk : k ≤ ops.size) : ∃ e', k ≤ e' ∧ e' ≤ ops.size ∧ (∀ i, k ≤ i → i < e' → ∀ o, ops[i]? = some o → memB i es = false → isMut sh o = false) ∧ (e' = ops.size ∨ ∃ o, ops[e']? = some o ∧ isMut sh o = true ∧ memB e' es = false) := by
  have key : ∀ m q, q + m = ops.size → k ≤ q → (∀ i, k ≤ i → i < q → ∀ o, ops[i]? = some o → memB i es = false → isMut sh o = false) →
      ∃ e', k ≤ e' ∧ e' ≤ ops.size ∧ (∀ i, k ≤ i → i < e' → ∀ o, ops[i]? = some o → memB i es = false → isMut sh o = false) ∧ (e' = ops.size ∨ ∃ o, ops[e']? = some o ∧ isMut sh o = true ∧ memB e' es = false) := by
    intro m
    induction m with
    | zero => intro q hk h1 h2; exact ⟨q, h1, by omega, h2, .inl (by omega)⟩
    | succ m ih =>
      intro q hk h1 h2
      have hok : ops[q]? = some ops[q] := Array.getElem?_eq_getElem (by omega)
      by_cases hm : isMut sh ops[q] = true ∧ memB q es = false
      · exact ⟨q, h1, by omega, h2, .inr ⟨_, hok, hm.1, hm.2⟩⟩
      · refine ih (q + 1) (by omega) (by omega) fun i hi1 hi2 o ho hmi => ?_
        by_cases hik : i = q
        · subst hik; rw [hok] at ho; cases ho
          cases h : isMut sh ops[i] with
          | false => rfl
          | true => exact absurd ⟨h, hmi⟩ hm
        · exact h2 i hi1 (by omega) o ho hmi
  exact key (ops.size - k) k (by omega) (Nat.le_refl _) fun i h1 h2 => by omega

/-- one operation more -/
theorem Inv.step (ht : TraceE P sh ops es ld n0 tms hps) (hf : fwdB ops = true) (hr : regB sh ops es = true) (hI : Inv P sh ops es ld n0 w1 tms hps g0 H0 w0 listed a w g s e) {j : Nat} (hj : j ∈ Region.ready .any ops listed)
    {K : Act → World → Prop} (hK : ∀ a' w' g' s' e', Inv P sh ops es ld n0 w1 tms hps g0 H0 w0 (listed.setIfInBounds j true) a' w' g' s' e' → K a' w') : wpOp P ops Q j K a w := by
  obtain ⟨hjun, o, hoj, hpre⟩ := mem_ready.1 hj
  obtain ⟨hun, hjs⟩ := unlisted hjun
  have hjl : j < ops.size := (Array.getElem?_eq_some_iff.1 hoj).1
  have hje : s ≤ j := by
    rcases Nat.lt_or_ge j s with h | h
    · exact absurd (hI.done j h) hun
    · exact h
  have hcl : Closed ops (listed.setIfInBounds j true) := fun k ok hk hL e he hb => by
    rcases (Ls_set hjs).1 hL with hL | rfl
    · exact (Ls_set hjs).2 (.inl (hI.closed k ok hk hL e he hb))
    · rw [hoj] at hk; cases hk
      exact (Ls_set hjs).2 (.inl (hpre e he hb))
  have hmj := hI.late hoj hun
  obtain ⟨_, hst, hld⟩ := (ht j o hoj).resolve_left fun h => by rw [hmj] at h; cases h.1
  obtain ⟨want, v, hgd, htm, hor⟩ := hst.go
  have hw := hgd.wanted (g := g) (H := hps e) (w := w) (a := a) (fun t ⟨k, b, hg, hd⟩ y hy => hI.reads ht hr hoj hun hpre (by
    unfold Oper.looksAt
    rw [hg]
    simp [hd]) hy)
  have hops : ∀ x ∈ o.op.operands, ∀ u, evD (tms j) x = some u → V3 g (hps e) w u (a.eval x) := fun x hx u hu =>
    ev_V3 (fun t ht' y hy => (hI.reads ht hr hoj hun hpre (by
      subst ht'
      unfold Oper.looksAt
      refine List.mem_append_left _ (List.mem_filterMap.2 ⟨.tmp t, by simpa using hx, rfl⟩)) hy).2) hu
  unfold wpOp
  simp only [hoj, hw]
  -- where the operation stands
  by_cases hlt : j < e
  · have hnm := hI.nomut j hje hlt o hoj hmj
    have hpre1 : hps (j + 1) <+: hps e := ht.pre (by omega) hI.en fun k h1 h2 => hI.nomut k (by omega) h2
    have hle : ∀ i k, s ≤ i → i ≤ k → k ≤ e → (hps i).length ≤ (hps k).length := fun i k h1 h2 h3 => (ht.pre h2 (Nat.le_trans h3 hI.en) fun q q1 q2 => hI.nomut q (by omega) (by omega)).length_le
    have hdom : ∀ τ, g.dom τ → τ < (hps j).length ∨ (hps (j + 1)).length ≤ τ := fun τ hτ => by
      rcases (hI.dom τ).1 hτ with h | ⟨i, h1, h2, h3, h4, h5⟩
      · left; have := hle s j (Nat.le_refl _) hje (by omega); omega
      · rcases Nat.lt_trichotomy i j with h | rfl | h
        · left; have := hle (i + 1) j (by omega) (by omega) (by omega); omega
        · exact absurd h3 hun
        · right; have := hle (j + 1) i (by omega) (by omega) (by omega); omega
    have newInv : ∀ (vv : Value) (w' : World) (g' : G), (∀ b, b < w.heap.size → w'.heap[b]? = w.heap[b]?) → (∀ τ, (hps j).length ≤ τ → τ < (hps (j + 1)).length → ∀ b o, g'.ρ τ = some (b, o) → w.heap.size ≤ b) → Trans g (hps e) w g' (hps e) w' → Good g' (hps e) w' → (∀ τ, g'.dom τ ↔ g.dom τ ∨ ((hps j).length ≤ τ ∧ τ < (hps (j + 1)).length)) → V3 g' (hps e) w' v vv →
        Inv P sh ops es ld n0 w1 tms hps g0 H0 w0 (listed.setIfInBounds j true) (a.put o.dst vv) w' g' s e := by
      intro vv w' g' kS kF k1 k2 k3 k4
      refine ⟨by simpa using hI.size, hcl, hI.se, hI.en, fun i hi => (Ls_set hjs).2 (.inl (hI.done i hi)), fun i hi hL => ?_, fun i h1 h2 => (Ls_set hjs).2 (.inl (hI.early i h1 h2)), hI.nomut, hI.emut, hI.tr.trans k1, k2, fun τ => ?_,
        hI.put ht hr hoj hun htm (fun x u hxu => hxu.trans k1 hI.good) k4, by rw [put_size]; exact hI.len, by rw [Act.put_def]; exact hI.defers, fun hl τ hd h0 b o hρ => ?_, fun hl b hb => ?_, Nat.le_trans hI.sz k1.size⟩
      · rcases (Ls_set hjs).1 hL with h | rfl
        · exact hI.rest i hi h
        · omega
      · rw [k3, hI.dom]
        constructor
        · rintro ((h | ⟨i, h1, h2, h3, h4⟩) | h)
          · exact .inl h
          · exact .inr ⟨i, h1, h2, (Ls_set hjs).2 (.inl h3), h4⟩
          · exact .inr ⟨j, hje, hlt, (Ls_set hjs).2 (.inr rfl), h⟩
        · rintro (h | ⟨i, h1, h2, h3, h4⟩)
          · exact .inl (.inl h)
          · rcases (Ls_set hjs).1 h3 with h | rfl
            · exact .inl (.inr ⟨i, h1, h2, h, h4⟩)
            · exact .inr h4
      · rcases (k3 τ).1 hd with h | ⟨h, h'⟩
        · rw [k1.ρ τ h] at hρ
          exact hI.fresh hl τ h h0 b o hρ
        · exact Nat.le_trans hI.sz (kF τ h h' b o hρ)
      · rw [kS b (Nat.lt_of_lt_of_le hb hI.sz)]
        exact hI.held hl b hb
    rcases hor with ⟨rfl, rfl, he⟩ | ⟨rfl, hor⟩
    · simp only [Bool.false_eq_true, if_false]
      refine hK _ _ g s e (newInv _ _ g (fun _ _ => rfl) (fun τ h1 h2 => by rw [he] at h2; omega) (Trans.refl _ _ _) hI.good (fun τ => ⟨.inl, fun h => h.resolve_right (by rw [he]; omega)⟩) tup_undef)
    · simp only [if_true]
      left
      have hN : OpN P o (tms j) (hps j) v (hps (j + 1)) := by
        rcases hor with h | ⟨h, _⟩
        · exact h
        · rw [hnm] at h; cases h
      refine hN.2 Q a w g (hps e) _ hpre1 hdom hops hI.good fun vv w' g' k0 k1 k2 k3 k4 k5 => hK _ _ g' s e (newInv vv w' g' k0 k5 k1 k2 k3 k4)
  · -- it is the operation that the segment ends with
    have hmutAll : ∀ i, i < e → Ls listed i := by
      intro i hi
      have hee : e = j ∨ e < j := by omega
      obtain ⟨oe, hoe, hme, hmE⟩ := hI.emut.resolve_left (by omega)
      obtain ⟨oi, hoi⟩ : ∃ oi, ops[i]? = some oi := ⟨_, Array.getElem?_eq_getElem (show i < ops.size by omega)⟩
      have hne : ¬ e < j := fun h => by
        rcases reg_spec hr h hoe hoj hmE hmj with h1 | ⟨_, h1, _⟩
        · have := hI.rest e (Nat.le_refl _) (reach_preds hI.closed hoj hpre h1)
          rw [hmE] at this; cases this
        · rw [hme] at h1; cases h1
      have hej : e = j := hee.resolve_right hne
      subst hej
      rw [hoj] at hoe; cases hoe
      cases hmi : memB i es with
      | true => exact hI.early i (by omega) hmi
      | false =>
        rcases reg_spec hr hi hoi hoj hmi hmj with h1 | ⟨_, _, h1⟩
        · exact reach_preds hI.closed hoj hpre h1
        · rw [hme] at h1; cases h1
    have hej : e = j := by
      rcases Nat.lt_or_ge e j with h | h
      · obtain ⟨oe, hoe, hme, hmE⟩ := hI.emut.resolve_left (by omega)
        rcases reg_spec hr h hoe hoj hmE hmj with h1 | ⟨_, h1, _⟩
        · have := hI.rest e (Nat.le_refl _) (reach_preds hI.closed hoj hpre h1)
          rw [hmE] at this; cases this
        · rw [hme] at h1; cases h1
      · omega
    subst hej
    -- the ghosts know all tokens
    have hle : ∀ i k, s ≤ i → i ≤ k → k ≤ e → (hps i).length ≤ (hps k).length := fun i k h1 h2 h3 => (ht.pre h2 (Nat.le_trans h3 hI.en) fun q q1 q2 => hI.nomut q (by omega) (by omega)).length_le
    have hcov : ∀ k, s ≤ k → k ≤ e → ∀ τ, τ < (hps k).length → τ < (hps s).length ∨ ∃ i, s ≤ i ∧ i < e ∧ Ls listed i ∧ (hps i).length ≤ τ ∧ τ < (hps (i + 1)).length := by
      intro k
      induction k with
      | zero => intro h1 h2 τ hτ; obtain rfl : s = 0 := by omega
                exact .inl hτ
      | succ k ih =>
        intro h1 h2 τ hτ
        rcases Nat.lt_or_ge k s with h | h
        · obtain rfl : s = k + 1 := by omega
          exact .inl hτ
        · by_cases h3 : τ < (hps k).length
          · exact ih h (by omega) τ h3
          · exact .inr ⟨k, h, by omega, hmutAll k (by omega), by omega, hτ⟩
    have hdome : ∀ τ, g.dom τ ↔ τ < (hps e).length := fun τ => by
      rw [hI.dom]
      constructor
      · rintro (h | ⟨i, h1, h2, _, _, h5⟩)
        · have := hle s e (Nat.le_refl _) hje (Nat.le_refl _); omega
        · have := hle (i + 1) e (by omega) (by omega) (Nat.le_refl _); omega
      · exact hcov e hje (Nat.le_refl _) τ
    -- the next segment
    obtain ⟨e', he1, he2, he3, he4⟩ := nextMut (sh := sh) (ops := ops) (es := es) (show e + 1 ≤ ops.size by omega)
    have hpre2 : hps (e + 1) <+: hps e' := ht.pre he1 he2 he3
    have newInv : ∀ (vv : Value) (w' : World) (g' : G), (ld = true → ∀ b, b < w1.heap.size → w'.heap[b]? = w.heap[b]?) → (∀ τ, (hps e).length ≤ τ → τ < (hps (e + 1)).length → ld = false) → Trans g (hps e) w g' (hps (e + 1)) w' → Good g' (hps (e + 1)) w' → (∀ τ, g'.dom τ ↔ τ < (hps (e + 1)).length) → V3 g' (hps (e + 1)) w' v vv →
        Inv P sh ops es ld n0 w1 tms hps g0 H0 w0 (listed.setIfInBounds e true) (a.put o.dst vv) w' g' (e + 1) e' := by
      intro vv w' g' kS kF k1 k2 k3 k4
      have hdd : ∀ τ, g'.dom τ → τ < (hps (e + 1)).length := fun τ h => (k3 τ).1 h
      have hext := Trans.ext (w := w') hpre2 hdd
      refine ⟨by simpa using hI.size, hcl, he1, he2, fun i hi => ?_, fun i hi hL => ?_, fun i h1 h2 => (Ls_set hjs).2 (.inl (hI.early i h1 h2)), he3, he4, (hI.tr.trans k1).trans hext, k2.ext hpre2 hdd, fun τ => ?_,
        hI.put ht hr hoj hun htm (fun x u hxu => (hxu.trans k1 hI.good).trans hext k2) (k4.trans hext k2), by rw [put_size]; exact hI.len, by rw [Act.put_def]; exact hI.defers, fun hl τ hd h0 b o hρ => ?_, fun hl b hb => ?_, Nat.le_trans hI.sz k1.size⟩
      · by_cases h : i = e
        · exact (Ls_set hjs).2 (.inr h)
        · exact (Ls_set hjs).2 (.inl (hmutAll i (by omega)))
      · rcases (Ls_set hjs).1 hL with h | rfl
        · exact hI.rest i (by omega) h
        · omega
      · rw [k3]
        refine ⟨.inl, fun h => h.resolve_right ?_⟩
        rintro ⟨i, h1, h2, h3, h4, h5⟩
        rcases (Ls_set hjs).1 h3 with h | rfl
        · have hmi := hI.rest i (by omega) h
          rcases ht i ops[i] (Array.getElem?_eq_getElem (by omega)) with ⟨_, _, he⟩ | ⟨h', _⟩
          · rw [he] at h5; omega
          · rw [hmi] at h'; cases h'
        · omega
      · have hτ := (k3 τ).1 hd
        by_cases h : τ < (hps e).length
        · have h' := (hdome τ).2 h
          rw [k1.ρ τ h'] at hρ
          exact hI.fresh hl τ h' h0 b o hρ
        · rw [kF τ (by omega) hτ] at hl; cases hl
      · rw [kS hl b hb]
        exact hI.held hl b hb
    have hme : isMut sh o = true := by
      rcases hI.emut with h | ⟨oe, hoe, hme, _⟩
      · omega
      · rw [hoj] at hoe; cases hoe; exact hme
    rcases hor with ⟨rfl, rfl, he⟩ | ⟨rfl, hor⟩
    · simp only [Bool.false_eq_true, if_false]
      exact hK _ _ g (e + 1) e' (newInv _ _ g (fun _ _ _ => rfl) (fun τ h1 h2 => by rw [he] at h2; omega) (by rw [he]; exact Trans.refl _ _ _) (by rw [he]; exact hI.good) (fun τ => by rw [hdome, he]) tup_undef)
    · simp only [if_true]
      left
      have hM : OpM P o (tms e) (hps e) v (hps (e + 1)) := hor.elim OpN.toM And.right
      refine hM Q a w g _ hdome hops hI.good fun vv w' g' k1 k2 k3 k4 k5 => hK _ _ g' (e + 1) e' (newInv vv w' g' (fun hl b hb => ?_) (fun τ h1 h2 => ?_) k1 k2 k3 k4)
      · obtain ⟨⟨t, x, y, τ, i, of, E, ho, hx, hn⟩, _⟩ := hld hl hme
        refine k5 b (Nat.lt_of_lt_of_le hb hI.sz) fun hwr => ?_
        have hv := hops x (by simp [ho, Op.operands]) _ hx
        obtain ⟨hd, _, b', base, n, h1, h2, h3⟩ := hv
        have h4 := hI.fresh hl τ hd hn b' base h1
        unfold wrB at hwr
        simp only [ho] at hwr
        obtain ⟨k, hk⟩ := hwr
        rw [hk] at h3
        cases h3
        omega
      · cases hl : ld with
        | false => rfl
        | true => have := (hld hl hme).2; omega

theorem Inv.fin (ht : TraceE P sh ops es ld n0 tms hps) (hI : Inv P sh ops es ld n0 w1 tms hps g0 H0 w0 listed a w g s e) (hall : ∀ i, i < ops.size → Ls listed i) : Trans g0 H0 w0 g (hps ops.size) w ∧ RS g (tms ops.size) (hps ops.size) a w := by
  have he : e = ops.size := by
    rcases Nat.lt_or_ge e ops.size with h | h
    · obtain ⟨oe, hoe, _, hmE⟩ := hI.emut.resolve_left (by omega)
      have := hI.rest e (Nat.le_refl _) (hall e h)
      rw [hmE] at this; cases this
    · have := hI.en; omega
  subst he
  have hle : ∀ i k, s ≤ i → i ≤ k → k ≤ ops.size → (hps i).length ≤ (hps k).length := fun i k h1 h2 h3 => (ht.pre h2 h3 fun q q1 q2 => hI.nomut q (by omega) (by omega)).length_le
  refine ⟨hI.tr, hI.good, fun τ => ?_, ?_, hI.defers⟩
  · rw [hI.dom]
    constructor
    · rintro (h | ⟨i, h1, h2, _, _, h5⟩)
      · have := hle s ops.size (Nat.le_refl _) hI.se (Nat.le_refl _); omega
      · have := hle (i + 1) ops.size (by omega) (by omega) (Nat.le_refl _); omega
    · have hcov : ∀ k, s ≤ k → k ≤ ops.size → ∀ τ, τ < (hps k).length → τ < (hps s).length ∨ ∃ i, s ≤ i ∧ i < ops.size ∧ Ls listed i ∧ (hps i).length ≤ τ ∧ τ < (hps (i + 1)).length := by
        intro k
        induction k with
        | zero => intro h1 h2 τ hτ; obtain rfl : s = 0 := by omega
                  exact .inl hτ
        | succ k ih =>
          intro h1 h2 τ hτ
          rcases Nat.lt_or_ge k s with h | h
          · obtain rfl : s = k + 1 := by omega
            exact .inl hτ
          · by_cases h3 : τ < (hps k).length
            · exact ih h (by omega) τ h3
            · exact .inr ⟨k, h, by omega, hall k (by omega), by omega, hτ⟩
      exact hcov _ hI.se (Nat.le_refl _) τ
  · have hlen : (tms ops.size).length = a.tmps.toList.length := by rw [ht.len (Nat.le_refl _), hI.len]; simp
    have key : ∀ (xs : List AV) (vs : List Value), xs.length = vs.length → (∀ (i : Nat) x v, xs[i]? = some x → vs[i]? = some v → V3 g (hps ops.size) w x v) → All2 (V3 g (hps ops.size) w) xs vs := by
      intro xs
      induction xs with
      | nil => intro vs h _; cases vs with | nil => trivial | cons _ _ => simp at h
      | cons x xs ih =>
        intro vs h hh
        cases vs with
        | nil => simp at h
        | cons v vs => exact ⟨hh 0 x v rfl rfl, ih vs (by simpa using h) fun i y u h1 h2 => hh (i + 1) y u (by simpa using h1) (by simpa using h2)⟩
    refine key _ _ hlen fun t x v hx hv => ?_
    obtain ⟨k1, k2⟩ := hI.tm t ops.size x (Nat.le_refl _) (fun i hi _ => hall i hi) (fun i hi hL hw => by
      cases ho : ops[i]? with
      | none => simp [Wr, ho] at hw
      | some oi => have := (Array.getElem?_eq_some_iff.1 ho).1; omega) hx
    have : a.tmps[t]? = some v := by simpa using hv
    rw [this] at k1
    cases k1
    exact k2

theorem ready_nil (hf : fwdB ops = true) (hs : listed.size = ops.size) (h : Region.ready .any ops listed = []) : ∀ i, i < ops.size → Ls listed i := by
  intro i
  induction i using Nat.strongRecOn with
  | _ i ih =>
    intro hi
    by_cases hL : Ls listed i
    · exact hL
    · exfalso
      have hoi : ops[i]? = some ops[i] := Array.getElem?_eq_getElem hi
      have hmem : i ∈ Region.ready .any ops listed := mem_ready.2 ⟨by
        simp only [Ls] at hL
        have hi' : i < listed.size := by omega
        simp [hi'] at hL ⊢
        exact hL, _, hoi, fun e he hb => ih e.on (fwd_spec hf hoi e he hb) (by have := fwd_spec hf hoi e he hb; omega)⟩
      rw [h] at hmem
      cases hmem

theorem count_set {i : Nat} (h : i < listed.size) (hu : listed.getD i true = false) : (listed.setIfInBounds i true).toList.count false + 1 = listed.toList.count false := by
  have hi : listed.toList[i]? = some false := by
    simp [h] at hu
    simp [h, hu]
  rw [Array.toList_setIfInBounds]
  have hlt : i < listed.toList.length := by simpa using h
  have hg : listed.toList[i] = false := (List.getElem?_eq_some_iff.1 hi).2
  rw [List.count_set hlt, hg]
  have hpos : 0 < listed.toList.count false := List.count_pos_iff.2 (List.mem_of_getElem? hi)
  have e1 : (if (false == false) = true then 1 else 0) = 1 := rfl
  have e2 : (if (true == false) = true then 1 else 0) = 0 := rfl
  rw [e1, e2]
  omega

theorem draw_any (ht : TraceE P sh ops es ld n0 tms hps) (hf : fwdB ops = true) (hr : regB sh ops es = true)
    (hQ : ∀ g' a' w', Trans g0 H0 w0 g' (hps ops.size) w' → RS g' (tms ops.size) (hps ops.size) a' w' → Q .normal a' w') :
    ∀ (fuel : Nat) (listed : Array Bool) (a : Act) (w : World) (g : G) (s e : Nat), Inv P sh ops es ld n0 w1 tms hps g0 H0 w0 listed a w g s e → listed.toList.count false ≤ fuel → wpAnyH P .any ops Q (fun w => ld = true → Same w1 w) fuel listed a w
  | 0, listed, a, w, g, s, e, hI, hc => by
    have hall : ∀ i, i < ops.size → Ls listed i := fun i hi => by
      have hi' : i < listed.size := by rw [hI.size]; exact hi
      cases hb : listed[i] with
      | true => simp [Ls, hi', hb]
      | false =>
        have : false ∈ listed.toList := by rw [← hb]; simp
        have := List.count_pos_iff.2 this
        omega
    have hrn : Region.ready .any ops listed = [] := by
      cases hR : Region.ready .any ops listed with
      | nil => rfl
      | cons i l =>
        have hm : i ∈ Region.ready .any ops listed := by rw [hR]; simp
        obtain ⟨hu, o, ho, _⟩ := mem_ready.1 hm
        exact absurd (hall i (Array.getElem?_eq_some_iff.1 ho).1) (unlisted hu).1
    obtain ⟨k1, k2⟩ := hI.fin ht hall
    exact ⟨hrn, hQ g a w k1 k2⟩
  | fuel + 1, listed, a, w, g, s, e, hI, hc => by
    refine ⟨fun hrn => ?_, fun i hi => ?_⟩
    · obtain ⟨k1, k2⟩ := hI.fin ht (ready_nil hf hI.size hrn)
      exact hQ g a w k1 k2
    · obtain ⟨hu, o, ho, _⟩ := mem_ready.1 hi
      have := count_set (unlisted hu).2 hu
      exact hI.step ht hf hr hi fun a' w' g' s' e' hI' => ⟨hI'.held, draw_any ht hf hr hQ fuel _ a' w' g' s' e' hI' (by omega)⟩
end

section
variable {T : TypeId → Option TI} {C : CF} {r : AV × List Blk}

theorem RS.heap {g : G} {tm : List AV} {hp : List Blk} {a : Act} {w : World} (h : RS g tm hp a w) {w' : World} (hh : w'.heap = w.heap) (he : Env w w') : RS g tm hp a w' :=
  ⟨h.good.heap hh he, h.dom, h.tmps.imp fun _ _ hv => hv.trans (Trans.heap hh he) h.good, h.defers⟩

theorem ear_step (hT : TOk P T) {o : Oper} {tm : List AV} {hp : List Blk} {κ : AV → List Blk → R} (he : isEar o = true) (h : aopK T C sh o tm hp κ = some r) : StepE P (isLd o) o tm hp κ r := by
  unfold aopK at h
  unfold isEar at he
  split at h <;> first
    | (rename_i ho; simp [ho] at he; done)
    | skip
  · rename_i x ho
    obtain ⟨v, hv, h⟩ := evK_some h
    refine ⟨v, h, fun a w g H _ hh _ => ⟨a.eval x, fun w2 _ => by simp [execOp, ho], hh x (by simp [ho, Op.operands]) v hv⟩⟩
  · rename_i t x ho
    have := load_stepE hT ho h
    have e : isLd o = true := by simp [isLd, ho]
    rw [e]; exact this
  · rename_i t x lo hi mx ho
    have := slice_stepE hT ho h
    have e : isLd o = false := by simp [isLd, ho]
    rw [e]; exact this

theorem early_ok (hT : TOk P T) (hs : Region.noSelect ops = true) (hQ : ∀ c a d v w, Q (.panic c) (Act.put a d v) w → Q (.panic c) a w) {g : G} {hp : List Blk} {w : World} {κ : List AV → List Blk → R} :
    ∀ {es : List (Tmp × Nat)} {tm : List AV} {listed : Array Bool} {a : Act}, earlyK T C sh ops.toList es tm hp κ = some r → (ldB ops.toList es = true → ld = true) → earB ops es listed = true → listed.size = ops.size → Closed ops listed → RS g tm hp a w →
    ∃ tm' a' listed', κ tm' hp = some r ∧ RS g tm' hp a' w ∧ listed'.size = ops.size ∧ Closed ops listed' ∧ (∀ i, Ls listed' i ↔ Ls listed i ∨ memB i es = true) ∧ listed'.toList.count false + es.length = listed.toList.count false ∧
      ∀ fuel, wpAnyH P .any ops Q (fun w2 => ld = true → Same w w2) fuel listed' a' w → wpAnyH P .any ops Q (fun w2 => ld = true → Same w w2) (fuel + es.length) listed a w
  | [], tm, listed, a, h, _, _, hz, hc, hst => ⟨tm, a, listed, h, hst, hz, hc, fun i => by simp [memB], by simp, fun fuel h => h⟩
  | (i, q) :: es, tm, listed, a, h, hl, hb, hz, hc, hst => by
    unfold earlyK at h
    obtain ⟨o, ho, h1⟩ := getK_some h
    have hoi : ops[i]? = some o := by simpa using ho
    split at h1
    case h_2 => cases h1
    rename_i hg
    obtain ⟨he, h2⟩ := cond_none h1
    obtain ⟨v, h3, h4⟩ := ear_step hT he h2
    dsimp only at h3
    rw [putK_eq] at h3
    obtain ⟨vv, h5, h6⟩ := h4 a w g hp (List.prefix_refl _) (fun x _ u hu => hst.tmps.ev hu) hst.good
    simp only [earB, Bool.and_eq_true] at hb
    obtain ⟨⟨hb1, hb2⟩, hb3⟩ := hb
    have hmem : i ∈ Region.ready .any ops listed := by simpa using hb1
    obtain ⟨hu, o', ho', hpre⟩ := mem_ready.1 hmem
    rw [hoi] at ho'; cases ho'
    obtain ⟨hun, hjs⟩ := unlisted hu
    have hlo : isLd o = true → ld = true := fun e => hl (by
      unfold ldB
      have : ops.toList[i]? = some o := ho
      simp [this, e])
    have hlr : ldB ops.toList es = true → ld = true := fun e => hl (by
      unfold ldB
      have : ops.toList[i]? = some o := ho
      simp [this, e])
    have hcl : Closed ops (listed.setIfInBounds i true) := fun k ok hk hL e he hb => by
      rcases (Ls_set hjs).1 hL with hL | rfl
      · exact (Ls_set hjs).2 (.inl (hc k ok hk hL e he hb))
      · rw [hoi] at hk; cases hk
        exact (Ls_set hjs).2 (.inl (hpre e he hb))
    obtain ⟨tm', a', listed', r1, r2, r3, r4, r5, r6, r7⟩ := early_ok hT hs hQ (a := a.put o.dst vv) h3 hlr hb3 (by simpa using hz) hcl ⟨hst.good, hst.dom, hst.tmps.put h6 _, by rw [Act.put_def]; exact hst.defers⟩
    refine ⟨tm', a', listed', r1, r2, r3, r4, fun k => ?_, ?_, fun fuel hH => ?_⟩
    · rw [r5, Ls_set hjs]
      have e : memB k ((i, q) :: es) = bif Nat.beq i k then true else memB k es := rfl
      rw [e]
      by_cases hk : i = k
      · subst hk; simp
      · have : Nat.beq i k = false := by
          cases hbb : Nat.beq i k with
          | false => rfl
          | true => exact absurd (Nat.eq_of_beq_eq_true hbb) hk
        simp only [this, cond_false]
        constructor
        · rintro ((h | h) | h)
          · exact .inl h
          · exact absurd h.symm hk
          · exact .inr h
        · rintro (h | h)
          · exact .inl (.inl h)
          · exact .inr h
    · have := count_set hjs hu
      simp only [List.length_cons]
      omega
    · have := r7 fuel hH
      rw [List.length_cons, ← Nat.add_assoc]
      refine wpAnyH_take hoi hs hb2 hb1 (fun c a w => hQ c a _ _ w) (.inl ⟨by simp [Region.wanted, hg], fun w2 hw => h5 w2 fun e => hw (hlo e)⟩) (fun _ => .refl w) this

/-- a region that draws its order -/
theorem draw_ok (hT : TOk P T) (hC : CSound P C) {id : Nat} (hm : P.follows .mixedOrders = true) {es : List (Tmp × Nat)} (hok : drawB sh ops es = true) {tm : List AV} {hp : List Blk} {κ : List AV → List Blk → R}
    (h : (earlyK T C sh ops.toList es tm hp fun tm hp => opsE T C sh ops.toList es (ldB ops.toList es) hp.length 0 ops.toList tm hp κ) = some r)
    {g0 : G} {H0 : List Blk} {w0 : World} {g : G} {a : Act} {w : World}
    (htr : Trans g0 H0 w0 g hp w) (hst : RS g tm hp a w) (hQ : ∀ tm' hp' g' a' w', κ tm' hp' = some r → Trans g0 H0 w0 g' hp' w' → RS g' tm' hp' a' w' → Q .normal a' w') :
    (Code.region id ops true).wp P Q a w := by
  simp only [drawB, Bool.and_eq_true] at hok
  obtain ⟨⟨⟨hf, hr⟩, hs⟩, hb⟩ := hok
  refine wp_mono (Q := fun e a w => e = .normal ∧ Q .normal a w) ?_ fun e a w h => by rw [h.1]; exact h.2
  refine wp_region_held (S := fun w2 => ldB ops.toList es = true → Same w.drew w2) hm ?_
  have hh : (w.drew).heap = w.heap := rfl
  have hd0 := Trans.heap (g := g) (H := hp) hh (.refl w)
  obtain ⟨tm', a', listed', r1, r2, r3, r4, r5, r6, r7⟩ := early_ok (ld := ldB ops.toList es) (Q := fun e a w => e = .normal ∧ Q .normal a w) hT hs (fun c a d v w h => by cases h.1) h (fun e => e) hb (by simp) (fun j o _ hL => absurd hL noLs) (hst.heap hh (.refl w))
  obtain ⟨tms, hps, e1, e2, e3, e4⟩ := opsE_ok hT hC r1
  subst e1; subst e2
  have ht : TraceE P sh ops es (ldB ops.toList es) (hps 0).length tms hps := fun j o hj => by
    have := e4 j o (by simpa using hj)
    simpa using this
  have hcnt : (Array.replicate ops.size false).toList.count false = ops.size := by simp
  rw [hcnt] at r6
  have hfuel : ops.size = (ops.size - es.length) + es.length := by omega
  show wpAnyH P .any ops _ _ ops.size (Array.replicate ops.size false) a w.drew
  have key := r7 (ops.size - es.length) ?_
  · rw [← hfuel] at key
    exact key
  obtain ⟨e, he1, he2, he3, he4⟩ := nextMut (sh := sh) (ops := ops) (es := es) (Nat.zero_le _)
  have hpre := ht.pre (Nat.zero_le e) he2 he3
  have hdd : ∀ τ, g.dom τ → τ < (hps 0).length := fun τ h => (r2.dom τ).1 h
  have hext := Trans.ext (w := w.drew) hpre hdd
  have hL : ∀ i, Ls listed' i → memB i es = true := fun i h => ((r5 i).1 h).resolve_left noLs
  refine draw_any ht hf hr (fun g' a' w' k1 k2 => ⟨rfl, hQ _ _ g' a' w' (by simpa using e3) k1 k2⟩) _ listed' a' w.drew g 0 e ⟨r3, r4, Nat.zero_le _, he2, fun i hi => by omega, fun i _ h => hL i h, fun i _ h => (r5 i).2 (.inr h), he3, he4, (htr.trans hd0).trans hext, r2.good.ext hpre hdd, fun τ => ?_, fun t p x hp h1 h2 hx => ?_, ?_, r2.defers, fun _ τ hd hn => ?_, fun _ => .refl _, Nat.le_refl _⟩ ?_
  · rw [r2.dom]
    refine ⟨.inl, fun h => h.resolve_right ?_⟩
    rintro ⟨i, h1, h2, h3, h4, h5⟩
    rcases ht i ops[i] (Array.getElem?_eq_getElem (by omega)) with ⟨_, _, he⟩ | ⟨h', _⟩
    · rw [he] at h5; omega
    · rw [hL i h3] at h'; cases h'
  · have hs := ht.same (t := t) (Nat.zero_le p) hp fun i _ hi hw => hL i (h1 i hi hw)
    rw [hs] at hx
    obtain ⟨k1, k2⟩ := r2.tmps.get hx
    exact ⟨k1, k2.trans hext r2.good⟩
  · have := All2_len r2.tmps; simpa using this
  · have := (r2.dom τ).1 hd; omega
  · omega
end
end
end Go.AM
