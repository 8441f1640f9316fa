import Derived.Test.YtlacambjecjdbaaAmCall
set_option linter.unusedVariables false
set_option linter.unusedSimpArgs false
set_option linter.unnecessarySimpa false
/-! A call that reads alone. -/
namespace Go.AM

section
variable {P : Program} {T : TypeId → Option TI} {o : Oper} {tm : List AV} {hp : List Blk} {κ : AV → List Blk → R} {r : AV × List Blk}

theorem lends2_ok : ∀ {l : List AV} {κ : List AV → Bool → R}, lends2K hp l κ = some r → ∃ l' b, κ l' b = some r ∧ ∀ (g : G) (H : List Blk) (w : World) (B : Bool), hp <+: H → Good g H w → (b = true → B = true) →
    ∀ vs : List Value, All2 (V2 g H w) l vs → All2 (V2 (g.lent w B) [] w) l' vs
  | [], κ, h => ⟨[], false, h, fun g H w B hH hg hB vs hv => by cases vs <;> simp_all [All2]⟩
  | v :: l, κ, h => by
    simp only [lends2K] at h
    obtain ⟨v', b1, h1, hv⟩ := lend2_ok h
    obtain ⟨l', b2, h2, hl⟩ := lends2_ok h1
    refine ⟨v' :: l', b1 || b2, h2, fun g H w B hH hg hB vs hvs => ?_⟩
    cases vs with
    | nil => exact hvs.elim
    | cons u us => exact ⟨(hv g H w B u hH hg (fun e => hB (by simp [e])) (V3_of_V2 hvs.1)).2, hl g H w B hH hg (fun e => hB (by simp [e])) us hvs.2⟩

theorem lend3_ok {v : AV} {κ : AV → Bool → R} (h : lend3K hp v κ = some r) : ∃ v' b, κ v' b = some r ∧ ∀ (g : G) (H : List Blk) (w : World) (B : Bool) (val : Value), hp <+: H → Good g H w → (b = true → B = true) → V3 g H w v val →
    V3 (g.lent w B) [] w v' val := by
  unfold lend3K at h
  split at h
  · rename_i f a c
    obtain ⟨a', b1, h1, ha⟩ := lends2_ok h
    obtain ⟨c', b2, h2, hc⟩ := lends2_ok h1
    refine ⟨_, _, h2, fun g H w B val hH hg hB hv => ?_⟩
    obtain ⟨av, cv, e, k1, k2⟩ := hv
    exact ⟨av, cv, e, ha g H w B hH hg (fun e => hB (by simp [e])) av k1, hc g H w B hH hg (fun e => hB (by simp [e])) cv k2⟩
  · obtain ⟨v', b, h1, hv⟩ := lend2_ok h
    exact ⟨v', b, h1, fun g H w B val hH hg hB hval => V3_of_V2 (hv g H w B val hH hg hB hval).2⟩

theorem lends3_ok : ∀ {l : List AV} {κ : List AV → Bool → R}, lends3K hp l κ = some r → ∃ l' b, κ l' b = some r ∧ ∀ (g : G) (H : List Blk) (w : World) (B : Bool), hp <+: H → Good g H w → (b = true → B = true) →
    ∀ vs : List Value, All2 (V3 g H w) l vs → All2 (V3 (g.lent w B) [] w) l' vs
  | [], κ, h => ⟨[], false, h, fun g H w B hH hg hB vs hv => by cases vs <;> simp_all [All2]⟩
  | v :: l, κ, h => by
    simp only [lends3K] at h
    obtain ⟨v', b1, h1, hv⟩ := lend3_ok h
    obtain ⟨l', b2, h2, hl⟩ := lends3_ok h1
    refine ⟨v' :: l', b1 || b2, h2, fun g H w B hH hg hB vs hvs => ?_⟩
    cases vs with
    | nil => exact hvs.elim
    | cons u us => exact ⟨hv g H w B u hH hg (fun e => hB (by simp [e])) hvs.1, hl g H w B hH hg (fun e => hB (by simp [e])) us hvs.2⟩

/-- a call's operands, the function's own ahead -/
theorem call_vals {c : Call} {f : Operand} (ho : o.op = .call c) (hc : c.callee = .value f) {gf : FuncId} {fs cs args : List AV} (hf : evD tm f = some (.fn gf fs cs)) (ha : evsD tm c.args.toList = some args) :
    ∀ (g : G) (H : List Blk) (w : World) (a : Act), (∀ x ∈ o.op.operands, ∀ u, evD tm x = some u → V3 g H w u (a.eval x)) → ∃ vs : List Value, All2 (V3 g H w) (fs ++ (args ++ cs)) vs ∧
      (Enters P gf → (execOp a.eval o).run P w = .ok (.enter gf vs.toArray) w) := by
  intro g H w a hh
  have h1 := hh f (by rw [ho]; simp [Op.operands, Call.operands, hc]) _ hf
  have h2 := args_rel ho ha hh
  obtain ⟨av, cv, e, k1, k2⟩ := h1
  refine ⟨av ++ ((c.args.map a.eval).toList ++ cv), (k1.imp fun _ _ h => V3_of_V2 h).append (h2.append (k2.imp fun _ _ h => V3_of_V2 h)), ?_⟩
  rintro ⟨fn, e1, e2, e3⟩
  have e4 : (av ++ ((c.args.map a.eval).toList ++ cv)).toArray = (⟨av⟩ : Array Value) ++ c.args.map a.eval ++ ⟨cv⟩ := by
    apply Array.ext'
    simp
  simp only [execOp, ho, resolve, hc, e, Deferred.ofValue, Sem.run_bind, Sem.run_pure, Result.andThen_ok, invoke, callFunc]
  have e2' : ¬ fn.name = "runtime.NumGoroutine" := by simpa using e2
  have e3' : ¬ fn.body = none := fun h => by simp [h] at e3
  simp [e1, e2', e3']

theorem okRs_mem : ∀ {l : List AV}, okRs l = true → ∀ x ∈ l, okR1 x = true
  | [], _, x, hx => by cases hx
  | y :: l, h, x, hx => by
    simp only [okRs, Bool.and_eq_true] at h
    cases hx with
    | head => exact h.1
    | tail _ hx => exact okRs_mem h.2 x hx

section back
variable {g g1 g2 : G} {H hc : List Blk} {w w' : World} {n : Nat}

/-- how the callee's ghosts are told to the caller -/
structure Back (g g1 g2 : G) (hc H : List Blk) (n : Nat) (B : Bool) (w : World) : Prop where
  dom : ∀ τ, g1.dom τ → g2.dom (n + τ)
  ρ : ∀ τ, g1.dom τ → g2.ρ (n + τ) = g1.ρ τ
  blk : ∀ τ b, hc[τ]? = some b → H[n + τ]? = some b
  lt : ∀ τ, g1.dom τ → τ < hc.length
  Sl : ∀ b, g1.Sl b → g2.Sl b
  S : B = false → ∀ b, g1.S b → g2.S b

theorem Back.blk' {B : Bool} (hb : Back g g1 g2 hc H n B w) {τ : Nat} {b : Blk} (hd : g1.dom τ) (h : H[n + τ]? = some b) : hc[τ]? = some b := by
  have := hb.lt τ hd
  obtain ⟨c, hcc⟩ : ∃ c, hc[τ]? = some c := ⟨_, List.getElem?_eq_getElem this⟩
  have := hb.blk τ c hcc
  rw [h] at this
  cases this
  exact hcc

theorem PCell.back {B : Bool} (hb : Back g g1 g2 hc H n B w) {x : AV} {v : Value} (hf : B = false ∨ far1 x = false) (h : PCell g1.S g1.Sl w' x v) : PCell g2.S g2.Sl w' x v := by
  cases x with
  | lst o c E xs =>
    simp only [PCell] at h ⊢
    obtain ⟨A, cap, e, h1, h2, h3⟩ := h
    refine ⟨A, cap, e, h1, h2, h3.imp id ?_⟩
    rintro ⟨b, off, h4, h5, h6⟩
    refine ⟨b, off, h4, ?_, h6.mono' hb.Sl (fun _ _ => rfl) rfl⟩
    cases o with
    | false => exact hb.Sl b h5
    | true =>
      rcases hf with hf | hf
      · exact hb.S hf b h5
      · simp [far1] at hf
  | _ => simpa [PCell] using h

theorem PCells.back {B : Bool} (hb : Back g g1 g2 hc H n B w) (hB : B = false) : ∀ {cs : List AV} {b k : Nat}, PCells g1.S g1.Sl w' cs b k → PCells g2.S g2.Sl w' cs b k
  | [], _, _, _ => by simp [PCells]
  | c :: cs, b, k, h => by
    simp only [PCells] at h ⊢
    obtain ⟨⟨v, hv, hp⟩, hr⟩ := h
    exact ⟨⟨v, hv, PCell.back hb (.inl hB) hp⟩, PCells.back hb hB hr⟩

/-- one value of the result: `m` tokens are there ahead of it -/
theorem ad1_back {B : Bool} (hb : Back g g1 g2 hc H n B w) {x : AV} {v : Value} (ho : okR1 x = true) (hf : B = false ∨ far1 x = false) {hk h0 : List Blk} (hkl : h0.length = n + hk.length) (h : V1 g1 hc w' (ad1 hk x).1 v) :
    V1 g2 H w' (ad1 h0 x).1 v ∧ (ad1 h0 x).2.length = n + (ad1 hk x).2.length := by
  cases x with
  | frs E xs =>
    simp only [ad1] at h ⊢
    refine ⟨?_, by simp [hkl, Nat.add_assoc]⟩
    obtain ⟨hd, h⟩ := h
    rw [hkl]
    refine ⟨hb.dom _ hd, ?_⟩
    rw [hb.ρ _ hd]
    cases hρ : g1.ρ hk.length with
    | none =>
      rw [hρ] at h
      refine ⟨h.1, fun m E' ys hy hm => h.2 m E' ys (hb.blk' hd hy) hm⟩
    | some p =>
      rw [hρ] at h
      obtain ⟨k, o, l, cap, e, h1, h2, h3, h4, h5, h6, h7⟩ := h
      exact ⟨k, o, l, cap, e, h1, h2, h3, fun e m E' ys hy hm => h4 e m E' ys (hb.blk' hd hy) hm, h5, h6, fun m E' ys hy hm => h7 m E' ys (hb.blk' hd hy) hm⟩
  | «at» x off =>
    refine ⟨?_, hkl⟩
    rcases hf with hB | hf
    · obtain ⟨b, k, e, h1, h2⟩ := h
      exact ⟨b, k, e, hb.S hB b h1, h2.1, PCells.back hb hB h2.2⟩
    · simp [far1] at hf
  | own _ _ _ _ | ptr _ _ _ _ | fn _ _ _ | tup _ | agg _ | top => simp [okR1] at ho
  | int _ _ | bool _ | str _ | nil | iface0 | lst _ _ _ _ =>
    refine ⟨?_, hkl⟩
    simp only [ad1, V1] at h ⊢
    exact PCell.back hb hf h

theorem ads_back {B : Bool} (hb : Back g g1 g2 hc H n B w) : ∀ {l : List AV} {vs : List Value} {hk h0 : List Blk}, okRs l = true → (B = false ∨ fars l = false) → h0.length = n + hk.length → All2 (V1 g1 hc w') (ads hk l).1 vs →
    All2 (V1 g2 H w') (ads h0 l).1 vs ∧ (ads h0 l).2.length = n + (ads hk l).2.length
  | [], vs, hk, h0, _, _, hl, h => ⟨by cases vs <;> simp_all [ads, All2], hl⟩
  | x :: l, vs, hk, h0, ho, hf, hl, h => by
    simp only [okRs, Bool.and_eq_true] at ho
    have hf1 : B = false ∨ far1 x = false := hf.imp id fun h => by simp only [fars, Bool.or_eq_false_iff] at h; exact h.1
    have hf2 : B = false ∨ fars l = false := hf.imp id fun h => by simp only [fars, Bool.or_eq_false_iff] at h; exact h.2
    cases vs with
    | nil => exact h.elim
    | cons v vs =>
      obtain ⟨k1, k2⟩ := ad1_back hb ho.1 hf1 hl h.1
      obtain ⟨k3, k4⟩ := ads_back hb ho.2 hf2 k2 h.2
      exact ⟨⟨k1, k3⟩, k4⟩

theorem ad2_back {B : Bool} (hb : Back g g1 g2 hc H n B w) {x : AV} {v : Value} (ho : okR2 x = true) (hf : B = false ∨ far2 x = false) {hk h0 : List Blk} (hkl : h0.length = n + hk.length) (h : V2 g1 hc w' (ad2 hk x).1 v) :
    V2 g2 H w' (ad2 h0 x).1 v ∧ (ad2 h0 x).2.length = n + (ad2 hk x).2.length := by
  cases x with
  | agg cs =>
    obtain ⟨vs, e, h⟩ := h
    obtain ⟨k1, k2⟩ := ads_back hb ho hf hkl h
    exact ⟨⟨vs, e, k1⟩, k2⟩
  | own _ _ _ _ | ptr _ _ _ _ | fn _ _ _ | tup _ | top => simp [okR2, okR1] at ho
  | frs E xs => exact ad1_back (x := .frs E xs) (w' := w') hb ho hf hkl h
  | int k m => exact ad1_back (x := .int k m) (w' := w') hb ho hf hkl h
  | bool b => exact ad1_back (x := .bool b) (w' := w') hb ho hf hkl h
  | str l => exact ad1_back (x := .str l) (w' := w') hb ho hf hkl h
  | nil => exact ad1_back (x := .nil) (w' := w') hb ho hf hkl h
  | iface0 => exact ad1_back (x := .iface0) (w' := w') hb ho hf hkl h
  | lst o c E xs => exact ad1_back (x := .lst o c E xs) (w' := w') hb ho hf hkl h
  | «at» x off => exact ad1_back (x := .at x off) (w' := w') hb ho hf hkl h

theorem ads2_back {B : Bool} (hb : Back g g1 g2 hc H n B w) : ∀ {l : List AV} {vs : List Value} {hk h0 : List Blk}, okRs2 l = true → (B = false ∨ fars2 l = false) → h0.length = n + hk.length → All2 (V2 g1 hc w') (ads2 hk l).1 vs →
    All2 (V2 g2 H w') (ads2 h0 l).1 vs ∧ (ads2 h0 l).2.length = n + (ads2 hk l).2.length
  | [], vs, hk, h0, _, _, hl, h => ⟨by cases vs <;> simp_all [ads2, All2], hl⟩
  | x :: l, vs, hk, h0, ho, hf, hl, h => by
    simp only [okRs2, Bool.and_eq_true] at ho
    have hf1 : B = false ∨ far2 x = false := hf.imp id fun h => by simp only [fars2, Bool.or_eq_false_iff] at h; exact h.1
    have hf2 : B = false ∨ fars2 l = false := hf.imp id fun h => by simp only [fars2, Bool.or_eq_false_iff] at h; exact h.2
    cases vs with
    | nil => exact h.elim
    | cons v vs =>
      obtain ⟨k1, k2⟩ := ad2_back hb ho.1 hf1 hl h.1
      obtain ⟨k3, k4⟩ := ads2_back hb ho.2 hf2 k2 h.2
      exact ⟨⟨k1, k3⟩, k4⟩

theorem ad3_back {B : Bool} (hb : Back g g1 g2 hc H n B w) {x : AV} {v : Value} (ho : okR3 x = true) (hf : B = false ∨ far x = false) {hk h0 : List Blk} (hkl : h0.length = n + hk.length) (h : V3 g1 hc w' (ad3 hk x).1 v) :
    V3 g2 H w' (ad3 h0 x).1 v ∧ (ad3 h0 x).2.length = n + (ad3 hk x).2.length := by
  cases x with
  | tup vs =>
    obtain ⟨ws, e, h⟩ := h
    obtain ⟨k1, k2⟩ := ads2_back hb ho hf hkl h
    exact ⟨⟨ws, e, k1⟩, k2⟩
  | own _ _ _ _ | ptr _ _ _ _ | fn _ _ _ | top => simp [okR3, okR2, okR1] at ho
  | frs E xs => exact ad2_back (x := .frs E xs) (w' := w') hb ho hf hkl h
  | int k m => exact ad2_back (x := .int k m) (w' := w') hb ho hf hkl h
  | bool b => exact ad2_back (x := .bool b) (w' := w') hb ho hf hkl h
  | str l => exact ad2_back (x := .str l) (w' := w') hb ho hf hkl h
  | nil => exact ad2_back (x := .nil) (w' := w') hb ho hf hkl h
  | iface0 => exact ad2_back (x := .iface0) (w' := w') hb ho hf hkl h
  | lst o c E xs => exact ad2_back (x := .lst o c E xs) (w' := w') hb ho hf hkl h
  | «at» x off => exact ad2_back (x := .at x off) (w' := w') hb ho hf hkl h
  | agg cs => exact ad2_back (x := .agg cs) (w' := w') hb ho hf hkl h
end back

def liveB : Blk → Prop
  | .rows .live _ _ => True
  | _ => False

theorem ad1_app (h0 hk : List Blk) (x : AV) : (ad1 (h0 ++ hk) x).2 = h0 ++ (ad1 hk x).2 := by cases x <;> simp [ad1]
theorem ads_app (h0 : List Blk) : ∀ (hk : List Blk) (l : List AV), (ads (h0 ++ hk) l).2 = h0 ++ (ads hk l).2
  | hk, [] => rfl
  | hk, x :: l => by simp only [ads, ad1_app, ads_app]
theorem ad2_app (h0 hk : List Blk) (x : AV) : (ad2 (h0 ++ hk) x).2 = h0 ++ (ad2 hk x).2 := by
  cases x <;> first
    | exact ads_app _ _ _
    | exact ad1_app _ _ _
theorem ads2_app (h0 : List Blk) : ∀ (hk : List Blk) (l : List AV), (ads2 (h0 ++ hk) l).2 = h0 ++ (ads2 hk l).2
  | hk, [] => rfl
  | hk, x :: l => by simp only [ads2, ad2_app, ads2_app]
theorem ad3_app (h0 hk : List Blk) (x : AV) : (ad3 (h0 ++ hk) x).2 = h0 ++ (ad3 hk x).2 := by
  cases x <;> first
    | exact ads2_app _ _ _
    | exact ad2_app _ _ _
theorem ad3_app0 (h0 : List Blk) (x : AV) : (ad3 h0 x).2 = h0 ++ (ad3 [] x).2 := by
  have := ad3_app h0 [] x
  simpa using this

theorem ad1_live {hk : List Blk} {x : AV} (h : ∀ b ∈ hk, liveB b) : ∀ b ∈ (ad1 hk x).2, liveB b := by
  cases x <;> first
    | exact h
    | (intro b hb
       simp only [ad1, List.mem_append, List.mem_singleton] at hb
       rcases hb with hb | rfl
       · exact h b hb
       · trivial)
theorem ads_live : ∀ {hk : List Blk} {l : List AV}, (∀ b ∈ hk, liveB b) → ∀ b ∈ (ads hk l).2, liveB b
  | hk, [], h => h
  | hk, x :: l, h => show ∀ b ∈ (ads (ad1 hk x).2 l).2, liveB b from ads_live (hk := (ad1 hk x).2) (l := l) (ad1_live (x := x) h)
theorem ad2_live {hk : List Blk} {x : AV} (h : ∀ b ∈ hk, liveB b) : ∀ b ∈ (ad2 hk x).2, liveB b := by
  cases x <;> first
    | exact ads_live h
    | exact ad1_live h
theorem ads2_live : ∀ {hk : List Blk} {l : List AV}, (∀ b ∈ hk, liveB b) → ∀ b ∈ (ads2 hk l).2, liveB b
  | hk, [], h => h
  | hk, x :: l, h => show ∀ b ∈ (ads2 (ad2 hk x).2 l).2, liveB b from ads2_live (hk := (ad2 hk x).2) (l := l) (ad2_live (x := x) h)
theorem ad3_live {hk : List Blk} {x : AV} (h : ∀ b ∈ hk, liveB b) : ∀ b ∈ (ad3 hk x).2, liveB b := by
  cases x <;> first
    | exact ads2_live h
    | exact ad2_live h

/-- the caller's ghosts behind a call that read alone -/
def G.back (g g1 : G) (w : World) (n m : Nat) : G where
  dom τ := g.dom τ ∨ (n ≤ τ ∧ τ < n + m)
  ρ τ := if n ≤ τ ∧ τ < n + m then g1.ρ (τ - n) else g.ρ τ
  S b := g.S b ∨ (g1.S b ∧ w.heap.size ≤ b)
  Sl b := g.Sl b ∨ (g1.Sl b ∧ w.heap.size ≤ b)

section pcall
variable {g g1 : G} {H hp hpc : List Blk} {w w' : World} {B : Bool}

theorem pcall_back (hd : ∀ τ, g.dom τ → τ < hp.length ∨ hp.length + hpc.length ≤ τ) (hH : hp ++ hpc <+: H) (hg : Good g H w) (ht : Trans (g.lent w B) [] w g1 hpc w') (hg1 : Good g1 hpc w') (hd1 : ∀ τ, g1.dom τ ↔ τ < hpc.length) (hlive : ∀ b ∈ hpc, liveB b) :
    (∀ b, b < w.heap.size → w'.heap[b]? = w.heap[b]?) ∧ Trans g H w (g.back g1 w hp.length hpc.length) H w' ∧ Good (g.back g1 w hp.length hpc.length) H w' ∧ Back g g1 (g.back g1 w hp.length hpc.length) hpc H hp.length B w := by
  have hnoOwn : ∀ b, ¬ Own (g.lent w B) [] b := fun b ⟨_, _, h, _⟩ => h
  have hprot : ∀ b, b < w.heap.size → w'.heap[b]? = w.heap[b]? := fun b hb => ht.prot b hb (hnoOwn b)
  have hblk : ∀ τ b, hpc[τ]? = some b → H[hp.length + τ]? = some b := fun τ b h => prefix_get hH (by rw [List.getElem?_append_right (by omega)]; simpa using h)
  have hold : ∀ τ, g.dom τ → ¬ (hp.length ≤ τ ∧ τ < hp.length + hpc.length) := fun τ h h' => by have := hd τ h; omega
  have hown1 : ∀ b, Own g1 hpc b → w.heap.size ≤ b := fun b h => (ht.own b h).resolve_right (hnoOwn b)
  have hSl1 : ∀ b, g1.Sl b → (g.back g1 w hp.length hpc.length).Sl b := fun b h => by
    rcases ht.newSl b h with h1 | h1 | h1
    · exact .inl h1
    · exact .inr ⟨h, h1⟩
    · exact absurd h1 (hnoOwn b)
  have hown2 : ∀ τ b o, hp.length ≤ τ → τ < hp.length + hpc.length → (g.back g1 w hp.length hpc.length).ρ τ = some (b, o) → owned H τ → g1.dom (τ - hp.length) ∧ g1.ρ (τ - hp.length) = some (b, o) ∧ owned hpc (τ - hp.length) ∧ w.heap.size ≤ b := by
    intro τ b o h1 h2 h3 h4
    simp only [G.back, h1, h2, and_self, if_true] at h3
    have hlt : τ - hp.length < hpc.length := by omega
    obtain ⟨bk, h5, h6⟩ := h4
    have h7 := hblk (τ - hp.length) _ (List.getElem?_eq_getElem hlt)
    rw [show hp.length + (τ - hp.length) = τ by omega, h5] at h7
    cases h7
    have ho : owned hpc (τ - hp.length) := ⟨_, List.getElem?_eq_getElem hlt, h6⟩
    exact ⟨(hd1 _).2 hlt, h3, ho, hown1 b ⟨τ - hp.length, o, (hd1 _).2 hlt, h3, ho⟩⟩
  have hT : Trans g H w (g.back g1 w hp.length hpc.length) H w' := {
    dom := fun τ h => .inl h
    ρ := fun τ h => by simp only [G.back, if_neg (hold τ h)]
    S := fun b h => .inl h
    Sl := fun b h => .inl h
    newS := fun b h => h.imp id fun h => .inl h.2
    newSl := fun b h => h.imp id fun h => .inl h.2
    size := ht.size
    shape := ht.shape
    env := ht.env
    prot := fun b hb _ => hprot b hb
    own := fun b h => by
      obtain ⟨τ, o, h1, h2, h3⟩ := h
      by_cases hr : hp.length ≤ τ ∧ τ < hp.length + hpc.length
      · exact .inl (hown2 τ b o hr.1 hr.2 h2 h3).2.2.2
      · simp only [G.back, if_neg hr] at h2
        exact .inr ⟨τ, o, h1.resolve_right hr, h2, h3⟩
    len := fun τ _ m E xs h hm => ⟨m, xs, h, hm, rfl⟩
    box := fun τ _ y h => ⟨y, h⟩ }
  refine ⟨hprot, hT, ?_, ?_⟩
  · refine ⟨fun b h => ?_, fun b h => ?_, fun τ hτ => ?_, fun x y b o o' hx hy h1 h2 h3 h4 => ?_⟩
    · exact h.imp (hg.sub b) fun h => ⟨hg1.sub b h.1, h.2⟩
    · rcases h with h | h
      · have := hg.lt b h; have := ht.size; omega
      · exact hg1.lt b h.1
    · by_cases hr : hp.length ≤ τ ∧ τ < hp.length + hpc.length
      · have hlt : τ - hp.length < hpc.length := by omega
        obtain ⟨bk, h1, h2⟩ := hg1.tok (τ - hp.length) ((hd1 _).2 hlt)
        have h3 := hblk _ _ h1
        rw [show hp.length + (τ - hp.length) = τ by omega] at h3
        refine ⟨bk, h3, ?_⟩
        have hl := hlive bk (List.mem_of_getElem? h1)
        match bk, hl with
        | .rows .live E xs, _ =>
          have hρ' : (g.back g1 w hp.length hpc.length).ρ τ = g1.ρ (τ - hp.length) := by simp only [G.back, if_pos hr]
          rcases h2 with ⟨h2, h4⟩ | ⟨b, o, h4, h5, h6, h7⟩
          · exact .inl ⟨by rw [hρ']; exact h2, h4⟩
          · refine .inr ⟨b, o, by rw [hρ']; exact h4, ?_, h6, h7.mono' hSl1 (fun _ _ => rfl) rfl⟩
            have hb := hown1 b ⟨_, o, (hd1 _).2 hlt, h4, _, h1, trivial⟩
            rintro (h | h)
            · have := hg.lt b h; omega
            · exact h5 h.1
      · have hτ := hτ.resolve_right hr
        obtain ⟨bk, h1, h2⟩ := hg.tok τ hτ
        refine ⟨bk, h1, BlkRel.trans hT hg hτ (fun b o hρ ho => ?_) h2⟩
        have hO : Own g H b := ⟨τ, o, hτ, hρ, owned_of h1 ho⟩
        have hlt := hO.lt hg
        refine ⟨hprot b hlt, ?_⟩
        rintro (h | h)
        · exact hO.notS hg h
        · omega
    · have hx' : ¬ (hp.length ≤ x ∧ x < hp.length + hpc.length) → g.dom x ∧ g.ρ x = some (b, o) ∧ b < w.heap.size := fun hr => by
        simp only [G.back, if_neg hr] at h1
        have hx := hx.resolve_right hr
        exact ⟨hx, h1, Own.lt hg ⟨x, o, hx, h1, h3⟩⟩
      have hy' : ¬ (hp.length ≤ y ∧ y < hp.length + hpc.length) → g.dom y ∧ g.ρ y = some (b, o') ∧ b < w.heap.size := fun hr => by
        simp only [G.back, if_neg hr] at h2
        have hy := hy.resolve_right hr
        exact ⟨hy, h2, Own.lt hg ⟨y, o', hy, h2, h4⟩⟩
      by_cases rx : hp.length ≤ x ∧ x < hp.length + hpc.length
      · obtain ⟨q1, q2, q3, q4⟩ := hown2 x b o rx.1 rx.2 h1 h3
        by_cases ry : hp.length ≤ y ∧ y < hp.length + hpc.length
        · obtain ⟨p1, p2, p3, p4⟩ := hown2 y b o' ry.1 ry.2 h2 h4
          have := hg1.inj _ _ b o o' q1 p1 q2 p2 q3 p3
          omega
        · have := (hy' ry).2.2; omega
      · obtain ⟨q1, q2, q3⟩ := hx' rx
        by_cases ry : hp.length ≤ y ∧ y < hp.length + hpc.length
        · have := (hown2 y b o' ry.1 ry.2 h2 h4).2.2.2; omega
        · obtain ⟨p1, p2, p3⟩ := hy' ry
          exact hg.inj x y b o o' q1 p1 q2 p2 h3 h4
  · refine ⟨fun τ h => .inr ⟨by omega, by have := (hd1 τ).1 h; omega⟩, fun τ h => ?_, hblk, fun τ h => (hd1 τ).1 h, hSl1, fun hB b h => ?_⟩
    · have := (hd1 τ).1 h
      simp only [G.back]
      rw [if_pos ⟨by omega, by omega⟩]
      congr 1
      omega
    · rcases ht.newS b h with h1 | h1 | h1
      · rcases h1 with h1 | h1
        · exact .inl h1
        · rw [hB] at h1; exact absurd h1.1 (by simp)
      · exact .inr ⟨h, h1⟩
      · exact absurd h1 (hnoOwn b)
end pcall

theorem isNl_eq {α : Type} {l : List α} (h : isNl l = true) : l = [] := by cases l <;> first | rfl | (simp [isNl] at h)

/-- a call that reads alone -/
theorem pcall_step {C : CF} (hC : CSound P C) {c : Call} {f : Operand} (ho : o.op = .call c) (hc : c.callee = .value f) {gf : FuncId} {fs cs args : List AV} (hf : evD tm f = some (.fn gf fs cs)) (ha : evsD tm c.args.toList = some args)
    (h : (lends3K hp (fs ++ (args ++ cs)) fun args b => gbind (C gf args []) fun r => bif okR3 r.1 && isNl r.2 then bif b && far r.1 then none else adoptK hp r.1 κ else none) = some r) : StepN P o tm hp κ r := by
  obtain ⟨l', b, h1, hl⟩ := lends3_ok h
  clear h
  obtain ⟨⟨res, hpr⟩, hCr, h2⟩ := gbind_some h1
  clear h1
  obtain ⟨hok, h3⟩ := cond_none h2
  clear h2
  simp only [Bool.and_eq_true] at hok
  obtain ⟨hok1, hok2⟩ := hok
  have hnil := isNl_eq hok2
  subst hnil
  rcases cond_some h3 with ⟨_, h4⟩ | ⟨hfar, h4⟩
  · cases h4
  clear h3
  rw [adoptK_eq] at h4
  have hfar : b = false ∨ far res = false := by
    cases b
    · exact .inl rfl
    · right; simpa using hfar
  obtain ⟨hen, hcs⟩ := hC gf l' [] res [] hCr
  refine ⟨_, _, h4, ad3_pre hp res, fun Q a w g H N hH hd hx hg hN => ?_⟩
  obtain ⟨vs, hvs, hrun⟩ := call_vals (P := P) ho hc hf ha g H w a hx
  have happ := ad3_app0 hp res
  have hH' := hH
  rw [happ] at hH'
  have hpre : hp <+: H := (ad3_pre hp res).trans hH
  have hlent := hl g H w b hpre hg (fun e => e) vs hvs
  have hcall := hcs (g.lent w b) w vs (hg.lent b) (fun τ => ⟨fun h => h.elim, fun h => by simp at h⟩) hlent
  simp only [Oper.wp, hrun hen, Oper.upon_enter]
  refine hcall.mono fun e w' he => ?_
  obtain ⟨vv, g1, rfl, ht, hg1, hd1, hv⟩ := he
  obtain ⟨k1, k2, k3, k4⟩ := pcall_back (B := b) (fun τ h => by
    have := hd τ h
    rw [happ, List.length_append] at this
    exact this) hH' hg ht hg1 hd1 (ad3_live (fun _ h => by cases h))
  refine hN vv w' _ k1 k2 k3 (fun τ => ?_) ?_ ?_
  · rw [happ, List.length_append]
    exact Iff.rfl
  · exact (ad3_back (w' := w') k4 hok1 hfar (by simp) hv).1
  · intro τ h1 h2 b o hρ
    rw [happ, List.length_append] at h2
    simp only [G.back, if_pos (show hp.length ≤ τ ∧ τ < hp.length + (ad3 [] res).2.length from ⟨h1, h2⟩)] at hρ
    have hlt : τ - hp.length < (ad3 [] res).2.length := by omega
    obtain ⟨bk, q1, q2⟩ := hg1.tok _ ((hd1 _).2 hlt)
    have hlv := ad3_live (hk := []) (x := res) (fun _ h => by cases h) bk (List.mem_of_getElem? q1)
    have how : owned (ad3 [] res).2 (τ - hp.length) := ⟨bk, q1, by cases bk with
      | box y => trivial
      | rows m E xs => cases m <;> first | trivial | exact hlv.elim⟩
    exact (ht.own b ⟨_, o, (hd1 _).2 hlt, hρ, how⟩).resolve_right fun ⟨_, _, h, _⟩ => h
end
end Go.AM
