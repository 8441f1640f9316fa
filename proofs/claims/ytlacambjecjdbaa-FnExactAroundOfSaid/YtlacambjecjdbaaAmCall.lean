import Derived.Test.YtlacambjecjdbaaAmApp2
set_option linter.unusedVariables false
set_option linter.unusedSimpArgs false
set_option linter.unnecessarySimpa false
/-! Calls of functions that get no memory of the caller's own. -/
namespace Go.AM

section
variable {P : Program} {T : TypeId → Option TI} {o : Oper} {tm : List AV} {hp : List Blk} {κ : AV → List Blk → R} {r : AV × List Blk}

def ad1 (hp : List Blk) (v : AV) : AV × List Blk :=
  match v with
  | .frs E xs => (.own hp.length E none false, hp ++ [.rows .live E xs])
  | v => (v, hp)
def ads (hp : List Blk) : List AV → List AV × List Blk
  | [] => ([], hp)
  | v :: l => ((ad1 hp v).1 :: (ads (ad1 hp v).2 l).1, (ads (ad1 hp v).2 l).2)
def ad2 (hp : List Blk) (v : AV) : AV × List Blk :=
  match v with
  | .agg cs => (.agg (ads hp cs).1, (ads hp cs).2)
  | v => ad1 hp v
def ads2 (hp : List Blk) : List AV → List AV × List Blk
  | [] => ([], hp)
  | v :: l => ((ad2 hp v).1 :: (ads2 (ad2 hp v).2 l).1, (ads2 (ad2 hp v).2 l).2)
def ad3 (hp : List Blk) (v : AV) : AV × List Blk :=
  match v with
  | .tup vs => (.tup (ads2 hp vs).1, (ads2 hp vs).2)
  | v => ad2 hp v

theorem adopt1K_eq (hp : List Blk) (v : AV) (κ : AV → List Blk → R) : adopt1K hp v κ = κ (ad1 hp v).1 (ad1 hp v).2 := by
  cases v <;> simp [adopt1K, ad1, snocK_eq]
theorem adoptsK_eq : ∀ (hp : List Blk) (l : List AV) (κ : List AV → List Blk → R), adoptsK hp l κ = κ (ads hp l).1 (ads hp l).2
  | hp, [], κ => rfl
  | hp, v :: l, κ => by simp only [adoptsK, adopt1K_eq, adoptsK_eq, ads]
theorem adopt2K_eq (hp : List Blk) (v : AV) (κ : AV → List Blk → R) : adopt2K hp v κ = κ (ad2 hp v).1 (ad2 hp v).2 := by
  cases v <;> simp [adopt2K, ad2, adopt1K_eq, adoptsK_eq]
theorem adopts2K_eq : ∀ (hp : List Blk) (l : List AV) (κ : List AV → List Blk → R), adopts2K hp l κ = κ (ads2 hp l).1 (ads2 hp l).2
  | hp, [], κ => rfl
  | hp, v :: l, κ => by simp only [adopts2K, adopt2K_eq, adopts2K_eq, ads2]
theorem adoptK_eq (hp : List Blk) (v : AV) (κ : AV → List Blk → R) : adoptK hp v κ = κ (ad3 hp v).1 (ad3 hp v).2 := by
  cases v <;> simp [adoptK, ad3, adopt2K_eq, adopts2K_eq]

theorem ad1_pre (hp : List Blk) (v : AV) : hp <+: (ad1 hp v).2 := by
  cases v <;> simp [ad1]
theorem ads_pre : ∀ (hp : List Blk) (l : List AV), hp <+: (ads hp l).2
  | hp, [] => List.prefix_refl _
  | hp, v :: l => (ad1_pre hp v).trans (ads_pre _ l)
theorem ad2_pre (hp : List Blk) (v : AV) : hp <+: (ad2 hp v).2 := by
  cases v <;> first
    | exact ads_pre _ _
    | exact ad1_pre _ _
theorem ads2_pre : ∀ (hp : List Blk) (l : List AV), hp <+: (ads2 hp l).2
  | hp, [] => List.prefix_refl _
  | hp, v :: l => (ad2_pre hp v).trans (ads2_pre _ l)
theorem ad3_pre (hp : List Blk) (v : AV) : hp <+: (ad3 hp v).2 := by
  cases v <;> first
    | exact ads2_pre _ _
    | exact ad2_pre _ _

/-- it is entered when called -/
def Enters (P : Program) (f : FuncId) : Prop := ∃ fn, P.funcs[f]? = some fn ∧ (fn.name == "runtime.NumGoroutine") = false ∧ fn.body.isNone = false

/-- the abstract functions are what the machine's calls do -/
def CSound (P : Program) (C : CF) : Prop := ∀ f args hp res hp', C f args hp = some (res, hp') → Enters P f ∧
  ∀ (g : G) (w : World) (vs : List Value), Good g hp w → (∀ τ, g.dom τ ↔ τ < hp.length) → All2 (V3 g hp w) args vs →
    Calls P f vs.toArray w fun e w' => ∃ vv g', e = .returned vv ∧ Trans g hp w g' (ad3 hp' res).2 w' ∧ Good g' (ad3 hp' res).2 w' ∧
      (∀ τ, g'.dom τ ↔ τ < (ad3 hp' res).2.length) ∧ V3 g' (ad3 hp' res).2 w' (ad3 hp' res).1 vv

/-- the callee's side of a call that reads alone -/
def G.lent (g : G) (w : World) (b : Bool) : G := { dom := fun _ => False, ρ := fun _ => none, S := fun x => g.S x ∨ (b = true ∧ x < w.heap.size), Sl := g.Sl }

theorem Good.lent {g : G} {H : List Blk} {w : World} (hg : Good g H w) (b : Bool) : Good (g.lent w b) [] w where
  sub x h := .inl (hg.sub x h)
  lt x h := h.elim (hg.lt x) fun h => h.2
  tok _ h := h.elim
  inj _ _ _ _ _ h := h.elim

section lend
variable {g : G} {H : List Blk} {w : World} {B : Bool}

theorem PCell_lent {x : AV} {v : Value} (h : PCell g.S g.Sl w x v) (hs : ∀ b, g.Sl b → g.S b) : PCell (g.lent w B).S (g.lent w B).Sl w x v :=
  h.mono (fun b hb => .inl hb) (fun b hb => hb) (fun _ _ => rfl) hs

theorem PCells_lent {cs : List AV} {b k : Nat} (h : PCells g.S g.Sl w cs b k) (hs : ∀ b, g.Sl b → g.S b) : PCells (g.lent w B).S (g.lent w B).Sl w cs b k :=
  h.mono (fun b hb => .inl hb) (fun b hb => hb) (fun _ _ => rfl) hs _ _ _ rfl

theorem lend1_ok {v : AV} {κ : AV → Bool → R} (h : lend1K hp v κ = some r) : ∃ v' b, κ v' b = some r ∧ (∀ (g : G) (H : List Blk) (w : World) (B : Bool) (val : Value), hp <+: H → Good g H w → (b = true → B = true) → V1 g H w v val →
    V1 (g.lent w B) [] w v' val ∧ (v' = v ∨ PCell (g.lent w B).S (g.lent w B).Sl w v' val)) ∧ (∀ g H w val, V3 g H w v val → V1 g H w v val) ∧ cells v' = [v'] := by
  cases v with
  | own τ E rr c =>
    simp only [lend1K] at h
    obtain ⟨blk, hb, h1⟩ := getK_some h
    clear h
    split at h1
    · rename_i E' xs
      obtain ⟨rfl, h2⟩ := beqE_some h1
      rw [rowsOf_eq] at h2
      refine ⟨_, _, h2, fun g H w B val hH hg hB hv => ?_, fun _ _ _ _ h => h, rfl⟩
      have hbH := prefix_get hH hb
      obtain ⟨A, cap, e1, e2, e3, e4⟩ := own_rows' hg hv hbH (by simp)
      have hp : PCell (g.lent w B).S (g.lent w B).Sl w (.lst true c E (rowsD rr xs)) val := by
        refine ⟨A, cap, e1, e2, e3, ?_⟩
        by_cases h0 : rowsD rr xs = []
        · exact .inl h0
        obtain ⟨b, off, e5, e6⟩ := e4.resolve_left h0
        refine .inr ⟨b, off, e5, ?_, e6⟩
        simp only [if_true]
        refine .inr ⟨hB rfl, ?_⟩
        obtain ⟨hd, hs⟩ := own_shape hv hbH (by simp)
        rcases hs with ⟨_, ⟨A', e7⟩, _⟩ | ⟨b', base, k, cap', oN, lN, _, e7, _, _, _, _, hu, _⟩
        · rw [e7] at e1
          exact absurd (List.eq_nil_of_length_eq_zero (Value.slice.inj e1).2.1.symm) h0
        · rw [e7] at e1
          have := (Value.slice.inj e1).1
          rw [e5] at this
          cases this
          exact hu.lt
      exact ⟨hp, .inr hp⟩
    · rename_i E' xs
      obtain ⟨rfl, h2⟩ := beqE_some h1
      rw [rowsOf_eq] at h2
      refine ⟨_, _, h2, fun g H w B val hH hg hB hv => ?_, fun _ _ _ _ h => h, rfl⟩
      have hbH := prefix_get hH hb
      obtain ⟨blk, q1, q2⟩ := hg.tok τ hv.1
      rw [hbH] at q1
      cases q1
      have h3 := own_rows (S := g.S) (Sl := g.Sl) hv hbH (by simp) (by
        rcases q2 with h2 | ⟨b, o, h3, h4, h5, h6⟩
        · exact .inl h2
        · exact .inr ⟨b, o, h3, h6⟩)
      obtain ⟨A, cap, e1, e2, e3, e4⟩ := h3
      have hp : PCell (g.lent w B).S (g.lent w B).Sl w (.lst false c E (rowsD rr xs)) val := by
        refine ⟨A, cap, e1, e2, e3, ?_⟩
        rcases e4 with e4 | ⟨b, off, base, e5, e6, e7⟩
        · exact .inl e4
        · rcases q2 with ⟨h0, _⟩ | ⟨b', o', h6, h7, _⟩
          · rw [e6] at h0; cases h0
          · rw [e6] at h6; cases h6
            exact .inr ⟨b, off, e5, h7, e7⟩
      exact ⟨hp, .inr hp⟩
    · cases h1
  | «at» x off =>
    simp only [lend1K] at h
    refine ⟨_, _, h, fun g H w B val hH hg hB hv => ⟨?_, .inl rfl⟩, fun _ _ _ _ h => h, rfl⟩
    obtain ⟨b, k, e, h1, h2⟩ := hv
    exact ⟨b, k, e, .inl h1, h2.1, PCells_lent h2.2 hg.sub⟩
  | int _ _ | bool _ | str _ | nil | iface0 | lst _ _ _ _ =>
    simp only [lend1K] at h
    refine ⟨_, _, h, fun g H w B val hH hg hB hv => ?_, fun _ _ _ _ h => h, rfl⟩
    have hp : PCell (g.lent w B).S (g.lent w B).Sl w _ val := PCell_lent (by simpa only [V1] using hv) hg.sub
    exact ⟨hp, .inl rfl⟩
  | _ => simp only [lend1K] at h; cases h

theorem lends_ok : ∀ {l : List AV} {κ : List AV → Bool → R}, lendsK hp l κ = some r → ∃ l' b, κ l' b = some r ∧ l'.length = l.length ∧ (∀ (g : G) (H : List Blk) (w : World) (B : Bool), hp <+: H → Good g H w → (b = true → B = true) →
    (∀ vs : List Value, All2 (V1 g H w) l vs → All2 (V1 (g.lent w B) [] w) l' vs) ∧ (∀ (i : Nat) x' x val, l'[i]? = some x' → l[i]? = some x → V1 g H w x val → V1 (g.lent w B) [] w x' val ∧ (x' = x ∨ PCell (g.lent w B).S (g.lent w B).Sl w x' val)))
  | [], κ, h => ⟨[], false, h, rfl, fun g H w B hH hg hB => ⟨fun vs hv => by cases vs <;> simp_all [All2], fun i x' x val h => by simp at h⟩⟩
  | v :: l, κ, h => by
    simp only [lendsK] at h
    obtain ⟨v', b1, h1, hv, _⟩ := lend1_ok h
    obtain ⟨l', b2, h2, hlen, hl⟩ := lends_ok h1
    refine ⟨v' :: l', b1 || b2, h2, by simp [hlen], fun g H w B hH hg hB => ?_⟩
    have hB1 : b1 = true → B = true := fun e => hB (by simp [e])
    have hB2 : b2 = true → B = true := fun e => hB (by simp [e])
    obtain ⟨k1, k2⟩ := hl g H w B hH hg hB2
    refine ⟨fun vs hvs => ?_, fun i x' x val hx' hx hval => ?_⟩
    · cases vs with
      | nil => exact hvs.elim
      | cons u us => exact ⟨(hv g H w B u hH hg hB1 hvs.1).1, k1 us hvs.2⟩
    · cases i with
      | zero => simp at hx' hx; subst hx'; subst hx; exact hv g H w B val hH hg hB1 hval
      | succ i => exact k2 i x' x val (by simpa using hx') (by simpa using hx) hval

/-- a lent cell that is no address -/
theorem lent_cell {x : AV} {v : Value} (hn : noAt x = true) (ht : ∀ τ E r c, x ≠ .own τ E r c) (ht2 : ∀ τ i o E, x ≠ .ptr τ i o E) (h : V1 g H w x v) : PCell g.S g.Sl w x v := by
  cases x <;> first
    | exact h
    | exact absurd rfl (ht _ _ _ _)
    | exact absurd rfl (ht2 _ _ _ _)
    | (simp [noAt] at hn)

theorem lent_cell' {x : AV} {v : Value} (hn : noAt x = true) (h : V1 (g.lent w B) [] w x v) : PCell (g.lent w B).S (g.lent w B).Sl w x v :=
  lent_cell hn (fun τ E r c e => by subst e; exact h.1.elim) (fun τ i o E e => by subst e; exact h.1.elim) h

theorem noAts_mem : ∀ {l : List AV}, noAts l = true → ∀ x ∈ l, noAt x = true
  | [], _, x, hx => by cases hx
  | y :: l, h, x, hx => by
    simp only [noAts, Bool.and_eq_true] at h
    cases hx with
    | head => exact h.1
    | tail _ hx => exact noAts_mem h.2 x hx

/-- what lies in a variable, as its reader has it -/
theorem V1s_lent {l l' : List AV} (hl : l'.length = l.length) (hh : ∀ (i : Nat) x' x val, l'[i]? = some x' → l[i]? = some x → V1 g H w x val → V1 (g.lent w B) [] w x' val)
    (hp : noAts l' = true) {b k : Nat} (h : V1s g H w l b k) : PCells (g.lent w B).S (g.lent w B).Sl w l' b k := by
  refine PCells_of' fun i c hi => ?_
  have hil : i < l.length := by rw [← hl]; exact (List.getElem?_eq_some_iff.1 hi).1
  obtain ⟨v, hv, hv2⟩ := V1s_get h (List.getElem?_eq_getElem hil)
  exact ⟨v, hv, lent_cell' (noAts_mem hp c (List.mem_of_getElem? hi)) (hh i c _ v hi (List.getElem?_eq_getElem hil) hv2)⟩

theorem lend2_ok {v : AV} {κ : AV → Bool → R} (h : lend2K hp v κ = some r) : ∃ v' b, κ v' b = some r ∧ ∀ (g : G) (H : List Blk) (w : World) (B : Bool) (val : Value), hp <+: H → Good g H w → (b = true → B = true) → V3 g H w v val →
    V2 g H w v val ∧ V2 (g.lent w B) [] w v' val := by
  unfold lend2K at h
  split at h
  · rename_i cs
    obtain ⟨l', b, h1, hlen, hl⟩ := lends_ok h
    refine ⟨_, b, h1, fun g H w B val hH hg hB hv => ⟨hv, ?_⟩⟩
    obtain ⟨vs, e, hvs⟩ := hv
    exact ⟨vs, e, (hl g H w B hH hg hB).1 vs hvs⟩
  · rename_i τ idx off E
    obtain ⟨blk, hb, h1⟩ := getK_some h
    clear h
    have hbox : ∀ (y : AV) (l' : List AV) (y' : AV), blk = .box y → cells y' = l' → l'.length = (cells y).length → noAts l' = true → (∀ (g : G) (H : List Blk) (w : World) (B : Bool), hp <+: H → Good g H w → B = true → ∀ (i : Nat) x' x val, l'[i]? = some x' → (cells y)[i]? = some x → V1 g H w x val → V1 (g.lent w B) [] w x' val) →
        κ (.at y' off) true = some r → ∃ v' b, κ v' b = some r ∧ ∀ (g : G) (H : List Blk) (w : World) (B : Bool) (val : Value), hp <+: H → Good g H w → (b = true → B = true) → V3 g H w (.ptr τ idx off E) val →
          V2 g H w (.ptr τ idx off E) val ∧ V2 (g.lent w B) [] w v' val := by
      intro y l' y' e1 e2 e3 e4 e5 e6
      subst e1
      refine ⟨_, _, e6, fun g H w B val hH hg hB hv => ⟨hv, ?_⟩⟩
      obtain ⟨hd, hz, b, base, n, hρ, hidx, he⟩ := hv
      have hbH := prefix_get hH hb
      obtain ⟨bk, q1, q2⟩ := hg.tok τ hd
      rw [hbH] at q1
      cases q1
      obtain ⟨b', o', hρ', hS, hu, hcs⟩ := q2
      rw [hρ] at hρ'
      cases hρ'
      have h0 := hz _ hbH
      have hn : n = 0 := by omega
      subst hn
      refine ⟨b, base, by simpa using he, .inr ⟨hB rfl, hu.lt⟩, by rw [e2], ?_⟩
      rw [e2]
      exact V1s_lent e3 (e5 g H w B hH hg (hB rfl)) e4 hcs
    split at h1
    · rename_i cs
      obtain ⟨l', b, h2, hlen, hl⟩ := lends_ok h1
      obtain ⟨hna, h3⟩ := cond_none h2
      exact hbox (.agg cs) l' (.agg l') rfl rfl hlen hna (fun g H w B hH hg hB i x' x val h1 h2 h3 => ((hl g H w B hH hg (fun _ => hB)).2 i x' x val h1 h2 h3).1) h3
    · rename_i y hny
      obtain ⟨v', b, h2, hv, hV, hc⟩ := lend1_ok h1
      obtain ⟨hna, h3⟩ := cond_none h2
      have hcy : cells y = [y] := by
        cases y <;> first
          | rfl
          | exact absurd rfl (hny _)
      refine hbox y [v'] v' rfl hc (by rw [hcy]; rfl) (by simp [noAts, hna]) (fun g H w B hH hg hB i x' x val h1 h2 h3 => ?_) h3
      rw [hcy] at h2
      cases i with
      | zero => simp at h1 h2; subst h1; subst h2; exact (hv g H w B val hH hg (fun _ => hB) h3).1
      | succ i => simp at h1
    · cases h1
    · rename_i m E' xs hm
      obtain ⟨rfl, h2⟩ := beqE_some h1
      obtain ⟨x, hx, h3⟩ := gbind_some h2
      refine ⟨_, _, h3, fun g H w B val hH hg hB hv => ⟨hv, ?_⟩⟩
      obtain ⟨hd, hz, b, base, n, hρ, hidx, he⟩ := hv
      have hbH := prefix_get hH hb
      have hmd : m ≠ .dead := fun e => by subst e; simp at hm
      obtain ⟨bk, q1, q2⟩ := hg.tok τ hd
      rw [hbH] at q1
      cases q1
      obtain ⟨hi0, hil, hix⟩ := lget_some hx
      have hin : idx.toNat = n := by omega
      rw [hin] at hix
      have hRu : PRows g.S g.Sl w E xs b base ∧ Unf w b 0 := by
        cases m with
        | dead => exact absurd rfl hmd
        | live =>
          rcases q2 with ⟨h0, _⟩ | ⟨b', o', h6, _, h7, h8⟩
          · rw [hρ] at h0; cases h0
          · rw [hρ] at h6; cases h6; exact ⟨h8, h7⟩
        | frozen =>
          rcases q2 with ⟨h0, _⟩ | ⟨b', o', h6, _, h7, h8⟩
          · rw [hρ] at h0; cases h0
          · rw [hρ] at h6; cases h6; exact ⟨h8, h7⟩
      have hel := PRows_get hRu.1 hix
      exact ⟨b, base + n * E, by rw [he], .inr ⟨hB rfl, hRu.2.lt⟩, rfl, hel.2.weak⟩
  · rename_i n1 n2
    obtain ⟨v', b, h1, hv, hV, hc⟩ := lend1_ok h
    refine ⟨v', b, h1, fun g H w B val hH hg hB hval => ?_⟩
    have hv1 := hV g H w val hval
    refine ⟨?_, ?_⟩
    · cases v <;> first
        | exact hv1
        | exact absurd rfl (n1 _)
    · have := (hv g H w B val hH hg hB hv1).1
      cases v' <;> first
        | exact this
        | (simp [V1, PCell] at this)
end lend
end
end Go.AM
