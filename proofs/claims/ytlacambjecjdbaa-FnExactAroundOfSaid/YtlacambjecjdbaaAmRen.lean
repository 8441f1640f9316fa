import Derived.Test.YtlacambjecjdbaaAmCall2
set_option linter.unusedVariables false
set_option linter.unusedSimpArgs false
set_option linter.unnecessarySimpa false
/-! Tokens get other names. -/
namespace Go.AM

section
variable {P : Program} {T : TypeId → Option TI} {o : Oper} {tm : List AV} {hp : List Blk} {r : AV × List Blk}

def rn1 (φ : Nat → Nat) : AV → AV
  | .own τ E r c => .own (φ τ) E r c
  | .ptr τ i o E => .ptr (φ τ) i o E
  | v => v

def tk1 (D : Nat → Prop) : AV → Prop
  | .own τ _ _ _ => D τ
  | .ptr τ _ _ _ => D τ
  | .fn _ _ _ => False
  | .tup _ => False
  | .agg _ => False
  | _ => True

/-- the second ghosts tell of `φ τ` what the first tell of τ, for the names in D -/
structure Ren (φ : Nat → Nat) (D : Nat → Prop) (g1 : G) (H1 : List Blk) (g2 : G) (H2 : List Blk) : Prop where
  dom : ∀ τ, D τ → g1.dom τ → g2.dom (φ τ)
  ρ : ∀ τ, D τ → g1.dom τ → g2.ρ (φ τ) = g1.ρ τ
  rows : ∀ τ, D τ → g1.dom τ → ∀ m E xs, H2[φ τ]? = some (.rows m E xs) → H1[τ]? = some (.rows m E xs)
  box : ∀ τ, D τ → g1.dom τ → ∀ y, H2[φ τ]? = some (.box y) → ∃ y', H1[τ]? = some (.box y')
  S : ∀ b, g1.S b → g2.S b
  Sl : ∀ b, g1.Sl b → g2.Sl b

section ren
variable {φ : Nat → Nat} {D : Nat → Prop} {g1 g2 : G} {H1 H2 : List Blk} {w : World}

theorem PCell.sub {S Sl S' Sl' : Nat → Prop} (h1 : ∀ b, S b → S' b) (h2 : ∀ b, Sl b → Sl' b) {x : AV} {v : Value} (h : PCell S Sl w x v) : PCell S' Sl' w x v := by
  cases x with
  | lst o c E xs =>
    simp only [PCell] at h ⊢
    obtain ⟨A, cap, e, k1, k2, k3⟩ := h
    refine ⟨A, cap, e, k1, k2, k3.imp id ?_⟩
    rintro ⟨b, off, h4, h5, h6⟩
    refine ⟨b, off, h4, ?_, h6.mono' h2 (fun _ _ => rfl) rfl⟩
    cases o with
    | false => exact h2 b h5
    | true => exact h1 b h5
  | _ => simpa [PCell] using h

theorem PCells.sub {S Sl S' Sl' : Nat → Prop} (h1 : ∀ b, S b → S' b) (h2 : ∀ b, Sl b → Sl' b) : ∀ {cs : List AV} {b k : Nat}, PCells S Sl w cs b k → PCells S' Sl' w cs b k
  | [], _, _, _ => by simp [PCells]
  | c :: cs, b, k, h => by
    simp only [PCells] at h ⊢
    obtain ⟨⟨v, hv, hp⟩, hr⟩ := h
    exact ⟨⟨v, hv, hp.sub h1 h2⟩, hr.sub h1 h2⟩

theorem V1.ren (hR : Ren φ D g1 H1 g2 H2) {x : AV} {v : Value} (hD : tk1 D x) (h : V1 g1 H1 w x v) : V1 g2 H2 w (rn1 φ x) v := by
  cases x with
  | own τ E r c =>
    obtain ⟨hd, h⟩ := h
    simp only [tk1] at hD
    refine ⟨hR.dom τ hD hd, ?_⟩
    rw [hR.ρ τ hD hd]
    cases hρ : g1.ρ τ with
    | none =>
      rw [hρ] at h
      refine ⟨h.1, ?_⟩
      cases r with
      | none => exact fun m E' ys hy hm => h.2 m E' ys (hR.rows τ hD hd _ _ _ hy) hm
      | some p => exact h.2
    | some p =>
      rw [hρ] at h
      obtain ⟨k, o, l, cap, e, k1, k2, k3, k4, k5, k6⟩ := h
      refine ⟨k, o, l, cap, e, k1, k2, k3, fun e m E' ys hy hm => k4 e m E' ys (hR.rows τ hD hd _ _ _ hy) hm, k5, ?_⟩
      cases r with
      | none => exact ⟨k6.1, fun m E' ys hy hm => k6.2 m E' ys (hR.rows τ hD hd _ _ _ hy) hm⟩
      | some p => exact ⟨k6.1, k6.2.1, fun m E' ys hy hm => k6.2.2 m E' ys (hR.rows τ hD hd _ _ _ hy) hm⟩
  | ptr τ i o E =>
    obtain ⟨hd, hz, b, base, n, k1, k2, k3⟩ := h
    simp only [tk1] at hD
    exact ⟨hR.dom τ hD hd, fun y hy => (hR.box τ hD hd y hy).elim fun y' h => hz y' h, b, base, n, (hR.ρ τ hD hd).trans k1, k2, k3⟩
  | «at» x off =>
    obtain ⟨b, k, e, k1, k2⟩ := h
    exact ⟨b, k, e, hR.S b k1, k2.1, k2.2.sub hR.S hR.Sl⟩
  | _ => simp only [V1, rn1] at h ⊢; exact PCell.sub hR.S hR.Sl h

theorem All2_map {R R' : AV → Value → Prop} {f : AV → AV} : ∀ {xs : List AV} {vs : List Value}, (∀ x ∈ xs, ∀ v, R x v → R' (f x) v) → All2 R xs vs → All2 R' (xs.map f) vs
  | [], [], _, _ => trivial
  | x :: xs, v :: vs, h, hh => ⟨h x (by simp) v hh.1, All2_map (fun y hy => h y (by simp [hy])) hh.2⟩
  | [], _ :: _, _, hh => hh.elim
  | _ :: _, [], _, hh => hh.elim

theorem V1s.ren (hR : Ren φ D g1 H1 g2 H2) : ∀ {cs : List AV} {b k : Nat}, (∀ x ∈ cs, tk1 D x) → V1s g1 H1 w cs b k → V1s g2 H2 w (cs.map (rn1 φ)) b k
  | [], _, _, _, _ => trivial
  | c :: cs, b, k, hD, h => ⟨h.1.imp fun v hv => ⟨hv.1, hv.2.ren hR (hD c (by simp))⟩, h.2.ren hR fun x hx => hD x (by simp [hx])⟩
end ren

/-- what a renaming does to a value: told by what holds before and behind -/
def RV (φ : Nat → Nat) (D : Nat → Prop) (x x' : AV) : Prop :=
  ∀ (g1 g2 : G) (H1 H2 : List Blk) (w : World), Ren φ D g1 H1 g2 H2 → (∀ v, V3 g1 H1 w x v → V3 g2 H2 w x' v) ∧ (∀ v, V2 g1 H1 w x v → V2 g2 H2 w x' v) ∧
    ∀ b k, V1s g1 H1 w (cells x) b k → V1s g2 H2 w (cells x') b k

theorem RV.one {φ : Nat → Nat} {D : Nat → Prop} {x : AV} (hD : tk1 D x) : RV φ D x (rn1 φ x) := by
  intro g1 g2 H1 H2 w hR
  have hc : cells x = [x] ∧ cells (rn1 φ x) = [rn1 φ x] := by
    cases x <;> first
      | exact ⟨rfl, rfl⟩
      | exact hD.elim
  have h2 : ∀ g H v, V2 g H w x v ↔ V1 g H w x v := fun g H v => by
    cases x <;> first
      | exact Iff.rfl
      | exact hD.elim
  have h2' : ∀ g H v, V2 g H w (rn1 φ x) v ↔ V1 g H w (rn1 φ x) v := fun g H v => by
    cases x <;> first
      | exact Iff.rfl
      | exact hD.elim
  refine ⟨fun v hv => ?_, fun v hv => (h2' _ _ v).2 (((h2 _ _ v).1 hv).ren hR hD), fun b k h => ?_⟩
  · cases x <;> first
      | trivial
      | exact hD.elim
      | exact V1.ren (w := w) hR hD hv
  · rw [hc.1] at h
    rw [hc.2]
    exact V1s.ren hR (by simpa using hD) h

theorem RV.agg {φ : Nat → Nat} {D : Nat → Prop} {cs : List AV} (hD : ∀ x ∈ cs, tk1 D x) : RV φ D (.agg cs) (.agg (cs.map (rn1 φ))) := by
  intro g1 g2 H1 H2 w hR
  have key : ∀ v, V2 g1 H1 w (.agg cs) v → V2 g2 H2 w (.agg (cs.map (rn1 φ))) v := by
    rintro v ⟨vs, e, h⟩
    exact ⟨vs, e, All2_map (fun x hx v hv => V1.ren hR (hD x hx) hv) h⟩
  exact ⟨key, key, fun b k h => V1s.ren hR hD h⟩

theorem RV.tup {φ : Nat → Nat} {D : Nat → Prop} {cs cs' : List AV} (h : cs'.length = cs.length ∧ ∀ (i : Nat) x x', cs[i]? = some x → cs'[i]? = some x' → RV φ D x x') : RV φ D (.tup cs) (.tup cs') := by
  intro g1 g2 H1 H2 w hR
  refine ⟨?_, fun v hv => by simp [V2, V1, PCell] at hv, fun b k hh => by obtain ⟨⟨v, _, hv⟩, _⟩ := hh; simp [V1, PCell] at hv⟩
  rintro v ⟨ws, e, hw⟩
  refine ⟨ws, e, ?_⟩
  clear e
  obtain ⟨hl, hx⟩ := h
  induction cs generalizing cs' ws with
  | nil =>
    cases cs' with
    | nil => cases ws <;> first | trivial | exact hw.elim
    | cons _ _ => simp at hl
  | cons c cs ih =>
    cases cs' with
    | nil => simp at hl
    | cons c' cs' =>
      cases ws with
      | nil => exact hw.elim
      | cons u us =>
        exact ⟨(hx 0 c c' rfl rfl g1 g2 H1 H2 w hR).2.1 u hw.1, ih (cs' := cs') us hw.2 (by simpa using hl) fun i x x' h1 h2 => hx (i + 1) x x' (by simpa using h1) (by simpa using h2)⟩

theorem RV.fn {φ : Nat → Nat} {D : Nat → Prop} {f : FuncId} {a c a' c' : List AV} (ha : a'.length = a.length ∧ ∀ (i : Nat) x x', a[i]? = some x → a'[i]? = some x' → RV φ D x x') (hc : c'.length = c.length ∧ ∀ (i : Nat) x x', c[i]? = some x → c'[i]? = some x' → RV φ D x x') :
    RV φ D (.fn f a c) (.fn f a' c') := by
  intro g1 g2 H1 H2 w hR
  refine ⟨?_, fun v hv => by simp [V2, V1, PCell] at hv, fun b k hh => by obtain ⟨⟨v, _, hv⟩, _⟩ := hh; simp [V1, PCell] at hv⟩
  have key : ∀ (l l' : List AV) (ws : List Value), (l'.length = l.length ∧ ∀ (i : Nat) x x', l[i]? = some x → l'[i]? = some x' → RV φ D x x') → All2 (V2 g1 H1 w) l ws → All2 (V2 g2 H2 w) l' ws := by
    intro l
    induction l with
    | nil =>
      intro l' ws h hw
      cases l' with
      | nil => cases ws <;> first | trivial | exact hw.elim
      | cons _ _ => simp at h
    | cons x l ih =>
      intro l' ws h hw
      cases l' with
      | nil => simp at h
      | cons x' l' =>
        cases ws with
        | nil => exact hw.elim
        | cons u us => exact ⟨(h.2 0 x x' rfl rfl g1 g2 H1 H2 w hR).2.1 u hw.1, ih l' us ⟨by simpa using h.1, fun i y y' h1 h2 => h.2 (i + 1) y y' (by simpa using h1) (by simpa using h2)⟩ hw.2⟩
  rintro v ⟨av, cv, e, k1, k2⟩
  exact ⟨av, cv, e, key _ _ _ ha k1, key _ _ _ hc k2⟩

def RVs (φ : Nat → Nat) (D : Nat → Prop) (l l' : List AV) : Prop := l'.length = l.length ∧ ∀ (i : Nat) x x', l[i]? = some x → l'[i]? = some x' → RV φ D x x'

theorem RVs.cons {φ : Nat → Nat} {D : Nat → Prop} {x x' : AV} {l l' : List AV} (h : RV φ D x x') (hl : RVs φ D l l') : RVs φ D (x :: l) (x' :: l') := by
  refine ⟨by simp [hl.1], fun i y y' h1 h2 => ?_⟩
  cases i with
  | zero => simp at h1 h2; subst h1; subst h2; exact h
  | succ i => exact hl.2 i y y' (by simpa using h1) (by simpa using h2)
theorem RVs.nil {φ : Nat → Nat} {D : Nat → Prop} : RVs φ D [] [] := ⟨rfl, fun i x x' h => by simp at h⟩

theorem RVs.all2 {φ : Nat → Nat} {D : Nat → Prop} {g1 g2 : G} {H1 H2 : List Blk} {w : World} (hR : Ren φ D g1 H1 g2 H2) : ∀ {l l' : List AV} {vs : List Value}, RVs φ D l l' → All2 (V3 g1 H1 w) l vs → All2 (V3 g2 H2 w) l' vs
  | [], [], [], _, _ => trivial
  | x :: l, x' :: l', v :: vs, h, hv => ⟨(h.2 0 x x' rfl rfl g1 g2 H1 H2 w hR).1 v hv.1, RVs.all2 hR ⟨by simpa using h.1, fun i y y' h1 h2 => h.2 (i + 1) y y' (by simpa using h1) (by simpa using h2)⟩ hv.2⟩
  | [], _ :: _, _, h, _ => by simp [RVs] at h
  | _ :: _, [], _, h, _ => by simp [RVs] at h
  | [], [], _ :: _, _, h => h.elim
  | _ :: _, _ :: _, [], _, h => h.elim

/-- a block's contents under other names -/
def RB (φ : Nat → Nat) (D : Nat → Prop) (b b' : Blk) : Prop :=
  match b with
  | .rows m E xs => b' = .rows m E xs
  | .box y => ∃ y', b' = .box y' ∧ RV φ D y y'

/-! the renaming by a list -/
def rnF (b0 : Nat) (ids : List Nat) (τ : Nat) : Nat := if b0 ≤ τ then b0 + ids.idxOf τ else τ
def rnD (b0 : Nat) (ids : List Nat) (τ : Nat) : Prop := τ < b0 ∨ τ ∈ ids

theorem idxN_ok {κ : Nat → R} : ∀ {ids : List Nat} {n m : Nat}, idxN ids n m κ = some r → n ∈ ids ∧ κ (m + ids.idxOf n) = some r
  | [], n, m, h => by simp [idxN] at h
  | a :: l, n, m, h => by
    simp only [idxN] at h
    rcases cond_some h with ⟨he, h⟩ | ⟨he, h⟩
    · have e := beq_eq he
      subst e
      rw [natK_eq] at h
      simpa using h
    · have hne : a ≠ n := fun e => by subst e; simp at he
      obtain ⟨h1, h2⟩ := idxN_ok h
      refine ⟨by simp [h1], ?_⟩
      rw [List.idxOf_cons]
      have : (a == n) = false := by simpa using hne
      rw [this]
      simpa [Nat.add_assoc, Nat.add_comm 1] using h2

theorem ren1_ok {b0 : Nat} {ids : List Nat} {v : AV} {κ : AV → R} (h : ren1K b0 ids v κ = some r) : κ (rn1 (rnF b0 ids) v) = some r ∧ tk1 (rnD b0 ids) v := by
  cases v <;> simp only [ren1K] at h <;> try (cases h; done)
  case own τ E rr c =>
    rcases cond_some h with ⟨he, h⟩ | ⟨he, h⟩
    · have he := Nat.le_of_ble_eq_true he
      obtain ⟨h1, h2⟩ := idxN_ok h
      simp only [rn1, rnF, if_pos he]
      exact ⟨h2, .inr h1⟩
    · have he : ¬ b0 ≤ τ := fun hh => by rw [Nat.ble_eq_true_of_le hh] at he; cases he
      simp only [rn1, rnF, if_neg he]
      exact ⟨h, .inl (by omega)⟩
  case ptr τ i o E =>
    rcases cond_some h with ⟨he, h⟩ | ⟨he, h⟩
    · have he := Nat.le_of_ble_eq_true he
      obtain ⟨h1, h2⟩ := idxN_ok h
      simp only [rn1, rnF, if_pos he]
      exact ⟨h2, .inr h1⟩
    · have he : ¬ b0 ≤ τ := fun hh => by rw [Nat.ble_eq_true_of_le hh] at he; cases he
      simp only [rn1, rnF, if_neg he]
      exact ⟨h, .inl (by omega)⟩
  all_goals exact ⟨h, trivial⟩

theorem rens_ok {b0 : Nat} {ids : List Nat} : ∀ {l : List AV} {κ : List AV → R}, rensK b0 ids l κ = some r → κ (l.map (rn1 (rnF b0 ids))) = some r ∧ ∀ x ∈ l, tk1 (rnD b0 ids) x
  | [], κ, h => ⟨h, fun x hx => by cases hx⟩
  | v :: l, κ, h => by
    simp only [rensK] at h
    obtain ⟨h1, h2⟩ := ren1_ok h
    obtain ⟨h3, h4⟩ := rens_ok h1
    refine ⟨h3, fun x hx => ?_⟩
    cases hx with
    | head => exact h2
    | tail _ hx => exact h4 x hx

theorem ren2_ok {b0 : Nat} {ids : List Nat} {v : AV} {κ : AV → R} (h : ren2K b0 ids v κ = some r) : ∃ v', κ v' = some r ∧ RV (rnF b0 ids) (rnD b0 ids) v v' := by
  unfold ren2K at h
  split at h
  · obtain ⟨h1, h2⟩ := rens_ok h
    exact ⟨_, h1, RV.agg h2⟩
  · rename_i cs
    obtain ⟨h1, h2⟩ := rens_ok h
    refine ⟨_, h1, RV.tup ⟨by simp, fun i x x' hx hx' => ?_⟩⟩
    rw [List.getElem?_map, hx] at hx'
    cases hx'
    exact RV.one (h2 x (List.mem_of_getElem? hx))
  · obtain ⟨h1, h2⟩ := ren1_ok h
    exact ⟨_, h1, RV.one h2⟩

theorem rens2_ok {b0 : Nat} {ids : List Nat} : ∀ {l : List AV} {κ : List AV → R}, rens2K b0 ids l κ = some r → ∃ l', κ l' = some r ∧ RVs (rnF b0 ids) (rnD b0 ids) l l'
  | [], κ, h => ⟨[], h, RVs.nil⟩
  | v :: l, κ, h => by
    simp only [rens2K] at h
    obtain ⟨v', h1, h2⟩ := ren2_ok h
    obtain ⟨l', h3, h4⟩ := rens2_ok h1
    exact ⟨v' :: l', h3, RVs.cons h2 h4⟩

theorem ren3_ok {b0 : Nat} {ids : List Nat} {v : AV} {κ : AV → R} (h : ren3K b0 ids v κ = some r) : ∃ v', κ v' = some r ∧ RV (rnF b0 ids) (rnD b0 ids) v v' := by
  unfold ren3K at h
  split at h
  · obtain ⟨a', h1, h2⟩ := rens2_ok h
    obtain ⟨c', h3, h4⟩ := rens2_ok h1
    exact ⟨_, h3, RV.fn h2 h4⟩
  · exact ren2_ok h

theorem rens3_ok {b0 : Nat} {ids : List Nat} : ∀ {l : List AV} {κ : List AV → R}, rens3K b0 ids l κ = some r → ∃ l', κ l' = some r ∧ RVs (rnF b0 ids) (rnD b0 ids) l l'
  | [], κ, h => ⟨[], h, RVs.nil⟩
  | v :: l, κ, h => by
    simp only [rens3K] at h
    obtain ⟨v', h1, h2⟩ := ren3_ok h
    obtain ⟨l', h3, h4⟩ := rens3_ok h1
    exact ⟨v' :: l', h3, RVs.cons h2 h4⟩

theorem renB_ok {b0 : Nat} {ids : List Nat} {b : Blk} {κ : Blk → R} (h : renBK b0 ids b κ = some r) : ∃ b', κ b' = some r ∧ RB (rnF b0 ids) (rnD b0 ids) b b' := by
  unfold renBK at h
  split at h
  · obtain ⟨v', h1, h2⟩ := ren3_ok h
    exact ⟨_, h1, v', rfl, h2⟩
  · exact ⟨_, h, rfl⟩

theorem rensB_ok {b0 : Nat} {ids : List Nat} : ∀ {l : List Blk} {κ : List Blk → R}, rensB b0 ids l κ = some r → ∃ l', κ l' = some r ∧ l'.length = l.length ∧ ∀ (i : Nat) b b', l[i]? = some b → l'[i]? = some b' → RB (rnF b0 ids) (rnD b0 ids) b b'
  | [], κ, h => ⟨[], h, rfl, fun i b b' hb => by simp at hb⟩
  | b :: l, κ, h => by
    simp only [rensB] at h
    obtain ⟨b', h1, h2⟩ := renB_ok h
    obtain ⟨l', h3, h4, h5⟩ := rensB_ok h1
    refine ⟨b' :: l', h3, by simp [h4], fun i c c' hc hc' => ?_⟩
    cases i with
    | zero => simp at hc hc'; subst hc; subst hc'; exact h2
    | succ i => exact h5 i c c' (by simpa using hc) (by simpa using hc')

theorem pickB_ok {b0 : Nat} {ids : List Nat} : ∀ {l : List Nat} {κ : List Blk → R}, pickB b0 ids hp l κ = some r → ∃ bs, κ bs = some r ∧ bs.length = l.length ∧
    ∀ (i : Nat) τ, l[i]? = some τ → ∃ b b', hp[τ]? = some b ∧ bs[i]? = some b' ∧ RB (rnF b0 ids) (rnD b0 ids) b b'
  | [], κ, h => ⟨[], h, rfl, fun i τ hb => by simp at hb⟩
  | τ :: l, κ, h => by
    simp only [pickB] at h
    obtain ⟨b, hb, h1⟩ := getK_some h
    obtain ⟨b', h2, h3⟩ := renB_ok h1
    obtain ⟨bs, h4, h5, h6⟩ := pickB_ok h2
    refine ⟨b' :: bs, h4, by simp [h5], fun i σ hσ => ?_⟩
    cases i with
    | zero => simp at hσ; subst hσ; exact ⟨b, b', hb, rfl, h3⟩
    | succ i => simpa using h6 i σ (by simpa using hσ)
end
end Go.AM
