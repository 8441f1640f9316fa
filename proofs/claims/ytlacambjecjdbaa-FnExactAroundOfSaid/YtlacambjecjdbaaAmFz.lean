import Derived.Test.YtlacambjecjdbaaAmMem
set_option linter.unusedVariables false
set_option linter.unusedSimpArgs false
set_option linter.unnecessarySimpa false
/-! An own slice that is put into rows is frozen: from then on it stays as it is. -/
namespace Go.AM

section
variable {P : Program} {T : TypeId → Option TI} {o : Oper} {tm : List AV} {hp : List Blk} {r : AV × List Blk}

theorem PRows_drop {S Sl : Nat → Prop} {w : World} {E : Nat} : ∀ {n : Nat} {xs : List AV} {b off : Nat}, PRows S Sl w E xs b off → PRows S Sl w E (xs.drop n) b (off + n * E)
  | 0, xs, b, off, h => by simpa using h
  | n + 1, [], b, off, h => PRows_nil
  | n + 1, x :: xs, b, off, h => by
    have := PRows_drop (n := n) (PRows_cons.1 h).2
    rw [Nat.succ_mul]
    rw [show off + (n * E + E) = off + E + n * E by omega]
    exact this
theorem PRows_take {S Sl : Nat → Prop} {w : World} {E : Nat} : ∀ {n : Nat} {xs : List AV} {b off : Nat}, PRows S Sl w E xs b off → PRows S Sl w E (xs.take n) b off
  | 0, xs, b, off, h => PRows_nil
  | n + 1, [], b, off, h => PRows_nil
  | n + 1, x :: xs, b, off, h => PRows_cons.2 ⟨(PRows_cons.1 h).1, PRows_take (PRows_cons.1 h).2⟩

noncomputable def rowsD (r : Option (Int × Int)) (xs : List AV) : List AV :=
  match r with
  | none => xs
  | some (o, l) => lsub xs o (iadd o l)

theorem rowsOf_eq (r : Option (Int × Int)) (xs : List AV) (κ : List AV → R) : rowsOf r xs κ = κ (rowsD r xs) := by
  unfold rowsOf rowsD; split <;> rfl

/-- an own slice's rows, as the machine has them -/
theorem own_rows {g : G} {H : List Blk} {w : World} {τ E : Nat} {rr : Option (Int × Int)} {c : Bool} {v : Value} {m : Mode} {xs : List AV} {S Sl : Nat → Prop}
    (h : V1 g H w (.own τ E rr c) v) (hb : H[τ]? = some (.rows m E xs)) (hm : m ≠ .dead)
    (hR : (g.ρ τ = none ∧ xs = []) ∨ ∃ b base, g.ρ τ = some (b, base) ∧ PRows S Sl w E xs b base) :
    ∃ A cap, v = .slice A (rowsD rr xs).length cap ∧ (rowsD rr xs).length ≤ cap ∧ (c = true → cap = (rowsD rr xs).length) ∧
      (rowsD rr xs = [] ∨ ∃ b off base, A = some ⟨b, off, none⟩ ∧ g.ρ τ = some (b, base) ∧ PRows S Sl w E (rowsD rr xs) b off) := by
  obtain ⟨hd, h⟩ := h
  cases hρ : g.ρ τ with
  | none =>
    simp only [hρ] at h hR
    obtain ⟨⟨A, rfl⟩, hr⟩ := h
    have hx : xs = [] := by
      rcases hR with ⟨_, hx⟩ | ⟨b, base, h0, _⟩
      · exact hx
      · cases h0
    have hz : rowsD rr xs = [] := by
      subst hx
      cases rr <;> simp [rowsD, lsub_eq]
    rw [hz]
    exact ⟨A, 0, rfl, Nat.zero_le _, fun _ => rfl, .inl rfl⟩
  | some p =>
    obtain ⟨b, base⟩ := p
    simp only [hρ] at h hR
    obtain ⟨k, o, l, cap, rfl, hk, h1, h2, h3, h4, h5⟩ := h
    have hl : (rowsD rr xs).length = l ∧ ∀ b base, PRows S Sl w E xs b base → PRows S Sl w E (rowsD rr xs) b (base + o * E) := by
      cases rr with
      | none =>
        simp only [rowsD] at h5 ⊢
        obtain ⟨rfl, h6⟩ := h5
        exact ⟨(h6 _ _ _ hb hm).symm, fun b base h => by simpa using h⟩
      | some q =>
        obtain ⟨o', l'⟩ := q
        simp only at h5
        obtain ⟨rfl, rfl, h6⟩ := h5
        have h7 := h6 _ _ _ hb hm
        simp only [rowsD, lsub_eq, iadd_eq]
        have e1 : ((o : Int)).toNat = o := by omega
        have e2 : (((o : Int) + l - o)).toNat = l := by omega
        rw [e1, e2]
        refine ⟨by simp; omega, fun b base h => PRows_take (PRows_drop h)⟩
    refine ⟨some ⟨b, k, none⟩, cap, by rw [hl.1], by omega, fun e => by rw [hl.1]; exact h2 e, ?_⟩
    rcases hk with rfl | hk
    · rcases hR with ⟨h0, _⟩ | ⟨b', base', h0, hR⟩
      · cases h0
      · cases h0
        exact .inr ⟨b, _, base, rfl, rfl, hl.2 _ _ hR⟩
    · left
      apply List.eq_nil_of_length_eq_zero
      omega

def G.frz (g : G) (p : Option (Nat × Nat)) : G := { g with S := fun x => g.S x ∨ ∃ o, p = some (x, o), Sl := fun x => g.Sl x ∨ ∃ o, p = some (x, o) }

theorem get_set {α : Type} {l : List α} {n m : Nat} {x y : α} (h : (l.set n x)[m]? = some y) : (m = n ∧ y = x ∧ n < l.length) ∨ (m ≠ n ∧ l[m]? = some y) := by
  rw [List.getElem?_set] at h
  by_cases e : n = m
  · subst e
    simp only [if_true] at h
    split at h
    · cases h; exact .inl ⟨rfl, rfl, ‹_›⟩
    · cases h
  · simp only [e, if_false] at h
    exact .inr ⟨fun h => e h.symm, h⟩
theorem get_set_ne {α : Type} {l : List α} {n m : Nat} {x : α} (h : m ≠ n) : (l.set n x)[m]? = l[m]? := by
  rw [List.getElem?_set, if_neg (fun e => h e.symm)]
theorem get_set_eq {α : Type} {l : List α} {n : Nat} {x y : α} (h : l[n]? = some y) : (l.set n x)[n]? = some x := by
  rw [List.getElem?_set, if_pos rfl, if_pos (List.getElem?_eq_some_iff.1 h).1]

section frz
variable {g : G} {H : List Blk} {w : World} {τ E : Nat} {xs : List AV}

theorem Trans.frz (hg : Good g H w) (hd : g.dom τ) (hb : H[τ]? = some (.rows .live E xs)) : Trans g H w (g.frz (g.ρ τ)) (H.set τ (.rows .frozen E xs)) w where
  dom _ h := h
  ρ _ _ := rfl
  S _ h := .inl h
  Sl _ h := .inl h
  newS b h := h.imp id fun ⟨o, h⟩ => .inr ⟨τ, o, hd, h, _, hb, trivial⟩
  newSl b h := h.imp id fun ⟨o, h⟩ => .inr ⟨τ, o, hd, h, _, hb, trivial⟩
  size := Nat.le_refl _
  shape := .refl w
  env := .refl w
  prot _ _ _ := rfl
  own b h := by
    obtain ⟨x, o, h1, h2, blk, h3, h4⟩ := h
    rcases get_set h3 with ⟨rfl, rfl, _⟩ | ⟨hne, h3⟩
    · exact h4.elim
    · exact .inr ⟨x, o, h1, h2, blk, h3, h4⟩
  len x hx m E' ys h hm := by
    rcases get_set h with ⟨rfl, h1, _⟩ | ⟨hne, h3⟩
    · cases h1; exact ⟨.live, xs, hb, by simp, rfl⟩
    · exact ⟨m, ys, h3, hm, rfl⟩
  box x hx y h := by
    rcases get_set h with ⟨rfl, h1, _⟩ | ⟨hne, h3⟩
    · cases h1
    · exact ⟨y, h3⟩

theorem Good.frz (hg : Good g H w) (hd : g.dom τ) (hb : H[τ]? = some (.rows .live E xs)) : Good (g.frz (g.ρ τ)) (H.set τ (.rows .frozen E xs)) w where
  sub b h := h.imp (hg.sub b) id
  lt b h := by
    rcases h with h | ⟨o, h⟩
    · exact hg.lt b h
    · exact Own.lt hg (b := b) ⟨τ, o, hd, h, _, hb, trivial⟩
  tok x hx := by
    have ht := Trans.frz hg hd hb
    obtain ⟨blk, h1, h2⟩ := hg.tok x hx
    by_cases e : x = τ
    · subst e
      rw [hb] at h1
      cases h1
      refine ⟨_, get_set_eq hb, ?_⟩
      rcases h2 with h2 | ⟨b, o, h3, h4, h5, h6⟩
      · exact .inl h2
      · exact .inr ⟨b, o, h3, .inr ⟨o, h3⟩, h5, h6.trans ht hg rfl⟩
    · refine ⟨blk, by rw [get_set_ne e]; exact h1, BlkRel.trans ht hg hx (fun b o hρ ho => ⟨rfl, ?_⟩) h2⟩
      rintro (h | ⟨o', h⟩)
      · exact Own.notS hg ⟨x, o, hx, hρ, owned_of h1 ho⟩ h
      · exact e (hg.inj x τ b o o' hx hd hρ h (owned_of h1 ho) ⟨_, hb, trivial⟩)
  inj x y b o o' hx hy h1 h2 h3 h4 := by
    have key : ∀ z, owned (H.set τ (.rows .frozen E xs)) z → owned H z := by
      rintro z ⟨blk, h5, h6⟩
      rcases get_set h5 with ⟨rfl, rfl, _⟩ | ⟨hne, h7⟩
      · exact h6.elim
      · exact ⟨blk, h7, h6⟩
    exact hg.inj x y b o o' hx hy h1 h2 (key x h3) (key y h4)
end frz

/-- the value `v` as it lies in rows -/
def Fz (R : G → World → AV → Value → Prop) (R0 : G → List Blk → World → AV → Value → Prop) (hp : List Blk) (v : AV) (hp' : List Blk) (v' : AV) : Prop :=
  hp'.length = hp.length ∧ ∀ (g : G) (w : World) (val : Value), Good g hp w → R0 g hp w v val → ∃ g', Trans g hp w g' hp' w ∧ Good g' hp' w ∧ g'.dom = g.dom ∧ R g' w v' val


theorem pur1_ok {v : AV} {κ : AV → List Blk → R} (h : pur1K hp v κ = some r) : ∃ v' hp', κ v' hp' = some r ∧ cells v' = [v'] ∧ Fz PC V1 hp v hp' v' := by
  have same : ∀ (H : List Blk), (∀ g w val, V1 g H w v val → PC g w v val) → Fz PC V1 H v H v := fun H hh => ⟨rfl, fun g w val hg hv => ⟨g, Trans.refl g H w, hg, rfl, hh g w val hv⟩⟩
  cases v <;> simp only [pur1K] at h
  case own τ E rr c =>
    obtain ⟨blk, hb, h⟩ := getK_some h
    split at h
    · rename_i E' xs
      obtain ⟨rfl, h'⟩ := beqE_some h
      rw [setK_eq, rowsOf_eq] at h'
      refine ⟨_, _, h', rfl, by simp, fun g w val hg hv => ⟨g.frz (g.ρ τ), Trans.frz hg hv.1 hb, Good.frz hg hv.1 hb, rfl, ?_⟩⟩
      obtain ⟨blk, h1, h2⟩ := hg.tok τ hv.1
      rw [hb] at h1
      cases h1
      have h3 := own_rows (S := g.S) (Sl := g.Sl) hv hb (by simp) (by
        rcases h2 with h2 | ⟨b, o, h3, h4, h5, h6⟩
        · exact .inl h2
        · exact .inr ⟨b, o, h3, h6⟩)
      obtain ⟨A, cap, e1, e2, e3, e4⟩ := h3
      refine ⟨A, cap, e1, e2, e3, e4.imp id ?_⟩
      rintro ⟨b, off, base, e5, e6, e7⟩
      exact ⟨b, off, e5, .inr ⟨base, e6⟩, e7.trans (Trans.frz hg hv.1 hb) hg rfl⟩
    · rename_i E' xs
      obtain ⟨rfl, h'⟩ := beqE_some h
      rw [rowsOf_eq] at h'
      refine ⟨_, _, h', rfl, rfl, fun g w val hg hv => ⟨g, Trans.refl g hp w, hg, rfl, ?_⟩⟩
      obtain ⟨blk, h1, h2⟩ := hg.tok τ hv.1
      rw [hb] at h1
      cases h1
      have h3 := own_rows (S := g.S) (Sl := g.Sl) hv hb (by simp) (by
        rcases h2 with h2 | ⟨b, o, h3, h4, h5, h6⟩
        · exact .inl h2
        · exact .inr ⟨b, o, h3, h6⟩)
      obtain ⟨A, cap, e1, e2, e3, e4⟩ := h3
      refine ⟨A, cap, e1, e2, e3, ?_⟩
      rcases e4 with e4 | ⟨b, off, base, e5, e6, e7⟩
      · exact .inl e4
      · rcases h2 with ⟨h0, _⟩ | ⟨b', o', h6, h7, _⟩
        · rw [e6] at h0; cases h0
        · rw [e6] at h6; cases h6
          exact .inr ⟨b, off, e5, h7, e7⟩
    · cases h
  case lst o c E xs =>
    rcases cond_some h with ⟨_, h1⟩ | ⟨rfl, h1⟩
    · cases h1
    · exact ⟨_, _, h1, rfl, same hp fun g w val hv => hv⟩
  all_goals first
    | exact ⟨_, _, h, rfl, same hp fun g w val hv => hv⟩
    | cases h

def VC (g : G) (H : List Blk) (w : World) (xs : List AV) (v : Value) : Prop := ∃ vs, v = .agg ⟨vs⟩ ∧ All2 (V1 g H w) xs vs

theorem purs_ok : ∀ {l : List AV} {hp : List Blk} {κ : List AV → List Blk → R}, pursK hp l κ = some r → ∃ l' hp', κ l' hp' = some r ∧ l'.length = l.length ∧ hp'.length = hp.length ∧
    ∀ (g : G) (w : World) (vs : List Value), Good g hp w → All2 (V1 g hp w) l vs → ∃ g', Trans g hp w g' hp' w ∧ Good g' hp' w ∧ g'.dom = g.dom ∧ All2 (PC g' w) l' vs
  | [], hp, κ, h => ⟨[], hp, h, rfl, rfl, fun g w vs hg hv => ⟨g, Trans.refl g hp w, hg, rfl, by cases vs <;> simp_all [All2]⟩⟩
  | x :: l, hp, κ, h => by
    simp only [pursK] at h
    obtain ⟨v', hp1, h, _, hl1, h1⟩ := pur1_ok h
    obtain ⟨l', hp2, h, hl2, hl3, h2⟩ := purs_ok h
    refine ⟨v' :: l', hp2, h, by simp [hl2], by omega, fun g w vs hg hv => ?_⟩
    cases vs with
    | nil => exact hv.elim
    | cons v vs =>
      obtain ⟨g1, ht1, hg1, hd1, hp1⟩ := h1 g w v hg hv.1
      obtain ⟨g2, ht2, hg2, hd2, hp2⟩ := h2 g1 w vs hg1 (hv.2.imp fun _ _ h => h.trans ht1 hg)
      exact ⟨g2, ht1.trans ht2, hg2, hd2.trans hd1, PC.trans ht2 hg1 hp1, hp2⟩

/-- a row's element and its cells -/
def PE (g : G) (w : World) (x : AV) (v : Value) : Prop := All2 (PC g w) (cells x) v.cells.toList

theorem pur_ok {v : AV} {κ : AV → List Blk → R} (h : purK hp v κ = some r) : ∃ v' hp', κ v' hp' = some r ∧ (cells v').length = (cells v).length ∧ (∀ g H w u, V3 g H w v u → V2 g H w v u) ∧ Fz PE V2 hp v hp' v' := by
  unfold purK at h
  split at h
  · rename_i cs
    obtain ⟨l', hp', h, h1, h2, h3⟩ := purs_ok h
    refine ⟨_, _, h, h1, fun g H w u h => h, h2, fun g w val hg hv => ?_⟩
    obtain ⟨vs, rfl, hv⟩ := hv
    exact h3 g w vs hg hv
  · rename_i hne
    have hc : cells v = [v] := by
      cases v <;> first
        | rfl
        | exact absurd rfl (hne _)
    have hk : ∀ g H w u, V3 g H w v u → V1 g H w v u := by
      intro g H w u hh
      cases v <;> first
        | exact hh
        | exact absurd rfl (hne _)
        | (simp [pur1K] at h)
    obtain ⟨v', hp', h', hc', h2, h3⟩ := pur1_ok h
    have hk2 : ∀ g H w u, V2 g H w v u → V1 g H w v u := by
      intro g H w u hh
      cases v <;> first
        | exact hh
        | exact absurd rfl (hne _)
    refine ⟨v', hp', h', by rw [hc, hc']; rfl, fun g H w u hh => ?_, h2, fun g w val hg hv => ?_⟩
    · have := hk g H w u hh
      cases v <;> first
        | exact this
        | exact absurd rfl (hne _)
    · obtain ⟨g', ht, hg', hd', hp⟩ := h3 g w val hg (hk2 _ _ _ _ hv)
      refine ⟨g', ht, hg', hd', ?_⟩
      unfold PE
      rw [hc', (V1_one (V1_of_PCell (H := []) hp.weak)).1]
      exact ⟨hp, trivial⟩
end
end Go.AM
