import Derived.Test.YtlacambjecjdbaaAmDef
import Derived.Laws.World
set_option linter.unusedVariables false
set_option linter.unusedSimpArgs false
set_option linter.unnecessarySimpa false
/-! What abstract values say of the machine's values, and how a world may go on. -/
namespace Go.AM

mutual
/-- a cell of rows: what it leads to stays as it is -/
def NCell (Sl : Nat → Prop) (w : World) : AV → Value → Prop
  | .int k n, v => v = .int k n
  | .bool b, v => v = .bool b
  | .str l, v => v = .string ⟨⟨l⟩⟩
  | .nil, v => ∃ A, v = .slice A 0 0
  | .iface0, v => v = .nilIface
  | .lst o c E xs, v => ∃ A cap, v = .slice A xs.length cap ∧ xs.length ≤ cap ∧ (c = true → cap = xs.length) ∧
      (xs = [] ∨ ∃ b off, A = some ⟨b, off, none⟩ ∧ (o = false ∧ Sl b) ∧ NRows Sl w E xs b off)
  | _, _ => False
def NRows (Sl : Nat → Prop) (w : World) (E : Nat) : List AV → Nat → Nat → Prop
  | [], _, _ => True
  | .agg cs :: xs, b, off => cs.length = E ∧ NCells Sl w cs b off ∧ NRows Sl w E xs b (off + E)
  | x :: xs, b, off => E = 1 ∧ (∃ v, w.cell? ⟨b, off, none⟩ = some v ∧ NCell Sl w x v) ∧ NRows Sl w E xs b (off + E)
def NCells (Sl : Nat → Prop) (w : World) : List AV → Nat → Nat → Prop
  | [], _, _ => True
  | c :: cs, b, off => (∃ v, w.cell? ⟨b, off, none⟩ = some v ∧ NCell Sl w c v) ∧ NCells Sl w cs b (off + 1)
end

def PRows (_ Sl : Nat → Prop) (w : World) (E : Nat) (xs : List AV) (b off : Nat) : Prop := NRows Sl w E xs b off

def PCell (S Sl : Nat → Prop) (w : World) : AV → Value → Prop
  | .int k n, v => v = .int k n
  | .bool b, v => v = .bool b
  | .str l, v => v = .string ⟨⟨l⟩⟩
  | .nil, v => ∃ A, v = .slice A 0 0
  | .iface0, v => v = .nilIface
  | .lst o c E xs, v => ∃ A cap, v = .slice A xs.length cap ∧ xs.length ≤ cap ∧ (c = true → cap = xs.length) ∧
      (xs = [] ∨ ∃ b off, A = some ⟨b, off, none⟩ ∧ (if o = true then S b else Sl b) ∧ PRows S Sl w E xs b off)
  | _, _ => False
def PCells (S Sl : Nat → Prop) (w : World) : List AV → Nat → Nat → Prop
  | [], _, _ => True
  | c :: cs, b, off => (∃ v, w.cell? ⟨b, off, none⟩ = some v ∧ PCell S Sl w c v) ∧ PCells S Sl w cs b (off + 1)

/-- nothing -/
def F0 : Nat → Prop := fun _ => False

theorem NCell_iff {Sl : Nat → Prop} {w : World} {x : AV} {v : Value} : NCell Sl w x v ↔ PCell F0 Sl w x v := by
  cases x <;> simp only [NCell, PCell, PRows]
  rename_i o c E xs
  cases o <;> simp [F0]

theorem NCells_iff {Sl : Nat → Prop} {w : World} : ∀ {cs : List AV} {b k : Nat}, NCells Sl w cs b k ↔ PCells F0 Sl w cs b k
  | [], _, _ => by simp [NCells, PCells]
  | c :: cs, b, k => by simp only [NCells, PCells, NCell_iff, NCells_iff]

/-- an element's cells -/
def PElem (S Sl : Nat → Prop) (w : World) (E : Nat) (x : AV) (b off : Nat) : Prop := (cells x).length = E ∧ PCells S Sl w (cells x) b off

theorem PRows_nil {S Sl : Nat → Prop} {w : World} {E : Nat} {b off : Nat} : PRows S Sl w E [] b off := by simp [PRows, NRows]

theorem PRows_cons {S Sl : Nat → Prop} {w : World} {E : Nat} {x : AV} {xs : List AV} {b off : Nat} :
    PRows S Sl w E (x :: xs) b off ↔ PElem F0 Sl w E x b off ∧ PRows S Sl w E xs b (off + E) := by
  cases x <;> simp [PRows, NRows, PElem, cells, PCells, NCells_iff, NCell_iff, and_assoc, eq_comm]

section mono
variable {S Sl S' Sl' : Nat → Prop} {w w' : World}
mutual
theorem NCell.mono (h2 : ∀ b, Sl b → Sl' b) (h3 : ∀ b, Sl b → w'.heap[b]? = w.heap[b]?) :
    ∀ (x : AV) (v : Value), NCell Sl w x v → NCell Sl' w' x v
  | .int _ _, _, h | .bool _, _, h | .str _, _, h | .nil, _, h | .iface0, _, h => by simpa [NCell] using h
  | .lst o c E xs, v, h => by
    simp only [NCell] at h ⊢
    obtain ⟨A, cap, rfl, hc, hcc, hx⟩ := h
    refine ⟨A, cap, rfl, hc, hcc, ?_⟩
    rcases hx with hx | ⟨b, off, hA, hS, hR⟩
    · exact .inl hx
    · exact .inr ⟨b, off, hA, ⟨hS.1, h2 _ hS.2⟩, NRows.mono h2 h3 E xs b off (h3 b hS.2) hR⟩
  | .top, _, h | .frs _ _, _, h | .own _ _ _ _, _, h | .ptr _ _ _ _, _, h | .at _ _, _, h | .fn _ _ _, _, h | .agg _, _, h | .tup _, _, h => by simp [NCell] at h
theorem NRows.mono (h2 : ∀ b, Sl b → Sl' b) (h3 : ∀ b, Sl b → w'.heap[b]? = w.heap[b]?) :
    ∀ (E : Nat) (xs : List AV) (b off : Nat), w'.heap[b]? = w.heap[b]? → NRows Sl w E xs b off → NRows Sl' w' E xs b off
  | _, [], _, _, _, _ => by simp [NRows]
  | E, x :: xs, b, off, hb, h => by
    have ih := NRows.mono h2 h3 E xs b (off + E) hb
    cases x with
    | agg cs =>
      simp only [NRows] at h ⊢
      exact ⟨h.1, NCells.mono h2 h3 cs b off hb h.2.1, ih h.2.2⟩
    | lst o c E' ys =>
      simp only [NRows] at h ⊢
      obtain ⟨he, ⟨v, hv, hp⟩, hr⟩ := h
      exact ⟨he, ⟨v, by simpa [World.cell?, hb] using hv, NCell.mono h2 h3 (.lst o c E' ys) v hp⟩, ih hr⟩
    | _ =>
      simp only [NRows, NCell] at h ⊢
      obtain ⟨he, ⟨v, hv, hp⟩, hr⟩ := h
      exact ⟨he, ⟨v, by simpa [World.cell?, hb] using hv, hp⟩, ih hr⟩
theorem NCells.mono (h2 : ∀ b, Sl b → Sl' b) (h3 : ∀ b, Sl b → w'.heap[b]? = w.heap[b]?) :
    ∀ (cs : List AV) (b off : Nat), w'.heap[b]? = w.heap[b]? → NCells Sl w cs b off → NCells Sl' w' cs b off
  | [], _, _, _, _ => by simp [NCells]
  | c :: cs, b, off, hb, h => by
    simp only [NCells] at h ⊢
    obtain ⟨⟨v, hv, hp⟩, hr⟩ := h
    exact ⟨⟨v, by simpa [World.cell?, hb] using hv, NCell.mono h2 h3 c v hp⟩, NCells.mono h2 h3 cs b _ hb hr⟩
end

theorem PRows.mono' (h2 : ∀ b, Sl b → Sl' b) (h3 : ∀ b, Sl b → w'.heap[b]? = w.heap[b]?) {E : Nat} {xs : List AV} {b off : Nat} (hb : w'.heap[b]? = w.heap[b]?) (h : PRows S Sl w E xs b off) : PRows S' Sl' w' E xs b off :=
  NRows.mono h2 h3 E xs b off hb h

theorem PCell.mono (h1 : ∀ b, S b → S' b) (h2 : ∀ b, Sl b → Sl' b) (h3 : ∀ b, S b → w'.heap[b]? = w.heap[b]?) (h4 : ∀ b, Sl b → S b)
    (x : AV) (v : Value) (h : PCell S Sl w x v) : PCell S' Sl' w' x v := by
  cases x with
  | lst o c E xs =>
    simp only [PCell] at h ⊢
    obtain ⟨A, cap, rfl, hc, hcc, hx⟩ := h
    refine ⟨A, cap, rfl, hc, hcc, ?_⟩
    rcases hx with hx | ⟨b, off, hA, hS, hR⟩
    · exact .inl hx
    · have hSb : S b := by cases o <;> simp_all
      exact .inr ⟨b, off, hA, by cases o <;> simp_all, hR.mono' h2 (fun b h => h3 b (h4 b h)) (h3 b hSb)⟩
  | _ => simpa [PCell] using h

theorem PRows.mono (h1 : ∀ b, S b → S' b) (h2 : ∀ b, Sl b → Sl' b) (h3 : ∀ b, S b → w'.heap[b]? = w.heap[b]?) (h4 : ∀ b, Sl b → S b)
    (E : Nat) (xs : List AV) (b off : Nat) (hb : w'.heap[b]? = w.heap[b]?) (h : PRows S Sl w E xs b off) : PRows S' Sl' w' E xs b off :=
  h.mono' h2 (fun b h => h3 b (h4 b h)) hb

theorem PCells.mono (h1 : ∀ b, S b → S' b) (h2 : ∀ b, Sl b → Sl' b) (h3 : ∀ b, S b → w'.heap[b]? = w.heap[b]?) (h4 : ∀ b, Sl b → S b) :
    ∀ (cs : List AV) (b off : Nat), w'.heap[b]? = w.heap[b]? → PCells S Sl w cs b off → PCells S' Sl' w' cs b off
  | [], _, _, _, _ => by simp [PCells]
  | c :: cs, b, off, hb, h => by
    simp only [PCells] at h ⊢
    obtain ⟨⟨v, hv, hp⟩, hr⟩ := h
    exact ⟨⟨v, by simpa [World.cell?, hb] using hv, PCell.mono h1 h2 h3 h4 c v hp⟩, PCells.mono h1 h2 h3 h4 cs b _ hb hr⟩

theorem PCell.weak (x : AV) (v : Value) (h : PCell F0 Sl w x v) : PCell S Sl w x v := by
  cases x with
  | lst o c E xs =>
    simp only [PCell] at h ⊢
    obtain ⟨A, cap, rfl, hc, hcc, hx⟩ := h
    refine ⟨A, cap, rfl, hc, hcc, hx.imp id ?_⟩
    rintro ⟨b, off, hA, hS, hR⟩
    exact ⟨b, off, hA, by cases o <;> simp_all [F0], hR⟩
  | _ => simpa [PCell] using h
theorem PCells.weak : ∀ (cs : List AV) (b off : Nat), PCells F0 Sl w cs b off → PCells S Sl w cs b off
  | [], _, _, _ => by simp [PCells]
  | c :: cs, b, off, h => by
    simp only [PCells] at h ⊢
    obtain ⟨⟨v, hv, hp⟩, hr⟩ := h
    exact ⟨⟨v, hv, hp.weak⟩, hr.weak⟩
end mono

/-- the ghost side: where the tokens lie; the blocks that stay as they are; those of them that are no argument's -/
structure G where
  dom : Nat → Prop
  ρ : Nat → Option (Nat × Nat)
  S : Nat → Prop
  Sl : Nat → Prop

def All2 (R : AV → Value → Prop) : List AV → List Value → Prop
  | [], [] => True
  | x :: xs, v :: vs => R x v ∧ All2 R xs vs
  | _, _ => False

/-- a block that is no string's -/
def Unf (w : World) (b n : Nat) : Prop := ∃ (cs : Array Value) (el : TypeId), w.heap[b]? = some (Obj.cells cs el (0, 0)) ∧ n ≤ cs.size

def LenOk (H : List Blk) (τ l : Nat) : Prop := ∀ m E xs, H[τ]? = some (.rows m E xs) → m ≠ .dead → l = xs.length

def CapOk (H : List Blk) (τ n : Nat) : Prop := ∀ m E xs, H[τ]? = some (.rows m E xs) → m ≠ .dead → xs.length ≤ n

def LeOk (H : List Blk) (τ n : Nat) : Prop := ∀ m E xs, H[τ]? = some (.rows m E xs) → m ≠ .dead → n ≤ xs.length

def V1 (g : G) (H : List Blk) (w : World) : AV → Value → Prop
  | .own τ E r c, v => g.dom τ ∧ (match g.ρ τ with
      | none => (∃ A, v = .slice A 0 0) ∧ (match r with | none => LenOk H τ 0 | some (o, l) => o = 0 ∧ l = 0)
      | some (b, base) => ∃ (k o l cap : Nat), v = .slice (some ⟨b, k, none⟩) l cap ∧ (k = base + o * E ∨ cap = 0) ∧ l ≤ cap ∧ (c = true → cap = l) ∧ (c = false → CapOk H τ (o + cap)) ∧
          Unf w b (base + (o + cap) * E) ∧ (match r with | none => o = 0 ∧ LenOk H τ l | some (o', l') => o' = (o : Int) ∧ l' = (l : Int) ∧ LeOk H τ (o + l)))
  | .ptr τ i o E, v => g.dom τ ∧ (∀ y, H[τ]? = some (.box y) → i = 0) ∧ ∃ b base n : Nat, g.ρ τ = some (b, base) ∧ i = (n : Int) ∧ v = .pointer (some ⟨b, base + n * E + o, none⟩)
  | .at x o, v => ∃ b off, v = .pointer (some ⟨b, off + o, none⟩) ∧ g.S b ∧ PElem g.S g.Sl w (cells x).length x b off
  | x, v => PCell g.S g.Sl w x v

def V2 (g : G) (H : List Blk) (w : World) : AV → Value → Prop
  | .agg cs, v => ∃ vs, v = .agg ⟨vs⟩ ∧ All2 (V1 g H w) cs vs
  | x, v => V1 g H w x v

def V3 (g : G) (H : List Blk) (w : World) : AV → Value → Prop
  | .fn f a c, v => ∃ av cv, v = .func (.func f) ⟨av⟩ ⟨cv⟩ ∧ All2 (V2 g H w) a av ∧ All2 (V2 g H w) c cv
  | .tup vs, v => ∃ ws, v = .tuple ⟨ws⟩ ∧ All2 (V2 g H w) vs ws
  | .top, _ => True
  | x, v => V2 g H w x v

def V1s (g : G) (H : List Blk) (w : World) : List AV → Nat → Nat → Prop
  | [], _, _ => True
  | c :: cs, b, off => (∃ v, w.cell? ⟨b, off, none⟩ = some v ∧ V1 g H w c v) ∧ V1s g H w cs b (off + 1)

def Blk.owned : Blk → Prop
  | .box _ => True
  | .rows .live _ _ => True
  | _ => False

def owned (H : List Blk) (τ : Nat) : Prop := ∃ blk, H[τ]? = some blk ∧ blk.owned

def BlkRel (g : G) (H : List Blk) (w : World) (τ : Nat) : Blk → Prop
  | .box v => ∃ b o, g.ρ τ = some (b, o) ∧ ¬ g.S b ∧ Unf w b 0 ∧ V1s g H w (cells v) b o
  | .rows .live E xs => (g.ρ τ = none ∧ xs = []) ∨ ∃ b o, g.ρ τ = some (b, o) ∧ ¬ g.S b ∧ Unf w b 0 ∧ PRows g.S g.Sl w E xs b o
  | .rows .frozen E xs => (g.ρ τ = none ∧ xs = []) ∨ ∃ b o, g.ρ τ = some (b, o) ∧ g.Sl b ∧ Unf w b 0 ∧ PRows g.S g.Sl w E xs b o
  | .rows .dead _ _ => True

structure Good (g : G) (H : List Blk) (w : World) : Prop where
  sub : ∀ b, g.Sl b → g.S b
  lt : ∀ b, g.S b → b < w.heap.size
  tok : ∀ τ, g.dom τ → ∃ blk, H[τ]? = some blk ∧ BlkRel g H w τ blk
  inj : ∀ τ τ' b o o', g.dom τ → g.dom τ' → g.ρ τ = some (b, o) → g.ρ τ' = some (b, o') → owned H τ → owned H τ' → τ = τ'

/-- block b is that of an owned token -/
def Own (g : G) (H : List Blk) (b : Nat) : Prop := ∃ τ o, g.dom τ ∧ g.ρ τ = some (b, o) ∧ owned H τ

def Shape (w w' : World) : Prop := ∀ (b : Nat) (cs : Array Value) (el : TypeId) (fr : Nat × Nat), w.heap[b]? = some (Obj.cells cs el fr) → ∃ cs' : Array Value, w'.heap[b]? = some (Obj.cells cs' el fr) ∧ cs'.size = cs.size

/-- the streams are as they were -/
def Env (w w' : World) : Prop := w'.os = w.os ∧ w'.output = w.output ∧ w'.tape = w.tape
theorem Env.refl (w : World) : Env w w := ⟨rfl, rfl, rfl⟩
theorem Env.trans {a b c : World} (h : Env a b) (h' : Env b c) : Env a c := ⟨h'.1.trans h.1, h'.2.1.trans h.2.1, h'.2.2.trans h.2.2⟩

structure Trans (g : G) (H : List Blk) (w : World) (g' : G) (H' : List Blk) (w' : World) : Prop where
  dom : ∀ τ, g.dom τ → g'.dom τ
  ρ : ∀ τ, g.dom τ → g'.ρ τ = g.ρ τ
  S : ∀ b, g.S b → g'.S b
  Sl : ∀ b, g.Sl b → g'.Sl b
  newS : ∀ b, g'.S b → g.S b ∨ w.heap.size ≤ b ∨ Own g H b
  newSl : ∀ b, g'.Sl b → g.Sl b ∨ w.heap.size ≤ b ∨ Own g H b
  size : w.heap.size ≤ w'.heap.size
  shape : Shape w w'
  env : Env w w'
  prot : ∀ b, b < w.heap.size → ¬ Own g H b → w'.heap[b]? = w.heap[b]?
  own : ∀ b, Own g' H' b → w.heap.size ≤ b ∨ Own g H b
  len : ∀ τ, g.dom τ → ∀ m' E' xs', H'[τ]? = some (.rows m' E' xs') → m' ≠ .dead → ∃ m xs, H[τ]? = some (.rows m E' xs) ∧ m ≠ .dead ∧ xs.length = xs'.length
  box : ∀ τ, g.dom τ → ∀ y', H'[τ]? = some (.box y') → ∃ y, H[τ]? = some (.box y)

theorem Shape.refl (w : World) : Shape w w := fun _ cs _ _ h => ⟨cs, h, rfl⟩
theorem Shape.trans {a b c : World} (h : Shape a b) (h' : Shape b c) : Shape a c := fun k cs el fr hk =>
  let ⟨cs', h1, h2⟩ := h k cs el fr hk
  let ⟨cs'', h3, h4⟩ := h' k cs' el fr h1
  ⟨cs'', h3, h4.trans h2⟩

theorem Unf.mono {w w' : World} {b n : Nat} (hs : Shape w w') (h : Unf w b n) : Unf w' b n := by
  obtain ⟨cs, el, h, hn⟩ := h
  obtain ⟨cs', h', hs'⟩ := hs _ _ _ _ h
  exact ⟨cs', el, h', by omega⟩
theorem Unf.le {w : World} {b n m : Nat} (h : Unf w b n) (hm : m ≤ n) : Unf w b m := by
  obtain ⟨cs, el, h, hn⟩ := h
  exact ⟨cs, el, h, by omega⟩
theorem Unf.lt {w : World} {b n : Nat} (h : Unf w b n) : b < w.heap.size := by
  obtain ⟨cs, el, h, _⟩ := h
  rcases Nat.lt_or_ge b w.heap.size with h' | h'
  · exact h'
  · simp [Array.getElem?_eq_none h'] at h
theorem Unf.frozen {w : World} {b n k : Nat} (h : Unf w b n) : w.frozen? ⟨b, k, none⟩ = false := by
  obtain ⟨cs, el, h, _⟩ := h
  simp [World.frozen?, h]
theorem Unf.cell {w : World} {b n k : Nat} (h : Unf w b n) (hk : k < n) : ∃ v, w.cell? ⟨b, k, none⟩ = some v := by
  obtain ⟨cs, el, h, hn⟩ := h
  exact ⟨cs[k]'(by omega), by simp [World.cell?, h]⟩

theorem Own.notS {g : G} {H : List Blk} {w : World} (hg : Good g H w) {b : Nat} (h : Own g H b) : ¬ g.S b := by
  obtain ⟨τ, o, hd, hρ, blk, hb, ho⟩ := h
  obtain ⟨blk', hb', hr⟩ := hg.tok τ hd
  obtain rfl : blk = blk' := by rw [hb] at hb'; exact Option.some.inj hb'
  cases blk with
  | box v => obtain ⟨b', o', hρ', hS, _⟩ := hr; rw [hρ] at hρ'; cases hρ'; exact hS
  | rows m E xs =>
    cases m with
    | live =>
      rcases hr with ⟨h0, _⟩ | ⟨b', o', hρ', hS, _⟩
      · rw [hρ] at h0; cases h0
      · rw [hρ] at hρ'; cases hρ'; exact hS
    | frozen => exact ho.elim
    | dead => exact ho.elim

theorem Own.lt {g : G} {H : List Blk} {w : World} (hg : Good g H w) {b : Nat} (h : Own g H b) : b < w.heap.size := by
  obtain ⟨τ, o, hd, hρ, blk, hb, ho⟩ := h
  obtain ⟨blk', hb', hr⟩ := hg.tok τ hd
  obtain rfl : blk = blk' := by rw [hb] at hb'; exact Option.some.inj hb'
  cases blk with
  | box v => obtain ⟨b', o', hρ', hS, hu, _⟩ := hr; rw [hρ] at hρ'; cases hρ'; exact hu.lt
  | rows m E xs =>
    cases m with
    | live =>
      rcases hr with ⟨h0, _⟩ | ⟨b', o', hρ', hS, hu, _⟩
      · rw [hρ] at h0; cases h0
      · rw [hρ] at hρ'; cases hρ'; exact hu.lt
    | frozen => exact ho.elim
    | dead => exact ho.elim

theorem Trans.refl (g : G) (H : List Blk) (w : World) : Trans g H w g H w where
  dom _ h := h
  ρ _ _ := rfl
  S _ h := h
  Sl _ h := h
  newS _ h := .inl h
  newSl _ h := .inl h
  size := Nat.le_refl _
  shape := .refl w
  env := .refl w
  prot _ _ _ := rfl
  own _ h := .inr h
  len τ _ m E xs h hm := ⟨m, xs, h, hm, rfl⟩
  box τ _ y h := ⟨y, h⟩

theorem Trans.trans {g g' g'' : G} {H H' H'' : List Blk} {w w' w'' : World} (h : Trans g H w g' H' w') (h' : Trans g' H' w' g'' H'' w'') : Trans g H w g'' H'' w'' where
  dom τ hd := h'.dom τ (h.dom τ hd)
  ρ τ hd := (h'.ρ τ (h.dom τ hd)).trans (h.ρ τ hd)
  S b hb := h'.S b (h.S b hb)
  Sl b hb := h'.Sl b (h.Sl b hb)
  newS b hb := by
    rcases h'.newS b hb with h1 | h1 | h1
    · exact h.newS b h1
    · exact .inr (.inl (Nat.le_trans h.size h1))
    · exact .inr (h.own b h1)
  newSl b hb := by
    rcases h'.newSl b hb with h1 | h1 | h1
    · exact h.newSl b h1
    · exact .inr (.inl (Nat.le_trans h.size h1))
    · exact .inr (h.own b h1)
  size := Nat.le_trans h.size h'.size
  shape := h.shape.trans h'.shape
  env := h.env.trans h'.env
  prot b hb ho := by
    rw [h'.prot b (Nat.lt_of_lt_of_le hb h.size) fun h1 => ?_, h.prot b hb ho]
    rcases h.own b h1 with h2 | h2
    · omega
    · exact ho h2
  own b hb := by
    rcases h'.own b hb with h1 | h1
    · exact .inl (Nat.le_trans h.size h1)
    · exact h.own b h1
  len τ hd m E xs hx hm := by
    obtain ⟨m1, xs1, h1, hm1, hl1⟩ := h'.len τ (h.dom τ hd) m E xs hx hm
    obtain ⟨m2, xs2, h2, hm2, hl2⟩ := h.len τ hd m1 E xs1 h1 hm1
    exact ⟨m2, xs2, h2, hm2, hl2.trans hl1⟩
  box τ hd y hy := by
    obtain ⟨y1, h1⟩ := h'.box τ (h.dom τ hd) y hy
    exact h.box τ hd y1 h1

section
variable {g g' : G} {H H' : List Blk} {w w' : World}

theorem Trans.keepS (ht : Trans g H w g' H' w') (hg : Good g H w) (b : Nat) (hb : g.S b) : w'.heap[b]? = w.heap[b]? :=
  ht.prot b (hg.lt b hb) fun h => h.notS hg hb

theorem PCell.trans (ht : Trans g H w g' H' w') (hg : Good g H w) {x : AV} {v : Value} (h : PCell g.S g.Sl w x v) : PCell g'.S g'.Sl w' x v :=
  h.mono ht.S ht.Sl (ht.keepS hg) hg.sub
theorem PCells.trans (ht : Trans g H w g' H' w') (hg : Good g H w) {cs : List AV} {b o : Nat} (hb : w'.heap[b]? = w.heap[b]?) (h : PCells g.S g.Sl w cs b o) : PCells g'.S g'.Sl w' cs b o :=
  h.mono ht.S ht.Sl (ht.keepS hg) hg.sub cs b o hb
theorem PRows.trans (ht : Trans g H w g' H' w') (hg : Good g H w) {E : Nat} {xs : List AV} {b o : Nat} (hb : w'.heap[b]? = w.heap[b]?) (h : PRows g.S g.Sl w E xs b o) : PRows g'.S g'.Sl w' E xs b o :=
  h.mono ht.S ht.Sl (ht.keepS hg) hg.sub E xs b o hb

def PC (g : G) (w : World) (x : AV) (v : Value) : Prop := PCell F0 g.Sl w x v

theorem PC.trans (ht : Trans g H w g' H' w') (hg : Good g H w) {x : AV} {v : Value} (h : PC g w x v) : PC g' w' x v :=
  NCell_iff.1 (NCell.mono ht.Sl (fun b hb => ht.keepS hg b (hg.sub b hb)) x v (NCell_iff.2 h))

theorem PC.weak {x : AV} {v : Value} (h : PC g w x v) : PCell g.S g.Sl w x v := PCell.weak x v h

theorem LenOk.trans (ht : Trans g H w g' H' w') {τ l : Nat} (hd : g.dom τ) (h : LenOk H τ l) : LenOk H' τ l := by
  intro m E xs hx hm
  obtain ⟨m1, xs1, h1, hm1, hl⟩ := ht.len τ hd m E xs hx hm
  rw [h m1 E xs1 h1 hm1, hl]

theorem CapOk.trans (ht : Trans g H w g' H' w') {τ n : Nat} (hd : g.dom τ) (h : CapOk H τ n) : CapOk H' τ n := by
  intro m E xs hx hm
  obtain ⟨m1, xs1, h1, hm1, hl⟩ := ht.len τ hd m E xs hx hm
  have := h m1 E xs1 h1 hm1
  omega

theorem LeOk.trans (ht : Trans g H w g' H' w') {τ n : Nat} (hd : g.dom τ) (h : LeOk H τ n) : LeOk H' τ n := by
  intro m E xs hx hm
  obtain ⟨m1, xs1, h1, hm1, hl⟩ := ht.len τ hd m E xs hx hm
  have := h m1 E xs1 h1 hm1
  omega

theorem V1.trans (ht : Trans g H w g' H' w') (hg : Good g H w) {x : AV} {v : Value} (h : V1 g H w x v) : V1 g' H' w' x v := by
  cases x with
  | own τ E r c =>
    obtain ⟨hd, h⟩ := h
    refine ⟨ht.dom τ hd, ?_⟩
    rw [ht.ρ τ hd]
    cases hρ : g.ρ τ with
    | none =>
      rw [hρ] at h
      refine ⟨h.1, ?_⟩
      cases r with
      | none => exact LenOk.trans ht hd h.2
      | some r => exact h.2
    | some p =>
      rw [hρ] at h
      obtain ⟨k, o, l, cap, rfl, h0, h1, h2, h5, h3, h4⟩ := h
      refine ⟨k, o, l, cap, rfl, h0, h1, h2, fun e => CapOk.trans ht hd (h5 e), h3.mono ht.shape, ?_⟩
      cases r with
      | none => exact ⟨h4.1, LenOk.trans ht hd h4.2⟩
      | some r => exact ⟨h4.1, h4.2.1, LeOk.trans ht hd h4.2.2⟩
  | ptr τ i o E =>
    obtain ⟨hd, hz, b, base, n, hρ, rfl, rfl⟩ := h
    exact ⟨ht.dom τ hd, fun y hy => (ht.box τ hd y hy).elim fun y h => hz y h, b, base, n, (ht.ρ τ hd).trans hρ, rfl, rfl⟩
  | «at» x o =>
    obtain ⟨b, off, rfl, hS, h⟩ := h
    exact ⟨b, off, rfl, ht.S b hS, h.1, h.2.trans ht hg (ht.keepS hg b hS)⟩
  | _ => simp only [V1] at h ⊢; exact PCell.trans ht hg h

theorem All2.imp {R R' : AV → Value → Prop} (h : ∀ x v, R x v → R' x v) : ∀ {xs : List AV} {vs : List Value}, All2 R xs vs → All2 R' xs vs
  | [], [], _ => trivial
  | x :: xs, v :: vs, hh => ⟨h x v hh.1, All2.imp h hh.2⟩
  | [], _ :: _, hh => hh.elim
  | _ :: _, [], hh => hh.elim

theorem V2.trans (ht : Trans g H w g' H' w') (hg : Good g H w) {x : AV} {v : Value} (h : V2 g H w x v) : V2 g' H' w' x v := by
  cases x with
  | agg cs => obtain ⟨vs, rfl, h⟩ := h; exact ⟨vs, rfl, h.imp fun _ _ h => h.trans ht hg⟩
  | _ => simp only [V2] at h ⊢; exact V1.trans ht hg h

theorem V3.trans (ht : Trans g H w g' H' w') (hg : Good g H w) {x : AV} {v : Value} (h : V3 g H w x v) : V3 g' H' w' x v := by
  cases x with
  | top => trivial
  | fn f a c => obtain ⟨av, cv, rfl, h1, h2⟩ := h; exact ⟨av, cv, rfl, h1.imp fun _ _ h => h.trans ht hg, h2.imp fun _ _ h => h.trans ht hg⟩
  | tup vs => obtain ⟨ws, rfl, h⟩ := h; exact ⟨ws, rfl, h.imp fun _ _ h => h.trans ht hg⟩
  | _ => simp only [V3] at h ⊢; exact V2.trans ht hg h

theorem V1s.trans (ht : Trans g H w g' H' w') (hg : Good g H w) {b : Nat} (hb : w'.heap[b]? = w.heap[b]?) : ∀ {cs : List AV} {o : Nat}, V1s g H w cs b o → V1s g' H' w' cs b o
  | [], _, _ => trivial
  | _ :: _, _, ⟨⟨v, hv, h⟩, hr⟩ => ⟨⟨v, by simpa [World.cell?, hb] using hv, h.trans ht hg⟩, hr.trans ht hg hb⟩
end
end Go.AM
