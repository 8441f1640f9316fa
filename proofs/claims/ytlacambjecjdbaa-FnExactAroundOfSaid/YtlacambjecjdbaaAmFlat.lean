import Derived.Test.YtlacambjecjdbaaAmFz
import Derived.Laws.CopyRow
import Derived.Laws.Append
import Derived.Laws.Tables
set_option linter.unusedVariables false
set_option linter.unusedSimpArgs false
set_option linter.unnecessarySimpa false
/-! Rows as a flat list of cells; laying parts into cells. -/
namespace Go.AM

section
variable {P : Program} {T : TypeId → Option TI} {o : Oper} {tm : List AV} {hp : List Blk} {κ : AV → List Blk → R} {r : AV × List Blk}

/-- the rows `xs` are these cells -/
def PFlat (g : G) (w : World) (E : Nat) : List AV → List Value → Prop
  | [], vs => vs = []
  | x :: xs, vs => ∃ r vs', vs = r ++ vs' ∧ (cells x).length = E ∧ All2 (PC g w) (cells x) r ∧ PFlat g w E xs vs'

theorem PFlat.len {g : G} {w : World} {E : Nat} : ∀ {xs : List AV} {vs : List Value}, PFlat g w E xs vs → vs.length = xs.length * E
  | [], vs, h => by simp only [PFlat] at h; subst h; simp
  | x :: xs, vs, ⟨r, vs', e, h1, h2, h3⟩ => by
    subst e
    rw [List.length_append, h3.len, ← All2_len h2, h1]
    simp [Nat.succ_mul, Nat.add_comm]

theorem PFlat.append {g : G} {w : World} {E : Nat} : ∀ {xs ys : List AV} {vs us : List Value}, PFlat g w E xs vs → PFlat g w E ys us → PFlat g w E (xs ++ ys) (vs ++ us)
  | [], ys, vs, us, h, h' => by simp only [PFlat] at h; subst h; simpa using h'
  | x :: xs, ys, vs, us, ⟨r, vs', e, h1, h2, h3⟩, h' => ⟨r, vs' ++ us, by subst e; simp, h1, h2, h3.append h'⟩

theorem PFlat.trans {g g' : G} {H H' : List Blk} {w w' : World} (ht : Trans g H w g' H' w') (hg : Good g H w) {E : Nat} : ∀ {xs : List AV} {vs : List Value}, PFlat g w E xs vs → PFlat g' w' E xs vs
  | [], vs, h => h
  | x :: xs, vs, ⟨r, vs', e, h1, h2, h3⟩ => ⟨r, vs', e, h1, h2.imp fun _ _ h => PC.trans ht hg h, h3.trans ht hg⟩

theorem PCells_of {g : G} {w : World} : ∀ {cs : List AV} {vs : List Value} {b k : Nat}, All2 (PC g w) cs vs → (∀ (j : Nat) v, vs[j]? = some v → w.cell? ⟨b, k + j, none⟩ = some v) → PCells F0 g.Sl w cs b k
  | [], _, _, _, _, _ => by simp [PCells]
  | x :: xs, v :: vs, b, k, h, hc => by
    simp only [PCells]
    refine ⟨⟨v, by simpa using hc 0 v rfl, h.1⟩, PCells_of h.2 fun j u hj => ?_⟩
    have := hc (j + 1) u (by simpa using hj)
    rwa [show k + (j + 1) = k + 1 + j by omega] at this
  | _ :: _, [], _, _, h, _ => h.elim

theorem PFlat.rows {g : G} {w : World} {E b : Nat} : ∀ {xs : List AV} {vs : List Value} {k : Nat}, PFlat g w E xs vs → (∀ (j : Nat) v, vs[j]? = some v → w.cell? ⟨b, k + j, none⟩ = some v) → PRows g.S g.Sl w E xs b k
  | [], _, _, _, _ => PRows_nil
  | x :: xs, vs, k, ⟨r, vs', e, h1, h2, h3⟩, hc => by
    subst e
    refine PRows_cons.2 ⟨⟨h1, PCells_of h2 fun j v hj => hc j v ?_⟩, h3.rows fun j v hj => ?_⟩
    · rw [List.getElem?_append_left (List.getElem?_eq_some_iff.1 hj).1]; exact hj
    · have := hc (r.length + j) v (by rw [List.getElem?_append_right (by omega)]; simpa using hj)
      rw [show k + E + j = k + (r.length + j) by rw [← All2_len h2, h1]; omega]
      exact this

theorem PCells_vals {S Sl : Nat → Prop} {w : World} : ∀ {cs : List AV} {b k : Nat}, PCells S Sl w cs b k → ∃ vs : List Value, All2 (PCell S Sl w) cs vs ∧ ∀ (j : Nat) v, vs[j]? = some v → w.cell? ⟨b, k + j, none⟩ = some v
  | [], _, _, _ => ⟨[], trivial, fun j v h => by simp at h⟩
  | c :: cs, b, k, h => by
    simp only [PCells] at h
    obtain ⟨⟨v, hv, h⟩, hr⟩ := h
    obtain ⟨vs, h1, h3⟩ := PCells_vals hr
    refine ⟨v :: vs, ⟨h, h1⟩, fun j u hj => ?_⟩
    cases j with
    | zero => simp at hj; subst hj; simpa using hv
    | succ j => rw [show k + (j + 1) = k + 1 + j by omega]; exact h3 j u (by simpa using hj)

theorem PFlat_of {g : G} {w : World} {E b : Nat} : ∀ {xs : List AV} {k : Nat}, PRows g.S g.Sl w E xs b k → ∃ vs, PFlat g w E xs vs ∧ ∀ (j : Nat) v, vs[j]? = some v → w.cell? ⟨b, k + j, none⟩ = some v
  | [], _, _ => ⟨[], rfl, fun j v h => by simp at h⟩
  | x :: xs, k, h => by
    obtain ⟨⟨h1, h2⟩, h3⟩ := PRows_cons.1 h
    obtain ⟨r, h4, h5⟩ := PCells_vals h2
    obtain ⟨vs, h6, h7⟩ := PFlat_of h3
    refine ⟨r ++ vs, ⟨r, vs, rfl, h1, h4, h6⟩, fun j v hj => ?_⟩
    by_cases hl : j < r.length
    · rw [List.getElem?_append_left hl] at hj; exact h5 j v hj
    · rw [List.getElem?_append_right (by omega)] at hj
      have := h7 (j - r.length) v hj
      rw [show k + E + (j - r.length) = k + j by rw [← h1, All2_len h4]; omega] at this
      exact this

theorem PFlat.oneCell {g : G} {w : World} {E : Nat} : ∀ {xs : List AV} {vs : List Value}, PFlat g w E xs vs → ∀ v ∈ vs, v.oneCell' = true
  | [], vs, h, v, hv => by simp only [PFlat] at h; subst h; cases hv
  | x :: xs, vs, ⟨r, vs', e, h1, h2, h3⟩, v, hv => by
    subst e
    replace hv := List.mem_append.1 hv
    rcases hv with hv | hv
    · clear h1 h3
      generalize cells x = cs at h2
      clear vs'
      induction cs generalizing r with
      | nil => cases r with
        | nil => cases hv
        | cons _ _ => exact h2.elim
      | cons c cs ih => cases r with
        | nil => cases hv
        | cons u us =>
          cases hv with
          | head => exact (V1_one (g := g) (H := []) (V1_of_PCell (PC.weak h2.1))).2
          | tail _ hv => exact ih us hv h2.2
    · exact h3.oneCell v hv

theorem PFlat.rep {g : G} {w : World} {E : Nat} {z : AV} {r : List Value} (h1 : (cells z).length = E) (h2 : All2 (PC g w) (cells z) r) : ∀ n : Nat, PFlat g w E (List.replicate n z) (List.replicate n r).flatten
  | 0 => by simp [PFlat]
  | n + 1 => by
    simp only [List.replicate_succ, List.flatten_cons]
    exact ⟨r, _, rfl, h1, h2, PFlat.rep h1 h2 n⟩

theorem PFlat.set {g : G} {w : World} {E : Nat} {z : AV} {rr : List Value} (h1 : (cells z).length = E) (h2 : All2 (PC g w) (cells z) rr) : ∀ {xs : List AV} {vs : List Value} {i : Nat}, PFlat g w E xs vs → i < xs.length →
    PFlat g w E (xs.set i z) (splice vs (i * E) rr)
  | [], _, _, _, h => by simp at h
  | x :: xs, vs, 0, ⟨r, vs', e, h3, h4, h5⟩, _ => by
    subst e
    refine ⟨rr, vs', ?_, h1, h2, h5⟩
    have : r.length = rr.length := by rw [← All2_len h4, ← All2_len h2, h1, h3]
    simp [splice, ← this]
  | x :: xs, vs, i + 1, ⟨r, vs', e, h3, h4, h5⟩, h => by
    subst e
    refine ⟨r, _, ?_, h3, h4, PFlat.set h1 h2 h5 (by simpa using h)⟩
    have hr : r.length = E := by rw [← All2_len h4, h3]
    simp only [splice]
    rw [Nat.succ_mul, ← hr, Nat.add_comm (i * r.length), List.take_length_add_append, Nat.add_assoc, List.drop_length_add_append]
    simp

theorem flat_rep {zero : Array Value} {n : Nat} (h : 0 < zero.size ∨ n = 0) : ((Array.range (n * zero.size)).map (zero[· % zero.size]!)).toList = (List.replicate n zero.toList).flatten := by
  rcases h with h | rfl
  · have key : ∀ n, ((List.range (n * zero.size)).map (fun i => zero[i % zero.size]!)) = (List.replicate n zero.toList).flatten := by
      intro n
      induction n with
      | zero => simp
      | succ n ih =>
        rw [Nat.succ_mul, List.range_add, List.map_append, ih, List.replicate_succ', List.flatten_append]
        congr 1
        simp only [List.map_map, List.flatten_cons, List.flatten_nil, List.append_nil]
        apply List.ext_getElem?
        intro j
        simp only [List.getElem?_map, Array.getElem?_toList]
        by_cases hj : j < zero.size
        · rw [List.getElem?_range hj]
          have : (n * zero.size + j) % zero.size = j := by
            rw [Nat.mul_comm, Nat.mul_add_mod, Nat.mod_eq_of_lt hj]
          simp [this, hj]
        · rw [List.getElem?_eq_none (by simp; omega), Array.getElem?_eq_none (by omega)]
          rfl
    rw [Array.toList_map, Array.toList_range]
    exact key n
  · simp

theorem foldl_lay : ∀ (vs : List Value) (off j : Nat) (cs : Array Value), off + j + vs.length ≤ cs.size →
    ((vs.zipIdx j).foldl (fun cs (c, j) => cs.setIfInBounds (off + j) c) cs).toList = splice cs.toList (off + j) vs
  | [], off, j, cs, _ => by simp [splice]
  | v :: vs, off, j, cs, h => by
    simp only [List.length_cons] at h
    rw [List.zipIdx_cons, List.foldl_cons, foldl_lay vs off (j + 1) _ (by simp; omega)]
    simp only [Array.toList_setIfInBounds, splice]
    have := list_seg_step cs.toList (off + j) v vs (by simp; omega)
    rw [show off + (j + 1) = off + j + 1 by omega]
    rw [this, List.length_cons]

theorem fill_one {place : Nat → Option (Nat × Nat)} {cs : Array Value} {i off size : Nat} {v : Value} {rest : List (Nat × Value)} (h : place i = some (off, size)) (h1 : v.cells.size = size) (h2 : off + v.cells.size ≤ cs.size) :
    Instr.fill place cs ((i, v) :: rest) = Instr.fill place (splice cs.toList off v.cells.toList).toArray rest := by
  have h3 := foldl_lay v.cells.toList off 0 cs (by simpa using h2)
  simp only [Nat.add_zero] at h3
  have h4 : ¬ (v.cells.size ≠ size ∨ off + v.cells.size > cs.size) := by omega
  simp only [Instr.fill, h]
  rw [← Array.foldl_toList, Array.toList_zipIdx]
  rw [if_neg (by simpa using h4)]
  congr 1
  apply Array.ext'
  simpa using h3
end
end Go.AM
