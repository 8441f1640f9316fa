import Derived.Test.YtlacambjecjdbaaAmSys
import Derived.Test.YtlacambjecjdbaaAmEnc
import Derived.DataReads
import Derived.ChangeArms
import Derived.ChangeSlices
import Derived.Below
set_option linter.unusedVariables false
set_option linter.unusedSimpArgs false
set_option linter.unnecessarySimpa false
/-! From the abstract functions to a law's row: what its arguments are as abstract values, what its call does to the world. -/
namespace Go.AM
open Go.RowKit

def findL {α : Type} : List (Nat × α) → Nat → Option α
  | [], _ => none
  | (a, x) :: l, t => bif Nat.beq a t then some x else findL l t

theorem findL_mem {α : Type} : ∀ {l : List (Nat × α)} {t : Nat} {x : α}, findL l t = some x → (t, x) ∈ l
  | [], _, _, h => by cases h
  | (a, y) :: l, t, x, h => by
    unfold findL at h
    cases hb : Nat.beq a t with
    | true =>
      rw [hb] at h
      have := Nat.eq_of_beq_eq_true hb
      subst this
      cases h
      exact List.mem_cons_self
    | false =>
      rw [hb] at h
      exact List.mem_cons_of_mem _ (findL_mem h)

def tiR (P : Program) : Nat × TI → Bool
  | (t, .mk s ag by_ z d) => tiB P t s ag by_ z d

theorem tOk_rows {P : Program} {rows : List (Nat × TI)} (h : rows.all (tiR P) = true) : TOk P (findL rows) := by
  intro t s ag by_ z d ht
  have := List.all_eq_true.1 h _ (findL_mem ht)
  exact tiB_ok this

def FOk (P : Program) (sh : FuncId → Bool) (keep : FuncId → Nat → List (Tmp × Nat)) (p : Nat × Func) : Prop := P.funcs[p.1]? = some p.2 ∧ bodyOk sh (keep p.1) p.2 = true ∧ entB p.2 = true

theorem fOk_nil {P : Program} {sh : FuncId → Bool} {keep : FuncId → Nat → List (Tmp × Nat)} : ∀ p ∈ ([] : List (Nat × Func)), FOk P sh keep p := fun _ h => by cases h
theorem fOk_cons {P : Program} {sh : FuncId → Bool} {keep : FuncId → Nat → List (Tmp × Nat)} {p : Nat × Func} {l : List (Nat × Func)} (h : FOk P sh keep p) (hl : ∀ p ∈ l, FOk P sh keep p) : ∀ q ∈ p :: l, FOk P sh keep q := by
  intro q hq
  rcases List.mem_cons.1 hq with rfl | hq
  · exact h
  · exact hl q hq

/-- the functions of a program, to a depth -/
noncomputable def callF (T : TypeId → Option TI) (F : FuncId → Option Func) (sh : FuncId → Bool) (keep : FuncId → Nat → List (Tmp × Nat)) (L n : Nat) : CF :=
  callN T F (fun _ _ _ => none) (fun _ => false) sh keep L n

theorem callF_sound {P : Program} {rT : List (Nat × TI)} {rF : List (Nat × Func)} {sh : FuncId → Bool} {keep : FuncId → Nat → List (Tmp × Nat)} (hT : rT.all (tiR P) = true) (hF : ∀ p ∈ rF, FOk P sh keep p) (hm : P.follows .mixedOrders = true) (L n : Nat) :
    CSound P (callF (findL rT) (findL rF) sh keep L n) :=
  callN_sound (tOk_rows hT) hm (fun f fn h => hF _ (findL_mem h)) (noX_sound fun _ => rfl) n

theorem callF_step {T : TypeId → Option TI} {F : FuncId → Option Func} {sh : FuncId → Bool} {keep : FuncId → Nat → List (Tmp × Nat)} {L n f : Nat} {fn : Func} (h : F f = some fn) (args : List AV) (hp : List Blk) :
    callF T F sh keep L (n + 1) f args hp = run T (callF T F sh keep L n) sh (keep f) L fn args hp := by
  simp only [callF, callN, h, cond_false]

/-- the world at the call of a law: all that there is stays -/
def gAll (w : World) : G := { dom := fun _ => False, ρ := fun _ => none, S := fun b => b < w.heap.size, Sl := fun b => b < w.heap.size }

theorem gAll_good (w : World) : Good (gAll w) [] w := ⟨fun _ h => h, fun _ h => h, fun _ h => h.elim, fun _ _ _ _ _ h => h.elim⟩

theorem law_calls {P : Program} {C : CF} (hC : CSound P C) {f : FuncId} {args : List AV} {b : Bool} (h : C f args [] = some (.bool b, [])) {w : World} {vs : List Value} (hv : All2 (V3 (gAll w) [] w) args vs) :
    Calls P f vs.toArray w fun e w' => e = .returned (.bool b) ∧ Below w.heap.size w w' := by
  obtain ⟨_, hc⟩ := hC f args [] _ _ h
  refine (hc (gAll w) w vs (gAll_good w) (fun τ => ⟨fun h => h.elim, fun h => by simp at h⟩) hv).mono fun e w' he => ?_
  obtain ⟨vv, g', rfl, ht, _, _, h3⟩ := he
  have hb : vv = .bool b := V3_bool.1 h3
  subst hb
  exact ⟨rfl, ht.env.1, ht.env.2.2, ht.env.2.1, ht.size, fun k hk => ht.prot k hk fun ⟨_, _, h, _⟩ => h⟩

section
variable {H : Type} {enc : TypeId × Value → H} {P : Program} {w : World} {spare : Nat → Bool} {held : Bool} {fuel : Nat}

def eA (c : List Int) : AV := .agg (c.map (.int .i64))

theorem nRows_of {Sl : Nat → Prop} {E b : Nat} : ∀ {xs : List (List Int)} {off : Nat}, (∀ (i : Nat) c, xs[i]? = some c → c.length = E ∧ ∀ (j : Nat) n, c[j]? = some n → w.cell? ⟨b, off + i * E + j, none⟩ = some (.int .i64 n)) →
    NRows Sl w E (xs.map eA) b off
  | [], _, _ => by simp [NRows]
  | c :: xs, off, h => by
    have hcell : ∀ {ns : List Int} {k : Nat}, (∀ (j : Nat) n, ns[j]? = some n → w.cell? ⟨b, k + j, none⟩ = some (.int .i64 n)) → NCells Sl w (ns.map (.int .i64)) b k := by
      intro ns
      induction ns with
      | nil => intro k _; simp [NCells]
      | cons n ns ih =>
        intro k hk
        simp only [List.map_cons, NCells]
        refine ⟨⟨.int .i64 n, by simpa using hk 0 n rfl, by simp [NCell]⟩, ih fun j m hj => ?_⟩
        rw [show k + 1 + j = k + (j + 1) by omega]
        exact hk (j + 1) m (by simpa using hj)
    obtain ⟨h1, h2⟩ := h 0 c rfl
    simp only [List.map_cons, eA, NRows]
    refine ⟨by simpa using h1, hcell (by simpa using h2), nRows_of fun i d hd => ?_⟩
    obtain ⟨h3, h4⟩ := h (i + 1) d (by simpa using hd)
    refine ⟨h3, fun j n hj => ?_⟩
    have := h4 j n hj
    rw [show off + E + i * E + j = off + (i + 1) * E + j by rw [Nat.add_mul]; omega]
    exact this

theorem nRowsI_of {Sl : Nat → Prop} {b : Nat} : ∀ {xs : List Int} {off : Nat}, (∀ (i : Nat) n, xs[i]? = some n → w.cell? ⟨b, off + i, none⟩ = some (.int .i64 n)) → NRows Sl w 1 (xs.map eI) b off
  | [], _, _ => by simp [NRows]
  | n :: xs, off, h => by
    simp only [List.map_cons, eI, NRows]
    refine ⟨trivial, ⟨.int .i64 n, by simpa using h 0 n rfl, by simp [NCell]⟩, nRowsI_of fun i m hm => ?_⟩
    rw [show off + 1 + i = off + (i + 1) by omega]
    exact h (i + 1) m (by simpa using hm)

/-- a type of slices of structs of so many whole numbers, as evaluation tells it -/
def structB (P : Program) (t e n : Nat) : Bool :=
  (match P.underlying t with | some (.slice e') => e' == e | _ => false) &&
  (match P.underlying e with
    | some (.struct fs) => fs.size == n && (List.range n).all fun i => match fs[i]? with
      | some f => f.offset == i && (match P.underlying f.type with | some (.int .i64) => true | _ => false) && P.cellsOf f.type == 1
      | none => false
    | _ => false) && P.cellsOf e == n && decide (0 < n)

theorem cell_spot {a : Addr} {v : Value} (h : w.cell? a = some v) : a = ⟨a.block, a.off, none⟩ ∧ a.block < w.heap.size := by
  obtain ⟨b, o, s⟩ := a
  unfold World.cell? at h
  split at h
  · rename_i c _ _ hb
    cases s with
    | none =>
      refine ⟨rfl, ?_⟩
      rcases Nat.lt_or_ge b w.heap.size with h' | h'
      · exact h'
      · simp [Array.getElem?_eq_none h'] at hb
    | some _ => simp at h
  · cases h

theorem open_structs {t e n : Nat} (hB : structB P t e n = true) {a : Option Addr} {len cap : Nat} {x : DataW H × List MemPlace} (h : DataW.trod enc P w 0 spare held fuel t [.slice a len cap] = some x) :
    ∃ xs : List (List Int), (∀ c ∈ xs, c.length = n ∧ ∀ m ∈ c, (Lit.int .i64 m).wf = true) ∧ ∀ g : G, (∀ b, b < w.heap.size → g.Sl b) → V3 g [] w (.lst false false n (xs.map eA)) (.slice a len cap) := by
  simp only [structB, Bool.and_eq_true, beq_iff_eq, decide_eq_true_eq] at hB
  obtain ⟨⟨⟨h1, h2⟩, h3⟩, hn⟩ := hB
  have ht : P.underlying t = some (.slice e) := by
    split at h1
    · rename_i e' he; rw [he]; simp at h1; rw [h1]
    · cases h1
  clear h1
  split at h2
  case h_2 => cases h2
  rename_i fs hfs
  simp only [Bool.and_eq_true, beq_iff_eq, List.all_eq_true, List.mem_range] at h2
  obtain ⟨hsz, hf⟩ := h2
  rcases DataW.trod_slice ht h with ⟨h0, _⟩ | ⟨a', len', cap', elems, rest, n', _, h0, _, _, hl, _, hlen, hel, _, _⟩
  · cases h0
    exact ⟨[], (fun c hc => by cases hc), fun g _ => ⟨none, 0, rfl, Nat.le_refl _, (fun h => by cases h), .inl rfl⟩⟩
  · cases h0
    have each : ∀ i, i < len → ∃ c : List Int, c.length = n ∧ (∀ m ∈ c, (Lit.int .i64 m).wf = true) ∧ ∀ (j : Nat) m, c[j]? = some m → w.cell? ((a'.add (i * n)).add j) = some (.int .i64 m) := by
      intro i hi
      have hy : elems[i]? = some (elems[i]'(by omega)) := List.getElem?_eq_getElem (by omega)
      have h4 := hel i hi
      rw [hy, h3] at h4
      obtain ⟨cs, hcs, htr⟩ := Option.bind_eq_some_iff.1 h4
      obtain ⟨_, hcl, hcell⟩ := World.cells?_some hcs
      obtain ⟨ys, _, _, _, _, hys, hfl⟩ := DataW.trod_struct hfs htr
      have fld : ∀ j, j < n → ∃ m, cs[j]? = some (.int .i64 m) ∧ (Lit.int .i64 m).wf = true := by
        intro j hj
        have h5 := hf j hj
        have hfj : fs[j]? = some (fs[j]'(by omega)) := Array.getElem?_eq_getElem (by omega)
        rw [hfj] at h5
        simp only [Bool.and_eq_true, beq_iff_eq] at h5
        obtain ⟨⟨h6, h7⟩, h8⟩ := h5
        have h9 := hfl j _ hfj
        rw [h6, h8] at h9
        rw [List.getElem?_eq_getElem (show j < ys.length by omega)] at h9
        have hu : P.underlying (fs[j]'(by omega)).type = some (.int .i64) := by
          split at h7
          · assumption
          · cases h7
        obtain ⟨m, h10, _, h11⟩ := DataW.trod_int hu h9
        refine ⟨m, ?_, h11⟩
        have : ((cs.drop j).take 1)[0]? = some (.int .i64 m) := by rw [h10]; rfl
        simpa using this
      have mk : ∀ k, k ≤ n → ∃ c : List Int, c.length = k ∧ (∀ m ∈ c, (Lit.int .i64 m).wf = true) ∧ ∀ (j : Nat) m, c[j]? = some m → cs[j]? = some (.int .i64 m) := by
        intro k
        induction k with
        | zero => intro _; exact ⟨[], rfl, fun m h => (by cases h), fun j m h => by simp at h⟩
        | succ k ih =>
          intro hk
          obtain ⟨c, q1, q2, q3⟩ := ih (by omega)
          obtain ⟨m, q4, q5⟩ := fld k (by omega)
          refine ⟨c ++ [m], by simp [q1], fun m' hm' => ?_, fun j m' hj => ?_⟩
          · rcases List.mem_append.1 hm' with h | h
            · exact q2 _ h
            · simp at h; subst h; exact q5
          · rw [List.getElem?_append] at hj
            split at hj
            · exact q3 j m' hj
            · rename_i hjk
              have : j = k := by
                rcases Nat.lt_or_ge (j - c.length) 1 with h | h
                · omega
                · rw [List.getElem?_eq_none (by simpa using h)] at hj; cases hj
              subst this
              simp [q1] at hj
              subst hj
              exact q4
      obtain ⟨c, q1, q2, q3⟩ := mk n (Nat.le_refl _)
      refine ⟨c, q1, q2, fun j m hj => ?_⟩
      have hjn : j < n := by
        have := (List.getElem?_eq_some_iff.1 hj).1
        omega
      rw [hcell j hjn]
      exact q3 j m hj
    have all : ∀ k, k ≤ len → ∃ xs : List (List Int), xs.length = k ∧ (∀ c ∈ xs, c.length = n ∧ ∀ m ∈ c, (Lit.int .i64 m).wf = true) ∧ ∀ (i : Nat) c, xs[i]? = some c → ∀ (j : Nat) m, c[j]? = some m → w.cell? ((a'.add (i * n)).add j) = some (.int .i64 m) := by
      intro k
      induction k with
      | zero => intro _; exact ⟨[], rfl, fun m h => (by cases h), fun j m h => by simp at h⟩
      | succ k ih =>
        intro hk
        obtain ⟨xs, q1, q2, q3⟩ := ih (by omega)
        obtain ⟨c, q4, q5, q6⟩ := each k (by omega)
        refine ⟨xs ++ [c], by simp [q1], fun d hd => ?_, fun i d hd => ?_⟩
        · rcases List.mem_append.1 hd with h | h
          · exact q2 _ h
          · simp at h; subst h; exact ⟨q4, q5⟩
        · rw [List.getElem?_append] at hd
          split at hd
          · exact q3 i d hd
          · have : i = k := by
              rcases Nat.lt_or_ge (i - xs.length) 1 with h | h
              · omega
              · rw [List.getElem?_eq_none (by simpa using h)] at hd; cases hd
            subst this
            simp [q1] at hd
            subst hd
            exact q6
    obtain ⟨xs, q1, q2, q3⟩ := all len (Nat.le_refl _)
    refine ⟨xs, q2, fun g hg => ?_⟩
    refine ⟨some a', cap, by rw [List.length_map, q1], by rw [List.length_map, q1]; exact hl, (fun h => by cases h), ?_⟩
    cases hxs : xs with
    | nil => left; rfl
    | cons c xs' =>
      right
      obtain ⟨hc1, _⟩ := q2 c (by rw [hxs]; exact List.mem_cons_self)
      have hc0 : c[0]? = some (c[0]'(by omega)) := List.getElem?_eq_getElem (by omega)
      have h0 := q3 0 c (by rw [hxs]; rfl) 0 _ hc0
      simp only [Nat.zero_mul, Addr.add, if_true] at h0
      obtain ⟨hs, hb⟩ := cell_spot h0
      refine ⟨a'.block, a'.off, by rw [← hs], hg _ hb, ?_⟩
      rw [← hxs]
      refine nRows_of fun i d hd => ⟨(q2 d (List.mem_of_getElem? hd)).1, fun j m hj => ?_⟩
      have := q3 i d hd j m hj
      rw [hs, addr_add, addr_add] at this
      exact this

theorem open_intsA {t e : TypeId} (ht : P.underlying t = some (.slice e)) (he : P.underlying e = some (.int .i64)) (hc : P.cellsOf e = 1) {a : Option Addr} {len cap : Nat} {x : DataW H × List MemPlace} (h : DataW.trod enc P w 0 spare held fuel t [.slice a len cap] = some x) :
    ∃ xs : List Int, (∀ m ∈ xs, (Lit.int .i64 m).wf = true) ∧ ∀ g : G, (∀ b, b < w.heap.size → g.Sl b) → V3 g [] w (.lst false false 1 (xs.map eI)) (.slice a len cap) := by
  rcases Go.ChangeShapes.open_ints ht he hc h with ⟨h0, _⟩ | ⟨a', len', cap', zs, h0, _, hl, _, hz, _, hcell, hwf⟩
  · cases h0
    exact ⟨[], (fun c hc => by cases hc), fun g _ => ⟨none, 0, rfl, Nat.le_refl _, (fun h => by cases h), .inl rfl⟩⟩
  · cases h0
    have hlz : len ≤ zs.length := by rw [hz]; split <;> omega
    refine ⟨zs.take len, fun m hm => hwf m (List.mem_of_mem_take hm), fun g hg => ?_⟩
    have hlen : (zs.take len).length = len := by simp; omega
    refine ⟨some a', cap, by rw [List.length_map, hlen], by rw [List.length_map, hlen]; exact hl, (fun h => by cases h), ?_⟩
    by_cases h0 : len = 0
    · left; subst h0; simp
    · right
      have hz0 := hcell 0 (by omega)
      simp only [Addr.add, if_true] at hz0
      obtain ⟨hs, hb⟩ := cell_spot hz0
      refine ⟨a'.block, a'.off, by rw [← hs], hg _ hb, ?_⟩
      refine nRowsI_of fun i m hm => ?_
      have hi := (List.getElem?_eq_some_iff.1 hm).1
      rw [hlen] at hi
      have := hcell i (by omega)
      rw [hs, addr_add] at this
      rw [this]
      have h1 : zs[i]? = some m := by simpa [List.getElem?_take, hi] using hm
      simp [h1]
end

def ptsOf (xs : List (List Int)) : List Pt := xs.map fun c => ⟨c.getD 0 0, c.getD 1 0⟩

theorem pts_of {xs : List (List Int)} (h : ∀ c ∈ xs, c.length = 2) : xs.map eA = (ptsOf xs).map ep := by
  unfold ptsOf
  rw [List.map_map]
  refine List.map_congr_left fun c hc => ?_
  have := h c hc
  match c, this with
  | [x, y], _ => rfl
end Go.AM
