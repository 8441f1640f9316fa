import Derived.Test.YtlacambjecjdbaaAmEq
import Derived.Laws.Rows
set_option linter.unusedVariables false
set_option linter.unusedSimpArgs false
set_option linter.unnecessarySimpa false
/-! Cells written in place. -/
namespace Go.AM

section
variable {P : Program} {T : TypeId → Option TI} {o : Oper} {tm : List AV} {hp : List Blk} {κ : AV → List Blk → R} {r : AV × List Blk}

/-- block b alone is another one, of the same shape -/
structure Upd (w : World) (b : Nat) (w' : World) : Prop where
  size : w'.heap.size = w.heap.size
  other : ∀ x, x ≠ b → w'.heap[x]? = w.heap[x]?
  shape : Shape w w'
  env : Env w w'

theorem Upd.refl (w : World) (b : Nat) : Upd w b w := ⟨rfl, fun _ _ => rfl, .refl w, .refl w⟩

theorem storeCells_upd {w : World} {b k : Nat} {vs : List Value} (hu : Unf w b 0) (h1 : ∀ v ∈ vs, v.oneCell' = true) (hc : vs ≠ [] → ∃ v, w.cell? ⟨b, k + (vs.length - 1), none⟩ = some v) :
    ∃ w', (storeCells ⟨b, k, none⟩ vs).run P w = .ok () w' ∧ Upd w b w' ∧ (∀ (j : Nat) v, vs[j]? = some v → w'.cell? ⟨b, k + j, none⟩ = some v) ∧
      ∀ j, (j < k ∨ k + vs.length ≤ j) → w'.cell? ⟨b, j, none⟩ = w.cell? ⟨b, j, none⟩ := by
  by_cases h0 : vs = []
  · subst h0
    exact ⟨w, by simp [storeCells], .refl w b, fun j v h => by simp at h, fun _ _ => rfl⟩
  · obtain ⟨cs, el, hb, _⟩ := hu
    obtain ⟨v, hv⟩ := hc h0
    have hpos : 0 < vs.length := List.length_pos_iff.2 h0
    have hfit : k + 0 + vs.length ≤ cs.size := by
      rw [cell_of_row w b _ cs el (0, 0) hb] at hv
      have := (Array.getElem?_eq_some_iff.1 hv).1
      omega
    have hr := run_storeCells_at P b k el vs 0 cs w hb hfit h1
    simp only [Nat.add_zero] at hr
    refine ⟨_, hr, ⟨by simp, fun x hx => setRow_other w b x _ hx, fun x cs' el' fr hx => ?_, ⟨rfl, rfl, rfl⟩⟩, fun j u hj => ?_, fun j hj => ?_⟩
    · by_cases hxb : x = b
      · subst hxb
        rw [hb] at hx
        cases hx
        exact ⟨_, setRow_heap w x cs _ el _ hb, by simp at hfit ⊢; omega⟩
      · exact ⟨cs', by rw [setRow_other w b x _ hxb]; exact hx, rfl⟩
    · rw [cell_of_row _ b _ _ el (0, 0) (setRow_heap w b cs _ el _ hb)]
      have hj' := (List.getElem?_eq_some_iff.1 hj).1
      have hlk : (List.take k cs.toList).length = k := by simp; omega
      simp only [List.getElem?_toArray, List.append_assoc]
      rw [List.getElem?_append_right (by omega), List.getElem?_append_left (by omega), hlk]
      rw [show k + j - k = j by omega]
      exact hj
    · rw [cell_of_row _ b _ _ el (0, 0) (setRow_heap w b cs _ el _ hb), cell_of_row w b _ cs el (0, 0) hb]
      have hlk : (List.take k cs.toList).length = k := by simp; omega
      simp only [List.getElem?_toArray, List.append_assoc]
      rcases hj with hj | hj
      · rw [List.getElem?_append_left (by omega), List.getElem?_take_of_lt hj]
        simp
      · rw [List.getElem?_append_right (by omega), List.getElem?_append_right (by omega), hlk, List.getElem?_drop]
        rw [show k + vs.length + (j - k - vs.length) = j by omega]
        simp

section upd
variable {g : G} {H : List Blk} {w w' : World} {τ b base : Nat} {blk blk' : Blk}

theorem Trans.upd (hd : g.dom τ) (hρ : g.ρ τ = some (b, base)) (hb : H[τ]? = some blk) (ho : blk.owned) (hl : ∀ m E xs', blk' = .rows m E xs' → m ≠ .dead → ∃ m0 xs, blk = .rows m0 E xs ∧ m0 ≠ .dead ∧ xs.length = xs'.length)
    (hx : ∀ y', blk' = .box y' → ∃ y, blk = .box y) (hu : Upd w b w') : Trans g H w g (H.set τ blk') w' where
  dom _ h := h
  ρ _ _ := rfl
  S _ h := h
  Sl _ h := h
  newS _ h := .inl h
  newSl _ h := .inl h
  size := by rw [hu.size]; exact Nat.le_refl _
  shape := hu.shape
  env := hu.env
  prot x hx hn := hu.other x fun e => hn ⟨τ, base, hd, by rw [hρ, e], blk, hb, ho⟩
  own x h := by
    obtain ⟨y, o, h1, h2, bk, h3, h4⟩ := h
    rcases get_set h3 with ⟨rfl, _, _⟩ | ⟨_, h3⟩
    · exact .inr ⟨y, o, h1, h2, blk, hb, ho⟩
    · exact .inr ⟨y, o, h1, h2, bk, h3, h4⟩
  len y hy m E xs h hm := by
    rcases get_set h with ⟨rfl, h1, _⟩ | ⟨_, h3⟩
    · obtain ⟨m0, xs0, h2, h3, h4⟩ := hl m E xs h1.symm hm
      exact ⟨m0, xs0, by rw [hb, h2], h3, h4⟩
    · exact ⟨m, xs, h3, hm, rfl⟩
  box y hy z h := by
    rcases get_set h with ⟨rfl, h1, _⟩ | ⟨_, h3⟩
    · obtain ⟨y0, h2⟩ := hx z h1.symm
      exact ⟨y0, by rw [hb, h2]⟩
    · exact ⟨z, h3⟩

theorem Good.upd (hg : Good g H w) (hd : g.dom τ) (hρ : g.ρ τ = some (b, base)) (hb : H[τ]? = some blk) (ho : blk.owned) (ht : Trans g H w g (H.set τ blk') w') (hu : Upd w b w')
    (hr : BlkRel g (H.set τ blk') w' τ blk') : Good g (H.set τ blk') w' where
  sub := hg.sub
  lt x h := by rw [hu.size]; exact hg.lt x h
  tok x hx := by
    by_cases e : x = τ
    · subst e; exact ⟨_, get_set_eq hb, hr⟩
    · obtain ⟨bk, h1, h2⟩ := hg.tok x hx
      refine ⟨bk, by rw [get_set_ne e]; exact h1, BlkRel.trans ht hg hx (fun c o hρ' ho' => ⟨hu.other c fun ec => ?_, Own.notS hg ⟨x, o, hx, hρ', owned_of h1 ho'⟩⟩) h2⟩
      subst ec
      exact e (hg.inj x τ c o base hx hd hρ' hρ (owned_of h1 ho') ⟨blk, hb, ho⟩)
  inj x y c o o' hx hy h1 h2 h3 h4 := by
    have key : ∀ z, owned (H.set τ blk') z → owned H z := by
      rintro z ⟨bk, h5, h6⟩
      rcases get_set h5 with ⟨rfl, rfl, _⟩ | ⟨hne, h7⟩
      · exact ⟨blk, hb, ho⟩
      · exact ⟨bk, h7, h6⟩
    exact hg.inj x y c o o' hx hy h1 h2 (key x h3) (key y h4)
end upd

theorem lay_some {sz off : Nat} {x v : AV} {κ : AV → R} (h : layK sz x off v κ = some r) : ∃ x', κ x' = some r ∧ (∀ g H w u, V3 g H w v u → V2 g H w v u) ∧ sz = (cells v).length ∧
    ((cells v) = [] ∨ off + (cells v).length ≤ (cells x).length) ∧ cells x' = splice (cells x) off (cells v) := by
  unfold layK at h
  split at h
  · rename_i cs vs
    obtain ⟨h1, h2⟩ := beqE_some h
    obtain ⟨_, h3, h4⟩ := spliceK_some h2
    refine ⟨_, h4, fun _ _ _ _ h => h, h1, h3, ?_⟩
    simp only [cells]
    split
    · rename_i e; rw [e, splice_nil]
    · rfl
  · cases h
  · cases h
  · cases h
  · cases h
  · rename_i cs n1 n2 n3 n4 n5
    obtain ⟨h1, h2⟩ := beqE_some h
    obtain ⟨_, h3, h4⟩ := spliceK_some h2
    have hc : cells v = [v] := by
      cases v <;> first
        | rfl
        | exact absurd rfl (n1 _)
    refine ⟨_, h4, fun g H w u hh => ?_, by rw [hc]; exact h1, by rw [hc]; exact h3, by rw [hc]; simp [cells]⟩
    cases v <;> first
      | exact hh
      | exact absurd rfl n2
      | exact absurd rfl (n3 _)
      | exact absurd rfl (n4 _ _ _)
      | exact absurd rfl (n5 _ _)
  · cases h
  · cases h
  · cases h
  · cases h
  · cases h
  · cases h
  · cases h
  · cases h
  · rename_i m0 m1 m2 m3 m4 m5 m6 m7 m8 m9 n1 n2 n3 n4 n5
    obtain ⟨h1, h2⟩ := cond_none h
    simp only [Bool.and_eq_true] at h1
    have e1 := beq_eq h1.1
    have e2 := beq_eq h1.2
    have hc : cells v = [v] := by
      cases v <;> first
        | rfl
        | exact absurd rfl (m5 _)
    have hcx : cells x = [x] := by
      cases x <;> first
        | rfl
        | exact absurd rfl (m1 _)
    refine ⟨_, h2, fun g H w u hh => ?_, by rw [hc]; exact e2, .inr (by rw [hc, hcx, e1]; simp), by rw [hc, hcx, e1]; simp [splice]⟩
    cases v <;> first
      | exact hh
      | exact absurd rfl (m5 _)
      | exact absurd rfl m6
      | exact absurd rfl (m7 _)
      | exact absurd rfl (m8 _ _ _)
      | exact absurd rfl (m9 _ _)

theorem splice_get {α : Type} {cs vs : List α} {off i : Nat} (h : off + vs.length ≤ cs.length) :
    (splice cs off vs)[i]? = if i < off then cs[i]? else if i < off + vs.length then vs[i - off]? else cs[i]? := by
  unfold splice
  have hl : (cs.take off).length = off := by simp; omega
  by_cases h1 : i < off
  · rw [if_pos h1, List.append_assoc, List.getElem?_append_left (by omega), List.getElem?_take_of_lt h1]
  · rw [if_neg h1, List.append_assoc, List.getElem?_append_right (by omega), hl]
    by_cases h2 : i < off + vs.length
    · rw [if_pos h2, List.getElem?_append_left (by omega)]
    · rw [if_neg h2, List.getElem?_append_right (by omega), List.getElem?_drop]
      congr 1
      omega

theorem V1s_of {g : G} {H : List Blk} {w : World} : ∀ {cs : List AV} {b k : Nat}, (∀ (i : Nat) c, cs[i]? = some c → ∃ v, w.cell? ⟨b, k + i, none⟩ = some v ∧ V1 g H w c v) → V1s g H w cs b k
  | [], _, _, _ => trivial
  | c :: cs, b, k, h => ⟨by simpa using h 0 c rfl, V1s_of fun i c hi => by
      have := h (i + 1) c (by simpa using hi)
      rwa [show k + (i + 1) = k + 1 + i by omega] at this⟩

theorem PCells_get {S Sl : Nat → Prop} {w : World} : ∀ {cs : List AV} {b k i : Nat} {x : AV}, PCells S Sl w cs b k → cs[i]? = some x → ∃ v, w.cell? ⟨b, k + i, none⟩ = some v ∧ PCell S Sl w x v
  | [], _, _, _, _, _, h => by simp at h
  | y :: cs, b, k, 0, x, h, hx => by
    simp only [PCells] at h
    simp at hx; subst hx; simpa using h.1
  | y :: cs, b, k, i + 1, x, h, hx => by
    simp only [PCells] at h
    have := PCells_get (i := i) h.2 (by simpa using hx)
    rwa [show k + (i + 1) = k + 1 + i by omega]

theorem PCells_of' {S Sl : Nat → Prop} {w : World} : ∀ {cs : List AV} {b k : Nat}, (∀ (i : Nat) c, cs[i]? = some c → ∃ v, w.cell? ⟨b, k + i, none⟩ = some v ∧ PCell S Sl w c v) → PCells S Sl w cs b k
  | [], _, _, _ => by simp [PCells]
  | c :: cs, b, k, h => by
    simp only [PCells]
    exact ⟨by simpa using h 0 c rfl, PCells_of' fun i c hi => by
      have := h (i + 1) c (by simpa using hi)
      rwa [show k + (i + 1) = k + 1 + i by omega] at this⟩

theorem PRows_of {S Sl : Nat → Prop} {w : World} {E : Nat} : ∀ {xs : List AV} {b k : Nat}, (∀ (i : Nat) x, xs[i]? = some x → PElem F0 Sl w E x b (k + i * E)) → PRows S Sl w E xs b k
  | [], _, _, _ => PRows_nil
  | x :: xs, b, k, h => PRows_cons.2 ⟨by simpa using h 0 x rfl, PRows_of fun i y hi => by
      have := h (i + 1) y (by simpa using hi)
      rwa [show k + (i + 1) * E = k + E + i * E by rw [Nat.succ_mul]; omega] at this⟩

theorem All2_get' {R : AV → Value → Prop} : ∀ {xs : List AV} {vs : List Value} {i : Nat} {v : Value}, All2 R xs vs → vs[i]? = some v → ∃ x, xs[i]? = some x ∧ R x v
  | _, [], _, _, _, h => by simp at h
  | [], _ :: _, _, _, h, _ => h.elim
  | x :: xs, v :: vs, 0, y, h, hx => by simp at hx; subst hx; exact ⟨x, rfl, h.1⟩
  | x :: xs, v :: vs, i + 1, y, h, hx => by simpa using All2_get' (i := i) h.2 (by simpa using hx)

theorem V1_ones {g : G} {H : List Blk} {w : World} {xs : List AV} {vs : List Value} (h : All2 (V1 g H w) xs vs) : ∀ v ∈ vs, v.oneCell' = true := by
  intro v hv
  obtain ⟨i, hi⟩ := List.mem_iff_getElem?.1 hv
  obtain ⟨x, _, hx⟩ := All2_get' h hi
  exact (V1_one hx).2

theorem storeVar_run {w w' : World} {t : TypeId} {sz b k : Nat} {v : Value} (hs : (Go.sizeOf t).run P w = .ok sz w) (hv : v.cells.size = sz) (h : (storeCells ⟨b, k, none⟩ v.cells.toList).run P w = .ok () w') :
    (storeVar t ⟨b, k, none⟩ v).run P w = .ok () w' := by
  simp only [storeVar, Sem.run_bind, hs, Result.andThen_ok]
  rw [if_neg (by omega)]
  exact h

theorem store_step (hT : TOk P T) {t : TypeId} {x y : Operand} (ho : o.op = .store t x y) (h : (tyK T t fun sz _ _ _ _ => evK tm x fun
    | .ptr τ idx off E => evK tm y fun v => getK hp τ fun
      | .box x => layK sz x off v fun x => setK hp τ (.box x) fun hp => κ .top hp
      | .rows _ _ _ => purK hp v fun v hp => getK hp τ fun
        | .rows .live E' xs => bif Nat.beq E E' then gbind (lget xs idx) fun x => layK sz x off v fun x => setK hp τ (.rows .live E (lset xs idx x)) fun hp => κ .top hp else none
        | _ => none
    | _ => none) = some r) : StepM P o tm hp κ r := by
  obtain ⟨sz, a1, b1, z1, d1, hs, h1⟩ := tyK_some h
  clear h
  obtain ⟨vx, hvx, h2⟩ := evK_some h1
  clear h1
  split at h2
  case h_2 => cases h2
  rename_i τ idx off E
  obtain ⟨vy, hvy, h3⟩ := evK_some h2
  clear h2
  obtain ⟨blk, hb, h4⟩ := getK_some h3
  clear h3
  have hrun : ∀ (a : Act) (w w' : World) (b k : Nat), a.eval x = .pointer (some ⟨b, k, none⟩) → (a.eval y).cells.size = sz → (storeCells ⟨b, k, none⟩ (a.eval y).cells.toList).run P w = .ok () w' → (execOp a.eval o).run P w = .ok .skip w' := by
    intro a w w' b k he hsz hst
    have := storeVar_run (P := P) (t := t) ((hT _ _ _ _ _ _ hs).sizeOf (w := w)) hsz hst
    simp only [execOp, ho, he, Instr.storeAt, Instr.sureAddr, Sem.run_bind, Sem.run_pure, Result.andThen_ok, this]
  split at h4
  · rename_i bx
    obtain ⟨x', h5, hV, hsz, hle, hcells⟩ := lay_some h4
    clear h4
    rw [setK_eq] at h5
    refine ⟨_, _, h5, fun Q a w g N hd hh hg hN => ?_⟩
    obtain ⟨hdom, hz, b, base, n, hρ, hidx, he⟩ := hh x (by simp [ho, Op.operands]) _ hvx
    have h0 := hz _ hb
    have hn0 : n = 0 := by omega
    subst hn0
    obtain ⟨bk, q1, q2⟩ := hg.tok τ hdom
    rw [hb] at q1
    cases q1
    obtain ⟨b', o', hρ', hS, hu, hcs⟩ := q2
    rw [hρ] at hρ'
    cases hρ'
    have hvv := V2_cells (hV _ _ _ _ (hh y (by simp [ho, Op.operands]) _ hvy))
    have hlen := All2_len hvv
    obtain ⟨w', hst, hup, hnew, hold⟩ := storeCells_upd (P := P) (k := base + off) hu (V1_ones hvv) (by
      intro hne
      have hpos : 0 < (cells vy).length := by rw [hlen]; exact List.length_pos_iff.2 hne
      have hle := hle.resolve_left (fun e => by rw [e] at hpos; simp at hpos)
      obtain ⟨c, hc⟩ : ∃ c, (cells bx)[off + ((a.eval y).cells.toList.length - 1)]? = some c := ⟨_, List.getElem?_eq_getElem (by omega)⟩
      obtain ⟨v, hv, _⟩ := V1s_get hcs hc
      exact ⟨v, by rw [Nat.add_assoc]; exact hv⟩)
    have hr := hrun a w w' b (base + off) (by simpa using he) (by rw [hsz, hlen]; simp) hst
    have ht : Trans g hp w g (hp.set τ (.box x')) w' := Trans.upd hdom hρ hb trivial (by simp) (fun _ _ => ⟨bx, rfl⟩) hup
    have hbr : BlkRel g (hp.set τ (.box x')) w' τ (.box x') := by
      refine ⟨b, base, hρ, hS, hu.mono ht.shape, V1s_of fun i c hi => ?_⟩
      rw [hcells] at hi
      by_cases hnil : cells vy = []
      · rw [hnil, splice_nil] at hi
        obtain ⟨v, hv, hv2⟩ := V1s_get hcs hi
        exact ⟨v, by rw [hold _ (by rw [← hlen, hnil]; simp; omega)]; exact hv, hv2.trans ht hg⟩
      · have hle := hle.resolve_left hnil
        rw [splice_get hle] at hi
        split at hi
        · obtain ⟨v, hv, hv2⟩ := V1s_get hcs hi
          exact ⟨v, by rw [hold _ (.inl (by omega))]; exact hv, hv2.trans ht hg⟩
        · split at hi
          · obtain ⟨v, hv, hv2⟩ := All2_get hvv hi
            have := hnew _ _ hv
            exact ⟨v, by rw [show base + i = base + off + (i - off) by omega]; exact this, hv2.trans ht hg⟩
          · obtain ⟨v, hv, hv2⟩ := V1s_get hcs hi
            exact ⟨v, by rw [hold _ (.inr (by omega))]; exact hv, hv2.trans ht hg⟩
    simp only [Oper.wp, hr, Oper.upon]
    exact hN _ _ g ht (Good.upd hg hdom hρ hb trivial ht hup hbr) (fun x => by rw [hd]; simp) trivial (fun c hc hn => hup.other c fun e => hn (by unfold wrB; rw [ho]; exact ⟨_, by rw [e]; simpa using he⟩))
  · rename_i m0 E0 xs0
    obtain ⟨vy', hp1, h5, hcl, hV, hlen1, hf⟩ := pur_ok h4
    clear h4
    obtain ⟨blk1, hb1, h6⟩ := getK_some h5
    clear h5
    split at h6
    case h_2 => cases h6
    rename_i E' xs
    obtain ⟨rfl, h7⟩ := beqE_some h6
    clear h6
    obtain ⟨ex, hex, h8⟩ := gbind_some h7
    clear h7
    obtain ⟨x', h9, hV', hsz, hle, hcells⟩ := lay_some h8
    clear h8
    obtain ⟨hi0, hil, hix⟩ := lget_some hex
    rw [setK_eq, lset_eq] at h9
    refine ⟨_, _, h9, fun Q a w g N hd hh hg hN => ?_⟩
    obtain ⟨g1, ht1, hg1, hd1, hpe⟩ := hf g w (a.eval y) hg (hV _ _ _ _ (hh y (by simp [ho, Op.operands]) _ hvy))
    obtain ⟨hdom, hz, b, base, n, hρ, hidx, he⟩ := (hh x (by simp [ho, Op.operands]) _ hvx).trans ht1 hg
    have hin : idx.toNat = n := by omega
    rw [hin] at hix hil hN
    obtain ⟨bk, q1, q2⟩ := hg1.tok τ hdom
    rw [hb1] at q1
    cases q1
    rcases q2 with ⟨q2, _⟩ | ⟨b', o', hρ', hS, hu, hR⟩
    · rw [hρ] at q2; cases q2
    rw [hρ] at hρ'
    cases hρ'
    have hlen := All2_len hpe
    obtain ⟨hE, hpc⟩ := PRows_get hR hix
    obtain ⟨w', hst, hup, hnew, hold⟩ := storeCells_upd (P := P) (k := base + n * E + off) hu (V1_ones (hpe.imp fun _ _ h => V1_of_PCell (H := []) (PC.weak h))) (by
      intro hne
      have hpos : 0 < (cells vy').length := by rw [hlen]; exact List.length_pos_iff.2 hne
      have hle := hle.resolve_left (fun e => by rw [e] at hpos; simp at hpos)
      obtain ⟨c, hc⟩ : ∃ c, (cells ex)[off + ((a.eval y).cells.toList.length - 1)]? = some c := ⟨_, List.getElem?_eq_getElem (by omega)⟩
      obtain ⟨v, hv, _⟩ := PCells_get hpc hc
      exact ⟨v, by rw [Nat.add_assoc]; exact hv⟩)
    have hr := hrun a w w' b (base + n * E + off) he (by rw [hsz, hlen]; simp) hst
    have ht : Trans g1 hp1 w g1 (hp1.set τ (.rows .live E (xs.set n x'))) w' := Trans.upd hdom hρ hb1 trivial (by
      intro m E2 ys e hm; cases e; exact ⟨_, _, rfl, by simp, by simp⟩) (by simp) hup
    have hlx : (cells x').length = E := by
      rw [hcells]
      rcases hle with hle | hle
      · rw [hle, splice_nil]; exact hE
      · rw [splice_len hle]; exact hE
    have hbr : BlkRel g1 (hp1.set τ (.rows .live E (xs.set n x'))) w' τ (.rows .live E (xs.set n x')) := by
      refine .inr ⟨b, base, hρ, hS, hu.mono ht.shape, PRows_of fun i z hi => ?_⟩
      rcases get_set hi with ⟨rfl, rfl, _⟩ | ⟨hne, hi⟩
      · refine ⟨hlx, PCells_of' fun j c hj => ?_⟩
        rw [hcells] at hj
        by_cases hnil : cells vy' = []
        · rw [hnil, splice_nil] at hj
          obtain ⟨v, hv, hv2⟩ := PCells_get hpc hj
          exact ⟨v, by rw [hold _ (by rw [← hlen, hnil]; simp; omega)]; exact hv, PC.trans ht hg1 hv2⟩
        · have hle := hle.resolve_left hnil
          rw [splice_get hle] at hj
          split at hj
          · obtain ⟨v, hv, hv2⟩ := PCells_get hpc hj
            exact ⟨v, by rw [hold _ (.inl (by omega))]; exact hv, PC.trans ht hg1 hv2⟩
          · split at hj
            · obtain ⟨v, hv, hv2⟩ := All2_get hpe hj
              have := hnew _ _ hv
              exact ⟨v, by rw [show base + i * E + j = base + i * E + off + (j - off) by omega]; exact this, PC.trans ht hg1 hv2⟩
            · obtain ⟨v, hv, hv2⟩ := PCells_get hpc hj
              exact ⟨v, by rw [hold _ (.inr (by omega))]; exact hv, PC.trans ht hg1 hv2⟩
      · obtain ⟨hE', hpc'⟩ := PRows_get hR hi
        refine ⟨hE', PCells_of' fun j c hj => ?_⟩
        obtain ⟨v, hv, hv2⟩ := PCells_get hpc' hj
        have hjl : j < E := by rw [← hE']; exact (List.getElem?_eq_some_iff.1 hj).1
        refine ⟨v, ?_, PC.trans ht hg1 hv2⟩
        rw [hold _ ?_]
        · exact hv
        · have hoff : (a.eval y).cells.toList.length = 0 ∨ off + (a.eval y).cells.toList.length ≤ E := by
            rw [← hlen, ← hE]
            exact hle.imp (fun e => by rw [e]; rfl) id
          rcases Nat.lt_or_gt_of_ne hne with hlt | hgt
          · left
            have : (i + 1) * E ≤ n * E := Nat.mul_le_mul_right _ hlt
            rw [Nat.succ_mul] at this
            omega
          · have : (n + 1) * E ≤ i * E := Nat.mul_le_mul_right _ hgt
            rw [Nat.succ_mul] at this
            rcases hoff with hoff | hoff
            · by_cases hc : base + i * E + j < base + n * E + off
              · exact .inl hc
              · right; omega
            · right; omega
    simp only [Oper.wp, hr, Oper.upon]
    exact hN _ _ g1 (ht1.trans ht) (Good.upd hg1 hdom hρ hb1 trivial ht hup hbr) (fun x => by rw [hd1, hd]; simp [hlen1]) trivial (fun c hc hn => hup.other c fun e => hn (by unfold wrB; rw [ho]; exact ⟨_, by rw [e]; exact he⟩))
end
end Go.AM
