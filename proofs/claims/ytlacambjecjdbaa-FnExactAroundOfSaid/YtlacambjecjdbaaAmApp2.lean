import Derived.Test.YtlacambjecjdbaaAmApp
set_option linter.unusedVariables false
set_option linter.unusedSimpArgs false
set_option linter.unnecessarySimpa false
/-! The append operation. -/
namespace Go.AM

section
variable {P : Program} {T : TypeId → Option TI} {o : Oper} {tm : List AV} {hp : List Blk} {κ : AV → List Blk → R} {r : AV × List Blk}

/-- what is known of the types -/
structure ApT (P : Program) (E by_ : Nat) (ta tb e eb : TypeId) (i : TypeInfo) (z : Value) : Prop where
  ht : P.underlying ta = some (.slice e)
  htb : P.underlying tb = some (.slice eb)
  hi : P.info? e = some i
  hz : i.zero = some z
  hs : i.size = E
  hzs : z.cells.size = E
  hb : i.bytes = by_
  pos : 0 < by_

def ApOk (P : Program) (hp : List Blk) (s : AV) (E by_ : Nat) (news : List AV) (v : AV) (hp' : List Blk) : Prop :=
  ∀ (ta tb ty e eb : TypeId) (i : TypeInfo) (z : Value) (g : G) (w : World) (val : Value) (B : Option Addr) (c : Nat) (vs : List Value), ApT P E by_ ta tb e eb i z → Good g hp w → (∀ τ, g.dom τ ↔ τ < hp.length) → V3 g hp w s val →
    PFlat g w E news vs → (∀ w1 : World, w1.heap = w.heap → (Builtin.firstCells E news.length (.slice B news.length c)).run P w1 = .ok vs.toArray w1) →
    ∃ vv w' g', (Builtin.append_ #[ta, tb] ty #[val, .slice B news.length c]).run P w = .ok vv w' ∧ Trans g hp w g' hp' w' ∧ Good g' hp' w' ∧ (∀ τ, g'.dom τ ↔ τ < hp'.length) ∧ V3 g' hp' w' v vv

theorem fits_nat {a b c : Nat} (h : fits (iadd a b) c = true) : (a + b) * c ≤ 140737488355328 := by
  rw [fits_eq, iadd_eq] at h
  have h := of_decide_eq_true h
  have h2 : (((a + b) * c : Nat) : Int) ≤ 140737488355328 := by rw [Int.natCast_mul, Int.natCast_add]; exact h
  omega

section
variable {E by_ : Nat} {ta tb ty e eb : TypeId} {i : TypeInfo} {z : Value} {g : G} {w : World} {A B : Option Addr} {c cap : Nat} {vs olds : List Value} {xs news : List AV} {H : List Blk}

theorem ap_grow (hT : ApT P E by_ ta tb e eb i z) (hg : Good g H w) (hd : ∀ τ, g.dom τ ↔ τ < H.length) (hx : PFlat g w E xs olds) (hold : ∀ w1 : World, w1.heap = w.heap → (Builtin.firstCells E xs.length (.slice A xs.length cap)).run P w1 = .ok olds.toArray w1)
    (hn : PFlat g w E news vs) (hnew : ∀ w1 : World, w1.heap = w.heap → (Builtin.firstCells E news.length (.slice B news.length c)).run P w1 = .ok vs.toArray w1) (hfit : (xs.length + news.length) * by_ ≤ 140737488355328) (hc : cap < xs.length + news.length) :
    ∃ vv w' g', (Builtin.append_ #[ta, tb] ty #[.slice A xs.length cap, .slice B news.length c]).run P w = .ok vv w' ∧ Trans g H w g' (H ++ [.rows .live E (xs ++ news)]) w' ∧ Good g' (H ++ [.rows .live E (xs ++ news)]) w' ∧
      (∀ τ, g'.dom τ ↔ τ < (H ++ [Blk.rows .live E (xs ++ news)]).length) ∧ V3 g' (H ++ [.rows .live E (xs ++ news)]) w' (.own H.length E none false) vv := by
  obtain ⟨ht, htb, hi, hz, rfl, hzs, rfl, hpos⟩ := hT
  obtain ⟨cap', rest, h1, h2, h3⟩ := (append_runs (ty := ty) ht htb hi hz hnew hold hpos hfit).2.2 hc
  obtain ⟨g', k1, k2, k3, k4⟩ := grow_fin (w1 := w.drew.alloc (.cells (olds ++ vs ++ rest).toArray e)) (cap := cap') (rest := rest) (e := e) hg hd (hx.append hn) rfl (.refl w) (by simpa using h1) (by rw [h2, hzs]; simp)
  refine ⟨_, _, g', h3, k1, k2, k3, ?_⟩
  rw [List.length_append] at k4
  exact k4

theorem ap_null (hT : ApT P E by_ ta tb e eb i z) (hg : Good g H w) (hd : ∀ τ, g.dom τ ↔ τ < H.length) (hx : xs = []) (hn : news = []) (hv : vs = []) (hold : ∀ w1 : World, w1.heap = w.heap → (Builtin.firstCells E xs.length (.slice A xs.length cap)).run P w1 = .ok olds.toArray w1)
    (hnew : ∀ w1 : World, w1.heap = w.heap → (Builtin.firstCells E news.length (.slice B news.length c)).run P w1 = .ok vs.toArray w1) (hcap : cap = 0) :
    ∃ vv w' g', (Builtin.append_ #[ta, tb] ty #[.slice A xs.length cap, .slice B news.length c]).run P w = .ok vv w' ∧ Trans g H w g' (H ++ [.rows .live E (xs ++ news)]) w' ∧ Good g' (H ++ [.rows .live E (xs ++ news)]) w' ∧
      (∀ τ, g'.dom τ ↔ τ < (H ++ [Blk.rows .live E (xs ++ news)]).length) ∧ V3 g' (H ++ [.rows .live E (xs ++ news)]) w' (.own H.length E none false) vv := by
  obtain ⟨ht, htb, hi, hz, rfl, hzs, rfl, hpos⟩ := hT
  subst hx; subst hn; subst hv; subst hcap
  obtain ⟨r1, r2, _⟩ := append_runs (ty := ty) ht htb hi hz hnew hold hpos (by simp)
  have hr : (Builtin.append_ #[ta, tb] ty #[.slice A ([] : List AV).length 0, .slice B ([] : List AV).length c]).run P w = .ok (.slice A 0 0) w := by
    cases A with
    | none => exact r1 (by simp) rfl
    | some a => exact r2 (by simp) a w rfl (by simp [storeCells])
  obtain ⟨g', k1, k2, k3, k4⟩ := null_fin (E := i.size) (A := A) hg hd
  exact ⟨_, _, g', hr, k1, k2, k3, k4⟩
end

noncomputable def lenD (rr : Option (Int × Int)) (xs : List AV) : Int := (rngD rr xs).2

theorem lenOf_eq (rr : Option (Int × Int)) (xs : List AV) (κ : Int → R) : lenOf rr xs κ = κ (lenD rr xs) := by
  cases rr <;> rfl

theorem PFlat.drop {g : G} {w : World} {E : Nat} : ∀ {n : Nat} {xs : List AV} {vs : List Value}, PFlat g w E xs vs → PFlat g w E (xs.drop n) (vs.drop (n * E))
  | 0, xs, vs, h => by simpa using h
  | n + 1, [], vs, h => by simp only [PFlat] at h; subst h; simp [PFlat]
  | n + 1, x :: xs, vs, ⟨r, vs', e, h1, h2, h3⟩ => by
    subst e
    have hr : r.length = E := by rw [← All2_len h2, h1]
    rw [show (n + 1) * E = r.length + n * E by rw [hr, Nat.succ_mul]; omega, List.drop_length_add_append]
    exact h3.drop

/-- the rows behind the slice's own, written in place: the token goes over to a new one -/
theorem ap_move {E by_ : Nat} {ta tb ty e eb : TypeId} {i : TypeInfo} {z : Value} {g : G} {w : World} {B : Option Addr} {c cap k b base base' : Nat} {vs olds : List Value} {xs ys news : List AV} {H : List Blk} {τ : Nat}
    (hT : ApT P E by_ ta tb e eb i z) (hg : Good g H w) (hd : ∀ τ, g.dom τ ↔ τ < H.length) (hdt : g.dom τ) (hρ : g.ρ τ = some (b, base)) (hb : H[τ]? = some (.rows .live E xs))
    (hR : PRows g.S g.Sl w E ys b base') (hk : k = base' ∨ cap = 0) (hu : Unf w b (base' + cap * E)) (hold : ∀ w1 : World, w1.heap = w.heap → (Builtin.firstCells E ys.length (.slice (some ⟨b, k, none⟩) ys.length cap)).run P w1 = .ok olds.toArray w1)
    (hn : PFlat g w E news vs) (hnew : ∀ w1 : World, w1.heap = w.heap → (Builtin.firstCells E news.length (.slice B news.length c)).run P w1 = .ok vs.toArray w1) (hfit : (ys.length + news.length) * by_ ≤ 140737488355328) (hc : ys.length + news.length ≤ cap) :
    ∃ vv w' g', (Builtin.append_ #[ta, tb] ty #[.slice (some ⟨b, k, none⟩) ys.length cap, .slice B news.length c]).run P w = .ok vv w' ∧ Trans g H w g' (H.set τ (.rows .dead E xs) ++ [.rows .live E (ys ++ news)]) w' ∧ Good g' (H.set τ (.rows .dead E xs) ++ [.rows .live E (ys ++ news)]) w' ∧
      (∀ τ', g'.dom τ' ↔ τ' < (H.set τ (.rows .dead E xs) ++ [Blk.rows .live E (ys ++ news)]).length) ∧ V3 g' (H.set τ (.rows .dead E xs) ++ [.rows .live E (ys ++ news)]) w' (.own H.length E none false) vv := by
  obtain ⟨ht, htb, hi, hz, rfl, hzs, rfl, hpos⟩ := hT
  obtain ⟨us, hys, hus⟩ := PFlat_of hR
  have hun : Unf w b 0 := hu.le (Nat.zero_le _)
  obtain ⟨w', hst, hup, hnc, hoc⟩ := storeCells_upd (P := P) (k := k + ys.length * i.size) (vs := vs) hun hn.oneCell (by
    intro hne
    have hpos : 0 < vs.length := List.length_pos_iff.2 hne
    have hlen := hn.len
    have hk := hk.resolve_right (fun e => by
      have : news.length = 0 := by omega
      rw [this, Nat.zero_mul] at hlen; omega)
    subst hk
    refine hu.cell ?_
    have := Nat.mul_le_mul_right i.size hc
    rw [Nat.add_mul] at this
    omega)
  have hr := (append_runs (ty := ty) ht htb hi hz hnew hold hpos hfit).2.1 hc ⟨b, k, none⟩ w' rfl (by rw [addr_add]; exact hst)
  have htr : Trans g H w (g.add H.length (some (b, base'))) (H.set τ (.rows .dead i.size xs) ++ [.rows .live i.size (ys ++ news)]) w' := Trans.move hd hdt hρ hb hup
  have hRows : PRows (g.add H.length (some (b, base'))).S (g.add H.length (some (b, base'))).Sl w' i.size (ys ++ news) b base' := by
    refine PFlat.rows (vs := us ++ vs) ((hys.append hn).trans htr hg) fun j v hj => ?_
    by_cases hj1 : j < us.length
    · rw [List.getElem?_append_left hj1] at hj
      rw [hoc _ ?_]
      · exact hus j v hj
      · left
        rw [hys.len] at hj1
        rcases hk with rfl | hk
        · omega
        · have : ys.length = 0 := by omega
          rw [this] at hj1; simp at hj1
    · rw [List.getElem?_append_right (by omega)] at hj
      have := hnc _ _ hj
      have hjl := (List.getElem?_eq_some_iff.1 hj).1
      have hk := hk.resolve_right (fun e => by
        have h0 : news.length = 0 := by omega
        have := hn.len
        rw [h0, Nat.zero_mul] at this; omega)
      subst hk
      rw [show k + j = k + ys.length * i.size + (j - us.length) by rw [← hys.len]; omega]
      exact this
  refine ⟨_, _, _, hr, htr, Good.move hg hd hdt hρ hb hup hRows hun, fun x => ?_, ?_⟩
  · simp only [G.add, hd, List.length_append, List.length_singleton, List.length_set]; omega
  · refine ⟨G.add_dom, ?_⟩
    rw [G.add_ρ]
    have hl : (H.set τ (.rows .dead i.size xs) ++ [Blk.rows .live i.size (ys ++ news)])[H.length]? = some (.rows .live i.size (ys ++ news)) := by
      rw [List.getElem?_append_right (by simp)]; simp
    refine ⟨k, 0, ys.length + news.length, cap, rfl, by simpa using hk, hc, by simp, fun _ m' E' zs hh _ => ?_, ?_, rfl, fun m' E' zs hh _ => ?_⟩
    · rw [hl] at hh; cases hh; simp; omega
    · have := hu.mono hup.shape; simpa using this
    · rw [hl] at hh; cases hh; simp

/-- rows of the token itself, written over -/
theorem ap_over {E by_ : Nat} {ta tb ty e eb : TypeId} {i : TypeInfo} {z : Value} {g : G} {w : World} {B : Option Addr} {c cap b base oN lN : Nat} {vs olds : List Value} {xs news : List AV} {H : List Blk} {τ : Nat}
    (hT : ApT P E by_ ta tb e eb i z) (hg : Good g H w) (hd : ∀ τ, g.dom τ ↔ τ < H.length) (hdt : g.dom τ) (hρ : g.ρ τ = some (b, base)) (hb : H[τ]? = some (.rows .live E xs))
    (hcap : xs.length ≤ oN + cap) (hu : Unf w b (base + (oN + cap) * E)) (hold : ∀ w1 : World, w1.heap = w.heap → (Builtin.firstCells E lN (.slice (some ⟨b, base + oN * E, none⟩) lN cap)).run P w1 = .ok olds.toArray w1)
    (hn : PFlat g w E news vs) (hnew : ∀ w1 : World, w1.heap = w.heap → (Builtin.firstCells E news.length (.slice B news.length c)).run P w1 = .ok vs.toArray w1) (hfit : (lN + news.length) * by_ ≤ 140737488355328) (hle : oN + lN + news.length ≤ xs.length) :
    ∃ vv w' g', (Builtin.append_ #[ta, tb] ty #[.slice (some ⟨b, base + oN * E, none⟩) lN cap, .slice B news.length c]).run P w = .ok vv w' ∧ Trans g H w g' (H.set τ (.rows .live E (xs.take (oN + lN) ++ news ++ xs.drop (oN + lN + news.length)))) w' ∧
      Good g' (H.set τ (.rows .live E (xs.take (oN + lN) ++ news ++ xs.drop (oN + lN + news.length)))) w' ∧
      (∀ τ', g'.dom τ' ↔ τ' < (H.set τ (.rows .live E (xs.take (oN + lN) ++ news ++ xs.drop (oN + lN + news.length)))).length) ∧
      V3 g' (H.set τ (.rows .live E (xs.take (oN + lN) ++ news ++ xs.drop (oN + lN + news.length)))) w' (.own τ E (some ((oN : Int), ((lN + news.length : Nat) : Int))) false) vv := by
  obtain ⟨ht, htb, hi, hz, rfl, hzs, rfl, hpos⟩ := hT
  obtain ⟨bk, q1, q2⟩ := hg.tok τ hdt
  rw [hb] at q1
  cases q1
  rcases q2 with ⟨q2, _⟩ | ⟨b', o', hρ', hS, hun, hR⟩
  · rw [hρ] at q2; cases q2
  rw [hρ] at hρ'
  cases hρ'
  obtain ⟨us, hxs, hus⟩ := PFlat_of hR
  have hm1 := Nat.mul_le_mul_right i.size hle
  have hm2 := Nat.mul_le_mul_right i.size hcap
  rw [Nat.add_mul, Nat.add_mul] at hm1
  rw [Nat.add_mul] at hm2
  rw [Nat.add_mul] at hu
  have hvl := hn.len
  have hul := hxs.len
  obtain ⟨w', hst, hup, hnc, hoc⟩ := storeCells_upd (P := P) (k := base + oN * i.size + lN * i.size) (vs := vs) hun hn.oneCell (fun hne => hu.cell (by
    have := List.length_pos_iff.2 hne
    omega))
  have hr := (append_runs (ty := ty) ht htb hi hz hnew hold hpos hfit).2.1 (by omega) ⟨b, base + oN * i.size, none⟩ w' rfl (by rw [addr_add]; exact hst)
  generalize hzz : xs.take (oN + lN) ++ news ++ xs.drop (oN + lN + news.length) = zs
  have hzl : zs.length = xs.length := by rw [← hzz]; simp; omega
  have htr : Trans g H w g (H.set τ (.rows .live i.size zs)) w' := Trans.upd hdt hρ hb trivial (fun m E2 ys e _ => by cases e; exact ⟨_, _, rfl, by simp, hzl.symm⟩) (by simp) hup
  have hfl : PFlat g w i.size zs (us.take ((oN + lN) * i.size) ++ vs ++ us.drop ((oN + lN + news.length) * i.size)) := by
    rw [← hzz]
    exact (hxs.take.append hn).append hxs.drop
  have hRows : PRows g.S g.Sl w' i.size zs b base := by
    refine PFlat.rows (hfl.trans htr hg) fun j v hj => ?_
    have htl : (us.take ((oN + lN) * i.size)).length = (oN + lN) * i.size := by
      rw [List.length_take, hul, Nat.add_mul]; omega
    rw [List.append_assoc] at hj
    have hml : (oN + lN) * i.size = oN * i.size + lN * i.size := Nat.add_mul _ _ _
    by_cases hj1 : j < (oN + lN) * i.size
    · rw [List.getElem?_append_left (by omega), List.getElem?_take_of_lt hj1] at hj
      rw [hoc _ (.inl (by omega))]
      exact hus j v hj
    · rw [List.getElem?_append_right (by omega)] at hj
      by_cases hj2 : j < (oN + lN) * i.size + vs.length
      · rw [List.getElem?_append_left (by omega)] at hj
        have := hnc _ _ hj
        rw [htl] at this
        rw [show base + j = base + oN * i.size + lN * i.size + (j - (oN + lN) * i.size) by omega]
        exact this
      · rw [List.getElem?_append_right (by omega), List.getElem?_drop, htl] at hj
        rw [hoc _ (.inr (by omega))]
        refine hus j v ?_
        rw [← hj]
        congr 1
        rw [Nat.add_mul (oN + lN)]
        omega
  have hbr : BlkRel g (H.set τ (.rows .live i.size zs)) w' τ (.rows .live i.size zs) := .inr ⟨b, base, hρ, hS, hun.mono htr.shape, hRows⟩
  refine ⟨_, _, g, hr, htr, Good.upd hg hdt hρ hb trivial htr hup hbr, fun x => by rw [hd]; simp, hdt, ?_⟩
  rw [hρ]
  have hl : (H.set τ (Blk.rows .live i.size zs))[τ]? = some (.rows .live i.size zs) := get_set_eq hb
  refine ⟨_, oN, lN + news.length, cap, rfl, .inl rfl, by omega, by simp, fun _ m' E' ys hh _ => ?_, ?_, rfl, rfl, fun m' E' ys hh _ => ?_⟩
  · rw [hl] at hh; cases hh; omega
  · rw [Nat.add_mul]; exact hu.mono hup.shape
  · rw [hl] at hh; cases hh; omega

theorem set_len {l : List Blk} {n : Nat} {x : Blk} : (l.set n x).length = l.length := by simp

theorem apRows_ok {s : AV} {E by_ : Nat} {news : List AV} (hby : 0 < by_) (h : apRowsK hp s E by_ news κ = some r) : ∃ v hp', κ v hp' = some r ∧ ApOk P hp s E by_ news v hp' := by
  cases s with
  | nil =>
    simp only [apRowsK] at h
    obtain ⟨hf, h1⟩ := cond_none h
    clear h
    rw [snocK_eq, Nat.zero_add] at h1
    rw [ilen_eq] at hf
    refine ⟨_, _, h1, fun ta tb ty e eb i z g w val B c vs hT hg hd hs hn hnew => ?_⟩
    simp only [V3, V2, V1, PCell] at hs
    obtain ⟨A, rfl⟩ := hs
    obtain ⟨olds, q1, q2⟩ := vals_of (P := P) (g := g) (w := w) (E := E) (A := A) (cap := 0) (rows := []) (.inl rfl)
    have hf' := fits_nat (a := 0) (b := news.length) (c := by_) (by rw [iadd_eq, Int.ofNat_zero, Int.zero_add]; exact hf)
    by_cases h0 : news = []
    · have hv : vs = [] := by subst h0; exact hn
      have := ap_null (ty := ty) (xs := []) hT hg hd rfl h0 hv q2 hnew rfl
      exact this
    · exact ap_grow (ty := ty) (xs := []) hT hg hd q1 q2 hn hnew hf' (by have := List.length_pos_iff.2 h0; simp; omega)
  | lst oo cc E' xs =>
    cases cc with
    | false => simp [apRowsK] at h
    | true =>
      simp only [apRowsK] at h
      obtain ⟨rfl, h1⟩ := beqE_some h
      clear h
      cases news with
      | nil => cases h1
      | cons x news =>
        simp only at h1
        obtain ⟨hf, h2⟩ := cond_none h1
        clear h1
        rw [snocK_eq, Nat.zero_add, lcat_eq] at h2
        rw [ilen_eq, ilen_eq] at hf
        refine ⟨_, _, h2, fun ta tb ty e eb i z g w val B c vs hT hg hd hs hn hnew => ?_⟩
        obtain ⟨A, cap, e1, h3, h4, h5⟩ := lst_rows hs
        obtain ⟨olds, q1, q2⟩ := vals_of (P := P) (cap := cap) h5
        subst e1
        exact ap_grow (ty := ty) hT hg hd q1 q2 hn hnew (fits_nat hf) (by rw [h4 rfl]; simp)
  | own τ E' rr cc =>
    simp only [apRowsK] at h
    obtain ⟨rfl, h1⟩ := beqE_some h
    clear h
    obtain ⟨blk, hb, h2⟩ := getK_some h1
    clear h1
    split at h2
    case h_2 => cases h2
    rename_i m E'' xs
    obtain ⟨rfl, h3⟩ := beqE_some h2
    clear h2
    rw [lenOf_eq] at h3
    obtain ⟨hf, h4⟩ := cond_none h3
    clear h3
    have hlen : ∀ (g : G) (w : World) (val : Value), m ≠ .dead → Good g hp w → V3 g hp w (.own τ E rr cc) val → lenD rr xs = (rowsD rr xs).length := by
      intro g w val hm hg hs
      obtain ⟨_, hs'⟩ := own_shape hs hb hm
      unfold lenD
      rcases hs' with ⟨hρ, _, e⟩ | ⟨_, _, _, _, oN, lN, _, _, _, _, _, _, _, e, hle⟩
      · have := good_nil hg hs.1 hb hm hρ
        subst this
        rw [e]
        cases rr <;> simp [rowsD, lsub_eq]
      · cases rr with
        | none => simp [rngD, rowsD, ilen_eq]
        | some p =>
          simp only [rngD] at e
          subst e
          simp only [rngD, rowsD, lsub_eq, iadd_eq]
          rw [show ((oN : Int)).toNat = oN by omega, show ((oN : Int) + lN - oN).toNat = lN by omega]
          simp
          omega
    cases cc with
    | true =>
      have hmd : m ≠ .dead := fun e => by subst e; simp at h4
      cases news with
      | nil => cases m <;> simp at h4
      | cons x news' =>
        have h4 : (rowsOf rr xs fun ys => snocK hp (.rows .live E (lcat ys (x :: news'))) 0 fun n hp => κ (.own n E none false) hp) = some r := by
          cases m with
          | dead => exact absurd rfl hmd
          | live => exact h4
          | frozen => exact h4
        rw [rowsOf_eq, snocK_eq, Nat.zero_add, lcat_eq] at h4
        refine ⟨_, _, h4, fun ta tb ty e eb i z g w val B c vs hT hg hd hs hn hnew => ?_⟩
        obtain ⟨A, cap, e1, h5, h6, h7⟩ := own_rows' hg hs hb hmd
        obtain ⟨olds, q1, q2⟩ := vals_of (P := P) (cap := cap) h7
        rw [hlen g w val hmd hg hs, ilen_eq] at hf
        subst e1
        exact ap_grow (ty := ty) hT hg hd q1 q2 hn hnew (fits_nat hf) (by rw [h6 rfl]; simp)
    | false =>
      simp only at h4
      split at h4
      case h_2 => cases h4
      have fin : ∀ (ys : List AV), (∀ (g : G) (w : World) (val : Value), Good g hp w → V3 g hp w (.own τ E rr false) val → ys = rowsD rr xs ∧ (∀ oN lN : Nat, rngD rr xs = ((oN : Int), (lN : Int)) → oN + lN = xs.length)) →
          κ (.own (hp.set τ (.rows .dead E xs)).length E none false) (hp.set τ (.rows .dead E xs) ++ [.rows .live E (ys ++ news)]) = some r → ∃ v hp', κ v hp' = some r ∧ ApOk P hp (.own τ E rr false) E by_ news v hp' := by
        intro ys hys h
        refine ⟨_, _, h, fun ta tb ty e eb i z g w val B c vs hT hg hd hs hn hnew => ?_⟩
        obtain ⟨rfl, hall⟩ := hys g w val hg hs
        have hmd : Mode.live ≠ .dead := by simp
        rw [hlen g w val hmd hg hs, ilen_eq] at hf
        have hf := fits_nat hf
        obtain ⟨A, cap, e1, h5, _, h7⟩ := own_rows' hg hs hb hmd
        obtain ⟨olds, q1, q2⟩ := vals_of (P := P) (cap := cap) h7
        have hgd := hg.dead (E := E) (xs := xs) hb
        have htd : Trans g hp w g (hp.set τ (.rows .dead E xs)) w := Trans.dead
        by_cases hc : cap < (rowsD rr xs).length + news.length
        · subst e1
          obtain ⟨vv, w', g', k1, k2, k3, k4, k5⟩ := ap_grow (ty := ty) hT hgd (fun x => by rw [hd]; simp) (q1.trans htd hg) q2 (hn.trans htd hg) hnew hf hc
          exact ⟨vv, w', g', k1, htd.trans k2, k3, k4, k5⟩
        · obtain ⟨hdt, hsh⟩ := own_shape hs hb hmd
          rcases hsh with ⟨hρ, ⟨A', e2⟩, e3⟩ | ⟨b, base, k, cap', oN, lN, hρ, e2, hk, _, _, hcp, hun, e3, hle⟩
          · have hx := good_nil hg hdt hb hmd hρ
            rw [e2] at e1
            obtain ⟨hA, hl0, hc0⟩ := Value.slice.inj e1
            subst hA
            subst hc0
            have hr0 : rowsD rr xs = [] := by
              apply List.eq_nil_of_length_eq_zero; omega
            have hn0 : news = [] := by
              apply List.eq_nil_of_length_eq_zero; omega
            have hv0 : vs = [] := by rw [hn0] at hn; exact hn
            subst e2
            have := ap_null (ty := ty) (xs := rowsD rr xs) hT hgd (fun x => by rw [hd]; simp) hr0 hn0 hv0 q2 hnew rfl
            obtain ⟨vv, w', g', k1, k2, k3, k4, k5⟩ := this
            refine ⟨vv, w', g', ?_, htd.trans k2, k3, k4, k5⟩
            rw [hr0] at k1
            exact k1
          · rw [e2] at e1
            obtain ⟨hA, hlN, hcc⟩ := Value.slice.inj e1
            subst hA
            subst hcc
            have hR : PRows g.S g.Sl w E (rowsD rr xs) b (base + oN * E) := by
              obtain ⟨bk, p1, p2⟩ := hg.tok τ hdt
              rw [hb] at p1
              cases p1
              rcases p2 with ⟨p2, _⟩ | ⟨b', o', hρ', hS, _, hR⟩
              · rw [hρ] at p2; cases p2
              rw [hρ] at hρ'
              cases hρ'
              cases rr with
              | none =>
                simp only [rngD] at e3
                have : oN = 0 := by have := congrArg Prod.fst e3; simp at this; omega
                subst this
                simpa [rowsD] using hR
              | some p =>
                simp only [rngD] at e3
                subst e3
                simp only [rowsD, lsub_eq]
                exact PRows_take (PRows_drop hR)
            have hl := hall oN lN e3
            rw [e2, hlN]
            exact ap_move (ty := ty) hT hg hd hdt hρ hb hR hk (by rw [Nat.add_mul] at hun; rw [Nat.add_assoc]; exact hun) q2 hn hnew hf (by omega) |> fun ⟨vv, w', g', k1, k2, k3, k4, k5⟩ => ⟨vv, w', g', k1, k2, k3, k4, by rw [set_len]; exact k5⟩
      split at h4
      · rw [setK_eq, snocK_eq, Nat.zero_add, lcat_eq] at h4
        exact fin xs (fun g w val hg hs => ⟨rfl, fun oN lN e => by simp only [rngD, ilen_eq] at e; have h1 := congrArg Prod.fst e; have h2 := congrArg Prod.snd e; simp at h1 h2; omega⟩) h4
      · rename_i o1 l1
        rcases cond_some h4 with ⟨hc, h5⟩ | ⟨hc, h5⟩
        · rw [setK_eq, snocK_eq, Nat.zero_add, lcat_eq] at h5
          refine fin (lsub xs o1 (iadd o1 l1)) (fun g w val hg hs => ⟨rfl, fun oN lN e => ?_⟩) h5
          simp only [rngD] at e
          cases e
          rw [ieq_eq, iadd_eq, ilen_eq] at hc
          have hc := of_decide_eq_true hc
          omega
        · obtain ⟨hc2, h6⟩ := cond_none h5
          rw [setK_eq] at h6
          rw [ile_eq, iadd_eq, iadd_eq, ilen_eq, ilen_eq] at hc2
          have hc2 := of_decide_eq_true hc2
          rw [ieq_eq, iadd_eq, ilen_eq] at hc
          have hc := of_decide_eq_false hc
          refine ⟨_, _, h6, fun ta tb ty e eb i z g w val B c vs hT hg hd hs hn hnew => ?_⟩
          have hmd : Mode.live ≠ .dead := by simp
          have hs1 : V1 g hp w (.own τ E (some (o1, l1)) false) val := hs
          obtain ⟨hdt, hsh⟩ := own_shape hs1 hb hmd
          rcases hsh with ⟨hρ, ⟨A', e2⟩, e3⟩ | ⟨b, base, k, cap, oN, lN, hρ, e2, hk, _, _, hcp, hun, e3, hle⟩
          · have hx := good_nil hg hdt hb hmd hρ
            simp only [rngD] at e3
            cases e3
            subst hx
            simp at hc
          · simp only [rngD] at e3
            cases e3
            have hcp := hcp (.inl rfl)
            have hk := hk.resolve_right (by omega)
            subst hk
            rw [hlen g w val hmd hg hs, ilen_eq] at hf
            have hf := fits_nat hf
            obtain ⟨A, cap2, e4, _, _, h7⟩ := own_rows' hg hs hb hmd
            rw [e2] at e4
            obtain ⟨olds, q1, q2⟩ := vals_of (P := P) (cap := cap2) h7
            have hll : (rowsD (some ((oN : Int), (lN : Int))) xs).length = lN := (Value.slice.inj e4).2.1.symm
            rw [hll] at q2 hf e4
            obtain ⟨hA, _, hcc⟩ := Value.slice.inj e4
            subst hA
            subst hcc
            have := ap_over (ty := ty) hT hg hd hdt hρ hb hcp hun q2 hn hnew hf (by omega)
            have e5 : lcat (lcat (lsub xs 0 (iadd oN lN)) news) (lsub xs (iadd (iadd oN lN) (ilen news)) (ilen xs)) = xs.take (oN + lN) ++ news ++ xs.drop (oN + lN + news.length) := by
              simp only [lcat_eq, lsub_eq, iadd_eq, ilen_eq]
              rw [show (0 : Int).toNat = 0 by rfl, List.drop_zero, show ((oN : Int) + lN - 0).toNat = oN + lN by omega, show ((oN : Int) + lN + news.length).toNat = oN + lN + news.length by omega]
              congr 1
              rw [List.take_of_length_le]
              simp
              omega
            have e6 : iadd (lN : Int) (ilen news) = ((lN + news.length : Nat) : Int) := by rw [iadd_eq, ilen_eq]; simp
            rw [e5, e6, e2]
            exact this
  | _ => simp [apRowsK] at h

theorem evs_two {us : List AV} {l : List Operand} {s x : AV} (h : evsD tm l = some us) (e : us = [s, x]) : ∃ p q, l = [p, q] ∧ evD tm p = some s ∧ evD tm q = some x := by
  subst e
  match l, h with
  | [], h => simp [evsD] at h
  | [p], h =>
    simp only [evsD] at h
    obtain ⟨v, hv, h⟩ := Option.bind_eq_some_iff.mp h
    simp at h
  | [p, q], h =>
    simp only [evsD] at h
    obtain ⟨v, hv, h⟩ := Option.bind_eq_some_iff.mp h
    obtain ⟨vs, hvs, h⟩ := Option.bind_eq_some_iff.mp h
    obtain ⟨v', hv', h'⟩ := Option.bind_eq_some_iff.mp hvs
    simp at h' h
    obtain ⟨rfl, rfl⟩ := h
    simp at h'
    subst h'
    exact ⟨p, q, rfl, hv, hv'⟩
  | p :: q :: t :: l, h =>
    simp only [evsD] at h
    obtain ⟨v, hv, h⟩ := Option.bind_eq_some_iff.mp h
    obtain ⟨vs, hvs, h⟩ := Option.bind_eq_some_iff.mp h
    obtain ⟨v', hv', h'⟩ := Option.bind_eq_some_iff.mp hvs
    obtain ⟨vs', hvs', h'⟩ := Option.bind_eq_some_iff.mp h'
    obtain ⟨v'', hv'', h''⟩ := Option.bind_eq_some_iff.mp hvs'
    obtain ⟨vs'', hvs'', h''⟩ := Option.bind_eq_some_iff.mp h''
    simp at h h' h''
    subst h''
    subst h'
    simp at h

theorem append_step (hT : TOk P T) {c : Call} (ho : o.op = .call c) (hc : c.callee = .builtin .append) (h : (match c.argTypes.toList with
      | [ta, tb] => tyK T ta fun _ _ _ _ d => tyK T tb fun _ _ _ _ db => match (generalizing := false) d, db with
        | .slice e, .slice _ => tyK T e fun E _ by_ z _ => bif Nat.beq by_ 0 || isTop z then none else evsK tm c.args.toList fun
          | [s, x] => srcK hp x E fun news => apRowsK hp s E by_ news κ
          | _ => none
        | _, _ => none
      | _ => none) = some r) : StepM P o tm hp κ r := by
  split at h
  case h_2 => cases h
  rename_i ta tb hat
  obtain ⟨s1, a1, b1, z1, d1, hs, h1⟩ := tyK_some h
  clear h
  obtain ⟨s2, a2, b2, z2, d2, hs2, h2⟩ := tyK_some h1
  clear h1
  split at h2
  case h_2 => cases h2
  rename_i e eb
  obtain ⟨E, a3, by_, z3, d3, hs3, h3⟩ := tyK_some h2
  clear h2
  rcases cond_some h3 with ⟨_, h4⟩ | ⟨hb, h4⟩
  · cases h4
  clear h3
  simp only [Bool.or_eq_false_iff] at hb
  have hby : 0 < by_ := Nat.pos_of_ne_zero fun e => by subst e; simp at hb
  have hz : z3 ≠ .top := fun e => by subst e; simp [isTop] at hb
  obtain ⟨us, hus, h5⟩ := evsK_some h4
  clear h4
  split at h5
  case h_2 => cases h5
  rename_i sv xv
  obtain ⟨p, q, hargs, hp1, hq1⟩ := evs_two hus rfl
  obtain ⟨news, h6, hsrc⟩ := src_ok (P := P) h5
  obtain ⟨v, hp', h7, hap⟩ := apRows_ok (P := P) hby h6
  have hca : c.args = #[p, q] := by rw [← Array.toList_inj]; exact hargs
  have hcat : c.argTypes = #[ta, tb] := by rw [← Array.toList_inj]; exact hat
  refine ⟨v, hp', h7, fun Q a w g N hd hh hg hN => ?_⟩
  have hps := hh p (by rw [ho]; simp [Op.operands, Call.operands, hca]) _ hp1
  have hqs := hh q (by rw [ho]; simp [Op.operands, Call.operands, hca]) _ hq1
  obtain ⟨B, cc, vs, e1, hn, hnew⟩ := hsrc g w _ hg hqs
  obtain ⟨u1, hu1, _, hr1⟩ := (hT _ _ _ _ _ _ hs).under
  obtain ⟨u2, hu2, _, hr2⟩ := (hT _ _ _ _ _ _ hs2).under
  simp only [DRel] at hr1 hr2
  subst hr1; subst hr2
  obtain ⟨i, hi, hi1, hi2, hi3⟩ := (hT _ _ _ _ _ _ hs3).info
  obtain ⟨zv, hzv, hzc, _⟩ := hi3.resolve_left hz
  obtain ⟨vv, w', g', hr, k1, k2, k3, k4⟩ := hap ta tb o.type e eb i zv g w (a.eval p) B cc vs ⟨hu1, hu2, hi, hzv, hi1, hzc, hi2, hby⟩ hg hd hps hn hnew
  have hrun : (execOp a.eval o).run P w = .ok (.value vv) w' := by
    refine builtin_run ho hc ?_
    rw [hca, hcat]
    simp only [builtin, List.map_toArray, List.map_cons, List.map_nil, e1, Sem.run_bind, hr, Result.andThen_ok, Sem.run_pure]
  simp only [Oper.wp, hrun, Oper.upon]
  exact hN vv w' g' k1 k2 k3 k4 (fun b _ hn => absurd (by unfold wrB; rw [ho]; trivial) hn)
end
end Go.AM
