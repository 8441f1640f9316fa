import Derived.Test.YtlacambjecjdbaaAmUpd
set_option linter.unusedVariables false
set_option linter.unusedSimpArgs false
set_option linter.unnecessarySimpa false
/-! append. -/
namespace Go.AM

section
variable {P : Program} {T : TypeId → Option TI} {o : Oper} {tm : List AV} {hp : List Blk} {κ : AV → List Blk → R} {r : AV × List Blk}

theorem append_runs {w : World} {ta tb ty e eb : TypeId} {i : TypeInfo} {z : Value} (ht : P.underlying ta = some (.slice e)) (htb : P.underlying tb = some (.slice eb)) (hi : P.info? e = some i) (hz : i.zero = some z)
    {A B : Option Addr} {sLen sCap n c : Nat} {olds news : List Value} (hnew : ∀ w1 : World, w1.heap = w.heap → (Builtin.firstCells i.size n (.slice B n c)).run P w1 = .ok news.toArray w1)
    (hold : ∀ w1 : World, w1.heap = w.heap → (Builtin.firstCells i.size sLen (.slice A sLen sCap)).run P w1 = .ok olds.toArray w1) (hby : 0 < i.bytes) (hfit : (sLen + n) * i.bytes ≤ 140737488355328) :
    (sLen + n ≤ sCap → A = none → (Builtin.append_ #[ta, tb] ty #[.slice A sLen sCap, .slice B n c]).run P w = .ok (.slice none (sLen + n) sCap) w) ∧
    (sLen + n ≤ sCap → ∀ a w', A = some a → (storeCells (a.add (sLen * i.size)) news).run P w = .ok () w' → (Builtin.append_ #[ta, tb] ty #[.slice A sLen sCap, .slice B n c]).run P w = .ok (.slice A (sLen + n) sCap) w') ∧
    (sCap < sLen + n → ∃ cap rest, sLen + n ≤ cap ∧ rest.length = (cap - (sLen + n)) * z.cells.size ∧
      (Builtin.append_ #[ta, tb] ty #[.slice A sLen sCap, .slice B n c]).run P w = .ok (.slice (some ⟨w.heap.size, 0, none⟩) (sLen + n) cap) (w.drew.alloc (.cells (olds ++ news ++ rest).toArray e))) := by
  have hf := hnew w rfl
  refine ⟨fun h hA => ?_, fun h a w' hA hs => ?_, fun h => ?_⟩
  · subst hA
    simp [Builtin.append_, run_underlying ht, run_underlying htb, sizeOf, typeInfo, hi, Builtin.lenOf, h, hf]
  · subst hA
    simp [Builtin.append_, run_underlying ht, run_underlying htb, sizeOf, typeInfo, hi, Builtin.lenOf, h, hf, hs]
  · have hn : ¬ (sLen + n ≤ sCap) := by omega
    have h1 : sLen + n ≤ 140737488355328 := Nat.le_trans (Nat.le_mul_of_pos_right _ hby) hfit
    have h63' : ¬ (9223372036854775807 < ((sLen : Int) + (n : Int))) := by omega
    have hg := growslice_fits (need := sLen + n) (old := sCap) (bytes := i.bytes) (by omega) hfit
    have h48' : ¬ (281474976710656 < Builtin.nextslicecap (sLen + n) sCap * i.bytes) := by omega
    have hf' := hnew w.drew rfl
    have hfo := hold w.drew rfl
    refine ⟨grownCap w (sLen + n) sCap e, (Builtin.zeroCells z.cells (grownCap w (sLen + n) sCap e - (sLen + n))).toList, by simp [grownCap, Question.cut], by simp [Builtin.zeroCells], ?_⟩
    simp [Builtin.append_, run_underlying ht, run_underlying htb, sizeOf, typeInfo, zeroValue, hi, hz, Builtin.lenOf, hn, h63', h48', Question.forced, hf', hfo, newRow, grownCap]
    congr 2
    apply Array.ext'
    simp [List.append_assoc]

theorem vals_of {g : G} {w : World} {E : Nat} {rows : List AV} {A : Option Addr} {cap : Nat} (hor : rows = [] ∨ ∃ b off, A = some ⟨b, off, none⟩ ∧ PRows g.S g.Sl w E rows b off) :
    ∃ vs, PFlat g w E rows vs ∧ ∀ w1 : World, w1.heap = w.heap → (Builtin.firstCells E rows.length (.slice A rows.length cap)).run P w1 = .ok vs.toArray w1 := by
  rcases hor with rfl | ⟨b, off, rfl, hR⟩
  · refine ⟨[], rfl, fun w1 _ => ?_⟩
    cases A <;> simp [Builtin.firstCells, loadCells, loadCellsFrom]
  · obtain ⟨vs, h1, h2⟩ := PFlat_of hR
    refine ⟨vs, h1, fun w1 hw => run_firstCells_some w1 E rows.length ⟨b, off, none⟩ rows.length cap vs h1.len fun j v hj => ?_⟩
    rw [addr_add]
    have := h2 j v hj
    simpa [World.cell?, hw] using this

theorem lst_rows {g : G} {H : List Blk} {w : World} {oo c : Bool} {E : Nat} {xs : List AV} {v : Value} (h : V3 g H w (.lst oo c E xs) v) : ∃ A cap, v = .slice A xs.length cap ∧ xs.length ≤ cap ∧ (c = true → cap = xs.length) ∧
    (xs = [] ∨ ∃ b off, A = some ⟨b, off, none⟩ ∧ PRows g.S g.Sl w E xs b off) := by
  simp only [V3, V2, V1, PCell] at h
  obtain ⟨A, cap, e, h1, h2, h3⟩ := h
  exact ⟨A, cap, e, h1, h2, h3.imp id fun ⟨b, off, h4, _, h5⟩ => ⟨b, off, h4, h5⟩⟩

theorem own_rows' {g : G} {H : List Blk} {w : World} {τ E : Nat} {rr : Option (Int × Int)} {c : Bool} {v : Value} {m : Mode} {xs : List AV} (hg : Good g H w)
    (h : V3 g H w (.own τ E rr c) v) (hb : H[τ]? = some (.rows m E xs)) (hm : m ≠ .dead) :
    ∃ A cap, v = .slice A (rowsD rr xs).length cap ∧ (rowsD rr xs).length ≤ cap ∧ (c = true → cap = (rowsD rr xs).length) ∧ (rowsD rr xs = [] ∨ ∃ b off, A = some ⟨b, off, none⟩ ∧ PRows g.S g.Sl w E (rowsD rr xs) b off) := by
  obtain ⟨blk, h1, h2⟩ := hg.tok τ h.1
  rw [hb] at h1
  cases h1
  have h3 := own_rows (S := g.S) (Sl := g.Sl) h hb hm (by
    cases m with
    | dead => exact absurd rfl hm
    | live =>
      rcases h2 with h2 | ⟨b, o, h3, h4, h5, h6⟩
      · exact .inl h2
      · exact .inr ⟨b, o, h3, h6⟩
    | frozen =>
      rcases h2 with h2 | ⟨b, o, h3, h4, h5, h6⟩
      · exact .inl h2
      · exact .inr ⟨b, o, h3, h6⟩)
  obtain ⟨A, cap, e1, e2, e3, e4⟩ := h3
  exact ⟨A, cap, e1, e2, e3, e4.imp id fun ⟨b, off, base, h4, _, h5⟩ => ⟨b, off, h4, h5⟩⟩

theorem src_ok {x : AV} {E : Nat} {κ : List AV → R} (h : srcK hp x E κ = some r) : ∃ news, κ news = some r ∧ ∀ (g : G) (w : World) (v : Value), Good g hp w → V3 g hp w x v →
    ∃ A cap vs, v = .slice A news.length cap ∧ PFlat g w E news vs ∧ ∀ w1 : World, w1.heap = w.heap → (Builtin.firstCells E news.length (.slice A news.length cap)).run P w1 = .ok vs.toArray w1 := by
  cases x <;> simp only [srcK] at h <;> try (cases h; done)
  case nil =>
    refine ⟨[], h, fun g w v hg hv => ?_⟩
    simp only [V3, V2, V1, PCell] at hv
    obtain ⟨A, rfl⟩ := hv
    obtain ⟨vs, h1, h2⟩ := vals_of (P := P) (g := g) (w := w) (E := E) (A := A) (cap := 0) (rows := []) (.inl rfl)
    exact ⟨A, 0, vs, rfl, h1, h2⟩
  case lst oo c E' xs =>
    obtain ⟨rfl, h'⟩ := beqE_some h
    refine ⟨xs, h', fun g w v hg hv => ?_⟩
    obtain ⟨A, cap, e, _, _, h3⟩ := lst_rows hv
    obtain ⟨vs, h1, h2⟩ := vals_of (P := P) (cap := cap) h3
    exact ⟨A, cap, vs, e, h1, h2⟩
  case own τ E' rr c =>
    obtain ⟨rfl, h'⟩ := beqE_some h
    clear h
    obtain ⟨blk, hb, h1⟩ := getK_some h'
    clear h'
    have key : ∀ m xs, blk = .rows m E xs → m ≠ .dead → rowsOf rr xs κ = some r → ∃ news, κ news = some r ∧ ∀ (g : G) (w : World) (v : Value), Good g hp w → V3 g hp w (.own τ E rr c) v →
        ∃ A cap vs, v = .slice A news.length cap ∧ PFlat g w E news vs ∧ ∀ w1 : World, w1.heap = w.heap → (Builtin.firstCells E news.length (.slice A news.length cap)).run P w1 = .ok vs.toArray w1 := by
      intro m xs e hm h
      subst e
      rw [rowsOf_eq] at h
      refine ⟨_, h, fun g w v hg hv => ?_⟩
      obtain ⟨A, cap, e, _, _, h3⟩ := own_rows' hg hv hb hm
      obtain ⟨vs, h1, h2⟩ := vals_of (P := P) (cap := cap) h3
      exact ⟨A, cap, vs, e, h1, h2⟩
    split at h1
    · obtain ⟨rfl, h2⟩ := beqE_some h1
      exact key _ _ rfl (by simp) h2
    · obtain ⟨rfl, h2⟩ := beqE_some h1
      exact key _ _ rfl (by simp) h2
    · cases h1

section dead
variable {g : G} {H : List Blk} {w : World} {τ E : Nat} {xs : List AV}

theorem Trans.dead : Trans g H w g (H.set τ (.rows .dead E xs)) w where
  dom _ h := h
  ρ _ _ := rfl
  S _ h := h
  Sl _ h := h
  newS _ h := .inl h
  newSl _ h := .inl h
  size := Nat.le_refl _
  shape := .refl w
  env := .refl w
  prot _ _ _ := rfl
  own b h := by
    obtain ⟨x, o, h1, h2, blk, h3, h4⟩ := h
    rcases get_set h3 with ⟨rfl, rfl, _⟩ | ⟨hne, h3⟩
    · exact h4.elim
    · exact .inr ⟨x, o, h1, h2, blk, h3, h4⟩
  len x hx m E' ys h hm := by
    rcases get_set h with ⟨rfl, h1, _⟩ | ⟨hne, h3⟩
    · cases h1; exact absurd rfl hm
    · exact ⟨m, ys, h3, hm, rfl⟩
  box x hx y h := by
    rcases get_set h with ⟨rfl, h1, _⟩ | ⟨hne, h3⟩
    · cases h1
    · exact ⟨y, h3⟩

theorem Good.dead (hg : Good g H w) {blk : Blk} (hb : H[τ]? = some blk) : Good g (H.set τ (.rows .dead E xs)) w where
  sub := hg.sub
  lt := hg.lt
  tok x hx := by
    obtain ⟨bk, h1, h2⟩ := hg.tok x hx
    by_cases e : x = τ
    · subst e
      exact ⟨_, get_set_eq hb, trivial⟩
    · exact ⟨bk, by rw [get_set_ne e]; exact h1, BlkRel.trans Trans.dead hg hx (fun b o hρ ho => ⟨rfl, Own.notS hg ⟨x, o, hx, hρ, owned_of h1 ho⟩⟩) h2⟩
  inj x y b o o' hx hy h1 h2 h3 h4 := by
    have key : ∀ z, owned (H.set τ (.rows .dead E xs)) z → owned H z := by
      rintro z ⟨bk, h5, h6⟩
      rcases get_set h5 with ⟨rfl, rfl, _⟩ | ⟨hne, h7⟩
      · exact h6.elim
      · exact ⟨bk, h7, h6⟩
    exact hg.inj x y b o o' hx hy h1 h2 (key x h3) (key y h4)
end dead

/-- what an append that takes new memory leaves -/
theorem grow_fin {g : G} {H : List Blk} {w w1 : World} {E : Nat} {xs : List AV} {cs rest : List Value} {e : TypeId} {cap : Nat} (hg : Good g H w) (hd : ∀ τ, g.dom τ ↔ τ < H.length) (hf : PFlat g w E xs cs)
    (hw : w1.heap = w.heap.push (.cells (cs ++ rest).toArray e)) (he : Env w w1) (hc : xs.length ≤ cap) (hr : rest.length = (cap - xs.length) * E) :
    ∃ g', Trans g H w g' (H ++ [.rows .live E xs]) w1 ∧ Good g' (H ++ [.rows .live E xs]) w1 ∧ (∀ τ, g'.dom τ ↔ τ < (H ++ [Blk.rows .live E xs]).length) ∧
      V3 g' (H ++ [.rows .live E xs]) w1 (.own H.length E none false) (.slice (some ⟨w.heap.size, 0, none⟩) xs.length cap) := by
  have hpre : H <+: H ++ [.rows .live E xs] := List.prefix_append _ _
  have hdd : ∀ τ, g.dom τ → τ < H.length := fun τ h => (hd τ).1 h
  have hg2 := hg.ext hpre hdd
  have hτ : ¬ g.dom H.length := fun h => by have := hdd _ h; omega
  have ht := (Trans.ext (w := w) hpre hdd).trans (Trans.push hg2 hτ hw he)
  have h7 := hf.trans ht hg
  have hsz : (cs ++ rest).toArray.size = cap * E := by
    simp only [List.size_toArray, List.length_append, hf.len, hr, ← Nat.add_mul]
    congr 1
    omega
  have hb : BlkRel (g.add H.length (some (w.heap.size, 0))) (H ++ [.rows .live E xs]) w1 H.length (.rows .live E xs) := by
    refine .inr ⟨w.heap.size, 0, G.add_ρ, fun h => ?_, unf_push hw (Nat.zero_le _), h7.rows fun j v hj => ?_⟩
    · have := hg.lt _ h; omega
    · rw [Nat.zero_add, cell_push hw, List.getElem?_toArray, List.getElem?_append_left (List.getElem?_eq_some_iff.1 hj).1]; exact hj
  refine ⟨_, ht, Good.push hg2 hτ hw he (prefix_last (List.prefix_refl _)) hb, fun τ => ?_, own_new (List.prefix_refl _) G.add_dom G.add_ρ hc (by simp) (unf_push hw (by omega))⟩
  simp only [G.add, hd, List.length_append, List.length_singleton]
  omega

theorem null_fin {g : G} {H : List Blk} {w : World} {E : Nat} {A : Option Addr} (hg : Good g H w) (hd : ∀ τ, g.dom τ ↔ τ < H.length) :
    ∃ g', Trans g H w g' (H ++ [.rows .live E []]) w ∧ Good g' (H ++ [.rows .live E []]) w ∧ (∀ τ, g'.dom τ ↔ τ < (H ++ [Blk.rows .live E []]).length) ∧
      V3 g' (H ++ [.rows .live E []]) w (.own H.length E none false) (.slice A 0 0) := by
  have hpre : H <+: H ++ [.rows .live E []] := List.prefix_append _ _
  have hdd : ∀ τ, g.dom τ → τ < H.length := fun τ h => (hd τ).1 h
  have hg2 := hg.ext hpre hdd
  have hτ : ¬ g.dom H.length := fun h => by have := hdd _ h; omega
  refine ⟨_, (Trans.ext (w := w) hpre hdd).trans (Trans.null hτ), Good.null hg2 hτ (prefix_last (List.prefix_refl _)), fun τ => ?_, own_null (List.prefix_refl _) G.add_dom G.add_ρ⟩
  simp only [G.add, hd, List.length_append, List.length_singleton]
  omega

section move
variable {g : G} {H : List Blk} {w w' : World} {τ E b base base' : Nat} {xs ys : List AV}

theorem Trans.move (hd : ∀ τ, g.dom τ ↔ τ < H.length) (hdt : g.dom τ) (hρ : g.ρ τ = some (b, base)) (hb : H[τ]? = some (.rows .live E xs)) (hu : Upd w b w') :
    Trans g H w (g.add H.length (some (b, base'))) (H.set τ (.rows .dead E xs) ++ [.rows .live E ys]) w' where
  dom _ h := .inl h
  ρ x h := by have : x ≠ H.length := fun e => by have := (hd x).1 h; omega
              simp [G.add, this]
  S _ h := h
  Sl _ h := h
  newS _ h := .inl h
  newSl _ h := .inl h
  size := by rw [hu.size]; exact Nat.le_refl _
  shape := hu.shape
  env := hu.env
  prot x hx hn := hu.other x fun e => hn ⟨τ, base, hdt, by rw [hρ, e], _, hb, trivial⟩
  own x h := by
    obtain ⟨y, o, h1, h2, bk, h3, h4⟩ := h
    by_cases hy : y = H.length
    · subst hy
      simp [G.add] at h2
      exact .inr ⟨τ, base, hdt, by rw [hρ, h2.1], _, hb, trivial⟩
    · have h1 := h1.resolve_right hy
      have hlt := (hd y).1 h1
      rw [List.getElem?_append_left (by simpa using hlt)] at h3
      simp [G.add, hy] at h2
      rcases get_set h3 with ⟨rfl, rfl, _⟩ | ⟨_, h3⟩
      · exact h4.elim
      · exact .inr ⟨y, o, h1, h2, bk, h3, h4⟩
  len y hy m E' zs h hm := by
    have hlt := (hd y).1 hy
    rw [List.getElem?_append_left (by simpa using hlt)] at h
    rcases get_set h with ⟨rfl, h1, _⟩ | ⟨_, h3⟩
    · cases h1; exact absurd rfl hm
    · exact ⟨m, zs, h3, hm, rfl⟩
  box y hy z h := by
    have hlt := (hd y).1 hy
    rw [List.getElem?_append_left (by simpa using hlt)] at h
    rcases get_set h with ⟨rfl, h1, _⟩ | ⟨_, h3⟩
    · cases h1
    · exact ⟨z, h3⟩

theorem Good.move (hg : Good g H w) (hd : ∀ τ, g.dom τ ↔ τ < H.length) (hdt : g.dom τ) (hρ : g.ρ τ = some (b, base)) (hb : H[τ]? = some (.rows .live E xs)) (hu : Upd w b w')
    (hr : PRows (g.add H.length (some (b, base'))).S (g.add H.length (some (b, base'))).Sl w' E ys b base') (hun : Unf w b 0) :
    Good (g.add H.length (some (b, base'))) (H.set τ (.rows .dead E xs) ++ [.rows .live E ys]) w' where
  sub := hg.sub
  lt x h := by rw [hu.size]; exact hg.lt x h
  tok x hx := by
    have hO : Own g H b := ⟨τ, base, hdt, hρ, _, hb, trivial⟩
    by_cases e : x = H.length
    · subst e
      refine ⟨.rows .live E ys, by simp, .inr ⟨b, base', G.add_ρ, hO.notS hg, hun.mono hu.shape, hr⟩⟩
    · have hx' := hx.resolve_right e
      have hlt := (hd x).1 hx'
      by_cases e' : x = τ
      · subst e'
        exact ⟨.rows .dead E xs, by rw [List.getElem?_append_left (by simpa using hlt)]; exact get_set_eq hb, trivial⟩
      · obtain ⟨bk, h1, h2⟩ := hg.tok x hx'
        refine ⟨bk, by rw [List.getElem?_append_left (by simpa using hlt), get_set_ne e']; exact h1, BlkRel.trans (Trans.move hd hdt hρ hb hu) hg hx' (fun c o hρ' ho' => ⟨hu.other c fun ec => ?_, Own.notS hg ⟨x, o, hx', hρ', owned_of h1 ho'⟩⟩) h2⟩
        subst ec
        exact e' (hg.inj x τ c o base hx' hdt hρ' hρ (owned_of h1 ho') ⟨_, hb, trivial⟩)
  inj x y c o o' hx hy h1 h2 h3 h4 := by
    have key : ∀ z, z ≠ H.length → g.dom z → owned (H.set τ (.rows .dead E xs) ++ [.rows .live E ys]) z → z ≠ τ ∧ owned H z := by
      rintro z hz hdz ⟨bk, h5, h6⟩
      have hlt := (hd z).1 hdz
      rw [List.getElem?_append_left (by simpa using hlt)] at h5
      rcases get_set h5 with ⟨rfl, rfl, _⟩ | ⟨hne, h7⟩
      · exact h6.elim
      · exact ⟨hne, bk, h7, h6⟩
    by_cases ex : x = H.length
    · by_cases ey : y = H.length
      · rw [ex, ey]
      · subst ex
        simp [G.add] at h1
        simp [G.add, ey] at h2
        obtain ⟨k1, k2⟩ := key y ey (hy.resolve_right ey) h4
        obtain ⟨rfl, _⟩ := h1
        exact absurd (hg.inj y τ b o' base (hy.resolve_right ey) hdt h2 hρ k2 ⟨_, hb, trivial⟩) k1
    · obtain ⟨k1, k2⟩ := key x ex (hx.resolve_right ex) h3
      simp [G.add, ex] at h1
      by_cases ey : y = H.length
      · subst ey
        simp [G.add] at h2
        obtain ⟨rfl, _⟩ := h2
        exact absurd (hg.inj x τ b o base (hx.resolve_right ex) hdt h1 hρ k2 ⟨_, hb, trivial⟩) k1
      · simp [G.add, ey] at h2
        exact hg.inj x y c o o' (hx.resolve_right ex) (hy.resolve_right ey) h1 h2 k2 (key y ey (hy.resolve_right ey) h4).2
end move
end
end Go.AM
