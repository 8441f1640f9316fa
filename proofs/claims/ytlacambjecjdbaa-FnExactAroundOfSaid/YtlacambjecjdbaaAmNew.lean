import Derived.Test.YtlacambjecjdbaaAmDir
set_option linter.unusedVariables false
set_option linter.unusedSimpArgs false
set_option linter.unnecessarySimpa false
/-! New memory: tokens for fresh blocks. -/
namespace Go.AM

def G.add (g : G) (τ : Nat) (p : Option (Nat × Nat)) : G := { g with dom := fun x => g.dom x ∨ x = τ, ρ := fun x => if x = τ then p else g.ρ x }

section
variable {g : G} {H : List Blk} {w : World} {τ : Nat}

theorem heap_alloc_old {o : Obj} {b : Nat} (h : b < w.heap.size) : (w.alloc o).heap[b]? = w.heap[b]? := by
  show (w.heap.push o)[b]? = _
  rw [Array.getElem?_push, if_neg (by omega)]

theorem heap_alloc_new {o : Obj} : (w.alloc o).heap[w.heap.size]? = some o := by
  show (w.heap.push o)[w.heap.size]? = _
  simp

theorem Shape.alloc (w : World) (o : Obj) : Shape w (w.alloc o) := by
  intro b cs el fr h
  have hb : b < w.heap.size := by
    rcases Nat.lt_or_ge b w.heap.size with h' | h'
    · exact h'
    · simp [Array.getElem?_eq_none h'] at h
  exact ⟨cs, by rw [heap_alloc_old hb]; exact h, rfl⟩

/-- a new token over a new block -/
theorem Trans.new (hg : Good g H w) (hτ : ¬ g.dom τ) {cs : Array Value} {el : TypeId} :
    Trans g H w (g.add τ (some (w.heap.size, 0))) H (w.alloc (.cells cs el)) where
  dom _ h := .inl h
  ρ x h := by have : x ≠ τ := fun e => hτ (e ▸ h); simp [G.add, this]
  S _ h := h
  Sl _ h := h
  newS _ h := .inl h
  newSl _ h := .inl h
  size := by simp
  shape := Shape.alloc w _
  env := .refl w
  prot b hb _ := heap_alloc_old hb
  own b hb := by
    obtain ⟨x, o, hd, hρ, ho⟩ := hb
    by_cases hx : x = τ
    · subst hx; simp [G.add] at hρ; exact .inl (by omega)
    · refine .inr ⟨x, o, hd.resolve_right hx, by simpa [G.add, hx] using hρ, ho⟩
  len x _ m E xs h hm := ⟨m, xs, h, hm, rfl⟩
  box x _ y h := ⟨y, h⟩

/-- a new token without memory -/
theorem Trans.null (hτ : ¬ g.dom τ) : Trans g H w (g.add τ none) H w where
  dom _ h := .inl h
  ρ x h := by have : x ≠ τ := fun e => hτ (e ▸ h); simp [G.add, this]
  S _ h := h
  Sl _ h := h
  newS _ h := .inl h
  newSl _ h := .inl h
  size := Nat.le_refl _
  shape := Shape.refl w
  env := .refl w
  prot b hb _ := rfl
  own b hb := by
    obtain ⟨x, o, hd, hρ, ho⟩ := hb
    by_cases hx : x = τ
    · subst hx; simp [G.add] at hρ
    · refine .inr ⟨x, o, hd.resolve_right hx, by simpa [G.add, hx] using hρ, ho⟩
  len x _ m E xs h hm := ⟨m, xs, h, hm, rfl⟩
  box x _ y h := ⟨y, h⟩

theorem BlkRel.trans {g' : G} {H' : List Blk} {w' : World} (ht : Trans g H w g' H' w') (hg : Good g H w) {x : Nat} (hx : g.dom x) {blk : Blk}
    (hown : ∀ b o, g.ρ x = some (b, o) → blk.owned → w'.heap[b]? = w.heap[b]? ∧ ¬ g'.S b) (h : BlkRel g H w x blk) : BlkRel g' H' w' x blk := by
  cases blk with
  | box v =>
    obtain ⟨b, o, hρ, hS, hu, hv⟩ := h
    have := hown b o hρ trivial
    exact ⟨b, o, (ht.ρ x hx).trans hρ, this.2, hu.mono ht.shape, hv.trans ht hg this.1⟩
  | rows m E xs =>
    cases m with
    | live =>
      rcases h with ⟨h1, h2⟩ | ⟨b, o, hρ, hS, hu, hv⟩
      · exact .inl ⟨(ht.ρ x hx).trans h1, h2⟩
      · have := hown b o hρ trivial
        exact .inr ⟨b, o, (ht.ρ x hx).trans hρ, this.2, hu.mono ht.shape, hv.trans ht hg this.1⟩
    | frozen =>
      rcases h with ⟨h1, h2⟩ | ⟨b, o, hρ, hS, hu, hv⟩
      · exact .inl ⟨(ht.ρ x hx).trans h1, h2⟩
      · exact .inr ⟨b, o, (ht.ρ x hx).trans hρ, ht.Sl b hS, hu.mono ht.shape, hv.trans ht hg (ht.keepS hg b (hg.sub b hS))⟩
    | dead => trivial

theorem owned_of {H : List Blk} {x : Nat} {blk : Blk} (h : H[x]? = some blk) (ho : blk.owned) : owned H x := ⟨blk, h, ho⟩

/-- nothing but new blocks, and one new token -/
theorem Good.new (hg : Good g H w) (hτ : ¬ g.dom τ) {cs : Array Value} {el : TypeId} {blk : Blk} (hb : H[τ]? = some blk)
    (hr : BlkRel (g.add τ (some (w.heap.size, 0))) H (w.alloc (.cells cs el)) τ blk) :
    Good (g.add τ (some (w.heap.size, 0))) H (w.alloc (.cells cs el)) where
  sub := hg.sub
  lt b h := by simp; have := hg.lt b h; omega
  tok x hx := by
    by_cases e : x = τ
    · subst e; exact ⟨blk, hb, hr⟩
    · have hx := hx.resolve_right e
      obtain ⟨blk', hb', hr'⟩ := hg.tok x hx
      refine ⟨blk', hb', BlkRel.trans (Trans.new hg hτ) hg hx (fun b o hρ ho => ?_) hr'⟩
      have hO : Own g H b := ⟨x, o, hx, hρ, owned_of hb' ho⟩
      exact ⟨heap_alloc_old (hO.lt hg), hO.notS hg⟩
  inj x y b o o' hx hy h1 h2 h3 h4 := by
    by_cases ex : x = τ
    · subst ex
      by_cases ey : y = x
      · exact ey.symm
      · simp [G.add] at h1
        simp [G.add, ey] at h2
        have hO : Own g H b := ⟨y, o', hy.resolve_right ey, h2, h4⟩
        have := hO.lt hg
        omega
    · by_cases ey : y = τ
      · subst ey
        simp [G.add] at h2
        simp [G.add, ex] at h1
        have hO : Own g H b := ⟨x, o, hx.resolve_right ex, h1, h3⟩
        have := hO.lt hg
        omega
      · simp [G.add, ex] at h1
        simp [G.add, ey] at h2
        exact hg.inj x y b o o' (hx.resolve_right ex) (hy.resolve_right ey) h1 h2 h3 h4

theorem Good.null (hg : Good g H w) (hτ : ¬ g.dom τ) {E : Nat} (hb : H[τ]? = some (.rows .live E [])) : Good (g.add τ none) H w where
  sub := hg.sub
  lt := hg.lt
  tok x hx := by
    by_cases e : x = τ
    · subst e; exact ⟨_, hb, .inl ⟨by simp [G.add], rfl⟩⟩
    · have hx := hx.resolve_right e
      obtain ⟨blk', hb', hr'⟩ := hg.tok x hx
      refine ⟨blk', hb', BlkRel.trans (Trans.null hτ) hg hx (fun b o hρ ho => ?_) hr'⟩
      have hO : Own g H b := ⟨x, o, hx, hρ, owned_of hb' ho⟩
      exact ⟨rfl, hO.notS hg⟩
  inj x y b o o' hx hy h1 h2 h3 h4 := by
    by_cases ex : x = τ
    · subst ex; simp [G.add] at h1
    · by_cases ey : y = τ
      · subst ey; simp [G.add] at h2
      · simp [G.add, ex] at h1
        simp [G.add, ey] at h2
        exact hg.inj x y b o o' (hx.resolve_right ex) (hy.resolve_right ey) h1 h2 h3 h4
end
end Go.AM
