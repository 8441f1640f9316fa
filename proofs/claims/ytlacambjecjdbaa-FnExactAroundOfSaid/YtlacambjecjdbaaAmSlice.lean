import Derived.Test.YtlacambjecjdbaaAmBuildS
set_option linter.unusedVariables false
set_option linter.unusedSimpArgs false
set_option linter.unnecessarySimpa false
/-! Slices of slices and strings. -/
namespace Go.AM

section
variable {P : Program} {T : TypeId → Option TI} {o : Oper} {tm : List AV} {hp : List Blk} {κ : AV → List Blk → R} {r : AV × List Blk}

def OptRel (n : Option Int) (v : Option Value) : Prop := (n = none ∧ v = none) ∨ ∃ i k, n = some i ∧ v = some (.int k i)

theorem sliceBound_run {w : World} {k : IntKind} {i : Int} {y n : Nat} {code : BoundsCode} (h : i = n) (hn : n ≤ y) : (Instr.sliceBound (.int k i) y code).run P w = .ok n w := by
  subst h
  have : 0 ≤ (n : Int) ∧ (n : Int) ≤ (y : Int) := by omega
  simp [Instr.sliceBound, asIntOf, this]

theorem sliceBounds_run {w : World} {isS : Bool} {len cap : Nat} {lo hi mx : Option Int} {lv hv mv : Option Value} (h1 : OptRel lo lv) (h2 : OptRel hi hv) (h3 : OptRel mx mv) {M H L : Nat}
    (hM : (mx = none ∧ M = cap) ∨ (mx = some (M : Int) ∧ M ≤ cap)) (hH : (hi = none ∧ mx = none ∧ H = len) ∨ (hi = some (H : Int) ∧ H ≤ M)) (hL : (lo = none ∧ L = 0) ∨ (lo = some (L : Int) ∧ L ≤ H)) :
    (Instr.sliceBounds isS len cap lv hv mv).run P w = .ok (L, H, M) w := by
  unfold Instr.sliceBounds
  rcases h3 with ⟨rfl, rfl⟩ | ⟨m, k3, rfl, rfl⟩
  · obtain rfl : M = cap := by rcases hM with ⟨_, h⟩ | ⟨h, _⟩ <;> simp_all
    rcases h2 with ⟨rfl, rfl⟩ | ⟨h, k2, rfl, rfl⟩
    · obtain rfl : H = len := by rcases hH with ⟨_, _, h⟩ | ⟨h, _⟩ <;> simp_all
      rcases h1 with ⟨rfl, rfl⟩ | ⟨l, k1, rfl, rfl⟩
      · obtain rfl : L = 0 := by rcases hL with ⟨_, h⟩ | ⟨h, _⟩ <;> simp_all
        simp
      · obtain ⟨e, hle⟩ : l = L ∧ L ≤ H := by rcases hL with ⟨h, _⟩ | ⟨h, h'⟩ <;> simp_all
        simp [sliceBound_run e hle]
    · obtain ⟨e, hle⟩ : h = H ∧ H ≤ M := by rcases hH with ⟨h, _⟩ | ⟨h, h'⟩ <;> simp_all
      rcases h1 with ⟨rfl, rfl⟩ | ⟨l, k1, rfl, rfl⟩
      · obtain rfl : L = 0 := by rcases hL with ⟨_, h⟩ | ⟨h, _⟩ <;> simp_all
        simp [sliceBound_run e hle]
      · obtain ⟨e', hle'⟩ : l = L ∧ L ≤ H := by rcases hL with ⟨h, _⟩ | ⟨h, h'⟩ <;> simp_all
        simp [sliceBound_run e hle, sliceBound_run e' hle']
  · obtain ⟨em, hlem⟩ : m = M ∧ M ≤ cap := by rcases hM with ⟨h, _⟩ | ⟨h, h'⟩ <;> simp_all
    rcases h2 with ⟨rfl, rfl⟩ | ⟨h, k2, rfl, rfl⟩
    · rcases hH with ⟨_, h, _⟩ | ⟨h, _⟩ <;> simp at h
    · obtain ⟨e, hle⟩ : h = H ∧ H ≤ M := by rcases hH with ⟨h, _⟩ | ⟨h, h'⟩ <;> simp_all
      rcases h1 with ⟨rfl, rfl⟩ | ⟨l, k1, rfl, rfl⟩
      · obtain rfl : L = 0 := by rcases hL with ⟨_, h⟩ | ⟨h, _⟩ <;> simp_all
        simp [sliceBound_run em hlem, sliceBound_run e hle]
      · obtain ⟨e', hle'⟩ : l = L ∧ L ≤ H := by rcases hL with ⟨h, _⟩ | ⟨h, h'⟩ <;> simp_all
        simp [sliceBound_run em hlem, sliceBound_run e hle, sliceBound_run e' hle']

theorem opt_rel {a : Act} {x : Option Operand} {κ : Option Int → R} (h : optK tm x κ = some r) : ∃ n, κ n = some r ∧
    ∀ (g : G) (H : List Blk) (w : World), (∀ y, x = some y → ∀ u, evD tm y = some u → V3 g H w u (a.eval y)) → OptRel n (x.map a.eval) := by
  cases x with
  | none => exact ⟨none, h, fun g H w _ => .inl ⟨rfl, rfl⟩⟩
  | some y =>
    obtain ⟨v, hv, h⟩ := evK_some h
    split at h
    · rename_i k n
      exact ⟨some n, h, fun g H w hh => .inr ⟨n, k, rfl, by rw [Option.map_some, V3_int.1 (hh y rfl _ hv)]⟩⟩
    · cases h

theorem opt_relE {x : Option Operand} {κ : Option Int → R} (h : optK tm x κ = some r) : ∃ n, κ n = some r ∧
    ∀ (a : Act) (g : G) (H : List Blk) (w : World), (∀ y, x = some y → ∀ u, evD tm y = some u → V3 g H w u (a.eval y)) → OptRel n (x.map a.eval) := by
  cases x with
  | none => exact ⟨none, h, fun a g H w _ => .inl ⟨rfl, rfl⟩⟩
  | some y =>
    obtain ⟨v, hv, h⟩ := evK_some h
    split at h
    · rename_i k n
      exact ⟨some n, h, fun a g H w hh => .inr ⟨n, k, rfl, by rw [Option.map_some, V3_int.1 (hh y rfl _ hv)]⟩⟩
    · cases h

def offA (A : Option Addr) (n : Nat) : Option Addr := A.map (·.add n)

theorem slice_run {w : World} {t e : TypeId} {E : Nat} (hu : (Go.underlying t).run P w = .ok (.slice e) w) (hs : (Go.sizeOf e).run P w = .ok E w) {A : Option Addr} {len cap : Nat}
    {lo hi mx : Option Int} {lv hv mv : Option Value} (h1 : OptRel lo lv) (h2 : OptRel hi hv) (h3 : OptRel mx mv) {M H L : Nat}
    (hM : (mx = none ∧ M = cap) ∨ (mx = some (M : Int) ∧ M ≤ cap)) (hH : (hi = none ∧ mx = none ∧ H = len) ∨ (hi = some (H : Int) ∧ H ≤ M)) (hL : (lo = none ∧ L = 0) ∨ (lo = some (L : Int) ∧ L ≤ H)) :
    (Instr.sliceAt t (.slice A len cap) lv hv mv).run P w = .ok (.slice (if M = L then A else offA A (L * E)) (H - L) (M - L)) w := by
  simp only [Instr.sliceAt, Sem.run_bind, hu, Result.andThen_ok, Instr.slice, sliceBounds_run h1 h2 h3 hM hH hL, hs, Sem.run_pure]
  rfl

theorem lst_slice {g : G} {H : List Blk} {w : World} {oo c c' : Bool} {E : Nat} {xs : List AV} {A : Option Addr} {len cap : Nat} (h : V3 g H w (.lst oo c E xs) (.slice A len cap)) {M Hh L : Nat}
    (h1 : L ≤ Hh) (h2 : Hh ≤ M) (h3 : Hh ≤ xs.length) (hc : c' = true → M = Hh) : V3 g H w (.lst oo c' E (lsub xs L Hh)) (.slice (if M = L then A else offA A (L * E)) (Hh - L) (M - L)) := by
  simp only [V3, V2, V1, PCell] at h ⊢
  obtain ⟨A', cap', e, hc1, hc2, hx⟩ := h
  cases e
  have el : (lsub xs L Hh) = (xs.drop L).take (Hh - L) := by
    rw [lsub_eq]
    congr 1
    omega
  have elen : (lsub xs L Hh).length = Hh - L := by rw [el]; simp; omega
  refine ⟨_, _, by rw [elen], by omega, fun e => by rw [elen]; have := hc e; omega, ?_⟩
  by_cases hm : M = L
  · left
    apply List.eq_nil_of_length_eq_zero
    omega
  · rcases hx with rfl | ⟨b, off, rfl, hS, hR⟩
    · left; rw [el]; simp
    · right
      refine ⟨b, off + L * E, by simp [hm, offA, addr_add], hS, ?_⟩
      rw [el]
      exact PRows_take (PRows_drop hR)

noncomputable def rngD (rr : Option (Int × Int)) (xs : List AV) : Int × Int :=
  match rr with
  | none => (0, ilen xs)
  | some p => p

theorem own_shape {g : G} {H : List Blk} {w : World} {τ E : Nat} {rr : Option (Int × Int)} {c : Bool} {v : Value} {m : Mode} {xs : List AV}
    (h : V1 g H w (.own τ E rr c) v) (hb : H[τ]? = some (.rows m E xs)) (hm : m ≠ .dead) :
    g.dom τ ∧ ((g.ρ τ = none ∧ (∃ A, v = .slice A 0 0) ∧ rngD rr xs = (0, 0)) ∨
      ∃ b base k cap oN lN : Nat, g.ρ τ = some (b, base) ∧ v = .slice (some ⟨b, k, none⟩) lN cap ∧ (k = base + oN * E ∨ cap = 0) ∧ lN ≤ cap ∧ (c = true → cap = lN) ∧ (c = false ∨ rr = none → xs.length ≤ oN + cap) ∧
        Unf w b (base + (oN + cap) * E) ∧ rngD rr xs = ((oN : Int), (lN : Int)) ∧ oN + lN ≤ xs.length) := by
  obtain ⟨hd, h⟩ := h
  refine ⟨hd, ?_⟩
  cases hρ : g.ρ τ with
  | none =>
    simp only [hρ] at h
    obtain ⟨hA, h⟩ := h
    refine .inl ⟨rfl, hA, ?_⟩
    cases rr with
    | none => have := h _ _ _ hb hm; simp only [rngD, ilen_eq]; rw [← this]; rfl
    | some p => obtain ⟨o', l'⟩ := p; obtain ⟨rfl, rfl⟩ := h; rfl
  | some p =>
    obtain ⟨b, base⟩ := p
    simp only [hρ] at h
    obtain ⟨k, oN, l, cap, rfl, hk, h1, h2, h3, h4, h5⟩ := h
    refine .inr ⟨b, base, k, cap, oN, l, rfl, rfl, hk, h1, h2, ?_, h4, ?_⟩
    · intro hor
      cases rr with
      | none => obtain ⟨rfl, h5⟩ := h5; have := h5 _ _ _ hb hm; omega
      | some q =>
        rcases hor with hor | hor
        · exact h3 hor _ _ _ hb hm
        · cases hor
    · cases rr with
      | none => obtain ⟨rfl, h5⟩ := h5; have := h5 _ _ _ hb hm; simp only [rngD, ilen_eq]; subst this; exact ⟨rfl, by omega⟩
      | some q => obtain ⟨o', l'⟩ := q; obtain ⟨rfl, rfl, h6⟩ := h5; exact ⟨rfl, h6 _ _ _ hb hm⟩
end
end Go.AM
