import Derived.Test.YtlacambjecjdbaaAmShare
set_option linter.unusedVariables false
set_option linter.unusedSimpArgs false
set_option linter.unnecessarySimpa false
/-! Calls that share the caller's memory. -/
namespace Go.AM

section
variable {P : Program} {T : TypeId → Option TI} {o : Oper} {tm : List AV} {hp : List Blk} {κ : AV → List Blk → R} {r : AV × List Blk}

theorem moreN_ok {κ : List Nat → R} : ∀ {ids : List Nat} {bs : List Blk} {n : Nat}, moreN ids bs n κ = some r → ids.length ≤ bs.length ∧ κ (ids ++ List.range' n (bs.length - ids.length)) = some r
  | [], [], n, h => ⟨Nat.le_refl _, by simpa [moreN] using h⟩
  | [], b :: bs, n, h => by
    simp only [moreN, natK_eq] at h
    obtain ⟨_, h2⟩ := moreN_ok (ids := []) h
    refine ⟨by simp, ?_⟩
    simpa [List.range'_succ] using h2
  | _ :: _, [], n, h => by simp [moreN] at h
  | τ :: l, b :: bs, n, h => by
    simp only [moreN] at h
    obtain ⟨h1, h2⟩ := moreN_ok h
    exact ⟨by simp; omega, by simpa using h2⟩

section lay
variable {φ : Nat → Nat} {ids' : List Nat}

/-- blocks laid back: `l` are the names of the first, the others lie behind -/
theorem layB_ok (hφ : ∀ (i : Nat) τ, ids'[i]? = some τ → φ i = τ) {κ : List Blk → R} : ∀ {l : List Nat} {bs : List Blk} {hp : List Blk}, layB ids' l bs hp κ = some r → l.Nodup → (∀ τ ∈ l, τ < hp.length) →
    ∃ hp2, κ hp2 = some r ∧ hp2.length = hp.length + (bs.length - l.length) ∧ l.length ≤ bs.length ∧ (∀ τ, τ < hp.length → τ ∉ l → hp2[τ]? = hp[τ]?) ∧
      (∀ (i : Nat) τ, l[i]? = some τ → ∃ b b', bs[i]? = some b ∧ hp2[τ]? = some b' ∧ RB φ (· < ids'.length) b b') ∧
      (∀ (i : Nat) b, l.length ≤ i → bs[i]? = some b → ∃ b', hp2[hp.length + (i - l.length)]? = some b' ∧ RB φ (· < ids'.length) b b')
  | [], [], hp, h, _, _ => by
    refine ⟨hp, h, by simp, Nat.le_refl _, fun _ _ _ => rfl, fun i τ hτ => by simp at hτ, fun i b _ hb => by simp at hb⟩
  | [], b :: bs, hp, h, _, _ => by
    simp only [layB] at h
    obtain ⟨b', h1, h2⟩ := bakB_ok hφ h
    rw [snocK_eq] at h1
    obtain ⟨hp2, k1, k2, k3, k4, k5, k6⟩ := layB_ok hφ (l := []) h1 List.nodup_nil (fun τ h => by cases h)
    have h0 : hp2[hp.length]? = some b' := by rw [k4 hp.length (by simp) (by simp)]; simp
    refine ⟨hp2, k1, by rw [k2]; simp; omega, by simp, fun τ hτ _ => ?_, fun i τ hτ => by simp at hτ, fun i c hi hc => ?_⟩
    · rw [k4 τ (by simp; omega) (by simp), List.getElem?_append_left hτ]
    · cases i with
      | zero => simp at hc; subst hc; exact ⟨b', by simpa using h0, h2⟩
      | succ i =>
        obtain ⟨c', q1, q2⟩ := k6 i c (by simp) (by simpa using hc)
        refine ⟨c', ?_, q2⟩
        rw [← q1]
        congr 1
        simp
        omega
  | _ :: _, [], hp, h, _, _ => by simp [layB] at h
  | τ :: l, b :: bs, hp, h, hn, hl => by
    simp only [layB] at h
    obtain ⟨b', h1, h2⟩ := bakB_ok hφ h
    rw [setK_eq] at h1
    rw [List.nodup_cons] at hn
    obtain ⟨hp2, k1, k2, k3, k4, k5, k6⟩ := layB_ok hφ h1 hn.2 (fun σ hσ => by simp; exact hl σ (by simp [hσ]))
    have h0 : hp2[τ]? = some b' := by
      have := hl τ (by simp)
      rw [k4 τ (by simpa using this) hn.1]
      simp [this]
    refine ⟨hp2, k1, by rw [k2]; simp, by simp; omega, fun σ hσ hσn => ?_, fun i σ hσ => ?_, fun i c hi hc => ?_⟩
    · simp only [List.mem_cons, not_or] at hσn
      rw [k4 σ (by simpa using hσ) hσn.2, get_set_ne hσn.1]
    · cases i with
      | zero => simp at hσ; subst hσ; exact ⟨b, b', rfl, h0, h2⟩
      | succ i => simpa using k5 i σ (by simpa using hσ)
    · cases i with
      | zero => simp at hi
      | succ i =>
        obtain ⟨c', q1, q2⟩ := k6 i c (by simpa using hi) (by simpa using hc)
        refine ⟨c', ?_, q2⟩
        rw [← q1]
        congr 1
        simp
end lay

theorem Ren.mono {φ : Nat → Nat} {D D' : Nat → Prop} {g1 g2 : G} {H1 H2 : List Blk} (h : ∀ τ, D τ → D' τ) (hR : Ren φ D' g1 H1 g2 H2) : Ren φ D g1 H1 g2 H2 where
  dom τ hd := hR.dom τ (h τ hd)
  ρ τ hd := hR.ρ τ (h τ hd)
  rows τ hd := hR.rows τ (h τ hd)
  box τ hd := hR.box τ (h τ hd)
  S := hR.S
  Sl := hR.Sl

theorem RV.mono {φ : Nat → Nat} {D D' : Nat → Prop} (h : ∀ τ, D τ → D' τ) {x x' : AV} (hv : RV φ D x x') : RV φ D' x x' := fun g1 g2 H1 H2 w hR => hv g1 g2 H1 H2 w (hR.mono h)

theorem RB.mono {φ : Nat → Nat} {D D' : Nat → Prop} (h : ∀ τ, D τ → D' τ) {b b' : Blk} (hv : RB φ D b b') : RB φ D' b b' := by
  cases b with
  | rows m E xs => exact hv
  | box y => obtain ⟨y', e, hv⟩ := hv; exact ⟨y', e, hv.mono h⟩

section merge
variable {g gc g1 : G} {hp hs hpc hp3 : List Blk} {w w' : World} {ids : List Nat}

def tailF (ids : List Nat) (n : Nat) (i : Nat) : Nat := if i < ids.length then ids.getD i 0 else n + (i - ids.length)

theorem merge (hg : Good g hp w) (hd : ∀ τ, g.dom τ ↔ τ < hp.length) (hnd : ids.Nodup) (hlt : ∀ τ ∈ ids, τ < hp.length)
    (hcd : ∀ i, gc.dom i ↔ i < ids.length) (hcρ : ∀ (i : Nat) τ, ids[i]? = some τ → gc.ρ i = g.ρ τ) (hcS : gc.S = g.S) (hcSl : gc.Sl = g.Sl)
    (hcb : ∀ (i : Nat) τ, ids[i]? = some τ → ∃ b b', hp[τ]? = some b ∧ hs[i]? = some b' ∧ RB (rnF 0 ids) (rnD 0 ids) b b')
    (ht : Trans gc hs w g1 hpc w') (hg1 : Good g1 hpc w') (hd1 : ∀ i, g1.dom i ↔ i < hpc.length) (hle : ids.length ≤ hpc.length)
    (h3l : hp3.length = hp.length + (hpc.length - ids.length)) (h3o : ∀ τ, τ < hp.length → τ ∉ ids → hp3[τ]? = hp[τ]?)
    (h3 : ∀ (i : Nat) b, hpc[i]? = some b → ∃ b', hp3[tailF ids hp.length i]? = some b' ∧ RB (tailF ids hp.length) (· < hpc.length) b b') :
    ∃ g2, Trans g hp w g2 hp3 w' ∧ Good g2 hp3 w' ∧ (∀ τ, g2.dom τ ↔ τ < hp3.length) ∧ Ren (tailF ids hp.length) (· < hpc.length) g1 hpc g2 hp3 := by
  have hφ1 : ∀ (i : Nat) τ, ids[i]? = some τ → tailF ids hp.length i = τ := fun i τ h => by
    have := (List.getElem?_eq_some_iff.1 h).1
    simp only [tailF, if_pos this, List.getD_eq_getElem?_getD, h, Option.getD_some]
  have hφlt : ∀ i : Nat, i < hpc.length → tailF ids hp.length i < hp3.length := fun i hi => by
    by_cases h : i < ids.length
    · obtain ⟨τ, hτ⟩ : ∃ τ, ids[i]? = some τ := ⟨_, List.getElem?_eq_getElem h⟩
      rw [hφ1 i τ hτ, h3l]
      have := hlt τ (List.mem_of_getElem? hτ)
      omega
    · simp only [tailF, if_neg h]; omega
  have hφinj : ∀ i j : Nat, i < hpc.length → j < hpc.length → tailF ids hp.length i = tailF ids hp.length j → i = j := by
    intro i j hi hj he
    by_cases h : i < ids.length
    · obtain ⟨τ, hτ⟩ : ∃ τ, ids[i]? = some τ := ⟨_, List.getElem?_eq_getElem h⟩
      have h1 := hlt τ (List.mem_of_getElem? hτ)
      by_cases h' : j < ids.length
      · obtain ⟨σ, hσ⟩ : ∃ σ, ids[j]? = some σ := ⟨_, List.getElem?_eq_getElem h'⟩
        rw [hφ1 i τ hτ, hφ1 j σ hσ] at he
        subst he
        exact (List.getElem?_inj h hnd).1 (hτ.trans hσ.symm)
      · rw [hφ1 i τ hτ] at he; simp only [tailF, if_neg h'] at he; omega
    · by_cases h' : j < ids.length
      · obtain ⟨σ, hσ⟩ : ∃ σ, ids[j]? = some σ := ⟨_, List.getElem?_eq_getElem h'⟩
        have h1 := hlt σ (List.mem_of_getElem? hσ)
        rw [hφ1 j σ hσ] at he; simp only [tailF, if_neg h] at he; omega
      · simp only [tailF, if_neg h, if_neg h'] at he; omega
  -- a name of the result: the callee's, or an older one that was not handed in
  have hcase : ∀ τ, τ < hp3.length → (∃ i, i < hpc.length ∧ tailF ids hp.length i = τ) ∨ (τ < hp.length ∧ τ ∉ ids ∧ ∀ i, i < hpc.length → tailF ids hp.length i ≠ τ) := by
    intro τ hτ
    by_cases h : τ < hp.length
    · by_cases hm : τ ∈ ids
      · obtain ⟨i, hi⟩ := List.mem_iff_getElem?.1 hm
        exact .inl ⟨i, by have := (List.getElem?_eq_some_iff.1 hi).1; omega, hφ1 i τ hi⟩
      · refine .inr ⟨h, hm, fun i hi e => ?_⟩
        by_cases hil : i < ids.length
        · obtain ⟨σ, hσ⟩ : ∃ σ, ids[i]? = some σ := ⟨_, List.getElem?_eq_getElem hil⟩
          rw [hφ1 i σ hσ] at e
          subst e
          exact hm (List.mem_of_getElem? hσ)
        · simp only [tailF, if_neg hil] at e; omega
    · left
      refine ⟨ids.length + (τ - hp.length), by omega, ?_⟩
      simp only [tailF, if_neg (show ¬ ids.length + (τ - hp.length) < ids.length by omega)]
      omega
  have hownc : ∀ b, Own gc hs b → Own g hp b ∧ ∃ (i : Nat) (τ : Nat) (o : Nat), ids[i]? = some τ ∧ g.ρ τ = some (b, o) ∧ owned hp τ := by
    rintro b ⟨i, o, h1, h2, z, h4, h5⟩
    obtain ⟨τ, hτ⟩ : ∃ τ, ids[i]? = some τ := ⟨_, List.getElem?_eq_getElem ((hcd i).1 h1)⟩
    obtain ⟨bk, bk', q1, q2, q3⟩ := hcb i τ hτ
    rw [h4] at q2
    cases q2
    rw [hcρ i τ hτ] at h2
    have ho : owned hp τ := ⟨bk, q1, q3.owned.1 h5⟩
    exact ⟨⟨τ, o, (hd τ).2 (hlt τ (List.mem_of_getElem? hτ)), h2, ho⟩, i, τ, o, hτ, h2, ho⟩
  have hex : ∀ τ, ∃ v : Option (Nat × Nat), (∀ i, i < hpc.length → tailF ids hp.length i = τ → v = g1.ρ i) ∧ ((∀ i, i < hpc.length → tailF ids hp.length i ≠ τ) → v = g.ρ τ) := by
    intro τ
    by_cases h : ∃ i, i < hpc.length ∧ tailF ids hp.length i = τ
    · obtain ⟨i, hi, e⟩ := h
      exact ⟨g1.ρ i, fun j hj e' => by rw [hφinj j i hj hi (e'.trans e.symm)], fun hn => absurd e (hn i hi)⟩
    · exact ⟨g.ρ τ, fun i hi e => absurd ⟨i, hi, e⟩ h, fun _ => rfl⟩
  obtain ⟨ρ2, hρ0⟩ := Classical.skolem.1 hex
  let g2 : G := { dom := fun τ => τ < hp3.length, ρ := ρ2, S := g1.S, Sl := g1.Sl }
  have hρ1 : ∀ i, i < hpc.length → g2.ρ (tailF ids hp.length i) = g1.ρ i := fun i hi => (hρ0 _).1 i hi rfl
  have hρ2 : ∀ τ, (∀ i, i < hpc.length → tailF ids hp.length i ≠ τ) → g2.ρ τ = g.ρ τ := fun τ h => (hρ0 τ).2 h
  have hR : Ren (tailF ids hp.length) (· < hpc.length) g1 hpc g2 hp3 := by
    refine ⟨fun i hi _ => hφlt i hi, fun i hi _ => hρ1 i hi, fun i hi _ m E xs hx => ?_, fun i hi _ y hy => ?_, fun b h => h, fun b h => h⟩
    · obtain ⟨b', q1, q2⟩ := h3 i _ (List.getElem?_eq_getElem hi)
      rw [hx] at q1
      cases q1
      cases hb : hpc[i] with
      | rows m' E' xs' => rw [hb] at q2; have e : Blk.rows m E xs = .rows m' E' xs' := q2; rw [List.getElem?_eq_getElem hi, hb, e]
      | box y => rw [hb] at q2; obtain ⟨y', e, _⟩ := q2; cases e
    · obtain ⟨b', q1, q2⟩ := h3 i _ (List.getElem?_eq_getElem hi)
      rw [hy] at q1
      cases q1
      cases hb : hpc[i] with
      | rows m' E' xs' => rw [hb] at q2; have e : Blk.box y = .rows m' E' xs' := q2; cases e
      | box y' => exact ⟨y', by rw [List.getElem?_eq_getElem hi, hb]⟩
  have hold : ∀ τ, g.dom τ → (∃ i : Nat, ids[i]? = some τ) ∨ (τ ∉ ids ∧ ∀ i, i < hpc.length → tailF ids hp.length i ≠ τ) := by
    intro τ h
    have hl := (hd τ).1 h
    by_cases hm : τ ∈ ids
    · exact .inl (List.mem_iff_getElem?.1 hm)
    · rcases hcase τ (by omega) with ⟨i, hi, e⟩ | ⟨_, h1, h2⟩
      · by_cases hil : i < ids.length
        · obtain ⟨σ, hσ⟩ : ∃ σ, ids[i]? = some σ := ⟨_, List.getElem?_eq_getElem hil⟩
          rw [hφ1 i σ hσ] at e
          subst e
          exact absurd (List.mem_of_getElem? hσ) hm
        · simp only [tailF, if_neg hil] at e; omega
      · exact .inr ⟨h1, h2⟩
  have hownr : ∀ i b o, i < hpc.length → g2.ρ (tailF ids hp.length i) = some (b, o) → owned hp3 (tailF ids hp.length i) → g1.ρ i = some (b, o) ∧ owned hpc i := by
    intro i b o hi h1 h2
    rw [hρ1 i hi] at h1
    obtain ⟨b', q1, q2⟩ := h3 i _ (List.getElem?_eq_getElem hi)
    obtain ⟨z, h4, h5⟩ := h2
    rw [h4] at q1
    cases q1
    exact ⟨h1, _, List.getElem?_eq_getElem hi, q2.owned.1 h5⟩
  have hT : Trans g hp w g2 hp3 w' := {
    dom := fun τ h => by have := (hd τ).1 h; show τ < hp3.length; omega
    ρ := fun τ h => by
      rcases hold τ h with ⟨i, hi⟩ | ⟨_, h2⟩
      · have hil := (List.getElem?_eq_some_iff.1 hi).1
        have := hρ1 i (by omega)
        rw [hφ1 i τ hi] at this
        rw [this, ht.ρ i ((hcd i).2 hil), hcρ i τ hi]
      · exact hρ2 τ h2
    S := fun b h => ht.S b (by rw [hcS]; exact h)
    Sl := fun b h => ht.Sl b (by rw [hcSl]; exact h)
    newS := fun b h => by
      rcases ht.newS b h with h1 | h1 | h1
      · rw [hcS] at h1; exact .inl h1
      · exact .inr (.inl h1)
      · exact .inr (.inr (hownc b h1).1)
    newSl := fun b h => by
      rcases ht.newSl b h with h1 | h1 | h1
      · rw [hcSl] at h1; exact .inl h1
      · exact .inr (.inl h1)
      · exact .inr (.inr (hownc b h1).1)
    size := ht.size
    shape := ht.shape
    env := ht.env
    prot := fun b hb hn => ht.prot b hb fun h => hn (hownc b h).1
    own := fun b h => by
      obtain ⟨τ, oo, h1, h2, h4⟩ := h
      rcases hcase τ h1 with ⟨i, hi, rfl⟩ | ⟨hlt', hm, hne⟩
      · obtain ⟨k1, k2⟩ := hownr i b oo hi h2 h4
        rcases ht.own b ⟨i, oo, (hd1 i).2 hi, k1, k2⟩ with h5 | h5
        · exact .inl h5
        · exact .inr (hownc b h5).1
      · rw [hρ2 τ hne] at h2
        obtain ⟨z, h5, h6⟩ := h4
        rw [h3o τ hlt' hm] at h5
        exact .inr ⟨τ, oo, (hd τ).2 hlt', h2, z, h5, h6⟩
    len := fun τ h m E xs hx hm => by
      rcases hold τ h with ⟨i, hi⟩ | ⟨hn, h2⟩
      · have hil := (List.getElem?_eq_some_iff.1 hi).1
        have hx' := hR.rows i (show i < hpc.length by omega) ((hd1 i).2 (by omega)) m E xs (by rw [hφ1 i τ hi]; exact hx)
        obtain ⟨m0, xs0, k1, k2, k3⟩ := ht.len i ((hcd i).2 hil) m E xs hx' hm
        obtain ⟨bk, bk', q1, q2, q3⟩ := hcb i τ hi
        rw [k1] at q2
        cases q2
        cases bk with
        | rows m' E' xs' => have e : Blk.rows m0 E xs0 = .rows m' E' xs' := q3; exact ⟨m0, xs0, by rw [q1, e], k2, k3⟩
        | box y => obtain ⟨y', e, _⟩ := q3; cases e
      · rw [h3o τ ((hd τ).1 h) hn] at hx
        exact ⟨m, xs, hx, hm, rfl⟩
    box := fun τ h y hy => by
      rcases hold τ h with ⟨i, hi⟩ | ⟨hn, h2⟩
      · have hil := (List.getElem?_eq_some_iff.1 hi).1
        obtain ⟨y', hy'⟩ := hR.box i (show i < hpc.length by omega) ((hd1 i).2 (by omega)) y (by rw [hφ1 i τ hi]; exact hy)
        obtain ⟨y0, k1⟩ := ht.box i ((hcd i).2 hil) y' hy'
        obtain ⟨bk, bk', q1, q2, q3⟩ := hcb i τ hi
        rw [k1] at q2
        cases q2
        cases bk with
        | rows m' E' xs' => have e : Blk.box y0 = .rows m' E' xs' := q3; cases e
        | box z => exact ⟨z, q1⟩
      · rw [h3o τ ((hd τ).1 h) hn] at hy
        exact ⟨y, hy⟩ }
  -- a block of an older token that was not handed in is not the callee's
  have hfar : ∀ τ b o, g.dom τ → τ ∉ ids → g.ρ τ = some (b, o) → owned hp τ → ¬ Own gc hs b := by
    intro τ b o h1 h2 h4 h5 h6
    obtain ⟨_, i, σ, o', h7, h8, h9⟩ := hownc b h6
    have := hg.inj τ σ b o o' h1 ((hd σ).2 (hlt σ (List.mem_of_getElem? h7))) h4 h8 h5 h9
    subst this
    exact h2 (List.mem_of_getElem? h7)
  refine ⟨g2, hT, ?_, fun τ => Iff.rfl, hR⟩
  refine ⟨hg1.sub, hg1.lt, fun τ hτ => ?_, fun x y b o o' hx hy h1 h2 h4 h5 => ?_⟩
  · rcases hcase τ hτ with ⟨i, hi, rfl⟩ | ⟨hlt', hm, hne⟩
    · obtain ⟨b', q1, q2⟩ := h3 i _ (List.getElem?_eq_getElem hi)
      refine ⟨b', q1, ?_⟩
      obtain ⟨bk, p1, p2⟩ := hg1.tok i ((hd1 i).2 hi)
      rw [List.getElem?_eq_getElem hi] at p1
      cases p1
      have hρ := hρ1 i hi
      revert q2 p2
      generalize hpc[i] = bk
      intro q2 p2
      cases bk with
      | box y =>
        obtain ⟨y', rfl, hv⟩ := q2
        obtain ⟨bb, oo, k1, k2, k3, k4⟩ := p2
        exact ⟨bb, oo, hρ.trans k1, k2, k3, (hv g1 g2 hpc hp3 w' hR).2.2 _ _ k4⟩
      | rows m E xs =>
        obtain rfl : b' = .rows m E xs := q2
        cases m with
        | live =>
          rcases p2 with ⟨k1, k2⟩ | ⟨bb, oo, k1, k2, k3, k4⟩
          · exact .inl ⟨hρ.trans k1, k2⟩
          · exact .inr ⟨bb, oo, hρ.trans k1, k2, k3, k4⟩
        | frozen =>
          rcases p2 with ⟨k1, k2⟩ | ⟨bb, oo, k1, k2, k3, k4⟩
          · exact .inl ⟨hρ.trans k1, k2⟩
          · exact .inr ⟨bb, oo, hρ.trans k1, k2, k3, k4⟩
        | dead => trivial
    · have hdt := (hd τ).2 hlt'
      obtain ⟨bk, q1, q2⟩ := hg.tok τ hdt
      refine ⟨bk, by rw [h3o τ hlt' hm]; exact q1, BlkRel.trans hT hg hdt (fun b o hρ ho => ?_) q2⟩
      have hO : Own g hp b := ⟨τ, o, hdt, hρ, owned_of q1 ho⟩
      have hlt2 := hO.lt hg
      have hnc := hfar τ b o hdt hm hρ (owned_of q1 ho)
      refine ⟨ht.prot b hlt2 hnc, fun hS => ?_⟩
      rcases ht.newS b hS with k | k | k
      · rw [hcS] at k; exact hO.notS hg k
      · omega
      · exact hnc k
  · -- the callee's blocks are new, or of tokens that were handed in
    have hmix : ∀ i τ o o', i < hpc.length → g1.ρ i = some (b, o) → owned hpc i → τ < hp.length → τ ∉ ids → g.ρ τ = some (b, o') → owned hp τ → False := by
      intro i τ o o' hi k1 k2 k3 k4 k5 k6
      have hdt := (hd τ).2 k3
      rcases ht.own b ⟨i, o, (hd1 i).2 hi, k1, k2⟩ with h | h
      · have := Own.lt hg (b := b) ⟨τ, o', hdt, k5, k6⟩
        omega
      · exact hfar τ b o' hdt k4 k5 k6 h
    have hown3 : ∀ τ, τ < hp.length → τ ∉ ids → owned hp3 τ → owned hp τ := by
      rintro τ k1 k2 ⟨z, k3, k4⟩
      rw [h3o τ k1 k2] at k3
      exact ⟨z, k3, k4⟩
    rcases hcase x hx with ⟨i, hi, rfl⟩ | ⟨hxl, hxm, hxn⟩
    · obtain ⟨k1, k2⟩ := hownr i b o hi h1 h4
      rcases hcase y hy with ⟨j, hj, rfl⟩ | ⟨hyl, hym, hyn⟩
      · obtain ⟨k3, k4⟩ := hownr j b o' hj h2 h5
        rw [hg1.inj i j b o o' ((hd1 i).2 hi) ((hd1 j).2 hj) k1 k3 k2 k4]
      · rw [hρ2 y hyn] at h2
        exact (hmix i y o o' hi k1 k2 hyl hym h2 (hown3 y hyl hym h5)).elim
    · rw [hρ2 x hxn] at h1
      rcases hcase y hy with ⟨j, hj, rfl⟩ | ⟨hyl, hym, hyn⟩
      · obtain ⟨k3, k4⟩ := hownr j b o' hj h2 h5
        exact (hmix j x o' o hj k3 k4 hxl hxm h1 (hown3 x hxl hxm h4)).elim
      · rw [hρ2 y hyn] at h2
        exact hg.inj x y b o o' ((hd x).2 hxl) ((hd y).2 hyl) h1 h2 (hown3 x hxl hxm h4) (hown3 y hyl hym h5)
end merge

/-- a call that shares -/
theorem scall_step {C : CF} (hC : CSound P C) {c : Call} {f : Operand} (ho : o.op = .call c) (hc : c.callee = .value f) {gf : FuncId} {fs cs args : List AV} (hf : evD tm f = some (.fn gf fs cs)) (ha : evsD tm c.args.toList = some args)
    {ids : List Nat} (hok : OkIds 0 ids)
    (h : (rens3K 0 ids (fs ++ (args ++ cs)) fun args => pickB 0 ids hp ids fun hs => gbind (C gf args hs) fun r =>
      lenK hp 0 fun n => moreN ids r.2 n fun ids' => layB ids' ids r.2 hp fun hp => bak3K ids' r.1 fun v => adoptK hp v κ) = some r) : StepM P o tm hp κ r := by
  obtain ⟨l', h1, hrv⟩ := rens3_ok h
  clear h
  obtain ⟨hs, h2, hsl, hpk⟩ := pickB_ok h1
  clear h1
  obtain ⟨⟨res, hp1⟩, hCr, h3⟩ := gbind_some h2
  clear h2
  rw [lenK_eq, Nat.zero_add] at h3
  obtain ⟨hle, h4⟩ := moreN_ok h3
  clear h3
  simp only at hle h4
  have hltI : ∀ τ ∈ ids, τ < hp.length := fun τ hτ => by
    obtain ⟨i, hi⟩ := List.mem_iff_getElem?.1 hτ
    obtain ⟨b, _, hb, _⟩ := hpk i τ hi
    exact (List.getElem?_eq_some_iff.1 hb).1
  have hidl : (ids ++ List.range' hp.length (hp1.length - ids.length)).length = hp1.length := by simp; omega
  have hφ : ∀ (i : Nat) τ, (ids ++ List.range' hp.length (hp1.length - ids.length))[i]? = some τ → tailF ids hp.length i = τ := by
    intro i τ hi
    by_cases hil : i < ids.length
    · rw [List.getElem?_append_left hil] at hi
      simp only [tailF, if_pos hil, List.getD_eq_getElem?_getD, hi, Option.getD_some]
    · rw [List.getElem?_append_right (by omega)] at hi
      have hb := (List.getElem?_eq_some_iff.1 hi).1
      simp only [List.length_range'] at hb
      rw [List.getElem?_range' hb] at hi
      cases hi
      simp only [tailF, if_neg hil]
      omega
  obtain ⟨hp2, h5, h2l, _, h2o, h2a, h2b⟩ := layB_ok hφ h4 hok.1 hltI
  clear h4
  obtain ⟨h6, htk⟩ := bak3_ok hφ h5
  clear h5
  rw [adoptK_eq] at h6
  rw [hidl] at htk h2a h2b
  obtain ⟨hen, hcs⟩ := hC gf l' hs res hp1 hCr
  have htail : Tail (tailF ids hp.length) hp.length ids.length := fun i hi => by simp only [tailF, if_neg (show ¬ i < ids.length by omega)]
  obtain ⟨hRV, bl, hbl1, hbl2⟩ := ad3_rn (D := (· < (ad3 hp1 res).2.length)) htail (M := hp1.length) (fun τ hτ => Nat.lt_of_lt_of_le hτ (ad3_pre hp1 res).length_le) (x := res) (hk := hp1) (h0 := hp2) hle h2l htk (fun τ _ h => h)
  refine ⟨_, _, h6, fun Q a w g N hd hh hg hN => ?_⟩
  obtain ⟨vs, hvs, hrun⟩ := call_vals (P := P) ho hc hf ha g hp w a hh
  obtain ⟨gc, q1, q2, q3, q4, q5⟩ := ren_heap (h0 := []) (Nat.zero_le _) rfl hsl (fun i b b' hb => by simp at hb) hpk (fun _ _ => Nat.zero_le _) hok.1 hg hd
  simp only [List.nil_append] at q1 q4 q5
  have hgc := Good.ren hg q1 q2 q3 q5
  have hcall := hcs gc w vs hgc q4 (RVs.all2 q1 hrv hvs)
  simp only [Oper.wp, hrun hen, Oper.upon_enter]
  refine hcall.mono fun e w' he => ?_
  obtain ⟨vv, g1, rfl, ht, hg1, hd1, hv⟩ := he
  have hidx : ∀ (i : Nat) τ, ids[i]? = some τ → rnF 0 ids τ = i := fun i τ hi => by
    have hil := (List.getElem?_eq_some_iff.1 hi).1
    simp only [rnF, Nat.zero_le, if_true, Nat.zero_add]
    have h1 := (List.getElem?_eq_some_iff.1 hi).2
    have := hok.1.idxOf_getElem i hil
    rw [h1] at this
    exact this
  have hblk : ∀ (i : Nat) b, (ad3 hp1 res).2[i]? = some b → ∃ b', (ad3 hp2 (bk3 (tailF ids hp.length) res)).2[tailF ids hp.length i]? = some b' ∧ RB (tailF ids hp.length) (· < (ad3 hp1 res).2.length) b b' := by
    intro i b hb
    have hil := (List.getElem?_eq_some_iff.1 hb).1
    by_cases h1 : i < hp1.length
    · have hb1 : hp1[i]? = some b := by rw [hbl1, List.getElem?_append_left h1] at hb; exact hb
      by_cases h7 : i < ids.length
      · obtain ⟨τ, hτ⟩ : ∃ τ, ids[i]? = some τ := ⟨_, List.getElem?_eq_getElem h7⟩
        obtain ⟨c0, c', p1, p2, p3⟩ := h2a i τ hτ
        rw [hb1] at p1
        cases p1
        have e : tailF ids hp.length i = τ := hφ i τ (by rw [List.getElem?_append_left h7]; exact hτ)
        refine ⟨c', ?_, p3.mono fun j (hj : j < hp1.length) => by show j < (ad3 hp1 res).2.length; rw [hbl1, List.length_append]; omega⟩
        rw [e, hbl2, List.getElem?_append_left (by have := hltI τ (List.mem_of_getElem? hτ); omega)]
        exact p2
      · obtain ⟨c', p2, p3⟩ := h2b i b (by omega) hb1
        refine ⟨c', ?_, p3.mono fun j (hj : j < hp1.length) => by show j < (ad3 hp1 res).2.length; rw [hbl1, List.length_append]; omega⟩
        rw [htail i (by omega), hbl2, List.getElem?_append_left (by omega)]
        exact p2
    · rw [hbl1, List.getElem?_append_right (by omega)] at hb
      have hlv : liveB b := by
        have h8 := ad3_live (hk := []) (x := res) (fun _ h => by cases h)
        have h9 := ad3_app0 hp1 res
        rw [hbl1] at h9
        have h10 := List.append_cancel_left h9
        rw [← h10] at h8
        exact h8 b (List.mem_of_getElem? hb)
      match b, hlv with
      | .rows .live E xs, _ =>
        refine ⟨.rows .live E xs, ?_, rfl⟩
        rw [htail i (by omega), hbl2, List.getElem?_append_right (by omega)]
        rw [← hb]
        congr 1
        omega
  obtain ⟨g2, k1, k2, k3, k4⟩ := merge (hp3 := (ad3 hp2 (bk3 (tailF ids hp.length) res)).2) hg hd hok.1 hltI (fun i => by rw [q4, hsl]) (fun i τ hi => by
      have hm := List.mem_of_getElem? hi
      have := q1.ρ τ (.inr hm) ((hd τ).2 (hltI τ hm))
      rw [hidx i τ hi] at this
      exact this) q2 q3 hpk ht hg1 hd1 (by rw [hbl1]; simp; omega) (by rw [hbl1, hbl2]; simp; omega) (fun τ h1 h2 => by
      rw [hbl2, List.getElem?_append_left (by omega)]
      exact h2o τ h1 h2) hblk
  exact hN vv w' g2 k1 k2 k3 ((hRV g1 g2 _ _ w' k4).1 vv hv) (fun b _ hn => absurd (by unfold wrB; rw [ho]; trivial) hn)
end
end Go.AM
