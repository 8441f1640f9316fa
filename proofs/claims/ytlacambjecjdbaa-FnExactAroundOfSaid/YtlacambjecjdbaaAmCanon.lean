import Derived.Test.YtlacambjecjdbaaAmRen
set_option linter.unusedVariables false
set_option linter.unusedSimpArgs false
set_option linter.unnecessarySimpa false
/-! What is kept at a loop's head. -/
namespace Go.AM

section
variable {P : Program} {T : TypeId → Option TI} {o : Oper} {tm : List AV} {hp : List Blk} {r : AV × List Blk}

section good
variable {φ : Nat → Nat} {D : Nat → Prop} {g g' g0 : G} {H H' H0 : List Blk} {w w0 : World}

theorem RB.owned {b b' : Blk} (h : RB φ D b b') : b'.owned ↔ b.owned := by
  cases b with
  | rows m E xs => rw [show b' = .rows m E xs from h]
  | box y => obtain ⟨y', rfl, _⟩ := h; exact Iff.rfl

theorem Good.ren (hg : Good g H w) (hR : Ren φ D g H g' H') (hS : g'.S = g.S) (hSl : g'.Sl = g.Sl)
    (hpre : ∀ τ', g'.dom τ' → ∃ τ b b', φ τ = τ' ∧ D τ ∧ g.dom τ ∧ H[τ]? = some b ∧ H'[τ']? = some b' ∧ RB φ D b b') : Good g' H' w where
  sub b h := by rw [hSl] at h; rw [hS]; exact hg.sub b h
  lt b h := by rw [hS] at h; exact hg.lt b h
  tok τ' hτ' := by
    obtain ⟨τ, b, b', rfl, hD, hd, h1, h2, h3⟩ := hpre τ' hτ'
    refine ⟨b', h2, ?_⟩
    obtain ⟨bk, q1, q2⟩ := hg.tok τ hd
    rw [h1] at q1
    cases q1
    have hρ := hR.ρ τ hD hd
    cases b with
    | box y =>
      obtain ⟨y', rfl, hv⟩ := h3
      obtain ⟨bb, oo, k1, k2, k3, k4⟩ := q2
      exact ⟨bb, oo, hρ.trans k1, by rw [hS]; exact k2, k3, (hv g g' H H' w hR).2.2 _ _ k4⟩
    | rows m E xs =>
      obtain rfl : b' = .rows m E xs := h3
      cases m with
      | live =>
        rcases q2 with ⟨k1, k2⟩ | ⟨bb, oo, k1, k2, k3, k4⟩
        · exact .inl ⟨hρ.trans k1, k2⟩
        · exact .inr ⟨bb, oo, hρ.trans k1, by rw [hS]; exact k2, k3, by rw [hS, hSl]; exact k4⟩
      | frozen =>
        rcases q2 with ⟨k1, k2⟩ | ⟨bb, oo, k1, k2, k3, k4⟩
        · exact .inl ⟨hρ.trans k1, k2⟩
        · exact .inr ⟨bb, oo, hρ.trans k1, by rw [hSl]; exact k2, k3, by rw [hS, hSl]; exact k4⟩
      | dead => trivial
  inj x y b o o' hx hy h1 h2 h3 h4 := by
    obtain ⟨τ, bk, bk', rfl, hD, hd, q1, q2, q3⟩ := hpre x hx
    obtain ⟨σ, ck, ck', rfl, hD', hd', p1, p2, p3⟩ := hpre y hy
    rw [hR.ρ τ hD hd] at h1
    rw [hR.ρ σ hD' hd'] at h2
    have ho : owned H τ := by
      obtain ⟨z, hz, hz2⟩ := h3
      rw [q2] at hz
      cases hz
      exact ⟨bk, q1, q3.owned.1 hz2⟩
    have ho' : owned H σ := by
      obtain ⟨z, hz, hz2⟩ := h4
      rw [p2] at hz
      cases hz
      exact ⟨ck, p1, p3.owned.1 hz2⟩
    rw [hg.inj τ σ b o o' hd hd' h1 h2 ho ho']

theorem Trans.canon (ht : Trans g0 H0 w0 g H w) (h0 : ∀ τ, g0.dom τ → D τ ∧ φ τ = τ) (hR : Ren φ D g H g' H') (hS : g'.S = g.S) (hSl : g'.Sl = g.Sl)
    (hpre : ∀ τ', g'.dom τ' → ∃ τ b b', φ τ = τ' ∧ D τ ∧ g.dom τ ∧ H[τ]? = some b ∧ H'[τ']? = some b' ∧ RB φ D b b') : Trans g0 H0 w0 g' H' w where
  dom τ h := by have := hR.dom τ (h0 τ h).1 (ht.dom τ h); rwa [(h0 τ h).2] at this
  ρ τ h := by have := hR.ρ τ (h0 τ h).1 (ht.dom τ h); rw [(h0 τ h).2] at this; exact this.trans (ht.ρ τ h)
  S b h := by rw [hS]; exact ht.S b h
  Sl b h := by rw [hSl]; exact ht.Sl b h
  newS b h := by rw [hS] at h; exact ht.newS b h
  newSl b h := by rw [hSl] at h; exact ht.newSl b h
  size := ht.size
  shape := ht.shape
  env := ht.env
  prot := ht.prot
  own b h := by
    obtain ⟨τ', oo, h1, h2, z, h3, h4⟩ := h
    obtain ⟨τ, bk, bk', rfl, hD, hd, q1, q2, q3⟩ := hpre τ' h1
    rw [h3] at q2
    cases q2
    exact ht.own b ⟨τ, oo, hd, (hR.ρ τ hD hd).symm.trans h2, bk, q1, q3.owned.1 h4⟩
  len τ h m E xs hx hm := by
    have h1 := hR.rows τ (h0 τ h).1 (ht.dom τ h) m E xs (by rw [(h0 τ h).2]; exact hx)
    exact ht.len τ h m E xs h1 hm
  box τ h y hy := by
    obtain ⟨y', h1⟩ := hR.box τ (h0 τ h).1 (ht.dom τ h) y (by rw [(h0 τ h).2]; exact hy)
    exact ht.box τ h y' h1
end good

theorem flagN_ok {κ : Nat → R} {d : R} : ∀ {ks : List (Tmp × Nat)} {n : Nat}, flagN ks n κ d = some r → d = some r ∨ ∃ f, κ f = some r
  | [], n, h => .inl h
  | (t, f) :: ks, n, h => by
    simp only [flagN] at h
    rcases cond_some h with ⟨_, h⟩ | ⟨_, h⟩
    · exact .inr ⟨f, h⟩
    · exact flagN_ok h

/-- a step of the ghosts alone -/
def Gh (hp hp' : List Blk) (R : G → World → Prop) (R' : G → World → Prop) : Prop :=
  hp'.length = hp.length ∧ ∀ (g : G) (w : World), Good g hp w → R g w → ∃ g', Trans g hp w g' hp' w ∧ Good g' hp' w ∧ g'.dom = g.dom ∧ R' g' w

theorem keep1_ok {f : Nat} {v : AV} {κ : AV → List Blk → R} (h : keep1K f v hp κ = some r) : ∃ v' hp', κ v' hp' = some r ∧ hp'.length = hp.length ∧ ∀ (g : G) (w : World) (val : Value), Good g hp w → V3 g hp w v val →
    ∃ g', Trans g hp w g' hp' w ∧ Good g' hp' w ∧ g'.dom = g.dom ∧ V3 g' hp' w v' val := by
  unfold keep1K at h
  split at h
  · rename_i τ E c
    obtain ⟨blk, hb, h1⟩ := getK_some h
    have key : ∀ m E' xs, blk = .rows m E' xs → m ≠ .dead → κ (.own τ E (some (0, ilen xs)) c) hp = some r → ∃ v' hp', κ v' hp' = some r ∧ hp'.length = hp.length ∧ ∀ (g : G) (w : World) (val : Value), Good g hp w → V3 g hp w (.own τ E none c) val →
        ∃ g', Trans g hp w g' hp' w ∧ Good g' hp' w ∧ g'.dom = g.dom ∧ V3 g' hp' w v' val := by
      intro m E' xs e hm h
      subst e
      refine ⟨_, _, h, rfl, fun g w val hg hv => ⟨g, Trans.refl g hp w, hg, rfl, ?_⟩⟩
      obtain ⟨hd, hv⟩ := hv
      refine ⟨hd, ?_⟩
      cases hρ : g.ρ τ with
      | none =>
        rw [hρ] at hv
        have := hv.2 m E' xs hb hm
        exact ⟨hv.1, rfl, by rw [ilen_eq]; omega⟩
      | some p =>
        rw [hρ] at hv
        obtain ⟨k, o, l, cap, e, k1, k2, k3, k4, k5, rfl, k7⟩ := hv
        have := k7 m E' xs hb hm
        refine ⟨k, 0, l, cap, e, k1, k2, k3, k4, k5, rfl, by rw [ilen_eq]; omega, fun m' E'' ys hy hm' => ?_⟩
        have := k7 m' E'' ys hy hm'
        omega
    split at h1
    · cases h1
    · rename_i m E' xs hm
      exact key m E' xs rfl (fun e => hm (by rw [e])) h1
    · cases h1
  · obtain ⟨v', hp', h1, _, h2, h3⟩ := pur1_ok h
    refine ⟨v', hp', h1, h2, fun g w val hg hv => ?_⟩
    have hv1 : V1 g hp w v val := by
      cases v <;> first
        | exact hv
        | (simp [pur1K] at h)
    obtain ⟨g', k1, k2, k3, k4⟩ := h3 g w val hg hv1
    exact ⟨g', k1, k2, k3, V3_of_V1 (V1_of_PCell k4.weak)⟩
  · exact ⟨v, hp, h, rfl, fun g w val hg hv => ⟨g, Trans.refl g hp w, hg, rfl, hv⟩⟩

theorem keepTm_ok {ks : List (Tmp × Nat)} : ∀ {l : List AV} {n : Nat} {hp : List Blk} {κ : List AV → List Blk → R}, keepTm ks l n hp κ = some r → ∃ l' hp', κ l' hp' = some r ∧ hp'.length = hp.length ∧
    ∀ (g : G) (w : World) (vs : List Value), Good g hp w → All2 (V3 g hp w) l vs → ∃ g', Trans g hp w g' hp' w ∧ Good g' hp' w ∧ g'.dom = g.dom ∧ All2 (V3 g' hp' w) l' vs
  | [], n, hp, κ, h => ⟨[], hp, h, rfl, fun g w vs hg hv => ⟨g, Trans.refl g hp w, hg, rfl, by cases vs <;> first | trivial | exact hv.elim⟩⟩
  | v :: l, n, hp, κ, h => by
    simp only [keepTm] at h
    rcases flagN_ok h with h | ⟨f, h⟩
    · obtain ⟨l', hp', h1, h2, h3⟩ := keepTm_ok h
      refine ⟨.top :: l', hp', h1, h2, fun g w vs hg hv => ?_⟩
      cases vs with
      | nil => exact hv.elim
      | cons u us =>
        obtain ⟨g', k1, k2, k3, k4⟩ := h3 g w us hg hv.2
        exact ⟨g', k1, k2, k3, trivial, k4⟩
    · obtain ⟨v', hp1, h1, h2, h3⟩ := keep1_ok h
      obtain ⟨l', hp2, h4, h5, h6⟩ := keepTm_ok h1
      refine ⟨v' :: l', hp2, h4, by omega, fun g w vs hg hv => ?_⟩
      cases vs with
      | nil => exact hv.elim
      | cons u us =>
        obtain ⟨g1, k1, k2, k3, k4⟩ := h3 g w u hg hv.1
        obtain ⟨g2, p1, p2, p3, p4⟩ := h6 g1 w us k2 (hv.2.imp fun _ _ h => h.trans k1 hg)
        exact ⟨g2, k1.trans p1, p2, p3.trans k3, k4.trans p1 k2, p4⟩

/-- names from b0 on that are no more named are given up -/
theorem ren_heap {b0 : Nat} {ids : List Nat} {h0 h1 : List Blk} (hb : b0 ≤ hp.length) (h0l : h0.length = b0) (h1l : h1.length = ids.length)
    (hh0 : ∀ (i : Nat) b b', (hp.take b0)[i]? = some b → h0[i]? = some b' → RB (rnF b0 ids) (rnD b0 ids) b b')
    (hh1 : ∀ (i : Nat) τ, ids[i]? = some τ → ∃ b b', hp[τ]? = some b ∧ h1[i]? = some b' ∧ RB (rnF b0 ids) (rnD b0 ids) b b') (hge : ∀ τ ∈ ids, b0 ≤ τ) (hnd : ids.Nodup)
    {g : G} {w : World} (hg : Good g hp w) (hd : ∀ τ, g.dom τ ↔ τ < hp.length) :
    ∃ g', Ren (rnF b0 ids) (rnD b0 ids) g hp g' (h0 ++ h1) ∧ g'.S = g.S ∧ g'.Sl = g.Sl ∧ (∀ τ, g'.dom τ ↔ τ < (h0 ++ h1).length) ∧
      (∀ τ', g'.dom τ' → ∃ τ b b', rnF b0 ids τ = τ' ∧ rnD b0 ids τ ∧ g.dom τ ∧ hp[τ]? = some b ∧ (h0 ++ h1)[τ']? = some b' ∧ RB (rnF b0 ids) (rnD b0 ids) b b') := by
  have hφ : ∀ i τ, ids[i]? = some τ → rnF b0 ids τ = b0 + i := by
    intro i τ h
    have hm := List.mem_of_getElem? h
    have hi := (List.getElem?_eq_some_iff.1 h).1
    simp only [rnF, if_pos (hge τ hm)]
    congr 1
    have h1 := (List.getElem?_eq_some_iff.1 h).2
    have := hnd.idxOf_getElem i hi
    rw [h1] at this
    exact this
  have hpre : ∀ τ', τ' < (h0 ++ h1).length → ∃ τ b b', rnF b0 ids τ = τ' ∧ rnD b0 ids τ ∧ g.dom τ ∧ hp[τ]? = some b ∧ (h0 ++ h1)[τ']? = some b' ∧ RB (rnF b0 ids) (rnD b0 ids) b b' := by
    intro τ' hτ'
    by_cases hlt : τ' < b0
    · have e1 : hp[τ']? = some (hp[τ']'(by omega)) := List.getElem?_eq_getElem _
      have e2 : h0[τ']? = some (h0[τ']'(by omega)) := List.getElem?_eq_getElem _
      refine ⟨τ', _, _, by simp [rnF]; omega, .inl hlt, (hd τ').2 (by omega), e1, by rw [List.getElem?_append_left (by omega)]; exact e2, hh0 τ' _ _ ?_ e2⟩
      rw [List.getElem?_take_of_lt hlt]; exact e1
    · simp only [List.length_append] at hτ'
      obtain ⟨τ, hτ⟩ : ∃ τ, ids[τ' - b0]? = some τ := ⟨_, List.getElem?_eq_getElem (by omega)⟩
      obtain ⟨b, b', q1, q2, q3⟩ := hh1 _ _ hτ
      refine ⟨τ, b, b', by rw [hφ _ _ hτ]; omega, .inr (List.mem_of_getElem? hτ), (hd τ).2 (List.getElem?_eq_some_iff.1 q1).1, q1, ?_, q3⟩
      rw [List.getElem?_append_right (by omega), h0l]; exact q2
  have hinv : ∀ τ, rnD b0 ids τ → g.dom τ → rnF b0 ids τ < (h0 ++ h1).length ∧ ∃ b b', hp[τ]? = some b ∧ (h0 ++ h1)[rnF b0 ids τ]? = some b' ∧ RB (rnF b0 ids) (rnD b0 ids) b b' := by
    intro τ hD hdt
    have hlt := (hd τ).1 hdt
    by_cases h : τ < b0
    · have e : rnF b0 ids τ = τ := by simp [rnF]; omega
      rw [e]
      have e1 : hp[τ]? = some (hp[τ]'(by omega)) := List.getElem?_eq_getElem _
      have e2 : h0[τ]? = some (h0[τ]'(by omega)) := List.getElem?_eq_getElem _
      refine ⟨by simp; omega, _, _, e1, by rw [List.getElem?_append_left (by omega)]; exact e2, hh0 τ _ _ ?_ e2⟩
      rw [List.getElem?_take_of_lt h]; exact e1
    · have hm := hD.resolve_left h
      obtain ⟨i, hi⟩ := List.mem_iff_getElem?.1 hm
      obtain ⟨b, b', q1, q2, q3⟩ := hh1 _ _ hi
      have hil := (List.getElem?_eq_some_iff.1 hi).1
      rw [hφ _ _ hi]
      refine ⟨by simp; omega, b, b', q1, ?_, q3⟩
      rw [List.getElem?_append_right (by omega), h0l, Nat.add_sub_cancel_left]
      exact q2
  -- which old name a new one stands for
  refine ⟨{ dom := fun τ => τ < (h0 ++ h1).length, ρ := fun τ' => if τ' < b0 then g.ρ τ' else g.ρ (ids.getD (τ' - b0) 0), S := g.S, Sl := g.Sl }, ?_, rfl, rfl, fun τ => Iff.rfl, hpre⟩
  refine ⟨fun τ hD hdt => (hinv τ hD hdt).1, fun τ hD hdt => ?_, fun τ hD hdt m E xs hx => ?_, fun τ hD hdt y hy => ?_, fun b h => h, fun b h => h⟩
  · by_cases h : τ < b0
    · have e : rnF b0 ids τ = τ := by simp [rnF]; omega
      simp only [e, h, if_true]
    · have hm := hD.resolve_left h
      obtain ⟨i, hi⟩ := List.mem_iff_getElem?.1 hm
      rw [hφ _ _ hi]
      simp only [if_neg (show ¬ b0 + i < b0 by omega), Nat.add_sub_cancel_left]
      rw [List.getD_eq_getElem?_getD, hi]; rfl
  · obtain ⟨_, b, b', q1, q2, q3⟩ := hinv τ hD hdt
    rw [hx] at q2
    cases q2
    cases b with
    | rows m' E' xs' => have e : Blk.rows m E xs = .rows m' E' xs' := q3; rw [q1, e]
    | box y => obtain ⟨y', e, _⟩ := q3; cases e
  · obtain ⟨_, b, b', q1, q2, q3⟩ := hinv τ hD hdt
    rw [hy] at q2
    cases q2
    cases b with
    | rows m' E' xs' => have e : Blk.box y = .rows m' E' xs' := q3; cases e
    | box y' => exact ⟨y', q1⟩
end
end Go.AM
