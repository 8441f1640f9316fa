import Derived.Test.YtlacambjecjdbaaAmCanon
set_option linter.unusedVariables false
set_option linter.unusedSimpArgs false
set_option linter.unnecessarySimpa false
/-! Names of tokens; calls that share the caller's memory. -/
namespace Go.AM

section
variable {P : Program} {T : TypeId → Option TI} {o : Oper} {tm : List AV} {hp : List Blk} {r : AV × List Blk}

def OkIds (b0 : Nat) (l : List Nat) : Prop := l.Nodup ∧ ∀ τ ∈ l, b0 ≤ τ

theorem memN_eq : ∀ {l : List Nat} {n : Nat}, memN l n = true ↔ n ∈ l
  | [], n => by simp [memN]
  | a :: l, n => by
    simp only [memN, List.mem_cons]
    cases h : Nat.beq a n with
    | true => have := beq_eq h; subst this; simp
    | false =>
      have : ¬ n = a := fun e => by subst e; simp at h
      simp [this, memN_eq]

theorem snocN_eq : ∀ (l : List Nat) (n : Nat), snocN l n = l ++ [n]
  | [], n => rfl
  | a :: l, n => by simp [snocN, snocN_eq l n]

theorem OkIds.nil {b0 : Nat} : OkIds b0 [] := ⟨List.nodup_nil, fun _ h => by cases h⟩

theorem OkIds.put {b0 τ : Nat} {acc : List Nat} (h : OkIds b0 acc) : OkIds b0 (bif Nat.ble b0 τ then bif memN acc τ then acc else snocN acc τ else acc) := by
  cases h1 : Nat.ble b0 τ with
  | false => exact h
  | true =>
    cases h2 : memN acc τ with
    | true => simpa [h1, h2] using h
    | false =>
      simp only [cond_true, cond_false, snocN_eq]
      have hn : τ ∉ acc := fun hm => by rw [memN_eq.2 hm] at h2; cases h2
      refine ⟨?_, fun x hx => ?_⟩
      · rw [List.nodup_append]
        refine ⟨h.1, by simp, fun a ha b hb => ?_⟩
        simp at hb
        subst hb
        exact fun e => hn (e ▸ ha)
      · rcases List.mem_append.1 hx with hx | hx
        · exact h.2 x hx
        · simp at hx; subst hx; exact Nat.le_of_ble_eq_true h1

theorem tok1_okI {b0 : Nat} {acc : List Nat} (h : OkIds b0 acc) (v : AV) : OkIds b0 (tok1 b0 acc v) := by
  cases v <;> first
    | exact h.put
    | exact h
theorem toks_okI {b0 : Nat} : ∀ {acc : List Nat} (_ : OkIds b0 acc) (l : List AV), OkIds b0 (toks b0 acc l)
  | _, h, [] => h
  | _, h, v :: l => toks_okI (tok1_okI h v) l
theorem tok2_okI {b0 : Nat} {acc : List Nat} (h : OkIds b0 acc) (v : AV) : OkIds b0 (tok2 b0 acc v) := by
  unfold tok2
  split <;> first
    | exact toks_okI h _
    | exact tok1_okI h _
theorem toks2_okI {b0 : Nat} : ∀ {acc : List Nat} (_ : OkIds b0 acc) (l : List AV), OkIds b0 (toks2 b0 acc l)
  | _, h, [] => h
  | _, h, v :: l => toks2_okI (tok2_okI h v) l
theorem tok3_okI {b0 : Nat} {acc : List Nat} (h : OkIds b0 acc) (v : AV) : OkIds b0 (tok3 b0 acc v) := by
  unfold tok3
  split <;> first
    | exact toks2_okI (toks2_okI h _) _
    | exact tok2_okI h _
theorem toks3_okI {b0 : Nat} : ∀ {acc : List Nat} (_ : OkIds b0 acc) (l : List AV), OkIds b0 (toks3 b0 acc l)
  | _, h, [] => h
  | _, h, v :: l => toks3_okI (tok3_okI h v) l
theorem boxToks_okI {b0 : Nat} {hp : List Blk} : ∀ {acc : List Nat} (_ : OkIds b0 acc) (l : List Nat), OkIds b0 (boxToks b0 hp acc l)
  | _, h, [] => h
  | acc, h, τ :: l => by
    refine boxToks_okI ?_ l
    dsimp only [boxTok]
    split
    · exact tok2_okI h _
    · exact h
theorem oldToks_okI {b0 : Nat} : ∀ {acc : List Nat} (_ : OkIds b0 acc) (l : List Blk), OkIds b0 (oldToks b0 acc l)
  | _, h, [] => h
  | _, h, .box v :: l => oldToks_okI (tok2_okI h v) l
  | _, h, .rows _ _ _ :: l => oldToks_okI h l

theorem canon_ok {b0 : Nat} {ks : List (Tmp × Nat)} {κ : List AV → List Blk → R} (h : canonK b0 ks tm hp κ = some r) : ∃ tm' hp', κ tm' hp' = some r ∧
    ∀ (g0 : G) (H0 : List Blk) (w0 : World) (g : G) (w : World) (vs : List Value), (∀ τ, g0.dom τ → τ < b0) → Trans g0 H0 w0 g hp w → Good g hp w → (∀ τ, g.dom τ ↔ τ < hp.length) → All2 (V3 g hp w) tm vs →
      ∃ g', Trans g0 H0 w0 g' hp' w ∧ Good g' hp' w ∧ (∀ τ, g'.dom τ ↔ τ < hp'.length) ∧ All2 (V3 g' hp' w) tm' vs := by
  unfold canonK at h
  obtain ⟨tm1, hp1, h1, hl1, hk⟩ := keepTm_ok h
  clear h
  obtain ⟨hb, h2⟩ := headB_some h1
  clear h1
  dsimp only at h2
  have hok : OkIds b0 (boxToks b0 hp1 (oldToks b0 (toks3 b0 [] tm1) (hp1.take b0)) (oldToks b0 (toks3 b0 [] tm1) (hp1.take b0))) := boxToks_okI (oldToks_okI (toks3_okI OkIds.nil _) _) _
  revert h2 hok
  generalize boxToks b0 hp1 (oldToks b0 (toks3 b0 [] tm1) (hp1.take b0)) (oldToks b0 (toks3 b0 [] tm1) (hp1.take b0)) = ids
  intro h2 hok
  obtain ⟨tm2, h3, hrv⟩ := rens3_ok h2
  obtain ⟨h0, h4, h0l, hr0⟩ := rensB_ok h3
  obtain ⟨h1', h5, h1l, hr1⟩ := pickB_ok h4
  rw [apndB_eq] at h5
  refine ⟨tm2, h0 ++ h1', h5, fun g0 H0 w0 g w vs hg0 ht hg hd hv => ?_⟩
  obtain ⟨g1, k1, k2, k3, k4⟩ := hk g w vs hg hv
  have hd1 : ∀ τ, g1.dom τ ↔ τ < hp1.length := fun τ => by rw [k3, hd, hl1]
  obtain ⟨g2, q1, q2, q3, q4, q5⟩ := ren_heap hb (by rw [h0l]; simp; omega) h1l hr0 hr1 hok.2 hok.1 k2 hd1
  refine ⟨g2, Trans.canon (ht.trans k1) (fun τ h => ⟨.inl (hg0 τ h), ?_⟩) q1 q2 q3 q5, Good.ren k2 q1 q2 q3 q5, q4, RVs.all2 q1 hrv k4⟩
  have := hg0 τ h
  simp [rnF]
  omega

/-! back from the callee's names -/

section bak
variable {φ : Nat → Nat} {ids : List Nat} {N : Nat}

theorem bak1_ok (hφ : ∀ (i : Nat) τ, ids[i]? = some τ → φ i = τ) {v : AV} {κ : AV → R} (h : bak1K ids v κ = some r) : κ (rn1 φ v) = some r ∧ tk1 (· < ids.length) v := by
  cases v <;> simp only [bak1K] at h <;> try (cases h; done)
  case own τ E rr c =>
    obtain ⟨σ, h1, h2⟩ := getK_some h
    simp only [rn1, hφ _ _ h1]
    exact ⟨h2, (List.getElem?_eq_some_iff.1 h1).1⟩
  case ptr τ i o E =>
    obtain ⟨σ, h1, h2⟩ := getK_some h
    simp only [rn1, hφ _ _ h1]
    exact ⟨h2, (List.getElem?_eq_some_iff.1 h1).1⟩
  all_goals exact ⟨h, trivial⟩

theorem baks_ok (hφ : ∀ (i : Nat) τ, ids[i]? = some τ → φ i = τ) : ∀ {l : List AV} {κ : List AV → R}, baksK ids l κ = some r → κ (l.map (rn1 φ)) = some r ∧ ∀ x ∈ l, tk1 (· < ids.length) x
  | [], κ, h => ⟨h, fun x hx => by cases hx⟩
  | v :: l, κ, h => by
    simp only [baksK] at h
    obtain ⟨h1, h2⟩ := bak1_ok hφ h
    obtain ⟨h3, h4⟩ := baks_ok hφ h1
    refine ⟨h3, fun x hx => ?_⟩
    cases hx with
    | head => exact h2
    | tail _ hx => exact h4 x hx

/-- at level 2: an aggregate's cells, or one value -/
def bk2 (φ : Nat → Nat) : AV → AV
  | .agg cs => .agg (cs.map (rn1 φ))
  | v => rn1 φ v
def tk2 (D : Nat → Prop) : AV → Prop
  | .agg cs => ∀ x ∈ cs, tk1 D x
  | v => tk1 D v

theorem bak2_ok (hφ : ∀ (i : Nat) τ, ids[i]? = some τ → φ i = τ) {v : AV} {κ : AV → R} (h : bak2K ids v κ = some r) : κ (bk2 φ v) = some r ∧ tk2 (· < ids.length) v := by
  unfold bak2K at h
  split at h
  · obtain ⟨h1, h2⟩ := baks_ok hφ h
    exact ⟨h1, h2⟩
  · rename_i hne
    obtain ⟨h1, h2⟩ := bak1_ok hφ h
    cases v <;> first
      | exact ⟨h1, h2⟩
      | exact absurd rfl (hne _)

theorem baks2_ok (hφ : ∀ (i : Nat) τ, ids[i]? = some τ → φ i = τ) : ∀ {l : List AV} {κ : List AV → R}, baks2K ids l κ = some r → κ (l.map (bk2 φ)) = some r ∧ ∀ x ∈ l, tk2 (· < ids.length) x
  | [], κ, h => ⟨h, fun x hx => by cases hx⟩
  | v :: l, κ, h => by
    simp only [baks2K] at h
    obtain ⟨h1, h2⟩ := bak2_ok hφ h
    obtain ⟨h3, h4⟩ := baks2_ok hφ h1
    refine ⟨h3, fun x hx => ?_⟩
    cases hx with
    | head => exact h2
    | tail _ hx => exact h4 x hx

def bk3 (φ : Nat → Nat) : AV → AV
  | .tup vs => .tup (vs.map (bk2 φ))
  | v => bk2 φ v
def tk3 (D : Nat → Prop) : AV → Prop
  | .tup vs => ∀ x ∈ vs, tk2 D x
  | v => tk2 D v

theorem bak3_ok (hφ : ∀ (i : Nat) τ, ids[i]? = some τ → φ i = τ) {v : AV} {κ : AV → R} (h : bak3K ids v κ = some r) : κ (bk3 φ v) = some r ∧ tk3 (· < ids.length) v := by
  unfold bak3K at h
  split at h
  · obtain ⟨h1, h2⟩ := baks2_ok hφ h
    exact ⟨h1, h2⟩
  · rename_i hne
    obtain ⟨h1, h2⟩ := bak2_ok hφ h
    cases v <;> first
      | exact ⟨h1, h2⟩
      | exact absurd rfl (hne _)

theorem RV.two {D : Nat → Prop} {x : AV} (h : tk2 D x) : RV φ D x (bk2 φ x) := by
  cases x <;> first
    | exact RV.agg h
    | exact RV.one h

theorem bakB_ok (hφ : ∀ (i : Nat) τ, ids[i]? = some τ → φ i = τ) {b : Blk} {κ : Blk → R} (h : bakB ids b κ = some r) : ∃ b', κ b' = some r ∧ RB φ (· < ids.length) b b' := by
  unfold bakB at h
  split at h
  · obtain ⟨h1, h2⟩ := bak2_ok hφ h
    exact ⟨_, h1, _, rfl, RV.two h2⟩
  · exact ⟨_, h, rfl⟩

/-! adoption commutes with the names -/
theorem tk1_mono {D D' : Nat → Prop} (h : ∀ τ, D τ → D' τ) {x : AV} (hx : tk1 D x) : tk1 D' x := by
  cases x <;> first
    | exact h _ hx
    | exact hx

theorem ad1_rn {D : Nat → Prop} {M : Nat} {hk h0 : List Blk} (hφ : φ hk.length = h0.length) {x : AV} (hx : tk1 (· < M) x) (hM : ∀ τ, τ < M → D τ) (hN : ∀ τ, hk.length ≤ τ → τ < (ad1 hk x).2.length → D τ) :
    (ad1 h0 (rn1 φ x)).1 = rn1 φ (ad1 hk x).1 ∧ tk1 D (ad1 hk x).1 ∧ ∃ bl, (ad1 hk x).2 = hk ++ bl ∧ (ad1 h0 (rn1 φ x)).2 = h0 ++ bl := by
  cases x with
  | frs E xs =>
    simp only [ad1, rn1, List.length_append, List.length_singleton] at hN ⊢
    exact ⟨by rw [hφ], hN _ (Nat.le_refl _) (by omega), _, rfl, rfl⟩
  | fn _ _ _ => exact hx.elim
  | tup _ => exact hx.elim
  | agg _ => exact hx.elim
  | _ => exact ⟨rfl, tk1_mono hM hx, [], by simp [ad1], by simp [ad1, rn1]⟩

variable {n m : Nat}

/-- how the callee's names go over to the caller's behind the ones that were handed in -/
def Tail (φ : Nat → Nat) (n m : Nat) : Prop := ∀ i, m ≤ i → φ i = n + (i - m)

theorem ads_rn {D : Nat → Prop} (ht : Tail φ n m) {M : Nat} (hM : ∀ τ, τ < M → D τ) : ∀ {l : List AV} {hk h0 : List Blk}, m ≤ hk.length → h0.length = n + (hk.length - m) → (∀ x ∈ l, tk1 (· < M) x) → (∀ τ, m ≤ τ → τ < (ads hk l).2.length → D τ) →
    (ads h0 (l.map (rn1 φ))).1 = (ads hk l).1.map (rn1 φ) ∧ (∀ x ∈ (ads hk l).1, tk1 D x) ∧ ∃ bl, (ads hk l).2 = hk ++ bl ∧ (ads h0 (l.map (rn1 φ))).2 = h0 ++ bl
  | [], hk, h0, _, _, _, _ => ⟨rfl, fun x hx => by simp [ads] at hx, [], by simp [ads], by simp [ads]⟩
  | x :: l, hk, h0, hm, hl, hx, hN => by
    have hN1 : ∀ τ, hk.length ≤ τ → τ < (ad1 hk x).2.length → D τ := fun τ h1 h2 => hN τ (by omega) (Nat.lt_of_lt_of_le h2 (ads_pre (ad1 hk x).2 l).length_le)
    obtain ⟨k1, k2, bl, k3, k4⟩ := ad1_rn (φ := φ) (h0 := h0) (by rw [ht _ hm, hl]) (hx x (by simp)) hM hN1
    have hlen : (ad1 h0 (rn1 φ x)).2.length = n + ((ad1 hk x).2.length - m) := by rw [k3, k4]; simp; omega
    obtain ⟨p1, p2, bl', p3, p4⟩ := ads_rn ht hM (l := l) (hk := (ad1 hk x).2) (h0 := (ad1 h0 (rn1 φ x)).2) (by rw [k3]; simp; omega) hlen (fun y hy => hx y (by simp [hy])) hN
    refine ⟨by simp only [ads, List.map_cons, k1, p1], fun y hy => ?_, bl ++ bl', ?_, ?_⟩
    · simp only [ads, List.mem_cons] at hy
      rcases hy with rfl | hy
      · exact k2
      · exact p2 y hy
    · simp only [ads, p3]; rw [k3]; simp
    · simp only [ads, List.map_cons, p4]; rw [k4]; simp

theorem ad2_rn {D : Nat → Prop} (ht : Tail φ n m) {M : Nat} (hM : ∀ τ, τ < M → D τ) {x : AV} {hk h0 : List Blk} (hm : m ≤ hk.length) (hl : h0.length = n + (hk.length - m)) (hx : tk2 (· < M) x) (hN : ∀ τ, m ≤ τ → τ < (ad2 hk x).2.length → D τ) :
    (ad2 h0 (bk2 φ x)).1 = bk2 φ (ad2 hk x).1 ∧ tk2 D (ad2 hk x).1 ∧ ∃ bl, (ad2 hk x).2 = hk ++ bl ∧ (ad2 h0 (bk2 φ x)).2 = h0 ++ bl := by
  have one : tk1 (· < M) x → (ad2 hk x) = ad1 hk x → (ad2 h0 (bk2 φ x)) = ad1 h0 (rn1 φ x) → bk2 φ (ad1 hk x).1 = rn1 φ (ad1 hk x).1 → (tk1 D (ad1 hk x).1 → tk2 D (ad1 hk x).1) →
      (ad2 h0 (bk2 φ x)).1 = bk2 φ (ad2 hk x).1 ∧ tk2 D (ad2 hk x).1 ∧ ∃ bl, (ad2 hk x).2 = hk ++ bl ∧ (ad2 h0 (bk2 φ x)).2 = h0 ++ bl := by
    intro h1 h2 h3 h4 h5
    rw [h2] at hN
    obtain ⟨k1, k2, k3⟩ := ad1_rn (φ := φ) (h0 := h0) (by rw [ht _ hm, hl]) h1 hM (fun τ h1 h2 => hN τ (by omega) h2)
    rw [h2, h3, h4]
    exact ⟨k1, h5 k2, k3⟩
  cases x with
  | agg cs =>
    obtain ⟨k1, k2, k3⟩ := ads_rn ht hM hm hl hx hN
    exact ⟨by simp only [ad2, bk2, k1], k2, k3⟩
  | fn _ _ _ => exact hx.elim
  | tup _ => exact hx.elim
  | _ => exact one hx rfl rfl rfl id

theorem ads2_rn {D : Nat → Prop} (ht : Tail φ n m) {M : Nat} (hM : ∀ τ, τ < M → D τ) : ∀ {l : List AV} {hk h0 : List Blk}, m ≤ hk.length → h0.length = n + (hk.length - m) → (∀ x ∈ l, tk2 (· < M) x) → (∀ τ, m ≤ τ → τ < (ads2 hk l).2.length → D τ) →
    (ads2 h0 (l.map (bk2 φ))).1 = (ads2 hk l).1.map (bk2 φ) ∧ (∀ x ∈ (ads2 hk l).1, tk2 D x) ∧ ∃ bl, (ads2 hk l).2 = hk ++ bl ∧ (ads2 h0 (l.map (bk2 φ))).2 = h0 ++ bl
  | [], hk, h0, _, _, _, _ => ⟨rfl, fun x hx => by simp [ads2] at hx, [], by simp [ads2], by simp [ads2]⟩
  | x :: l, hk, h0, hm, hl, hx, hN => by
    have hN1 : ∀ τ, m ≤ τ → τ < (ad2 hk x).2.length → D τ := fun τ h1 h2 => hN τ h1 (Nat.lt_of_lt_of_le h2 (ads2_pre (ad2 hk x).2 l).length_le)
    obtain ⟨k1, k2, bl, k3, k4⟩ := ad2_rn ht hM hm hl (hx x (by simp)) hN1
    have hlen : (ad2 h0 (bk2 φ x)).2.length = n + ((ad2 hk x).2.length - m) := by rw [k3, k4]; simp; omega
    obtain ⟨p1, p2, bl', p3, p4⟩ := ads2_rn ht hM (l := l) (hk := (ad2 hk x).2) (h0 := (ad2 h0 (bk2 φ x)).2) (by rw [k3]; simp; omega) hlen (fun y hy => hx y (by simp [hy])) hN
    refine ⟨by simp only [ads2, List.map_cons, k1, p1], fun y hy => ?_, bl ++ bl', ?_, ?_⟩
    · simp only [ads2, List.mem_cons] at hy
      rcases hy with rfl | hy
      · exact k2
      · exact p2 y hy
    · simp only [ads2, p3]; rw [k3]; simp
    · simp only [ads2, List.map_cons, p4]; rw [k4]; simp

theorem ad3_rn {D : Nat → Prop} (ht : Tail φ n m) {M : Nat} (hM : ∀ τ, τ < M → D τ) {x : AV} {hk h0 : List Blk} (hm : m ≤ hk.length) (hl : h0.length = n + (hk.length - m)) (hx : tk3 (· < M) x) (hN : ∀ τ, m ≤ τ → τ < (ad3 hk x).2.length → D τ) :
    RV φ D (ad3 hk x).1 (ad3 h0 (bk3 φ x)).1 ∧ ∃ bl, (ad3 hk x).2 = hk ++ bl ∧ (ad3 h0 (bk3 φ x)).2 = h0 ++ bl := by
  have two : tk2 (· < M) x → ad3 hk x = ad2 hk x → ad3 h0 (bk3 φ x) = ad2 h0 (bk2 φ x) → RV φ D (ad3 hk x).1 (ad3 h0 (bk3 φ x)).1 ∧ ∃ bl, (ad3 hk x).2 = hk ++ bl ∧ (ad3 h0 (bk3 φ x)).2 = h0 ++ bl := by
    intro h1 h2 h3
    rw [h2] at hN
    obtain ⟨k1, k2, k3⟩ := ad2_rn ht hM hm hl h1 hN
    rw [h2, h3, k1]
    exact ⟨RV.two k2, k3⟩
  cases x with
  | tup vs =>
    obtain ⟨k1, k2, k3⟩ := ads2_rn ht hM hm hl hx hN
    refine ⟨?_, k3⟩
    simp only [ad3, bk3, k1]
    refine RV.tup ⟨by simp, fun i y y' hy hy' => ?_⟩
    rw [List.getElem?_map, hy] at hy'
    cases hy'
    exact RV.two (k2 y (List.mem_of_getElem? hy))
  | fn _ _ _ => exact hx.elim
  | _ => exact two hx rfl rfl
end bak
end
end Go.AM
