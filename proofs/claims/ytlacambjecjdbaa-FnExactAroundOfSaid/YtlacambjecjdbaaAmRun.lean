import Derived.Test.YtlacambjecjdbaaAmRet
set_option linter.unusedVariables false
set_option linter.unusedSimpArgs false
set_option linter.unnecessarySimpa false
/-! A function's run. -/
namespace Go.AM

section
variable {P : Program} {T : TypeId → Option TI} {C : CF} {sh : FuncId → Bool} {r : AV × List Blk} {b0 : Nat}

theorem Ren.congr {φ φ' : Nat → Nat} {D D' : Nat → Prop} {g1 g2 : G} {H1 H2 : List Blk} (h : ∀ τ, D τ → φ' τ = φ τ) (hD : ∀ τ, D τ → D' τ) (hR : Ren φ' D' g1 H1 g2 H2) : Ren φ D g1 H1 g2 H2 where
  dom τ hd hg := by rw [← h τ hd]; exact hR.dom τ (hD τ hd) hg
  ρ τ hd hg := by rw [← h τ hd]; exact hR.ρ τ (hD τ hd) hg
  rows τ hd hg m E xs hx := by rw [← h τ hd] at hx; exact hR.rows τ (hD τ hd) hg m E xs hx
  box τ hd hg y hy := by rw [← h τ hd] at hy; exact hR.box τ (hD τ hd) hg y hy
  S := hR.S
  Sl := hR.Sl

theorem RV.congr {φ φ' : Nat → Nat} {D D' : Nat → Prop} (h : ∀ τ, D τ → φ' τ = φ τ) (hD : ∀ τ, D τ → D' τ) {x x' : AV} (hv : RV φ D x x') : RV φ' D' x x' := fun g1 g2 H1 H2 w hR => hv g1 g2 H1 H2 w (hR.congr h hD)

theorem RB.congr {φ φ' : Nat → Nat} {D D' : Nat → Prop} (h : ∀ τ, D τ → φ' τ = φ τ) (hD : ∀ τ, D τ → D' τ) {b b' : Blk} (hv : RB φ D b b') : RB φ' D' b b' := by
  cases b with
  | rows m E xs => exact hv
  | box y => obtain ⟨y', e, hv⟩ := hv; exact ⟨y', e, hv.congr h hD⟩

theorem rn1_id {φ : Nat → Nat} {D : Nat → Prop} (hφ : ∀ τ, D τ → φ τ = τ) {v : AV} (h : tk1 D v) : rn1 φ v = v := by
  cases v with
  | own τ E r c => simp only [rn1, hφ τ h]
  | ptr τ i o E => simp only [rn1, hφ τ h]
  | _ => rfl
theorem map_id' {f : AV → AV} : ∀ {l : List AV}, (∀ x ∈ l, f x = x) → l.map f = l
  | [], _ => rfl
  | x :: l, h => by rw [List.map_cons, h x (by simp), map_id' fun y hy => h y (by simp [hy])]
theorem bk2_id {φ : Nat → Nat} {D : Nat → Prop} (hφ : ∀ τ, D τ → φ τ = τ) {v : AV} (h : tk2 D v) : bk2 φ v = v := by
  unfold bk2
  split
  · rename_i cs
    rw [map_id' fun x hx => rn1_id hφ (h x hx)]
  · rename_i hne
    have : tk1 D v := by cases v <;> first | exact h | exact absurd rfl (hne _)
    exact rn1_id hφ this
theorem bk3_id {φ : Nat → Nat} {D : Nat → Prop} (hφ : ∀ τ, D τ → φ τ = τ) {v : AV} (h : tk3 D v) : bk3 φ v = v := by
  unfold bk3
  split
  · rename_i vs
    rw [map_id' fun x hx => bk2_id hφ (h x hx)]
  · rename_i hne
    have : tk2 D v := by cases v <;> first | exact h | exact absurd rfl (hne _)
    exact bk2_id hφ this

theorem fin_ok {v res : AV} {hp hpF : List Blk} (h : finK b0 v hp = some (res, hpF)) (htk : tk3 (· < b0) v) : res = v ∧ ∀ (g0 : G) (H0 : List Blk) (w0 : World) (g : G) (w : World) (val : Value), (∀ τ, g0.dom τ → τ < b0) → Trans g0 H0 w0 g (ad3 hp v).2 w → Good g (ad3 hp v).2 w →
    (∀ τ, g.dom τ ↔ τ < (ad3 hp v).2.length) → V3 g (ad3 hp v).2 w (ad3 hp v).1 val →
      ∃ g', Trans g0 H0 w0 g' (ad3 hpF v).2 w ∧ Good g' (ad3 hpF v).2 w ∧ (∀ τ, g'.dom τ ↔ τ < (ad3 hpF v).2.length) ∧ V3 g' (ad3 hpF v).2 w (ad3 hpF v).1 val := by
  unfold finK at h
  obtain ⟨hb, h1⟩ := headB_some h
  clear h
  dsimp only at h1
  have hok : OkIds b0 (oldToks b0 [] (hp.take b0)) := oldToks_okI OkIds.nil _
  revert h1 hok
  generalize oldToks b0 [] (hp.take b0) = ids
  intro h1 hok
  obtain ⟨h0, h2, h0l, hr0⟩ := rensB_ok h1
  obtain ⟨ex, h3, hexl, hr1⟩ := pickB_ok h2
  rw [apndB_eq] at h3
  simp only [Option.some.injEq, Prod.mk.injEq] at h3
  obtain ⟨rfl, rfl⟩ := h3
  refine ⟨rfl, fun g0 H0 w0 g w val hg0 ht hg hd hv => ?_⟩
  have h0l' : h0.length = b0 := by rw [h0l]; simp; omega
  have hltI : ∀ τ ∈ ids, τ < hp.length := fun τ hτ => by
    obtain ⟨i, hi⟩ := List.mem_iff_getElem?.1 hτ
    obtain ⟨b, _, hb, _⟩ := hr1 i τ hi
    exact (List.getElem?_eq_some_iff.1 hb).1
  have e1 := ad3_app0 hp v
  have e2 := ad3_app0 (h0 ++ ex) v
  have hlive := ad3_live (hk := []) (x := v) (fun _ h => by cases h)
  generalize (ad3 [] v).2 = news at e1 e2 hlive
  -- the tokens that are kept
  have hmem' : ∀ τ, τ ∈ ids ++ List.range' hp.length news.length ↔ τ ∈ ids ∨ (hp.length ≤ τ ∧ τ < hp.length + news.length) := fun τ => by simp [List.mem_append, List.mem_range'_1]
  have hφ : ∀ τ, rnD b0 ids τ → rnF b0 (ids ++ List.range' hp.length news.length) τ = rnF b0 ids τ := by
    intro τ hτ
    unfold rnF
    split
    · have hm := hτ.resolve_left (by omega)
      rw [List.idxOf_append, if_pos hm]
    · rfl
  have hD : ∀ τ, rnD b0 ids τ → rnD b0 (ids ++ List.range' hp.length news.length) τ := fun τ h => h.imp id fun h => List.mem_append.2 (.inl h)
  have hnd : (ids ++ List.range' hp.length news.length).Nodup := by
    rw [List.nodup_append]
    refine ⟨hok.1, List.nodup_range', fun a ha b hb => ?_⟩
    have := hltI a ha
    have := (List.mem_range'_1.1 hb).1
    omega
  obtain ⟨g2, q1, q2, q3, q4, q5⟩ := ren_heap (hp := hp ++ news) (b0 := b0) (ids := ids ++ List.range' hp.length news.length) (h0 := h0) (h1 := ex ++ news) (by simp; omega) h0l' (by simp [hexl]) (fun i b b' hb hb' => by
      have hil := (List.getElem?_eq_some_iff.1 hb').1
      refine (hr0 i b b' ?_ hb').congr hφ hD
      rw [List.getElem?_take_of_lt (by omega)] at hb ⊢
      rw [List.getElem?_append_left (by omega)] at hb
      exact hb) (fun i τ hi => by
      by_cases hil : i < ids.length
      · rw [List.getElem?_append_left hil] at hi
        obtain ⟨b, b', k1, k2, k3⟩ := hr1 i τ hi
        exact ⟨b, b', prefix_get (List.prefix_append _ _) k1, prefix_get (List.prefix_append _ _) k2, k3.congr hφ hD⟩
      · rw [List.getElem?_append_right (by omega)] at hi
        have hb := (List.getElem?_eq_some_iff.1 hi).1
        simp only [List.length_range'] at hb
        rw [List.getElem?_range' hb] at hi
        cases hi
        have k1 : news[i - ids.length]? = some news[i - ids.length] := List.getElem?_eq_getElem hb
        refine ⟨news[i - ids.length], news[i - ids.length], ?_, ?_, ?_⟩
        · rw [List.getElem?_append_right (by omega), ← k1]; congr 1; omega
        · rw [List.getElem?_append_right (by omega), ← k1]; congr 1; omega
        · have hl := hlive _ (List.getElem_mem hb)
          revert hl
          generalize news[i - ids.length] = bk
          intro hl
          match bk, hl with
          | .rows .live E xs, _ => rfl) (fun τ hτ => by
      rcases (hmem' τ).1 hτ with h | h
      · exact hok.2 τ h
      · omega) hnd (by rw [← e1]; exact hg) (by rw [← e1]; exact hd)
  have e3 : h0 ++ (ex ++ news) = (ad3 (h0 ++ ex) v).2 := by rw [e2]; simp
  rw [e3] at q1 q4 q5
  rw [← e1] at q1 q5
  refine ⟨g2, Trans.canon ht (fun τ h => ⟨.inl (hg0 τ h), ?_⟩) q1 q2 q3 q5, Good.ren hg q1 q2 q3 q5, q4, ?_⟩
  · have := hg0 τ h
    simp [rnF]
    omega
  · -- the value itself
    let φ : Nat → Nat := fun i => if i < hp.length then rnF b0 (ids ++ List.range' hp.length news.length) i else (h0 ++ ex).length + (i - hp.length)
    have htail : Tail φ (h0 ++ ex).length hp.length := fun i hi => by simp only [φ, if_neg (show ¬ i < hp.length by omega)]
    have hfix : ∀ τ, τ < b0 → φ τ = τ := fun τ h => by
      simp only [φ, if_pos (show τ < hp.length by omega), rnF, if_neg (show ¬ b0 ≤ τ by omega)]
    obtain ⟨k1, _⟩ := ad3_rn (D := fun τ => τ < b0 ∨ (hp.length ≤ τ ∧ τ < hp.length + news.length)) htail (M := b0) (fun τ h => .inl h) (x := v) (hk := hp) (h0 := h0 ++ ex) (Nat.le_refl _) (by simp) htk (fun τ h1 h2 => .inr ⟨h1, by rw [e1] at h2; simpa using h2⟩)
    rw [bk3_id hfix htk] at k1
    have k2 := k1.congr (φ' := rnF b0 (ids ++ List.range' hp.length news.length)) (D' := rnD b0 (ids ++ List.range' hp.length news.length)) (fun τ h => ?_) (fun τ h => h.imp id fun h => (hmem' τ).2 (.inr h))
    · exact (k2 g g2 _ _ w q1).1 val hv
    · by_cases hlt : τ < hp.length
      · simp only [φ, if_pos hlt]
      · have h := h.resolve_left (by omega)
        simp only [φ, if_neg hlt, rnF, if_pos (show b0 ≤ τ by omega)]
        have hidx : (ids ++ List.range' hp.length news.length).idxOf τ = ids.length + (τ - hp.length) := by
          have hi : (ids ++ List.range' hp.length news.length)[ids.length + (τ - hp.length)]? = some τ := by
            rw [List.getElem?_append_right (by omega), Nat.add_sub_cancel_left, List.getElem?_range' (by omega)]
            congr 1
            omega
          have hil := (List.getElem?_eq_some_iff.1 hi).1
          have h1 := (List.getElem?_eq_some_iff.1 hi).2
          have := hnd.idxOf_getElem _ hil
          rw [h1] at this
          exact this
        rw [hidx]
        simp
        omega

/-- one result variable, as the machine reads it -/
def resSem (a : Act) : ResultVar → Sem Value
  | .tmp t => pure (a.tmps.getD t undef)
  | .cell x t => do loadVar t (← asAddr (a.tmps.getD x undef))

theorem results_run {fn : Func} {a : Act} {w : World} {vals : List Value} (h : fn.results.toList.length = vals.length) (hh : ∀ (i : Nat) rv v, fn.results.toList[i]? = some rv → vals[i]? = some v → (resSem a rv).run P w = .ok v w) :
    (results fn a.tmps).run P w = .ok (if h : vals.length = 1 then vals[0]'(by omega) else .tuple ⟨vals⟩) w := by
  have key : ∀ (l : List ResultVar) (vs : List Value), l.length = vs.length → (∀ (i : Nat) rv v, l[i]? = some rv → vs[i]? = some v → (resSem a rv).run P w = .ok v w) → (l.mapM (resSem a)).run P w = .ok vs w := by
    intro l
    induction l with
    | nil => intro vs h _; cases vs with | nil => simp | cons _ _ => simp at h
    | cons x l ih =>
      intro vs h hh
      cases vs with
      | nil => simp at h
      | cons v vs =>
        have h1 := hh 0 x v rfl rfl
        have h2 := ih vs (by simpa using h) fun i rv u k1 k2 => hh (i + 1) rv u (by simpa using k1) (by simpa using k2)
        simp [List.mapM_cons, h1, h2]
  have h1 := key fn.results.toList vals h hh
  have h3 : ∀ F : ResultVar → Sem Value, (∀ rv, F rv = resSem a rv) → (fn.results.mapM F).run P w = .ok vals.toArray w := by
    intro F hF
    have : F = resSem a := funext hF
    rw [this, Array.mapM_eq_mapM_toList]
    simp [h1]
  unfold results
  rw [Sem.run_bind, h3 _ (fun rv => by cases rv <;> rfl)]
  simp

theorem res1_ok (hT : TOk P T) {rv : ResultVar} {tm : List AV} {hp : List Blk} {κ : AV → R} (h : res1K T rv tm hp κ = some r) : ∃ u, κ u = some r ∧ ∀ (g : G) (a : Act) (w : World), RS g tm hp a w → ∃ val, (resSem a rv).run P w = .ok val w ∧ V3 g hp w u val := by
  cases rv with
  | tmp t =>
    obtain ⟨u, hu, h1⟩ := getK_some h
    exact ⟨u, h1, fun g a w hs => ⟨_, by simp [resSem], (hs.tmps.get hu).2⟩⟩
  | cell t ty =>
    simp only [res1K] at h
    obtain ⟨sz, ag, b1, z1, d1, hs1, h1⟩ := tyK_some h
    clear h
    obtain ⟨u, hu, h2⟩ := getK_some h1
    clear h1
    split at h2
    case h_2 => cases h2
    rename_i τ i off E
    obtain ⟨blk, hb, h3⟩ := getK_some h2
    clear h2
    split at h3
    case h_2 => cases h3
    rename_i y
    obtain ⟨u', h4, h5⟩ := part_load (P := P) h3
    refine ⟨u', h4, fun g a w hs => ?_⟩
    obtain ⟨hd, hz, b, base, n, k1, k2, k3⟩ := (hs.tmps.get hu).2
    have h0 := hz y hb
    have hn : n = 0 := by omega
    subst hn
    obtain ⟨bk, q1, q2⟩ := hs.good.tok τ hd
    rw [hb] at q1
    cases q1
    obtain ⟨b', o', hρ', _, _, hcs⟩ := q2
    rw [k1] at hρ'
    cases hρ'
    obtain ⟨val, h6, h7⟩ := h5 g hp w ty b1 z1 d1 b base (hT _ _ _ _ _ _ hs1) hcs
    refine ⟨val, ?_, h7⟩
    simp only [resSem, k3, asAddr, Sem.run_bind, Sem.run_pure, Result.andThen_ok]
    simpa using h6 w (.refl w)

theorem ress_ok (hT : TOk P T) {tm : List AV} {hp0 : List Blk} : ∀ {rs : List ResultVar} {ts : List TypeId} {hpc : List Blk} {κ : List AV → List Blk → R}, ressK T b0 tm hp0 rs ts hpc κ = some r →
    ∃ vs' hpc', κ vs' hpc' = some r ∧ (∀ x ∈ vs', tk2 (· < b0) x) ∧ hpc'.length = hpc.length ∧ ∀ (g0 : G) (a : Act) (w : World) (news : List Blk) (g : G), RS g0 tm hp0 a w → Trans g0 hp0 w g (hpc ++ news) w → Good g (hpc ++ news) w → (∀ τ, g.dom τ ↔ τ < (hpc ++ news).length) →
      ∃ (vals : List Value) (g' : G), rs.length = vals.length ∧ (∀ (i : Nat) rv v, rs[i]? = some rv → vals[i]? = some v → (resSem a rv).run P w = .ok v w) ∧ Trans g (hpc ++ news) w g' (ads2 (hpc' ++ news) vs').2 w ∧
        Good g' (ads2 (hpc' ++ news) vs').2 w ∧ (∀ τ, g'.dom τ ↔ τ < (ads2 (hpc' ++ news) vs').2.length) ∧ All2 (V2 g' (ads2 (hpc' ++ news) vs').2 w) (ads2 (hpc' ++ news) vs').1 vals
  | [], ts, hpc, κ, h => by
    have h' : κ [] hpc = some r := by cases ts <;> exact h
    exact ⟨[], hpc, h', (fun x hx => by cases hx), rfl, fun g0 a w news g hs ht hg hd => ⟨[], g, rfl, (fun i rv v hi => by simp at hi), Trans.refl _ _ _, hg, hd, trivial⟩⟩
  | rv :: rs, [], hpc, κ, h => by simp [ressK] at h
  | rv :: rs, t :: ts, hpc, κ, h => by
    simp only [ressK] at h
    obtain ⟨u, h1, hu⟩ := res1_ok (P := P) hT h
    obtain ⟨v', hpc1, h2, htk, hV, hl1, hcv⟩ := conv2_ok hT h1
    obtain ⟨vs', hpc2, h3, htk2, hl2, hcv2⟩ := ress_ok hT h2
    refine ⟨v' :: vs', hpc2, h3, (fun x hx => by
      cases hx with
      | head => exact htk
      | tail _ hx => exact htk2 x hx), by omega, fun g0 a w news g hs ht hg hd => ?_⟩
    obtain ⟨val, hrun, hval⟩ := hu g0 a w hs
    obtain ⟨g1, k1, k2, k3, k4⟩ := hcv news g w val hg hd ((hV _ _ _ _ hval).trans ht hs.good)
    have e1 : (ad2 (hpc1 ++ news) v').2 = hpc1 ++ (ad2 news v').2 := ad2_app hpc1 news v'
    simp only [e1] at k1 k2 k3 k4
    obtain ⟨vals, g2, p0, p1, p2, p3, p4, p5⟩ := hcv2 g0 a w (ad2 news v').2 g1 hs (ht.trans k1) k2 k3
    have e2 : (ads2 (hpc2 ++ news) (v' :: vs')).2 = (ads2 (hpc2 ++ (ad2 news v').2) vs').2 := by
      show (ads2 (ad2 (hpc2 ++ news) v').2 vs').2 = _
      rw [ad2_app]
    have e4 : (ad2 (hpc2 ++ news) v').1 = (ad2 (hpc1 ++ news) v').1 := by
      have hlen : (hpc2 ++ news).length = (hpc1 ++ news).length := by simp; omega
      have key : ∀ (X Y : List Blk) (l : List AV), X.length = Y.length → (ads X l).1 = (ads Y l).1 := by
        intro X Y l
        induction l generalizing X Y with
        | nil => intro _; rfl
        | cons x l ih =>
          intro h
          simp only [ads]
          rw [ad1_fst x h, ih (ad1 X x).2 (ad1 Y x).2 (by cases x <;> simp [ad1, h])]
      cases v' with
      | agg cs => simp only [ad2]; rw [key _ _ cs hlen]
      | _ => exact ad1_fst _ hlen
    have e3 : (ads2 (hpc2 ++ news) (v' :: vs')).1 = (ad2 (hpc1 ++ news) v').1 :: (ads2 (hpc2 ++ (ad2 news v').2) vs').1 := by
      show (ad2 (hpc2 ++ news) v').1 :: (ads2 (ad2 (hpc2 ++ news) v').2 vs').1 = _
      rw [ad2_app, e4]
    rw [e2, e3]
    refine ⟨val :: vals, g2, by simp [p0], fun i rv' v hi hv => ?_, k1.trans p2, p3, p4, ⟨k4.trans p2 k2, p5⟩⟩
    cases i with
    | zero => simp at hi hv; subst hi; subst hv; exact hrun
    | succ i => exact p1 i rv' v (by simpa using hi) (by simpa using hv)

theorem initK_ok {κ : List AV → R} : ∀ {args : List AV} {n : Nat}, initK args n κ = some r → args.length ≤ n ∧ κ (args ++ List.replicate (n - args.length) .top) = some r
  | [], n, h => by
    have key : ∀ (n : Nat) (κ : List AV → R), topsK n κ = κ (List.replicate n .top) := by
      intro n
      induction n with
      | zero => intro κ; rfl
      | succ n ih => intro κ; simp [topsK, ih, List.replicate_succ]
    simp only [initK, key] at h
    exact ⟨Nat.zero_le _, by simpa using h⟩
  | v :: l, 0, h => by simp [initK] at h
  | v :: l, n + 1, h => by
    simp only [initK] at h
    obtain ⟨h1, h2⟩ := initK_ok h
    refine ⟨by simp; omega, ?_⟩
    simpa using h2

theorem All2_tops {g : G} {H : List Blk} {w : World} : ∀ n : Nat, All2 (V3 g H w) (List.replicate n .top) (List.replicate n undef)
  | 0 => trivial
  | n + 1 => ⟨trivial, All2_tops n⟩

/-- what a call of a function shows -/
def Post (g : G) (hp : List Blk) (w : World) (res : AV) (hp' : List Blk) (e : Ending) (w' : World) : Prop :=
  ∃ vv g', e = .returned vv ∧ Trans g hp w g' (ad3 hp' res).2 w' ∧ Good g' (ad3 hp' res).2 w' ∧ (∀ τ, g'.dom τ ↔ τ < (ad3 hp' res).2.length) ∧ V3 g' (ad3 hp' res).2 w' (ad3 hp' res).1 vv

theorem ret_ok (hT : TOk P T) {fn : Func} {tm : List AV} {hp : List Blk} {res : AV} {hpF : List Blk} (h : retK T b0 fn tm hp = some (res, hpF)) {g0 : G} {H0 : List Blk} {w0 : World} (hg0 : ∀ τ, g0.dom τ → τ < b0) {g : G} {a : Act} {w : World}
    (ht : Trans g0 H0 w0 g hp w) (hs : RS g tm hp a w) : ∃ v, (results fn a.tmps).run P w = .ok v w ∧ Post g0 H0 w0 res hpF (.returned v) w := by
  unfold retK at h
  split at h
  · rename_i rv hrs
    split at h
    · rename_i t hts
      obtain ⟨u, h1, hu⟩ := res1_ok (P := P) hT h
      obtain ⟨v', hpc, h2, htk, hV, hl1, hcv⟩ := conv2_ok hT h1
      obtain ⟨val, hrun, hval⟩ := hu g a w hs
      obtain ⟨g1, k1, k2, k3, k4⟩ := hcv [] g w val (by simpa using hs.good) (by simpa using hs.dom) (by simpa using hV _ _ _ _ hval)
      have htk3 : tk3 (· < b0) v' := by
        cases v' <;> first | exact htk | exact htk.elim
      have e3 : ∀ X, ad3 X v' = ad2 X v' := fun X => by
        cases v' <;> first | rfl | exact htk.elim
      obtain ⟨hres, hfin⟩ := fin_ok h2 htk3
      subst hres
      simp only [List.append_nil] at k1 k2 k3 k4
      rw [← e3] at k1 k2 k3 k4
      obtain ⟨g2, q1, q2, q3, q4⟩ := hfin g0 H0 w0 g1 w val hg0 (ht.trans k1) k2 k3 (V3_of_V2 k4)
      refine ⟨val, ?_, val, g2, rfl, q1, q2, q3, q4⟩
      have := results_run (P := P) (fn := fn) (a := a) (w := w) (vals := [val]) (by rw [hrs]; rfl) (fun i rv' v hi hv => by
        rw [hrs] at hi
        cases i with
        | zero => simp at hi hv; subst hi; subst hv; exact hrun
        | succ i => simp at hi)
      simpa using this
    · cases h
  · rename_i hne
    obtain ⟨vs', hpc, h2, htk, hl1, hcv⟩ := ress_ok (P := P) hT h
    obtain ⟨vals, g1, p0, p1, k1, k2, k3, k4⟩ := hcv g a w [] g hs (by simpa using Trans.refl g hp w) (by simpa using hs.good) (by simpa using hs.dom)
    obtain ⟨hres, hfin⟩ := fin_ok (v := .tup vs') h2 htk
    subst hres
    simp only [List.append_nil] at k1 k2 k3 k4
    obtain ⟨g2, q1, q2, q3, q4⟩ := hfin g0 H0 w0 g1 w (.tuple ⟨vals⟩) hg0 (ht.trans k1) k2 k3 ⟨vals, rfl, k4⟩
    refine ⟨.tuple ⟨vals⟩, ?_, _, g2, rfl, q1, q2, q3, q4⟩
    have := results_run (P := P) (fn := fn) (a := a) (w := w) (vals := vals) p0 p1
    have hn1 : ¬ vals.length = 1 := fun e => by
      rw [← p0] at e
      match hl : fn.results.toList, e with
      | [x], _ => exact hne x hl
    rw [dif_neg hn1] at this
    exact this

theorem run_ok (hT : TOk P T) (hC : CSound P C) (hm : P.follows .mixedOrders = true) {keep : Nat → List (Tmp × Nat)} {L : Nat} {f : FuncId} {fn : Func} (hf : P.funcs[f]? = some fn) (hcode : ∀ c, fn.body = some c → codeOk sh keep c = true)
    {args : List AV} {hp : List Blk} {res : AV} {hpF : List Blk} (h : run T C sh keep L fn args hp = some (res, hpF)) {g : G} {w : World} {vs : List Value} (hg : Good g hp w) (hd : ∀ τ, g.dom τ ↔ τ < hp.length) (hv : All2 (V3 g hp w) args vs) :
    Calls P f vs.toArray w (Post g hp w res hpF) := by
  unfold run at h
  split at h
  case h_2 => cases h
  rename_i c hbody
  rw [lenK_eq, Nat.zero_add] at h
  obtain ⟨hle, h1⟩ := initK_ok h
  clear h
  refine calls_of_wp hf hbody ?_
  have hst : RS g (args ++ List.replicate (fn.ntmps - args.length) .top) hp { tmps := vs.toArray ++ Array.replicate (fn.ntmps - vs.toArray.size) undef, defers := [] } w := by
    refine ⟨hg, hd, ?_, rfl⟩
    unfold TmR
    simp only [Array.toList_append, Array.toList_replicate, List.size_toArray]
    rw [← All2_len hv]
    exact hv.append (All2_tops _)
  refine exec_ok hT hC hm (p := ⟨hp.length, keep, L⟩) (g0 := g) (H0 := hp) (w0 := w) (fun τ h => (hd τ).1 h) c (hcode c hbody) 9999 _ _ hp h1 g _ w (Trans.refl _ _ _) hst _ fun e tm' hp' g' a' w' h2 k1 k2 => ?_
  cases e with
  | normal =>
    obtain ⟨v, q1, q2⟩ := ret_ok (P := P) hT h2 (fun τ h => (hd τ).1 h) k1 k2
    exact ⟨k2.defers, v, q1, q2⟩
  | ret =>
    obtain ⟨v, q1, q2⟩ := ret_ok (P := P) hT h2 (fun τ h => (hd τ).1 h) k1 k2
    exact ⟨k2.defers, v, q1, q2⟩
  | exit i => cases h2
end
end Go.AM
