import Derived.Test.YtlacambjecjdbaaAmExec
set_option linter.unusedVariables false
set_option linter.unusedSimpArgs false
set_option linter.unnecessarySimpa false
/-! What a call hands back. -/
namespace Go.AM

section
variable {P : Program} {T : TypeId → Option TI} {C : CF} {sh : FuncId → Bool} {r : AV × List Blk} {b0 : Nat}

theorem set_app {hpc news : List Blk} {τ : Nat} {x y : Blk} (h : hpc[τ]? = some y) : (hpc ++ news).set τ x = hpc.set τ x ++ news := by
  have := (List.getElem?_eq_some_iff.1 h).1
  rw [List.set_append_left _ _ this]

/-- a result value on its way out: `news` are the tokens that earlier results have become -/
def Cv (b0 : Nat) (hpc : List Blk) (R0 : G → List Blk → World → Value → Prop) (R1 : G → List Blk → World → List Blk → Value → Prop) (hpc' : List Blk) (add : List Blk → List Blk) : Prop :=
  hpc'.length = hpc.length ∧ ∀ (news : List Blk) (g : G) (w : World) (val : Value), Good g (hpc ++ news) w → (∀ τ, g.dom τ ↔ τ < (hpc ++ news).length) → R0 g (hpc ++ news) w val →
    ∃ g', Trans g (hpc ++ news) w g' (add (hpc' ++ news)) w ∧ Good g' (add (hpc' ++ news)) w ∧ (∀ τ, g'.dom τ ↔ τ < (add (hpc' ++ news)).length) ∧ R1 g' (add (hpc' ++ news)) w (hpc' ++ news) val

theorem conv1_ok (hT : TOk P T) {hpc : List Blk} {t : TypeId} {v : AV} {κ : AV → List Blk → R} (h : conv1K T b0 hpc t v κ = some r) : ∃ v' hpc', κ v' hpc' = some r ∧ tk1 (· < b0) v' ∧ (∀ g H w u, V3 g H w v u → V1 g H w v u) ∧ (∀ cs, v ≠ .agg cs) ∧
    Cv b0 hpc (fun g H w val => V1 g H w v val) (fun g H w X val => V1 g H w (ad1 X v').1 val) hpc' (fun X => (ad1 X v').2) := by
  have same : ∀ (u : AV), (∀ E xs, u ≠ .frs E xs) → Cv b0 hpc (fun g H w val => V1 g H w u val) (fun g H w X val => V1 g H w (ad1 X u).1 val) hpc (fun X => (ad1 X u).2) := by
    intro u hu
    have e : ∀ X, ad1 X u = (u, X) := fun X => by cases u <;> first | rfl | exact absurd rfl (hu _ _)
    refine ⟨rfl, fun news g w val hg hd hv => ⟨g, ?_, ?_, ?_, ?_⟩⟩ <;> simp only [e]
    · exact Trans.refl _ _ _
    · exact hg
    · exact hd
    · exact hv
  cases v with
  | own τ E rr c =>
    simp only [conv1K] at h
    rcases cond_some h with ⟨hb, h1⟩ | ⟨hb, h1⟩
    · clear h
      obtain ⟨blk, hbl, h2⟩ := getK_some h1
      clear h1
      split at h2
      · rename_i E' xs
        obtain ⟨rfl, h3⟩ := beqE_some h2
        clear h2
        rw [setK_eq, rowsOf_eq] at h3
        refine ⟨_, _, h3, trivial, fun _ _ _ _ h => h, by simp, by simp, fun news g w val hg hd hv => ?_⟩
        have hbH : (hpc ++ news)[τ]? = some (.rows .live E xs) := by rw [List.getElem?_append_left (List.getElem?_eq_some_iff.1 hbl).1]; exact hbl
        have hmd : Mode.live ≠ .dead := by simp
        simp only [ad1]
        rw [← set_app hbl]
        obtain ⟨hdt, hsh⟩ := own_shape hv hbH hmd
        rcases hsh with ⟨hρ, ⟨A, rfl⟩, e⟩ | ⟨b, base, k, cap, oN, lN, hρ, rfl, hk, hlc, _, hcp, hun, e, hle⟩
        · have hx := good_nil hg hdt hbH hmd hρ
          subst hx
          have hz : rowsD rr ([] : List AV) = [] := by cases rr <;> simp [rowsD, lsub_eq]
          rw [hz]
          obtain ⟨g', k1, k2, k3, k4⟩ := null_fin (E := E) (A := A) (hg.dead (E := E) (xs := []) hbH) (fun x => by rw [hd]; simp)
          exact ⟨g', Trans.dead.trans k1, k2, k3, k4⟩
        · have hl : (rowsD rr xs).length = lN := by
            cases rr with
            | none => simp only [rngD, ilen_eq] at e; have := congrArg Prod.snd e; simp at this; simp only [rowsD]; omega
            | some p =>
              simp only [rngD] at e
              subst e
              simp only [rowsD, lsub_eq, iadd_eq]
              rw [show ((oN : Int)).toNat = oN by omega, show ((oN : Int) + lN - oN).toNat = lN by omega]
              simp
              omega
          have hR : PRows g.S g.Sl w E (rowsD rr xs) b (base + oN * E) := by
            obtain ⟨bk, p1, p2⟩ := hg.tok τ hdt
            rw [hbH] at p1
            cases p1
            rcases p2 with ⟨p2, _⟩ | ⟨b', o', hρ', hS, _, hR⟩
            · rw [hρ] at p2; cases p2
            rw [hρ] at hρ'
            cases hρ'
            cases rr with
            | none =>
              simp only [rngD] at e
              have : oN = 0 := by have := congrArg Prod.fst e; simp at this; omega
              subst this
              simpa [rowsD] using hR
            | some p =>
              simp only [rngD] at e
              subst e
              simp only [rowsD, lsub_eq]
              exact PRows_take (PRows_drop hR)
          have hup := Upd.refl w b
          have htr : Trans g (hpc ++ news) w (g.add (hpc ++ news).length (some (b, base + oN * E))) ((hpc ++ news).set τ (.rows .dead E xs) ++ [.rows .live E (rowsD rr xs)]) w := Trans.move hd hdt hρ hbH hup
          have hlen : ((hpc ++ news).set τ (.rows .dead E xs)).length = (hpc ++ news).length := by simp
          refine ⟨_, htr, Good.move hg hd hdt hρ hbH hup (hR.trans htr hg rfl) (hun.le (Nat.zero_le _)), fun x => ?_, ?_⟩
          · simp only [G.add, hd, List.length_append, List.length_singleton, List.length_set]; omega
          · rw [hlen]
            refine ⟨G.add_dom, ?_⟩
            rw [G.add_ρ]
            have hll : ((hpc ++ news).set τ (.rows .dead E xs) ++ [Blk.rows .live E (rowsD rr xs)])[(hpc ++ news).length]? = some (.rows .live E (rowsD rr xs)) := by
              rw [List.getElem?_append_right (by simp)]; simp
            refine ⟨k, 0, lN, cap, rfl, by simpa using hk, hlc, by simp, fun _ m' E' zs hh _ => ?_, ?_, rfl, fun m' E' zs hh _ => ?_⟩
            · rw [hll] at hh; cases hh; omega
            · rw [Nat.add_mul] at hun; simpa [Nat.add_assoc] using hun
            · rw [hll] at hh; cases hh; omega
      · rename_i E' xs
        obtain ⟨rfl, h3⟩ := beqE_some h2
        clear h2
        rw [rowsOf_eq] at h3
        refine ⟨_, _, h3, trivial, fun _ _ _ _ h => h, by simp, rfl, fun news g w val hg hd hv => ⟨g, Trans.refl _ _ _, hg, hd, ?_⟩⟩
        have hbH : (hpc ++ news)[τ]? = some (.rows .frozen E xs) := by rw [List.getElem?_append_left (List.getElem?_eq_some_iff.1 hbl).1]; exact hbl
        obtain ⟨blk, q1, q2⟩ := hg.tok τ hv.1
        rw [hbH] at q1
        cases q1
        have h4 := own_rows (S := g.S) (Sl := g.Sl) hv hbH (by simp) (by
          rcases q2 with h2 | ⟨b, o, h3, h4, h5, h6⟩
          · exact .inl h2
          · exact .inr ⟨b, o, h3, h6⟩)
        obtain ⟨A, cap, e1, e2, e3, e4⟩ := h4
        refine ⟨A, cap, e1, e2, e3, ?_⟩
        rcases e4 with e4 | ⟨b, off, base, e5, e6, e7⟩
        · exact .inl e4
        · rcases q2 with ⟨h0, _⟩ | ⟨b', o', h6, h7, _⟩
          · rw [e6] at h0; cases h0
          · rw [e6] at h6; cases h6
            exact .inr ⟨b, off, e5, h7, e7⟩
      · cases h2
    · have hlt : τ < b0 := by
        rcases Nat.lt_or_ge τ b0 with h | h
        · exact h
        · rw [Nat.ble_eq_true_of_le h] at hb; cases hb
      exact ⟨_, _, h1, hlt, fun _ _ _ _ h => h, by simp, same _ (by simp)⟩
  | nil =>
    simp only [conv1K] at h
    obtain ⟨s1, a1, b1, z1, d1, hs, h1⟩ := tyK_some h
    clear h
    split at h1
    case h_2 => cases h1
    obtain ⟨E, a2, b2, z2, d2, he, h2⟩ := tyK_some h1
    refine ⟨_, _, h2, trivial, fun _ _ _ _ h => h, by simp, rfl, fun news g w val hg hd hv => ?_⟩
    simp only [V1, PCell] at hv
    obtain ⟨A, rfl⟩ := hv
    obtain ⟨g', k1, k2, k3, k4⟩ := null_fin (E := E) (A := A) hg hd
    exact ⟨g', k1, k2, k3, k4⟩
  | ptr τ i o E =>
    simp only [conv1K] at h
    rcases cond_some h with ⟨_, h1⟩ | ⟨hb, h1⟩
    · cases h1
    · have hlt : τ < b0 := by
        rcases Nat.lt_or_ge τ b0 with h | h
        · exact h
        · rw [Nat.ble_eq_true_of_le h] at hb; cases hb
      exact ⟨_, _, h1, hlt, fun _ _ _ _ h => h, by simp, same _ (by simp)⟩
  | fn _ _ _ => simp only [conv1K] at h; cases h
  | top => simp only [conv1K] at h; cases h
  | tup _ => simp only [conv1K] at h; cases h
  | agg _ => simp only [conv1K] at h; cases h
  | frs E xs =>
    simp only [conv1K] at h
    exact ⟨_, _, h, trivial, fun g H w u hu => by simp [V3, V2, V1, PCell] at hu, by simp, rfl, fun news g w val hg hd hv => by simp [V1, PCell] at hv⟩
  | _ =>
    simp only [conv1K] at h
    exact ⟨_, _, h, trivial, fun _ _ _ _ h => h, by simp, same _ (by simp)⟩

theorem ads_cons {X : List Blk} {v : AV} {l : List AV} : (ads X (v :: l)).2 = (ads (ad1 X v).2 l).2 := rfl

/-- the extended heap behind an adoption, in parts -/
theorem ad1_parts (hpc news : List Blk) (v : AV) : (ad1 (hpc ++ news) v).2 = hpc ++ (ad1 news v).2 := ad1_app hpc news v

theorem ad1_fst {X Y : List Blk} (v : AV) (h : X.length = Y.length) : (ad1 X v).1 = (ad1 Y v).1 := by cases v <;> simp [ad1, h]

theorem convs_ok (hT : TOk P T) : ∀ {l : List AV} {ts : List (Nat × TypeId)} {hpc : List Blk} {κ : List AV → List Blk → R}, convsK T b0 hpc ts l κ = some r → ∃ l' hpc', κ l' hpc' = some r ∧ (∀ x ∈ l', tk1 (· < b0) x) ∧ hpc'.length = hpc.length ∧
    ∀ (news : List Blk) (g : G) (w : World) (vs : List Value), Good g (hpc ++ news) w → (∀ τ, g.dom τ ↔ τ < (hpc ++ news).length) → All2 (V1 g (hpc ++ news) w) l vs →
      ∃ g', Trans g (hpc ++ news) w g' (ads (hpc' ++ news) l').2 w ∧ Good g' (ads (hpc' ++ news) l').2 w ∧ (∀ τ, g'.dom τ ↔ τ < (ads (hpc' ++ news) l').2.length) ∧ All2 (V1 g' (ads (hpc' ++ news) l').2 w) (ads (hpc' ++ news) l').1 vs
  | [], ts, hpc, κ, h => by
    have h' : κ [] hpc = some r := by cases ts <;> exact h
    refine ⟨[], hpc, h', (fun x hx => by cases hx), rfl, fun news g w vs hg hd hv => ⟨g, Trans.refl _ _ _, hg, hd, ?_⟩⟩
    cases vs with
    | nil => trivial
    | cons _ _ => exact hv.elim
  | v :: l, ts, hpc, κ, h => by
    have key : ∀ (t : TypeId) (ts' : List (Nat × TypeId)), (conv1K T b0 hpc t v fun v hp => convsK T b0 hp ts' l fun l hp => κ (v :: l) hp) = some r → ∃ l' hpc', κ l' hpc' = some r ∧ (∀ x ∈ l', tk1 (· < b0) x) ∧ hpc'.length = hpc.length ∧
        ∀ (news : List Blk) (g : G) (w : World) (vs : List Value), Good g (hpc ++ news) w → (∀ τ, g.dom τ ↔ τ < (hpc ++ news).length) → All2 (V1 g (hpc ++ news) w) (v :: l) vs →
          ∃ g', Trans g (hpc ++ news) w g' (ads (hpc' ++ news) l').2 w ∧ Good g' (ads (hpc' ++ news) l').2 w ∧ (∀ τ, g'.dom τ ↔ τ < (ads (hpc' ++ news) l').2.length) ∧ All2 (V1 g' (ads (hpc' ++ news) l').2 w) (ads (hpc' ++ news) l').1 vs := by
      intro t ts' h
      obtain ⟨v', hpc1, h1, htk, hV, _, hl1, hcv⟩ := conv1_ok hT h
      obtain ⟨l', hpc2, h2, htk2, hl2, hcv2⟩ := convs_ok hT h1
      refine ⟨v' :: l', hpc2, h2, (fun x hx => by
        cases hx with
        | head => exact htk
        | tail _ hx => exact htk2 x hx), by omega, fun news g w vs hg hd hv => ?_⟩
      cases vs with
      | nil => exact hv.elim
      | cons u us =>
        obtain ⟨g1, k1, k2, k3, k4⟩ := hcv news g w u hg hd hv.1
        have e1 : (ad1 (hpc1 ++ news) v').2 = hpc1 ++ (ad1 news v').2 := ad1_app hpc1 news v'
        simp only [e1] at k1 k2 k3 k4
        obtain ⟨g2, p1, p2, p3, p4⟩ := hcv2 (ad1 news v').2 g1 w us k2 k3 (hv.2.imp fun _ _ h => h.trans k1 hg)
        have e2 : (ads (hpc2 ++ news) (v' :: l')).2 = (ads (hpc2 ++ (ad1 news v').2) l').2 := by rw [ads_cons, ad1_app]
        have e3 : (ads (hpc2 ++ news) (v' :: l')).1 = (ad1 (hpc1 ++ news) v').1 :: (ads (hpc2 ++ (ad1 news v').2) l').1 := by
          simp only [ads]
          rw [ad1_app, ad1_fst v' (X := hpc2 ++ news) (Y := hpc1 ++ news) (by simp; omega)]
        rw [e2, e3]
        exact ⟨g2, k1.trans p1, p2, p3, k4.trans p1 k2, p4⟩
    cases ts with
    | nil => exact key 0 [] h
    | cons t ts => exact key t.2 ts h

theorem conv2_ok (hT : TOk P T) {hpc : List Blk} {t : TypeId} {v : AV} {κ : AV → List Blk → R} (h : conv2K T b0 hpc t v κ = some r) : ∃ v' hpc', κ v' hpc' = some r ∧ tk2 (· < b0) v' ∧ (∀ g H w u, V3 g H w v u → V2 g H w v u) ∧
    hpc'.length = hpc.length ∧ ∀ (news : List Blk) (g : G) (w : World) (val : Value), Good g (hpc ++ news) w → (∀ τ, g.dom τ ↔ τ < (hpc ++ news).length) → V2 g (hpc ++ news) w v val →
      ∃ g', Trans g (hpc ++ news) w g' (ad2 (hpc' ++ news) v').2 w ∧ Good g' (ad2 (hpc' ++ news) v').2 w ∧ (∀ τ, g'.dom τ ↔ τ < (ad2 (hpc' ++ news) v').2.length) ∧ V2 g' (ad2 (hpc' ++ news) v').2 w (ad2 (hpc' ++ news) v').1 val := by
  unfold conv2K at h
  split at h
  · rename_i cs
    obtain ⟨s1, a1, b1, z1, d1, hs, h1⟩ := tyK_some h
    clear h
    have fin : ∀ ts, (convsK T b0 hpc ts cs fun cs hp => κ (.agg cs) hp) = some r → ∃ v' hpc', κ v' hpc' = some r ∧ tk2 (· < b0) v' ∧ (∀ g H w u, V3 g H w (.agg cs) u → V2 g H w (.agg cs) u) ∧
        hpc'.length = hpc.length ∧ ∀ (news : List Blk) (g : G) (w : World) (val : Value), Good g (hpc ++ news) w → (∀ τ, g.dom τ ↔ τ < (hpc ++ news).length) → V2 g (hpc ++ news) w (.agg cs) val →
          ∃ g', Trans g (hpc ++ news) w g' (ad2 (hpc' ++ news) v').2 w ∧ Good g' (ad2 (hpc' ++ news) v').2 w ∧ (∀ τ, g'.dom τ ↔ τ < (ad2 (hpc' ++ news) v').2.length) ∧ V2 g' (ad2 (hpc' ++ news) v').2 w (ad2 (hpc' ++ news) v').1 val := by
      intro ts h
      obtain ⟨l', hpc', h1, h2, h3, h4⟩ := convs_ok hT h
      refine ⟨.agg l', hpc', h1, h2, fun _ _ _ _ h => h, h3, fun news g w val hg hd hv => ?_⟩
      obtain ⟨vs, e, hvs⟩ := hv
      obtain ⟨g', k1, k2, k3, k4⟩ := h4 news g w vs hg hd hvs
      exact ⟨g', k1, k2, k3, vs, e, k4⟩
    split at h1
    · exact fin _ h1
    · exact fin _ h1
  · obtain ⟨v', hpc', h1, h2, h3, hna, h4, h5⟩ := conv1_ok hT h
    have e : ∀ X, ad2 X v' = ad1 X v' := fun X => by
      cases v' <;> first | rfl | exact h2.elim
    have hV : ∀ g H w u, V2 g H w v u → V1 g H w v u := fun g H w u hu => by
      cases v <;> first | exact hu | exact absurd rfl (hna _)
    refine ⟨v', hpc', h1, ?_, fun g H w u hu => ?_, h4, fun news g w val hg hd hv => ?_⟩
    · cases v' <;> first | exact h2 | exact h2.elim
    · have := h3 g H w u hu
      cases v <;> first | exact this | exact absurd rfl (hna _)
    · obtain ⟨g', k1, k2, k3, k4⟩ := h5 news g w val hg hd (hV _ _ _ _ hv)
      rw [e]
      refine ⟨g', k1, k2, k3, ?_⟩
      revert k4
      cases v' <;> first | exact id | exact h2.elim | (intro h; simpa [ad1] using h)
end
end Go.AM
