import Derived.DataReads
import Derived.ChangeArms
import Derived.ChangeSlices
import Derived.Below
import Derived.Test.YtokhceheoccfhaaAmB
set_option linter.unusedVariables false
set_option linter.unusedSimpArgs false
set_option linter.unnecessarySimpa false
/-! Code. -/
namespace Go.AM

section
variable {P : Program} {T : TypeId → Option TI} {C : CF} {sh : FuncId → Bool} {r : AV × List Blk}

/-- all regions that draw their order may do so -/
noncomputable def codeOk (sh : FuncId → Bool) (keep : Nat → List (Tmp × Nat)) (c : Code) : Bool :=
  @Code.rec (fun _ => Bool) true (fun id ops d => bif d then drawB sh ops (keep (20000 + id)) else true) (fun _ _ a b => a && b) (fun _ _ _ a b => a && b) (fun _ _ b => b) (fun _ b => b)
    (fun _ _ _ _ a b => a && b) (fun _ => true) (fun _ a => a) (fun _ => true) (fun _ => true) true (fun _ => true) c

def exE : Ex → Exit
  | .normal => .normal
  | .exit i => .exit i
  | .ret => .ret

theorem wp_loop_n {c : Code} {Q : Exit → Act → World → Prop} (I : Nat → Act → World → Prop) (h0 : ∀ a w, ¬ I 0 a w) (round : ∀ n a w, I (n + 1) a w → c.wp P (Exit.then (I n) Q) a w) {n : Nat} {a : Act} {w : World} (h : I n a w) : (Code.loop c).wp P Q a w := by
  intro b k cs
  have key : ∀ n a w, I n a w → ∃ e a' w', Q e a' w' ∧ Arrives P (lone (b.at a (.code c :: .inLoop c :: k)) cs w) b k cs e a' w' := by
    intro n
    induction n with
    | zero => intro a w h; exact absurd h (h0 a w)
    | succ n ih =>
      intro a w hI
      obtain ⟨e, a₁, w₁, hq, harr⟩ := round n a w hI b (.inLoop c :: k) cs
      cases e with
      | normal =>
        obtain ⟨e₂, a₂, w₂, hq₂, harr₂⟩ := ih a₁ w₁ hq
        exact ⟨e₂, a₂, w₂, hq₂, .of_steps (Steps.trans harr (.one step_inLoop)) harr₂⟩
      | exit id => exact ⟨_, a₁, w₁, hq, .pass (x := .inLoop c) rfl (fun _ _ => .inl (by simp)) harr⟩
      | goto l => exact ⟨_, a₁, w₁, hq, .pass (x := .inLoop c) rfl (fun _ _ => .inl (by simp)) harr⟩
      | ret => exact ⟨_, a₁, w₁, hq, .pass (x := .inLoop c) rfl (fun _ _ => .inl (by simp)) harr⟩
      | panic ch => exact ⟨_, a₁, w₁, hq, .pass (x := .inLoop c) rfl (fun _ _ => .inl (by simp)) harr⟩
      | outgrown => exact ⟨_, a₁, w₁, hq, .pass (x := .inLoop c) rfl (fun _ _ => .inl (by simp)) harr⟩
  obtain ⟨e, a', w', hq, harr⟩ := key n a w h
  exact ⟨e, a', w', hq, .of_steps (.one step_loop) harr⟩

theorem exec_ok (hT : TOk P T) (hC : CSound P C) (hm : P.follows .mixedOrders = true) {p : Fp} {g0 : G} {H0 : List Blk} {w0 : World} (hg0 : ∀ τ, g0.dom τ → τ < p.b0) : ∀ (c : Code), codeOk sh p.keep c = true → ∀ (cur : Nat) (k : K) (tm : List AV) (hp : List Blk), exec T C sh p c cur k tm hp = some r →
    ∀ (g : G) (a : Act) (w : World), Trans g0 H0 w0 g hp w → RS g tm hp a w → ∀ Q : Exit → Act → World → Prop, (∀ e tm' hp' g' a' w', k e tm' hp' = some r → Trans g0 H0 w0 g' hp' w' → RS g' tm' hp' a' w' → Q (exE e) a' w') → c.wp P Q a w := by
  have canon : ∀ {ks : List (Tmp × Nat)} {tm : List AV} {hp : List Blk} {κ : List AV → List Blk → R}, canonK p.b0 ks tm hp κ = some r → ∀ (g : G) (a : Act) (w : World), Trans g0 H0 w0 g hp w → RS g tm hp a w →
      ∃ tm' hp' g', κ tm' hp' = some r ∧ Trans g0 H0 w0 g' hp' w ∧ RS g' tm' hp' a w := by
    intro ks tm hp κ h g a w ht hs
    obtain ⟨tm', hp', h1, h2⟩ := canon_ok h
    obtain ⟨g', k1, k2, k3, k4⟩ := h2 g0 H0 w0 g w _ hg0 ht hs.good hs.dom hs.tmps
    exact ⟨tm', hp', g', h1, k1, k2, k3, k4, hs.defers⟩
  intro c
  induction c with
  | skip => intro _ cur k tm hp h g a w ht hs Q hQ; exact wp_skip (hQ .normal tm hp g a w h ht hs)
  | region id ops d =>
    intro hok cur k tm hp h g a w ht hs Q hQ
    cases d with
    | false =>
      have h' : (opsK T C sh ops.toList ops.toList tm hp fun tm hp => k .normal tm hp) = some r := h
      obtain ⟨tms, hps, e1, e2, e3, e4⟩ := ops_ok hT hC h'
      subst e1; subst e2
      have hQ' : ∀ g' a' w', Trans g0 H0 w0 g' (hps ops.size) w' → RS g' (tms ops.size) (hps ops.size) a' w' → Q .normal a' w' := fun g' a' w' k1 k2 => hQ .normal _ _ g' a' w' (by simpa using e3) k1 k2
      refine wp_region ?_
      rw [List.range_eq_range']
      exact seq_ok e4 ops.size 0 (by omega) g a w ht hs hQ'
    | true =>
      have hok' : drawB sh ops (p.keep (20000 + id)) = true := hok
      have h' : (earlyK T C sh ops.toList (p.keep (20000 + id)) [] tm hp fun qs tm hp =>
          opsE T C sh ops.toList (p.keep (20000 + id)) qs 0 ops.toList tm hp fun tm hp => k .normal tm hp) = some r := h
      exact draw_ok hT hC hm hok' h' ht hs (hQ .normal)
  | seq x y ihx ihy =>
    intro hok cur k tm hp h g a w ht hs Q hQ
    have hok' : (codeOk sh p.keep x && codeOk sh p.keep y) = true := hok
    simp only [Bool.and_eq_true] at hok'
    have h' : exec T C sh p x cur (fun e tm hp => match e with | .normal => exec T C sh p y cur k tm hp | e => k e tm hp) tm hp = some r := h
    refine wp_seq (ihx hok'.1 cur _ tm hp h' g a w ht hs _ fun e tm' hp' g' a' w' h1 k1 k2 => ?_)
    cases e with
    | normal => exact ihy hok'.2 cur k tm' hp' h1 g' a' w' k1 k2 Q hQ
    | exit i => exact hQ (.exit i) tm' hp' g' a' w' h1 k1 k2
    | ret => exact hQ .ret tm' hp' g' a' w' h1 k1 k2
  | cond c x y ihx ihy =>
    intro hok cur k tm hp h g a w ht hs Q hQ
    have hok' : (codeOk sh p.keep x && codeOk sh p.keep y) = true := hok
    simp only [Bool.and_eq_true] at hok'
    cases c with
    | tmp t =>
      have h' : (getK tm t fun
        | .bool b => bif b then setK tm t (.bool true) fun tm => exec T C sh p x cur k tm hp else setK tm t (.bool false) fun tm => exec T C sh p y cur k tm hp
        | _ => none) = some r := h
      obtain ⟨u, hu, h1⟩ := getK_some h'
      split at h1
      · rename_i b
        have hv := (hs.tmps.get hu).2
        have he : a.eval (.tmp t) = .bool b := V3_bool.1 hv
        have hset : tm.set t (.bool b) = tm := by
          have := (List.getElem?_eq_some_iff.1 hu)
          rw [← this.2]
          exact List.set_getElem_self _
        refine wp_cond he ?_
        rcases cond_some h1 with ⟨rfl, h2⟩ | ⟨rfl, h2⟩
        · rw [setK_eq, hset] at h2
          exact ihx hok'.1 cur k tm hp h2 g a w ht hs Q hQ
        · rw [setK_eq, hset] at h2
          exact ihy hok'.2 cur k tm hp h2 g a w ht hs Q hQ
      · cases h1
    | const _ => cases h
    | global _ => cases h
    | func _ => cases h
  | block id b ih =>
    intro hok cur k tm hp h g a w ht hs Q hQ
    have h' : exec T C sh p b id (fun e tm hp => match e with
      | .exit i => bif Nat.beq i id then canonK p.b0 (p.keep (1000 + id)) tm hp fun tm hp => k .normal tm hp else k (.exit i) tm hp
      | .normal => canonK p.b0 (p.keep (1000 + id)) tm hp fun tm hp => k .normal tm hp
      | e => k e tm hp) tm hp = some r := h
    refine wp_block (ih hok id _ tm hp h' g a w ht hs _ fun e tm' hp' g' a' w' h1 k1 k2 => ?_)
    cases e with
    | normal =>
      obtain ⟨tm2, hp2, g2, q1, q2, q3⟩ := canon h1 g' a' w' k1 k2
      exact hQ .normal tm2 hp2 g2 a' w' q1 q2 q3
    | exit i =>
      simp only [exE, Exit.inBlock]
      simp only at h1
      rcases cond_some h1 with ⟨he, h2⟩ | ⟨he, h2⟩
      · rw [if_pos (beq_eq he)]
        obtain ⟨tm2, hp2, g2, q1, q2, q3⟩ := canon h2 g' a' w' k1 k2
        exact hQ .normal tm2 hp2 g2 a' w' q1 q2 q3
      · have hne : ¬ i = id := fun e => by subst e; simp at he
        rw [if_neg hne]
        exact hQ (.exit i) tm' hp' g' a' w' h2 k1 k2
    | ret => exact hQ .ret tm' hp' g' a' w' h1 k1 k2
  | loop b ih =>
    intro hok cur k tm hp h g a w ht hs Q hQ
    have h' : (canonK p.b0 (p.keep cur) tm hp fun tm hp => iterK (exec T C sh p b cur) (canonK p.b0 (p.keep cur)) k p.L tm hp) = some r := h
    obtain ⟨tm1, hp1, g1, q1, q2, q3⟩ := canon h' g a w ht hs
    refine wp_loop_n (fun n a w => ∃ tm hp g, iterK (exec T C sh p b cur) (canonK p.b0 (p.keep cur)) k n tm hp = some r ∧ Trans g0 H0 w0 g hp w ∧ RS g tm hp a w) (fun a w => ?_) (fun n a w => ?_) (n := p.L) ⟨tm1, hp1, g1, q1, q2, q3⟩
    · rintro ⟨tm, hp, g, h1, _⟩
      cases h1
    · rintro ⟨tm, hp, g, h1, h2, h3⟩
      have h1' : exec T C sh p b cur (fun e tm hp => match e with
        | .normal => canonK p.b0 (p.keep cur) tm hp fun tm hp => iterK (exec T C sh p b cur) (canonK p.b0 (p.keep cur)) k n tm hp
        | e => k e tm hp) tm hp = some r := h1
      refine ih hok cur _ tm hp h1' g a w h2 h3 _ fun e tm' hp' g' a' w' h4 k1 k2 => ?_
      cases e with
      | normal =>
        obtain ⟨tm2, hp2, g2, p1, p2, p3⟩ := canon h4 g' a' w' k1 k2
        exact ⟨tm2, hp2, g2, p1, p2, p3⟩
      | exit i => exact hQ (.exit i) tm' hp' g' a' w' h4 k1 k2
      | ret => exact hQ .ret tm' hp' g' a' w' h4 k1 k2
  | rangeFunc => intro _ cur k tm hp h; cases h
  | exit id => intro _ cur k tm hp h g a w ht hs Q hQ; exact wp_exit (hQ (.exit id) tm hp g a w h ht hs)
  | scope => intro _ cur k tm hp h; cases h
  | label => intro _ cur k tm hp h; cases h
  | goto => intro _ cur k tm hp h; cases h
  | ret => intro _ cur k tm hp h g a w ht hs Q hQ; exact wp_ret (hQ .ret tm hp g a w h ht hs)
  | refuse => intro _ cur k tm hp h; cases h
end
end Go.AM

/-! What a call hands back. -/
namespace Go.AM

section
variable {P : Program} {T : TypeId → Option TI} {C : CF} {sh : FuncId → Bool} {r : AV × List Blk} {b0 : Nat}

theorem set_app {hpc news : List Blk} {τ : Nat} {x y : Blk} (h : hpc[τ]? = some y) : (hpc ++ news).set τ x = hpc.set τ x ++ news := by
  have := (List.getElem?_eq_some_iff.1 h).1
  rw [List.set_append_left _ _ this]

/-- a result value on its way out: `news` are the tokens that earlier results have become -/
def Cv (b0 : Nat) (hpc : List Blk) (R0 : G → List Blk → World → Value → Prop) (R1 : G → List Blk → World → List Blk → Value → Prop) (hpc' : List Blk) (add : List Blk → List Blk) : Prop :=
  hpc'.length = hpc.length ∧ ∀ (news : List Blk) (g : G) (w : World) (val : Value), Good g (hpc ++ news) w → (∀ τ, g.dom τ ↔ τ < (hpc ++ news).length) → R0 g (hpc ++ news) w val →
    ∃ g', Trans g (hpc ++ news) w g' (add (hpc' ++ news)) w ∧ Good g' (add (hpc' ++ news)) w ∧ (∀ τ, g'.dom τ ↔ τ < (add (hpc' ++ news)).length) ∧ R1 g' (add (hpc' ++ news)) w (hpc' ++ news) val

theorem conv1_ok (hT : TOk P T) {hpc : List Blk} {t : TypeId} {v : AV} {κ : AV → List Blk → R} (h : conv1K T b0 hpc t v κ = some r) : ∃ v' hpc', κ v' hpc' = some r ∧ tk1 (· < b0) v' ∧ (∀ g H w u, V3 g H w v u → V1 g H w v u) ∧ (∀ cs, v ≠ .agg cs) ∧
    Cv b0 hpc (fun g H w val => V1 g H w v val) (fun g H w X val => V1 g H w (ad1 X v').1 val) hpc' (fun X => (ad1 X v').2) := by
  have same : ∀ (u : AV), (∀ E xs, u ≠ .frs E xs) → Cv b0 hpc (fun g H w val => V1 g H w u val) (fun g H w X val => V1 g H w (ad1 X u).1 val) hpc (fun X => (ad1 X u).2) := by
    intro u hu
    have e : ∀ X, ad1 X u = (u, X) := fun X => by cases u <;> first | rfl | exact absurd rfl (hu _ _)
    refine ⟨rfl, fun news g w val hg hd hv => ⟨g, ?_, ?_, ?_, ?_⟩⟩ <;> simp only [e]
    · exact Trans.refl _ _ _
    · exact hg
    · exact hd
    · exact hv
  cases v with
  | own τ E rr c =>
    simp only [conv1K] at h
    rcases cond_some h with ⟨hb, h1⟩ | ⟨hb, h1⟩
    · clear h
      obtain ⟨blk, hbl, h2⟩ := getK_some h1
      clear h1
      split at h2
      · rename_i E' xs
        obtain ⟨rfl, h3⟩ := beqE_some h2
        clear h2
        rw [setK_eq, rowsOf_eq] at h3
        refine ⟨_, _, h3, trivial, fun _ _ _ _ h => h, by simp, by simp, fun news g w val hg hd hv => ?_⟩
        have hbH : (hpc ++ news)[τ]? = some (.rows .live E xs) := by rw [List.getElem?_append_left (List.getElem?_eq_some_iff.1 hbl).1]; exact hbl
        have hmd : Mode.live ≠ .dead := by simp
        simp only [ad1]
        rw [← set_app hbl]
        obtain ⟨hdt, hsh⟩ := own_shape hv hbH hmd
        rcases hsh with ⟨hρ, ⟨A, rfl⟩, e⟩ | ⟨b, base, k, cap, oN, lN, hρ, rfl, hk, hlc, _, hcp, hun, e, hle⟩
        · have hx := good_nil hg hdt hbH hmd hρ
          subst hx
          have hz : rowsD rr ([] : List AV) = [] := by cases rr <;> simp [rowsD, lsub_eq]
          rw [hz]
          obtain ⟨g', k1, k2, k3, k4⟩ := null_fin (E := E) (A := A) (hg.dead (E := E) (xs := []) hbH) (fun x => by rw [hd]; simp)
          exact ⟨g', Trans.dead.trans k1, k2, k3, k4⟩
        · have hl : (rowsD rr xs).length = lN := by
            cases rr with
            | none => simp only [rngD, ilen_eq] at e; have := congrArg Prod.snd e; simp at this; simp only [rowsD]; omega
            | some p =>
              simp only [rngD] at e
              subst e
              simp only [rowsD, lsub_eq, iadd_eq]
              rw [show ((oN : Int)).toNat = oN by omega, show ((oN : Int) + lN - oN).toNat = lN by omega]
              simp
              omega
          have hR : PRows g.S g.Sl w E (rowsD rr xs) b (base + oN * E) := by
            obtain ⟨bk, p1, p2⟩ := hg.tok τ hdt
            rw [hbH] at p1
            cases p1
            rcases p2 with ⟨p2, _⟩ | ⟨b', o', hρ', hS, _, hR⟩
            · rw [hρ] at p2; cases p2
            rw [hρ] at hρ'
            cases hρ'
            cases rr with
            | none =>
              simp only [rngD] at e
              have : oN = 0 := by have := congrArg Prod.fst e; simp at this; omega
              subst this
              simpa [rowsD] using hR
            | some p =>
              simp only [rngD] at e
              subst e
              simp only [rowsD, lsub_eq]
              exact PRows_take (PRows_drop hR)
          have hup := Upd.refl w b
          have htr : Trans g (hpc ++ news) w (g.add (hpc ++ news).length (some (b, base + oN * E))) ((hpc ++ news).set τ (.rows .dead E xs) ++ [.rows .live E (rowsD rr xs)]) w := Trans.move hd hdt hρ hbH hup
          have hlen : ((hpc ++ news).set τ (.rows .dead E xs)).length = (hpc ++ news).length := by simp
          refine ⟨_, htr, Good.move hg hd hdt hρ hbH hup (hR.trans htr hg rfl) (hun.le (Nat.zero_le _)), fun x => ?_, ?_⟩
          · simp only [G.add, hd, List.length_append, List.length_singleton, List.length_set]; omega
          · rw [hlen]
            refine ⟨G.add_dom, ?_⟩
            rw [G.add_ρ]
            have hll : ((hpc ++ news).set τ (.rows .dead E xs) ++ [Blk.rows .live E (rowsD rr xs)])[(hpc ++ news).length]? = some (.rows .live E (rowsD rr xs)) := by
              rw [List.getElem?_append_right (by simp)]; simp
            refine ⟨k, 0, lN, cap, rfl, by simpa using hk, hlc, by simp, fun _ m' E' zs hh _ => ?_, ?_, rfl, fun m' E' zs hh _ => ?_⟩
            · rw [hll] at hh; cases hh; omega
            · rw [Nat.add_mul] at hun; simpa [Nat.add_assoc] using hun
            · rw [hll] at hh; cases hh; omega
      · rename_i E' xs
        obtain ⟨rfl, h3⟩ := beqE_some h2
        clear h2
        rw [rowsOf_eq] at h3
        refine ⟨_, _, h3, trivial, fun _ _ _ _ h => h, by simp, rfl, fun news g w val hg hd hv => ⟨g, Trans.refl _ _ _, hg, hd, ?_⟩⟩
        have hbH : (hpc ++ news)[τ]? = some (.rows .frozen E xs) := by rw [List.getElem?_append_left (List.getElem?_eq_some_iff.1 hbl).1]; exact hbl
        obtain ⟨blk, q1, q2⟩ := hg.tok τ hv.1
        rw [hbH] at q1
        cases q1
        have h4 := own_rows (S := g.S) (Sl := g.Sl) hv hbH (by simp) (by
          rcases q2 with h2 | ⟨b, o, h3, h4, h5, h6⟩
          · exact .inl h2
          · exact .inr ⟨b, o, h3, h6⟩)
        obtain ⟨A, cap, e1, e2, e3, e4⟩ := h4
        refine ⟨A, cap, e1, e2, e3, ?_⟩
        rcases e4 with e4 | ⟨b, off, base, e5, e6, e7⟩
        · exact .inl e4
        · rcases q2 with ⟨h0, _⟩ | ⟨b', o', h6, h7, _⟩
          · rw [e6] at h0; cases h0
          · rw [e6] at h6; cases h6
            exact .inr ⟨b, off, e5, h7, e7⟩
      · cases h2
    · have hlt : τ < b0 := by
        rcases Nat.lt_or_ge τ b0 with h | h
        · exact h
        · rw [Nat.ble_eq_true_of_le h] at hb; cases hb
      exact ⟨_, _, h1, hlt, fun _ _ _ _ h => h, by simp, same _ (by simp)⟩
  | nil =>
    simp only [conv1K] at h
    obtain ⟨s1, a1, b1, z1, d1, hs, h1⟩ := tyK_some h
    clear h
    split at h1
    case h_2 => cases h1
    obtain ⟨E, a2, b2, z2, d2, he, h2⟩ := tyK_some h1
    refine ⟨_, _, h2, trivial, fun _ _ _ _ h => h, by simp, rfl, fun news g w val hg hd hv => ?_⟩
    simp only [V1, PCell] at hv
    obtain ⟨A, rfl⟩ := hv
    obtain ⟨g', k1, k2, k3, k4⟩ := null_fin (E := E) (A := A) hg hd
    exact ⟨g', k1, k2, k3, k4⟩
  | ptr τ i o E =>
    simp only [conv1K] at h
    rcases cond_some h with ⟨_, h1⟩ | ⟨hb, h1⟩
    · cases h1
    · have hlt : τ < b0 := by
        rcases Nat.lt_or_ge τ b0 with h | h
        · exact h
        · rw [Nat.ble_eq_true_of_le h] at hb; cases hb
      exact ⟨_, _, h1, hlt, fun _ _ _ _ h => h, by simp, same _ (by simp)⟩
  | fn _ _ _ => simp only [conv1K] at h; cases h
  | top => simp only [conv1K] at h; cases h
  | tup _ => simp only [conv1K] at h; cases h
  | agg _ => simp only [conv1K] at h; cases h
  | frs E xs =>
    simp only [conv1K] at h
    exact ⟨_, _, h, trivial, fun g H w u hu => by simp [V3, V2, V1, PCell] at hu, by simp, rfl, fun news g w val hg hd hv => by simp [V1, PCell] at hv⟩
  | _ =>
    simp only [conv1K] at h
    exact ⟨_, _, h, trivial, fun _ _ _ _ h => h, by simp, same _ (by simp)⟩

theorem ads_cons {X : List Blk} {v : AV} {l : List AV} : (ads X (v :: l)).2 = (ads (ad1 X v).2 l).2 := rfl

/-- the extended heap behind an adoption, in parts -/
theorem ad1_parts (hpc news : List Blk) (v : AV) : (ad1 (hpc ++ news) v).2 = hpc ++ (ad1 news v).2 := ad1_app hpc news v

theorem ad1_fst {X Y : List Blk} (v : AV) (h : X.length = Y.length) : (ad1 X v).1 = (ad1 Y v).1 := by cases v <;> simp [ad1, h]

theorem convs_ok (hT : TOk P T) : ∀ {l : List AV} {ts : List (Nat × TypeId)} {hpc : List Blk} {κ : List AV → List Blk → R}, convsK T b0 hpc ts l κ = some r → ∃ l' hpc', κ l' hpc' = some r ∧ (∀ x ∈ l', tk1 (· < b0) x) ∧ hpc'.length = hpc.length ∧
    ∀ (news : List Blk) (g : G) (w : World) (vs : List Value), Good g (hpc ++ news) w → (∀ τ, g.dom τ ↔ τ < (hpc ++ news).length) → All2 (V1 g (hpc ++ news) w) l vs →
      ∃ g', Trans g (hpc ++ news) w g' (ads (hpc' ++ news) l').2 w ∧ Good g' (ads (hpc' ++ news) l').2 w ∧ (∀ τ, g'.dom τ ↔ τ < (ads (hpc' ++ news) l').2.length) ∧ All2 (V1 g' (ads (hpc' ++ news) l').2 w) (ads (hpc' ++ news) l').1 vs
  | [], ts, hpc, κ, h => by
    have h' : κ [] hpc = some r := by cases ts <;> exact h
    refine ⟨[], hpc, h', (fun x hx => by cases hx), rfl, fun news g w vs hg hd hv => ⟨g, Trans.refl _ _ _, hg, hd, ?_⟩⟩
    cases vs with
    | nil => trivial
    | cons _ _ => exact hv.elim
  | v :: l, ts, hpc, κ, h => by
    have key : ∀ (t : TypeId) (ts' : List (Nat × TypeId)), (conv1K T b0 hpc t v fun v hp => convsK T b0 hp ts' l fun l hp => κ (v :: l) hp) = some r → ∃ l' hpc', κ l' hpc' = some r ∧ (∀ x ∈ l', tk1 (· < b0) x) ∧ hpc'.length = hpc.length ∧
        ∀ (news : List Blk) (g : G) (w : World) (vs : List Value), Good g (hpc ++ news) w → (∀ τ, g.dom τ ↔ τ < (hpc ++ news).length) → All2 (V1 g (hpc ++ news) w) (v :: l) vs →
          ∃ g', Trans g (hpc ++ news) w g' (ads (hpc' ++ news) l').2 w ∧ Good g' (ads (hpc' ++ news) l').2 w ∧ (∀ τ, g'.dom τ ↔ τ < (ads (hpc' ++ news) l').2.length) ∧ All2 (V1 g' (ads (hpc' ++ news) l').2 w) (ads (hpc' ++ news) l').1 vs := by
      intro t ts' h
      obtain ⟨v', hpc1, h1, htk, hV, _, hl1, hcv⟩ := conv1_ok hT h
      obtain ⟨l', hpc2, h2, htk2, hl2, hcv2⟩ := convs_ok hT h1
      refine ⟨v' :: l', hpc2, h2, (fun x hx => by
        cases hx with
        | head => exact htk
        | tail _ hx => exact htk2 x hx), by omega, fun news g w vs hg hd hv => ?_⟩
      cases vs with
      | nil => exact hv.elim
      | cons u us =>
        obtain ⟨g1, k1, k2, k3, k4⟩ := hcv news g w u hg hd hv.1
        have e1 : (ad1 (hpc1 ++ news) v').2 = hpc1 ++ (ad1 news v').2 := ad1_app hpc1 news v'
        simp only [e1] at k1 k2 k3 k4
        obtain ⟨g2, p1, p2, p3, p4⟩ := hcv2 (ad1 news v').2 g1 w us k2 k3 (hv.2.imp fun _ _ h => h.trans k1 hg)
        have e2 : (ads (hpc2 ++ news) (v' :: l')).2 = (ads (hpc2 ++ (ad1 news v').2) l').2 := by rw [ads_cons, ad1_app]
        have e3 : (ads (hpc2 ++ news) (v' :: l')).1 = (ad1 (hpc1 ++ news) v').1 :: (ads (hpc2 ++ (ad1 news v').2) l').1 := by
          simp only [ads]
          rw [ad1_app, ad1_fst v' (X := hpc2 ++ news) (Y := hpc1 ++ news) (by simp; omega)]
        rw [e2, e3]
        exact ⟨g2, k1.trans p1, p2, p3, k4.trans p1 k2, p4⟩
    cases ts with
    | nil => exact key 0 [] h
    | cons t ts => exact key t.2 ts h

theorem conv2_ok (hT : TOk P T) {hpc : List Blk} {t : TypeId} {v : AV} {κ : AV → List Blk → R} (h : conv2K T b0 hpc t v κ = some r) : ∃ v' hpc', κ v' hpc' = some r ∧ tk2 (· < b0) v' ∧ (∀ g H w u, V3 g H w v u → V2 g H w v u) ∧
    hpc'.length = hpc.length ∧ ∀ (news : List Blk) (g : G) (w : World) (val : Value), Good g (hpc ++ news) w → (∀ τ, g.dom τ ↔ τ < (hpc ++ news).length) → V2 g (hpc ++ news) w v val →
      ∃ g', Trans g (hpc ++ news) w g' (ad2 (hpc' ++ news) v').2 w ∧ Good g' (ad2 (hpc' ++ news) v').2 w ∧ (∀ τ, g'.dom τ ↔ τ < (ad2 (hpc' ++ news) v').2.length) ∧ V2 g' (ad2 (hpc' ++ news) v').2 w (ad2 (hpc' ++ news) v').1 val := by
  unfold conv2K at h
  split at h
  · rename_i cs
    obtain ⟨s1, a1, b1, z1, d1, hs, h1⟩ := tyK_some h
    clear h
    have fin : ∀ ts, (convsK T b0 hpc ts cs fun cs hp => κ (.agg cs) hp) = some r → ∃ v' hpc', κ v' hpc' = some r ∧ tk2 (· < b0) v' ∧ (∀ g H w u, V3 g H w (.agg cs) u → V2 g H w (.agg cs) u) ∧
        hpc'.length = hpc.length ∧ ∀ (news : List Blk) (g : G) (w : World) (val : Value), Good g (hpc ++ news) w → (∀ τ, g.dom τ ↔ τ < (hpc ++ news).length) → V2 g (hpc ++ news) w (.agg cs) val →
          ∃ g', Trans g (hpc ++ news) w g' (ad2 (hpc' ++ news) v').2 w ∧ Good g' (ad2 (hpc' ++ news) v').2 w ∧ (∀ τ, g'.dom τ ↔ τ < (ad2 (hpc' ++ news) v').2.length) ∧ V2 g' (ad2 (hpc' ++ news) v').2 w (ad2 (hpc' ++ news) v').1 val := by
      intro ts h
      obtain ⟨l', hpc', h1, h2, h3, h4⟩ := convs_ok hT h
      refine ⟨.agg l', hpc', h1, h2, fun _ _ _ _ h => h, h3, fun news g w val hg hd hv => ?_⟩
      obtain ⟨vs, e, hvs⟩ := hv
      obtain ⟨g', k1, k2, k3, k4⟩ := h4 news g w vs hg hd hvs
      exact ⟨g', k1, k2, k3, vs, e, k4⟩
    split at h1
    · exact fin _ h1
    · exact fin _ h1
  · obtain ⟨v', hpc', h1, h2, h3, hna, h4, h5⟩ := conv1_ok hT h
    have e : ∀ X, ad2 X v' = ad1 X v' := fun X => by
      cases v' <;> first | rfl | exact h2.elim
    have hV : ∀ g H w u, V2 g H w v u → V1 g H w v u := fun g H w u hu => by
      cases v <;> first | exact hu | exact absurd rfl (hna _)
    refine ⟨v', hpc', h1, ?_, fun g H w u hu => ?_, h4, fun news g w val hg hd hv => ?_⟩
    · cases v' <;> first | exact h2 | exact h2.elim
    · have := h3 g H w u hu
      cases v <;> first | exact this | exact absurd rfl (hna _)
    · obtain ⟨g', k1, k2, k3, k4⟩ := h5 news g w val hg hd (hV _ _ _ _ hv)
      rw [e]
      refine ⟨g', k1, k2, k3, ?_⟩
      revert k4
      cases v' <;> first | exact id | exact h2.elim | (intro h; simpa [ad1] using h)
end
end Go.AM

/-! A function's run. -/
namespace Go.AM

section
variable {P : Program} {T : TypeId → Option TI} {C : CF} {sh : FuncId → Bool} {r : AV × List Blk} {b0 : Nat}

theorem Ren.congr {φ φ' : Nat → Nat} {D D' : Nat → Prop} {g1 g2 : G} {H1 H2 : List Blk} (h : ∀ τ, D τ → φ' τ = φ τ) (hD : ∀ τ, D τ → D' τ) (hR : Ren φ' D' g1 H1 g2 H2) : Ren φ D g1 H1 g2 H2 where
  dom τ hd hg := by rw [← h τ hd]; exact hR.dom τ (hD τ hd) hg
  ρ τ hd hg := by rw [← h τ hd]; exact hR.ρ τ (hD τ hd) hg
  rows τ hd hg m E xs hx := by rw [← h τ hd] at hx; exact hR.rows τ (hD τ hd) hg m E xs hx
  box τ hd hg y hy := by rw [← h τ hd] at hy; exact hR.box τ (hD τ hd) hg y hy
  S := hR.S
  Sl := hR.Sl

theorem RV.congr {φ φ' : Nat → Nat} {D D' : Nat → Prop} (h : ∀ τ, D τ → φ' τ = φ τ) (hD : ∀ τ, D τ → D' τ) {x x' : AV} (hv : RV φ D x x') : RV φ' D' x x' := fun g1 g2 H1 H2 w hR => hv g1 g2 H1 H2 w (hR.congr h hD)

theorem RB.congr {φ φ' : Nat → Nat} {D D' : Nat → Prop} (h : ∀ τ, D τ → φ' τ = φ τ) (hD : ∀ τ, D τ → D' τ) {b b' : Blk} (hv : RB φ D b b') : RB φ' D' b b' := by
  cases b with
  | rows m E xs => exact hv
  | box y => obtain ⟨y', e, hv⟩ := hv; exact ⟨y', e, hv.congr h hD⟩

theorem rn1_id {φ : Nat → Nat} {D : Nat → Prop} (hφ : ∀ τ, D τ → φ τ = τ) {v : AV} (h : tk1 D v) : rn1 φ v = v := by
  cases v with
  | own τ E r c => simp only [rn1, hφ τ h]
  | ptr τ i o E => simp only [rn1, hφ τ h]
  | _ => rfl
theorem map_id' {f : AV → AV} : ∀ {l : List AV}, (∀ x ∈ l, f x = x) → l.map f = l
  | [], _ => rfl
  | x :: l, h => by rw [List.map_cons, h x (by simp), map_id' fun y hy => h y (by simp [hy])]
theorem bk2_id {φ : Nat → Nat} {D : Nat → Prop} (hφ : ∀ τ, D τ → φ τ = τ) {v : AV} (h : tk2 D v) : bk2 φ v = v := by
  unfold bk2
  split
  · rename_i cs
    rw [map_id' fun x hx => rn1_id hφ (h x hx)]
  · rename_i hne
    have : tk1 D v := by cases v <;> first | exact h | exact absurd rfl (hne _)
    exact rn1_id hφ this
theorem bk3_id {φ : Nat → Nat} {D : Nat → Prop} (hφ : ∀ τ, D τ → φ τ = τ) {v : AV} (h : tk3 D v) : bk3 φ v = v := by
  unfold bk3
  split
  · rename_i vs
    rw [map_id' fun x hx => bk2_id hφ (h x hx)]
  · rename_i hne
    have : tk2 D v := by cases v <;> first | exact h | exact absurd rfl (hne _)
    exact bk2_id hφ this

theorem fin_ok {v res : AV} {hp hpF : List Blk} (h : finK b0 v hp = some (res, hpF)) (htk : tk3 (· < b0) v) : res = v ∧ ∀ (g0 : G) (H0 : List Blk) (w0 : World) (g : G) (w : World) (val : Value), (∀ τ, g0.dom τ → τ < b0) → Trans g0 H0 w0 g (ad3 hp v).2 w → Good g (ad3 hp v).2 w →
    (∀ τ, g.dom τ ↔ τ < (ad3 hp v).2.length) → V3 g (ad3 hp v).2 w (ad3 hp v).1 val →
      ∃ g', Trans g0 H0 w0 g' (ad3 hpF v).2 w ∧ Good g' (ad3 hpF v).2 w ∧ (∀ τ, g'.dom τ ↔ τ < (ad3 hpF v).2.length) ∧ V3 g' (ad3 hpF v).2 w (ad3 hpF v).1 val := by
  unfold finK at h
  obtain ⟨hb, h1⟩ := headB_some h
  clear h
  rw [oldToksK_eq] at h1
  have hok : OkIds b0 (oldToks b0 [] (hp.take b0)) := oldToks_okI OkIds.nil _
  revert h1 hok
  generalize oldToks b0 [] (hp.take b0) = ids
  intro h1 hok
  obtain ⟨h0, h2, h0l, hr0⟩ := rensB_ok h1
  obtain ⟨ex, h3, hexl, hr1⟩ := pickB_ok h2
  rw [apndB_eq] at h3
  simp only [Option.some.injEq, Prod.mk.injEq] at h3
  obtain ⟨rfl, rfl⟩ := h3
  refine ⟨rfl, fun g0 H0 w0 g w val hg0 ht hg hd hv => ?_⟩
  have h0l' : h0.length = b0 := by rw [h0l]; simp; omega
  have hltI : ∀ τ ∈ ids, τ < hp.length := fun τ hτ => by
    obtain ⟨i, hi⟩ := List.mem_iff_getElem?.1 hτ
    obtain ⟨b, _, hb, _⟩ := hr1 i τ hi
    exact (List.getElem?_eq_some_iff.1 hb).1
  have e1 := ad3_app0 hp v
  have e2 := ad3_app0 (h0 ++ ex) v
  have hlive := ad3_live (hk := []) (x := v) (fun _ h => by cases h)
  generalize (ad3 [] v).2 = news at e1 e2 hlive
  -- the tokens that are kept
  have hmem' : ∀ τ, τ ∈ ids ++ List.range' hp.length news.length ↔ τ ∈ ids ∨ (hp.length ≤ τ ∧ τ < hp.length + news.length) := fun τ => by simp [List.mem_append, List.mem_range'_1]
  have hφ : ∀ τ, rnD b0 ids τ → rnF b0 (ids ++ List.range' hp.length news.length) τ = rnF b0 ids τ := by
    intro τ hτ
    unfold rnF
    split
    · have hm := hτ.resolve_left (by omega)
      rw [List.idxOf_append, if_pos hm]
    · rfl
  have hD : ∀ τ, rnD b0 ids τ → rnD b0 (ids ++ List.range' hp.length news.length) τ := fun τ h => h.imp id fun h => List.mem_append.2 (.inl h)
  have hnd : (ids ++ List.range' hp.length news.length).Nodup := by
    rw [List.nodup_append]
    refine ⟨hok.1, List.nodup_range', fun a ha b hb => ?_⟩
    have := hltI a ha
    have := (List.mem_range'_1.1 hb).1
    omega
  obtain ⟨g2, q1, q2, q3, q4, q5⟩ := ren_heap (hp := hp ++ news) (b0 := b0) (ids := ids ++ List.range' hp.length news.length) (h0 := h0) (h1 := ex ++ news) (by simp; omega) h0l' (by simp [hexl]) (fun i b b' hb hb' => by
      have hil := (List.getElem?_eq_some_iff.1 hb').1
      refine (hr0 i b b' ?_ hb').congr hφ hD
      rw [List.getElem?_take_of_lt (by omega)] at hb ⊢
      rw [List.getElem?_append_left (by omega)] at hb
      exact hb) (fun i τ hi => by
      by_cases hil : i < ids.length
      · rw [List.getElem?_append_left hil] at hi
        obtain ⟨b, b', k1, k2, k3⟩ := hr1 i τ hi
        exact ⟨b, b', prefix_get (List.prefix_append _ _) k1, prefix_get (List.prefix_append _ _) k2, k3.congr hφ hD⟩
      · rw [List.getElem?_append_right (by omega)] at hi
        have hb := (List.getElem?_eq_some_iff.1 hi).1
        simp only [List.length_range'] at hb
        rw [List.getElem?_range' hb] at hi
        cases hi
        have k1 : news[i - ids.length]? = some news[i - ids.length] := List.getElem?_eq_getElem hb
        refine ⟨news[i - ids.length], news[i - ids.length], ?_, ?_, ?_⟩
        · rw [List.getElem?_append_right (by omega), ← k1]; congr 1; omega
        · rw [List.getElem?_append_right (by omega), ← k1]; congr 1; omega
        · have hl := hlive _ (List.getElem_mem hb)
          revert hl
          generalize news[i - ids.length] = bk
          intro hl
          match bk, hl with
          | .rows .live E xs, _ => rfl) (fun τ hτ => by
      rcases (hmem' τ).1 hτ with h | h
      · exact hok.2 τ h
      · omega) hnd (by rw [← e1]; exact hg) (by rw [← e1]; exact hd)
  have e3 : h0 ++ (ex ++ news) = (ad3 (h0 ++ ex) v).2 := by rw [e2]; simp
  rw [e3] at q1 q4 q5
  rw [← e1] at q1 q5
  refine ⟨g2, Trans.canon ht (fun τ h => ⟨.inl (hg0 τ h), ?_⟩) q1 q2 q3 q5, Good.ren hg q1 q2 q3 q5, q4, ?_⟩
  · have := hg0 τ h
    simp [rnF]
    omega
  · -- the value itself
    let φ : Nat → Nat := fun i => if i < hp.length then rnF b0 (ids ++ List.range' hp.length news.length) i else (h0 ++ ex).length + (i - hp.length)
    have htail : Tail φ (h0 ++ ex).length hp.length := fun i hi => by simp only [φ, if_neg (show ¬ i < hp.length by omega)]
    have hfix : ∀ τ, τ < b0 → φ τ = τ := fun τ h => by
      simp only [φ, if_pos (show τ < hp.length by omega), rnF, if_neg (show ¬ b0 ≤ τ by omega)]
    obtain ⟨k1, _⟩ := ad3_rn (D := fun τ => τ < b0 ∨ (hp.length ≤ τ ∧ τ < hp.length + news.length)) htail (M := b0) (fun τ h => .inl h) (x := v) (hk := hp) (h0 := h0 ++ ex) (Nat.le_refl _) (by simp) htk (fun τ h1 h2 => .inr ⟨h1, by rw [e1] at h2; simpa using h2⟩)
    rw [bk3_id hfix htk] at k1
    have k2 := k1.congr (φ' := rnF b0 (ids ++ List.range' hp.length news.length)) (D' := rnD b0 (ids ++ List.range' hp.length news.length)) (fun τ h => ?_) (fun τ h => h.imp id fun h => (hmem' τ).2 (.inr h))
    · exact (k2 g g2 _ _ w q1).1 val hv
    · by_cases hlt : τ < hp.length
      · simp only [φ, if_pos hlt]
      · have h := h.resolve_left (by omega)
        simp only [φ, if_neg hlt, rnF, if_pos (show b0 ≤ τ by omega)]
        have hidx : (ids ++ List.range' hp.length news.length).idxOf τ = ids.length + (τ - hp.length) := by
          have hi : (ids ++ List.range' hp.length news.length)[ids.length + (τ - hp.length)]? = some τ := by
            rw [List.getElem?_append_right (by omega), Nat.add_sub_cancel_left, List.getElem?_range' (by omega)]
            congr 1
            omega
          have hil := (List.getElem?_eq_some_iff.1 hi).1
          have h1 := (List.getElem?_eq_some_iff.1 hi).2
          have := hnd.idxOf_getElem _ hil
          rw [h1] at this
          exact this
        rw [hidx]
        simp
        omega

/-- one result variable, as the machine reads it -/
def resSem (a : Act) : ResultVar → Sem Value
  | .tmp t => pure (a.tmps.getD t undef)
  | .cell x t => do loadVar t (← asAddr (a.tmps.getD x undef))

theorem results_run {fn : Func} {a : Act} {w : World} {vals : List Value} (h : fn.results.toList.length = vals.length) (hh : ∀ (i : Nat) rv v, fn.results.toList[i]? = some rv → vals[i]? = some v → (resSem a rv).run P w = .ok v w) :
    (results fn a.tmps).run P w = .ok (if h : vals.length = 1 then vals[0]'(by omega) else .tuple ⟨vals⟩) w := by
  have key : ∀ (l : List ResultVar) (vs : List Value), l.length = vs.length → (∀ (i : Nat) rv v, l[i]? = some rv → vs[i]? = some v → (resSem a rv).run P w = .ok v w) → (l.mapM (resSem a)).run P w = .ok vs w := by
    intro l
    induction l with
    | nil => intro vs h _; cases vs with | nil => simp | cons _ _ => simp at h
    | cons x l ih =>
      intro vs h hh
      cases vs with
      | nil => simp at h
      | cons v vs =>
        have h1 := hh 0 x v rfl rfl
        have h2 := ih vs (by simpa using h) fun i rv u k1 k2 => hh (i + 1) rv u (by simpa using k1) (by simpa using k2)
        simp [List.mapM_cons, h1, h2]
  have h1 := key fn.results.toList vals h hh
  have h3 : ∀ F : ResultVar → Sem Value, (∀ rv, F rv = resSem a rv) → (fn.results.mapM F).run P w = .ok vals.toArray w := by
    intro F hF
    have : F = resSem a := funext hF
    rw [this, Array.mapM_eq_mapM_toList]
    simp [h1]
  unfold results
  rw [Sem.run_bind, h3 _ (fun rv => by cases rv <;> rfl)]
  simp

theorem res1_ok (hT : TOk P T) {rv : ResultVar} {tm : List AV} {hp : List Blk} {κ : AV → R} (h : res1K T rv tm hp κ = some r) : ∃ u, κ u = some r ∧ ∀ (g : G) (a : Act) (w : World), RS g tm hp a w → ∃ val, (resSem a rv).run P w = .ok val w ∧ V3 g hp w u val := by
  cases rv with
  | tmp t =>
    obtain ⟨u, hu, h1⟩ := getK_some h
    exact ⟨u, h1, fun g a w hs => ⟨_, by simp [resSem], (hs.tmps.get hu).2⟩⟩
  | cell t ty =>
    simp only [res1K] at h
    obtain ⟨sz, ag, b1, z1, d1, hs1, h1⟩ := tyK_some h
    clear h
    obtain ⟨u, hu, h2⟩ := getK_some h1
    clear h1
    split at h2
    case h_2 => cases h2
    rename_i τ i off E
    obtain ⟨blk, hb, h3⟩ := getK_some h2
    clear h2
    split at h3
    case h_2 => cases h3
    rename_i y
    obtain ⟨u', h4, h5⟩ := part_load (P := P) h3
    refine ⟨u', h4, fun g a w hs => ?_⟩
    obtain ⟨hd, hz, b, base, n, k1, k2, k3⟩ := (hs.tmps.get hu).2
    have h0 := hz y hb
    have hn : n = 0 := by omega
    subst hn
    obtain ⟨bk, q1, q2⟩ := hs.good.tok τ hd
    rw [hb] at q1
    cases q1
    obtain ⟨b', o', hρ', _, _, hcs⟩ := q2
    rw [k1] at hρ'
    cases hρ'
    obtain ⟨val, h6, h7⟩ := h5 g hp w ty b1 z1 d1 b base (hT _ _ _ _ _ _ hs1) hcs
    refine ⟨val, ?_, h7⟩
    simp only [resSem, k3, asAddr, Sem.run_bind, Sem.run_pure, Result.andThen_ok]
    simpa using h6 w rfl

theorem ress_ok (hT : TOk P T) {tm : List AV} {hp0 : List Blk} : ∀ {rs : List ResultVar} {ts : List TypeId} {hpc : List Blk} {κ : List AV → List Blk → R}, ressK T b0 tm hp0 rs ts hpc κ = some r →
    ∃ vs' hpc', κ vs' hpc' = some r ∧ (∀ x ∈ vs', tk2 (· < b0) x) ∧ hpc'.length = hpc.length ∧ ∀ (g0 : G) (a : Act) (w : World) (news : List Blk) (g : G), RS g0 tm hp0 a w → Trans g0 hp0 w g (hpc ++ news) w → Good g (hpc ++ news) w → (∀ τ, g.dom τ ↔ τ < (hpc ++ news).length) →
      ∃ (vals : List Value) (g' : G), rs.length = vals.length ∧ (∀ (i : Nat) rv v, rs[i]? = some rv → vals[i]? = some v → (resSem a rv).run P w = .ok v w) ∧ Trans g (hpc ++ news) w g' (ads2 (hpc' ++ news) vs').2 w ∧
        Good g' (ads2 (hpc' ++ news) vs').2 w ∧ (∀ τ, g'.dom τ ↔ τ < (ads2 (hpc' ++ news) vs').2.length) ∧ All2 (V2 g' (ads2 (hpc' ++ news) vs').2 w) (ads2 (hpc' ++ news) vs').1 vals
  | [], ts, hpc, κ, h => by
    have h' : κ [] hpc = some r := by cases ts <;> exact h
    exact ⟨[], hpc, h', (fun x hx => by cases hx), rfl, fun g0 a w news g hs ht hg hd => ⟨[], g, rfl, (fun i rv v hi => by simp at hi), Trans.refl _ _ _, hg, hd, trivial⟩⟩
  | rv :: rs, [], hpc, κ, h => by simp [ressK] at h
  | rv :: rs, t :: ts, hpc, κ, h => by
    simp only [ressK] at h
    obtain ⟨u, h1, hu⟩ := res1_ok (P := P) hT h
    obtain ⟨v', hpc1, h2, htk, hV, hl1, hcv⟩ := conv2_ok hT h1
    obtain ⟨vs', hpc2, h3, htk2, hl2, hcv2⟩ := ress_ok hT h2
    refine ⟨v' :: vs', hpc2, h3, (fun x hx => by
      cases hx with
      | head => exact htk
      | tail _ hx => exact htk2 x hx), by omega, fun g0 a w news g hs ht hg hd => ?_⟩
    obtain ⟨val, hrun, hval⟩ := hu g0 a w hs
    obtain ⟨g1, k1, k2, k3, k4⟩ := hcv news g w val hg hd ((hV _ _ _ _ hval).trans ht hs.good)
    have e1 : (ad2 (hpc1 ++ news) v').2 = hpc1 ++ (ad2 news v').2 := ad2_app hpc1 news v'
    simp only [e1] at k1 k2 k3 k4
    obtain ⟨vals, g2, p0, p1, p2, p3, p4, p5⟩ := hcv2 g0 a w (ad2 news v').2 g1 hs (ht.trans k1) k2 k3
    have e2 : (ads2 (hpc2 ++ news) (v' :: vs')).2 = (ads2 (hpc2 ++ (ad2 news v').2) vs').2 := by
      show (ads2 (ad2 (hpc2 ++ news) v').2 vs').2 = _
      rw [ad2_app]
    have e4 : (ad2 (hpc2 ++ news) v').1 = (ad2 (hpc1 ++ news) v').1 := by
      have hlen : (hpc2 ++ news).length = (hpc1 ++ news).length := by simp; omega
      have key : ∀ (X Y : List Blk) (l : List AV), X.length = Y.length → (ads X l).1 = (ads Y l).1 := by
        intro X Y l
        induction l generalizing X Y with
        | nil => intro _; rfl
        | cons x l ih =>
          intro h
          simp only [ads]
          rw [ad1_fst x h, ih (ad1 X x).2 (ad1 Y x).2 (by cases x <;> simp [ad1, h])]
      cases v' with
      | agg cs => simp only [ad2]; rw [key _ _ cs hlen]
      | _ => exact ad1_fst _ hlen
    have e3 : (ads2 (hpc2 ++ news) (v' :: vs')).1 = (ad2 (hpc1 ++ news) v').1 :: (ads2 (hpc2 ++ (ad2 news v').2) vs').1 := by
      show (ad2 (hpc2 ++ news) v').1 :: (ads2 (ad2 (hpc2 ++ news) v').2 vs').1 = _
      rw [ad2_app, e4]
    rw [e2, e3]
    refine ⟨val :: vals, g2, by simp [p0], fun i rv' v hi hv => ?_, k1.trans p2, p3, p4, ⟨k4.trans p2 k2, p5⟩⟩
    cases i with
    | zero => simp at hi hv; subst hi; subst hv; exact hrun
    | succ i => exact p1 i rv' v (by simpa using hi) (by simpa using hv)

theorem initK_ok {κ : List AV → R} : ∀ {args : List AV} {n : Nat}, initK args n κ = some r → args.length ≤ n ∧ κ (args ++ List.replicate (n - args.length) .top) = some r
  | [], n, h => by
    have key : ∀ (n : Nat) (κ : List AV → R), topsK n κ = κ (List.replicate n .top) := by
      intro n
      induction n with
      | zero => intro κ; rfl
      | succ n ih => intro κ; simp [topsK, ih, List.replicate_succ]
    simp only [initK, key] at h
    exact ⟨Nat.zero_le _, by simpa using h⟩
  | v :: l, 0, h => by simp [initK] at h
  | v :: l, n + 1, h => by
    simp only [initK] at h
    obtain ⟨h1, h2⟩ := initK_ok h
    refine ⟨by simp; omega, ?_⟩
    simpa using h2

theorem All2_tops {g : G} {H : List Blk} {w : World} : ∀ n : Nat, All2 (V3 g H w) (List.replicate n .top) (List.replicate n undef)
  | 0 => trivial
  | n + 1 => ⟨trivial, All2_tops n⟩

/-- what a call of a function shows -/
def Post (g : G) (hp : List Blk) (w : World) (res : AV) (hp' : List Blk) (e : Ending) (w' : World) : Prop :=
  ∃ vv g', e = .returned vv ∧ Trans g hp w g' (ad3 hp' res).2 w' ∧ Good g' (ad3 hp' res).2 w' ∧ (∀ τ, g'.dom τ ↔ τ < (ad3 hp' res).2.length) ∧ V3 g' (ad3 hp' res).2 w' (ad3 hp' res).1 vv

theorem ret_ok (hT : TOk P T) {fn : Func} {tm : List AV} {hp : List Blk} {res : AV} {hpF : List Blk} (h : retK T b0 fn tm hp = some (res, hpF)) {g0 : G} {H0 : List Blk} {w0 : World} (hg0 : ∀ τ, g0.dom τ → τ < b0) {g : G} {a : Act} {w : World}
    (ht : Trans g0 H0 w0 g hp w) (hs : RS g tm hp a w) : ∃ v, (results fn a.tmps).run P w = .ok v w ∧ Post g0 H0 w0 res hpF (.returned v) w := by
  unfold retK at h
  split at h
  · rename_i rv hrs
    split at h
    · rename_i t hts
      obtain ⟨u, h1, hu⟩ := res1_ok (P := P) hT h
      obtain ⟨v', hpc, h2, htk, hV, hl1, hcv⟩ := conv2_ok hT h1
      obtain ⟨val, hrun, hval⟩ := hu g a w hs
      obtain ⟨g1, k1, k2, k3, k4⟩ := hcv [] g w val (by simpa using hs.good) (by simpa using hs.dom) (by simpa using hV _ _ _ _ hval)
      have htk3 : tk3 (· < b0) v' := by
        cases v' <;> first | exact htk | exact htk.elim
      have e3 : ∀ X, ad3 X v' = ad2 X v' := fun X => by
        cases v' <;> first | rfl | exact htk.elim
      obtain ⟨hres, hfin⟩ := fin_ok h2 htk3
      subst hres
      simp only [List.append_nil] at k1 k2 k3 k4
      rw [← e3] at k1 k2 k3 k4
      obtain ⟨g2, q1, q2, q3, q4⟩ := hfin g0 H0 w0 g1 w val hg0 (ht.trans k1) k2 k3 (V3_of_V2 k4)
      refine ⟨val, ?_, val, g2, rfl, q1, q2, q3, q4⟩
      have := results_run (P := P) (fn := fn) (a := a) (w := w) (vals := [val]) (by rw [hrs]; rfl) (fun i rv' v hi hv => by
        rw [hrs] at hi
        cases i with
        | zero => simp at hi hv; subst hi; subst hv; exact hrun
        | succ i => simp at hi)
      simpa using this
    · cases h
  · rename_i hne
    obtain ⟨vs', hpc, h2, htk, hl1, hcv⟩ := ress_ok (P := P) hT h
    obtain ⟨vals, g1, p0, p1, k1, k2, k3, k4⟩ := hcv g a w [] g hs (by simpa using Trans.refl g hp w) (by simpa using hs.good) (by simpa using hs.dom)
    obtain ⟨hres, hfin⟩ := fin_ok (v := .tup vs') h2 htk
    subst hres
    simp only [List.append_nil] at k1 k2 k3 k4
    obtain ⟨g2, q1, q2, q3, q4⟩ := hfin g0 H0 w0 g1 w (.tuple ⟨vals⟩) hg0 (ht.trans k1) k2 k3 ⟨vals, rfl, k4⟩
    refine ⟨.tuple ⟨vals⟩, ?_, _, g2, rfl, q1, q2, q3, q4⟩
    have := results_run (P := P) (fn := fn) (a := a) (w := w) (vals := vals) p0 p1
    have hn1 : ¬ vals.length = 1 := fun e => by
      rw [← p0] at e
      match hl : fn.results.toList, e with
      | [x], _ => exact hne x hl
    rw [dif_neg hn1] at this
    exact this

theorem retC_ok (hT : TOk P T) {ks : List (Tmp × Nat)} {fn : Func} {tm : List AV} {hp : List Blk} {res : AV} {hpF : List Blk} (h : retC T b0 ks fn tm hp = some (res, hpF)) {g0 : G} {H0 : List Blk} {w0 : World} (hg0 : ∀ τ, g0.dom τ → τ < b0) {g : G} {a : Act} {w : World}
    (ht : Trans g0 H0 w0 g hp w) (hs : RS g tm hp a w) : ∃ v, (results fn a.tmps).run P w = .ok v w ∧ Post g0 H0 w0 res hpF (.returned v) w := by
  unfold retC at h
  split at h
  · exact ret_ok hT h hg0 ht hs
  · obtain ⟨tm', hp', h1, hl, hk⟩ := keepTm_ok h
    obtain ⟨g', k1, k2, k3, k4⟩ := hk g w _ hs.good hs.tmps
    exact ret_ok hT h1 hg0 (ht.trans k1) ⟨k2, fun τ => by rw [k3, hs.dom, hl], k4, hs.defers⟩

theorem run_ok (hT : TOk P T) (hC : CSound P C) (hm : P.follows .mixedOrders = true) {keep : Nat → List (Tmp × Nat)} {L : Nat} {f : FuncId} {fn : Func} (hf : P.funcs[f]? = some fn) (hcode : ∀ c, fn.body = some c → codeOk sh keep c = true)
    {args : List AV} {hp : List Blk} {res : AV} {hpF : List Blk} (h : run T C sh keep L fn args hp = some (res, hpF)) {g : G} {w : World} {vs : List Value} (hg : Good g hp w) (hd : ∀ τ, g.dom τ ↔ τ < hp.length) (hv : All2 (V3 g hp w) args vs) :
    Calls P f vs.toArray w (Post g hp w res hpF) := by
  unfold run at h
  split at h
  case h_2 => cases h
  rename_i c hbody
  rw [lenK_eq, Nat.zero_add] at h
  obtain ⟨hle, h1⟩ := initK_ok h
  clear h
  refine calls_of_wp hf hbody ?_
  have hst : RS g (args ++ List.replicate (fn.ntmps - args.length) .top) hp { tmps := vs.toArray ++ Array.replicate (fn.ntmps - vs.toArray.size) undef, defers := [] } w := by
    refine ⟨hg, hd, ?_, rfl⟩
    unfold TmR
    simp only [Array.toList_append, Array.toList_replicate, List.size_toArray]
    rw [← All2_len hv]
    exact hv.append (All2_tops _)
  refine exec_ok hT hC hm (p := ⟨hp.length, keep, L⟩) (g0 := g) (H0 := hp) (w0 := w) (fun τ h => (hd τ).1 h) c (hcode c hbody) 9999 _ _ hp h1 g _ w (Trans.refl _ _ _) hst _ fun e tm' hp' g' a' w' h2 k1 k2 => ?_
  cases e with
  | normal =>
    obtain ⟨v, q1, q2⟩ := retC_ok (P := P) hT h2 (fun τ h => (hd τ).1 h) k1 k2
    exact ⟨k2.defers, v, q1, q2⟩
  | ret =>
    obtain ⟨v, q1, q2⟩ := retC_ok (P := P) hT h2 (fun τ h => (hd τ).1 h) k1 k2
    exact ⟨k2.defers, v, q1, q2⟩
  | exit i => cases h2
end
end Go.AM

/-! All functions of a program together; what a table of types says, checked by evaluation. -/
namespace Go.AM

/-- functions by their runs, to a depth; `X` are told otherwise -/
noncomputable def callN (T : TypeId → Option TI) (F : FuncId → Option Func) (X : CF) (isX : FuncId → Bool) (sh : FuncId → Bool) (keep : FuncId → Nat → List (Tmp × Nat)) (L : Nat) : Nat → CF
  | 0, _, _, _ => none
  | n + 1, f, args, hp => bif isX f then X f args hp else match F f with
    | some fn => run T (callN T F X isX sh keep L n) sh (keep f) L fn args hp
    | none => none

noncomputable def bodyOk (sh : FuncId → Bool) (keep : Nat → List (Tmp × Nat)) (fn : Func) : Bool :=
  match fn.body with
  | some c => codeOk sh keep c
  | none => false

def entB (fn : Func) : Bool := !(fn.name == "runtime.NumGoroutine") && !fn.body.isNone

theorem callN_sound {P : Program} {T : TypeId → Option TI} {F : FuncId → Option Func} {X : CF} {isX : FuncId → Bool} {sh : FuncId → Bool} {keep : FuncId → Nat → List (Tmp × Nat)} {L : Nat} (hT : TOk P T) (hm : P.follows .mixedOrders = true)
    (hF : ∀ f fn, F f = some fn → P.funcs[f]? = some fn ∧ bodyOk sh (keep f) fn = true ∧ entB fn = true) (hX : CSound P fun f args hp => bif isX f then X f args hp else none) : ∀ n, CSound P (callN T F X isX sh keep L n)
  | 0 => fun f args hp res hp' h => by cases h
  | n + 1 => fun f args hp res hp' h => by
    simp only [callN] at h
    cases hx : isX f with
    | true =>
      rw [hx] at h
      exact hX f args hp res hp' (by simp only [hx]; exact h)
    | false =>
      rw [hx] at h
      simp only [cond_false] at h
      split at h
      · rename_i fn hfn
        obtain ⟨h1, h2, h3⟩ := hF f fn hfn
        simp only [entB, Bool.and_eq_true, Bool.not_eq_true'] at h3
        refine ⟨⟨fn, h1, h3.1, h3.2⟩, fun g w vs hg hd hv => ?_⟩
        exact run_ok hT (callN_sound hT hm hF hX n) hm h1 (fun c hc => by unfold bodyOk at h2; rw [hc] at h2; exact h2) h hg hd hv
      · cases h

/-- no function is told otherwise -/
theorem noX_sound {P : Program} {X : CF} {isX : FuncId → Bool} (h : ∀ f, isX f = false) : CSound P fun f args hp => bif isX f then X f args hp else none := fun f args hp res hp' hh => by
  simp [h] at hh

/-! types -/
def zOk1 : AV → Value → Bool
  | .int k n, v => match v with | .int k' n' => decide (k = k') && decide (n = n') | _ => false
  | .bool b, v => match v with | .bool b' => b == b' | _ => false
  | .str l, v => match v with | .string ⟨⟨l'⟩⟩ => l == l' | _ => false
  | .nil, v => match v with | .slice _ 0 0 => true | _ => false
  | .iface0, v => match v with | .nilIface => true | _ => false
  | _, _ => false
def zOks : List AV → List Value → Bool
  | [], [] => true
  | x :: xs, v :: vs => zOk1 x v && zOks xs vs
  | _, _ => false
def zOk : AV → Value → Bool
  | .agg cs, v => match v with | .agg ⟨vs⟩ => zOks cs vs | _ => false
  | x, v => zOk1 x v

theorem zOk1_ok {x : AV} {v : Value} (h : zOk1 x v = true) (g : G) (H : List Blk) (w : World) : V1 g H w x v := by
  cases x with
  | int k n =>
    cases v with
    | int k' n' => simp [zOk1] at h; obtain ⟨rfl, rfl⟩ := h; simp [V1, PCell]
    | _ => simp [zOk1] at h
  | bool b =>
    cases v with
    | bool b' => simp [zOk1] at h; subst h; simp [V1, PCell]
    | _ => simp [zOk1] at h
  | str l =>
    cases v with
    | string s => obtain ⟨⟨l'⟩⟩ := s; simp [zOk1] at h; subst h; simp [V1, PCell]
    | _ => simp [zOk1] at h
  | nil =>
    simp only [zOk1] at h
    split at h
    · simp [V1, PCell]
    · cases h
  | iface0 =>
    cases v with
    | nilIface => simp [V1, PCell]
    | _ => simp [zOk1] at h
  | _ => cases v <;> simp [zOk1] at h

theorem zOks_ok : ∀ {xs : List AV} {vs : List Value}, zOks xs vs = true → ∀ (g : G) (H : List Blk) (w : World), All2 (V1 g H w) xs vs
  | [], [], _, _, _, _ => trivial
  | x :: xs, v :: vs, h, g, H, w => by
    simp only [zOks, Bool.and_eq_true] at h
    exact ⟨zOk1_ok h.1 g H w, zOks_ok h.2 g H w⟩
  | [], _ :: _, h, _, _, _ => by simp [zOks] at h
  | _ :: _, [], h, _, _, _ => by simp [zOks] at h

theorem zOk_ok {x : AV} {v : Value} (h : zOk x v = true) (g : G) (H : List Blk) (w : World) : V2 g H w x v := by
  unfold zOk at h
  split at h
  · rename_i cs
    cases v with
    | agg a => obtain ⟨vs⟩ := a; exact ⟨vs, rfl, zOks_ok h g H w⟩
    | _ => simp at h
  · rename_i hne
    have := zOk1_ok h g H w
    cases x <;> first | exact this | exact absurd rfl (hne _)

def dOk : TD → TypeDesc → Bool
  | .int k, u => match u with | .int k' => decide (k = k') | _ => false
  | .bool, u => match u with | .bool => true | _ => false
  | .str, u => match u with | .string => true | _ => false
  | .slice e, u => match u with | .slice e' => e == e' | _ => false
  | .array n e, u => match u with | .array n' e' => n == n' && e == e' | _ => false
  | .struct fs _, u => match u with | .struct fields => fs == fields.toList.map fun f => (f.offset, f.type) | _ => false
  | .ptr e, u => match u with | .pointer e' => e == e' | _ => false
  | .other, _ => true

theorem dOk_ok {d : TD} {u : TypeDesc} (h : dOk d u = true) : DRel d u := by
  cases d with
  | other => trivial
  | struct fs eq =>
    cases u with
    | struct fields => simp only [dOk, beq_iff_eq] at h; exact ⟨fields, rfl, h⟩
    | _ => simp [dOk] at h
  | _ => cases u <;> simp [dOk] at h <;> simp [DRel, h]

/-- a struct of plain integers, one behind the other -/
def eqB (P : Program) : List Field → Nat → Bool
  | [], _ => true
  | f :: fs, k => f.name != "_" && f.offset == k && (match P.underlying f.type with | some (.int .i64) => true | _ => false) && eqB P fs (k + 1)

theorem eqFields_run {P : Program} {w : World} {d : Nat} {xs ys : List Int} : ∀ {fs : List Field} {k : Nat}, eqB P fs k = true → k + fs.length = xs.length → xs.length = ys.length →
    (Op.eqFields (d + 1) ⟨xs.map (.int .i64)⟩ ⟨ys.map (.int .i64)⟩ fs).run P w = .ok (decide (xs.drop k = ys.drop k)) w
  | [], k, _, hk, hl => by
    have h1 : xs.drop k = [] := List.drop_eq_nil_of_le (by simp at hk; omega)
    have h2 : ys.drop k = [] := List.drop_eq_nil_of_le (by simp at hk; omega)
    simp [Op.eqFields, h1, h2]
  | f :: fs, k, h, hk, hl => by
    simp only [eqB, Bool.and_eq_true, bne_iff_ne, ne_eq, beq_iff_eq] at h
    obtain ⟨⟨⟨h1, h2⟩, h3⟩, h4⟩ := h
    simp only [List.length_cons] at hk
    have hu : P.underlying f.type = some (.int .i64) := by
      revert h3
      cases P.underlying f.type with
      | none => simp
      | some u => cases u with
        | int k => cases k <;> simp
        | _ => simp
    have hk1 : k < xs.length := by omega
    have hk2 : k < ys.length := by omega
    have part : ∀ (zs : List Int), k < zs.length → ∀ w : World, (part f.type ⟨zs.map (.int .i64)⟩ f.offset).run P w = .ok (.int .i64 (zs.getD k 0)) w := fun zs hz w => by
      simp [Go.part, Go.isAgg, run_underlying hu, h2, hz]
    have heq : ∀ a b : Int, (Op.equalIn (d + 1) f.type (.int .i64 a) (.int .i64 b)).run P w = .ok (a == b) w := fun a b => by
      simp [Op.equalIn, run_underlying hu]
    have hx : xs.drop k = xs.getD k 0 :: xs.drop (k + 1) := by
      rw [List.drop_eq_getElem_cons hk1]; simp [hk1]
    have hy : ys.drop k = ys.getD k 0 :: ys.drop (k + 1) := by
      rw [List.drop_eq_getElem_cons hk2]; simp [hk2]
    simp only [Op.eqFields, ne_eq, h1, not_false_eq_true, if_true, Sem.run_bind, part xs hk1, part ys hk2, Result.andThen_ok, heq]
    rw [hx, hy]
    by_cases he : xs.getD k 0 = ys.getD k 0
    · have hb : (xs.getD k 0 == ys.getD k 0) = true := by simpa using he
      rw [hb]
      simp only [Bool.not_true, Bool.false_eq_true, if_false]
      rw [eqFields_run h4 (by omega) hl]
      congr 1
      simp only [List.cons.injEq, he, true_and]
    · have hb : (xs.getD k 0 == ys.getD k 0) = false := by simpa using he
      rw [hb]
      simp only [Bool.not_false, if_true, Sem.run_pure]
      congr 1
      symm
      simp only [decide_eq_false_iff_not, List.cons.injEq]
      exact fun e => he e.1

/-- a row of the table, checked -/
def tiB (P : Program) (t : TypeId) (s : Nat) (ag : Bool) (by_ : Nat) (z : AV) (d : TD) : Bool :=
  (match P.info? t with
    | some i => i.size == s && i.bytes == by_ && (match i.zero with | some zv => zv.cells.size == s && zOk z zv | none => false)
    | none => false) &&
  (match P.underlying t with
    | some u => (ag == aggD u) && dOk d u && (match u with | .struct fields => fields.toList.all fun f => (P.info? f.type).isSome | _ => true)
    | none => false) &&
  (match d with
    | .struct _ true => (match P.underlying t with
      | some (.struct fields) => eqB P fields.toList 0 && fields.size == s && !P.stoodInHeld t && !P.eqGuardType P.depth t
      | _ => false)
    | _ => true)

theorem tiB_ok {P : Program} {t : TypeId} {s : Nat} {ag : Bool} {by_ : Nat} {z : AV} {d : TD} (h : tiB P t s ag by_ z d = true) : TRel P t s ag by_ z d := by
  simp only [tiB, Bool.and_eq_true] at h
  obtain ⟨⟨h1, h2⟩, h3⟩ := h
  cases hi : P.info? t with
  | none => simp [hi] at h1
  | some i =>
    cases hu : P.underlying t with
    | none => simp [hu] at h2
    | some u =>
      simp only [hi, hu, Bool.and_eq_true, beq_iff_eq] at h1 h2
      obtain ⟨⟨h11, h12⟩, h13⟩ := h1
      obtain ⟨⟨h21, h22⟩, h23⟩ := h2
      refine ⟨⟨i, hi, h11, h12, .inr ?_⟩, ⟨u, hu, h21, dOk_ok h22⟩, fun fields hf f hff => ?_, fun fs hd xs ys hx hy w => ?_⟩
      · cases hz : i.zero with
        | none => simp [hz] at h13
        | some zv =>
          simp only [hz, Bool.and_eq_true, beq_iff_eq] at h13
          exact ⟨zv, rfl, h13.1, fun g H w => zOk_ok h13.2 g H w⟩
      · rw [hu] at hf
        cases hf
        simp only [List.all_eq_true] at h23
        have := h23 f (by simpa using hff)
        exact Option.isSome_iff_exists.1 this
      · subst hd
        simp only at h3
        cases u with
        | struct fields =>
          simp only [hu, Bool.and_eq_true, beq_iff_eq, Bool.not_eq_true'] at h3
          obtain ⟨⟨⟨h31, h32⟩, h33⟩, h34⟩ := h3
          refine ⟨?_, h34⟩
          have hfo : P.fieldsOf t = fields := by simp [Program.fieldsOf, hu]
          have e : (Op.equal t (.agg ⟨xs.map (.int .i64)⟩) (.agg ⟨ys.map (.int .i64)⟩)).run P w = (Op.eqFields (9998 + 1) ⟨xs.map (.int .i64)⟩ ⟨ys.map (.int .i64)⟩ (P.fieldsOf t).toList).run P w :=
            run_equalIn_struct (P := P) w 9999 t _ _ (by rw [hfo]; exact hu) h33
          rw [e, hfo, eqFields_run h31 (by simp; omega) (by omega)]
          simp
        | _ => simp [hu] at h3
end Go.AM

/-! From the abstract functions to a law's row: what its arguments are as abstract values, what its call does to the world. -/
namespace Go.AM
open Go.RowKit

def findL {α : Type} : List (Nat × α) → Nat → Option α
  | [], _ => none
  | (a, x) :: l, t => bif Nat.beq a t then some x else findL l t

theorem findL_mem {α : Type} : ∀ {l : List (Nat × α)} {t : Nat} {x : α}, findL l t = some x → (t, x) ∈ l
  | [], _, _, h => by cases h
  | (a, y) :: l, t, x, h => by
    unfold findL at h
    cases hb : Nat.beq a t with
    | true =>
      rw [hb] at h
      have := Nat.eq_of_beq_eq_true hb
      subst this
      cases h
      exact List.mem_cons_self
    | false =>
      rw [hb] at h
      exact List.mem_cons_of_mem _ (findL_mem h)

def tiR (P : Program) : Nat × TI → Bool
  | (t, .mk s ag by_ z d) => tiB P t s ag by_ z d

theorem tOk_rows {P : Program} {rows : List (Nat × TI)} (h : rows.all (tiR P) = true) : TOk P (findL rows) := by
  intro t s ag by_ z d ht
  have := List.all_eq_true.1 h _ (findL_mem ht)
  exact tiB_ok this

def FOk (P : Program) (sh : FuncId → Bool) (keep : FuncId → Nat → List (Tmp × Nat)) (p : Nat × Func) : Prop := P.funcs[p.1]? = some p.2 ∧ bodyOk sh (keep p.1) p.2 = true ∧ entB p.2 = true

theorem fOk_nil {P : Program} {sh : FuncId → Bool} {keep : FuncId → Nat → List (Tmp × Nat)} : ∀ p ∈ ([] : List (Nat × Func)), FOk P sh keep p := fun _ h => by cases h
theorem fOk_cons {P : Program} {sh : FuncId → Bool} {keep : FuncId → Nat → List (Tmp × Nat)} {p : Nat × Func} {l : List (Nat × Func)} (h : FOk P sh keep p) (hl : ∀ p ∈ l, FOk P sh keep p) : ∀ q ∈ p :: l, FOk P sh keep q := by
  intro q hq
  rcases List.mem_cons.1 hq with rfl | hq
  · exact h
  · exact hl q hq

/-- the functions of a program, to a depth -/
noncomputable def callF (T : TypeId → Option TI) (F : FuncId → Option Func) (sh : FuncId → Bool) (keep : FuncId → Nat → List (Tmp × Nat)) (L n : Nat) : CF :=
  callN T F (fun _ _ _ => none) (fun _ => false) sh keep L n

theorem callF_sound {P : Program} {rT : List (Nat × TI)} {rF : List (Nat × Func)} {sh : FuncId → Bool} {keep : FuncId → Nat → List (Tmp × Nat)} (hT : rT.all (tiR P) = true) (hF : ∀ p ∈ rF, FOk P sh keep p) (hm : P.follows .mixedOrders = true) (L n : Nat) :
    CSound P (callF (findL rT) (findL rF) sh keep L n) :=
  callN_sound (tOk_rows hT) hm (fun f fn h => hF _ (findL_mem h)) (noX_sound fun _ => rfl) n

theorem callF_step {T : TypeId → Option TI} {F : FuncId → Option Func} {sh : FuncId → Bool} {keep : FuncId → Nat → List (Tmp × Nat)} {L n f : Nat} {fn : Func} (h : F f = some fn) (args : List AV) (hp : List Blk) :
    callF T F sh keep L (n + 1) f args hp = run T (callF T F sh keep L n) sh (keep f) L fn args hp := by
  simp only [callF, callN, h, cond_false]

/-- the world at the call of a law: all that there is stays -/
def gAll (w : World) : G := { dom := fun _ => False, ρ := fun _ => none, S := fun b => b < w.heap.size, Sl := fun b => b < w.heap.size }

theorem gAll_good (w : World) : Good (gAll w) [] w := ⟨fun _ h => h, fun _ h => h, fun _ h => h.elim, fun _ _ _ _ _ h => h.elim⟩

theorem law_calls {P : Program} {C : CF} (hC : CSound P C) {f : FuncId} {args : List AV} {b : Bool} (h : C f args [] = some (.bool b, [])) {w : World} {vs : List Value} (hv : All2 (V3 (gAll w) [] w) args vs) :
    Calls P f vs.toArray w fun e w' => e = .returned (.bool b) ∧ Below w.heap.size w w' := by
  obtain ⟨_, hc⟩ := hC f args [] _ _ h
  refine (hc (gAll w) w vs (gAll_good w) (fun τ => ⟨fun h => h.elim, fun h => by simp at h⟩) hv).mono fun e w' he => ?_
  obtain ⟨vv, g', rfl, ht, _, _, h3⟩ := he
  have hb : vv = .bool b := V3_bool.1 h3
  subst hb
  exact ⟨rfl, ht.env.1, ht.env.2.2, ht.env.2.1, ht.size, fun k hk => ht.prot k hk fun ⟨_, _, h, _⟩ => h⟩

section
variable {H : Type} {enc : TypeId × Value → H} {P : Program} {w : World} {spare : Nat → Bool} {held : Bool} {fuel : Nat}

def eA (c : List Int) : AV := .agg (c.map (.int .i64))

theorem nRows_of {Sl : Nat → Prop} {E b : Nat} : ∀ {xs : List (List Int)} {off : Nat}, (∀ (i : Nat) c, xs[i]? = some c → c.length = E ∧ ∀ (j : Nat) n, c[j]? = some n → w.cell? ⟨b, off + i * E + j, none⟩ = some (.int .i64 n)) →
    NRows Sl w E (xs.map eA) b off
  | [], _, _ => by simp [NRows]
  | c :: xs, off, h => by
    have hcell : ∀ {ns : List Int} {k : Nat}, (∀ (j : Nat) n, ns[j]? = some n → w.cell? ⟨b, k + j, none⟩ = some (.int .i64 n)) → NCells Sl w (ns.map (.int .i64)) b k := by
      intro ns
      induction ns with
      | nil => intro k _; simp [NCells]
      | cons n ns ih =>
        intro k hk
        simp only [List.map_cons, NCells]
        refine ⟨⟨.int .i64 n, by simpa using hk 0 n rfl, by simp [NCell]⟩, ih fun j m hj => ?_⟩
        rw [show k + 1 + j = k + (j + 1) by omega]
        exact hk (j + 1) m (by simpa using hj)
    obtain ⟨h1, h2⟩ := h 0 c rfl
    simp only [List.map_cons, eA, NRows]
    refine ⟨by simpa using h1, hcell (by simpa using h2), nRows_of fun i d hd => ?_⟩
    obtain ⟨h3, h4⟩ := h (i + 1) d (by simpa using hd)
    refine ⟨h3, fun j n hj => ?_⟩
    have := h4 j n hj
    rw [show off + E + i * E + j = off + (i + 1) * E + j by rw [Nat.add_mul]; omega]
    exact this

theorem nRowsI_of {Sl : Nat → Prop} {b : Nat} : ∀ {xs : List Int} {off : Nat}, (∀ (i : Nat) n, xs[i]? = some n → w.cell? ⟨b, off + i, none⟩ = some (.int .i64 n)) → NRows Sl w 1 (xs.map eI) b off
  | [], _, _ => by simp [NRows]
  | n :: xs, off, h => by
    simp only [List.map_cons, eI, NRows]
    refine ⟨trivial, ⟨.int .i64 n, by simpa using h 0 n rfl, by simp [NCell]⟩, nRowsI_of fun i m hm => ?_⟩
    rw [show off + 1 + i = off + (i + 1) by omega]
    exact h (i + 1) m (by simpa using hm)

/-- a type of slices of structs of so many whole numbers, as evaluation tells it -/
def structB (P : Program) (t e n : Nat) : Bool :=
  (match P.underlying t with | some (.slice e') => e' == e | _ => false) &&
  (match P.underlying e with
    | some (.struct fs) => fs.size == n && (List.range n).all fun i => match fs[i]? with
      | some f => f.offset == i && (match P.underlying f.type with | some (.int .i64) => true | _ => false) && P.cellsOf f.type == 1
      | none => false
    | _ => false) && P.cellsOf e == n && decide (0 < n)

theorem cell_spot {a : Addr} {v : Value} (h : w.cell? a = some v) : a = ⟨a.block, a.off, none⟩ ∧ a.block < w.heap.size := by
  obtain ⟨b, o, s⟩ := a
  unfold World.cell? at h
  split at h
  · rename_i c _ _ hb
    cases s with
    | none =>
      refine ⟨rfl, ?_⟩
      rcases Nat.lt_or_ge b w.heap.size with h' | h'
      · exact h'
      · simp [Array.getElem?_eq_none h'] at hb
    | some _ => simp at h
  · cases h

theorem open_structs {t e n : Nat} (hB : structB P t e n = true) {a : Option Addr} {len cap : Nat} {x : DataW H × List MemPlace} (h : DataW.trod enc P w 0 spare held fuel t [.slice a len cap] = some x) :
    ∃ xs : List (List Int), (∀ c ∈ xs, c.length = n ∧ ∀ m ∈ c, (Lit.int .i64 m).wf = true) ∧ ∀ g : G, (∀ b, b < w.heap.size → g.Sl b) → V3 g [] w (.lst false false n (xs.map eA)) (.slice a len cap) := by
  simp only [structB, Bool.and_eq_true, beq_iff_eq, decide_eq_true_eq] at hB
  obtain ⟨⟨⟨h1, h2⟩, h3⟩, hn⟩ := hB
  have ht : P.underlying t = some (.slice e) := by
    split at h1
    · rename_i e' he; rw [he]; simp at h1; rw [h1]
    · cases h1
  clear h1
  split at h2
  case h_2 => cases h2
  rename_i fs hfs
  simp only [Bool.and_eq_true, beq_iff_eq, List.all_eq_true, List.mem_range] at h2
  obtain ⟨hsz, hf⟩ := h2
  rcases DataW.trod_slice ht h with ⟨h0, _⟩ | ⟨a', len', cap', elems, rest, n', _, h0, _, _, hl, _, hlen, hel, _, _⟩
  · cases h0
    exact ⟨[], (fun c hc => by cases hc), fun g _ => ⟨none, 0, rfl, Nat.le_refl _, (fun h => by cases h), .inl rfl⟩⟩
  · cases h0
    have each : ∀ i, i < len → ∃ c : List Int, c.length = n ∧ (∀ m ∈ c, (Lit.int .i64 m).wf = true) ∧ ∀ (j : Nat) m, c[j]? = some m → w.cell? ((a'.add (i * n)).add j) = some (.int .i64 m) := by
      intro i hi
      have hy : elems[i]? = some (elems[i]'(by omega)) := List.getElem?_eq_getElem (by omega)
      have h4 := hel i hi
      rw [hy, h3] at h4
      obtain ⟨cs, hcs, htr⟩ := Option.bind_eq_some_iff.1 h4
      obtain ⟨_, hcl, hcell⟩ := World.cells?_some hcs
      obtain ⟨ys, _, _, _, _, hys, hfl⟩ := DataW.trod_struct hfs htr
      have fld : ∀ j, j < n → ∃ m, cs[j]? = some (.int .i64 m) ∧ (Lit.int .i64 m).wf = true := by
        intro j hj
        have h5 := hf j hj
        have hfj : fs[j]? = some (fs[j]'(by omega)) := Array.getElem?_eq_getElem (by omega)
        rw [hfj] at h5
        simp only [Bool.and_eq_true, beq_iff_eq] at h5
        obtain ⟨⟨h6, h7⟩, h8⟩ := h5
        have h9 := hfl j _ hfj
        rw [h6, h8] at h9
        rw [List.getElem?_eq_getElem (show j < ys.length by omega)] at h9
        have hu : P.underlying (fs[j]'(by omega)).type = some (.int .i64) := by
          split at h7
          · assumption
          · cases h7
        obtain ⟨m, h10, _, h11⟩ := DataW.trod_int hu h9
        refine ⟨m, ?_, h11⟩
        have : ((cs.drop j).take 1)[0]? = some (.int .i64 m) := by rw [h10]; rfl
        simpa using this
      have mk : ∀ k, k ≤ n → ∃ c : List Int, c.length = k ∧ (∀ m ∈ c, (Lit.int .i64 m).wf = true) ∧ ∀ (j : Nat) m, c[j]? = some m → cs[j]? = some (.int .i64 m) := by
        intro k
        induction k with
        | zero => intro _; exact ⟨[], rfl, fun m h => (by cases h), fun j m h => by simp at h⟩
        | succ k ih =>
          intro hk
          obtain ⟨c, q1, q2, q3⟩ := ih (by omega)
          obtain ⟨m, q4, q5⟩ := fld k (by omega)
          refine ⟨c ++ [m], by simp [q1], fun m' hm' => ?_, fun j m' hj => ?_⟩
          · rcases List.mem_append.1 hm' with h | h
            · exact q2 _ h
            · simp at h; subst h; exact q5
          · rw [List.getElem?_append] at hj
            split at hj
            · exact q3 j m' hj
            · rename_i hjk
              have : j = k := by
                rcases Nat.lt_or_ge (j - c.length) 1 with h | h
                · omega
                · rw [List.getElem?_eq_none (by simpa using h)] at hj; cases hj
              subst this
              simp [q1] at hj
              subst hj
              exact q4
      obtain ⟨c, q1, q2, q3⟩ := mk n (Nat.le_refl _)
      refine ⟨c, q1, q2, fun j m hj => ?_⟩
      have hjn : j < n := by
        have := (List.getElem?_eq_some_iff.1 hj).1
        omega
      rw [hcell j hjn]
      exact q3 j m hj
    have all : ∀ k, k ≤ len → ∃ xs : List (List Int), xs.length = k ∧ (∀ c ∈ xs, c.length = n ∧ ∀ m ∈ c, (Lit.int .i64 m).wf = true) ∧ ∀ (i : Nat) c, xs[i]? = some c → ∀ (j : Nat) m, c[j]? = some m → w.cell? ((a'.add (i * n)).add j) = some (.int .i64 m) := by
      intro k
      induction k with
      | zero => intro _; exact ⟨[], rfl, fun m h => (by cases h), fun j m h => by simp at h⟩
      | succ k ih =>
        intro hk
        obtain ⟨xs, q1, q2, q3⟩ := ih (by omega)
        obtain ⟨c, q4, q5, q6⟩ := each k (by omega)
        refine ⟨xs ++ [c], by simp [q1], fun d hd => ?_, fun i d hd => ?_⟩
        · rcases List.mem_append.1 hd with h | h
          · exact q2 _ h
          · simp at h; subst h; exact ⟨q4, q5⟩
        · rw [List.getElem?_append] at hd
          split at hd
          · exact q3 i d hd
          · have : i = k := by
              rcases Nat.lt_or_ge (i - xs.length) 1 with h | h
              · omega
              · rw [List.getElem?_eq_none (by simpa using h)] at hd; cases hd
            subst this
            simp [q1] at hd
            subst hd
            exact q6
    obtain ⟨xs, q1, q2, q3⟩ := all len (Nat.le_refl _)
    refine ⟨xs, q2, fun g hg => ?_⟩
    refine ⟨some a', cap, by rw [List.length_map, q1], by rw [List.length_map, q1]; exact hl, (fun h => by cases h), ?_⟩
    cases hxs : xs with
    | nil => left; rfl
    | cons c xs' =>
      right
      obtain ⟨hc1, _⟩ := q2 c (by rw [hxs]; exact List.mem_cons_self)
      have hc0 : c[0]? = some (c[0]'(by omega)) := List.getElem?_eq_getElem (by omega)
      have h0 := q3 0 c (by rw [hxs]; rfl) 0 _ hc0
      simp only [Nat.zero_mul, Addr.add, if_true] at h0
      obtain ⟨hs, hb⟩ := cell_spot h0
      refine ⟨a'.block, a'.off, by rw [← hs], hg _ hb, ?_⟩
      rw [← hxs]
      refine nRows_of fun i d hd => ⟨(q2 d (List.mem_of_getElem? hd)).1, fun j m hj => ?_⟩
      have := q3 i d hd j m hj
      rw [hs, addr_add, addr_add] at this
      exact this

theorem open_intsA {t e : TypeId} (ht : P.underlying t = some (.slice e)) (he : P.underlying e = some (.int .i64)) (hc : P.cellsOf e = 1) {a : Option Addr} {len cap : Nat} {x : DataW H × List MemPlace} (h : DataW.trod enc P w 0 spare held fuel t [.slice a len cap] = some x) :
    ∃ xs : List Int, (∀ m ∈ xs, (Lit.int .i64 m).wf = true) ∧ ∀ g : G, (∀ b, b < w.heap.size → g.Sl b) → V3 g [] w (.lst false false 1 (xs.map eI)) (.slice a len cap) := by
  rcases Go.ChangeShapes.open_ints ht he hc h with ⟨h0, _⟩ | ⟨a', len', cap', zs, h0, _, hl, _, hz, _, hcell, hwf⟩
  · cases h0
    exact ⟨[], (fun c hc => by cases hc), fun g _ => ⟨none, 0, rfl, Nat.le_refl _, (fun h => by cases h), .inl rfl⟩⟩
  · cases h0
    have hlz : len ≤ zs.length := by rw [hz]; split <;> omega
    refine ⟨zs.take len, fun m hm => hwf m (List.mem_of_mem_take hm), fun g hg => ?_⟩
    have hlen : (zs.take len).length = len := by simp; omega
    refine ⟨some a', cap, by rw [List.length_map, hlen], by rw [List.length_map, hlen]; exact hl, (fun h => by cases h), ?_⟩
    by_cases h0 : len = 0
    · left; subst h0; simp
    · right
      have hz0 := hcell 0 (by omega)
      simp only [Addr.add, if_true] at hz0
      obtain ⟨hs, hb⟩ := cell_spot hz0
      refine ⟨a'.block, a'.off, by rw [← hs], hg _ hb, ?_⟩
      refine nRowsI_of fun i m hm => ?_
      have hi := (List.getElem?_eq_some_iff.1 hm).1
      rw [hlen] at hi
      have := hcell i (by omega)
      rw [hs, addr_add] at this
      rw [this]
      have h1 : zs[i]? = some m := by simpa [List.getElem?_take, hi] using hm
      simp [h1]
end

def ptsOf (xs : List (List Int)) : List Pt := xs.map fun c => ⟨c.getD 0 0, c.getD 1 0⟩

theorem pts_of {xs : List (List Int)} (h : ∀ c ∈ xs, c.length = 2) : xs.map eA = (ptsOf xs).map ep := by
  unfold ptsOf
  rw [List.map_map]
  refine List.map_congr_left fun c hc => ?_
  have := h c hc
  match c, this with
  | [x, y], _ => rfl
end Go.AM
