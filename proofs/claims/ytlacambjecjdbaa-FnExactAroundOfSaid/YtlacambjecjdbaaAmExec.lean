import Derived.Test.YtlacambjecjdbaaAmDraw
set_option linter.unusedVariables false
set_option linter.unusedSimpArgs false
set_option linter.unnecessarySimpa false
/-! Code. -/
namespace Go.AM

section
variable {P : Program} {T : TypeId → Option TI} {C : CF} {sh : FuncId → Bool} {r : AV × List Blk}

/-- all regions that draw their order may do so -/
noncomputable def codeOk (sh : FuncId → Bool) (keep : Nat → List (Tmp × Nat)) (c : Code) : Bool :=
  @Code.rec (fun _ => Bool) true (fun id ops d => bif d then drawB sh ops (keep (20000 + id)) else true) (fun _ _ a b => a && b) (fun _ _ _ a b => a && b) (fun _ _ b => b) (fun _ b => b)
    (fun _ _ _ _ a b => a && b) (fun _ => true) (fun _ a => a) (fun _ => true) (fun _ => true) true (fun _ => true) c

def exE : Ex → Exit
  | .normal => .normal
  | .exit i => .exit i
  | .ret => .ret

theorem wp_loop_n {c : Code} {Q : Exit → Act → World → Prop} (I : Nat → Act → World → Prop) (h0 : ∀ a w, ¬ I 0 a w) (round : ∀ n a w, I (n + 1) a w → c.wp P (Exit.then (I n) Q) a w) {n : Nat} {a : Act} {w : World} (h : I n a w) : (Code.loop c).wp P Q a w := by
  intro b k cs
  have key : ∀ n a w, I n a w → ∃ e a' w', Q e a' w' ∧ Arrives P (lone (b.at a (.code c :: .inLoop c :: k)) cs w) b k cs e a' w' := by
    intro n
    induction n with
    | zero => intro a w h; exact absurd h (h0 a w)
    | succ n ih =>
      intro a w hI
      obtain ⟨e, a₁, w₁, hq, harr⟩ := round n a w hI b (.inLoop c :: k) cs
      cases e with
      | normal =>
        obtain ⟨e₂, a₂, w₂, hq₂, harr₂⟩ := ih a₁ w₁ hq
        exact ⟨e₂, a₂, w₂, hq₂, .of_steps (Steps.trans harr (.one step_inLoop)) harr₂⟩
      | exit id => exact ⟨_, a₁, w₁, hq, .pass (x := .inLoop c) rfl (fun _ _ => .inl (by simp)) harr⟩
      | goto l => exact ⟨_, a₁, w₁, hq, .pass (x := .inLoop c) rfl (fun _ _ => .inl (by simp)) harr⟩
      | ret => exact ⟨_, a₁, w₁, hq, .pass (x := .inLoop c) rfl (fun _ _ => .inl (by simp)) harr⟩
      | panic ch => exact ⟨_, a₁, w₁, hq, .pass (x := .inLoop c) rfl (fun _ _ => .inl (by simp)) harr⟩
      | outgrown => exact ⟨_, a₁, w₁, hq, .pass (x := .inLoop c) rfl (fun _ _ => .inl (by simp)) harr⟩
  obtain ⟨e, a', w', hq, harr⟩ := key n a w h
  exact ⟨e, a', w', hq, .of_steps (.one step_loop) harr⟩

theorem exec_ok (hT : TOk P T) (hC : CSound P C) (hm : P.follows .mixedOrders = true) {p : Fp} {g0 : G} {H0 : List Blk} {w0 : World} (hg0 : ∀ τ, g0.dom τ → τ < p.b0) : ∀ (c : Code), codeOk sh p.keep c = true → ∀ (cur : Nat) (k : K) (tm : List AV) (hp : List Blk), exec T C sh p c cur k tm hp = some r →
    ∀ (g : G) (a : Act) (w : World), Trans g0 H0 w0 g hp w → RS g tm hp a w → ∀ Q : Exit → Act → World → Prop, (∀ e tm' hp' g' a' w', k e tm' hp' = some r → Trans g0 H0 w0 g' hp' w' → RS g' tm' hp' a' w' → Q (exE e) a' w') → c.wp P Q a w := by
  have canon : ∀ {ks : List (Tmp × Nat)} {tm : List AV} {hp : List Blk} {κ : List AV → List Blk → R}, canonK p.b0 ks tm hp κ = some r → ∀ (g : G) (a : Act) (w : World), Trans g0 H0 w0 g hp w → RS g tm hp a w →
      ∃ tm' hp' g', κ tm' hp' = some r ∧ Trans g0 H0 w0 g' hp' w ∧ RS g' tm' hp' a w := by
    intro ks tm hp κ h g a w ht hs
    obtain ⟨tm', hp', h1, h2⟩ := canon_ok h
    obtain ⟨g', k1, k2, k3, k4⟩ := h2 g0 H0 w0 g w _ hg0 ht hs.good hs.dom hs.tmps
    exact ⟨tm', hp', g', h1, k1, k2, k3, k4, hs.defers⟩
  intro c
  induction c with
  | skip => intro _ cur k tm hp h g a w ht hs Q hQ; exact wp_skip (hQ .normal tm hp g a w h ht hs)
  | region id ops d =>
    intro hok cur k tm hp h g a w ht hs Q hQ
    cases d with
    | false =>
      have h' : (opsK T C sh ops.toList ops.toList tm hp fun tm hp => k .normal tm hp) = some r := h
      obtain ⟨tms, hps, e1, e2, e3, e4⟩ := ops_ok hT hC h'
      subst e1; subst e2
      have hQ' : ∀ g' a' w', Trans g0 H0 w0 g' (hps ops.size) w' → RS g' (tms ops.size) (hps ops.size) a' w' → Q .normal a' w' := fun g' a' w' k1 k2 => hQ .normal _ _ g' a' w' (by simpa using e3) k1 k2
      refine wp_region ?_
      rw [List.range_eq_range']
      exact seq_ok e4 ops.size 0 (by omega) g a w ht hs hQ'
    | true =>
      have hok' : drawB sh ops (p.keep (20000 + id)) = true := hok
      have h' : (earlyK T C sh ops.toList (p.keep (20000 + id)) tm hp fun tm hp =>
          opsE T C sh ops.toList (p.keep (20000 + id)) (ldB ops.toList (p.keep (20000 + id))) hp.length 0 ops.toList tm hp fun tm hp => k .normal tm hp) = some r := h
      exact draw_ok hT hC hm hok' h' ht hs (hQ .normal)
  | seq x y ihx ihy =>
    intro hok cur k tm hp h g a w ht hs Q hQ
    have hok' : (codeOk sh p.keep x && codeOk sh p.keep y) = true := hok
    simp only [Bool.and_eq_true] at hok'
    have h' : exec T C sh p x cur (fun e tm hp => match e with | .normal => exec T C sh p y cur k tm hp | e => k e tm hp) tm hp = some r := h
    refine wp_seq (ihx hok'.1 cur _ tm hp h' g a w ht hs _ fun e tm' hp' g' a' w' h1 k1 k2 => ?_)
    cases e with
    | normal => exact ihy hok'.2 cur k tm' hp' h1 g' a' w' k1 k2 Q hQ
    | exit i => exact hQ (.exit i) tm' hp' g' a' w' h1 k1 k2
    | ret => exact hQ .ret tm' hp' g' a' w' h1 k1 k2
  | cond c x y ihx ihy =>
    intro hok cur k tm hp h g a w ht hs Q hQ
    have hok' : (codeOk sh p.keep x && codeOk sh p.keep y) = true := hok
    simp only [Bool.and_eq_true] at hok'
    cases c with
    | tmp t =>
      have h' : (getK tm t fun
        | .bool b => bif b then setK tm t (.bool true) fun tm => exec T C sh p x cur k tm hp else setK tm t (.bool false) fun tm => exec T C sh p y cur k tm hp
        | _ => none) = some r := h
      obtain ⟨u, hu, h1⟩ := getK_some h'
      split at h1
      · rename_i b
        have hv := (hs.tmps.get hu).2
        have he : a.eval (.tmp t) = .bool b := V3_bool.1 hv
        have hset : tm.set t (.bool b) = tm := by
          have := (List.getElem?_eq_some_iff.1 hu)
          rw [← this.2]
          exact List.set_getElem_self _
        refine wp_cond he ?_
        rcases cond_some h1 with ⟨rfl, h2⟩ | ⟨rfl, h2⟩
        · rw [setK_eq, hset] at h2
          exact ihx hok'.1 cur k tm hp h2 g a w ht hs Q hQ
        · rw [setK_eq, hset] at h2
          exact ihy hok'.2 cur k tm hp h2 g a w ht hs Q hQ
      · cases h1
    | const _ => cases h
    | global _ => cases h
    | func _ => cases h
  | block id b ih =>
    intro hok cur k tm hp h g a w ht hs Q hQ
    have h' : exec T C sh p b id (fun e tm hp => match e with
      | .exit i => bif Nat.beq i id then canonK p.b0 (p.keep (1000 + id)) tm hp fun tm hp => k .normal tm hp else k (.exit i) tm hp
      | .normal => canonK p.b0 (p.keep (1000 + id)) tm hp fun tm hp => k .normal tm hp
      | e => k e tm hp) tm hp = some r := h
    refine wp_block (ih hok id _ tm hp h' g a w ht hs _ fun e tm' hp' g' a' w' h1 k1 k2 => ?_)
    cases e with
    | normal =>
      obtain ⟨tm2, hp2, g2, q1, q2, q3⟩ := canon h1 g' a' w' k1 k2
      exact hQ .normal tm2 hp2 g2 a' w' q1 q2 q3
    | exit i =>
      simp only [exE, Exit.inBlock]
      simp only at h1
      rcases cond_some h1 with ⟨he, h2⟩ | ⟨he, h2⟩
      · rw [if_pos (beq_eq he)]
        obtain ⟨tm2, hp2, g2, q1, q2, q3⟩ := canon h2 g' a' w' k1 k2
        exact hQ .normal tm2 hp2 g2 a' w' q1 q2 q3
      · have hne : ¬ i = id := fun e => by subst e; simp at he
        rw [if_neg hne]
        exact hQ (.exit i) tm' hp' g' a' w' h2 k1 k2
    | ret => exact hQ .ret tm' hp' g' a' w' h1 k1 k2
  | loop b ih =>
    intro hok cur k tm hp h g a w ht hs Q hQ
    have h' : (canonK p.b0 (p.keep cur) tm hp fun tm hp => iterK (exec T C sh p b cur) (canonK p.b0 (p.keep cur)) k p.L tm hp) = some r := h
    obtain ⟨tm1, hp1, g1, q1, q2, q3⟩ := canon h' g a w ht hs
    refine wp_loop_n (fun n a w => ∃ tm hp g, iterK (exec T C sh p b cur) (canonK p.b0 (p.keep cur)) k n tm hp = some r ∧ Trans g0 H0 w0 g hp w ∧ RS g tm hp a w) (fun a w => ?_) (fun n a w => ?_) (n := p.L) ⟨tm1, hp1, g1, q1, q2, q3⟩
    · rintro ⟨tm, hp, g, h1, _⟩
      cases h1
    · rintro ⟨tm, hp, g, h1, h2, h3⟩
      have h1' : exec T C sh p b cur (fun e tm hp => match e with
        | .normal => canonK p.b0 (p.keep cur) tm hp fun tm hp => iterK (exec T C sh p b cur) (canonK p.b0 (p.keep cur)) k n tm hp
        | e => k e tm hp) tm hp = some r := h1
      refine ih hok cur _ tm hp h1' g a w h2 h3 _ fun e tm' hp' g' a' w' h4 k1 k2 => ?_
      cases e with
      | normal =>
        obtain ⟨tm2, hp2, g2, p1, p2, p3⟩ := canon h4 g' a' w' k1 k2
        exact ⟨tm2, hp2, g2, p1, p2, p3⟩
      | exit i => exact hQ (.exit i) tm' hp' g' a' w' h4 k1 k2
      | ret => exact hQ .ret tm' hp' g' a' w' h4 k1 k2
  | rangeFunc => intro _ cur k tm hp h; cases h
  | exit id => intro _ cur k tm hp h g a w ht hs Q hQ; exact wp_exit (hQ (.exit id) tm hp g a w h ht hs)
  | scope => intro _ cur k tm hp h; cases h
  | label => intro _ cur k tm hp h; cases h
  | goto => intro _ cur k tm hp h; cases h
  | ret => intro _ cur k tm hp h g a w ht hs Q hQ; exact wp_ret (hQ .ret tm hp g a w h ht hs)
  | refuse => intro _ cur k tm hp h; cases h
end
end Go.AM
