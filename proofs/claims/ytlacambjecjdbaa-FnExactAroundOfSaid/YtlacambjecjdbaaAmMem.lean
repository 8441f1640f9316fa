import Derived.Test.YtlacambjecjdbaaAmLen
set_option linter.unusedVariables false
set_option linter.unusedSimpArgs false
set_option linter.unnecessarySimpa false
/-! New memory: variables, rows. -/
namespace Go.AM

section
variable {P : Program} {T : TypeId → Option TI} {o : Oper} {tm : List AV} {hp : List Blk} {κ : AV → List Blk → R} {r : AV × List Blk}

theorem Trans.heap {g : G} {H : List Blk} {w w' : World} (h : w'.heap = w.heap) (he : Env w w') : Trans g H w g H w' where
  dom _ h := h
  ρ _ _ := rfl
  S _ h := h
  Sl _ h := h
  newS _ h := .inl h
  newSl _ h := .inl h
  size := by rw [h]; exact Nat.le_refl _
  shape := fun b cs el fr hb => ⟨cs, by rw [h]; exact hb, rfl⟩
  env := he
  prot _ _ _ := by rw [h]
  own _ h := .inr h
  len τ _ m E xs h hm := ⟨m, xs, h, hm, rfl⟩
  box τ _ y h := ⟨y, h⟩

theorem Good.heap {g : G} {H : List Blk} {w w' : World} (h : w'.heap = w.heap) (he : Env w w') (hg : Good g H w) : Good g H w' where
  sub := hg.sub
  lt b hb := by rw [h]; exact hg.lt b hb
  tok x hx := by
    obtain ⟨blk, hb, hr⟩ := hg.tok x hx
    exact ⟨blk, hb, hr.trans (Trans.heap h he) hg hx fun b o hρ ho => ⟨by rw [h], (Own.notS hg ⟨x, o, hx, hρ, owned_of hb ho⟩)⟩⟩
  inj := hg.inj

theorem V1_one {g : G} {H : List Blk} {w : World} {x : AV} {v : Value} (h : V1 g H w x v) : v.cells = #[v] ∧ v.oneCell' = true := by
  cases x <;> simp only [V1, PCell] at h
  case own τ E r c =>
    obtain ⟨_, h⟩ := h
    cases hρ : g.ρ τ with
    | none => simp only [hρ] at h; obtain ⟨⟨A, rfl⟩, _⟩ := h; exact ⟨rfl, rfl⟩
    | some p => simp only [hρ] at h; obtain ⟨k, o, l, cap, rfl, _⟩ := h; exact ⟨rfl, rfl⟩
  case ptr τ i o E => obtain ⟨_, _, b, base, n, _, _, rfl⟩ := h; exact ⟨rfl, rfl⟩
  case «at» x o => obtain ⟨b, off, rfl, _⟩ := h; exact ⟨rfl, rfl⟩
  case nil => obtain ⟨A, rfl⟩ := h; exact ⟨rfl, rfl⟩
  case lst o c E xs => obtain ⟨A, cap, rfl, _⟩ := h; exact ⟨rfl, rfl⟩
  all_goals (subst h; exact ⟨rfl, rfl⟩)

theorem V2_cells {g : G} {H : List Blk} {w : World} {x : AV} {v : Value} (h : V2 g H w x v) : All2 (V1 g H w) (cells x) v.cells.toList := by
  cases x with
  | agg cs => obtain ⟨vs, rfl, h⟩ := h; exact h
  | _ =>
    simp only [V2] at h
    rw [(V1_one h).1]
    exact ⟨h, trivial⟩

theorem All2_len {R : AV → Value → Prop} : ∀ {xs : List AV} {vs : List Value}, All2 R xs vs → xs.length = vs.length
  | [], [], _ => rfl
  | _ :: _, _ :: _, h => by simp [All2_len h.2]
  | [], _ :: _, h => h.elim
  | _ :: _, [], h => h.elim

theorem All2_V1s {g : G} {H : List Blk} {w : World} {b : Nat} : ∀ {xs : List AV} {vs : List Value} {k : Nat}, All2 (V1 g H w) xs vs → (∀ (j : Nat) v, vs[j]? = some v → w.cell? ⟨b, k + j, none⟩ = some v) → V1s g H w xs b k
  | [], _, _, _, _ => trivial
  | x :: xs, v :: vs, k, h, hc => ⟨⟨v, by simpa using hc 0 v rfl, h.1⟩, All2_V1s h.2 fun j u hj => by
      have := hc (j + 1) u (by simpa using hj)
      rwa [show k + (j + 1) = k + 1 + j by omega] at this⟩
  | _ :: _, [], _, h, _ => h.elim

theorem boxK_some {v : AV} {κ : AV → R} (h : boxK v κ = some r) : κ v = some r ∧ (∀ g H w u, V3 g H w v u → V2 g H w v u) ∧ v ≠ .top := by
  cases v <;> simp only [boxK] at h <;> first
    | (cases h; done)
    | exact ⟨h, fun _ _ _ _ h => h, by simp⟩

theorem cell_push {w w1 : World} {cs : Array Value} {el : TypeId} (h : w1.heap = w.heap.push (.cells cs el)) (j : Nat) : w1.cell? ⟨w.heap.size, j, none⟩ = cs[j]? := by
  simp [World.cell?, h]

theorem unf_push {w w1 : World} {cs : Array Value} {el : TypeId} (h : w1.heap = w.heap.push (.cells cs el)) {n : Nat} (hn : n ≤ cs.size) : Unf w1 w.heap.size n :=
  ⟨cs, el, by simp [h], hn⟩

theorem Trans.push {g : G} {H : List Blk} {w w1 : World} {τ : Nat} (hg : Good g H w) (hτ : ¬ g.dom τ) {cs : Array Value} {el : TypeId} (h : w1.heap = w.heap.push (.cells cs el)) (he : Env w w1) :
    Trans g H w (g.add τ (some (w.heap.size, 0))) H w1 :=
  (Trans.new hg hτ (cs := cs) (el := el)).trans (Trans.heap h he)

theorem Good.push {g : G} {H : List Blk} {w w1 : World} {τ : Nat} (hg : Good g H w) (hτ : ¬ g.dom τ) {cs : Array Value} {el : TypeId} (h : w1.heap = w.heap.push (.cells cs el)) (he : Env w w1)
    {blk : Blk} (hb : H[τ]? = some blk) (hr : BlkRel (g.add τ (some (w.heap.size, 0))) H w1 τ blk) : Good (g.add τ (some (w.heap.size, 0))) H w1 where
  sub := hg.sub
  lt b hb := by rw [h]; simp; have := hg.lt b hb; omega
  tok x hx := by
    by_cases e : x = τ
    · subst e; exact ⟨blk, hb, hr⟩
    · have hx := hx.resolve_right e
      obtain ⟨blk', hb', hr'⟩ := hg.tok x hx
      refine ⟨blk', hb', BlkRel.trans (Trans.push hg hτ h he) hg hx (fun b o hρ ho => ?_) hr'⟩
      have hO : Own g H b := ⟨x, o, hx, hρ, owned_of hb' ho⟩
      have := hO.lt hg
      exact ⟨by rw [h, Array.getElem?_push, if_neg (by omega)], hO.notS hg⟩
  inj x y b o o' hx hy h1 h2 h3 h4 := by
    by_cases ex : x = τ
    · subst ex
      by_cases ey : y = x
      · exact ey.symm
      · simp [G.add] at h1
        simp [G.add, ey] at h2
        have hO : Own g H b := ⟨y, o', hy.resolve_right ey, h2, h4⟩
        have := hO.lt hg
        omega
    · by_cases ey : y = τ
      · subst ey
        simp [G.add] at h2
        simp [G.add, ex] at h1
        have hO : Own g H b := ⟨x, o, hx.resolve_right ex, h1, h3⟩
        have := hO.lt hg
        omega
      · simp [G.add, ex] at h1
        simp [G.add, ey] at h2
        exact hg.inj x y b o o' (hx.resolve_right ex) (hy.resolve_right ey) h1 h2 h3 h4

theorem prefix_last {α : Type} {xs ys : List α} {x : α} (h : xs ++ [x] <+: ys) : ys[xs.length]? = some x := prefix_get h (by simp)

theorem G.add_ρ {g : G} {τ : Nat} {p : Option (Nat × Nat)} : (g.add τ p).ρ τ = p := by simp [G.add]
theorem G.add_dom {g : G} {τ : Nat} {p : Option (Nat × Nat)} : (g.add τ p).dom τ := .inr rfl

/-- one new block -/
theorem opN_new {v : AV} {blk : Blk} (h : ∀ (a : Act) (w : World) (g : G) (H : List Blk), hp ++ [blk] <+: H → (∀ x ∈ o.op.operands, ∀ u, evD tm x = some u → V3 g H w u (a.eval x)) → Good g H w →
      ¬ g.dom hp.length → ∃ vv cs el w1, (execOp a.eval o).run P w = .ok (.value vv) w1 ∧ w1.heap = w.heap.push (.cells cs el) ∧ Env w w1 ∧
        ∀ g', g' = g.add hp.length (some (w.heap.size, 0)) → Trans g H w g' H w1 → BlkRel g' H w1 hp.length blk ∧ V3 g' H w1 v vv) : OpN P o tm hp v (hp ++ [blk]) := by
  refine ⟨List.prefix_append _ _, fun Q a w g H N hH hd hx hg hN => ?_⟩
  have hτ : ¬ g.dom hp.length := fun hh => by
    have := hd _ hh
    simp at this
    omega
  obtain ⟨vv, cs, el, w1, hr, hw, hen, hall⟩ := h a w g H hH hx hg hτ
  have ht := Trans.push hg hτ hw hen
  obtain ⟨hb, hv⟩ := hall _ rfl ht
  simp only [Oper.wp, hr, Oper.upon]
  refine hN vv w1 _ (fun b hb => by rw [hw, Array.getElem?_push, if_neg (by omega)]) ht (Good.push hg hτ hw hen (prefix_last hH) hb) (fun τ => ?_) hv (fun τ h1 h2 b o hρ => ?_)
  rotate_left
  · simp only [List.length_append, List.length_singleton] at h2
    obtain rfl : τ = hp.length := by omega
    rw [G.add_ρ] at hρ
    cases hρ
    exact Nat.le_refl _
  simp only [G.add, List.length_append, List.length_singleton]
  constructor
  · rintro (h | h)
    · exact .inl h
    · exact .inr (by omega)
  · rintro (h | h)
    · exact .inl h
    · exact .inr (by omega)

/-- the same without memory -/
theorem opN_null {v : AV} {E : Nat} (h : ∀ (a : Act) (w : World) (g : G) (H : List Blk), hp ++ [.rows .live E []] <+: H → (∀ x ∈ o.op.operands, ∀ u, evD tm x = some u → V3 g H w u (a.eval x)) → Good g H w →
      ¬ g.dom hp.length → ∃ vv, (execOp a.eval o).run P w = .ok (.value vv) w ∧ ∀ g', g' = g.add hp.length none → V3 g' H w v vv) : OpN P o tm hp v (hp ++ [.rows .live E []]) := by
  refine ⟨List.prefix_append _ _, fun Q a w g H N hH hd hx hg hN => ?_⟩
  have hτ : ¬ g.dom hp.length := fun hh => by
    have := hd _ hh
    simp at this
    omega
  obtain ⟨vv, hr, hall⟩ := h a w g H hH hx hg hτ
  simp only [Oper.wp, hr, Oper.upon]
  refine hN vv w _ (fun b hb => rfl) (Trans.null hτ) (Good.null hg hτ (prefix_last hH)) (fun τ => ?_) (hall _ rfl) (fun τ h1 h2 b o hρ => ?_)
  rotate_left
  · simp only [List.length_append, List.length_singleton] at h2
    obtain rfl : τ = hp.length := by omega
    rw [G.add_ρ] at hρ
    cases hρ
  simp only [G.add, List.length_append, List.length_singleton]
  constructor
  · rintro (h | h)
    · exact .inl h
    · exact .inr (by omega)
  · rintro (h | h)
    · exact .inl h
    · exact .inr (by omega)

theorem newVar_run {w : World} {t : TypeId} {v : Value} : (newVar t v).run P w = .ok ⟨w.heap.size, 0, none⟩ (w.alloc (.cells v.cells t)) := by
  simp [newVar, newRow]

theorem ptr_box {g : G} {H : List Blk} {w : World} {τ E b : Nat} (hd : g.dom τ) (hρ : g.ρ τ = some (b, 0)) : V3 g H w (.ptr τ 0 0 E) (.pointer (some ⟨b, 0, none⟩)) :=
  ⟨hd, fun _ _ => rfl, b, 0, 0, hρ, rfl, by simp⟩


theorem box_blk {g : G} {H : List Blk} {w w1 : World} {τ : Nat} {v : AV} {vv : Value} {el : TypeId} (hg : Good g H w) (hw : w1.heap = w.heap.push (.cells vv.cells el)) {g' : G} (hg' : g' = g.add τ (some (w.heap.size, 0)))
    (hv : V2 g' H w1 v vv) : BlkRel g' H w1 τ (.box v) := by
  subst hg'
  refine ⟨w.heap.size, 0, G.add_ρ, fun h => ?_, unf_push hw (Nat.zero_le _), ?_⟩
  · have := hg.lt _ h; omega
  · refine All2_V1s (V2_cells hv) fun j u hj => ?_
    rw [Nat.zero_add, cell_push hw]
    simpa using hj

theorem alloc_step (hT : TOk P T) {t : TypeId} (ho : o.op = .alloc t) (h : (tyK T t fun E _ _ z _ => boxK z fun z => snocK hp (.box z) 0 fun n hp => κ (.ptr n 0 0 E) hp) = some r) :
    StepN P o tm hp κ r := by
  obtain ⟨E, a1, b1, z, d1, hs, h⟩ := tyK_some h
  obtain ⟨h, hz, hz2⟩ := boxK_some h
  rw [snocK_eq, Nat.zero_add] at h
  refine ⟨_, _, h, opN_new fun a w g H hH hh hg hτ => ?_⟩
  obtain ⟨zv, h1, h2, h3⟩ := (hT _ _ _ _ _ _ hs).zeroValue (w := w) hz2
  refine ⟨.pointer (some ⟨w.heap.size, 0, none⟩), zv.cells, t, w.alloc (.cells zv.cells t), ?_, rfl, .refl w, fun g' hg' ht => ⟨box_blk hg rfl hg' (h3 _ _ _), ?_⟩⟩
  · simp only [execOp, ho, Instr.alloc, Sem.run_bind, h1, Result.andThen_ok, newVar_run, Sem.run_pure]
  · subst hg'; exact ptr_box G.add_dom G.add_ρ

theorem box_step {t : TypeId} {x : Operand} (ho : o.op = .box t x) (h : (tyK T t fun E _ _ _ _ => evK tm x fun v => boxK v fun v => snocK hp (.box v) 0 fun n hp => κ (.ptr n 0 0 E) hp) = some r) :
    StepN P o tm hp κ r := by
  obtain ⟨E, a1, b1, z, d1, hs, h⟩ := tyK_some h
  obtain ⟨v, hv, h⟩ := evK_some h
  obtain ⟨h, hz, hz2⟩ := boxK_some h
  rw [snocK_eq, Nat.zero_add] at h
  refine ⟨_, _, h, opN_new fun a w g H hH hh hg hτ => ?_⟩
  have h1 := hz _ _ _ _ (hh x (by simp [ho, Op.operands]) _ hv)
  refine ⟨.pointer (some ⟨w.heap.size, 0, none⟩), (a.eval x).cells, t, w.alloc (.cells (a.eval x).cells t), ?_, rfl, .refl w, fun g' hg' ht => ⟨box_blk hg rfl hg' (h1.trans ht hg), ?_⟩⟩
  · simp only [execOp, ho, Instr.box, Sem.run_bind, Result.andThen_ok, newVar_run, Sem.run_pure]
  · subst hg'; exact ptr_box G.add_dom G.add_ρ
end
end Go.AM
