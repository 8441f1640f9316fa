import Derived.OrdersHeld
import Derived.DataReads
import Derived.ChangeArms
import Derived.ChangeSlices
import Derived.Below
import Derived.Shelf.SlSortCmp.NoneTotal
import Derived.WideShapes
import Derived.Test.YtjedbgbiamndnaaGreatAmB
set_option linter.unusedVariables false
set_option linter.unusedSimpArgs false
set_option linter.unnecessarySimpa false
set_option linter.deprecated false
set_option linter.unusedSectionVars false
namespace Go.AM
section
variable {P : Program} {T : TypeId → Option TI} {o : Oper} {tm : List AV} {hp : List Blk} {κ : AV → List Blk → R} {r : AV × List Blk}
theorem Trans.spare {g : G} {H : List Blk} {w w1 : World} {ob : Obj} (hw : w1.heap = w.heap.push ob) (he : Env w w1) : Trans g H w g H w1 where
  dom _ h := h
  ρ _ _ := rfl
  S _ h := h
  Sl _ h := h
  newS _ h := .inl h
  newSl _ h := .inl h
  size := by rw [hw]; simp
  shape := fun b cs el fr h => by
    have hb : b < w.heap.size := by
      rcases Nat.lt_or_ge b w.heap.size with h' | h'
      · exact h'
      · simp [Array.getElem?_eq_none h'] at h
    exact ⟨cs, by rw [hw, Array.getElem?_push_lt hb, ← Array.getElem?_eq_getElem hb]; exact h, rfl⟩
  env := he
  prot b hb _ := by rw [hw, Array.getElem?_push_lt hb, Array.getElem?_eq_getElem hb]
  own _ h := .inr h
  len τ _ m E xs h hm := ⟨m, xs, h, hm, rfl⟩
  box τ _ y h := ⟨y, h⟩
theorem Good.spare {g : G} {H : List Blk} {w w1 : World} {ob : Obj} (hg : Good g H w) (hw : w1.heap = w.heap.push ob) (he : Env w w1) : Good g H w1 where
  sub := hg.sub
  lt b h := by rw [hw]; have := hg.lt b h; simp; omega
  tok τ hτ := by
    obtain ⟨blk, h1, h2⟩ := hg.tok τ hτ
    refine ⟨blk, h1, BlkRel.trans (Trans.spare hw he) hg hτ (fun b o hρ ho => ⟨?_, Own.notS hg ⟨τ, o, hτ, hρ, owned_of h1 ho⟩⟩) h2⟩
    have hb := Own.lt hg ⟨τ, o, hτ, hρ, owned_of h1 ho⟩
    rw [hw, Array.getElem?_push_lt hb, Array.getElem?_eq_getElem hb]
  inj := hg.inj
theorem empty_step (hT : TOk P T) {t : TypeId} {ps : Array (Nat × Operand)} (ho : o.op = .buildSlice t 0 ps) (hps : ps.toList = []) {e : TypeId} {s1 : Nat} {a1 : Bool} {b1 : Nat} {z1 : AV} (hs : T t = some (.mk s1 a1 b1 z1 (.slice e))) {E : Nat} {a2 : Bool} {b2 : Nat} {z : AV} {d2 : TD} (he : T e = some (.mk E a2 b2 z d2))
    (h : κ (.lst false true E []) hp = some r) : StepN P o tm hp κ r := by
  have hp0 : ps = #[] := by rw [← Array.toList_inj]; exact hps
  subst hp0
  refine ⟨_, hp, h, List.prefix_refl _, fun Q a w g H N hH hd hh hg hN => ?_⟩
  obtain ⟨u, hu, _, hr⟩ := (hT _ _ _ _ _ _ hs).underlying (w := w)
  simp only [DRel] at hr
  subst hr
  have hsz := (hT _ _ _ _ _ _ he).sizeOf (w := w)
  have hrun : (execOp a.eval o).run P w = .ok (.value (.slice (some ⟨w.heap.size, 0, none⟩) 0 0)) (w.alloc (.cells #[] e)) := by
    simp [execOp, ho, Instr.buildSlice, hu, hsz, Instr.fill, newRow]
    try (congr 2; apply Array.ext'; simp)
  simp only [Oper.wp, hrun, Oper.upon]
  refine hN _ _ g (fun b hb => heap_alloc_old hb) (Trans.spare rfl (.refl w)) (hg.spare rfl (.refl w)) (fun τ => ⟨.inl, fun h => h.resolve_right (by omega)⟩) ?_ (fun τ h1 h2 => by omega)
  exact ⟨some ⟨w.heap.size, 0, none⟩, 0, rfl, Nat.le_refl _, fun _ => rfl, .inl rfl⟩
theorem one_step (hT : TOk P T) {t : TypeId} {ps : Array (Nat × Operand)} {x : Operand} (ho : o.op = .buildSlice t 1 ps) (hps : ps.toList = [(0, x)]) {e : TypeId} {s1 : Nat} {a1 : Bool} {b1 : Nat} {z1 : AV} (hs : T t = some (.mk s1 a1 b1 z1 (.slice e))) {E : Nat} {a2 : Bool} {b2 : Nat} {z : AV} {d2 : TD} (he : T e = some (.mk E a2 b2 z d2))
    {v v' : AV} (hE : E ≤ 16777216) (hz : z ≠ .top) (hv : evD tm x = some v) (hl : (cells v).length = E) (hzl : (cells v').length = (cells v).length) (hpe : ∀ (g : G) (H : List Blk) (w : World) (u : Value), V2 g H w v u → PE g w v' u) (hvz : ∀ g H w u, V3 g H w v u → V2 g H w v u)
    (h : κ (.own hp.length E none false) (hp ++ [.rows .live E [v']]) = some r) : StepN P o tm hp κ r := by
  have hp0 : ps = #[(0, x)] := by rw [← Array.toList_inj]; exact hps
  subst hp0
  refine ⟨_, _, h, opN_new fun a w g H hH hh hg hτ => ?_⟩
  have hx := hvz _ _ _ _ (hh x (by rw [ho]; simp [Op.operands]) v hv)
  obtain ⟨u, hu, _, hr⟩ := (hT _ _ _ _ _ _ hs).underlying (w := w)
  simp only [DRel] at hr
  subst hr
  have hsz := (hT _ _ _ _ _ _ he).sizeOf (w := w)
  have hpx := hpe _ _ _ _ hx
  have hcs : (a.eval x).cells.size = E := by
    have := All2_len hpx
    rw [hzl, hl] at this
    simpa using this.symm
  obtain ⟨zv, e1, e2, e3⟩ := (hT _ _ _ _ _ _ he).zeroValue (w := w) hz
  have hfill : ∀ cs : Array Value, cs.size = E → Instr.fill (fun i => some (i * E, E)) cs [(0, a.eval x)] = some (a.eval x).cells := fun cs hs0 => by
    rw [fill_one (off := 0) (size := E) (by simp) hcs (by rw [hcs, hs0]; omega)]
    simp only [Instr.fill]
    congr 1
    apply Array.ext'
    have : cs.toList.drop (a.eval x).cells.toList.length = [] := List.drop_of_length_le (by simp; omega)
    simp only [splice, List.take_zero, List.nil_append, Nat.zero_add, this, List.append_nil]
  have hrun : (execOp a.eval o).run P w = .ok (.value (.slice (some ⟨w.heap.size, 0, none⟩) 1 1)) (w.alloc (.cells (a.eval x).cells e)) := by
    simp only [execOp, ho, Instr.buildSlice, Sem.run_bind, hu, Result.andThen_ok, hsz]
    rw [if_neg (by omega)]
    by_cases h0 : 1 * E = 0
    · have h5 := hfill ((Array.range (1 * E)).map (fun j => (#[] : Array Value)[j % (#[] : Array Value).size]!)) (by simp)
      simp only [h0, if_true, Sem.run_bind, Sem.run_pure, Result.andThen_ok]
      rw [h0] at h5
      simp only [Array.toList_map, List.map_cons, List.map_nil, h5]
      simp [newRow]
    · have h5 := hfill ((Array.range (1 * E)).map (fun j => zv.cells[j % zv.cells.size]!)) (by simp)
      simp only [h0, if_false, Sem.run_bind, Sem.run_pure, Result.andThen_ok, e1]
      simp only [Array.toList_map, List.map_cons, List.map_nil, h5]
      simp [newRow]
  refine ⟨_, (a.eval x).cells, e, _, hrun, rfl, .refl w, fun g' hg' ht => ?_⟩
  subst hg'
  have hpl : PFlat (g.add hp.length (some (w.heap.size, 0))) (w.alloc (.cells (a.eval x).cells e)) E [v'] (a.eval x).cells.toList := by
    refine PFlat.trans (g := g) (H := H) (w := w) ht hg ?_
    simp only [PFlat]
    exact ⟨_, [], by simp, by rw [hzl, hl], hpx, rfl⟩
  refine ⟨.inr ⟨w.heap.size, 0, G.add_ρ, fun h => ?_, unf_push rfl (Nat.zero_le _), hpl.rows fun j v hj => ?_⟩, ?_⟩
  · have := hg.lt _ h; omega
  · rw [Nat.zero_add, cell_push rfl, ← Array.getElem?_toList]; exact hj
  · exact own_new (E := E) (n := 1) (xs := [v']) (c := false) hH (G.add_dom (g := g) (p := some (w.heap.size, 0))) G.add_ρ (by simp) (by simp) (unf_push rfl (by rw [hcs]; omega))
theorem elemsP_ok {E : Nat} : ∀ {ps : List (Nat × Operand)} {xs : List AV} {κ : List AV → R}, elemsP E tm ps xs κ = some r →
      ∃ xs', κ xs' = some r ∧ xs'.length = xs.length ∧ ∀ (g : G) (H : List Blk) (w : World) (a : Act),
        (∀ x ∈ ps.map (·.2), ∀ u, evD tm x = some u → V3 g H w u (a.eval x)) → ∀ vs : List Value, PFlat g w E xs vs →
          ∃ vs', Instr.fill (fun i => some (i * E, E)) vs.toArray (ps.map fun (i, x) => (i, a.eval x)) = some vs'.toArray ∧ PFlat g w E xs' vs'
  | [], xs, κ, h => ⟨xs, h, rfl, fun g H w a _ vs hv => ⟨vs, rfl, hv⟩⟩
  | (i, x) :: l, xs, κ, h => by
    simp only [elemsP] at h
    obtain ⟨v, hv, h⟩ := evK_some h
    rw [lenK_eq, Nat.zero_add] at h
    obtain ⟨hE, h⟩ := beqE_some h
    rw [lenK_eq, Nat.zero_add] at h
    obtain ⟨hi, h'⟩ := cond_none h
    have hi := Nat.le_of_ble_eq_true hi
    obtain ⟨_, _, _, _, hV, _⟩ := pur_ok h'
    obtain ⟨v', h, hzl, _, hpe⟩ := purz_ok h'
    rw [setK_eq] at h
    obtain ⟨xs', h, h3, h4⟩ := elemsP_ok h
    refine ⟨xs', h, by simpa using h3, fun g H w a hh vs hvs => ?_⟩
    have hx := hV _ _ _ _ (hh x (by simp) v hv)
    have hp1 := hpe _ _ _ _ hx
    have hps := PFlat.set (i := i) (hzl.trans hE) hp1 hvs (by omega)
    obtain ⟨vs', h5, h6⟩ := h4 g H w a (fun y hy u hu => hh y (by simp at hy ⊢; exact .inr hy) u hu) _ hps
    refine ⟨vs', ?_, h6⟩
    have hsz : (a.eval x).cells.size = E := by
      have := All2_len hp1
      rw [hzl, hE] at this
      simpa using this.symm
    have hle : (i + 1) * E ≤ xs.length * E := Nat.mul_le_mul_right _ hi
    rw [List.map_cons, fill_one (off := i * E) (size := E) rfl hsz (by rw [hsz]; simp only [List.size_toArray]; rw [hvs.len, ← Nat.succ_mul]; exact hle)]
    exact h5
theorem many_step (hT : TOk P T) {t : TypeId} {n : Nat} {ps : Array (Nat × Operand)} (ho : o.op = .buildSlice t n ps) {e : TypeId} {s1 : Nat} {a1 : Bool} {b1 : Nat} {z1 : AV} (hs : T t = some (.mk s1 a1 b1 z1 (.slice e))) {E : Nat} {a2 : Bool} {b2 : Nat} {z : AV} {d2 : TD} (he : T e = some (.mk E a2 b2 z d2))
    (h : (bif Nat.ble (n * E) 16777216 then purK [] z fun z _ => repK n z fun xs => elemsP E tm ps.toList xs fun xs => snocK hp (.rows .live E xs) 0 fun n hp => κ (.own n E none false) hp else none) = some r) : StepN P o tm hp κ r := by
  obtain ⟨hn, h⟩ := cond_none h
  have hn := Nat.le_of_ble_eq_true hn
  obtain ⟨z', h, hzl, hz, hpe⟩ := purz_ok h
  rw [repK_eq] at h
  obtain ⟨xs, h, h2, h3⟩ := elemsP_ok h
  rw [snocK_eq, Nat.zero_add] at h
  refine ⟨_, _, h, opN_new fun a w g H hH hh hg hτ => ?_⟩
  obtain ⟨u, hu, _, hr⟩ := (hT _ _ _ _ _ _ hs).underlying (w := w)
  simp only [DRel] at hr
  subst hr
  obtain ⟨zv, e1, e2, e3⟩ := (hT _ _ _ _ _ _ he).zeroValue (w := w) hz
  have hsz := (hT _ _ _ _ _ _ he).sizeOf (w := w)
  have hpl : PFlat g w E (List.replicate n z') (List.replicate n zv.cells.toList).flatten := by
    refine PFlat.rep ?_ (hpe _ [] _ zv (e3 _ _ _)) _
    have := All2_len (V2_cells (e3 g H w))
    rw [hzl, this]; simpa using e2
  obtain ⟨vs', h5, h6⟩ := h3 g H w a (fun x hx => hh x (by rw [ho]; simp [Op.operands]; simpa using hx)) _ hpl
  have hcells : ((Array.range (n * E)).map (fun j => (if n * E = 0 then #[] else zv.cells)[j % (if n * E = 0 then #[] else zv.cells).size]!)) = (List.replicate n zv.cells.toList).flatten.toArray := by
    apply Array.ext'
    by_cases h0 : n * E = 0
    · rw [if_pos h0, h0]
      rcases Nat.mul_eq_zero.1 h0 with h0 | h0
      · simp [h0]
      · have : zv.cells.toList = [] := List.eq_nil_of_length_eq_zero (by simpa [e2] using h0)
        rw [this]; simp
    · rw [if_neg h0]
      have := flat_rep (zero := zv.cells) (n := n) (.inl (by rw [e2]; exact Nat.pos_of_ne_zero fun h => h0 (by rw [h]; simp)))
      rw [e2] at this
      rw [e2]
      exact this
  rw [← hcells] at h5
  have hrun : (execOp a.eval o).run P w = .ok (.value (.slice (some ⟨w.heap.size, 0, none⟩) n n)) (w.alloc (.cells vs'.toArray e)) := by
    simp only [execOp, ho, Instr.buildSlice, Sem.run_bind, hu, Result.andThen_ok, hsz]
    rw [if_neg (by omega)]
    have h5' : Instr.fill (fun i => some (i * E, E)) (Array.map (fun x => (if n * E = 0 then #[] else zv.cells)[x % (if n * E = 0 then #[] else zv.cells).size]!) (Array.range (n * E))) (ps.map fun (i, x) => (i, a.eval x)).toList = some vs'.toArray := by
      rw [Array.toList_map]; exact h5
    by_cases h0 : n * E = 0
    · simp only [h0, if_true] at h5' ⊢
      simp only [Sem.run_bind, Sem.run_pure, Result.andThen_ok, h5']
      simp [newRow]
    · simp only [h0, if_false] at h5' ⊢
      simp only [Sem.run_bind, Sem.run_pure, Result.andThen_ok, e1, h5']
      simp [newRow]
  refine ⟨_, vs'.toArray, e, _, hrun, rfl, .refl w, fun g' hg' ht => ?_⟩
  subst hg'
  have hp2 := PFlat.trans (g := g) (H := H) (w := w) ht hg h6
  refine ⟨.inr ⟨w.heap.size, 0, G.add_ρ, fun h => ?_, unf_push rfl (Nat.zero_le _), hp2.rows fun j v hj => ?_⟩, ?_⟩
  · have := hg.lt _ h; omega
  · rw [Nat.zero_add, cell_push rfl]; simpa using hj
  · have hl : xs.length = n := by rw [h2]; simp
    have := own_new (E := E) (n := n) (xs := xs) (c := false) hH (G.add_dom (g := g) (p := some (w.heap.size, 0))) G.add_ρ (by omega) (by simp) (w := w.alloc (.cells vs'.toArray e)) (unf_push rfl (by simp; rw [h6.len, hl]; exact Nat.le_refl _))
    rw [hl] at this
    exact this
theorem more_step (hT : TOk P T) {c : Call} (ho : o.op = .call c) (hc : c.callee = .builtin .append) {ta tb e eb : TypeId} (hcat : c.argTypes = #[ta, tb]) {p q : Operand} (hca : c.args = #[p, q])
    {s1 : Nat} {a1 : Bool} {b1 : Nat} {z1 : AV} (hs : T ta = some (.mk s1 a1 b1 z1 (.slice e))) {s2 : Nat} {a2 : Bool} {b2 : Nat} {z2 : AV} (hs2 : T tb = some (.mk s2 a2 b2 z2 (.slice eb))) {E : Nat} {a3 : Bool} {by_ : Nat} {z3 : AV} {d3 : TD} (hs3 : T e = some (.mk E a3 by_ z3 d3)) (hby : 0 < by_) (hz : z3 ≠ .top)
    {oo o2 c2 : Bool} {xs news : List AV} (hp1 : evD tm p = some (.lst oo true E xs)) (hq1 : evD tm q = some (.lst o2 c2 E news))
    (h : (bif ieq (ilen news) 0 then (bif fits (ilen xs) by_ then κ (.lst oo true E xs) hp else none)
            else bif fits (iadd (ilen xs) (ilen news)) by_ then snocK hp (.rows .live E (lcat xs news)) 0 fun n hp => κ (.own n E none false) hp else none) = some r) : StepN P o tm hp κ r := by
  obtain ⟨u1, hu1, _, hr1⟩ := (hT _ _ _ _ _ _ hs).under
  obtain ⟨u2, hu2, _, hr2⟩ := (hT _ _ _ _ _ _ hs2).under
  simp only [DRel] at hr1 hr2
  subst hr1; subst hr2
  obtain ⟨i, hi, hi1, hi2, hi3⟩ := (hT _ _ _ _ _ _ hs3).info
  obtain ⟨zv, hzv, hzc, _⟩ := hi3.resolve_left hz
  subst hi1; subst hi2
  have pre : ∀ (a : Act) (w : World) (g : G) (H : List Blk), (∀ x ∈ o.op.operands, ∀ u, evD tm x = some u → V3 g H w u (a.eval x)) →
      ∃ A cap B cc olds vs, a.eval p = .slice A xs.length cap ∧ a.eval q = .slice B news.length cc ∧ cap = xs.length ∧ PFlat g w i.size xs olds ∧ PFlat g w i.size news vs ∧
        (∀ w1 : World, w1.heap = w.heap → (Builtin.firstCells i.size xs.length (.slice A xs.length cap)).run P w1 = .ok olds.toArray w1) ∧ (∀ w1 : World, w1.heap = w.heap → (Builtin.firstCells i.size news.length (.slice B news.length cc)).run P w1 = .ok vs.toArray w1) ∧
        V3 g H w (.lst oo true i.size xs) (a.eval p) := by
    intro a w g H hh
    have h1 := hh p (by rw [ho]; simp [Op.operands, Call.operands, hca]) _ hp1
    have h2 := hh q (by rw [ho]; simp [Op.operands, Call.operands, hca]) _ hq1
    obtain ⟨A, cap, e1, e2, e3, e4⟩ := lst_rows h1
    obtain ⟨B, cc, f1, f2, f3, f4⟩ := lst_rows h2
    obtain ⟨olds, q1, q2⟩ := vals_of (P := P) (cap := cap) e4
    obtain ⟨vs, q3, q4⟩ := vals_of (P := P) (cap := cc) f4
    exact ⟨A, cap, B, cc, olds, vs, e1, f1, e3 rfl, q1, q3, q2, q4, h1⟩
  rcases cond_some h with ⟨hz0, h9⟩ | ⟨hz0, h9⟩
  · clear h
    rw [ieq_eq, ilen_eq] at hz0
    have hz0 := of_decide_eq_true hz0
    have hn0 : news = [] := List.eq_nil_of_length_eq_zero (by omega)
    subst hn0
    obtain ⟨hf, h2⟩ := cond_none h9
    have hf' := fits_nat (a := xs.length) (b := 0) (c := i.bytes) (by rw [iadd_eq, Int.ofNat_zero, Int.add_zero, ← ilen_eq]; exact hf)
    refine ⟨_, hp, h2, opN_pure fun a w g H hH _ hh hg => ?_⟩
    obtain ⟨A, cap, B, cc, olds, vs, e1, e2, e3, q1, q2, q3, q4, hv⟩ := pre a w g H hh
    have hv0 : vs = [] := by simpa [PFlat] using q2
    subst hv0; subst e3
    obtain ⟨r1, r2, _⟩ := append_runs (ty := o.type) hu1 hu2 hi hzv q4 q3 hby (by simpa using hf')
    refine ⟨a.eval p, builtin_run ho hc ?_, hv⟩
    rw [hca, hcat]
    simp only [builtin, List.map_toArray, List.map_cons, List.map_nil, e1, e2, Sem.run_bind]
    have hr : (Builtin.append_ #[ta, tb] o.type #[.slice A xs.length xs.length, .slice B ([] : List AV).length cc]).run P w = .ok (.slice A xs.length xs.length) w := by
      cases A with
      | none => exact r1 (by simp) rfl
      | some b => exact r2 (by simp) b w rfl (by simp [storeCells])
    rw [hr]
    simp
  · rw [ieq_eq, ilen_eq] at hz0
    have hz0 := of_decide_eq_false hz0
    obtain ⟨hf, h2⟩ := cond_none h9
    rw [snocK_eq, Nat.zero_add, lcat_eq] at h2
    rw [ilen_eq, ilen_eq] at hf
    have hf' := fits_nat hf
    refine ⟨_, _, h2, opN_new fun a w g H hH hh hg hτ => ?_⟩
    obtain ⟨A, cap, B, cc, olds, vs, e1, e2, e3, q1, q2, q3, q4, hv⟩ := pre a w g H hh
    subst e3
    obtain ⟨cap', rest, c1, c2, c3⟩ := (append_runs (ty := o.type) hu1 hu2 hi hzv q4 q3 hby hf').2.2 (by omega)
    refine ⟨.slice (some ⟨w.heap.size, 0, none⟩) (xs.length + news.length) cap', (olds ++ vs ++ rest).toArray, e, w.drew.alloc (.cells (olds ++ vs ++ rest).toArray e), builtin_run ho hc ?_, rfl, ⟨rfl, rfl, rfl, Nat.le_succ _⟩, fun g' hg' ht => ?_⟩
    · rw [hca, hcat]
      simp only [builtin, List.map_toArray, List.map_cons, List.map_nil, e1, e2, Sem.run_bind, c3, Result.andThen_ok, Sem.run_pure]
    · subst hg'
      have hpl := (q1.append q2).trans ht hg
      have hsz : (olds ++ vs ++ rest).toArray.size = cap' * i.size := by
        simp only [List.size_toArray, List.length_append, q1.len, q2.len, c2, hzc, ← Nat.add_mul]
        congr 1
        omega
      refine ⟨.inr ⟨w.heap.size, 0, G.add_ρ, fun h => ?_, unf_push rfl (Nat.zero_le _), hpl.rows fun j v hj => ?_⟩, ?_⟩
      · have := hg.lt _ h; omega
      · rw [Nat.zero_add, cell_push rfl, List.getElem?_toArray, List.getElem?_append_left (List.getElem?_eq_some_iff.1 hj).1]; exact hj
      · have := own_new (E := i.size) (n := cap') (xs := xs ++ news) (c := false) hH (G.add_dom (g := g) (p := some (w.heap.size, 0))) G.add_ρ (by simp at c1 ⊢; omega) (by simp) (w := w.drew.alloc (.cells (olds ++ vs ++ rest).toArray e)) (unf_push rfl (by rw [hsz]; exact Nat.le_refl _))
        rw [List.length_append] at this
        exact this
theorem nsK_ok (hT : TOk P T) (h : nsK T o tm hp κ = some r) : StepN P o tm hp κ r := by
  unfold nsK at h
  split at h
  · rename_i t n ps ho
    obtain ⟨s1, a1, b1, z1, d1, hs, h1⟩ := tyK_some h
    clear h
    split at h1
    case h_2 => cases h1
    rename_i e
    obtain ⟨E, a2, b2, z, d2, he, h2⟩ := tyK_some h1
    clear h1
    split at h2
    · rename_i hps
      obtain ⟨hn, h3⟩ := cond_none h2
      obtain rfl : n = 0 := Nat.eq_of_beq_eq_true hn
      exact empty_step hT ho hps hs he h3
    · rename_i x hps
      obtain ⟨hn, h3⟩ := cond_none h2
      simp only [Bool.and_eq_true, Bool.not_eq_true'] at hn
      obtain rfl : n = 1 := Nat.eq_of_beq_eq_true hn.1.1
      have hz : z ≠ .top := fun e => by have := hn.2; subst e; simp [isTop] at this
      obtain ⟨v, hv, h4⟩ := evK_some h3
      rw [lenK_eq, Nat.zero_add] at h4
      obtain ⟨hE, h5⟩ := beqE_some h4
      obtain ⟨_, _, _, _, hV, _⟩ := pur_ok h5
      obtain ⟨v', h6, hzl, _, hpe⟩ := purz_ok h5
      rw [snocK_eq, Nat.zero_add] at h6
      exact one_step hT ho hps hs he (Nat.le_of_ble_eq_true hn.1.2) hz hv hE hzl hpe hV h6
    · exact many_step hT ho hs he h2
  · rename_i c ho
    split at h
    case h_2 => cases h
    rename_i hc
    split at h
    case h_2 => cases h
    rename_i ta tb hat
    obtain ⟨s1, a1, b1, z1, d1, hs, h1⟩ := tyK_some h
    clear h
    obtain ⟨s2, a2, b2, z2, d2, hs2, h2⟩ := tyK_some h1
    clear h1
    split at h2
    case h_2 => cases h2
    rename_i e eb
    obtain ⟨E, a3, by_, z3, d3, hs3, h3⟩ := tyK_some h2
    clear h2
    rcases cond_some h3 with ⟨_, h4⟩ | ⟨hb, h4⟩
    · cases h4
    clear h3
    simp only [Bool.or_eq_false_iff] at hb
    have hby : 0 < by_ := Nat.pos_of_ne_zero fun e => by subst e; simp at hb
    have hz : z3 ≠ .top := fun e => by subst e; simp [isTop] at hb
    obtain ⟨us, hus, h5⟩ := evsK_some h4
    clear h4
    split at h5
    case h_2 => cases h5
    rename_i oo E' xs o2 c2 E'' news
    obtain ⟨hEE, h6⟩ := cond_none h5
    clear h5
    simp only [Bool.and_eq_true] at hEE
    obtain rfl : E = E' := Nat.eq_of_beq_eq_true hEE.1
    obtain rfl : E = E'' := Nat.eq_of_beq_eq_true hEE.2
    obtain ⟨p, q, hargs, hp1, hq1⟩ := evs_two hus rfl
    have hca : c.args = #[p, q] := by rw [← Array.toList_inj]; exact hargs
    have hcat : c.argTypes = #[ta, tb] := by rw [← Array.toList_inj]; exact hat
    exact more_step hT ho hc hcat hca hs hs2 hs3 hby hz hp1 hq1 h6
  · cases h
end
end Go.AM
namespace Go.AM
section
variable {P : Program} {ops : Array Oper} {Q : Exit → Act → World → Prop} {E : Nat → Bool} {S : Nat → World → Prop}
def PreO (o : Oper) (k : Nat) : Prop := ∃ e ∈ o.after, Region.binds .any e = true ∧ e.on = k
def Rq (ops : Array Oper) (E : Nat → Bool) (S : Nat → World → Prop) (listed : Array Bool) (w : World) : Prop :=
  ∀ k, E k = true → (∀ j o, ops[j]? = some o → listed.getD j false = true → E j = false → ¬ PreO o k) → S k w
def wpAnyS (P : Program) (ops : Array Oper) (Q : Exit → Act → World → Prop) (E : Nat → Bool) (S : Nat → World → Prop) : Nat → Array Bool → Act → World → Prop
  | 0, listed, a, w => Region.ready .any ops listed = [] ∧ Q .normal a w
  | fuel + 1, listed, a, w =>
    (Region.ready .any ops listed = [] → Q .normal a w) ∧
    ∀ i ∈ Region.ready .any ops listed, wpOp P ops Q i (fun a' w' => Rq ops E S (listed.setIfInBounds i true) w' ∧ wpAnyS P ops Q E S fuel (listed.setIfInBounds i true) a' w') a w
theorem wpAny_of_S : ∀ (fuel : Nat) (listed : Array Bool) (a : Act) (w : World), wpAnyS P ops Q E S fuel listed a w → wpAny P .any ops Q fuel listed a w
  | 0, _, _, _, h => h
  | fuel + 1, _, _, _, h => ⟨h.1, fun i hi => wpOp_mono (fun a' w' h' => wpAny_of_S fuel _ a' w' h'.2) (h.2 i hi)⟩
theorem Rq_set {listed : Array Bool} {i : Nat} {w : World} (hE : E i = true) : Rq ops E S (listed.setIfInBounds i true) w ↔ Rq ops E S listed w := by
  have key : ∀ j, E j = false → (listed.setIfInBounds i true).getD j false = listed.getD j false := fun j hj => by
    have : i ≠ j := fun e => by subst e; rw [hE] at hj; cases hj
    exact getD_set_ne false this
  constructor
  · intro h k hk hn
    exact h k hk fun j o ho hL hj => hn j o ho (by rwa [key j hj] at hL) hj
  · intro h k hk hn
    exact h k hk fun j o ho hL hj => hn j o ho (by rwa [key j hj]) hj
theorem wpAnyS_first {i : Nat} {oi : Oper} {v : Value} (hi : ops[i]? = some oi) (hE : E i = true) (hsel : ∀ (j : Nat) (o : Oper) cs b, ops[j]? = some o → o.op ≠ .select cs b)
    (hQ : ∀ c a w, Q (.panic c) (a.put oi.dst v) w → Q (.panic c) a w) :
    ∀ (fuel : Nat) (listed : Array Bool) (a : Act) (w : World),
      (∀ j oj, ops[j]? = some oj → j ≠ i → listed.getD j true = false → (∀ e ∈ oj.after, Region.binds .any e = true → e.on ≠ i) → oi.apart ops oj = true) →
      (∀ j o, ops[j]? = some o → listed.getD j false = true → ∀ e ∈ o.after, Region.binds .any e = true → listed.getD e.on false = true) →
      i ∈ Region.ready .any ops listed → YieldsIf P ops (S i) oi v a → Rq ops E S listed w →
      wpAnyS P ops Q E S fuel (listed.setIfInBounds i true) (a.put oi.dst v) w → wpAnyS P ops Q E S (fuel + 1) listed a w := by
  have unl : ∀ {listed : Array Bool}, i ∈ Region.ready .any ops listed → listed.getD i false = false := fun {listed} hr => by
    have h0 := (mem_ready.1 hr).1
    rcases Nat.lt_or_ge i listed.size with h' | h'
    · simp [h'] at h0 ⊢; exact h0
    · simp [Array.getElem?_eq_none h'] at h0
  have own : ∀ {listed : Array Bool} {w : World}, (∀ j o, ops[j]? = some o → listed.getD j false = true → ∀ e ∈ o.after, Region.binds .any e = true → listed.getD e.on false = true) →
      i ∈ Region.ready .any ops listed → Rq ops E S listed w → S i w := fun {listed w} hc hr hR => hR i hE fun j o ho hL _ ⟨e, he, hb, h⟩ => by
    have := hc j o ho hL e he hb
    rw [h, unl hr] at this
    cases this
  intro fuel
  induction fuel with
  | zero =>
    intro listed a w _ hc hr hy hR H
    refine ⟨fun h => (by rw [h] at hr; cases hr), fun j hj => ?_⟩
    by_cases hji : j = i
    · subst hji; exact hy.wpOp hi (own hc hr hR) ⟨(Rq_set hE).2 hR, H⟩
    · have := ready_mono hj hji
      rw [H.1] at this
      cases this
  | succ fuel ih =>
    intro listed a w hfree hc hr hy hR H
    refine ⟨fun h => (by rw [h] at hr; cases hr), fun j hj => ?_⟩
    by_cases hji : j = i
    · subst hji; exact hy.wpOp hi (own hc hr hR) ⟨(Rq_set hE).2 hR, H⟩
    · have h1 := H.2 j (ready_mono hj hji)
      obtain ⟨hjun, oj, hoj, hall⟩ := mem_ready.1 hj
      have hnot : ∀ e ∈ oj.after, Region.binds .any e = true → e.on ≠ i := fun e he hb heq => by
        have h1 := hall e he hb
        rw [heq, unl hr] at h1
        cases h1
      have h2 := wpOp_putIf hoj (hfree j oj hoj hji hjun hnot) (fun cs b => hsel i oi cs b hi) (fun cs b => hsel j oj cs b hoj) hQ hy h1
      have hfree' : ∀ k ok, ops[k]? = some ok → k ≠ i → (listed.setIfInBounds j true).getD k true = false →
          (∀ e ∈ ok.after, Region.binds .any e = true → e.on ≠ i) → oi.apart ops ok = true := fun k ok hk hki hun hno => by
        refine hfree k ok hk hki ?_ hno
        by_cases hjk : j = k
        · subst hjk; exact hjun
        · rw [getD_set_ne true hjk] at hun; exact hun
      have hc' : ∀ k o, ops[k]? = some o → (listed.setIfInBounds j true).getD k false = true → ∀ e ∈ o.after, Region.binds .any e = true → (listed.setIfInBounds j true).getD e.on false = true := fun k o hk hL e he hb => by
        refine getD_set_true ?_
        by_cases hjk : j = k
        · subst hjk
          rw [hoj] at hk
          cases hk
          exact hall e he hb
        · rw [getD_set_ne false hjk] at hL
          exact hc k o hk hL e he hb
      refine wpOp_mono (fun a' w' h3 => ?_) h2
      have hcomm : (listed.setIfInBounds i true).setIfInBounds j true = (listed.setIfInBounds j true).setIfInBounds i true := Array.setIfInBounds_comm _ _ (Ne.symm hji)
      have hRj : Rq ops E S (listed.setIfInBounds j true) w' := by
        have := h3.2.1
        rw [hcomm] at this
        exact (Rq_set hE).1 this
      refine ⟨hRj, ih (listed.setIfInBounds j true) a' w' hfree' hc' (ready_mono hr (Ne.symm hji)) h3.1 hRj ?_⟩
      rw [← hcomm]
      exact h3.2.2
theorem wp_region_S {id : Nat} {a : Act} {w : World} (hm : P.follows .mixedOrders = true)
    (h : wpAnyS P ops Q E S ops.size (Array.replicate ops.size false) a w.drew) : (Code.region id ops true).wp P Q a w :=
  wp_region_any hm (wpAny_of_S _ _ _ _ h)
end
end Go.AM
namespace Go.AM
inductive Reach (ops : Array Oper) (i : Nat) : Nat → Prop where
  | one {d : Nat} {o : Oper} {e : Edge} (h : ops[d]? = some o) (he : e ∈ o.after) (hb : Region.binds .any e = true) (hi : e.on = i) : Reach ops i d
  | step {d : Nat} {o : Oper} {e : Edge} (h : ops[d]? = some o) (he : e ∈ o.after) (hb : Region.binds .any e = true) (hr : Reach ops i e.on) : Reach ops i d
def maskO (k : Nat) (rs : List Nat) : List Edge → Nat → Nat
  | [], m => m
  | e :: l, m => maskO k rs l (bif Region.binds .any e && Nat.blt e.on k then Nat.lor (Nat.lor m (Nat.shiftLeft 1 e.on)) (rs.getD (k - 1 - e.on) 0) else m)
def masksR : List Oper → Nat → List Nat → List Nat
  | [], _, rs => rs
  | o :: l, k, rs => masksR l (k + 1) (maskO k rs o.after.toList 0 :: rs)
def reachB (ops : Array Oper) (i j : Nat) : Bool := Nat.testBit ((masksR ops.toList 0 []).getD (ops.size - 1 - j) 0) i
theorem maskO_ok {ops : Array Oper} {k : Nat} {rs : List Nat} {o : Oper} (ho : ops[k]? = some o) (hrs : ∀ j, j < k → ∀ i, Nat.testBit (rs.getD (k - 1 - j) 0) i = true → Reach ops i j) :
    ∀ {l : List Edge} {m : Nat}, (∀ e ∈ l, e ∈ o.after) → (∀ i, Nat.testBit m i = true → Reach ops i k) → ∀ i, Nat.testBit (maskO k rs l m) i = true → Reach ops i k
  | [], m, _, hm, i, h => hm i h
  | e :: l, m, hl, hm, i, h => by
    simp only [maskO] at h
    refine maskO_ok ho hrs (fun x hx => hl x (List.mem_cons_of_mem _ hx)) ?_ i h
    intro i h
    cases hc : (Region.binds .any e && Nat.blt e.on k) with
    | false => rw [hc] at h; exact hm i h
    | true =>
      rw [hc] at h
      simp only [Bool.and_eq_true] at hc
      have hlt : e.on < k := by
        have := hc.2
        unfold Nat.blt at this
        have := Nat.le_of_ble_eq_true this
        omega
      have h' : (Nat.testBit ((m ||| (1 <<< e.on)) ||| rs.getD (k - 1 - e.on) 0) i) = true := h
      rw [Nat.testBit_or, Nat.testBit_or, Nat.one_shiftLeft, Nat.testBit_two_pow] at h'
      simp only [Bool.or_eq_true, decide_eq_true_eq] at h'
      rcases h' with (h' | h') | h'
      · exact hm i h'
      · exact .one ho (hl e (List.mem_cons_self)) hc.1 h'
      · exact .step ho (hl e (List.mem_cons_self)) hc.1 (hrs e.on hlt i h')
theorem masksR_ok {ops : Array Oper} : ∀ {l : List Oper} {k : Nat} {rs : List Nat}, (∀ j o, l[j]? = some o → ops[k + j]? = some o) → rs.length = k → (∀ j, j < k → ∀ i, Nat.testBit (rs.getD (k - 1 - j) 0) i = true → Reach ops i j) →
    (masksR l k rs).length = k + l.length ∧ ∀ j, j < k + l.length → ∀ i, Nat.testBit ((masksR l k rs).getD (k + l.length - 1 - j) 0) i = true → Reach ops i j
  | [], k, rs, _, hz, hrs => ⟨by simpa [masksR] using hz, by simpa [masksR] using hrs⟩
  | o :: l, k, rs, hl, hz, hrs => by
    have ho : ops[k]? = some o := hl 0 o rfl
    have := masksR_ok (ops := ops) (l := l) (k := k + 1) (rs := maskO k rs o.after.toList 0 :: rs) (fun j o' hj => by rw [show k + 1 + j = k + (j + 1) by omega]; exact hl (j + 1) o' hj) (by simp [hz]) (fun j hj i h => by
      by_cases hjk : j = k
      · subst hjk
        simp only [Nat.add_sub_cancel, Nat.sub_self, List.getD_cons_zero] at h
        exact maskO_ok ho hrs (fun e he => by simpa using he) (fun i h => by simp at h) i h
      · have e : k + 1 - 1 - j = (k - 1 - j) + 1 := by omega
        rw [e, List.getD_cons_succ] at h
        exact hrs j (by omega) i h)
    simp only [masksR, List.length_cons]
    rw [show k + (l.length + 1) = k + 1 + l.length by omega]
    exact this
theorem reachB_ok {ops : Array Oper} {i j : Nat} (hj : j < ops.size) (h : reachB ops i j = true) : Reach ops i j := by
  unfold reachB at h
  have := (masksR_ok (ops := ops) (l := ops.toList) (k := 0) (rs := []) (fun j o hj => by simpa using hj) rfl (fun j hj => by omega)).2 j (by simpa using hj) i
  simp only [Nat.zero_add, Array.length_toList] at this
  exact this h
def mutI (ns : List (Tmp × Nat)) (sh : FuncId → Bool) (j : Nat) (o : Oper) : Bool := isMut sh o && !memB j ns
def isFree (o : Oper) : Bool :=
  match o.op with
  | .extract _ _ => o.guard.isNone
  | .build _ _ => o.guard.isNone
  | _ => false
def OpF (P : Program) (o : Oper) (tm : List AV) (v : AV) : Prop :=
  ∀ (a : Act) (w : World) (g : G) (H : List Blk), (∀ x ∈ o.op.operands, ∀ u, evD tm x = some u → V3 g H w u (a.eval x)) → ∃ vv, (execOp a.eval o).run P w = .ok (.value vv) w ∧ V3 g H w v vv
def regB (sh : FuncId → Bool) (ops : Array Oper) (es ns : List (Tmp × Nat)) : Bool :=
  (List.range ops.size).all fun j => (List.range j).all fun i =>
    match ops[i]?, ops[j]? with
    | some a, some b => bif memB i es then true else bif memB j es then a.apart ops b else bif reachB ops i j then true else (a.apart ops b && !mutI ns sh i a && (!mutI ns sh j b || isFree a))
    | _, _ => true
def earB (ops : Array Oper) : List (Tmp × Nat) → Array Bool → Bool
  | [], _ => true
  | (i, _) :: es, listed => (Region.ready .any ops listed).contains i && Region.free .any ops listed i && earB ops es (listed.setIfInBounds i true)
def fwdB (ops : Array Oper) : Bool :=
  (List.range ops.size).all fun j => match ops[j]? with
    | some b => b.after.all fun e => !Region.binds .any e || e.on < j
    | _ => true
def drawB (sh : FuncId → Bool) (ops : Array Oper) (es ns : List (Tmp × Nat)) : Bool :=
  fwdB ops && regB sh ops es ns && Region.noSelect ops && earB ops es (Array.replicate ops.size false)
def LateOk (qs : List (Nat × Option Nat)) (o : Oper) (tm : List AV) (hp : List Blk) : Prop :=
  (∃ t n ps, o.op = .buildSlice t n ps) ∨ ∃ x τ, (((∃ t y, o.op = .store t x y) ∧ ∃ i of E, evD tm x = some (.ptr τ i of E)) ∨ ((∃ c, o.op = .call c ∧ c.callee = .builtin .append ∧ c.args[0]? = some x) ∧ ∃ E r cc, evD tm x = some (.own τ E r cc))) ∧ owned hp τ ∧
    ∀ k q, (k, some q) ∈ qs → PreO o k ∨ (q ≠ τ ∧ ∃ blk, hp[q]? = some blk ∧ ∀ E xs, blk ≠ .rows .dead E xs)
structure OpStepI (P : Program) (sh : FuncId → Bool) (ns : List (Tmp × Nat)) (ops : Array Oper) (idx : Nat) (o : Oper) (tm : List AV) (hp : List Blk) (tm' : List AV) (hp' : List Blk) : Prop where
  go : ∃ want v, GuardR ops o tm want ∧ tm' = putL tm o.dst v ∧ ((want = false ∧ v = .tup [] ∧ hp' = hp) ∨ (want = true ∧ (OpN P o tm hp v hp' ∨ (mutI ns sh idx o = true ∧ OpM P o tm hp v hp'))))
  free : isFree o = true → hp' = hp ∧ ∃ v, tm' = putL tm o.dst v ∧ OpF P o tm v
def EStep (P : Program) (sh : FuncId → Bool) (ops : Array Oper) (es ns : List (Tmp × Nat)) (qs : List (Nat × Option Nat)) (idx : Nat) (o : Oper) (tm : List AV) (hp : List Blk) (tm' : List AV) (hp' : List Blk) : Prop :=
  (memB idx es = true ∧ tm' = tm ∧ hp' = hp) ∨ (memB idx es = false ∧ OpStepI P sh ns ops idx o tm hp tm' hp' ∧ (qs ≠ [] → mutI ns sh idx o = true → LateOk qs o tm hp))
def TraceE (P : Program) (sh : FuncId → Bool) (ops : Array Oper) (es ns : List (Tmp × Nat)) (qs : List (Nat × Option Nat)) (tms : Nat → List AV) (hps : Nat → List Blk) : Prop :=
  ∀ j o, ops[j]? = some o → EStep P sh ops es ns qs j o (tms j) (hps j) (tms (j + 1)) (hps (j + 1))
section
variable {P : Program} {T : TypeId → Option TI} {C : CF} {sh : FuncId → Bool} {o : Oper} {tm : List AV} {hp : List Blk} {r : AV × List Blk}
theorem preB_ok {k : Nat} (h : preB o k = true) : PreO o k := by
  unfold preB at h
  rw [List.any_eq_true] at h
  obtain ⟨e, he, h1⟩ := h
  simp only [Bool.and_eq_true, beq_iff_eq] at h1
  exact ⟨e, by simpa using he, h1.1, h1.2⟩
theorem aliveB_ok {τ : Nat} (h : aliveB hp τ = true) : ∃ blk, hp[τ]? = some blk ∧ ∀ E xs, blk ≠ .rows .dead E xs := by
  unfold aliveB at h
  split at h
  · rename_i h1; exact ⟨_, h1, by simp⟩
  · rename_i h1; exact ⟨_, h1, by simp⟩
  · rename_i h1; exact ⟨_, h1, by simp⟩
  · cases h
theorem lateB_ok {τ : Nat} : ∀ {qs : List (Nat × Option Nat)}, lateB o hp τ qs = true → ∀ k q, (k, some q) ∈ qs → PreO o k ∨ (q ≠ τ ∧ ∃ blk, hp[q]? = some blk ∧ ∀ E xs, blk ≠ .rows .dead E xs)
  | [], _, _, _, h => by cases h
  | (k0, none) :: l, h, k, q, hm => by
    simp only [lateB] at h
    cases hm with
    | tail _ hm => exact lateB_ok h k q hm
  | (k0, some t) :: l, h, k, q, hm => by
    simp only [lateB, Bool.and_eq_true, Bool.or_eq_true, Bool.not_eq_true'] at h
    obtain ⟨h1, h2⟩ := h
    cases hm with
    | head =>
      rcases h1 with h1 | ⟨h1, h3⟩
      · exact .inl (preB_ok h1)
      · refine .inr ⟨fun e => ?_, aliveB_ok h3⟩
        subst e
        rw [Nat.beq_refl] at h1
        cases h1
    | tail _ hm => exact lateB_ok h2 k q hm
theorem ownedB_ok {τ : Nat} (h5 : ownedB hp τ = true) : owned hp τ := by
  unfold ownedB at h5
  split at h5
  · rename_i h6; exact ⟨_, h6, trivial⟩
  · rename_i h6; exact ⟨_, h6, trivial⟩
  · cases h5
theorem lateK_ok {qs : List (Nat × Option Nat)} {x : R} (h : lateK qs sh o tm hp x = some r) : x = some r ∧ (qs ≠ [] → isMut sh o = true → LateOk qs o tm hp) := by
  unfold lateK at h
  rcases cond_some h with ⟨hc, h1⟩ | ⟨hc, h1⟩
  · refine ⟨h1, fun hq hm => ?_⟩
    simp only [Bool.or_eq_true, Bool.not_eq_true'] at hc
    rcases hc with hc | hc
    · cases qs with
      | nil => exact absurd rfl hq
      | cons _ _ => simp [isNl] at hc
    · rw [hm] at hc; cases hc
  · split at h1
    · rename_i t x' y ho
      obtain ⟨u, hu, h2⟩ := evK_some h1
      split at h2
      · rename_i τ i of E
        obtain ⟨h3, h4⟩ := cond_none h2
        simp only [Bool.and_eq_true] at h3
        refine ⟨h4, fun _ _ => .inr ⟨x', τ, .inl ⟨⟨t, y, ho⟩, i, of, E, hu⟩, ownedB_ok h3.1, lateB_ok h3.2⟩⟩
      · cases h2
    · rename_i t n ps ho
      exact ⟨h1, fun _ _ => .inl ⟨t, n, ps, ho⟩⟩
    · rename_i c ho
      split at h1
      · rename_i hc
        split at h1
        · rename_i s l hl
          obtain ⟨u, hu, h2⟩ := evK_some h1
          split at h2
          · rename_i τ E r' cc
            obtain ⟨h3, h4⟩ := cond_none h2
            simp only [Bool.and_eq_true] at h3
            refine ⟨h4, fun _ _ => .inr ⟨s, τ, .inr ⟨⟨c, ho, hc, ?_⟩, E, r', cc, hu⟩, ownedB_ok h3.1, lateB_ok h3.2⟩⟩
            rw [← Array.getElem?_toList, hl]; rfl
          · cases h2
        · cases h1
      · cases h1
    · cases h1
theorem isFree_op {o : Oper} (h : isFree o = true) : (∃ x i, o.op = .extract x i) ∨ ∃ t ps, o.op = .build t ps := by
  unfold isFree at h
  split at h
  · rename_i x i ho; exact .inl ⟨x, i, ho⟩
  · rename_i t ps ho; exact .inr ⟨t, ps, ho⟩
  · cases h
theorem isFree_guard {o : Oper} (h : isFree o = true) : o.guard = none := by
  unfold isFree at h
  split at h
  · simpa using h
  · simpa using h
  · cases h
theorem free_ok (hT : TOk P T) {all : Array Oper} {κ : List AV → List Blk → R} (hf : isFree o = true) (h : opsK T C sh all.toList [o] tm hp κ = some r) : ∃ v, κ (putL tm o.dst v) hp = some r ∧ OpN P o tm hp v hp ∧ OpF P o tm v := by
  have hg := isFree_guard hf
  have h1 : (match o.guard with
      | none => aopK T C sh o tm hp fun v hp => putK tm o.dst v fun tm => κ tm hp
      | some (j, want) => dstK all.toList j fun t => getK tm t fun
        | .bool b =>
          bif b then
            setK tm t (.bool true) fun tm =>
              bif want then aopK T C sh o tm hp fun v hp => putK tm o.dst v fun tm => κ tm hp
              else putK tm o.dst (.tup []) fun tm => κ tm hp
          else
            setK tm t (.bool false) fun tm =>
              bif want then putK tm o.dst (.tup []) fun tm => κ tm hp
              else aopK T C sh o tm hp fun v hp => putK tm o.dst v fun tm => κ tm hp
        | .tup [] => putK tm o.dst (.tup []) fun tm => κ tm hp
        | _ => none) = some r := h
  rw [hg] at h1
  simp only at h1
  unfold aopK at h1
  rcases isFree_op hf with ⟨x, i, ho⟩ | ⟨t, ps, ho⟩
  · simp only [ho] at h1
    obtain ⟨v, hv, h2⟩ := evK_some h1
    split at h2
    · rename_i vs
      obtain ⟨u, hu, h3⟩ := getK_some h2
      rw [putK_eq] at h3
      have pure : OpF P o tm u := fun a w g H hh => by
        have h1 := hh x (by simp [ho, Op.operands]) _ hv
        obtain ⟨ws, hw, h2⟩ := h1
        obtain ⟨vv, hvv, h3⟩ := All2_get h2 hu
        exact ⟨vv, by simp [execOp, ho, hw, Instr.extract, hvv], V3_of_V2 h3⟩
      exact ⟨u, h3, opN_pure fun a w g H _ _ hh _ => pure a w g H hh, pure⟩
    · cases h2
  · simp only [ho] at h1
    obtain ⟨sz, a1, b1, z, d1, hs, h⟩ := tyK_some h1
    split at h
    case h_2 => cases h
    rename_i zs offs eq
    obtain ⟨u, hu, _, fields, rfl, hof⟩ := (hT _ _ _ _ _ _ hs).under
    obtain ⟨cs', h1, h2⟩ := fill_ok hT hof h
    rw [putK_eq] at h1
    have pure : OpF P o tm (.agg cs') := fun a w g H hh => by
      obtain ⟨zv, e1, e2, e3⟩ := (hT _ _ _ _ _ _ hs).zeroValue (w := w) (by simp)
      obtain ⟨vs, rfl, hvs⟩ := e3 g H w
      obtain ⟨places, e4, e5⟩ := places_run (P := P) (w := w) ((hT _ _ _ _ _ _ hs).flds fields hu)
      obtain ⟨vs', e6, e7⟩ := h2 g H w a places e5 (fun x hx => hh x (by rw [ho]; simp [Op.operands]; simpa using hx)) vs hvs
      refine ⟨.agg vs'.toArray, ?_, vs', rfl, e7⟩
      have hu' := run_underlying hu w
      have e6' : Instr.fill (fun x => places[x]?) (Value.agg { toList := vs }).cells (ps.map fun (i, x) => (i, a.eval x)).toList = some vs'.toArray := by
        rw [Array.toList_map]; exact e6
      simp only [execOp, ho, Instr.build, Sem.run_bind, e1, Result.andThen_ok, hu', e4, e6', Sem.run_pure]
    exact ⟨_, h1, opN_pure fun a w g H _ _ hh _ => pure a w g H hh, pure⟩
theorem nsG_ok (hT : TOk P T) {all : Array Oper} {κ : List AV → List Blk → R} (h : nsG T all.toList o tm hp κ = some r) :
    ∃ want v hp', GuardR all o tm want ∧ κ (putL tm o.dst v) hp' = some r ∧ ((want = false ∧ v = .tup [] ∧ hp' = hp) ∨ (want = true ∧ OpN P o tm hp v hp')) ∧ isFree o = false := by
  have free : ∀ {tm : List AV} {κ : AV → List Blk → R}, nsK T o tm hp κ = some r → isFree o = false := fun {tm κ} h1 => by
    cases hf : isFree o with
    | false => rfl
    | true =>
      exfalso
      rcases isFree_op hf with ⟨x, i, ho⟩ | ⟨t, ps, ho⟩
      · unfold nsK at h1
        simp only [ho] at h1
        cases h1
      · unfold nsK at h1
        simp only [ho] at h1
        cases h1
  have run : ∀ want, GuardR all o tm want → want = true → (nsK T o tm hp fun v hp => putK tm o.dst v fun tm => κ tm hp) = some r →
      ∃ want v hp', GuardR all o tm want ∧ κ (putL tm o.dst v) hp' = some r ∧ ((want = false ∧ v = .tup [] ∧ hp' = hp) ∨ (want = true ∧ OpN P o tm hp v hp')) ∧ isFree o = false := fun want hgd hw h1 => by
    have hnf := free h1
    obtain ⟨v, hp', h2, h3⟩ := nsK_ok (P := P) hT h1
    dsimp only at h2
    rw [putK_eq] at h2
    exact ⟨want, v, hp', hgd, h2, .inr ⟨hw, h3⟩, hnf⟩
  unfold nsG at h
  split at h
  · rename_i hg
    exact run true (by unfold GuardR; rw [hg]) rfl h
  · rename_i j want hg
    have hnf : isFree o = false := by
      cases hf : isFree o with
      | false => rfl
      | true => have := isFree_guard hf; rw [hg] at this; cases this
    have skip : ∀ want, GuardR all o tm want → want = false → (putK tm o.dst (.tup []) fun tm => κ tm hp) = some r →
        ∃ want v hp', GuardR all o tm want ∧ κ (putL tm o.dst v) hp' = some r ∧ ((want = false ∧ v = .tup [] ∧ hp' = hp) ∨ (want = true ∧ OpN P o tm hp v hp')) ∧ isFree o = false := fun want hgd hw h => by
      rw [putK_eq] at h
      exact ⟨want, _, hp, hgd, h, .inl ⟨hw, rfl, rfl⟩, hnf⟩
    obtain ⟨t, h1, h2⟩ := dstK_ok h
    clear h
    obtain ⟨x, h3, h4⟩ := getK_some h2
    clear h2
    have h1' : (all[j]?).bind (·.dst) = some t := by simpa using h1
    have hset : ∀ c, x = .bool c → tm.set t (.bool c) = tm := by
      intro c e
      subst e
      have := (List.getElem?_eq_some_iff.1 h3)
      rw [← this.2]
      exact List.set_getElem_self _
    split at h4
    · rename_i b
      have hgd : GuardR all o tm (b == want) := by unfold GuardR; rw [hg]; exact ⟨t, h1', .inl ⟨b, h3, rfl⟩⟩
      rcases cond_some h4 with ⟨rfl, h5⟩ | ⟨rfl, h5⟩
      · rw [setK_eq, hset true rfl] at h5
        rcases cond_some h5 with ⟨rfl, h6⟩ | ⟨rfl, h6⟩
        · exact run _ hgd rfl h6
        · exact skip _ hgd rfl h6
      · rw [setK_eq, hset false rfl] at h5
        rcases cond_some h5 with ⟨rfl, h6⟩ | ⟨rfl, h6⟩
        · exact skip _ hgd rfl h6
        · exact run _ hgd rfl h6
    · exact skip false (by unfold GuardR; rw [hg]; exact ⟨t, h1', .inr ⟨h3, rfl⟩⟩) rfl h4
    · cases h4
theorem opsE_ok (hT : TOk P T) (hC : CSound P C) {all : Array Oper} {es ns : List (Tmp × Nat)} {qs : List (Nat × Option Nat)} : ∀ {l : List Oper} {j0 : Nat} {tm : List AV} {hp : List Blk} {κ : List AV → List Blk → R}, opsE T C sh all.toList es ns qs j0 l tm hp κ = some r →
    ∃ (tms : Nat → List AV) (hps : Nat → List Blk), tms 0 = tm ∧ hps 0 = hp ∧ κ (tms l.length) (hps l.length) = some r ∧ ∀ j o, l[j]? = some o → EStep P sh all es ns qs (j0 + j) o (tms j) (hps j) (tms (j + 1)) (hps (j + 1))
  | [], j0, tm, hp, κ, h => ⟨fun _ => tm, fun _ => hp, rfl, rfl, h, fun j o h => by simp at h⟩
  | o :: l, j0, tm, hp, κ, h => by
    have fin : ∀ tm1 hp1, EStep P sh all es ns qs j0 o tm hp tm1 hp1 → opsE T C sh all.toList es ns qs (j0 + 1) l tm1 hp1 κ = some r →
        ∃ (tms : Nat → List AV) (hps : Nat → List Blk), tms 0 = tm ∧ hps 0 = hp ∧ κ (tms (o :: l).length) (hps (o :: l).length) = some r ∧ ∀ j o', (o :: l)[j]? = some o' → EStep P sh all es ns qs (j0 + j) o' (tms j) (hps j) (tms (j + 1)) (hps (j + 1)) := by
      intro tm1 hp1 hst h
      obtain ⟨tms, hps, e1, e2, e3, e4⟩ := opsE_ok hT hC h
      refine ⟨fun i => match i with | 0 => tm | i + 1 => tms i, fun i => match i with | 0 => hp | i + 1 => hps i, rfl, rfl, e3, fun j o' hj => ?_⟩
      cases j with
      | zero => simp at hj; subst hj; simp only [e1, e2]; exact hst
      | succ j =>
        have := e4 j o' (by simpa using hj)
        rw [show j0 + (j + 1) = j0 + 1 + j by omega]
        exact this
    unfold opsE at h
    rcases cond_some h with ⟨hm, h1⟩ | ⟨hm, h1⟩
    · exact fin tm hp (.inl ⟨hm, rfl, rfl⟩) h1
    · clear h
      rcases cond_some h1 with ⟨hn, h1⟩ | ⟨hn, h1⟩
      · obtain ⟨want, v, hp', hgd, h2, hor, hnf⟩ := nsG_ok (P := P) hT h1
        refine fin _ _ (.inr ⟨hm, ⟨⟨want, v, hgd, rfl, hor.imp id fun q => ⟨q.1, .inl q.2⟩⟩, fun hf => by rw [hnf] at hf; cases hf⟩, fun _ hmt => ?_⟩) h2
        unfold mutI at hmt
        rw [hn] at hmt
        simp at hmt
      · obtain ⟨h2, h3⟩ := lateK_ok h1
        cases hfr : isFree o with
        | true =>
          obtain ⟨v, q1, q2, q3⟩ := free_ok (P := P) hT hfr h2
          refine fin _ _ (.inr ⟨hm, ⟨⟨true, v, by unfold GuardR; rw [isFree_guard hfr], rfl, .inr ⟨rfl, .inl q2⟩⟩, fun _ => ⟨rfl, v, rfl, q3⟩⟩, fun _ h2 => ?_⟩) q1
          unfold mutI isMut at h2
          rcases isFree_op hfr with ⟨x, i, ho⟩ | ⟨t, ps, ho⟩
          · simp [ho] at h2
          · simp [ho] at h2
        | false =>
        obtain ⟨tms, hps, e1, e2, e3, e4⟩ := ops_ok hT hC h2
        have hst := e4.step 0 o rfl
        simp only [List.length_cons, List.length_nil] at e3
        rw [e1, e2] at hst
        obtain ⟨want, v, q1, q2, q3⟩ := hst.go
        refine fin _ _ (.inr ⟨hm, ⟨⟨want, v, q1, q2, q3.imp id fun q => ⟨q.1, q.2.imp id fun q => ⟨by unfold mutI; rw [q.1, hn]; rfl, q.2⟩⟩⟩, fun hf => by rw [hfr] at hf; cases hf⟩, fun h1 h2 => h3 h1 ?_⟩) e3
        unfold mutI at h2
        simp only [Bool.and_eq_true] at h2
        exact h2.1
end
section
variable {P : Program} {sh : FuncId → Bool} {ops : Array Oper} {es ns : List (Tmp × Nat)} {qs : List (Nat × Option Nat)} {Q : Exit → Act → World → Prop} {tms : Nat → List AV} {hps : Nat → List Blk}
theorem fwd_spec (h : fwdB ops = true) {j : Nat} {o : Oper} (hj : ops[j]? = some o) : ∀ e ∈ o.after, Region.binds .any e = true → e.on < j := by
  intro e he hb
  unfold fwdB at h
  rw [List.all_eq_true] at h
  have hl := (Array.getElem?_eq_some_iff.1 hj).1
  have h1 := h j (List.mem_range.2 hl)
  simp only [hj] at h1
  have h2 := Array.all_eq_true_iff_forall_mem.1 h1 e he
  simpa [hb] using h2
theorem reg_spec (h : regB sh ops es ns = true) {i j : Nat} {a b : Oper} (hij : i < j) (hi : ops[i]? = some a) (hj : ops[j]? = some b) (h1 : memB i es = false) (h2 : memB j es = false) :
    Reach ops i j ∨ (a.apart ops b = true ∧ mutI ns sh i a = false ∧ (mutI ns sh j b = false ∨ isFree a = true)) := by
  unfold regB at h
  rw [List.all_eq_true] at h
  have hl := (Array.getElem?_eq_some_iff.1 hj).1
  have h3 := h j (List.mem_range.2 hl)
  rw [List.all_eq_true] at h3
  have h4 := h3 i (List.mem_range.2 hij)
  simp only [hi, hj, h1, h2, cond_false] at h4
  cases hr : reachB ops i j with
  | true => exact .inl (reachB_ok hl hr)
  | false =>
    rw [hr] at h4
    simp only [cond_false, Bool.and_eq_true, Bool.or_eq_true, Bool.not_eq_true'] at h4
    exact .inr ⟨h4.1.1, h4.1.2, h4.2⟩
theorem reg_early (h : regB sh ops es ns = true) {i j : Nat} {a b : Oper} (hij : i < j) (hi : ops[i]? = some a) (hj : ops[j]? = some b) (h1 : memB i es = false) (h2 : memB j es = true) : a.apart ops b = true := by
  unfold regB at h
  rw [List.all_eq_true] at h
  have hl := (Array.getElem?_eq_some_iff.1 hj).1
  have h3 := h j (List.mem_range.2 hl)
  rw [List.all_eq_true] at h3
  have h4 := h3 i (List.mem_range.2 hij)
  simpa only [hi, hj, h1, h2, cond_false, cond_true] using h4
abbrev Ls (listed : Array Bool) (i : Nat) : Prop := listed.getD i false = true
def Closed (ops : Array Oper) (listed : Array Bool) : Prop := ∀ j o, ops[j]? = some o → Ls listed j → ∀ e ∈ o.after, Region.binds .any e = true → Ls listed e.on
theorem Reach.some {ops : Array Oper} {i d : Nat} (h : Reach ops i d) : ∃ o, ops[d]? = some o := by
  cases h with
  | one h _ _ _ => exact ⟨_, h⟩
  | step h _ _ _ => exact ⟨_, h⟩
theorem reach_preds {listed : Array Bool} (hc : Closed ops listed) {i d : Nat} {o : Oper} (hd : ops[d]? = some o) (hp : ∀ e ∈ o.after, Region.binds .any e = true → Ls listed e.on) (h : Reach ops i d) : Ls listed i := by
  induction h generalizing o with
  | one h he hb hi => rw [hd] at h; cases h; subst hi; exact hp _ he hb
  | step h he hb hr ih =>
    rw [hd] at h; cases h
    have hl := hp _ he hb
    obtain ⟨o', ho⟩ := hr.some
    exact ih ho (hc _ o' ho hl)
theorem reach_listed {listed : Array Bool} (hc : Closed ops listed) {i d : Nat} (hd : Ls listed d) (h : Reach ops i d) : Ls listed i := by
  obtain ⟨o, ho⟩ := h.some
  exact reach_preds hc ho (hc d o ho hd) h
def Wr (ops : Array Oper) (i t : Nat) : Prop := (ops[i]?).bind (·.dst) = some t
theorem TraceE.pre {tms : Nat → List AV} (ht : TraceE P sh ops es ns qs tms hps) {i j : Nat} (hij : i ≤ j) (hj : j ≤ ops.size) (hn : ∀ k, i ≤ k → k < j → ∀ o, ops[k]? = some o → memB k es = false → mutI ns sh k o = false) : hps i <+: hps j := by
  induction j with
  | zero => obtain rfl : i = 0 := by omega
            exact List.prefix_refl _
  | succ j ih =>
    rcases Nat.lt_or_ge j i with h | h
    · obtain rfl : i = j + 1 := by omega
      exact List.prefix_refl _
    · refine (ih h (by omega) fun k h1 h2 => hn k h1 (by omega)).trans ?_
      have hjl : j < ops.size := by omega
      have hok : ops[j]? = some ops[j] := Array.getElem?_eq_getElem hjl
      rcases ht j ops[j] hok with ⟨_, _, he⟩ | ⟨hm, hst, _⟩
      · rw [he]; exact List.prefix_refl _
      obtain ⟨want, v, _, _, hor⟩ := hst.go
      rcases hor with ⟨_, _, he⟩ | ⟨_, hor⟩
      · rw [he]; exact List.prefix_refl _
      · rcases hor with h1 | ⟨h1, _⟩
        · exact h1.1
        · rw [hn j h (by omega) _ hok hm] at h1; cases h1
theorem TraceE.len {tms : Nat → List AV} (ht : TraceE P sh ops es ns qs tms hps) {p : Nat} (hp : p ≤ ops.size) : (tms p).length = (tms 0).length := by
  induction p with
  | zero => rfl
  | succ p ih =>
    have hok : ops[p]? = some ops[p] := Array.getElem?_eq_getElem (by omega)
    rcases ht p ops[p] hok with ⟨_, he, _⟩ | ⟨hm, hst, _⟩
    · rw [he]; exact ih (by omega)
    obtain ⟨want, v, _, he, _⟩ := hst.go
    rw [he, ← ih (by omega)]
    cases ops[p].dst <;> simp [putL]
theorem TraceE.same {tms : Nat → List AV} (ht : TraceE P sh ops es ns qs tms hps) {t p q : Nat} (hpq : p ≤ q) (hq : q ≤ ops.size) (hn : ∀ i, p ≤ i → i < q → Wr ops i t → memB i es = true) : (tms q)[t]? = (tms p)[t]? := by
  induction q with
  | zero => obtain rfl : p = 0 := by omega
            rfl
  | succ q ih =>
    rcases Nat.lt_or_ge q p with h | h
    · obtain rfl : p = q + 1 := by omega
      rfl
    · rw [← ih h (by omega) fun i h1 h2 => hn i h1 (by omega)]
      have hok : ops[q]? = some ops[q] := Array.getElem?_eq_getElem (by omega)
      rcases ht q ops[q] hok with ⟨_, he, _⟩ | ⟨hm, hst, _⟩
      · rw [he]
      obtain ⟨want, v, _, he, _⟩ := hst.go
      rw [he]
      cases hd : ops[q].dst with
      | none => rfl
      | some d =>
        have hne : ¬ Wr ops q t := fun hw => by rw [hn q h (by omega) hw] at hm; cases hm
        simp only [putL]
        rw [List.getElem?_set, if_neg]
        intro e
        subst e
        exact hne (by simp [Wr, hok, hd])
def SQ (qs : List (Nat × Option Nat)) (gS : G) (w1 : World) (k : Nat) (w : World) : Prop := ∀ q, (k, q) ∈ qs → ∀ b, Prot gS w1 q b → Same b w1 w
structure Inv (P : Program) (sh : FuncId → Bool) (ops : Array Oper) (es ns : List (Tmp × Nat)) (qs : List (Nat × Option Nat)) (gS : G) (w1 : World) (tms : Nat → List AV) (hps : Nat → List Blk) (g0 : G) (H0 : List Blk) (w0 : World) (listed : Array Bool) (a : Act) (w : World) (g : G) (s e : Nat) : Prop where
  size : listed.size = ops.size
  closed : Closed ops listed
  se : s ≤ e
  en : e ≤ ops.size
  done : ∀ i, i < s → Ls listed i ∨ ∃ o, ops[i]? = some o ∧ isFree o = true ∧ memB i es = false
  rest : ∀ i, e ≤ i → Ls listed i → memB i es = true
  early : ∀ i, i < ops.size → memB i es = true → Ls listed i
  nomut : ∀ i, s ≤ i → i < e → ∀ o, ops[i]? = some o → memB i es = false → mutI ns sh i o = false
  emut : e = ops.size ∨ ∃ o, ops[e]? = some o ∧ mutI ns sh e o = true ∧ memB e es = false
  tr : Trans g0 H0 w0 g (hps e) w
  good : Good g (hps e) w
  dom : ∀ τ, g.dom τ ↔ τ < (hps s).length ∨ ∃ i, s ≤ i ∧ i < e ∧ Ls listed i ∧ (hps i).length ≤ τ ∧ τ < (hps (i + 1)).length
  tm : ∀ t p x, p ≤ ops.size → (∀ i, i < p → Wr ops i t → Ls listed i) → (∀ i, p ≤ i → Ls listed i → ¬ Wr ops i t) → (tms p)[t]? = some x → a.tmps[t]? = some (a.tmps.getD t undef) ∧ V3 g (hps e) w x (a.tmps.getD t undef)
  len : (tms 0).length = a.tmps.size
  defers : a.defers = []
  tr1 : Trans gS (hps 0) w1 g (hps e) w
  held : Rq ops (fun k => memB k es) (SQ qs gS w1) listed w
  sz : w1.heap.size ≤ w.heap.size
section
variable {g0 gS : G} {H0 : List Blk} {w0 w1 : World} {listed : Array Bool} {a : Act} {w : World} {g : G} {s e : Nat}
theorem Ls_set {i j : Nat} (hi : i < listed.size) : Ls (listed.setIfInBounds i true) j ↔ Ls listed j ∨ j = i := by
  by_cases h : j = i
  · subst h
    simp [Ls, hi]
  · have h' : i ≠ j := fun e => h e.symm
    simp only [Ls, h, or_false]
    rw [getD_set_ne false h']
theorem noLs {n i : Nat} : ¬ Ls (Array.replicate n false) i := by
  unfold Ls
  rw [Array.getD_eq_getD_getElem?, Array.getElem?_replicate]
  split <;> simp
theorem unlisted {j : Nat} (hj : listed.getD j true = false) : ¬ Ls listed j ∧ j < listed.size := by
  rcases Nat.lt_or_ge j listed.size with h | h
  · simp [h] at hj
    exact ⟨by simp [Ls, h, hj], h⟩
  · simp [Array.getElem?_eq_none h] at hj
theorem Inv.late (hI : Inv P sh ops es ns qs gS w1 tms hps g0 H0 w0 listed a w g s e) {j : Nat} {o : Oper} (hj : ops[j]? = some o) (hun : ¬ Ls listed j) : memB j es = false := by
  cases h : memB j es with
  | false => rfl
  | true => exact absurd (hI.early j (Array.getElem?_eq_some_iff.1 hj).1 h) hun
theorem Inv.reads (ht : TraceE P sh ops es ns qs tms hps) (hr : regB sh ops es ns = true) (hI : Inv P sh ops es ns qs gS w1 tms hps g0 H0 w0 listed a w g s e) {j : Nat} {o : Oper} (hj : ops[j]? = some o) (hun : ¬ Ls listed j)
    (hpre : ∀ e ∈ o.after, Region.binds .any e = true → Ls listed e.on) {t : Nat} (hl : t ∈ o.looksAt ops) {x : AV} (hx : (tms j)[t]? = some x) :
    a.tmps[t]? = some (a.tmps.getD t undef) ∧ V3 g (hps e) w x (a.tmps.getD t undef) := by
  have hjl := (Array.getElem?_eq_some_iff.1 hj).1
  refine hI.tm t j x (by omega) (fun i hi hw => ?_) (fun i hi hL hw => ?_) hx
  · obtain ⟨oi, ho⟩ : ∃ oi, ops[i]? = some oi := ⟨_, Array.getElem?_eq_getElem (show i < ops.size by omega)⟩
    cases hmi : memB i es with
    | true => exact hI.early i (by omega) hmi
    | false =>
      rcases reg_spec hr hi ho hj hmi (hI.late hj hun) with h | ⟨h, _, _⟩
      · exact reach_preds hI.closed hj hpre h
      · obtain ⟨h1, _, _⟩ := Oper.apart_spec h
        simp only [Wr, ho, Option.bind_some] at hw
        exact absurd hl (h1 t hw)
  · by_cases he : i = j
    · subst he; exact hun hL
    · obtain ⟨oi, ho⟩ : ∃ oi, ops[i]? = some oi := by
        cases h : ops[i]? with
        | none => simp [Wr, h] at hw
        | some oi => exact ⟨oi, rfl⟩
      cases hmi : memB i es with
      | true =>
        obtain ⟨_, _, h3⟩ := Oper.apart_spec (reg_early hr (show j < i by omega) hj ho (hI.late hj hun) hmi)
        simp only [Wr, ho, Option.bind_some] at hw
        exact h3 t hw hl
      | false =>
        rcases reg_spec hr (show j < i by omega) hj ho (hI.late hj hun) hmi with h | ⟨h, _, _⟩
        · exact hun (reach_listed hI.closed hL h)
        · obtain ⟨_, _, h3⟩ := Oper.apart_spec h
          simp only [Wr, ho, Option.bind_some] at hw
          exact h3 t hw hl
theorem Inv.put (ht : TraceE P sh ops es ns qs tms hps) (hr : regB sh ops es ns = true) (hI : Inv P sh ops es ns qs gS w1 tms hps g0 H0 w0 listed a w g s e) {j : Nat} {o : Oper} (hj : ops[j]? = some o) (hun : ¬ Ls listed j)
    {v : AV} {vv : Value} {g' : G} {H' : List Blk} {w' : World} (htm : tms (j + 1) = putL (tms j) o.dst v) (hmono : ∀ x u, V3 g (hps e) w x u → V3 g' H' w' x u) (hv : V3 g' H' w' v vv) :
    ∀ t p x, p ≤ ops.size → (∀ i, i < p → Wr ops i t → Ls (listed.setIfInBounds j true) i) → (∀ i, p ≤ i → Ls (listed.setIfInBounds j true) i → ¬ Wr ops i t) → (tms p)[t]? = some x →
      (a.put o.dst vv).tmps[t]? = some ((a.put o.dst vv).tmps.getD t undef) ∧ V3 g' H' w' x ((a.put o.dst vv).tmps.getD t undef) := by
  intro t p x hp h1 h2 hx
  have hjl := (Array.getElem?_eq_some_iff.1 hj).1
  have hjs : j < listed.size := by rw [hI.size]; exact hjl
  have htl : t < a.tmps.size := by
    have := (List.getElem?_eq_some_iff.1 hx).1
    rw [ht.len hp, hI.len] at this
    exact this
  by_cases hd : o.dst = some t
  · have hwj : Wr ops j t := by simp [Wr, hj, hd]
    have hpj : j < p := by
      rcases Nat.lt_or_ge j p with h | h
      · exact h
      · exact absurd hwj (h2 j h ((Ls_set hjs).2 (.inr rfl)))
    have hsame : (tms p)[t]? = (tms (j + 1))[t]? := ht.same (by omega) hp fun i hi hip hw => by
      have hL := (Ls_set hjs).1 (h1 i hip hw)
      have hL := hL.resolve_right (by omega)
      obtain ⟨oi, ho⟩ : ∃ oi, ops[i]? = some oi := ⟨_, Array.getElem?_eq_getElem (show i < ops.size by omega)⟩
      cases hmi : memB i es with
      | true => rfl
      | false =>
        exfalso
        rcases reg_spec hr (show j < i by omega) hj ho (hI.late hj hun) hmi with h | ⟨h, _, _⟩
        · exact hun (reach_listed hI.closed hL h)
        · obtain ⟨_, h4, _⟩ := Oper.apart_spec h
          simp only [Wr, ho, Option.bind_some] at hw
          exact h4 t hd hw
    have hsize : t < (tms j).length := by rw [ht.len (by omega), hI.len]; exact htl
    rw [hsame, htm, hd] at hx
    simp only [putL, List.getElem?_set, if_true, if_pos hsize, Option.some.injEq] at hx
    subst hx
    rw [hd]
    simp only [Act.put]
    refine ⟨by simp [htl], ?_⟩
    simpa [htl] using hv
  · have hnw : ¬ Wr ops j t := fun h => by
      simp only [Wr, hj, Option.bind_some] at h
      exact hd h
    obtain ⟨k1, k2⟩ := hI.tm t p x hp (fun i hi hw => by
      rcases (Ls_set hjs).1 (h1 i hi hw) with h | rfl
      · exact h
      · exact absurd hw hnw) (fun i hi hL => h2 i hi ((Ls_set hjs).2 (.inl hL))) hx
    have e : (a.put o.dst vv).tmps[t]? = a.tmps[t]? := by
      cases hdd : o.dst with
      | none => rfl
      | some d =>
        have hne : d ≠ t := fun e => hd (by rw [hdd, e])
        simp only [Act.put]
        rw [Array.getElem?_setIfInBounds_ne hne]
    have e2 : (a.put o.dst vv).tmps.getD t undef = a.tmps.getD t undef := by simp [e]
    rw [e, e2]
    exact ⟨k1, hmono _ _ k2⟩
theorem put_size (a : Act) (d : Option Tmp) (v : Value) : (a.put d v).tmps.size = a.tmps.size := by cases d <;> simp [Act.put]
theorem nextMut {k : Nat} (hk : k ≤ ops.size) : ∃ e', k ≤ e' ∧ e' ≤ ops.size ∧ (∀ i, k ≤ i → i < e' → ∀ o, ops[i]? = some o → memB i es = false → mutI ns sh i o = false) ∧ (e' = ops.size ∨ ∃ o, ops[e']? = some o ∧ mutI ns sh e' o = true ∧ memB e' es = false) := by
  have key : ∀ m q, q + m = ops.size → k ≤ q → (∀ i, k ≤ i → i < q → ∀ o, ops[i]? = some o → memB i es = false → mutI ns sh i o = false) →
      ∃ e', k ≤ e' ∧ e' ≤ ops.size ∧ (∀ i, k ≤ i → i < e' → ∀ o, ops[i]? = some o → memB i es = false → mutI ns sh i o = false) ∧ (e' = ops.size ∨ ∃ o, ops[e']? = some o ∧ mutI ns sh e' o = true ∧ memB e' es = false) := by
    intro m
    induction m with
    | zero => intro q hk h1 h2; exact ⟨q, h1, by omega, h2, .inl (by omega)⟩
    | succ m ih =>
      intro q hk h1 h2
      have hok : ops[q]? = some ops[q] := Array.getElem?_eq_getElem (by omega)
      by_cases hm : mutI ns sh q ops[q] = true ∧ memB q es = false
      · exact ⟨q, h1, by omega, h2, .inr ⟨_, hok, hm.1, hm.2⟩⟩
      · refine ih (q + 1) (by omega) (by omega) fun i hi1 hi2 o ho hmi => ?_
        by_cases hik : i = q
        · subst hik; rw [hok] at ho; cases ho
          cases h : mutI ns sh i ops[i] with
          | false => rfl
          | true => exact absurd ⟨h, hmi⟩ hm
        · exact h2 i hi1 (by omega) o ho hmi
  exact key (ops.size - k) k (by omega) (Nat.le_refl _) fun i h1 h2 => by omega
theorem Inv.step (ht : TraceE P sh ops es ns qs tms hps) (hf : fwdB ops = true) (hr : regB sh ops es ns = true) (hI : Inv P sh ops es ns qs gS w1 tms hps g0 H0 w0 listed a w g s e) {j : Nat} (hj : j ∈ Region.ready .any ops listed)
    {K : Act → World → Prop} (hK : ∀ a' w' g' s' e', Inv P sh ops es ns qs gS w1 tms hps g0 H0 w0 (listed.setIfInBounds j true) a' w' g' s' e' → K a' w') : wpOp P ops Q j K a w := by
  obtain ⟨hjun, o, hoj, hpre⟩ := mem_ready.1 hj
  obtain ⟨hun, hjs⟩ := unlisted hjun
  have hjl : j < ops.size := (Array.getElem?_eq_some_iff.1 hoj).1
  have hcl : Closed ops (listed.setIfInBounds j true) := fun k ok hk hL e he hb => by
    rcases (Ls_set hjs).1 hL with hL | rfl
    · exact (Ls_set hjs).2 (.inl (hI.closed k ok hk hL e he hb))
    · rw [hoj] at hk; cases hk
      exact (Ls_set hjs).2 (.inl (hpre e he hb))
  have hmj := hI.late hoj hun
  obtain ⟨_, hst, hld⟩ := (ht j o hoj).resolve_left fun h => by rw [hmj] at h; cases h.1
  by_cases hjs0 : j < s
  · obtain ⟨o', ho', hfr, _⟩ := (hI.done j hjs0).resolve_left hun
    rw [hoj] at ho'; cases ho'
    obtain ⟨_, v, htm, hF⟩ := hst.free hfr
    have hops : ∀ x ∈ o.op.operands, ∀ u, evD (tms j) x = some u → V3 g (hps e) w u (a.eval x) := fun x hx u hu =>
      ev_V3 (fun t ht' y hy => (hI.reads ht hr hoj hun hpre (by
        subst ht'
        unfold Oper.looksAt
        refine List.mem_append_left _ (List.mem_filterMap.2 ⟨.tmp t, by simpa using hx, rfl⟩)) hy).2) hu
    obtain ⟨vv, hrun, hvv⟩ := hF a w g (hps e) hops
    have hw : Region.wanted o (yielded ops a.tmps) = true := by simp [Region.wanted, isFree_guard hfr]
    unfold wpOp
    simp only [hoj, hw, if_true]
    left
    show o.upon P a _ Q ((execOp a.eval o).run P w)
    rw [hrun, Oper.upon_value]
    refine hK _ _ g s e ⟨by simpa using hI.size, hcl, hI.se, hI.en, fun i hi => (hI.done i hi).imp (fun h => (Ls_set hjs).2 (.inl h)) id, fun i hi hL => ?_, fun i h1 h2 => (Ls_set hjs).2 (.inl (hI.early i h1 h2)), hI.nomut, hI.emut, hI.tr, hI.good, fun τ => ?_,
      hI.put ht hr hoj hun htm (fun x u hxu => hxu) hvv, by rw [put_size]; exact hI.len, by rw [Act.put_def]; exact hI.defers, hI.tr1, fun k hk hn q hq b hb => hI.held k hk (fun i oi ho hL hE => hn i oi ho ((Ls_set hjs).2 (.inl hL)) hE) q hq b hb, hI.sz⟩
    · rcases (Ls_set hjs).1 hL with h | rfl
      · exact hI.rest i hi h
      · have := hI.se; omega
    · rw [hI.dom]
      constructor
      · rintro (h | ⟨i, h1, h2, h3, h4⟩)
        · exact .inl h
        · exact .inr ⟨i, h1, h2, (Ls_set hjs).2 (.inl h3), h4⟩
      · rintro (h | ⟨i, h1, h2, h3, h4⟩)
        · exact .inl h
        · rcases (Ls_set hjs).1 h3 with h | rfl
          · exact .inr ⟨i, h1, h2, h, h4⟩
          · omega
  have hje : s ≤ j := by omega
  obtain ⟨want, v, hgd, htm, hor⟩ := hst.go
  have hw := hgd.wanted (g := g) (H := hps e) (w := w) (a := a) (fun t ⟨k, b, hg, hd⟩ y hy => hI.reads ht hr hoj hun hpre (by
    unfold Oper.looksAt
    rw [hg]
    simp [hd]) hy)
  have hops : ∀ x ∈ o.op.operands, ∀ u, evD (tms j) x = some u → V3 g (hps e) w u (a.eval x) := fun x hx u hu =>
    ev_V3 (fun t ht' y hy => (hI.reads ht hr hoj hun hpre (by
      subst ht'
      unfold Oper.looksAt
      refine List.mem_append_left _ (List.mem_filterMap.2 ⟨.tmp t, by simpa using hx, rfl⟩)) hy).2) hu
  unfold wpOp
  simp only [hoj, hw]
  by_cases hlt : j < e
  · have hnm := hI.nomut j hje hlt o hoj hmj
    have hpre1 : hps (j + 1) <+: hps e := ht.pre (by omega) hI.en fun k h1 h2 => hI.nomut k (by omega) h2
    have hle : ∀ i k, s ≤ i → i ≤ k → k ≤ e → (hps i).length ≤ (hps k).length := fun i k h1 h2 h3 => (ht.pre h2 (Nat.le_trans h3 hI.en) fun q q1 q2 => hI.nomut q (by omega) (by omega)).length_le
    have hdom : ∀ τ, g.dom τ → τ < (hps j).length ∨ (hps (j + 1)).length ≤ τ := fun τ hτ => by
      rcases (hI.dom τ).1 hτ with h | ⟨i, h1, h2, h3, h4, h5⟩
      · left; have := hle s j (Nat.le_refl _) hje (by omega); omega
      · rcases Nat.lt_trichotomy i j with h | rfl | h
        · left; have := hle (i + 1) j (by omega) (by omega) (by omega); omega
        · exact absurd h3 hun
        · right; have := hle (j + 1) i (by omega) (by omega) (by omega); omega
    have newInv : ∀ (vv : Value) (w' : World) (g' : G), (∀ b, b < w.heap.size → w'.heap[b]? = w.heap[b]?) → Trans g (hps e) w g' (hps e) w' → Good g' (hps e) w' → (∀ τ, g'.dom τ ↔ g.dom τ ∨ ((hps j).length ≤ τ ∧ τ < (hps (j + 1)).length)) → V3 g' (hps e) w' v vv →
        Inv P sh ops es ns qs gS w1 tms hps g0 H0 w0 (listed.setIfInBounds j true) (a.put o.dst vv) w' g' s e := by
      intro vv w' g' kS k1 k2 k3 k4
      refine ⟨by simpa using hI.size, hcl, hI.se, hI.en, fun i hi => (hI.done i hi).imp (fun h => (Ls_set hjs).2 (.inl h)) id, fun i hi hL => ?_, fun i h1 h2 => (Ls_set hjs).2 (.inl (hI.early i h1 h2)), hI.nomut, hI.emut, hI.tr.trans k1, k2, fun τ => ?_,
        hI.put ht hr hoj hun htm (fun x u hxu => hxu.trans k1 hI.good) k4, by rw [put_size]; exact hI.len, by rw [Act.put_def]; exact hI.defers, hI.tr1.trans k1, fun k hk hn q hq b hb => ?_, Nat.le_trans hI.sz k1.size⟩
      · rcases (Ls_set hjs).1 hL with h | rfl
        · exact hI.rest i hi h
        · omega
      · rw [k3, hI.dom]
        constructor
        · rintro ((h | ⟨i, h1, h2, h3, h4⟩) | h)
          · exact .inl h
          · exact .inr ⟨i, h1, h2, (Ls_set hjs).2 (.inl h3), h4⟩
          · exact .inr ⟨j, hje, hlt, (Ls_set hjs).2 (.inr rfl), h⟩
        · rintro (h | ⟨i, h1, h2, h3, h4⟩)
          · exact .inl (.inl h)
          · rcases (Ls_set hjs).1 h3 with h | rfl
            · exact .inl (.inr ⟨i, h1, h2, h, h4⟩)
            · exact .inr h4
      · have h0 := hI.held k hk (fun i oi ho hL hE => hn i oi ho ((Ls_set hjs).2 (.inl hL)) hE) q hq b hb
        exact (kS b (Nat.lt_of_lt_of_le hb.1 hI.sz)).trans h0
    rcases hor with ⟨rfl, rfl, he⟩ | ⟨rfl, hor⟩
    · simp only [Bool.false_eq_true, if_false]
      refine hK _ _ g s e (newInv _ _ g (fun _ _ => rfl) (Trans.refl _ _ _) hI.good (fun τ => ⟨.inl, fun h => h.resolve_right (by rw [he]; omega)⟩) tup_undef)
    · simp only [if_true]
      left
      have hN : OpN P o (tms j) (hps j) v (hps (j + 1)) := by
        rcases hor with h | ⟨h, _⟩
        · exact h
        · rw [hnm] at h; cases h
      refine hN.2 Q a w g (hps e) _ hpre1 hdom hops hI.good fun vv w' g' k0 k1 k2 k3 k4 k5 => hK _ _ g' s e (newInv vv w' g' k0 k1 k2 k3 k4)
  · -- it is the operation that the segment ends with
    have hmutAll : ∀ i, i < e → Ls listed i ∨ ∃ o, ops[i]? = some o ∧ isFree o = true ∧ memB i es = false := by
      intro i hi
      have hee : e = j ∨ e < j := by omega
      obtain ⟨oe, hoe, hme, hmE⟩ := hI.emut.resolve_left (by omega)
      obtain ⟨oi, hoi⟩ : ∃ oi, ops[i]? = some oi := ⟨_, Array.getElem?_eq_getElem (show i < ops.size by omega)⟩
      have hne : ¬ e < j := fun h => by
        rcases reg_spec hr h hoe hoj hmE hmj with h1 | ⟨_, h1, _⟩
        · have := hI.rest e (Nat.le_refl _) (reach_preds hI.closed hoj hpre h1)
          rw [hmE] at this; cases this
        · rw [hme] at h1; cases h1
      have hej : e = j := hee.resolve_right hne
      subst hej
      rw [hoj] at hoe; cases hoe
      cases hmi : memB i es with
      | true => exact .inl (hI.early i (by omega) hmi)
      | false =>
        rcases reg_spec hr hi hoi hoj hmi hmj with h1 | ⟨_, _, h1 | h1⟩
        · exact .inl (reach_preds hI.closed hoj hpre h1)
        · rw [hme] at h1; cases h1
        · exact .inr ⟨oi, hoi, h1, rfl⟩
    have hej : e = j := by
      rcases Nat.lt_or_ge e j with h | h
      · obtain ⟨oe, hoe, hme, hmE⟩ := hI.emut.resolve_left (by omega)
        rcases reg_spec hr h hoe hoj hmE hmj with h1 | ⟨_, h1, _⟩
        · have := hI.rest e (Nat.le_refl _) (reach_preds hI.closed hoj hpre h1)
          rw [hmE] at this; cases this
        · rw [hme] at h1; cases h1
      · omega
    subst hej
    have hle : ∀ i k, s ≤ i → i ≤ k → k ≤ e → (hps i).length ≤ (hps k).length := fun i k h1 h2 h3 => (ht.pre h2 (Nat.le_trans h3 hI.en) fun q q1 q2 => hI.nomut q (by omega) (by omega)).length_le
    have hcov : ∀ k, s ≤ k → k ≤ e → ∀ τ, τ < (hps k).length → τ < (hps s).length ∨ ∃ i, s ≤ i ∧ i < e ∧ Ls listed i ∧ (hps i).length ≤ τ ∧ τ < (hps (i + 1)).length := by
      intro k
      induction k with
      | zero => intro h1 h2 τ hτ; obtain rfl : s = 0 := by omega
                exact .inl hτ
      | succ k ih =>
        intro h1 h2 τ hτ
        rcases Nat.lt_or_ge k s with h | h
        · obtain rfl : s = k + 1 := by omega
          exact .inl hτ
        · by_cases h3 : τ < (hps k).length
          · exact ih h (by omega) τ h3
          · rcases hmutAll k (by omega) with hL | ⟨ok, hok, hfk, hmk⟩
            · exact .inr ⟨k, h, by omega, hL, by omega, hτ⟩
            · exfalso
              rcases ht k ok hok with ⟨h', _⟩ | ⟨_, hsk, _⟩
              · rw [hmk] at h'; cases h'
              · rw [(hsk.free hfk).1] at hτ; exact h3 hτ
    have hdome : ∀ τ, g.dom τ ↔ τ < (hps e).length := fun τ => by
      rw [hI.dom]
      constructor
      · rintro (h | ⟨i, h1, h2, _, _, h5⟩)
        · have := hle s e (Nat.le_refl _) hje (Nat.le_refl _); omega
        · have := hle (i + 1) e (by omega) (by omega) (Nat.le_refl _); omega
      · exact hcov e hje (Nat.le_refl _) τ
    obtain ⟨e', he1, he2, he3, he4⟩ := nextMut (sh := sh) (ops := ops) (es := es) (ns := ns) (show e + 1 ≤ ops.size by omega)
    have hpre2 : hps (e + 1) <+: hps e' := ht.pre he1 he2 he3
    have newInv : ∀ (vv : Value) (w' : World) (g' : G), (∀ k, memB k es = true → ¬ PreO o k → ∀ q, (k, q) ∈ qs → ∀ b, Prot gS w1 q b → w'.heap[b]? = w.heap[b]?) → Trans g (hps e) w g' (hps (e + 1)) w' → Good g' (hps (e + 1)) w' → (∀ τ, g'.dom τ ↔ τ < (hps (e + 1)).length) → V3 g' (hps (e + 1)) w' v vv →
        Inv P sh ops es ns qs gS w1 tms hps g0 H0 w0 (listed.setIfInBounds e true) (a.put o.dst vv) w' g' (e + 1) e' := by
      intro vv w' g' kS k1 k2 k3 k4
      have hdd : ∀ τ, g'.dom τ → τ < (hps (e + 1)).length := fun τ h => (k3 τ).1 h
      have hext := Trans.ext (w := w') hpre2 hdd
      refine ⟨by simpa using hI.size, hcl, he1, he2, fun i hi => ?_, fun i hi hL => ?_, fun i h1 h2 => (Ls_set hjs).2 (.inl (hI.early i h1 h2)), he3, he4, (hI.tr.trans k1).trans hext, k2.ext hpre2 hdd, fun τ => ?_,
        hI.put ht hr hoj hun htm (fun x u hxu => (hxu.trans k1 hI.good).trans hext k2) (k4.trans hext k2), by rw [put_size]; exact hI.len, by rw [Act.put_def]; exact hI.defers, (hI.tr1.trans k1).trans hext, fun k hk hn q hq b hb => ?_, Nat.le_trans hI.sz k1.size⟩
      · by_cases h : i = e
        · exact .inl ((Ls_set hjs).2 (.inr h))
        · exact (hmutAll i (by omega)).imp (fun h => (Ls_set hjs).2 (.inl h)) id
      · rcases (Ls_set hjs).1 hL with h | rfl
        · exact hI.rest i (by omega) h
        · omega
      · rw [k3]
        refine ⟨.inl, fun h => h.resolve_right ?_⟩
        rintro ⟨i, h1, h2, h3, h4, h5⟩
        rcases (Ls_set hjs).1 h3 with h | rfl
        · have hmi := hI.rest i (by omega) h
          rcases ht i ops[i] (Array.getElem?_eq_getElem (by omega)) with ⟨_, _, he⟩ | ⟨h', _⟩
          · rw [he] at h5; omega
          · rw [hmi] at h'; cases h'
        · omega
      · have h0 := hI.held k hk (fun i oi ho hL hE => hn i oi ho ((Ls_set hjs).2 (.inl hL)) hE) q hq b hb
        exact (kS k hk (hn e o hoj ((Ls_set hjs).2 (.inr rfl)) hmj) q hq b hb).trans h0
    have hme : mutI ns sh e o = true := by
      rcases hI.emut with h | ⟨oe, hoe, hme, _⟩
      · omega
      · rw [hoj] at hoe; cases hoe; exact hme
    rcases hor with ⟨rfl, rfl, he⟩ | ⟨rfl, hor⟩
    · simp only [Bool.false_eq_true, if_false]
      exact hK _ _ g (e + 1) e' (newInv _ _ g (fun _ _ _ _ _ _ _ => rfl) (by rw [he]; exact Trans.refl _ _ _) (by rw [he]; exact hI.good) (fun τ => by rw [hdome, he]) tup_undef)
    · simp only [if_true]
      left
      have hM : OpM P o (tms e) (hps e) v (hps (e + 1)) := hor.elim OpN.toM And.right
      refine hM Q a w g _ hdome hops hI.good fun vv w' g' k1 k2 k3 k4 k5 => hK _ _ g' (e + 1) e' (newInv vv w' g' (fun k hk hnp q hq b hb => ?_) k1 k2 k3 k4)
      have hbl : b < w.heap.size := Nat.lt_of_lt_of_le hb.1 hI.sz
      have hqs : qs ≠ [] := fun e => by rw [e] at hq; cases hq
      rcases hld hqs hme with ⟨t, n, ps, ho⟩ | ⟨x, τ, hox, hown, hlate⟩
      · exact k5 b hbl fun hwr => by simp [wrB, ho] at hwr
      · rcases hb.2 with hS | ⟨τ0, o0, rfl, hd0, hρ0⟩
        · exact k1.keepS hI.good b (hI.tr1.S b hS)
        · rcases hlate k τ0 hq with h | ⟨hne, blk, hblk, hnd⟩
          · exact absurd h hnp
          · have hρ1 : g.ρ τ0 = some (b, o0) := (hI.tr1.ρ τ0 hd0).trans hρ0
            have hd1 := hI.tr1.dom τ0 hd0
            have hor : g.S b ∨ owned (hps e) τ0 := by
              obtain ⟨blk', p1, p2⟩ := hI.good.tok τ0 hd1
              rw [hblk] at p1; cases p1
              cases blk with
              | box v => exact .inr ⟨_, hblk, trivial⟩
              | rows m E' xs =>
                cases m with
                | live => exact .inr ⟨_, hblk, trivial⟩
                | dead => exact absurd rfl (hnd _ _)
                | frozen =>
                  rcases p2 with ⟨h0, _⟩ | ⟨b', o', h0, h1, _⟩
                  · rw [hρ1] at h0; cases h0
                  · rw [hρ1] at h0; cases h0; exact .inl (hI.good.sub _ h1)
            rcases hor with hS | hown0
            · exact k1.keepS hI.good b hS
            · refine k5 b hbl fun hwr => hne ?_
              rcases hox with ⟨⟨t, y, ho⟩, i, of, E, hx⟩ | ⟨⟨c, ho, hc, hcx⟩, E, r', cc, hx⟩
              · have hv := hops x (by simp [ho, Op.operands]) _ hx
                obtain ⟨hd, _, b', base, n, h1, h2, h3⟩ := hv
                unfold wrB at hwr
                simp only [ho] at hwr
                obtain ⟨kk, hk⟩ := hwr
                rw [hk] at h3
                cases h3
                exact hI.good.inj τ0 τ _ _ _ hd1 hd hρ1 h1 hown0 hown
              · have hmem : x ∈ c.args.toList := List.mem_of_getElem? (by rw [Array.getElem?_toList]; exact hcx)
                have hv := hops x (by simp only [ho, Op.operands, Call.operands]; simp [Array.mem_toList_iff.1 hmem]) _ hx
                obtain ⟨hd, hv⟩ := hv
                unfold wrB at hwr
                simp only [ho, hc] at hwr
                obtain ⟨x', hx', kk, l', c', hk, h0c⟩ := hwr
                rw [hcx] at hx'
                cases hx'
                cases hρτ : g.ρ τ with
                | none =>
                  rw [hρτ, hk] at hv
                  obtain ⟨⟨A, e2⟩, _⟩ := hv
                  cases e2
                  omega
                | some p =>
                  obtain ⟨b', base⟩ := p
                  rw [hρτ, hk] at hv
                  obtain ⟨k2, o2, l2, cap2, e2, _⟩ := hv
                  cases e2
                  exact hI.good.inj τ0 τ _ _ _ hd1 hd hρ1 hρτ hown0 hown
theorem Inv.fin (ht : TraceE P sh ops es ns qs tms hps) (hI : Inv P sh ops es ns qs gS w1 tms hps g0 H0 w0 listed a w g s e) (hall : ∀ i, i < ops.size → Ls listed i) : Trans g0 H0 w0 g (hps ops.size) w ∧ RS g (tms ops.size) (hps ops.size) a w := by
  have he : e = ops.size := by
    rcases Nat.lt_or_ge e ops.size with h | h
    · obtain ⟨oe, hoe, _, hmE⟩ := hI.emut.resolve_left (by omega)
      have := hI.rest e (Nat.le_refl _) (hall e h)
      rw [hmE] at this; cases this
    · have := hI.en; omega
  subst he
  have hle : ∀ i k, s ≤ i → i ≤ k → k ≤ ops.size → (hps i).length ≤ (hps k).length := fun i k h1 h2 h3 => (ht.pre h2 h3 fun q q1 q2 => hI.nomut q (by omega) (by omega)).length_le
  refine ⟨hI.tr, hI.good, fun τ => ?_, ?_, hI.defers⟩
  · rw [hI.dom]
    constructor
    · rintro (h | ⟨i, h1, h2, _, _, h5⟩)
      · have := hle s ops.size (Nat.le_refl _) hI.se (Nat.le_refl _); omega
      · have := hle (i + 1) ops.size (by omega) (by omega) (Nat.le_refl _); omega
    · have hcov : ∀ k, s ≤ k → k ≤ ops.size → ∀ τ, τ < (hps k).length → τ < (hps s).length ∨ ∃ i, s ≤ i ∧ i < ops.size ∧ Ls listed i ∧ (hps i).length ≤ τ ∧ τ < (hps (i + 1)).length := by
        intro k
        induction k with
        | zero => intro h1 h2 τ hτ; obtain rfl : s = 0 := by omega
                  exact .inl hτ
        | succ k ih =>
          intro h1 h2 τ hτ
          rcases Nat.lt_or_ge k s with h | h
          · obtain rfl : s = k + 1 := by omega
            exact .inl hτ
          · by_cases h3 : τ < (hps k).length
            · exact ih h (by omega) τ h3
            · exact .inr ⟨k, h, by omega, hall k (by omega), by omega, hτ⟩
      exact hcov _ hI.se (Nat.le_refl _) τ
  · have hlen : (tms ops.size).length = a.tmps.toList.length := by rw [ht.len (Nat.le_refl _), hI.len]; simp
    have key : ∀ (xs : List AV) (vs : List Value), xs.length = vs.length → (∀ (i : Nat) x v, xs[i]? = some x → vs[i]? = some v → V3 g (hps ops.size) w x v) → All2 (V3 g (hps ops.size) w) xs vs := by
      intro xs
      induction xs with
      | nil => intro vs h _; cases vs with | nil => trivial | cons _ _ => simp at h
      | cons x xs ih =>
        intro vs h hh
        cases vs with
        | nil => simp at h
        | cons v vs => exact ⟨hh 0 x v rfl rfl, ih vs (by simpa using h) fun i y u h1 h2 => hh (i + 1) y u (by simpa using h1) (by simpa using h2)⟩
    refine key _ _ hlen fun t x v hx hv => ?_
    obtain ⟨k1, k2⟩ := hI.tm t ops.size x (Nat.le_refl _) (fun i hi _ => hall i hi) (fun i hi hL hw => by
      cases ho : ops[i]? with
      | none => simp [Wr, ho] at hw
      | some oi => have := (Array.getElem?_eq_some_iff.1 ho).1; omega) hx
    have : a.tmps[t]? = some v := by simpa using hv
    rw [this] at k1
    cases k1
    exact k2
theorem ready_nil (hf : fwdB ops = true) (hs : listed.size = ops.size) (h : Region.ready .any ops listed = []) : ∀ i, i < ops.size → Ls listed i := by
  intro i
  induction i using Nat.strongRecOn with
  | _ i ih =>
    intro hi
    by_cases hL : Ls listed i
    · exact hL
    · exfalso
      have hoi : ops[i]? = some ops[i] := Array.getElem?_eq_getElem hi
      have hmem : i ∈ Region.ready .any ops listed := mem_ready.2 ⟨by
        simp only [Ls] at hL
        have hi' : i < listed.size := by omega
        simp [hi'] at hL ⊢
        exact hL, _, hoi, fun e he hb => ih e.on (fwd_spec hf hoi e he hb) (by have := fwd_spec hf hoi e he hb; omega)⟩
      rw [h] at hmem
      cases hmem
theorem count_set {i : Nat} (h : i < listed.size) (hu : listed.getD i true = false) : (listed.setIfInBounds i true).toList.count false + 1 = listed.toList.count false := by
  have hi : listed.toList[i]? = some false := by
    simp [h] at hu
    simp [h, hu]
  rw [Array.toList_setIfInBounds]
  have hlt : i < listed.toList.length := by simpa using h
  have hg : listed.toList[i] = false := (List.getElem?_eq_some_iff.1 hi).2
  rw [List.count_set hlt, hg]
  have hpos : 0 < listed.toList.count false := List.count_pos_iff.2 (List.mem_of_getElem? hi)
  have e1 : (if (false == false) = true then 1 else 0) = 1 := rfl
  have e2 : (if (true == false) = true then 1 else 0) = 0 := rfl
  rw [e1, e2]
  omega
theorem draw_any (ht : TraceE P sh ops es ns qs tms hps) (hf : fwdB ops = true) (hr : regB sh ops es ns = true)
    (hQ : ∀ g' a' w', Trans g0 H0 w0 g' (hps ops.size) w' → RS g' (tms ops.size) (hps ops.size) a' w' → Q .normal a' w') :
    ∀ (fuel : Nat) (listed : Array Bool) (a : Act) (w : World) (g : G) (s e : Nat), Inv P sh ops es ns qs gS w1 tms hps g0 H0 w0 listed a w g s e → listed.toList.count false ≤ fuel → wpAnyS P ops Q (fun k => memB k es) (SQ qs gS w1) fuel listed a w
  | 0, listed, a, w, g, s, e, hI, hc => by
    have hall : ∀ i, i < ops.size → Ls listed i := fun i hi => by
      have hi' : i < listed.size := by rw [hI.size]; exact hi
      cases hb : listed[i] with
      | true => simp [Ls, hi', hb]
      | false =>
        have : false ∈ listed.toList := by rw [← hb]; simp
        have := List.count_pos_iff.2 this
        omega
    have hrn : Region.ready .any ops listed = [] := by
      cases hR : Region.ready .any ops listed with
      | nil => rfl
      | cons i l =>
        have hm : i ∈ Region.ready .any ops listed := by rw [hR]; simp
        obtain ⟨hu, o, ho, _⟩ := mem_ready.1 hm
        exact absurd (hall i (Array.getElem?_eq_some_iff.1 ho).1) (unlisted hu).1
    obtain ⟨k1, k2⟩ := hI.fin ht hall
    exact ⟨hrn, hQ g a w k1 k2⟩
  | fuel + 1, listed, a, w, g, s, e, hI, hc => by
    refine ⟨fun hrn => ?_, fun i hi => ?_⟩
    · obtain ⟨k1, k2⟩ := hI.fin ht (ready_nil hf hI.size hrn)
      exact hQ g a w k1 k2
    · obtain ⟨hu, o, ho, _⟩ := mem_ready.1 hi
      have := count_set (unlisted hu).2 hu
      exact hI.step ht hf hr hi fun a' w' g' s' e' hI' => ⟨hI'.held, draw_any ht hf hr hQ fuel _ a' w' g' s' e' hI' (by omega)⟩
end
section
variable {T : TypeId → Option TI} {C : CF} {r : AV × List Blk}
theorem RS.heap {g : G} {tm : List AV} {hp : List Blk} {a : Act} {w : World} (h : RS g tm hp a w) {w' : World} (hh : w'.heap = w.heap) (he : Env w w') : RS g tm hp a w' :=
  ⟨h.good.heap hh he, h.dom, h.tmps.imp fun _ _ hv => hv.trans (Trans.heap hh he) h.good, h.defers⟩
theorem StepP.toE {o : Oper} {tm : List AV} {hp : List Blk} {κ : AV → List Blk → R} (h : StepP P o tm hp κ r) : StepE P none o tm hp κ r := by
  obtain ⟨v, h1, h2⟩ := h
  refine ⟨v, h1, fun a w g H hH hh hg => ?_⟩
  obtain ⟨vv, h3, h4⟩ := h2 a w g H hH (fun τ _ => by omega) hh hg
  exact ⟨vv, fun w2 _ => h3 w2, h4⟩
theorem bin_stepE {o : Oper} {tm : List AV} {hp : List Blk} {κ : AV → List Blk → R} {op : BinOp} {t ty : TypeId} {x y : Operand} (ho : o.op = .binOp op t x y ty) (ha : arithB op = true) {k k' : IntKind} {m n : Int} (hx : evD tm x = some (.int k m)) (hy : evD tm y = some (.int k' n))
    (h : binK op (.int k m) (.int k' n) (fun v => κ v hp) = some r) : StepE P none o tm hp κ r := by
  unfold binK at h
  simp only at h
  split at h
  · cases ha
  · cases ha
  · rename_i hne1 hne2
    obtain ⟨hk, h⟩ := cond_none h
    have hk : k = k' := of_decide_eq_true hk
    subst hk
    try simp only [decide_true, cond_true] at h
    obtain ⟨v, hv, vv, hr, hor⟩ := intBin_ok (P := P) h
    refine ⟨v, hv, fun a w g H _ hh _ => ⟨vv, fun w2 _ => ?_, ?_⟩⟩
    · have h1 := V3_int.1 (hh x (by simp [ho, Op.operands]) _ hx)
      have h2 := V3_int.1 (hh y (by simp [ho, Op.operands]) _ hy)
      refine binOp_run ho (eqGuard_plain (.inl ⟨_, _, h1⟩)) ?_
      rw [h1, h2]
      have := hr w2
      cases op <;> first
        | exact absurd rfl hne1
        | exact absurd rfl hne2
        | simpa [binOp] using this
    · rcases hor with ⟨n, rfl, rfl⟩ | ⟨t, rfl, rfl⟩
      · exact V3_int.2 rfl
      · exact V3_bool.2 rfl
theorem ear_step (hT : TOk P T) {o : Oper} {tm : List AV} {hp : List Blk} {κ : AV → List Blk → R} (he : isEar o = true) (h0 : earK o tm (aopK T C sh o tm hp κ) = some r) : ∃ q, StepE P q o tm hp κ r ∧ (q = none ∨ ∃ t x v, o.op = .load t x ∧ evD tm x = some v ∧ q = some (ptrQ v)) := by
  have hb : ∀ op t x y ty, o.op = .binOp op t x y ty → ∃ k m k' n, arithB op = true ∧ evD tm x = some (.int k m) ∧ evD tm y = some (.int k' n) := by
    intro op t x y ty ho
    unfold earK at h0
    simp only [ho] at h0
    obtain ⟨h1, h2⟩ := cond_none h0
    obtain ⟨u, hu, h3⟩ := evK_some h2
    split at h3
    · obtain ⟨u', hu', h4⟩ := evK_some h3
      split at h4
      · exact ⟨_, _, _, _, h1, hu, hu'⟩
      · cases h4
    · cases h3
  have h : aopK T C sh o tm hp κ = some r := by
    unfold earK at h0
    split at h0
    · obtain ⟨h1, h2⟩ := cond_none h0
      obtain ⟨u, hu, h3⟩ := evK_some h2
      split at h3
      · obtain ⟨u', hu', h4⟩ := evK_some h3
        split at h4
        · exact h4
        · cases h4
      · cases h3
    · exact h0
  clear h0
  unfold aopK at h
  unfold isEar at he
  split at h <;> first
    | (rename_i ho; simp [ho] at he; done)
    | skip
  · rename_i x ho
    obtain ⟨v, hv, h⟩ := evK_some h
    exact ⟨none, ⟨v, h, fun a w g H _ hh _ => ⟨a.eval x, fun w2 _ => by simp [execOp, ho], hh x (by simp [ho, Op.operands]) v hv⟩⟩, .inl rfl⟩
  · rename_i t x ho
    obtain ⟨v, hv, h1⟩ := load_stepE hT ho h
    exact ⟨_, h1, .inr ⟨_, _, _, ho, hv, rfl⟩⟩
  · rename_i op t x y ty ho
    obtain ⟨k, m, k', n, h1, h2, h3⟩ := hb op t x y ty ho
    obtain ⟨X, hX, h4⟩ := evK_some h
    obtain ⟨Y, hY, h5⟩ := evK_some h4
    rw [h2] at hX; cases hX
    rw [h3] at hY; cases hY
    exact ⟨none, bin_stepE ho h1 h2 h3 h5, .inl rfl⟩
  · rename_i op t x ho
    exact ⟨none, (unOp_stepP ho h).toE, .inl rfl⟩
  · rename_i t x lo hi mx ho
    exact ⟨none, slice_stepE hT ho h, .inl rfl⟩
  · rename_i t x f ho
    exact ⟨none, (fieldAddr_stepP hT ho h).toE, .inl rfl⟩
  · rename_i t x ix ho
    exact ⟨none, (indexAddr_stepP hT ho h).toE, .inl rfl⟩
theorem mark_ok {o : Oper} {i : Nat} {tm : List AV} {qs : List (Nat × Option Nat)} {κ : List (Nat × Option Nat) → R} (h : markK o i tm qs κ = some r) : ∃ qs', κ qs' = some r ∧ (∀ x ∈ qs, x ∈ qs') ∧
    (∀ t x v, o.op = .load t x → evD tm x = some v → (i, ptrQ v) ∈ qs') := by
  unfold markK at h
  split at h
  · rename_i t x ho
    obtain ⟨v, hv, h1⟩ := evK_some h
    have fin : ∀ q, ptrQ v = q → κ ((i, q) :: qs) = some r → ∃ qs', κ qs' = some r ∧ (∀ x ∈ qs, x ∈ qs') ∧ (∀ t x v, o.op = .load t x → evD tm x = some v → (i, ptrQ v) ∈ qs') := by
      intro q hq hk
      refine ⟨_, hk, fun x hx => List.mem_cons_of_mem _ hx, fun t' x' v' ho' hv' => ?_⟩
      rw [ho] at ho'; cases ho'
      rw [hv] at hv'; cases hv'
      rw [hq]; exact List.mem_cons_self
    split at h1
    · exact fin _ rfl h1
    · rename_i hne
      refine fin none ?_ h1
      cases v <;> first
        | rfl
        | exact absurd rfl (hne _ _ _ _)
  · rename_i hne
    exact ⟨qs, h, fun x hx => hx, fun t x v ho _ => absurd ho (hne t x)⟩
theorem early_ok (hT : TOk P T) (hs : Region.noSelect ops = true) (hQ : ∀ c a d v w, Q (.panic c) (Act.put a d v) w → Q (.panic c) a w) {g : G} {hp : List Blk} {w : World} {es0 : List (Tmp × Nat)} {κ : List (Nat × Option Nat) → List AV → List Blk → R} :
    ∀ {es : List (Tmp × Nat)} {qs : List (Nat × Option Nat)} {tm : List AV} {listed : Array Bool} {a : Act}, earlyK T C sh ops.toList es qs tm hp κ = some r → (∀ i, memB i es = true → memB i es0 = true) → earB ops es listed = true → listed.size = ops.size → Closed ops listed → RS g tm hp a w →
    ∃ qs' tm' a' listed', κ qs' tm' hp = some r ∧ (∀ x ∈ qs, x ∈ qs') ∧ RS g tm' hp a' w ∧ listed'.size = ops.size ∧ Closed ops listed' ∧ (∀ i, Ls listed' i ↔ Ls listed i ∨ memB i es = true) ∧ listed'.toList.count false + es.length = listed.toList.count false ∧
      ∀ QL, (∀ x ∈ qs', x ∈ QL) → ∀ fuel, wpAnyS P ops Q (fun k => memB k es0) (SQ QL g w) fuel listed' a' w → wpAnyS P ops Q (fun k => memB k es0) (SQ QL g w) (fuel + es.length) listed a w
  | [], qs, tm, listed, a, h, _, _, hz, hc, hst => ⟨qs, tm, a, listed, h, fun _ h => h, hst, hz, hc, fun i => by simp [memB], by simp, fun QL _ fuel h => h⟩
  | (i, q) :: es, qs, tm, listed, a, h, hl, hb, hz, hc, hst => by
    unfold earlyK at h
    obtain ⟨o, ho, h1⟩ := getK_some h
    have hoi : ops[i]? = some o := by simpa using ho
    split at h1
    case h_2 => cases h1
    rename_i hg
    obtain ⟨he, h2⟩ := cond_none h1
    obtain ⟨qs1, h2, hsub, hmark⟩ := mark_ok h2
    obtain ⟨qq, ⟨v, h3, h4⟩, hqq⟩ := ear_step hT he h2
    dsimp only at h3
    rw [putK_eq] at h3
    obtain ⟨vv, h5, h6⟩ := h4 a w g hp (List.prefix_refl _) (fun x _ u hu => hst.tmps.ev hu) hst.good
    simp only [earB, Bool.and_eq_true] at hb
    obtain ⟨⟨hb1, hb2⟩, hb3⟩ := hb
    have hmem : i ∈ Region.ready .any ops listed := by simpa using hb1
    obtain ⟨hu, o', ho', hpre⟩ := mem_ready.1 hmem
    rw [hoi] at ho'; cases ho'
    obtain ⟨hun, hjs⟩ := unlisted hu
    have hmi : ∀ k, memB k ((i, q) :: es) = bif Nat.beq i k then true else memB k es := fun k => rfl
    have hcl : Closed ops (listed.setIfInBounds i true) := fun k ok hk hL e he hb => by
      rcases (Ls_set hjs).1 hL with hL | rfl
      · exact (Ls_set hjs).2 (.inl (hc k ok hk hL e he hb))
      · rw [hoi] at hk; cases hk
        exact (Ls_set hjs).2 (.inl (hpre e he hb))
    obtain ⟨qs', tm', a', listed', r1, rs, r2, r3, r4, r5, r6, r7⟩ := early_ok hT hs hQ (es0 := es0) (a := a.put o.dst vv) h3 (fun k hk => hl k (by rw [hmi, hk]; cases Nat.beq i k <;> rfl)) hb3 (by simpa using hz) hcl ⟨hst.good, hst.dom, hst.tmps.put h6 _, by rw [Act.put_def]; exact hst.defers⟩
    refine ⟨qs', tm', a', listed', r1, fun x hx => rs x (hsub x hx), r2, r3, r4, fun k => ?_, ?_, fun QL hQL fuel hH => ?_⟩
    · rw [r5, Ls_set hjs, hmi]
      by_cases hk : i = k
      · subst hk; simp
      · have : Nat.beq i k = false := by
          cases hbb : Nat.beq i k with
          | false => rfl
          | true => exact absurd (Nat.eq_of_beq_eq_true hbb) hk
        simp only [this, cond_false]
        constructor
        · rintro ((h | h) | h)
          · exact .inl h
          · exact absurd h.symm hk
          · exact .inr h
        · rintro (h | h)
          · exact .inl (.inl h)
          · exact .inr h
    · have := count_set hjs hu
      simp only [List.length_cons]
      omega
    · have := r7 QL hQL fuel hH
      rw [List.length_cons, ← Nat.add_assoc]
      refine wpAnyS_first hoi (hl i (by rw [hmi]; simp)) (Region.noSelect_spec hs) (fun c a w => hQ c a _ _ w) _ listed a w (Region.free_spec hoi hb2) hc hmem (.inl ⟨by simp [Region.wanted, hg], fun w2 hw => h5 w2 fun q' hq' b hb => ?_⟩) (fun k _ _ q' _ b _ => rfl) this
      rcases hqq with e | ⟨t, x, u, e1, e2, e3⟩
      · rw [e] at hq'; cases hq'
      · rw [e3] at hq'
        cases hq'
        exact hw _ (hQL _ (rs _ (hmark t x u e1 e2))) b hb
theorem draw_ok (hT : TOk P T) (hC : CSound P C) {id : Nat} (hm : P.follows .mixedOrders = true) {es ns : List (Tmp × Nat)} (hok : drawB sh ops es ns = true) {tm : List AV} {hp : List Blk} {κ : List AV → List Blk → R}
    (h : (earlyK T C sh ops.toList es [] tm hp fun qs tm hp => opsE T C sh ops.toList es ns qs 0 ops.toList tm hp κ) = some r)
    {g0 : G} {H0 : List Blk} {w0 : World} {g : G} {a : Act} {w : World}
    (htr : Trans g0 H0 w0 g hp w) (hst : RS g tm hp a w) (hQ : ∀ tm' hp' g' a' w', κ tm' hp' = some r → Trans g0 H0 w0 g' hp' w' → RS g' tm' hp' a' w' → Q .normal a' w') :
    (Code.region id ops true).wp P Q a w := by
  simp only [drawB, Bool.and_eq_true] at hok
  obtain ⟨⟨⟨hf, hr⟩, hs⟩, hb⟩ := hok
  refine wp_mono (Q := fun e a w => e = .normal ∧ Q .normal a w) ?_ fun e a w h => by rw [h.1]; exact h.2
  have hb0 := hb
  have hh : (w.drew).heap = w.heap := rfl
  have hd0 := Trans.heap (g := g) (H := hp) hh ⟨rfl, rfl, rfl, Nat.le_succ _⟩
  obtain ⟨qs, tm', a', listed', r1, _, r2, r3, r4, r5, r6, r7⟩ := early_ok (es0 := es) (Q := fun e a w => e = .normal ∧ Q .normal a w) hT hs (fun c a d v w h => by cases h.1) h (fun _ e => e) hb (by simp) (fun j o _ hL => absurd hL noLs) (hst.heap hh ⟨rfl, rfl, rfl, Nat.le_succ _⟩)
  refine wp_region_S (E := fun k => memB k es) (S := SQ qs g w.drew) hm ?_
  obtain ⟨tms, hps, e1, e2, e3, e4⟩ := opsE_ok hT hC r1
  subst e1; subst e2
  have ht : TraceE P sh ops es ns qs tms hps := fun j o hj => by
    have := e4 j o (by simpa using hj)
    simpa using this
  have hcnt : (Array.replicate ops.size false).toList.count false = ops.size := by simp
  rw [hcnt] at r6
  have hfuel : ops.size = (ops.size - es.length) + es.length := by omega
  have key := r7 qs (fun _ h => h) (ops.size - es.length) ?_
  · rw [← hfuel] at key
    exact key
  obtain ⟨e, he1, he2, he3, he4⟩ := nextMut (sh := sh) (ops := ops) (es := es) (ns := ns) (Nat.zero_le _)
  have hpre := ht.pre (Nat.zero_le e) he2 he3
  have hdd : ∀ τ, g.dom τ → τ < (hps 0).length := fun τ h => (r2.dom τ).1 h
  have hext := Trans.ext (w := w.drew) hpre hdd
  have hL : ∀ i, Ls listed' i → memB i es = true := fun i h => ((r5 i).1 h).resolve_left noLs
  refine draw_any ht hf hr (fun g' a' w' k1 k2 => ⟨rfl, hQ _ _ g' a' w' (by simpa using e3) k1 k2⟩) _ listed' a' w.drew g 0 e ⟨r3, r4, Nat.zero_le _, he2, fun i hi => by omega, fun i _ h => hL i h, fun i _ h => (r5 i).2 (.inr h), he3, he4, (htr.trans hd0).trans hext, r2.good.ext hpre hdd, fun τ => ?_, fun t p x hp h1 h2 hx => ?_, ?_, r2.defers, hext, fun k _ _ q _ b _ => rfl, Nat.le_refl _⟩ ?_
  · rw [r2.dom]
    refine ⟨.inl, fun h => h.resolve_right ?_⟩
    rintro ⟨i, h1, h2, h3, h4, h5⟩
    rcases ht i ops[i] (Array.getElem?_eq_getElem (by omega)) with ⟨_, _, he⟩ | ⟨h', _⟩
    · rw [he] at h5; omega
    · rw [hL i h3] at h'; cases h'
  · have hs := ht.same (t := t) (Nat.zero_le p) hp fun i _ hi hw => hL i (h1 i hi hw)
    rw [hs] at hx
    obtain ⟨k1, k2⟩ := r2.tmps.get hx
    exact ⟨k1, k2.trans hext r2.good⟩
  · have := All2_len r2.tmps; simpa using this
  · omega
end
end
end Go.AM
namespace Go.AM
theorem joinL_some : ∀ {l : List R} {r : AV × List Blk}, joinL l = some r → ∀ x ∈ l, x = some r
  | [], r, h, _, _ => by cases h
  | [x], r, h, y, hy => by simp at hy; subst hy; exact h
  | x :: y :: l, r, h, z, hz => by
    obtain ⟨h1, h2⟩ := sameR_some h
    rcases List.mem_cons.1 hz with e | hz
    · subst e; exact h1
    · exact joinL_some h2 z hz
section
variable {P : Program} {T : TypeId → Option TI} {C : CF} {sh : FuncId → Bool} {ops : Array Oper} {Q : Exit → Act → World → Prop} {r : AV × List Blk}
theorem readyL_mem {done : List Nat} : ∀ {l : List Oper} {j0 j : Nat} {o : Oper}, (j, o) ∈ readyL done l j0 ↔ ∃ i, j = j0 + i ∧ l[i]? = some o ∧ doneN j done = false ∧ ∀ e ∈ o.after, Region.binds .any e = true → doneN e.on done = true
  | [], j0, j, o => by simp [readyL]
  | o' :: l, j0, j, o => by
    have hc : (!doneN j0 done && o'.after.toList.all (fun e => !Region.binds .any e || doneN e.on done)) = true ↔ doneN j0 done = false ∧ ∀ e ∈ o'.after, Region.binds .any e = true → doneN e.on done = true := by
      rw [Bool.and_eq_true, List.all_eq_true]
      simp only [Bool.not_eq_true', Bool.or_eq_true, Array.mem_toList_iff]
      constructor
      · rintro ⟨h1, h2⟩
        exact ⟨h1, fun e he hb => (h2 e he).resolve_left (by rw [hb]; simp)⟩
      · rintro ⟨h1, h2⟩
        refine ⟨h1, fun e he => ?_⟩
        cases hb : Region.binds .any e with
        | true => exact .inr (h2 e he hb)
        | false => exact .inl rfl
    have rest : (j, o) ∈ readyL done l (j0 + 1) ↔ ∃ i, j = j0 + (i + 1) ∧ l[i]? = some o ∧ doneN j done = false ∧ ∀ e ∈ o.after, Region.binds .any e = true → doneN e.on done = true := by
      rw [readyL_mem]
      constructor <;> rintro ⟨i, h1, h2⟩ <;> exact ⟨i, by omega, h2⟩
    unfold readyL
    cases hb : (!doneN j0 done && o'.after.toList.all (fun e => !Region.binds .any e || doneN e.on done)) with
    | true =>
      simp only [cond_true, List.mem_cons, Prod.mk.injEq]
      rw [rest]
      constructor
      · rintro (⟨rfl, rfl⟩ | ⟨i, h1, h2⟩)
        · exact ⟨0, rfl, rfl, hc.1 hb⟩
        · exact ⟨i + 1, h1, by simpa using h2⟩
      · rintro ⟨i, h1, h2, h3⟩
        cases i with
        | zero => left; simp at h2; exact ⟨by omega, h2.symm⟩
        | succ i => right; exact ⟨i, h1, by simpa using h2, h3⟩
    | false =>
      simp only [cond_false]
      rw [rest]
      constructor
      · rintro ⟨i, h1, h2⟩
        exact ⟨i + 1, h1, by simpa using h2⟩
      · rintro ⟨i, h1, h2, h3⟩
        cases i with
        | zero =>
          exfalso
          simp at h2; subst h2
          have := hc.2 (by rw [show j0 = j by omega]; exact h3)
          rw [this] at hb; cases hb
        | succ i => exact ⟨i, h1, by simpa using h2, h3⟩
structure DoneOk (ops : Array Oper) (done : List Nat) (listed : Array Bool) : Prop where
  size : listed.size = ops.size
  lt : ∀ k, doneN k done = true → k < ops.size
  get : ∀ k, k < ops.size → listed[k]? = some (doneN k done)
theorem DoneOk.ready {done : List Nat} {listed : Array Bool} (h : DoneOk ops done listed) {j : Nat} : j ∈ Region.ready .any ops listed ↔ ∃ o, ops[j]? = some o ∧ (j, o) ∈ readyL done ops.toList 0 := by
  have hg : ∀ k, listed.getD k false = doneN k done := fun k => by
    rw [Array.getD_eq_getD_getElem?]
    by_cases hk : k < ops.size
    · rw [h.get k hk]; rfl
    · rw [Array.getElem?_eq_none (by rw [h.size]; omega)]
      cases hm : doneN k done with
      | false => rfl
      | true => exact absurd (h.lt k hm) hk
  rw [mem_ready]
  constructor
  · rintro ⟨h1, o, ho, h2⟩
    have hjl := (Array.getElem?_eq_some_iff.1 ho).1
    refine ⟨o, ho, readyL_mem.2 ⟨j, by omega, by simpa using ho, ?_, fun e he hb => by rw [← hg]; exact h2 e he hb⟩⟩
    rw [Array.getD_eq_getD_getElem?, h.get j hjl] at h1
    exact h1
  · rintro ⟨o, ho, hm⟩
    obtain ⟨i, h1, _, h3, h4⟩ := readyL_mem.1 hm
    have hjl := (Array.getElem?_eq_some_iff.1 ho).1
    refine ⟨by rw [Array.getD_eq_getD_getElem?, h.get j hjl]; exact h3, o, ho, fun e he hb => by rw [hg]; exact h4 e he hb⟩
theorem DoneOk.set {done : List Nat} {listed : Array Bool} (h : DoneOk ops done listed) {j : Nat} (hj : j < ops.size) : DoneOk ops (j :: done) (listed.setIfInBounds j true) where
  size := by simpa using h.size
  lt := fun k hk => by
    unfold doneN at hk
    cases hb : Nat.beq j k with
    | true => have := Nat.eq_of_beq_eq_true hb; omega
    | false => rw [hb] at hk; exact h.lt k hk
  get := fun k hk => by
    rw [Array.getElem?_setIfInBounds]
    unfold doneN
    by_cases e : j = k
    · subst e
      simp [h.size, hj]
    · have hb : Nat.beq j k = false := by
        cases hbb : Nat.beq j k with
        | false => rfl
        | true => exact absurd (Nat.eq_of_beq_eq_true hbb) e
      rw [if_neg e, h.get k hk, hb]; rfl
theorem all_ok (hT : TOk P T) (hC : CSound P C) {κ : List AV → List Blk → R} {g0 : G} {H0 : List Blk} {w0 : World}
    (hQ : ∀ tm' hp' g' a' w', κ tm' hp' = some r → Trans g0 H0 w0 g' hp' w' → RS g' tm' hp' a' w' → Q .normal a' w') :
    ∀ (fuel : Nat) (done : List Nat) (listed : Array Bool) (tm : List AV) (hp : List Blk) (g : G) (a : Act) (w : World), DoneOk ops done listed → allK T C sh ops.toList κ (fuel + 1) done tm hp = some r → Trans g0 H0 w0 g hp w → RS g tm hp a w → wpAny P .any ops Q fuel listed a w := by
  intro fuel
  have base : ∀ (n : Nat) (done : List Nat) (listed : Array Bool) (tm : List AV) (hp : List Blk), DoneOk ops done listed → allK T C sh ops.toList κ (n + 1) done tm hp = some r → (Region.ready .any ops listed = [] → κ tm hp = some r) ∧
      ∀ i ∈ Region.ready .any ops listed, ∀ o, ops[i]? = some o → opsK T C sh ops.toList [o] tm hp (fun tm hp => allK T C sh ops.toList κ n (i :: done) tm hp) = some r := by
    intro n done listed tm hp hd h
    unfold allK at h
    split at h
    · rename_i e
      refine ⟨fun _ => h, fun i hi => ?_⟩
      obtain ⟨o, _, hm⟩ := hd.ready.1 hi
      rw [e] at hm; cases hm
    · rename_i p ps e
      refine ⟨fun e' => ?_, fun j hj o ho => ?_⟩
      · exfalso
        have hm : (p.1, p.2) ∈ readyL done ops.toList 0 := by rw [e]; simp
        obtain ⟨i, h1, h2, _⟩ := readyL_mem.1 hm
        have : p.1 ∈ Region.ready .any ops listed := hd.ready.2 ⟨p.2, by rw [h1, Nat.zero_add]; simpa using h2, hm⟩
        rw [e'] at this; cases this
      · obtain ⟨o', ho', hm⟩ := hd.ready.1 hj
        rw [ho] at ho'; cases ho'
        rw [e] at hm
        exact joinL_some h _ (List.mem_map.2 ⟨(j, o), hm, rfl⟩)
  induction fuel with
  | zero =>
    intro done listed tm hp g a w hd h ht hs
    obtain ⟨h1, h2⟩ := base 0 done listed tm hp hd h
    cases hr : Region.ready .any ops listed with
    | nil => exact ⟨hr, hQ _ _ g a w (h1 hr) ht hs⟩
    | cons i is =>
      obtain ⟨_, o, ho, _⟩ := mem_ready.1 (show i ∈ Region.ready .any ops listed by rw [hr]; simp)
      have := h2 i (by rw [hr]; simp) o ho
      obtain ⟨tms, hps, _, _, e3, _⟩ := ops_ok hT hC this
      simp only [allK] at e3
      cases e3
  | succ fuel ih =>
    intro done listed tm hp g a w hd h ht hs
    obtain ⟨h1, h2⟩ := base (fuel + 1) done listed tm hp hd h
    refine ⟨fun e => hQ _ _ g a w (h1 e) ht hs, fun i hi => ?_⟩
    obtain ⟨_, o, ho, _⟩ := mem_ready.1 hi
    have hil := (Array.getElem?_eq_some_iff.1 ho).1
    obtain ⟨tms, hps, e1, e2, e3, e4⟩ := ops_ok hT hC (h2 i hi o ho)
    obtain ⟨want, v, hgd, htm, hor⟩ := (e4.step 0 o rfl).go
    simp only [List.length_cons, List.length_nil, Nat.zero_add] at e3
    subst e1; subst e2
    have hw := hgd.wanted (g := g) (H := hps 0) (w := w) (a := a) (fun t _ y hy => hs.tmps.get hy)
    unfold wpOp
    simp only [ho, hw]
    rcases hor with ⟨rfl, rfl, he⟩ | ⟨rfl, hor⟩
    · simp only [Bool.false_eq_true, if_false]
      refine ih _ _ _ _ g _ w (hd.set hil) e3 (by rw [he]; exact ht) ⟨by rw [he]; exact hs.good, by rw [he]; exact hs.dom, ?_, by rw [Act.put_def]; exact hs.defers⟩
      rw [he, htm]
      exact hs.tmps.put tup_undef _
    · simp only [if_true]
      left
      have hM : OpM P o (tms 0) (hps 0) v (hps 1) := hor.elim OpN.toM And.right
      refine hM Q a w g _ hs.dom (fun x _ u hu => hs.tmps.ev hu) hs.good fun vv w' g' k1 k2 k3 k4 _ => ?_
      refine ih _ _ _ _ g' _ w' (hd.set hil) e3 (ht.trans k1) ⟨k2, k3, ?_, by rw [Act.put_def]; exact hs.defers⟩
      rw [htm]
      exact TmR.put (hs.tmps.imp fun _ _ h => h.trans k1 hs.good) k4 _
theorem all_region (hT : TOk P T) (hC : CSound P C) {id : Nat} (hm : P.follows .mixedOrders = true) {tm : List AV} {hp : List Blk} {κ : List AV → List Blk → R}
    (h : allK T C sh ops.toList κ (ops.size + 1) [] tm hp = some r) {g0 : G} {H0 : List Blk} {w0 : World} {g : G} {a : Act} {w : World}
    (htr : Trans g0 H0 w0 g hp w) (hst : RS g tm hp a w) (hQ : ∀ tm' hp' g' a' w', κ tm' hp' = some r → Trans g0 H0 w0 g' hp' w' → RS g' tm' hp' a' w' → Q .normal a' w') :
    (Code.region id ops true).wp P Q a w := by
  have hh : (w.drew).heap = w.heap := rfl
  have hd0 := Trans.heap (g := g) (H := hp) hh ⟨rfl, rfl, rfl, Nat.le_succ _⟩
  refine wp_region_any hm (all_ok hT hC hQ ops.size [] _ tm hp g a w.drew ⟨by simp, fun k hk => by simp [doneN] at hk, fun k hk => ?_⟩ h (htr.trans hd0) (hst.heap hh ⟨rfl, rfl, rfl, Nat.le_succ _⟩))
  simp [doneN, hk]
end
end Go.AM
namespace Go.AM
section
variable {P : Program} {T : TypeId → Option TI} {C : CF} {sh : FuncId → Bool} {r : AV × List Blk}
noncomputable def codeOk (sh : FuncId → Bool) (keep : Nat → List (Tmp × Nat)) (c : Code) : Bool :=
  @Code.rec (fun _ => Bool) true (fun id ops d => bif d then (match keep (35000 + id) with | _ :: _ => true | [] => drawB sh ops (keep (20000 + id)) (keep (25000 + id))) else true) (fun _ _ a b => a && b) (fun _ _ _ a b => a && b) (fun _ _ b => b) (fun _ b => b)
    (fun _ _ _ _ a b => a && b) (fun _ => true) (fun _ a => a) (fun _ => true) (fun _ => true) true (fun _ => true) c
def exE : Ex → Exit
  | .normal => .normal
  | .exit i => .exit i
  | .ret => .ret
theorem wp_loop_n {c : Code} {Q : Exit → Act → World → Prop} (I : Nat → Act → World → Prop) (h0 : ∀ a w, ¬ I 0 a w) (round : ∀ n a w, I (n + 1) a w → c.wp P (Exit.then (I n) Q) a w) {n : Nat} {a : Act} {w : World} (h : I n a w) : (Code.loop c).wp P Q a w := by
  intro b k cs
  have key : ∀ n a w, I n a w → ∃ e a' w', Q e a' w' ∧ Arrives P (lone (b.at a (.code c :: .inLoop c :: k)) cs w) b k cs e a' w' := by
    intro n
    induction n with
    | zero => intro a w h; exact absurd h (h0 a w)
    | succ n ih =>
      intro a w hI
      obtain ⟨e, a₁, w₁, hq, harr⟩ := round n a w hI b (.inLoop c :: k) cs
      cases e with
      | normal =>
        obtain ⟨e₂, a₂, w₂, hq₂, harr₂⟩ := ih a₁ w₁ hq
        exact ⟨e₂, a₂, w₂, hq₂, .of_steps (Steps.trans harr (.one step_inLoop)) harr₂⟩
      | exit id => exact ⟨_, a₁, w₁, hq, .pass (x := .inLoop c) rfl (fun _ _ => .inl (by simp)) harr⟩
      | goto l => exact ⟨_, a₁, w₁, hq, .pass (x := .inLoop c) rfl (fun _ _ => .inl (by simp)) harr⟩
      | ret => exact ⟨_, a₁, w₁, hq, .pass (x := .inLoop c) rfl (fun _ _ => .inl (by simp)) harr⟩
      | panic ch => exact ⟨_, a₁, w₁, hq, .pass (x := .inLoop c) rfl (fun _ _ => .inl (by simp)) harr⟩
      | outgrown => exact ⟨_, a₁, w₁, hq, .pass (x := .inLoop c) rfl (fun _ _ => .inl (by simp)) harr⟩
  obtain ⟨e, a', w', hq, harr⟩ := key n a w h
  exact ⟨e, a', w', hq, .of_steps (.one step_loop) harr⟩
theorem splitK_eq {α : Type} : ∀ (n : Nat) (l : List α) (κ : List α → List α → R), splitK n l κ = κ (l.take n) (l.drop n)
  | 0, l, κ => by simp [splitK]
  | n + 1, [], κ => by simp [splitK]
  | n + 1, a :: l, κ => by rw [splitK, splitK_eq n l]; simp
theorem seg_ok {ops : Array Oper} {l : List Oper} {s rest : Nat} {Q : Exit → Act → World → Prop} {tms : Nat → List AV} {hps : Nat → List Blk} (hl : ∀ i, i < l.length → ops[s + i]? = l[i]?) (ht : Trace P sh ops l tms hps) {g0 : G} {H0 : List Blk} {w0 : World} :
    ∀ (m k : Nat), k + m = l.length → ∀ (g : G) (a : Act) (w : World), Trans g0 H0 w0 g (hps k) w → RS g (tms k) (hps k) a w →
      (∀ g' a' w', Trans g0 H0 w0 g' (hps l.length) w' → RS g' (tms l.length) (hps l.length) a' w' → wpOps P ops Q (List.range' (s + l.length) rest) a' w') → wpOps P ops Q (List.range' (s + k) (m + rest)) a w
  | 0, k, hk, g, a, w, htr, hst, hQ => by
    have : k = l.length := by omega
    subst this
    rw [Nat.zero_add]
    exact hQ g a w htr hst
  | m + 1, k, hk, g, a, w, htr, hst, hQ => by
    have hkl : k < l.length := by omega
    have hok : ops[s + k]? = some l[k] := by rw [hl k hkl, List.getElem?_eq_getElem hkl]
    obtain ⟨want, v, hgd, htm, hor⟩ := (ht.step k l[k] (List.getElem?_eq_getElem hkl)).go
    have hw := hgd.wanted (g := g) (H := hps k) (w := w) (a := a) (fun t _ y hy => hst.tmps.get hy)
    rw [show m + 1 + rest = (m + rest) + 1 by omega, List.range'_succ]
    simp only [wpOps, hok, hw]
    rcases hor with ⟨rfl, rfl, he⟩ | ⟨rfl, hor⟩
    · simp only [Bool.false_eq_true, if_false]
      rw [show s + k + 1 = s + (k + 1) by omega]
      refine seg_ok hl ht m (k + 1) (by omega) g _ w (by rw [he]; exact htr) ⟨by rw [he]; exact hst.good, by rw [he]; exact hst.dom, ?_, by rw [Act.put_def]; exact hst.defers⟩ hQ
      rw [he, htm]
      exact hst.tmps.put tup_undef _
    · simp only [if_true]
      left
      have hM : OpM P l[k] (tms k) (hps k) v (hps (k + 1)) := hor.elim OpN.toM And.right
      refine hM Q a w g _ hst.dom (fun x _ u hu => hst.tmps.ev hu) hst.good fun vv w' g' k1 k2 k3 k4 _ => ?_
      rw [show s + k + 1 = s + (k + 1) by omega]
      refine seg_ok hl ht m (k + 1) (by omega) g' _ w' (htr.trans k1) ⟨k2, k3, ?_, by rw [Act.put_def]; exact hst.defers⟩ hQ
      rw [htm]
      exact TmR.put (hst.tmps.imp fun _ _ h => h.trans k1 hst.good) k4 _
theorem opsC_ok (hT : TOk P T) (hC : CSound P C) {p : Fp} {id : Nat} {ops : Array Oper} {g0 : G} {H0 : List Blk} {w0 : World} (hg0 : ∀ τ, g0.dom τ → τ < p.b0) {Q : Exit → Act → World → Prop} {κ : List AV → List Blk → R}
    (hQ : ∀ tm' hp' g' a' w', κ tm' hp' = some r → Trans g0 H0 w0 g' hp' w' → RS g' tm' hp' a' w' → Q .normal a' w') :
    ∀ (cs : List (Nat × Nat)) (s : Nat) (l : List Oper) (tm : List AV) (hp : List Blk), ops.toList.drop s = l → s ≤ ops.size → opsC T C sh p id ops.toList cs s l tm hp κ = some r →
      ∀ (g : G) (a : Act) (w : World), Trans g0 H0 w0 g hp w → RS g tm hp a w → wpOps P ops Q (List.range' s (ops.size - s)) a w
  | [], s, l, tm, hp, hl, hs, h, g, a, w, ht, hr => by
    have h' : opsK T C sh ops.toList l tm hp κ = some r := h
    obtain ⟨tms, hps, e1, e2, e3, e4⟩ := ops_ok hT hC h'
    subst e1; subst e2
    have hll : l.length = ops.size - s := by rw [← hl]; simp
    have := seg_ok (s := s) (rest := 0) (Q := Q) (l := l) (fun i hi => by rw [← hl, List.getElem?_drop, Array.getElem?_toList]) e4 (g0 := g0) (H0 := H0) (w0 := w0) l.length 0 (by omega) g a w ht hr (fun g' a' w' k1 k2 => by
      simp only [List.range'_zero, wpOps]
      exact hQ _ _ g' a' w' e3 k1 k2)
    rw [Nat.add_zero, Nat.add_zero, hll] at this
    exact this
  | (j, x) :: cs, s, l, tm, hp, hl, hs, h, g, a, w, ht, hr => by
    have h' : (splitK (Nat.sub j s) l fun l1 l2 =>
      joinS (fun J => opsK T C sh ops.toList l1 tm hp fun tm hp => canonK p.b0 (p.keep (Nat.add (Nat.add 100000 (Nat.mul 1000 id)) j)) tm hp J) (fun tm hp => opsC T C sh p id ops.toList cs (Nat.add s l1.length) l2 tm hp κ)) = some r := h
    rw [splitK_eq, joinS_eq] at h'
    obtain ⟨tms, hps, e1, e2, e3, e4⟩ := ops_ok hT hC h'
    subst e1; subst e2
    have hll : l.length = ops.size - s := by rw [← hl]; simp
    obtain ⟨n, hn⟩ : ∃ n, (l.take (Nat.sub j s)).length = n := ⟨_, rfl⟩
    have hnl : n ≤ l.length := by rw [← hn, List.length_take]; exact Nat.min_le_right _ _
    have hd : l.drop (Nat.sub j s) = l.drop n := by
      rw [← hn, List.length_take]
      by_cases hc : Nat.sub j s ≤ l.length
      · rw [Nat.min_eq_left hc]
      · rw [Nat.min_eq_right (by omega), List.drop_of_length_le (by omega), List.drop_of_length_le (Nat.le_refl _)]
    have := seg_ok (s := s) (rest := ops.size - s - n) (Q := Q) (l := l.take (Nat.sub j s)) (fun i hi => by
      have hi' : i < Nat.sub j s := by rw [List.length_take] at hi; omega
      rw [List.getElem?_take_of_lt hi', ← hl, List.getElem?_drop, Array.getElem?_toList]) e4 (g0 := g0) (H0 := H0) (w0 := w0) (l.take (Nat.sub j s)).length 0 (by omega) g a w ht hr (fun g' a' w' k1 k2 => by
      obtain ⟨tm', hp', q1, q2⟩ := canon_ok e3
      obtain ⟨g2, k3, k4, k5, k6⟩ := q2 g0 H0 w0 g' w' _ hg0 k1 k2.good k2.dom k2.tmps
      have := opsC_ok (ops := ops) (id := id) (κ := κ) hT hC hg0 hQ cs (s + n) (l.drop n) tm' hp' (by subst hl; simp [List.drop_drop, Nat.add_comm]) (by omega) (by rw [← hd, ← hn]; exact q1) g2 a' w' k3 ⟨k4, k5, k6, k2.defers⟩
      rw [hn, show ops.size - s - n = ops.size - (s + n) by omega]
      exact this)
    rw [Nat.add_zero, hn, show n + (ops.size - s - n) = ops.size - s by omega] at this
    exact this
theorem exec_ok (hT : TOk P T) (hC : CSound P C) (hm : P.follows .mixedOrders = true) {p : Fp} {g0 : G} {H0 : List Blk} {w0 : World} (hg0 : ∀ τ, g0.dom τ → τ < p.b0) : ∀ (c : Code), codeOk sh p.keep c = true → ∀ (cur : Nat) (k : K) (tm : List AV) (hp : List Blk), exec T C sh p c cur k tm hp = some r →
    ∀ (g : G) (a : Act) (w : World), Trans g0 H0 w0 g hp w → RS g tm hp a w → ∀ Q : Exit → Act → World → Prop, (∀ e tm' hp' g' a' w', k e tm' hp' = some r → Trans g0 H0 w0 g' hp' w' → RS g' tm' hp' a' w' → Q (exE e) a' w') → c.wp P Q a w := by
  have canon : ∀ {ks : List (Tmp × Nat)} {tm : List AV} {hp : List Blk} {κ : List AV → List Blk → R}, canonK p.b0 ks tm hp κ = some r → ∀ (g : G) (a : Act) (w : World), Trans g0 H0 w0 g hp w → RS g tm hp a w →
      ∃ tm' hp' g', κ tm' hp' = some r ∧ Trans g0 H0 w0 g' hp' w ∧ RS g' tm' hp' a w := by
    intro ks tm hp κ h g a w ht hs
    obtain ⟨tm', hp', h1, h2⟩ := canon_ok h
    obtain ⟨g', k1, k2, k3, k4⟩ := h2 g0 H0 w0 g w _ hg0 ht hs.good hs.dom hs.tmps
    exact ⟨tm', hp', g', h1, k1, k2, k3, k4, hs.defers⟩
  intro c
  induction c with
  | skip => intro _ cur k tm hp h g a w ht hs Q hQ; exact wp_skip (hQ .normal tm hp g a w h ht hs)
  | region id ops d =>
    intro hok cur k tm hp h g a w ht hs Q hQ
    cases d with
    | false =>
      have h0 : (match p.keep 44998 with
        | [] => opsK T C sh ops.toList ops.toList tm hp fun tm hp => k .normal tm hp
        | _ :: _ => opsC T C sh p id ops.toList (p.keep (Nat.add 50000 id)) 0 ops.toList tm hp fun tm hp => k .normal tm hp) = some r := h
      cases hk0 : p.keep 44998 with
      | nil =>
        rw [hk0] at h0
        have h' : (opsK T C sh ops.toList ops.toList tm hp fun tm hp => k .normal tm hp) = some r := h0
        obtain ⟨tms, hps, e1, e2, e3, e4⟩ := ops_ok hT hC h'
        subst e1; subst e2
        have hQ' : ∀ g' a' w', Trans g0 H0 w0 g' (hps ops.size) w' → RS g' (tms ops.size) (hps ops.size) a' w' → Q .normal a' w' := fun g' a' w' k1 k2 => hQ .normal _ _ g' a' w' (by simpa using e3) k1 k2
        refine wp_region ?_
        rw [List.range_eq_range']
        exact seq_ok e4 ops.size 0 (by omega) g a w ht hs hQ'
      | cons _ _ =>
        rw [hk0] at h0
        refine wp_region ?_
        rw [List.range_eq_range']
        exact opsC_ok hT hC hg0 (fun tm' hp' g' a' w' q1 q2 q3 => hQ .normal tm' hp' g' a' w' q1 q2 q3) (p.keep (Nat.add 50000 id)) 0 ops.toList tm hp (by simp) (by omega) h0 g a w ht hs
    | true =>
      have hok1 : (match p.keep (35000 + id) with | _ :: _ => true | [] => drawB sh ops (p.keep (20000 + id)) (p.keep (25000 + id))) = true := hok
      have h1 : (match p.keep (35000 + id) with
          | _ :: _ => allK T C sh ops.toList (fun tm hp => k .normal tm hp) (ops.size + 1) [] tm hp
          | [] => earlyK T C sh ops.toList (p.keep (20000 + id)) [] tm hp fun qs tm hp =>
            opsE T C sh ops.toList (p.keep (20000 + id)) (p.keep (25000 + id)) qs 0 ops.toList tm hp fun tm hp => k .normal tm hp) = some r := h
      cases hk : p.keep (35000 + id) with
      | nil =>
        rw [hk] at hok1 h1
        exact draw_ok hT hC hm hok1 h1 ht hs (hQ .normal)
      | cons _ _ =>
        rw [hk] at h1
        exact all_region hT hC hm h1 ht hs (hQ .normal)
  | seq x y ihx ihy =>
    intro hok cur k tm hp h g a w ht hs Q hQ
    have hok' : (codeOk sh p.keep x && codeOk sh p.keep y) = true := hok
    simp only [Bool.and_eq_true] at hok'
    have h0 : (match p.keep 44999 with
      | [] => exec T C sh p x cur (fun e tm hp => match e with | .normal => exec T C sh p y cur k tm hp | e => k e tm hp) tm hp
      | _ :: _ => match p.keep (Nat.add 45000 (headC y)) with
        | [] => exec T C sh p x cur (fun e tm hp => match e with | .normal => exec T C sh p y cur k tm hp | e => k e tm hp) tm hp
        | q :: qs => joinS (fun J => exec T C sh p x cur (fun e tm hp => match e with | .normal => canonK p.b0 (q :: qs) tm hp J | e => k e tm hp) tm hp) (fun tm hp => exec T C sh p y cur k tm hp)) = some r := h
    have plain : exec T C sh p x cur (fun e tm hp => match e with | .normal => exec T C sh p y cur k tm hp | e => k e tm hp) tm hp = some r → (Code.seq x y).wp P Q a w := by
      intro h'
      refine wp_seq (ihx hok'.1 cur _ tm hp h' g a w ht hs _ fun e tm' hp' g' a' w' h1 k1 k2 => ?_)
      cases e with
      | normal => exact ihy hok'.2 cur k tm' hp' h1 g' a' w' k1 k2 Q hQ
      | exit i => exact hQ (.exit i) tm' hp' g' a' w' h1 k1 k2
      | ret => exact hQ .ret tm' hp' g' a' w' h1 k1 k2
    cases hk1 : p.keep 44999 with
    | nil => rw [hk1] at h0; exact plain h0
    | cons _ _ =>
      rw [hk1] at h0
      simp only at h0
      cases hk2 : p.keep (Nat.add 45000 (headC y)) with
      | nil => rw [hk2] at h0; exact plain h0
      | cons q qs =>
        rw [hk2] at h0
        simp only at h0
        rw [joinS_eq] at h0
        refine wp_seq (ihx hok'.1 cur _ tm hp h0 g a w ht hs _ fun e tm' hp' g' a' w' h1 k1 k2 => ?_)
        cases e with
        | normal =>
          obtain ⟨tm2, hp2, g2, q1, q2, q3⟩ := canon h1 g' a' w' k1 k2
          exact ihy hok'.2 cur k tm2 hp2 q1 g2 a' w' q2 q3 Q hQ
        | exit i => exact hQ (.exit i) tm' hp' g' a' w' h1 k1 k2
        | ret => exact hQ .ret tm' hp' g' a' w' h1 k1 k2
  | cond c x y ihx ihy =>
    intro hok cur k tm hp h g a w ht hs Q hQ
    have hok' : (codeOk sh p.keep x && codeOk sh p.keep y) = true := hok
    simp only [Bool.and_eq_true] at hok'
    cases c with
    | tmp t =>
      have h' : (getK tm t fun
        | .bool b => bif b then setK tm t (.bool true) fun tm => exec T C sh p x cur k tm hp else setK tm t (.bool false) fun tm => exec T C sh p y cur k tm hp
        | .anyb => sameR (exec T C sh p x cur k tm hp) (exec T C sh p y cur k tm hp)
        | _ => none) = some r := h
      obtain ⟨u, hu, h1⟩ := getK_some h'
      split at h1
      · rename_i b
        have hv := (hs.tmps.get hu).2
        have he : a.eval (.tmp t) = .bool b := V3_bool.1 hv
        have hset : tm.set t (.bool b) = tm := by
          have := (List.getElem?_eq_some_iff.1 hu)
          rw [← this.2]
          exact List.set_getElem_self _
        refine wp_cond he ?_
        rcases cond_some h1 with ⟨rfl, h2⟩ | ⟨rfl, h2⟩
        · rw [setK_eq, hset] at h2
          exact ihx hok'.1 cur k tm hp h2 g a w ht hs Q hQ
        · rw [setK_eq, hset] at h2
          exact ihy hok'.2 cur k tm hp h2 g a w ht hs Q hQ
      · have hv := (hs.tmps.get hu).2
        obtain ⟨b, he⟩ := hv
        obtain ⟨h2, h3⟩ := sameR_some h1
        refine wp_cond (t := b) he ?_
        cases b with
        | true => exact ihx hok'.1 cur k tm hp h2 g a w ht hs Q hQ
        | false => exact ihy hok'.2 cur k tm hp h3 g a w ht hs Q hQ
      · cases h1
    | const _ => cases h
    | global _ => cases h
    | func _ => cases h
  | block id b ih =>
    intro hok cur k tm hp h g a w ht hs Q hQ
    have h' : exec T C sh p b id (fun e tm hp => match e with
      | .exit i => bif Nat.beq i id then canonK p.b0 (p.keep (1000 + id)) tm hp fun tm hp => k .normal tm hp else k (.exit i) tm hp
      | .normal => canonK p.b0 (p.keep (1000 + id)) tm hp fun tm hp => k .normal tm hp
      | e => k e tm hp) tm hp = some r := h
    refine wp_block (ih hok id _ tm hp h' g a w ht hs _ fun e tm' hp' g' a' w' h1 k1 k2 => ?_)
    cases e with
    | normal =>
      obtain ⟨tm2, hp2, g2, q1, q2, q3⟩ := canon h1 g' a' w' k1 k2
      exact hQ .normal tm2 hp2 g2 a' w' q1 q2 q3
    | exit i =>
      simp only [exE, Exit.inBlock]
      simp only at h1
      rcases cond_some h1 with ⟨he, h2⟩ | ⟨he, h2⟩
      · rw [if_pos (beq_eq he)]
        obtain ⟨tm2, hp2, g2, q1, q2, q3⟩ := canon h2 g' a' w' k1 k2
        exact hQ .normal tm2 hp2 g2 a' w' q1 q2 q3
      · have hne : ¬ i = id := fun e => by subst e; simp at he
        rw [if_neg hne]
        exact hQ (.exit i) tm' hp' g' a' w' h2 k1 k2
    | ret => exact hQ .ret tm' hp' g' a' w' h1 k1 k2
  | loop b ih =>
    intro hok cur k tm hp h g a w ht hs Q hQ
    have h' : (canonK p.b0 (p.keep cur) tm hp fun tm hp => iterK (exec T C sh p b cur) (canonK p.b0 (p.keep cur)) k p.L tm hp) = some r := h
    obtain ⟨tm1, hp1, g1, q1, q2, q3⟩ := canon h' g a w ht hs
    refine wp_loop_n (fun n a w => ∃ tm hp g, iterK (exec T C sh p b cur) (canonK p.b0 (p.keep cur)) k n tm hp = some r ∧ Trans g0 H0 w0 g hp w ∧ RS g tm hp a w) (fun a w => ?_) (fun n a w => ?_) (n := p.L) ⟨tm1, hp1, g1, q1, q2, q3⟩
    · rintro ⟨tm, hp, g, h1, _⟩
      cases h1
    · rintro ⟨tm, hp, g, h1, h2, h3⟩
      have h1' : exec T C sh p b cur (fun e tm hp => match e with
        | .normal => canonK p.b0 (p.keep cur) tm hp fun tm hp => iterK (exec T C sh p b cur) (canonK p.b0 (p.keep cur)) k n tm hp
        | e => k e tm hp) tm hp = some r := h1
      refine ih hok cur _ tm hp h1' g a w h2 h3 _ fun e tm' hp' g' a' w' h4 k1 k2 => ?_
      cases e with
      | normal =>
        obtain ⟨tm2, hp2, g2, p1, p2, p3⟩ := canon h4 g' a' w' k1 k2
        exact ⟨tm2, hp2, g2, p1, p2, p3⟩
      | exit i => exact hQ (.exit i) tm' hp' g' a' w' h4 k1 k2
      | ret => exact hQ .ret tm' hp' g' a' w' h4 k1 k2
  | rangeFunc => intro _ cur k tm hp h; cases h
  | exit id => intro _ cur k tm hp h g a w ht hs Q hQ; exact wp_exit (hQ (.exit id) tm hp g a w h ht hs)
  | scope => intro _ cur k tm hp h; cases h
  | label => intro _ cur k tm hp h; cases h
  | goto => intro _ cur k tm hp h; cases h
  | ret => intro _ cur k tm hp h g a w ht hs Q hQ; exact wp_ret (hQ .ret tm hp g a w h ht hs)
  | refuse => intro _ cur k tm hp h; cases h
end
end Go.AM
namespace Go.AM
section
variable {P : Program} {T : TypeId → Option TI} {C : CF} {sh : FuncId → Bool} {r : AV × List Blk} {b0 : Nat}
theorem set_app {hpc news : List Blk} {τ : Nat} {x y : Blk} (h : hpc[τ]? = some y) : (hpc ++ news).set τ x = hpc.set τ x ++ news := by
  have := (List.getElem?_eq_some_iff.1 h).1
  rw [List.set_append_left _ _ this]
def Cv (b0 : Nat) (hpc : List Blk) (R0 : G → List Blk → World → Value → Prop) (R1 : G → List Blk → World → List Blk → Value → Prop) (hpc' : List Blk) (add : List Blk → List Blk) : Prop :=
  hpc'.length = hpc.length ∧ ∀ (news : List Blk) (g : G) (w : World) (val : Value), Good g (hpc ++ news) w → (∀ τ, g.dom τ ↔ τ < (hpc ++ news).length) → R0 g (hpc ++ news) w val →
    ∃ g', Trans g (hpc ++ news) w g' (add (hpc' ++ news)) w ∧ Good g' (add (hpc' ++ news)) w ∧ (∀ τ, g'.dom τ ↔ τ < (add (hpc' ++ news)).length) ∧ R1 g' (add (hpc' ++ news)) w (hpc' ++ news) val
theorem conv1_ok (hT : TOk P T) {hpc : List Blk} {t : TypeId} {v : AV} {κ : AV → List Blk → R} (h : conv1K T b0 hpc t v κ = some r) : ∃ v' hpc', κ v' hpc' = some r ∧ tk1 (· < b0) v' ∧ (∀ g H w u, V3 g H w v u → V1 g H w v u) ∧ (∀ cs, v ≠ .agg cs) ∧
    Cv b0 hpc (fun g H w val => V1 g H w v val) (fun g H w X val => V1 g H w (ad1 X v').1 val) hpc' (fun X => (ad1 X v').2) := by
  have same : ∀ (u : AV), (∀ E xs, u ≠ .frs E xs) → Cv b0 hpc (fun g H w val => V1 g H w u val) (fun g H w X val => V1 g H w (ad1 X u).1 val) hpc (fun X => (ad1 X u).2) := by
    intro u hu
    have e : ∀ X, ad1 X u = (u, X) := fun X => by cases u <;> first | rfl | exact absurd rfl (hu _ _)
    refine ⟨rfl, fun news g w val hg hd hv => ⟨g, ?_, ?_, ?_, ?_⟩⟩ <;> simp only [e]
    · exact Trans.refl _ _ _
    · exact hg
    · exact hd
    · exact hv
  cases v with
  | own τ E rr c =>
    simp only [conv1K] at h
    rcases cond_some h with ⟨hb, h1⟩ | ⟨hb, h1⟩
    · clear h
      obtain ⟨blk, hbl, h2⟩ := getK_some h1
      clear h1
      split at h2
      · rename_i E' xs
        obtain ⟨rfl, h3⟩ := beqE_some h2
        clear h2
        rw [setK_eq, rowsOf_eq] at h3
        refine ⟨_, _, h3, trivial, fun _ _ _ _ h => h, by simp, by simp, fun news g w val hg hd hv => ?_⟩
        have hbH : (hpc ++ news)[τ]? = some (.rows .live E xs) := by rw [List.getElem?_append_left (List.getElem?_eq_some_iff.1 hbl).1]; exact hbl
        have hmd : Mode.live ≠ .dead := by simp
        simp only [ad1]
        rw [← set_app hbl]
        obtain ⟨hdt, hsh⟩ := own_shape hv hbH hmd
        rcases hsh with ⟨hρ, ⟨A, rfl⟩, e⟩ | ⟨b, base, k, cap, oN, lN, hρ, rfl, hk, hlc, _, hcp, hun, e, hle⟩
        · have hx := good_nil hg hdt hbH hmd hρ
          subst hx
          have hz : rowsD rr ([] : List AV) = [] := by cases rr <;> simp [rowsD, lsub_eq]
          rw [hz]
          obtain ⟨g', k1, k2, k3, k4⟩ := null_fin (E := E) (A := A) (hg.dead (E := E) (xs := []) hbH) (fun x => by rw [hd]; simp)
          exact ⟨g', Trans.dead.trans k1, k2, k3, k4⟩
        · have hl : (rowsD rr xs).length = lN := by
            cases rr with
            | none => simp only [rngD, ilen_eq] at e; have := congrArg Prod.snd e; simp at this; simp only [rowsD]; omega
            | some p =>
              simp only [rngD] at e
              subst e
              simp only [rowsD, lsub_eq, iadd_eq]
              rw [show ((oN : Int)).toNat = oN by omega, show ((oN : Int) + lN - oN).toNat = lN by omega]
              simp
              omega
          have hR : PRows g.S g.Sl w E (rowsD rr xs) b (base + oN * E) := by
            obtain ⟨bk, p1, p2⟩ := hg.tok τ hdt
            rw [hbH] at p1
            cases p1
            rcases p2 with ⟨p2, _⟩ | ⟨b', o', hρ', hS, _, hR⟩
            · rw [hρ] at p2; cases p2
            rw [hρ] at hρ'
            cases hρ'
            cases rr with
            | none =>
              simp only [rngD] at e
              have : oN = 0 := by have := congrArg Prod.fst e; simp at this; omega
              subst this
              simpa [rowsD] using hR
            | some p =>
              simp only [rngD] at e
              subst e
              simp only [rowsD, lsub_eq]
              exact PRows_take (PRows_drop hR)
          have hup := Upd.refl w b
          have htr : Trans g (hpc ++ news) w (g.add (hpc ++ news).length (some (b, base + oN * E))) ((hpc ++ news).set τ (.rows .dead E xs) ++ [.rows .live E (rowsD rr xs)]) w := Trans.move hd hdt hρ hbH hup
          have hlen : ((hpc ++ news).set τ (.rows .dead E xs)).length = (hpc ++ news).length := by simp
          refine ⟨_, htr, Good.move hg hd hdt hρ hbH hup (hR.trans htr hg rfl) (hun.le (Nat.zero_le _)), fun x => ?_, ?_⟩
          · simp only [G.add, hd, List.length_append, List.length_singleton, List.length_set]; omega
          · rw [hlen]
            refine ⟨G.add_dom, ?_⟩
            rw [G.add_ρ]
            have hll : ((hpc ++ news).set τ (.rows .dead E xs) ++ [Blk.rows .live E (rowsD rr xs)])[(hpc ++ news).length]? = some (.rows .live E (rowsD rr xs)) := by
              rw [List.getElem?_append_right (by simp)]; simp
            refine ⟨k, 0, lN, cap, rfl, by simpa using hk, hlc, by simp, fun _ m' E' zs hh _ => ?_, ?_, rfl, fun m' E' zs hh _ => ?_⟩
            · rw [hll] at hh; cases hh; omega
            · rw [Nat.add_mul] at hun; simpa [Nat.add_assoc] using hun
            · rw [hll] at hh; cases hh; omega
      · rename_i E' xs
        obtain ⟨rfl, h3⟩ := beqE_some h2
        clear h2
        rw [rowsOf_eq] at h3
        refine ⟨_, _, h3, trivial, fun _ _ _ _ h => h, by simp, rfl, fun news g w val hg hd hv => ⟨g, Trans.refl _ _ _, hg, hd, ?_⟩⟩
        have hbH : (hpc ++ news)[τ]? = some (.rows .frozen E xs) := by rw [List.getElem?_append_left (List.getElem?_eq_some_iff.1 hbl).1]; exact hbl
        obtain ⟨blk, q1, q2⟩ := hg.tok τ hv.1
        rw [hbH] at q1
        cases q1
        have h4 := own_rows (S := g.S) (Sl := g.Sl) hv hbH (by simp) (by
          rcases q2 with h2 | ⟨b, o, h3, h4, h5, h6⟩
          · exact .inl h2
          · exact .inr ⟨b, o, h3, h6⟩)
        obtain ⟨A, cap, e1, e2, e3, e4⟩ := h4
        refine ⟨A, cap, e1, e2, e3, ?_⟩
        rcases e4 with e4 | ⟨b, off, base, e5, e6, e7⟩
        · exact .inl e4
        · rcases q2 with ⟨h0, _⟩ | ⟨b', o', h6, h7, _⟩
          · rw [e6] at h0; cases h0
          · rw [e6] at h6; cases h6
            exact .inr ⟨b, off, e5, h7, e7⟩
      · cases h2
    · have hlt : τ < b0 := by
        rcases Nat.lt_or_ge τ b0 with h | h
        · exact h
        · rw [Nat.ble_eq_true_of_le h] at hb; cases hb
      exact ⟨_, _, h1, hlt, fun _ _ _ _ h => h, by simp, same _ (by simp)⟩
  | nil =>
    simp only [conv1K] at h
    obtain ⟨s1, a1, b1, z1, d1, hs, h1⟩ := tyK_some h
    clear h
    split at h1
    case h_2 => cases h1
    obtain ⟨E, a2, b2, z2, d2, he, h2⟩ := tyK_some h1
    refine ⟨_, _, h2, trivial, fun _ _ _ _ h => h, by simp, rfl, fun news g w val hg hd hv => ?_⟩
    simp only [V1, PCell] at hv
    obtain ⟨A, rfl⟩ := hv
    obtain ⟨g', k1, k2, k3, k4⟩ := null_fin (E := E) (A := A) hg hd
    exact ⟨g', k1, k2, k3, k4⟩
  | ptr τ i o E =>
    simp only [conv1K] at h
    rcases cond_some h with ⟨_, h1⟩ | ⟨hb, h1⟩
    · cases h1
    · have hlt : τ < b0 := by
        rcases Nat.lt_or_ge τ b0 with h | h
        · exact h
        · rw [Nat.ble_eq_true_of_le h] at hb; cases hb
      exact ⟨_, _, h1, hlt, fun _ _ _ _ h => h, by simp, same _ (by simp)⟩
  | fn _ _ _ => simp only [conv1K] at h; cases h
  | top => simp only [conv1K] at h; cases h
  | anyb => simp only [conv1K] at h; cases h
  | tup _ => simp only [conv1K] at h; cases h
  | agg _ => simp only [conv1K] at h; cases h
  | frs E xs =>
    simp only [conv1K] at h
    exact ⟨_, _, h, trivial, fun g H w u hu => by simp [V3, V2, V1, PCell] at hu, by simp, rfl, fun news g w val hg hd hv => by simp [V1, PCell] at hv⟩
  | _ =>
    simp only [conv1K] at h
    exact ⟨_, _, h, trivial, fun _ _ _ _ h => h, by simp, same _ (by simp)⟩
theorem ads_cons {X : List Blk} {v : AV} {l : List AV} : (ads X (v :: l)).2 = (ads (ad1 X v).2 l).2 := rfl
theorem ad1_parts (hpc news : List Blk) (v : AV) : (ad1 (hpc ++ news) v).2 = hpc ++ (ad1 news v).2 := ad1_app hpc news v
theorem ad1_fst {X Y : List Blk} (v : AV) (h : X.length = Y.length) : (ad1 X v).1 = (ad1 Y v).1 := by cases v <;> simp [ad1, h]
theorem convs_ok (hT : TOk P T) : ∀ {l : List AV} {ts : List (Nat × TypeId)} {hpc : List Blk} {κ : List AV → List Blk → R}, convsK T b0 hpc ts l κ = some r → ∃ l' hpc', κ l' hpc' = some r ∧ (∀ x ∈ l', tk1 (· < b0) x) ∧ hpc'.length = hpc.length ∧
    ∀ (news : List Blk) (g : G) (w : World) (vs : List Value), Good g (hpc ++ news) w → (∀ τ, g.dom τ ↔ τ < (hpc ++ news).length) → All2 (V1 g (hpc ++ news) w) l vs →
      ∃ g', Trans g (hpc ++ news) w g' (ads (hpc' ++ news) l').2 w ∧ Good g' (ads (hpc' ++ news) l').2 w ∧ (∀ τ, g'.dom τ ↔ τ < (ads (hpc' ++ news) l').2.length) ∧ All2 (V1 g' (ads (hpc' ++ news) l').2 w) (ads (hpc' ++ news) l').1 vs
  | [], ts, hpc, κ, h => by
    have h' : κ [] hpc = some r := by cases ts <;> exact h
    refine ⟨[], hpc, h', (fun x hx => by cases hx), rfl, fun news g w vs hg hd hv => ⟨g, Trans.refl _ _ _, hg, hd, ?_⟩⟩
    cases vs with
    | nil => trivial
    | cons _ _ => exact hv.elim
  | v :: l, ts, hpc, κ, h => by
    have key : ∀ (t : TypeId) (ts' : List (Nat × TypeId)), (conv1K T b0 hpc t v fun v hp => convsK T b0 hp ts' l fun l hp => κ (v :: l) hp) = some r → ∃ l' hpc', κ l' hpc' = some r ∧ (∀ x ∈ l', tk1 (· < b0) x) ∧ hpc'.length = hpc.length ∧
        ∀ (news : List Blk) (g : G) (w : World) (vs : List Value), Good g (hpc ++ news) w → (∀ τ, g.dom τ ↔ τ < (hpc ++ news).length) → All2 (V1 g (hpc ++ news) w) (v :: l) vs →
          ∃ g', Trans g (hpc ++ news) w g' (ads (hpc' ++ news) l').2 w ∧ Good g' (ads (hpc' ++ news) l').2 w ∧ (∀ τ, g'.dom τ ↔ τ < (ads (hpc' ++ news) l').2.length) ∧ All2 (V1 g' (ads (hpc' ++ news) l').2 w) (ads (hpc' ++ news) l').1 vs := by
      intro t ts' h
      obtain ⟨v', hpc1, h1, htk, hV, _, hl1, hcv⟩ := conv1_ok hT h
      obtain ⟨l', hpc2, h2, htk2, hl2, hcv2⟩ := convs_ok hT h1
      refine ⟨v' :: l', hpc2, h2, (fun x hx => by
        cases hx with
        | head => exact htk
        | tail _ hx => exact htk2 x hx), by omega, fun news g w vs hg hd hv => ?_⟩
      cases vs with
      | nil => exact hv.elim
      | cons u us =>
        obtain ⟨g1, k1, k2, k3, k4⟩ := hcv news g w u hg hd hv.1
        have e1 : (ad1 (hpc1 ++ news) v').2 = hpc1 ++ (ad1 news v').2 := ad1_app hpc1 news v'
        simp only [e1] at k1 k2 k3 k4
        obtain ⟨g2, p1, p2, p3, p4⟩ := hcv2 (ad1 news v').2 g1 w us k2 k3 (hv.2.imp fun _ _ h => h.trans k1 hg)
        have e2 : (ads (hpc2 ++ news) (v' :: l')).2 = (ads (hpc2 ++ (ad1 news v').2) l').2 := by rw [ads_cons, ad1_app]
        have e3 : (ads (hpc2 ++ news) (v' :: l')).1 = (ad1 (hpc1 ++ news) v').1 :: (ads (hpc2 ++ (ad1 news v').2) l').1 := by
          simp only [ads]
          rw [ad1_app, ad1_fst v' (X := hpc2 ++ news) (Y := hpc1 ++ news) (by simp; omega)]
        rw [e2, e3]
        exact ⟨g2, k1.trans p1, p2, p3, k4.trans p1 k2, p4⟩
    cases ts with
    | nil => exact key 0 [] h
    | cons t ts => exact key t.2 ts h
theorem conv2_ok (hT : TOk P T) {hpc : List Blk} {t : TypeId} {v : AV} {κ : AV → List Blk → R} (h : conv2K T b0 hpc t v κ = some r) : ∃ v' hpc', κ v' hpc' = some r ∧ tk2 (· < b0) v' ∧ (∀ g H w u, V3 g H w v u → V2 g H w v u) ∧
    hpc'.length = hpc.length ∧ ∀ (news : List Blk) (g : G) (w : World) (val : Value), Good g (hpc ++ news) w → (∀ τ, g.dom τ ↔ τ < (hpc ++ news).length) → V2 g (hpc ++ news) w v val →
      ∃ g', Trans g (hpc ++ news) w g' (ad2 (hpc' ++ news) v').2 w ∧ Good g' (ad2 (hpc' ++ news) v').2 w ∧ (∀ τ, g'.dom τ ↔ τ < (ad2 (hpc' ++ news) v').2.length) ∧ V2 g' (ad2 (hpc' ++ news) v').2 w (ad2 (hpc' ++ news) v').1 val := by
  unfold conv2K at h
  split at h
  · rename_i cs
    obtain ⟨s1, a1, b1, z1, d1, hs, h1⟩ := tyK_some h
    clear h
    have fin : ∀ ts, (convsK T b0 hpc ts cs fun cs hp => κ (.agg cs) hp) = some r → ∃ v' hpc', κ v' hpc' = some r ∧ tk2 (· < b0) v' ∧ (∀ g H w u, V3 g H w (.agg cs) u → V2 g H w (.agg cs) u) ∧
        hpc'.length = hpc.length ∧ ∀ (news : List Blk) (g : G) (w : World) (val : Value), Good g (hpc ++ news) w → (∀ τ, g.dom τ ↔ τ < (hpc ++ news).length) → V2 g (hpc ++ news) w (.agg cs) val →
          ∃ g', Trans g (hpc ++ news) w g' (ad2 (hpc' ++ news) v').2 w ∧ Good g' (ad2 (hpc' ++ news) v').2 w ∧ (∀ τ, g'.dom τ ↔ τ < (ad2 (hpc' ++ news) v').2.length) ∧ V2 g' (ad2 (hpc' ++ news) v').2 w (ad2 (hpc' ++ news) v').1 val := by
      intro ts h
      obtain ⟨l', hpc', h1, h2, h3, h4⟩ := convs_ok hT h
      refine ⟨.agg l', hpc', h1, h2, fun _ _ _ _ h => h, h3, fun news g w val hg hd hv => ?_⟩
      obtain ⟨vs, e, hvs⟩ := hv
      obtain ⟨g', k1, k2, k3, k4⟩ := h4 news g w vs hg hd hvs
      exact ⟨g', k1, k2, k3, vs, e, k4⟩
    split at h1
    · exact fin _ h1
    · exact fin _ h1
  · obtain ⟨v', hpc', h1, h2, h3, hna, h4, h5⟩ := conv1_ok hT h
    have e : ∀ X, ad2 X v' = ad1 X v' := fun X => by
      cases v' <;> first | rfl | exact h2.elim
    have hV : ∀ g H w u, V2 g H w v u → V1 g H w v u := fun g H w u hu => by
      cases v <;> first | exact hu | exact absurd rfl (hna _)
    refine ⟨v', hpc', h1, ?_, fun g H w u hu => ?_, h4, fun news g w val hg hd hv => ?_⟩
    · cases v' <;> first | exact h2 | exact h2.elim
    · have := h3 g H w u hu
      cases v <;> first | exact this | exact absurd rfl (hna _)
    · obtain ⟨g', k1, k2, k3, k4⟩ := h5 news g w val hg hd (hV _ _ _ _ hv)
      rw [e]
      refine ⟨g', k1, k2, k3, ?_⟩
      revert k4
      cases v' <;> first | exact id | exact h2.elim | (intro h; simpa [ad1] using h)
end
end Go.AM
namespace Go.AM
section
variable {P : Program} {T : TypeId → Option TI} {C : CF} {sh : FuncId → Bool} {r : AV × List Blk} {b0 : Nat}
theorem Ren.congr {φ φ' : Nat → Nat} {D D' : Nat → Prop} {g1 g2 : G} {H1 H2 : List Blk} (h : ∀ τ, D τ → φ' τ = φ τ) (hD : ∀ τ, D τ → D' τ) (hR : Ren φ' D' g1 H1 g2 H2) : Ren φ D g1 H1 g2 H2 where
  dom τ hd hg := by rw [← h τ hd]; exact hR.dom τ (hD τ hd) hg
  ρ τ hd hg := by rw [← h τ hd]; exact hR.ρ τ (hD τ hd) hg
  rows τ hd hg m E xs hx := by rw [← h τ hd] at hx; exact hR.rows τ (hD τ hd) hg m E xs hx
  box τ hd hg y hy := by rw [← h τ hd] at hy; exact hR.box τ (hD τ hd) hg y hy
  S := hR.S
  Sl := hR.Sl
theorem RV.congr {φ φ' : Nat → Nat} {D D' : Nat → Prop} (h : ∀ τ, D τ → φ' τ = φ τ) (hD : ∀ τ, D τ → D' τ) {x x' : AV} (hv : RV φ D x x') : RV φ' D' x x' := fun g1 g2 H1 H2 w hR => hv g1 g2 H1 H2 w (hR.congr h hD)
theorem RB.congr {φ φ' : Nat → Nat} {D D' : Nat → Prop} (h : ∀ τ, D τ → φ' τ = φ τ) (hD : ∀ τ, D τ → D' τ) {b b' : Blk} (hv : RB φ D b b') : RB φ' D' b b' := by
  cases b with
  | rows m E xs => exact hv
  | box y => obtain ⟨y', e, hv⟩ := hv; exact ⟨y', e, hv.congr h hD⟩
theorem rn1_id {φ : Nat → Nat} {D : Nat → Prop} (hφ : ∀ τ, D τ → φ τ = τ) {v : AV} (h : tk1 D v) : rn1 φ v = v := by
  cases v with
  | own τ E r c => simp only [rn1, hφ τ h]
  | ptr τ i o E => simp only [rn1, hφ τ h]
  | _ => rfl
theorem map_id' {f : AV → AV} : ∀ {l : List AV}, (∀ x ∈ l, f x = x) → l.map f = l
  | [], _ => rfl
  | x :: l, h => by rw [List.map_cons, h x (by simp), map_id' fun y hy => h y (by simp [hy])]
theorem bk2_id {φ : Nat → Nat} {D : Nat → Prop} (hφ : ∀ τ, D τ → φ τ = τ) {v : AV} (h : tk2 D v) : bk2 φ v = v := by
  unfold bk2
  split
  · rename_i cs
    rw [map_id' fun x hx => rn1_id hφ (h x hx)]
  · rename_i hne
    have : tk1 D v := by cases v <;> first | exact h | exact absurd rfl (hne _)
    exact rn1_id hφ this
theorem bk3_id {φ : Nat → Nat} {D : Nat → Prop} (hφ : ∀ τ, D τ → φ τ = τ) {v : AV} (h : tk3 D v) : bk3 φ v = v := by
  unfold bk3
  split
  · rename_i vs
    rw [map_id' fun x hx => bk2_id hφ (h x hx)]
  · rename_i hne
    have : tk2 D v := by cases v <;> first | exact h | exact absurd rfl (hne _)
    exact bk2_id hφ this
theorem fin_ok {v res : AV} {hp hpF : List Blk} (h : finK b0 v hp = some (res, hpF)) (htk : tk3 (· < b0) v) : res = v ∧ ∀ (g0 : G) (H0 : List Blk) (w0 : World) (g : G) (w : World) (val : Value), (∀ τ, g0.dom τ → τ < b0) → Trans g0 H0 w0 g (ad3 hp v).2 w → Good g (ad3 hp v).2 w →
    (∀ τ, g.dom τ ↔ τ < (ad3 hp v).2.length) → V3 g (ad3 hp v).2 w (ad3 hp v).1 val →
      ∃ g', Trans g0 H0 w0 g' (ad3 hpF v).2 w ∧ Good g' (ad3 hpF v).2 w ∧ (∀ τ, g'.dom τ ↔ τ < (ad3 hpF v).2.length) ∧ V3 g' (ad3 hpF v).2 w (ad3 hpF v).1 val := by
  unfold finK at h
  obtain ⟨hb, h1⟩ := headB_some h
  clear h
  rw [oldToksK_eq] at h1
  have hok : OkIds b0 (oldToks b0 [] (hp.take b0)) := oldToks_okI OkIds.nil _
  revert h1 hok
  generalize oldToks b0 [] (hp.take b0) = ids
  intro h1 hok
  obtain ⟨h0, h2, h0l, hr0⟩ := rensB_ok h1
  obtain ⟨ex, h3, hexl, hr1⟩ := pickB_ok h2
  rw [apndB_eq] at h3
  simp only [Option.some.injEq, Prod.mk.injEq] at h3
  obtain ⟨rfl, rfl⟩ := h3
  refine ⟨rfl, fun g0 H0 w0 g w val hg0 ht hg hd hv => ?_⟩
  have h0l' : h0.length = b0 := by rw [h0l]; simp; omega
  have hltI : ∀ τ ∈ ids, τ < hp.length := fun τ hτ => by
    obtain ⟨i, hi⟩ := List.mem_iff_getElem?.1 hτ
    obtain ⟨b, _, hb, _⟩ := hr1 i τ hi
    exact (List.getElem?_eq_some_iff.1 hb).1
  have e1 := ad3_app0 hp v
  have e2 := ad3_app0 (h0 ++ ex) v
  have hlive := ad3_live (hk := []) (x := v) (fun _ h => by cases h)
  generalize (ad3 [] v).2 = news at e1 e2 hlive
  have hmem' : ∀ τ, τ ∈ ids ++ List.range' hp.length news.length ↔ τ ∈ ids ∨ (hp.length ≤ τ ∧ τ < hp.length + news.length) := fun τ => by simp [List.mem_append, List.mem_range'_1]
  have hφ : ∀ τ, rnD b0 ids τ → rnF b0 (ids ++ List.range' hp.length news.length) τ = rnF b0 ids τ := by
    intro τ hτ
    unfold rnF
    split
    · have hm := hτ.resolve_left (by omega)
      rw [List.idxOf_append, if_pos hm]
    · rfl
  have hD : ∀ τ, rnD b0 ids τ → rnD b0 (ids ++ List.range' hp.length news.length) τ := fun τ h => h.imp id fun h => List.mem_append.2 (.inl h)
  have hnd : (ids ++ List.range' hp.length news.length).Nodup := by
    rw [List.nodup_append]
    refine ⟨hok.1, List.nodup_range', fun a ha b hb => ?_⟩
    have := hltI a ha
    have := (List.mem_range'_1.1 hb).1
    omega
  obtain ⟨g2, q1, q2, q3, q4, q5⟩ := ren_heap (hp := hp ++ news) (b0 := b0) (ids := ids ++ List.range' hp.length news.length) (h0 := h0) (h1 := ex ++ news) (by simp; omega) h0l' (by simp [hexl]) (fun i b b' hb hb' => by
      have hil := (List.getElem?_eq_some_iff.1 hb').1
      refine (hr0 i b b' ?_ hb').congr hφ hD
      rw [List.getElem?_take_of_lt (by omega)] at hb ⊢
      rw [List.getElem?_append_left (by omega)] at hb
      exact hb) (fun i τ hi => by
      by_cases hil : i < ids.length
      · rw [List.getElem?_append_left hil] at hi
        obtain ⟨b, b', k1, k2, k3⟩ := hr1 i τ hi
        exact ⟨b, b', prefix_get (List.prefix_append _ _) k1, prefix_get (List.prefix_append _ _) k2, k3.congr hφ hD⟩
      · rw [List.getElem?_append_right (by omega)] at hi
        have hb := (List.getElem?_eq_some_iff.1 hi).1
        simp only [List.length_range'] at hb
        rw [List.getElem?_range' hb] at hi
        cases hi
        have k1 : news[i - ids.length]? = some news[i - ids.length] := List.getElem?_eq_getElem hb
        refine ⟨news[i - ids.length], news[i - ids.length], ?_, ?_, ?_⟩
        · rw [List.getElem?_append_right (by omega), ← k1]; congr 1; omega
        · rw [List.getElem?_append_right (by omega), ← k1]; congr 1; omega
        · have hl := hlive _ (List.getElem_mem hb)
          revert hl
          generalize news[i - ids.length] = bk
          intro hl
          match bk, hl with
          | .rows .live E xs, _ => rfl) (fun τ hτ => by
      rcases (hmem' τ).1 hτ with h | h
      · exact hok.2 τ h
      · omega) hnd (by rw [← e1]; exact hg) (by rw [← e1]; exact hd)
  have e3 : h0 ++ (ex ++ news) = (ad3 (h0 ++ ex) v).2 := by rw [e2]; simp
  rw [e3] at q1 q4 q5
  rw [← e1] at q1 q5
  refine ⟨g2, Trans.canon ht (fun τ h => ⟨.inl (hg0 τ h), ?_⟩) q1 q2 q3 q5, Good.ren hg q1 q2 q3 q5, q4, ?_⟩
  · have := hg0 τ h
    simp [rnF]
    omega
  · -- the value itself
    let φ : Nat → Nat := fun i => if i < hp.length then rnF b0 (ids ++ List.range' hp.length news.length) i else (h0 ++ ex).length + (i - hp.length)
    have htail : Tail φ (h0 ++ ex).length hp.length := fun i hi => by simp only [φ, if_neg (show ¬ i < hp.length by omega)]
    have hfix : ∀ τ, τ < b0 → φ τ = τ := fun τ h => by
      simp only [φ, if_pos (show τ < hp.length by omega), rnF, if_neg (show ¬ b0 ≤ τ by omega)]
    obtain ⟨k1, _⟩ := ad3_rn (D := fun τ => τ < b0 ∨ (hp.length ≤ τ ∧ τ < hp.length + news.length)) htail (M := b0) (fun τ h => .inl h) (x := v) (hk := hp) (h0 := h0 ++ ex) (Nat.le_refl _) (by simp) htk (fun τ h1 h2 => .inr ⟨h1, by rw [e1] at h2; simpa using h2⟩)
    rw [bk3_id hfix htk] at k1
    have k2 := k1.congr (φ' := rnF b0 (ids ++ List.range' hp.length news.length)) (D' := rnD b0 (ids ++ List.range' hp.length news.length)) (fun τ h => ?_) (fun τ h => h.imp id fun h => (hmem' τ).2 (.inr h))
    · exact (k2 g g2 _ _ w q1).1 val hv
    · by_cases hlt : τ < hp.length
      · simp only [φ, if_pos hlt]
      · have h := h.resolve_left (by omega)
        simp only [φ, if_neg hlt, rnF, if_pos (show b0 ≤ τ by omega)]
        have hidx : (ids ++ List.range' hp.length news.length).idxOf τ = ids.length + (τ - hp.length) := by
          have hi : (ids ++ List.range' hp.length news.length)[ids.length + (τ - hp.length)]? = some τ := by
            rw [List.getElem?_append_right (by omega), Nat.add_sub_cancel_left, List.getElem?_range' (by omega)]
            congr 1
            omega
          have hil := (List.getElem?_eq_some_iff.1 hi).1
          have h1 := (List.getElem?_eq_some_iff.1 hi).2
          have := hnd.idxOf_getElem _ hil
          rw [h1] at this
          exact this
        rw [hidx]
        simp
        omega
def resSem (a : Act) : ResultVar → Sem Value
  | .tmp t => pure (a.tmps.getD t undef)
  | .cell x t => do loadVar t (← asAddr (a.tmps.getD x undef))
theorem results_run {fn : Func} {a : Act} {w : World} {vals : List Value} (h : fn.results.toList.length = vals.length) (hh : ∀ (i : Nat) rv v, fn.results.toList[i]? = some rv → vals[i]? = some v → (resSem a rv).run P w = .ok v w) :
    (results fn a.tmps).run P w = .ok (if h : vals.length = 1 then vals[0]'(by omega) else .tuple ⟨vals⟩) w := by
  have key : ∀ (l : List ResultVar) (vs : List Value), l.length = vs.length → (∀ (i : Nat) rv v, l[i]? = some rv → vs[i]? = some v → (resSem a rv).run P w = .ok v w) → (l.mapM (resSem a)).run P w = .ok vs w := by
    intro l
    induction l with
    | nil => intro vs h _; cases vs with | nil => simp | cons _ _ => simp at h
    | cons x l ih =>
      intro vs h hh
      cases vs with
      | nil => simp at h
      | cons v vs =>
        have h1 := hh 0 x v rfl rfl
        have h2 := ih vs (by simpa using h) fun i rv u k1 k2 => hh (i + 1) rv u (by simpa using k1) (by simpa using k2)
        simp [List.mapM_cons, h1, h2]
  have h1 := key fn.results.toList vals h hh
  have h3 : ∀ F : ResultVar → Sem Value, (∀ rv, F rv = resSem a rv) → (fn.results.mapM F).run P w = .ok vals.toArray w := by
    intro F hF
    have : F = resSem a := funext hF
    rw [this, Array.mapM_eq_mapM_toList]
    simp [h1]
  unfold results
  rw [Sem.run_bind, h3 _ (fun rv => by cases rv <;> rfl)]
  simp
theorem res1_ok (hT : TOk P T) {rv : ResultVar} {tm : List AV} {hp : List Blk} {κ : AV → R} (h : res1K T rv tm hp κ = some r) : ∃ u, κ u = some r ∧ ∀ (g : G) (a : Act) (w : World), RS g tm hp a w → ∃ val, (resSem a rv).run P w = .ok val w ∧ V3 g hp w u val := by
  cases rv with
  | tmp t =>
    obtain ⟨u, hu, h1⟩ := getK_some h
    exact ⟨u, h1, fun g a w hs => ⟨_, by simp [resSem], (hs.tmps.get hu).2⟩⟩
  | cell t ty =>
    simp only [res1K] at h
    obtain ⟨sz, ag, b1, z1, d1, hs1, h1⟩ := tyK_some h
    clear h
    obtain ⟨u, hu, h2⟩ := getK_some h1
    clear h1
    split at h2
    case h_2 => cases h2
    rename_i τ i off E
    obtain ⟨blk, hb, h3⟩ := getK_some h2
    clear h2
    split at h3
    case h_2 => cases h3
    rename_i y
    obtain ⟨u', h4, h5⟩ := part_load (P := P) h3
    refine ⟨u', h4, fun g a w hs => ?_⟩
    obtain ⟨hd, hz, b, base, n, k1, k2, k3⟩ := (hs.tmps.get hu).2
    have h0 := hz y hb
    have hn : n = 0 := by omega
    subst hn
    obtain ⟨bk, q1, q2⟩ := hs.good.tok τ hd
    rw [hb] at q1
    cases q1
    obtain ⟨b', o', hρ', _, _, hcs⟩ := q2
    rw [k1] at hρ'
    cases hρ'
    obtain ⟨val, h6, h7⟩ := h5 g hp w ty b1 z1 d1 b base (hT _ _ _ _ _ _ hs1) hcs
    refine ⟨val, ?_, h7⟩
    simp only [resSem, k3, asAddr, Sem.run_bind, Sem.run_pure, Result.andThen_ok]
    simpa using h6 w rfl
theorem ress_ok (hT : TOk P T) {tm : List AV} {hp0 : List Blk} : ∀ {rs : List ResultVar} {ts : List TypeId} {hpc : List Blk} {κ : List AV → List Blk → R}, ressK T b0 tm hp0 rs ts hpc κ = some r →
    ∃ vs' hpc', κ vs' hpc' = some r ∧ (∀ x ∈ vs', tk2 (· < b0) x) ∧ hpc'.length = hpc.length ∧ ∀ (g0 : G) (a : Act) (w : World) (news : List Blk) (g : G), RS g0 tm hp0 a w → Trans g0 hp0 w g (hpc ++ news) w → Good g (hpc ++ news) w → (∀ τ, g.dom τ ↔ τ < (hpc ++ news).length) →
      ∃ (vals : List Value) (g' : G), rs.length = vals.length ∧ (∀ (i : Nat) rv v, rs[i]? = some rv → vals[i]? = some v → (resSem a rv).run P w = .ok v w) ∧ Trans g (hpc ++ news) w g' (ads2 (hpc' ++ news) vs').2 w ∧
        Good g' (ads2 (hpc' ++ news) vs').2 w ∧ (∀ τ, g'.dom τ ↔ τ < (ads2 (hpc' ++ news) vs').2.length) ∧ All2 (V2 g' (ads2 (hpc' ++ news) vs').2 w) (ads2 (hpc' ++ news) vs').1 vals
  | [], ts, hpc, κ, h => by
    have h' : κ [] hpc = some r := by cases ts <;> exact h
    exact ⟨[], hpc, h', (fun x hx => by cases hx), rfl, fun g0 a w news g hs ht hg hd => ⟨[], g, rfl, (fun i rv v hi => by simp at hi), Trans.refl _ _ _, hg, hd, trivial⟩⟩
  | rv :: rs, [], hpc, κ, h => by simp [ressK] at h
  | rv :: rs, t :: ts, hpc, κ, h => by
    simp only [ressK] at h
    obtain ⟨u, h1, hu⟩ := res1_ok (P := P) hT h
    obtain ⟨v', hpc1, h2, htk, hV, hl1, hcv⟩ := conv2_ok hT h1
    obtain ⟨vs', hpc2, h3, htk2, hl2, hcv2⟩ := ress_ok hT h2
    refine ⟨v' :: vs', hpc2, h3, (fun x hx => by
      cases hx with
      | head => exact htk
      | tail _ hx => exact htk2 x hx), by omega, fun g0 a w news g hs ht hg hd => ?_⟩
    obtain ⟨val, hrun, hval⟩ := hu g0 a w hs
    obtain ⟨g1, k1, k2, k3, k4⟩ := hcv news g w val hg hd ((hV _ _ _ _ hval).trans ht hs.good)
    have e1 : (ad2 (hpc1 ++ news) v').2 = hpc1 ++ (ad2 news v').2 := ad2_app hpc1 news v'
    simp only [e1] at k1 k2 k3 k4
    obtain ⟨vals, g2, p0, p1, p2, p3, p4, p5⟩ := hcv2 g0 a w (ad2 news v').2 g1 hs (ht.trans k1) k2 k3
    have e2 : (ads2 (hpc2 ++ news) (v' :: vs')).2 = (ads2 (hpc2 ++ (ad2 news v').2) vs').2 := by
      show (ads2 (ad2 (hpc2 ++ news) v').2 vs').2 = _
      rw [ad2_app]
    have e4 : (ad2 (hpc2 ++ news) v').1 = (ad2 (hpc1 ++ news) v').1 := by
      have hlen : (hpc2 ++ news).length = (hpc1 ++ news).length := by simp; omega
      have key : ∀ (X Y : List Blk) (l : List AV), X.length = Y.length → (ads X l).1 = (ads Y l).1 := by
        intro X Y l
        induction l generalizing X Y with
        | nil => intro _; rfl
        | cons x l ih =>
          intro h
          simp only [ads]
          rw [ad1_fst x h, ih (ad1 X x).2 (ad1 Y x).2 (by cases x <;> simp [ad1, h])]
      cases v' with
      | agg cs => simp only [ad2]; rw [key _ _ cs hlen]
      | _ => exact ad1_fst _ hlen
    have e3 : (ads2 (hpc2 ++ news) (v' :: vs')).1 = (ad2 (hpc1 ++ news) v').1 :: (ads2 (hpc2 ++ (ad2 news v').2) vs').1 := by
      show (ad2 (hpc2 ++ news) v').1 :: (ads2 (ad2 (hpc2 ++ news) v').2 vs').1 = _
      rw [ad2_app, e4]
    rw [e2, e3]
    refine ⟨val :: vals, g2, by simp [p0], fun i rv' v hi hv => ?_, k1.trans p2, p3, p4, ⟨k4.trans p2 k2, p5⟩⟩
    cases i with
    | zero => simp at hi hv; subst hi; subst hv; exact hrun
    | succ i => exact p1 i rv' v (by simpa using hi) (by simpa using hv)
theorem initK_ok {κ : List AV → R} : ∀ {args : List AV} {n : Nat}, initK args n κ = some r → args.length ≤ n ∧ κ (args ++ List.replicate (n - args.length) .top) = some r
  | [], n, h => by
    have key : ∀ (n : Nat) (κ : List AV → R), topsK n κ = κ (List.replicate n .top) := by
      intro n
      induction n with
      | zero => intro κ; rfl
      | succ n ih => intro κ; simp [topsK, ih, List.replicate_succ]
    simp only [initK, key] at h
    exact ⟨Nat.zero_le _, by simpa using h⟩
  | v :: l, 0, h => by simp [initK] at h
  | v :: l, n + 1, h => by
    simp only [initK] at h
    obtain ⟨h1, h2⟩ := initK_ok h
    refine ⟨by simp; omega, ?_⟩
    simpa using h2
theorem All2_tops {g : G} {H : List Blk} {w : World} : ∀ n : Nat, All2 (V3 g H w) (List.replicate n .top) (List.replicate n undef)
  | 0 => trivial
  | n + 1 => ⟨trivial, All2_tops n⟩
def Post (g : G) (hp : List Blk) (w : World) (res : AV) (hp' : List Blk) (e : Ending) (w' : World) : Prop :=
  ∃ vv g', e = .returned vv ∧ Trans g hp w g' (ad3 hp' res).2 w' ∧ Good g' (ad3 hp' res).2 w' ∧ (∀ τ, g'.dom τ ↔ τ < (ad3 hp' res).2.length) ∧ V3 g' (ad3 hp' res).2 w' (ad3 hp' res).1 vv
theorem ret_ok (hT : TOk P T) {fn : Func} {tm : List AV} {hp : List Blk} {res : AV} {hpF : List Blk} (h : retK T b0 fn tm hp = some (res, hpF)) {g0 : G} {H0 : List Blk} {w0 : World} (hg0 : ∀ τ, g0.dom τ → τ < b0) {g : G} {a : Act} {w : World}
    (ht : Trans g0 H0 w0 g hp w) (hs : RS g tm hp a w) : ∃ v, (results fn a.tmps).run P w = .ok v w ∧ Post g0 H0 w0 res hpF (.returned v) w := by
  unfold retK at h
  split at h
  · rename_i rv hrs
    split at h
    · rename_i t hts
      obtain ⟨u, h1, hu⟩ := res1_ok (P := P) hT h
      obtain ⟨v', hpc, h2, htk, hV, hl1, hcv⟩ := conv2_ok hT h1
      obtain ⟨val, hrun, hval⟩ := hu g a w hs
      obtain ⟨g1, k1, k2, k3, k4⟩ := hcv [] g w val (by simpa using hs.good) (by simpa using hs.dom) (by simpa using hV _ _ _ _ hval)
      have htk3 : tk3 (· < b0) v' := by
        cases v' <;> first | exact htk | exact htk.elim
      have e3 : ∀ X, ad3 X v' = ad2 X v' := fun X => by
        cases v' <;> first | rfl | exact htk.elim
      obtain ⟨hres, hfin⟩ := fin_ok h2 htk3
      subst hres
      simp only [List.append_nil] at k1 k2 k3 k4
      rw [← e3] at k1 k2 k3 k4
      obtain ⟨g2, q1, q2, q3, q4⟩ := hfin g0 H0 w0 g1 w val hg0 (ht.trans k1) k2 k3 (V3_of_V2 k4)
      refine ⟨val, ?_, val, g2, rfl, q1, q2, q3, q4⟩
      have := results_run (P := P) (fn := fn) (a := a) (w := w) (vals := [val]) (by rw [hrs]; rfl) (fun i rv' v hi hv => by
        rw [hrs] at hi
        cases i with
        | zero => simp at hi hv; subst hi; subst hv; exact hrun
        | succ i => simp at hi)
      simpa using this
    · cases h
  · rename_i hne
    obtain ⟨vs', hpc, h2, htk, hl1, hcv⟩ := ress_ok (P := P) hT h
    obtain ⟨vals, g1, p0, p1, k1, k2, k3, k4⟩ := hcv g a w [] g hs (by simpa using Trans.refl g hp w) (by simpa using hs.good) (by simpa using hs.dom)
    obtain ⟨hres, hfin⟩ := fin_ok (v := .tup vs') h2 htk
    subst hres
    simp only [List.append_nil] at k1 k2 k3 k4
    obtain ⟨g2, q1, q2, q3, q4⟩ := hfin g0 H0 w0 g1 w (.tuple ⟨vals⟩) hg0 (ht.trans k1) k2 k3 ⟨vals, rfl, k4⟩
    refine ⟨.tuple ⟨vals⟩, ?_, _, g2, rfl, q1, q2, q3, q4⟩
    have := results_run (P := P) (fn := fn) (a := a) (w := w) (vals := vals) p0 p1
    have hn1 : ¬ vals.length = 1 := fun e => by
      rw [← p0] at e
      match hl : fn.results.toList, e with
      | [x], _ => exact hne x hl
    rw [dif_neg hn1] at this
    exact this
theorem retC_ok (hT : TOk P T) {ks : List (Tmp × Nat)} {fn : Func} {tm : List AV} {hp : List Blk} {res : AV} {hpF : List Blk} (h : retC T b0 ks fn tm hp = some (res, hpF)) {g0 : G} {H0 : List Blk} {w0 : World} (hg0 : ∀ τ, g0.dom τ → τ < b0) {g : G} {a : Act} {w : World}
    (ht : Trans g0 H0 w0 g hp w) (hs : RS g tm hp a w) : ∃ v, (results fn a.tmps).run P w = .ok v w ∧ Post g0 H0 w0 res hpF (.returned v) w := by
  unfold retC at h
  split at h
  · exact ret_ok hT h hg0 ht hs
  · obtain ⟨tm', hp', h1, hl, hk⟩ := keepTm_ok h
    obtain ⟨g', k1, k2, k3, k4⟩ := hk g w _ hs.good hs.tmps
    exact ret_ok hT h1 hg0 (ht.trans k1) ⟨k2, fun τ => by rw [k3, hs.dom, hl], k4, hs.defers⟩
theorem run_ok (hT : TOk P T) (hC : CSound P C) (hm : P.follows .mixedOrders = true) {keep : Nat → List (Tmp × Nat)} {L : Nat} {f : FuncId} {fn : Func} (hf : P.funcs[f]? = some fn) (hcode : ∀ c, fn.body = some c → codeOk sh keep c = true)
    {args : List AV} {hp : List Blk} {res : AV} {hpF : List Blk} (h : run T C sh keep L fn args hp = some (res, hpF)) {g : G} {w : World} {vs : List Value} (hg : Good g hp w) (hd : ∀ τ, g.dom τ ↔ τ < hp.length) (hv : All2 (V3 g hp w) args vs) :
    Calls P f vs.toArray w (Post g hp w res hpF) := by
  unfold run at h
  split at h
  case h_2 => cases h
  rename_i c hbody
  rw [lenK_eq, Nat.zero_add] at h
  obtain ⟨hle, h1⟩ := initK_ok h
  clear h
  refine calls_of_wp hf hbody ?_
  have hst : RS g (args ++ List.replicate (fn.ntmps - args.length) .top) hp { tmps := vs.toArray ++ Array.replicate (fn.ntmps - vs.toArray.size) undef, defers := [] } w := by
    refine ⟨hg, hd, ?_, rfl⟩
    unfold TmR
    simp only [Array.toList_append, Array.toList_replicate, List.size_toArray]
    rw [← All2_len hv]
    exact hv.append (All2_tops _)
  refine exec_ok hT hC hm (p := ⟨hp.length, keep, L⟩) (g0 := g) (H0 := hp) (w0 := w) (fun τ h => (hd τ).1 h) c (hcode c hbody) 9999 _ _ hp h1 g _ w (Trans.refl _ _ _) hst _ fun e tm' hp' g' a' w' h2 k1 k2 => ?_
  cases e with
  | normal =>
    obtain ⟨v, q1, q2⟩ := retC_ok (P := P) hT h2 (fun τ h => (hd τ).1 h) k1 k2
    exact ⟨k2.defers, v, q1, q2⟩
  | ret =>
    obtain ⟨v, q1, q2⟩ := retC_ok (P := P) hT h2 (fun τ h => (hd τ).1 h) k1 k2
    exact ⟨k2.defers, v, q1, q2⟩
  | exit i => cases h2
end
end Go.AM
namespace Go.AM
noncomputable def callN (T : TypeId → Option TI) (F : FuncId → Option Func) (X : CF) (isX : FuncId → Bool) (sh : FuncId → Bool) (keep : FuncId → Nat → List (Tmp × Nat)) (L : Nat) : Nat → CF
  | 0, _, _, _ => none
  | n + 1, f, args, hp => bif isX f then X f args hp else match F f with
    | some fn => run T (callN T F X isX sh keep L n) sh (keep f) L fn args hp
    | none => none
noncomputable def bodyOk (sh : FuncId → Bool) (keep : Nat → List (Tmp × Nat)) (fn : Func) : Bool :=
  match fn.body with
  | some c => codeOk sh keep c
  | none => false
def entB (fn : Func) : Bool := !(fn.name == "runtime.NumGoroutine") && !fn.body.isNone
theorem callN_sound {P : Program} {T : TypeId → Option TI} {F : FuncId → Option Func} {X : CF} {isX : FuncId → Bool} {sh : FuncId → Bool} {keep : FuncId → Nat → List (Tmp × Nat)} {L : Nat} (hT : TOk P T) (hm : P.follows .mixedOrders = true)
    (hF : ∀ f fn, F f = some fn → P.funcs[f]? = some fn ∧ bodyOk sh (keep f) fn = true ∧ entB fn = true) (hX : CSound P fun f args hp => bif isX f then X f args hp else none) : ∀ n, CSound P (callN T F X isX sh keep L n)
  | 0 => fun f args hp res hp' h => by cases h
  | n + 1 => fun f args hp res hp' h => by
    simp only [callN] at h
    cases hx : isX f with
    | true =>
      rw [hx] at h
      exact hX f args hp res hp' (by simp only [hx]; exact h)
    | false =>
      rw [hx] at h
      simp only [cond_false] at h
      split at h
      · rename_i fn hfn
        obtain ⟨h1, h2, h3⟩ := hF f fn hfn
        simp only [entB, Bool.and_eq_true, Bool.not_eq_true'] at h3
        refine ⟨⟨fn, h1, h3.1, h3.2⟩, fun g w vs hg hd hv => ?_⟩
        exact run_ok hT (callN_sound hT hm hF hX n) hm h1 (fun c hc => by unfold bodyOk at h2; rw [hc] at h2; exact h2) h hg hd hv
      · cases h
theorem noX_sound {P : Program} {X : CF} {isX : FuncId → Bool} (h : ∀ f, isX f = false) : CSound P fun f args hp => bif isX f then X f args hp else none := fun f args hp res hp' hh => by
  simp [h] at hh
def zOk1 : AV → Value → Bool
  | .int k n, v => match v with | .int k' n' => decide (k = k') && decide (n = n') | _ => false
  | .bool b, v => match v with | .bool b' => b == b' | _ => false
  | .str l, v => match v with | .string ⟨⟨l'⟩⟩ => l == l' | _ => false
  | .nil, v => match v with | .slice _ 0 0 => true | _ => false
  | .iface0, v => match v with | .nilIface => true | _ => false
  | _, _ => false
def zOks : List AV → List Value → Bool
  | [], [] => true
  | x :: xs, v :: vs => zOk1 x v && zOks xs vs
  | _, _ => false
def zOk : AV → Value → Bool
  | .agg cs, v => match v with | .agg ⟨vs⟩ => zOks cs vs | _ => false
  | x, v => zOk1 x v
theorem zOk1_ok {x : AV} {v : Value} (h : zOk1 x v = true) (g : G) (H : List Blk) (w : World) : V1 g H w x v := by
  cases x with
  | int k n =>
    cases v with
    | int k' n' => simp [zOk1] at h; obtain ⟨rfl, rfl⟩ := h; simp [V1, PCell]
    | _ => simp [zOk1] at h
  | bool b =>
    cases v with
    | bool b' => simp [zOk1] at h; subst h; simp [V1, PCell]
    | _ => simp [zOk1] at h
  | str l =>
    cases v with
    | string s => obtain ⟨⟨l'⟩⟩ := s; simp [zOk1] at h; subst h; simp [V1, PCell]
    | _ => simp [zOk1] at h
  | nil =>
    simp only [zOk1] at h
    split at h
    · simp [V1, PCell]
    · cases h
  | iface0 =>
    cases v with
    | nilIface => simp [V1, PCell]
    | _ => simp [zOk1] at h
  | _ => cases v <;> simp [zOk1] at h
theorem zOks_ok : ∀ {xs : List AV} {vs : List Value}, zOks xs vs = true → ∀ (g : G) (H : List Blk) (w : World), All2 (V1 g H w) xs vs
  | [], [], _, _, _, _ => trivial
  | x :: xs, v :: vs, h, g, H, w => by
    simp only [zOks, Bool.and_eq_true] at h
    exact ⟨zOk1_ok h.1 g H w, zOks_ok h.2 g H w⟩
  | [], _ :: _, h, _, _, _ => by simp [zOks] at h
  | _ :: _, [], h, _, _, _ => by simp [zOks] at h
theorem zOk_ok {x : AV} {v : Value} (h : zOk x v = true) (g : G) (H : List Blk) (w : World) : V2 g H w x v := by
  unfold zOk at h
  split at h
  · rename_i cs
    cases v with
    | agg a => obtain ⟨vs⟩ := a; exact ⟨vs, rfl, zOks_ok h g H w⟩
    | _ => simp at h
  · rename_i hne
    have := zOk1_ok h g H w
    cases x <;> first | exact this | exact absurd rfl (hne _)
def dOk : TD → TypeDesc → Bool
  | .int k, u => match u with | .int k' => decide (k = k') | _ => false
  | .bool, u => match u with | .bool => true | _ => false
  | .str, u => match u with | .string => true | _ => false
  | .slice e, u => match u with | .slice e' => e == e' | _ => false
  | .array n e, u => match u with | .array n' e' => n == n' && e == e' | _ => false
  | .struct fs _, u => match u with | .struct fields => fs == fields.toList.map fun f => (f.offset, f.type) | _ => false
  | .ptr e, u => match u with | .pointer e' => e == e' | _ => false
  | .other, _ => true
theorem dOk_ok {d : TD} {u : TypeDesc} (h : dOk d u = true) : DRel d u := by
  cases d with
  | other => trivial
  | struct fs eq =>
    cases u with
    | struct fields => simp only [dOk, beq_iff_eq] at h; exact ⟨fields, rfl, h⟩
    | _ => simp [dOk] at h
  | _ => cases u <;> simp [dOk] at h <;> simp [DRel, h]
def eqB (P : Program) : List Field → Nat → Bool
  | [], _ => true
  | f :: fs, k => f.name != "_" && f.offset == k && (match P.underlying f.type with | some (.int .i64) => true | _ => false) && eqB P fs (k + 1)
theorem eqFields_run {P : Program} {w : World} {d : Nat} {xs ys : List Int} : ∀ {fs : List Field} {k : Nat}, eqB P fs k = true → k + fs.length = xs.length → xs.length = ys.length →
    (Op.eqFields (d + 1) ⟨xs.map (.int .i64)⟩ ⟨ys.map (.int .i64)⟩ fs).run P w = .ok (decide (xs.drop k = ys.drop k)) w
  | [], k, _, hk, hl => by
    have h1 : xs.drop k = [] := List.drop_eq_nil_of_le (by simp at hk; omega)
    have h2 : ys.drop k = [] := List.drop_eq_nil_of_le (by simp at hk; omega)
    simp [Op.eqFields, h1, h2]
  | f :: fs, k, h, hk, hl => by
    simp only [eqB, Bool.and_eq_true, bne_iff_ne, ne_eq, beq_iff_eq] at h
    obtain ⟨⟨⟨h1, h2⟩, h3⟩, h4⟩ := h
    simp only [List.length_cons] at hk
    have hu : P.underlying f.type = some (.int .i64) := by
      revert h3
      cases P.underlying f.type with
      | none => simp
      | some u => cases u with
        | int k => cases k <;> simp
        | _ => simp
    have hk1 : k < xs.length := by omega
    have hk2 : k < ys.length := by omega
    have part : ∀ (zs : List Int), k < zs.length → ∀ w : World, (part f.type ⟨zs.map (.int .i64)⟩ f.offset).run P w = .ok (.int .i64 (zs.getD k 0)) w := fun zs hz w => by
      simp [Go.part, Go.isAgg, run_underlying hu, h2, hz]
    have heq : ∀ a b : Int, (Op.equalIn (d + 1) f.type (.int .i64 a) (.int .i64 b)).run P w = .ok (a == b) w := fun a b => by
      simp [Op.equalIn, run_underlying hu]
    have hx : xs.drop k = xs.getD k 0 :: xs.drop (k + 1) := by
      rw [List.drop_eq_getElem_cons hk1]; simp [hk1]
    have hy : ys.drop k = ys.getD k 0 :: ys.drop (k + 1) := by
      rw [List.drop_eq_getElem_cons hk2]; simp [hk2]
    simp only [Op.eqFields, ne_eq, h1, not_false_eq_true, if_true, Sem.run_bind, part xs hk1, part ys hk2, Result.andThen_ok, heq]
    rw [hx, hy]
    by_cases he : xs.getD k 0 = ys.getD k 0
    · have hb : (xs.getD k 0 == ys.getD k 0) = true := by simpa using he
      rw [hb]
      simp only [Bool.not_true, Bool.false_eq_true, if_false]
      rw [eqFields_run h4 (by omega) hl]
      congr 1
      simp only [List.cons.injEq, he, true_and]
    · have hb : (xs.getD k 0 == ys.getD k 0) = false := by simpa using he
      rw [hb]
      simp only [Bool.not_false, if_true, Sem.run_pure]
      congr 1
      symm
      simp only [decide_eq_false_iff_not, List.cons.injEq]
      exact fun e => he e.1
def tiB (P : Program) (t : TypeId) (s : Nat) (ag : Bool) (by_ : Nat) (z : AV) (d : TD) : Bool :=
  (match P.info? t with
    | some i => i.size == s && i.bytes == by_ && (match i.zero with | some zv => zv.cells.size == s && zOk z zv | none => false)
    | none => false) &&
  (match P.underlying t with
    | some u => (ag == aggD u) && dOk d u && (match u with | .struct fields => fields.toList.all fun f => (P.info? f.type).isSome | _ => true)
    | none => false) &&
  (match d with
    | .struct _ true => (match P.underlying t with
      | some (.struct fields) => eqB P fields.toList 0 && fields.size == s && !P.stoodInHeld t && !P.eqGuardType P.depth t
      | _ => false)
    | _ => true)
theorem tiB_ok {P : Program} {t : TypeId} {s : Nat} {ag : Bool} {by_ : Nat} {z : AV} {d : TD} (h : tiB P t s ag by_ z d = true) : TRel P t s ag by_ z d := by
  simp only [tiB, Bool.and_eq_true] at h
  obtain ⟨⟨h1, h2⟩, h3⟩ := h
  cases hi : P.info? t with
  | none => simp [hi] at h1
  | some i =>
    cases hu : P.underlying t with
    | none => simp [hu] at h2
    | some u =>
      simp only [hi, hu, Bool.and_eq_true, beq_iff_eq] at h1 h2
      obtain ⟨⟨h11, h12⟩, h13⟩ := h1
      obtain ⟨⟨h21, h22⟩, h23⟩ := h2
      refine ⟨⟨i, hi, h11, h12, .inr ?_⟩, ⟨u, hu, h21, dOk_ok h22⟩, fun fields hf f hff => ?_, fun fs hd xs ys hx hy w => ?_⟩
      · cases hz : i.zero with
        | none => simp [hz] at h13
        | some zv =>
          simp only [hz, Bool.and_eq_true, beq_iff_eq] at h13
          exact ⟨zv, rfl, h13.1, fun g H w => zOk_ok h13.2 g H w⟩
      · rw [hu] at hf
        cases hf
        simp only [List.all_eq_true] at h23
        have := h23 f (by simpa using hff)
        exact Option.isSome_iff_exists.1 this
      · subst hd
        simp only at h3
        cases u with
        | struct fields =>
          simp only [hu, Bool.and_eq_true, beq_iff_eq, Bool.not_eq_true'] at h3
          obtain ⟨⟨⟨h31, h32⟩, h33⟩, h34⟩ := h3
          refine ⟨?_, h34⟩
          have hfo : P.fieldsOf t = fields := by simp [Program.fieldsOf, hu]
          have e : (Op.equal t (.agg ⟨xs.map (.int .i64)⟩) (.agg ⟨ys.map (.int .i64)⟩)).run P w = (Op.eqFields (9998 + 1) ⟨xs.map (.int .i64)⟩ ⟨ys.map (.int .i64)⟩ (P.fieldsOf t).toList).run P w :=
            run_equalIn_struct (P := P) w 9999 t _ _ (by rw [hfo]; exact hu) h33
          rw [e, hfo, eqFields_run h31 (by simp; omega) (by omega)]
          simp
        | _ => simp [hu] at h3
end Go.AM
namespace Go.AM
open Go.RowKit
def findL {α : Type} : List (Nat × α) → Nat → Option α
  | [], _ => none
  | (a, x) :: l, t => bif Nat.beq a t then some x else findL l t
theorem findL_mem {α : Type} : ∀ {l : List (Nat × α)} {t : Nat} {x : α}, findL l t = some x → (t, x) ∈ l
  | [], _, _, h => by cases h
  | (a, y) :: l, t, x, h => by
    unfold findL at h
    cases hb : Nat.beq a t with
    | true =>
      rw [hb] at h
      have := Nat.eq_of_beq_eq_true hb
      subst this
      cases h
      exact List.mem_cons_self
    | false =>
      rw [hb] at h
      exact List.mem_cons_of_mem _ (findL_mem h)
def tiR (P : Program) : Nat × TI → Bool
  | (t, .mk s ag by_ z d) => tiB P t s ag by_ z d
theorem tOk_rows {P : Program} {rows : List (Nat × TI)} (h : rows.all (tiR P) = true) : TOk P (findL rows) := by
  intro t s ag by_ z d ht
  have := List.all_eq_true.1 h _ (findL_mem ht)
  exact tiB_ok this
def FOk (P : Program) (sh : FuncId → Bool) (keep : FuncId → Nat → List (Tmp × Nat)) (p : Nat × Func) : Prop := P.funcs[p.1]? = some p.2 ∧ bodyOk sh (keep p.1) p.2 = true ∧ entB p.2 = true
theorem fOk_nil {P : Program} {sh : FuncId → Bool} {keep : FuncId → Nat → List (Tmp × Nat)} : ∀ p ∈ ([] : List (Nat × Func)), FOk P sh keep p := fun _ h => by cases h
theorem fOk_cons {P : Program} {sh : FuncId → Bool} {keep : FuncId → Nat → List (Tmp × Nat)} {p : Nat × Func} {l : List (Nat × Func)} (h : FOk P sh keep p) (hl : ∀ p ∈ l, FOk P sh keep p) : ∀ q ∈ p :: l, FOk P sh keep q := by
  intro q hq
  rcases List.mem_cons.1 hq with rfl | hq
  · exact h
  · exact hl q hq
noncomputable def callF (T : TypeId → Option TI) (F : FuncId → Option Func) (sh : FuncId → Bool) (keep : FuncId → Nat → List (Tmp × Nat)) (L n : Nat) : CF :=
  callN T F (fun _ _ _ => none) (fun _ => false) sh keep L n
theorem callF_sound {P : Program} {rT : List (Nat × TI)} {rF : List (Nat × Func)} {sh : FuncId → Bool} {keep : FuncId → Nat → List (Tmp × Nat)} (hT : rT.all (tiR P) = true) (hF : ∀ p ∈ rF, FOk P sh keep p) (hm : P.follows .mixedOrders = true) (L n : Nat) :
    CSound P (callF (findL rT) (findL rF) sh keep L n) :=
  callN_sound (tOk_rows hT) hm (fun f fn h => hF _ (findL_mem h)) (noX_sound fun _ => rfl) n
theorem callF_step {T : TypeId → Option TI} {F : FuncId → Option Func} {sh : FuncId → Bool} {keep : FuncId → Nat → List (Tmp × Nat)} {L n f : Nat} {fn : Func} (h : F f = some fn) (args : List AV) (hp : List Blk) :
    callF T F sh keep L (n + 1) f args hp = run T (callF T F sh keep L n) sh (keep f) L fn args hp := by
  simp only [callF, callN, h, cond_false]
def gAll (w : World) : G := { dom := fun _ => False, ρ := fun _ => none, S := fun b => b < w.heap.size, Sl := fun b => b < w.heap.size }
theorem gAll_good (w : World) : Good (gAll w) [] w := ⟨fun _ h => h, fun _ h => h, fun _ h => h.elim, fun _ _ _ _ _ h => h.elim⟩
theorem law_calls {P : Program} {C : CF} (hC : CSound P C) {f : FuncId} {args : List AV} {b : Bool} (h : C f args [] = some (.bool b, [])) {w : World} {vs : List Value} (hv : All2 (V3 (gAll w) [] w) args vs) :
    Calls P f vs.toArray w fun e w' => e = .returned (.bool b) ∧ Below w.heap.size w w' := by
  obtain ⟨_, hc⟩ := hC f args [] _ _ h
  refine (hc (gAll w) w vs (gAll_good w) (fun τ => ⟨fun h => h.elim, fun h => by simp at h⟩) hv).mono fun e w' he => ?_
  obtain ⟨vv, g', rfl, ht, _, _, h3⟩ := he
  have hb : vv = .bool b := V3_bool.1 h3
  subst hb
  exact ⟨rfl, ht.env.1, ht.env.2.2.1, ht.env.2.1, ht.size, fun k hk => ht.prot k hk fun ⟨_, _, h, _⟩ => h⟩
section
variable {H : Type} {enc : TypeId × Value → H} {P : Program} {w : World} {spare : Nat → Bool} {held : Bool} {fuel : Nat}
def eA (c : List Int) : AV := .agg (c.map (.int .i64))
theorem cell_spot {a : Addr} {v : Value} (h : w.cell? a = some v) : a = ⟨a.block, a.off, none⟩ ∧ a.block < w.heap.size := by
  obtain ⟨b, o, s⟩ := a
  unfold World.cell? at h
  split at h
  · rename_i c _ _ hb
    cases s with
    | none =>
      refine ⟨rfl, ?_⟩
      rcases Nat.lt_or_ge b w.heap.size with h' | h'
      · exact h'
      · simp [Array.getElem?_eq_none h'] at hb
    | some _ => simp at h
  · cases h
end
end Go.AM
namespace Go.AM
open Go.Shelf Go.RowKit Go.Lib Go.Sort Go.Proofs
noncomputable def srt {α : Type} (cf : α → α → Int) (l : List α) : List α := l.mergeSort fun x y => !(ltOf cf y x)
def encP (p : Pt) : List Value := [.int .i64 p.x, .int .i64 p.y]
theorem ep_inj {a b : List Pt} (h : a.map ep = b.map ep) : a = b := by
  induction a generalizing b with
  | nil => cases b with
    | nil => rfl
    | cons y b => simp at h
  | cons x a ih =>
    cases b with
    | nil => simp at h
    | cons y b =>
      simp only [List.map_cons, List.cons.injEq, ep, AV.agg.injEq, AV.int.injEq, true_and, and_true] at h
      obtain ⟨⟨h1, h2⟩, h3⟩ := h
      rw [ih h3]
      cases x; cases y; simp_all
open Classical in
noncomputable def sortX (fS fC : FuncId) (cf : Pt → Pt → Int) : CF := fun f args hp =>
  match args, hp with
  | [.own 0 2 none _, .fn g [] []], [.rows .live 2 xs] =>
    if h : f = fS ∧ g = fC ∧ xs.length < 4611686018427387904 ∧ ∃ l : List Pt, xs = l.map ep then some (.tup [], [.rows .live 2 ((srt cf h.2.2.2.choose).map ep)]) else none
  | _, _ => none
theorem sortX_eq {fS fC : FuncId} {cf : Pt → Pt → Int} (c : Bool) (l : List Pt) (h : l.length < 4611686018427387904) :
    sortX fS fC cf fS [.own 0 2 none c, .fn fC [] []] [.rows .live 2 (l.map ep)] = some (.tup [], [.rows .live 2 ((srt cf l).map ep)]) := by
  have hh : fS = fS ∧ fC = fC ∧ (l.map ep).length < 4611686018427387904 ∧ ∃ l' : List Pt, l.map ep = l'.map ep := ⟨rfl, rfl, by simpa using h, l, rfl⟩
  simp only [sortX]
  rw [dif_pos hh]
  have := hh.2.2.2.choose_spec
  rw [← ep_inj this]
theorem sortX_some {fS fC f : FuncId} {cf : Pt → Pt → Int} {args : List AV} {hp hp' : List Blk} {res : AV} (h : sortX fS fC cf f args hp = some (res, hp')) :
    ∃ (l : List Pt) (c : Bool), f = fS ∧ args = [.own 0 2 none c, .fn fC [] []] ∧ hp = [.rows .live 2 (l.map ep)] ∧ l.length < 4611686018427387904 ∧ res = .tup [] ∧ hp' = [.rows .live 2 ((srt cf l).map ep)] := by
  unfold sortX at h
  split at h
  · split at h
    · rename_i hh
      obtain ⟨h1, h2, h3, h4⟩ := hh
      have h5 := h4.choose_spec
      simp only [Option.some.injEq, Prod.mk.injEq] at h
      refine ⟨h4.choose, _, h1, by rw [h2], by rw [← h5], ?_, h.1.symm, h.2.symm⟩
      rw [h5] at h3
      simpa using h3
    · cases h
  · cases h
theorem pf_of {g : G} {w : World} : ∀ {l : List Pt} {vs : List Value}, PFlat g w 2 (l.map ep) vs → vs = l.flatMap encP
  | [], vs, h => by simpa [PFlat] using h
  | p :: l, vs, h => by
    simp only [List.map_cons, PFlat] at h
    obtain ⟨r, vs', rfl, _, h2, h3⟩ := h
    rw [pf_of h3]
    simp only [ep, cells] at h2
    match r, h2 with
    | [a, b], ⟨ha, hb, _⟩ =>
      simp only [PC, PCell] at ha hb
      subst ha; subst hb
      simp [encP]
    | [], h2 => exact h2.elim
    | [a], h2 => exact h2.2.elim
    | a :: b :: c :: r, h2 => exact h2.2.2.elim
theorem pf_mk {g : G} {w : World} : ∀ (l : List Pt), PFlat g w 2 (l.map ep) (l.flatMap encP)
  | [] => by simp [PFlat]
  | p :: l => by
    simp only [List.map_cons, PFlat]
    exact ⟨encP p, l.flatMap encP, by simp, rfl, ⟨rfl, rfl, trivial⟩, pf_mk l⟩
theorem flat_get : ∀ (l : List Pt) (i c : Nat) (hi : i < l.length), c < 2 → (l.flatMap encP)[i * 2 + c]? = some ((encP l[i])[c]!)
  | [], i, c, hi, _ => by simp at hi
  | p :: l, 0, c, _, hc => by
    simp only [List.flatMap_cons, Nat.zero_mul, Nat.zero_add]
    match c, hc with
    | 0, _ => rfl
    | 1, _ => rfl
  | p :: l, i + 1, c, hi, hc => by
    have e : (i + 1) * 2 + c = (i * 2 + c) + 1 + 1 := by omega
    rw [e]
    simp only [List.flatMap_cons, encP, List.cons_append, List.nil_append, List.getElem?_cons_succ, List.getElem_cons_succ]
    exact flat_get l i c (by simpa using hi) hc
theorem flat_len (l : List Pt) : (l.flatMap encP).length = l.length * 2 := by
  induction l with
  | nil => rfl
  | cons p l ih => simp only [List.flatMap_cons, List.length_append, ih, encP, List.length_cons, List.length_nil]; omega
theorem flatK_flat (l : List Pt) : (flatK encP 2 l.toArray).toList = l.flatMap encP := by
  refine List.ext_getElem? fun j => ?_
  by_cases hj : j < l.length * 2
  · have hi : j / 2 < l.length := by omega
    have := flat_get l (j / 2) (j % 2) hi (by omega)
    rw [show j / 2 * 2 + j % 2 = j by omega] at this
    rw [this]
    have h2 := get_flatK encP 2 l.toArray j (by simpa using hj)
    have hs : j < (flatK encP 2 l.toArray).size := by simpa using hj
    rw [Array.getElem?_toList, Array.getElem?_eq_getElem hs]
    rw [getElem!_pos (flatK encP 2 l.toArray) j hs] at h2
    rw [h2]
    have e : l.toArray[j / 2]! = l[j / 2] := by simp [hi]
    rw [e]
  · rw [List.getElem?_eq_none (by simpa using hj), List.getElem?_eq_none (by rw [flat_len]; omega)]
theorem holds_of {g : G} {w : World} {b base : Nat} {l : List Pt} (hu : Unf w b 0) (h : PRows g.S g.Sl w 2 (l.map ep) b base) : HoldsK encP 2 w b base l.toArray := by
  obtain ⟨vs, h1, h2⟩ := PFlat_of h
  have := pf_of h1
  subst this
  intro j hj
  have hs : (flatK encP 2 l.toArray)[j]? = (l.flatMap encP)[j]? := by rw [← flatK_flat, Array.getElem?_toList]
  have e : (l.flatMap encP)[j]? = some (flatK encP 2 l.toArray)[j]! := by
    rw [← hs, Array.getElem?_eq_getElem hj, getElem!_pos (flatK encP 2 l.toArray) j hj]
  exact ⟨h2 j _ e, hu.frozen⟩
theorem of_holds {g : G} {w : World} {b base : Nat} {l : List Pt} (h : HoldsK encP 2 w b base l.toArray) : PRows g.S g.Sl w 2 (l.map ep) b base := by
  refine PFlat.rows (pf_mk l) fun j v hj => ?_
  have hjl := (List.getElem?_eq_some_iff.1 hj).1
  rw [flat_len] at hjl
  have hs : j < (flatK encP 2 l.toArray).size := by simpa using hjl
  have := (h j hs).1
  rw [this]
  rw [← flatK_flat, Array.getElem?_toList, Array.getElem?_eq_getElem hs] at hj
  rw [getElem!_pos (flatK encP 2 l.toArray) j hs]
  exact hj
theorem grown_of {w w' : World} (hs : w.heap.size ≤ w'.heap.size) (he : Env w w') (hp : ∀ b, b < w.heap.size → w'.heap[b]? = w.heap[b]?) : ∃ q os, w' = grow (w.drewN q) os := by
  refine ⟨w'.drawn - w.drawn, w'.heap.extract w.heap.size w'.heap.size, ?_⟩
  obtain ⟨h1, h2, h3, h4⟩ := he
  have hh : w'.heap = w.heap ++ w'.heap.extract w.heap.size w'.heap.size := by
    apply Array.ext_getElem?
    intro i
    rw [Array.getElem?_append]
    split
    · exact hp i (by assumption)
    · rename_i hi
      rw [Array.getElem?_extract]
      split
      · rw [show w.heap.size + (i - w.heap.size) = i by omega]
      · rw [Array.getElem?_eq_none (by omega)]
  cases w; cases w'
  simp only [grow, World.drewN, World.mk.injEq] at *
  exact ⟨hh, h3, by omega, h1, h2⟩
theorem gone_cmp {P : Program} {C : CF} (hC : CSound P C) {fC : FuncId} {x y : AV} {n : Int} (h : C fC [x, y] [] = some (.int .i64 n, [])) {w : World} {vx vy : Value} (hx : V3 (gAll w) [] w x vx) (hy : V3 (gAll w) [] w y vy) :
    Calls P fC #[vx, vy] w fun e w' => e = .returned (.int .i64 n) ∧ ∃ q os, w' = grow (w.drewN q) os := by
  obtain ⟨_, hc⟩ := hC _ _ _ _ _ h
  refine (hc (gAll w) w [vx, vy] (gAll_good w) (fun τ => ⟨fun h => h.elim, fun h => by simp at h⟩) ⟨hx, hy, trivial⟩).mono fun e w' he => ?_
  obtain ⟨vv, g', rfl, ht, _, _, h3⟩ := he
  have hb : vv = .int .i64 n := by simpa [ad3, ad2, ad1, V3, V2, V1, PCell] using h3
  subst hb
  exact ⟨rfl, grown_of ht.size ht.env fun b hb => ht.prot b hb fun ⟨_, _, h, _⟩ => h⟩
theorem v3_ep {g : G} {H : List Blk} {w : World} (p : Pt) : V3 g H w (ep p) (.agg (encP p).toArray) := by
  simp only [ep, V3, V2]
  exact ⟨_, rfl, by simp [encP, All2, V1, PCell]⟩
theorem upd_sort {w : World} {b base n : Nat} {d : List Pt} {dk : List Pt} {os : Array Obj} (hu : Unf w b 0) (hH : HoldsK encP 2 w b base d.toArray) (hs : dk.length = d.length) :
    (∀ x, x ≠ b → x < w.heap.size → (sortWorldK encP 2 w b base n dk.toArray os).heap[x]? = w.heap[x]?) ∧ Shape w (sortWorldK encP 2 w b base n dk.toArray os) ∧ Env w (sortWorldK encP 2 w b base n dk.toArray os) := by
  have hlt := hu.lt
  have old : ∀ x, x < w.heap.size → (sortWorldK encP 2 w b base n dk.toArray os).heap[x]? = (putRowK encP 2 (Sort.ahead w n) b base dk.toArray).heap[x]? := fun x hx => by
    unfold sortWorldK
    exact heap_grow_old _ _ (by rw [size_putRowK]; exact hx)
  refine ⟨fun x hx hlt => ?_, fun x cs el fr h => ?_, ?_⟩
  · rw [old x hlt]
    simp only [putRowK, putRow, mapBlock, heap_ahead, Array.getElem?_modify]
    rw [if_neg (Ne.symm hx)]
  · have hlt' : x < w.heap.size := by
      rcases Nat.lt_or_ge x w.heap.size with h' | h'
      · exact h'
      · simp [Array.getElem?_eq_none h'] at h
    rw [old x hlt']
    simp only [putRowK, putRow, mapBlock, heap_ahead, Array.getElem?_modify]
    by_cases hx : b = x
    · rw [if_pos hx, h]
      simp only [Option.map_some, onCells]
      exact ⟨_, rfl, by simp [putCells]⟩
    · rw [if_neg hx]
      exact ⟨cs, h, rfl⟩
  · unfold sortWorldK
    exact ⟨rfl, rfl, rfl, by simp [grow, putRowK, putRow, mapBlock, Sort.ahead]⟩
theorem sortX_sound {P : Program} {ρ : Go.Shelf.Ren} (L : SlLaysF0.n6 P ρ) (aE : ∀ w, (isAgg (ρ.t 24)).run P w = .ok true w) (zE : ∀ w, (Go.sizeOf (ρ.t 24)).run P w = .ok 2 w) {C : CF} (hC : CSound P C) {fC : FuncId} {cf : Pt → Pt → Int}
    (hcf : ∀ p q, C fC [ep p, ep q] [] = some (.int .i64 (cf p q), [])) (hO : SWO (ltOf cf)) (hT : ∀ x y, (ltOf cf) x y = false → (ltOf cf) y x = false → x = y) (hE : Enters P (ρ.f 6)) : CSound P (sortX (ρ.f 6) fC cf) := by
  intro f args hp res hp' h
  obtain ⟨l, c, rfl, rfl, rfl, hl, rfl, rfl⟩ := sortX_some h
  refine ⟨hE, fun g w vs hg hd hv => ?_⟩
  match vs, hv with
  | [v0, v1], ⟨h0, h1, _⟩ =>
  obtain ⟨av, cv, rfl, ha, hc⟩ := h1
  have e1 : av = [] := by cases av with | nil => rfl | cons _ _ => exact ha.elim
  have e2 : cv = [] := by cases cv with | nil => rfl | cons _ _ => exact hc.elim
  subst e1; subst e2
  have eg : ∀ args w, (callFunc fC args).run P w = .ok (.enter fC args) w := by
    obtain ⟨fn, q1, q2, q3⟩ := (hC _ _ _ _ _ (hcf default default)).1
    cases hb : fn.body with
    | none => rw [hb] at q3; simp at q3
    | some c => exact enters_of q1 q2 hb
  obtain ⟨hd0, h0⟩ := h0
  obtain ⟨blk, hb0, hr0⟩ := hg.tok 0 hd0
  simp only [List.getElem?_cons_zero, Option.some.injEq] at hb0
  subst hb0
  have lensrt : (srt cf l).length = l.length := by simp [srt]
  have fin0 : ∀ w', w' = w → l = [] → ∃ vv g', Ending.returned (.tuple #[]) = .returned vv ∧ Trans g [.rows .live 2 (l.map ep)] w g' (ad3 [.rows .live 2 ((srt cf l).map ep)] (.tup [])).2 w' ∧ Good g' (ad3 [.rows .live 2 ((srt cf l).map ep)] (.tup [])).2 w' ∧
      (∀ τ, g'.dom τ ↔ τ < (ad3 [.rows .live 2 ((srt cf l).map ep)] (.tup [])).2.length) ∧ V3 g' (ad3 [.rows .live 2 ((srt cf l).map ep)] (.tup [])).2 w' (ad3 [.rows .live 2 ((srt cf l).map ep)] (.tup [])).1 vv := by
    intro w' hw hl0
    subst hw; subst hl0
    have e : srt cf ([] : List Pt) = [] := by simp [srt]
    rw [e]
    exact ⟨_, g, rfl, .refl _ _ _, hg, hd, [], rfl, trivial⟩
  cases hρ : g.ρ 0 with
  | none =>
    rw [hρ] at h0
    obtain ⟨⟨A, rfl⟩, hlen⟩ := h0
    have hl0 : 0 = (l.map ep).length := hlen .live 2 (l.map ep) rfl (by simp)
    have hl1 : l = [] := by
      cases l with
      | nil => rfl
      | cons _ _ => simp at hl0
    exact (AnyF.slices_SortFunc_none L A 0 _ w).mono fun e w' ⟨he, hw⟩ => by rw [he]; exact fin0 w' hw hl1
  | some p =>
    obtain ⟨b, base⟩ := p
    rw [hρ] at h0
    obtain ⟨k, o, l', cap, rfl, hk, hlc, _, _, _, rfl, hlen⟩ := h0
    have hl0 : l' = (l.map ep).length := hlen .live 2 (l.map ep) rfl (by simp)
    simp only [List.length_map] at hl0
    subst hl0
    by_cases hl1 : l = []
    · subst hl1
      exact (AnyF.slices_SortFunc_none L _ cap _ w).mono fun e w' ⟨he, hw⟩ => by rw [he]; exact fin0 w' hw rfl
    · have hpos : 0 < l.length := List.length_pos_iff.2 hl1
      have hkb : k = base := by
        rcases hk with hk | hk
        · simpa using hk
        · omega
      subst hkb
      rcases hr0 with ⟨h00, _⟩ | ⟨b', o', hρ', hnS, hu, hrows⟩
      · rw [hρ] at h00; cases h00
      rw [hρ] at hρ'
      cases hρ'
      have hH := holds_of hu hrows
      have hcmp : CmpLays P fC #[] encP 2 cf b k l.toArray.size w := fun m os dk hs x y => by
        have := gone_cmp hC (hcf x y) (w := sortWorldK encP 2 w b k m dk os) (v3_ep x) (v3_ep y)
        simpa using this
      have key := AnyQ.slices_SortFunc_total L 2 aE zE encP (fun _ => rfl) (fun x v hv => by simp [encP] at hv; rcases hv with rfl | rfl <;> rfl) cf hO fC #[] b k cap l.toArray w eg hcmp hH hu.lt (by simpa using hl) hT
      simp only [List.size_toArray] at key
      refine key.mono fun e w' ⟨he, n, os, hw⟩ => ?_
      subst he
      have hw' : w' = sortWorldK encP 2 w b k n (srt cf l).toArray os := hw
      subst hw'
      obtain ⟨u1, u2, u3⟩ := upd_sort (n := n) (os := os) hu hH lensrt
      have hsz : w.heap.size ≤ (sortWorldK encP 2 w b k n (srt cf l).toArray os).heap.size := size_sortWorldK_c encP 2 w b k n _ os
      have hH' := holdsK_sortWorldK_c encP 2 w b k l.toArray (srt cf l).toArray n os hH hu.lt (by simpa using lensrt)
      have ho : Own g [.rows .live 2 (l.map ep)] b := ⟨0, k, hd0, hρ, _, rfl, trivial⟩
      have ht : Trans g [.rows .live 2 (l.map ep)] w g [.rows .live 2 ((srt cf l).map ep)] (sortWorldK encP 2 w b k n (srt cf l).toArray os) := {
        dom := fun _ h => h
        ρ := fun _ _ => rfl
        S := fun _ h => h
        Sl := fun _ h => h
        newS := fun _ h => .inl h
        newSl := fun _ h => .inl h
        size := hsz
        shape := u2
        env := u3
        prot := fun x hx hn => u1 x (fun e => hn (e ▸ ho)) hx
        own := fun x ⟨τ, o, h1, h2, h3⟩ => by
          have : τ < 1 := by simpa using (hd τ).1 h1
          obtain rfl : τ = 0 := by omega
          exact .inr ⟨0, o, h1, h2, _, rfl, trivial⟩
        len := fun τ hτ m E xs hx hm => by
          have : τ < 1 := by simpa using (hd τ).1 hτ
          obtain rfl : τ = 0 := by omega
          simp only [List.getElem?_cons_zero, Option.some.injEq, Blk.rows.injEq] at hx
          obtain ⟨rfl, rfl, rfl⟩ := hx
          exact ⟨.live, l.map ep, rfl, hm, by simp [lensrt]⟩
        box := fun τ hτ y hy => by
          have : τ < 1 := by simpa using (hd τ).1 hτ
          obtain rfl : τ = 0 := by omega
          simp at hy }
      refine ⟨_, g, rfl, ht, ⟨hg.sub, fun x hx => Nat.lt_of_lt_of_le (hg.lt x hx) hsz, fun τ hτ => ?_, fun τ τ' b o o' h1 h2 _ _ _ _ => ?_⟩, hd, [], rfl, trivial⟩
      · have : τ < 1 := by simpa using (hd τ).1 hτ
        obtain rfl : τ = 0 := by omega
        exact ⟨_, rfl, .inr ⟨b, k, hρ, hnS, hu.mono u2, of_holds hH'⟩⟩
      · have : τ < 1 := by simpa using (hd τ).1 h1
        have : τ' < 1 := by simpa using (hd τ').1 h2
        omega
end Go.AM
namespace Go.AM
open Go.Shelf Go.RowKit Go.Lib Go.Sort Go.Proofs
def ordP (p q : Pt) : Int := if p.x < q.x then -1 else if q.x < p.x then 1 else if p.y < q.y then -1 else if q.y < p.y then 1 else 0
theorem ltOf_ordP (p q : Pt) : ltOf ordP p q = decide (p.x < q.x ∨ (p.x = q.x ∧ p.y < q.y)) := by
  unfold ltOf ordP
  rw [decide_eq_decide]
  split
  · omega
  · split
    · omega
    · split
      · omega
      · split <;> omega
theorem swo_ordP : SWO (ltOf ordP) where
  irrefl x := by rw [ltOf_ordP]; simp
  trans x y z h1 h2 := by rw [ltOf_ordP] at *; simp only [decide_eq_true_eq] at *; omega
  ntrans x y z h1 h2 := by rw [ltOf_ordP] at *; simp only [decide_eq_false_iff_not] at *; omega
theorem tot_ordP (x y : Pt) (h1 : ltOf ordP x y = false) (h2 : ltOf ordP y x = false) : x = y := by
  rw [ltOf_ordP] at *
  simp only [decide_eq_false_iff_not] at *
  cases x; cases y
  simp only [Pt.mk.injEq] at *
  omega
noncomputable def sortP (a : List Pt) : Option (List Pt) := if a.length < 4611686018427387904 then some (srt ordP a) else none
theorem sortX_ok {fS fC : FuncId} (c : Bool) (x : List AV) (l : List Pt) (hx : x = l.map ep) (hs : ∀ xs : List Pt, ¬ xs.length < 4611686018427387904 → sortX fS fC ordP fS [.own 0 2 none c, .fn fC [] []] [.rows .live 2 (xs.map ep)] = none) :
    sortX fS fC ordP fS [.own 0 2 none c, .fn fC [] []] [.rows .live 2 x] = Option.map (fun r => (.tup [], [.rows .live 2 (r.map ep)])) (sortP l) := by
  subst hx
  unfold sortP
  split
  · rename_i h; rw [sortX_eq c l h]; rfl
  · rename_i h; rw [hs l h]; rfl
theorem sortX_none {fS fC : FuncId} {cf : Pt → Pt → Int} (c : Bool) (l : List Pt) (h : ¬ l.length < 4611686018427387904) : sortX fS fC cf fS [.own 0 2 none c, .fn fC [] []] [.rows .live 2 (l.map ep)] = none := by
  simp only [sortX]
  rw [dif_neg]
  rintro ⟨_, _, h3, _⟩
  exact h (by simpa using h3)
theorem sortX_all {fS fC : FuncId} (c : Bool) (x : List AV) (l : List Pt) (hx : x = l.map ep) :
    sortX fS fC ordP fS [.own 0 2 none c, .fn fC [] []] [.rows .live 2 x] = Option.map (fun r => (.tup [], [.rows .live 2 (r.map ep)])) (sortP l) :=
  sortX_ok c x l hx fun xs h => sortX_none c xs h
theorem callX_step {T : TypeId → Option TI} {F : FuncId → Option Func} {X : CF} {isX : FuncId → Bool} {sh : FuncId → Bool} {keep : FuncId → Nat → List (Tmp × Nat)} {L n f : Nat} {fn : Func} (hx : isX f = false) (h : F f = some fn) (args : List AV) (hp : List Blk) :
    callN T F X isX sh keep L (n + 1) f args hp = run T (callN T F X isX sh keep L n) sh (keep f) L fn args hp := by
  simp only [callN, h, hx, cond_false]
theorem callX_ext {T : TypeId → Option TI} {F : FuncId → Option Func} {X : CF} {isX : FuncId → Bool} {sh : FuncId → Bool} {keep : FuncId → Nat → List (Tmp × Nat)} {L n f : Nat} (hx : isX f = true) (args : List AV) (hp : List Blk) :
    callN T F X isX sh keep L (n + 1) f args hp = X f args hp := by
  simp only [callN, hx, cond_true]
end Go.AM
namespace Go.AM
open Go.RowKit Go.WideShapes
section
variable {H : Type} {enc : TypeId × Value → H} {P : Program} {w : World} {spare : Nat → Bool} {held : Bool} {fuel : Nat}
end
end Go.AM
namespace Go.AM
def Wd (p : Pt) : Prop := (-9223372036854775808 ≤ p.x ∧ p.x ≤ 9223372036854775807) ∧ (-9223372036854775808 ≤ p.y ∧ p.y ≤ 9223372036854775807)
theorem nRowsU_of {Sl : Nat → Prop} {w : World} {b : Nat} : ∀ {xs : List Int} {off : Nat}, (∀ (i : Nat) n, xs[i]? = some n → w.cell? ⟨b, off + i, none⟩ = some (.int .u8 n)) → NRows Sl w 1 (xs.map eU) b off
  | [], _, _ => by simp [NRows]
  | n :: xs, off, h => by
    simp only [List.map_cons, eU, NRows]
    refine ⟨trivial, ⟨.int .u8 n, by simpa using h 0 n rfl, by simp [NCell]⟩, nRowsU_of fun i m hm => ?_⟩
    rw [show off + 1 + i = off + (i + 1) by omega]
    exact h (i + 1) m (by simpa using hm)
section
variable {H : Type} {enc : TypeId × Value → H} {P : Program} {w : World} {spare : Nat → Bool} {held : Bool} {fuel : Nat}
theorem open_bytesA {t e : TypeId} (ht : P.underlying t = some (.slice e)) (he : P.underlying e = some (.int .u8)) (hc : P.cellsOf e = 1) {a : Option Addr} {len cap : Nat} {x : DataW H × List MemPlace} (h : DataW.trod enc P w 0 spare held fuel t [.slice a len cap] = some x) :
    ∃ xs : List Int, (∀ m ∈ xs, (Lit.int .u8 m).wf = true) ∧ ∀ g : G, (∀ b, b < w.heap.size → g.Sl b) → V3 g [] w (.lst false false 1 (xs.map eU)) (.slice a len cap) := by
  rcases Go.ChangeShapes.open_ints ht he hc h with ⟨h0, _⟩ | ⟨a', len', cap', zs, h0, _, hl, _, hz, _, hcell, hwf⟩
  · cases h0
    exact ⟨[], (fun c hc => by cases hc), fun g _ => ⟨none, 0, rfl, Nat.le_refl _, (fun h => by cases h), .inl rfl⟩⟩
  · cases h0
    have hlz : len ≤ zs.length := by rw [hz]; split <;> omega
    refine ⟨zs.take len, fun m hm => hwf m (List.mem_of_mem_take hm), fun g hg => ?_⟩
    have hlen : (zs.take len).length = len := by simp; omega
    refine ⟨some a', cap, by rw [List.length_map, hlen], by rw [List.length_map, hlen]; exact hl, (fun h => by cases h), ?_⟩
    by_cases h0 : len = 0
    · left; subst h0; simp
    · right
      have hz0 := hcell 0 (by omega)
      simp only [Addr.add, if_true] at hz0
      obtain ⟨hs, hb⟩ := cell_spot hz0
      refine ⟨a'.block, a'.off, by rw [← hs], hg _ hb, ?_⟩
      refine nRowsU_of fun i m hm => ?_
      have hi := (List.getElem?_eq_some_iff.1 hm).1
      rw [hlen] at hi
      have := hcell i (by omega)
      rw [hs, addr_add] at this
      rw [this]
      have h1 : zs[i]? = some m := by simpa [List.getElem?_take, hi] using hm
      simp [h1]
end
theorem by_of {xs : List Int} (h : ∀ m ∈ xs, (Lit.int .u8 m).wf = true) : ∀ x ∈ xs, 0 ≤ x ∧ x ≤ 255 := fun x hx => by
  have := h x hx
  simp [Lit.wf, IntKind.min, IntKind.max, IntKind.signed, IntKind.bits] at this
  omega
end Go.AM
