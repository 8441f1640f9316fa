import Derived.Test.YtkpegcamiholbaaGreatAmM0
set_option linter.unusedVariables false
set_option linter.unusedSimpArgs false
set_option linter.unnecessarySimpa false
set_option linter.deprecated false
set_option linter.unusedSectionVars false
namespace Go.AM
open Classical
noncomputable def bw (B : List Pt) (q : Pt) : Int := if B.length = 1 then (if q = pt B 0 then 0 else -1) else wh B q
theorem impl_bandWhere_eq {L : Nat} {B : List Pt} {q : Pt} (hn : B ≠ []) (hs : (B.length : Int) ≤ 1000) (hin : ∀ i, Nr (pt B i)) (hq : Nr q) (hL : (B.length : Int) < L) : impl_bandWhere L B q.x q.y = some (bw B q) := by
  unfold impl_bandWhere bw
  have hpos := List.length_pos_iff.2 hn
  simp only [ilen_mapep, ieq_eq, gbind_eq]
  by_cases h1 : (B.length : Int) = 1
  · have h1' : B.length = 1 := by omega
    simp only [h1, decide_true, cond_true, lget_pt (show (0 : Int) ≤ 0 by omega) (show (0 : Int) < (B.length : Int) by omega), Option.bind_some, if_pos h1']
    by_cases e : q = pt B 0
    · have : (decide (q.x = (pt B 0).x) && decide (q.y = (pt B 0).y)) = true := pt_eq_iff.2 e
      rw [this, if_pos e]; rfl
    · have : (decide (q.x = (pt B 0).x) && decide (q.y = (pt B 0).y)) = false := by rw [← Bool.not_eq_true, pt_eq_iff]; exact e
      rw [this, if_neg e]; rfl
  · have h1' : ¬ B.length = 1 := by omega
    simp only [h1, decide_false, cond_false, if_neg h1', (where_val hn hs hin hq hL).2, Option.bind_some]
def OnB (B : List Pt) (q : Pt) : Prop := ∃ i, 0 ≤ i ∧ i < (B.length : Int) ∧ (pt B i = q ∨ (1 < (B.length : Int) ∧ OnL (pt B i) (pt B (i + 1)) q))
theorem lget_next {B : List Pt} {v : Int} (hn : B ≠ []) (hs : (B.length : Int) ≤ 1000) (h0 : 0 ≤ v) (h1 : v < (B.length : Int)) : lget B (irem (wr .i64 (v + 1)) (B.length : Int)) = some (pt B (v + 1)) := by
  rw [wr_s (by omega), lget_rem (by omega) hn]
theorem spec_bdOn_eq {L : Nat} {B : List Pt} {q : Pt} (hn : B ≠ []) (hs : (B.length : Int) ≤ 1000) (hin : ∀ i, Nr (pt B i)) (hq : Nr q) (hL : (B.length : Int) < L) : spec_bdOn L B q.x q.y = some (decide (OnB B q)) := by
  have hpos := List.length_pos_iff.2 hn
  have eqq : ∀ v, (decide ((pt B v).x = q.x) && decide ((pt B v).y = q.y)) = decide (pt B v = q) := fun v => by rw [Bool.eq_iff_iff, pt_eq_iff]; simp
  have key := search (f := fun m v => spec_bdOn_l0 L B q.x q.y m v) (lo := 0) (n := (B.length : Int)) (hi := 1000) (r := some true) (k := some false)
    (bad := fun i => pt B i = q ∨ (1 < (B.length : Int) ∧ OnL (pt B i) (pt B (i + 1)) q)) hs ?_ ?_ ?_ L 0 (Int.le_refl _) (by omega) (by omega) (by omega)
  · unfold spec_bdOn
    by_cases h : OnB B q
    · obtain ⟨i, h1, h2, h3⟩ := h
      rw [key.1 ⟨i, h1, h2, h3⟩]
      rw [decide_eq_true (show OnB B q from ⟨i, h1, h2, h3⟩)]
    · rw [key.2 fun i h1 h2 h3 => h ⟨i, h1, h2, h3⟩, decide_eq_false h]
  · intro m v h0 _ h
    simp only [spec_bdOn_l0, ilen_mapep, ilt_eq, h, decide_false, cond_false]
  · intro m v h0 h hb
    simp only [spec_bdOn_l0, ilen_mapep, ilt_eq, h, decide_true, cond_true, lget_pt h0 h, gbind_eq, Option.bind_some, ieq_eq, eqq]
    by_cases e : pt B v = q
    · simp only [e, decide_true, cond_true]
    · obtain ⟨h1, h2⟩ := hb.resolve_left e
      simp only [e, h1, decide_false, cond_false, decide_true, cond_true, show ¬ (B.length : Int) = 0 by omega, iadd_eq, lget_next hn hs h0 h, Option.bind_some]
      rw [spec_pgOn_eq (hin _) (hin _) hq, decide_eq_true h2]; rfl
  · intro m v h0 h hb
    simp only [spec_bdOn_l0, ilen_mapep, ilt_eq, h, decide_true, cond_true, lget_pt h0 h, gbind_eq, Option.bind_some, ieq_eq, eqq]
    have e : ¬ pt B v = q := fun e => hb (.inl e)
    simp only [e, decide_false, cond_false, show ¬ (B.length : Int) = 0 by omega, iadd_eq, lget_next hn hs h0 h, Option.bind_some]
    rw [wr_s (show -1000000 ≤ v + 1 ∧ v + 1 ≤ 1000000 by omega)]
    by_cases h1 : 1 < (B.length : Int)
    · have h2 : ¬ OnL (pt B v) (pt B (v + 1)) q := fun h2 => hb (.inr ⟨h1, h2⟩)
      simp only [h1, decide_true, cond_true]
      rw [spec_pgOn_eq (hin _) (hin _) hq, decide_eq_false h2]; rfl
    · simp only [h1, decide_false, cond_false]
theorem onB_rim {B : List Pt} {q : Pt} (h1 : B.length ≠ 1) (hn : B ≠ []) : OnB B q ↔ Rim B q := by
  have hpos := List.length_pos_iff.2 hn
  constructor
  · rintro ⟨i, h0, hi, h | ⟨_, h⟩⟩
    · refine ⟨i, h0, hi, ?_⟩
      subst h
      exact ⟨turn_self1 _ _, by simp, by simp⟩
    · exact ⟨i, h0, hi, h⟩
  · rintro ⟨i, h0, hi, h⟩
    exact ⟨i, h0, hi, .inr ⟨by omega, h⟩⟩
theorem bw_zero {B : List Pt} {q : Pt} (hn : B ≠ []) : bw B q = 0 ↔ OnB B q := by
  have hpos := List.length_pos_iff.2 hn
  unfold bw
  by_cases h1 : B.length = 1
  · rw [if_pos h1]
    constructor
    · intro h
      split at h
      · rename_i e; exact ⟨0, by omega, by omega, .inl e.symm⟩
      · omega
    · rintro ⟨i, h0, hi, h | ⟨h, _⟩⟩
      · obtain rfl : i = 0 := by omega
        rw [if_pos h.symm]
      · omega
  · rw [if_neg h1, onB_rim h1 hn]
    unfold wh
    constructor
    · intro h
      split at h
      · assumption
      · split at h <;> omega
    · intro h; rw [if_pos h]
theorem two_out {B : List Pt} {q : Pt} (h2 : B.length = 2) : par B q 0 B.length = false := by
  rw [h2, par_xr]
  have hp : pt B (0 + 1 + 1) = pt B 0 := by have := pt_per B 0; rw [h2] at this; rw [show (0 : Int) + 1 + 1 = 0 + ((2 : Nat) : Int) by rfl]; exact this
  simp only [xr, Int.zero_add, show ((0 : Nat) : Int) = 0 by rfl, show ((1 : Nat) : Int) = 1 by rfl]
  rw [Int.zero_add] at hp
  rw [hp]
  have : tg (pt B 1) (pt B 0) q = tg (pt B 0) (pt B 1) q := by
    unfold tg
    rw [turn_swap (pt B 0) (pt B 1) q]
    rw [decide_eq_decide]
    omega
  rw [this]
  simp
theorem spec_bdIn_l0_eq {L : Nat} {B : List Pt} {q : Pt} (hn : B ≠ []) (hs : (B.length : Int) ≤ 1000) (hin : ∀ i, Nr (pt B i)) (hq : Nr q) (hL : (B.length : Int) < L) : spec_bdIn_l0 L B q.x q.y L 0 = some (decide (∀ i, 0 ≤ i → i < (B.length : Int) → 0 ≤ turn (pt B i) (pt B (i + 1)) q)) := by
  have hpos := List.length_pos_iff.2 hn
  have key := search (f := fun m v => spec_bdIn_l0 L B q.x q.y m v) (lo := 0) (n := (B.length : Int)) (hi := 1000) (r := some false) (k := some true)
    (bad := fun i => turn (pt B i) (pt B (i + 1)) q < 0) hs ?_ ?_ ?_ L 0 (Int.le_refl _) (by omega) (by omega) (by omega)
  · by_cases h : ∀ i, 0 ≤ i → i < (B.length : Int) → 0 ≤ turn (pt B i) (pt B (i + 1)) q
    · rw [key.2 fun i h1 h2 h3 => by have := h i h1 h2; omega, decide_eq_true h]
    · have : ∃ i, 0 ≤ i ∧ i < (B.length : Int) ∧ turn (pt B i) (pt B (i + 1)) q < 0 := Classical.byContradiction fun e => h fun i h1 h2 => by
        rcases Int.lt_or_le (turn (pt B i) (pt B (i + 1)) q) 0 with h3 | h3
        · exact absurd ⟨i, h1, h2, h3⟩ e
        · exact h3
      rw [key.1 this, decide_eq_false h]
  · intro m v h0 _ h
    simp only [spec_bdIn_l0, ilen_mapep, ilt_eq, h, decide_false, cond_false]
  · intro m v h0 h hb
    simp only [spec_bdIn_l0, ilen_mapep, ilt_eq, h, decide_true, cond_true, lget_pt h0 h, gbind_eq, Option.bind_some, ieq_eq, show ¬ (B.length : Int) = 0 by omega, decide_false, cond_false, iadd_eq, lget_next hn hs h0 h]
    rw [spec_pgTurn_eq (hin _) (hin _) hq]
    simp only [Option.bind_some, hb, decide_true, cond_true]
  · intro m v h0 h hb
    simp only [spec_bdIn_l0, ilen_mapep, ilt_eq, h, decide_true, cond_true, lget_pt h0 h, gbind_eq, Option.bind_some, ieq_eq, show ¬ (B.length : Int) = 0 by omega, decide_false, cond_false, iadd_eq, lget_next hn hs h0 h]
    rw [spec_pgTurn_eq (hin _) (hin _) hq]
    simp only [Option.bind_some, hb, decide_false, cond_false]
    rw [wr_s (show -1000000 ≤ v + 1 ∧ v + 1 ≤ 1000000 by omega)]
theorem in_band {L : Nat} {a : List Pt} {q : Pt} (h : Diff a) (hq : Nr q) (hL : 100 < L) : spec_bdIn L (bandL (isort a)) q.x q.y = some (decide (0 ≤ bw (bandL (isort a)) q)) := by
  have hb := h.band
  have hl := hb.len
  have hN : ∀ i, Nr (pt (bandL (isort a)) i) := fun i => (hb.isIn i).nr
  have hne : isort a ≠ [] := fun e => h.nn (List.eq_nil_of_length_eq_zero (by rw [← isort_len, e]; rfl))
  have hpos := List.length_pos_iff.2 hb.nn
  unfold spec_bdIn
  simp only [ilen_mapep, ilt_eq, gbind_eq]
  by_cases h3 : ((bandL (isort a)).length : Int) < 3
  · simp only [h3, decide_true, cond_true]
    rw [spec_bdOn_eq hb.nn (by omega) hN hq (by omega)]
    simp only [Option.bind_some]
    congr 1
    rw [decide_eq_decide, ← bw_zero hb.nn]
    constructor
    · intro e; omega
    · intro e
      by_cases h1 : (bandL (isort a)).length = 1
      · unfold bw at e ⊢
        rw [if_pos h1] at e ⊢
        split at e
        · rename_i hh; rw [if_pos hh]
        · omega
      · have h2 : (bandL (isort a)).length = 2 := by omega
        unfold bw at e ⊢
        rw [if_neg h1] at e ⊢
        unfold wh at e ⊢
        rw [two_out h2] at e
        split at e
        · rename_i hh; rw [if_pos hh]
        · simp at e
  · simp only [h3, decide_false, cond_false]
    rw [spec_bdIn_l0_eq hb.nn (by omega) hN hq (by omega)]
    congr 1
    rw [decide_eq_decide]
    have hull : Hull ((bandL (isort a)).length : Int) (pt (bandL (isort a))) (isort a) := by
      rcases band_hull h.rise hne with ⟨h1, h2⟩ | ⟨_, h2⟩ | ⟨_, h2⟩
      · rw [h2] at h3; omega
      · omega
      · exact h2
    unfold bw
    rw [if_neg (by omega), in_iff hull.lp]
    constructor
    · intro hh i
      have c1 := Int.emod_nonneg i (b := ((bandL (isort a)).length : Int)) (by omega)
      have c2 := Int.emod_lt_of_pos i (b := ((bandL (isort a)).length : Int)) (by omega)
      have := hh _ c1 c2
      rwa [pt_mod, pt_congr (i := i % ((bandL (isort a)).length : Int) + 1) (j := i + 1) (by rw [Int.add_emod (i % _) 1, Int.emod_emod_of_dvd _ (Int.dvd_refl _), ← Int.add_emod])] at this
    · intro hh i _ _
      exact hh i
theorem inBand_eq {L : Nat} {a : List Pt} {q : Pt} (hL : 5000 < L) : ∃ r, spec_InBand L a q.x q.y = some r ∧ impl_InBand L a q.x q.y = some r := by
  unfold spec_InBand impl_InBand
  rw [spec_bdGood_eq (by omega), impl_AreDifferent_eq (by omega)]
  simp only [gbind_eq, Option.bind_some]
  by_cases h : Diff a
  · have hi := h.hi
    simp only [h, decide_true, Bool.not_true, cond_false]
    by_cases hq : In q
    · rw [spec_pgIs_eq.1 hq, impl_IsPeg_eq.1 hq]
      have hb := h.band
      have hl := hb.len
      have hN : ∀ i, Nr (pt (bandL (isort a)) i) := fun i => (hb.isIn i).nr
      simp only [Option.bind_some, Bool.not_true, cond_false]
      rw [spec_bdBand_eq (by omega) (by omega) h.nr, impl_band_eq h.nn (by omega) (by omega) h.nr]
      simp only [Option.bind_some]
      rw [in_band h hq.nr (by omega), impl_bandWhere_eq hb.nn (by omega) hN hq.nr (by omega)]
      simp only [Option.bind_some, ile_eq]
      exact ⟨_, rfl, by congr⟩
    · rw [spec_pgIs_eq.2 hq, impl_IsPeg_eq.2 hq]
      exact ⟨_, rfl, rfl⟩
  · simp only [h, decide_false, Bool.not_false, cond_true]
    exact ⟨_, rfl, rfl⟩
end Go.AM
namespace Go.AM
theorem diff_of {a : List Pt} (hn : a ≠ []) (hl : (a.length : Int) ≤ 30) (hin : ∀ x ∈ a, In x) (hd : a.Nodup) : Diff a where
  lo := by have := List.length_pos_iff.2 hn; omega
  hi := hl
  isIn := fun i _ _ => hin _ (pt_mem hn i)
  ne := fun i k h0 h1 h2 e => by
    have g1 := pt_get (a := a) (i := i) (by omega) h2
    have g2 := pt_get (a := a) (i := k) h0 (by omega)
    rw [e, ← g1] at g2
    rw [List.nodup_iff_pairwise_ne, List.pairwise_iff_getElem] at hd
    have hk : k.toNat < a.length := by omega
    have hi : i.toNat < a.length := by omega
    rw [List.getElem?_eq_getElem hk, List.getElem?_eq_getElem hi] at g2
    exact hd k.toNat i.toNat hk hi (by omega) (Option.some.inj g2)
open Classical in
noncomputable def onb (a : List Pt) : List Pt × List Pt := ((isort a).filter (fun p => decide (OnB (bandL (isort a)) p)), (isort a).filter (fun p => !decide (OnB (bandL (isort a)) p)))
theorem get_pt {a : List Pt} {i : Nat} (h : i < a.length) : a[i] = pt a i := by
  have := pt_get (a := a) (i := (i : Int)) (by omega) (by omega)
  rw [Int.toNat_natCast, List.getElem?_eq_getElem h] at this
  exact Option.some.inj this
open Classical in
theorem outer_l0 {L : Nat} {B S : List Pt} (hn : B ≠ []) (hs : (B.length : Int) ≤ 1000) (hin : ∀ i, Nr (pt B i)) (hS : ∀ x ∈ S, Nr x) (hl : (S.length : Int) ≤ 1000) (hL : 5000 < L) :
    ∀ (m i : Nat) (u v : List Pt), i ≤ S.length → u.length + v.length = i → S.length - i < m →
      spec_bdOuter_l0 L B S m i u v = some (u ++ (S.drop i).filter (fun p => decide (OnB B p)), v ++ (S.drop i).filter (fun p => !decide (OnB B p))) ∧
      impl_onBand_l0 L B S m i u v = some (u ++ (S.drop i).filter (fun p => decide (OnB B p)), v ++ (S.drop i).filter (fun p => !decide (OnB B p))) := by
  intro m
  induction m with
  | zero => intro i u v _ _ h; omega
  | succ m ih =>
    intro i u v hi huv hm
    rw [spec_bdOuter_l0, impl_onBand_l0]
    by_cases h : (i : Int) < (S.length : Int)
    · have hlt : i < S.length := by omega
      have wi : wr IntKind.i64 (iadd (i : Int) 1) = ((i + 1 : Nat) : Int) := by rw [iadd_eq, wr_s (by omega)]; omega
      have hq : Nr (pt S i) := hS _ (by rw [← get_pt hlt]; exact List.getElem_mem hlt)
      have k1 : ilen [AV.agg [AV.int IntKind.i64 (pt S i).x, AV.int IntKind.i64 (pt S i).y]] = 1 := by rw [ilen_eq]; rfl
      have f1 : fits (iadd (u.length : Int) 1) 16 = true := by rw [iadd_eq]; exact fits_l (by omega)
      have f2 : fits (iadd (v.length : Int) 1) 16 = true := by rw [iadd_eq]; exact fits_l (by omega)
      simp only [ilen_mapep, ilt_eq, ile_eq, h, show (0 : Int) ≤ i by omega, decide_true, Bool.and_self, cond_true, lget_pt (show (0 : Int) ≤ i by omega) h, gbind_eq, Option.bind_some, wi, k1, f1, f2]
      rw [spec_bdOn_eq hn hs hin hq (by omega), impl_bandWhere_eq hn hs hin hq (by omega)]
      simp only [Option.bind_some, ieq_eq, bw_zero hn]
      rw [List.drop_eq_getElem_cons hlt, get_pt hlt]
      by_cases ho : OnB B (pt S i)
      · simp only [ho, decide_true, cond_true]
        rw [List.filter_cons, if_pos (by simpa using ho), List.filter_cons, if_neg (by simpa using ho)]
        have := ih (i + 1) (lcat u [pt S i]) v (by omega) (by rw [lcat_eq]; simp; omega) (by omega)
        rw [lcat_eq] at this
        simpa [List.append_assoc, lcat_eq] using this
      · simp only [ho, decide_false, cond_false]
        rw [List.filter_cons, if_neg (by simpa using ho), List.filter_cons, if_pos (by simpa using ho)]
        have := ih (i + 1) u (lcat v [pt S i]) (by omega) (by rw [lcat_eq]; simp; omega) (by omega)
        rw [lcat_eq] at this
        simpa [List.append_assoc, lcat_eq] using this
    · simp only [ilen_mapep, ilt_eq, h, decide_false, cond_false]
      rw [List.drop_of_length_le (by omega)]
      simp
theorem outer_eq {L : Nat} {a : List Pt} (h : Diff a) (hL : 5000 < L) : spec_bdOuter L a = some (onb a) ∧ impl_onBand L a = some (onb a) := by
  have hi := h.hi
  have hb := h.band
  have hl := hb.len
  have hN : ∀ i, Nr (pt (bandL (isort a)) i) := fun i => (hb.isIn i).nr
  have := outer_l0 (L := L) hb.nn (by omega) hN (fun x hx => h.nr x (isort_mem.1 hx)) (show ((isort a).length : Int) ≤ 1000 by rw [isort_len]; omega) hL L 0 [] [] (by omega) rfl (by rw [isort_len]; omega)
  rw [show ((0 : Nat) : Int) = 0 by rfl, List.drop_zero, List.nil_append, List.nil_append] at this
  unfold spec_bdOuter impl_onBand
  rw [spec_bdBand_eq (by omega) (by omega) h.nr, impl_band_eq h.nn (by omega) (by omega) h.nr, impl_sorted_eq h.nn (by omega), spec_bdSorted_eq (by omega) (by omega)]
  simp only [gbind_eq, Option.bind_some]
  exact this
theorem onb_len (a : List Pt) : (onb a).1.length + (onb a).2.length = a.length := by
  classical
  have := (List.filter_append_perm (fun p => decide (OnB (bandL (isort a)) p)) (isort a)).length_eq
  rw [List.length_append, isort_len] at this
  exact this
theorem onb_fst {a : List Pt} (h : Diff a) : (onb a).1 ≠ [] := by
  have hb := h.band
  have hm : pt (bandL (isort a)) 0 ∈ (onb a).1 := by
    unfold onb
    refine List.mem_filter.2 ⟨isort_mem.2 (hb.mem _ (pt_mem hb.nn 0)), ?_⟩
    have hp := List.length_pos_iff.2 hb.nn
    simp only [decide_eq_true_eq]
    exact ⟨0, Int.le_refl _, by omega, .inl rfl⟩
  intro e; rw [e] at hm; cases hm
theorem onb_mem1 {a : List Pt} {x : Pt} (h : x ∈ (onb a).1) : x ∈ a := isort_mem.1 (List.mem_filter.1 h).1
theorem onb_mem2 {a : List Pt} {x : Pt} (h : x ∈ (onb a).2) : x ∈ a := isort_mem.1 (List.mem_filter.1 h).1
theorem onb_diff {a : List Pt} (h : Diff a) (hn : (onb a).2 ≠ []) : Diff (onb a).2 := by
  have h1 := onb_len a
  have h2 := h.hi
  exact diff_of hn (by omega) (fun x hx => h.mem (onb_mem2 hx)) (List.nodup_iff_pairwise_ne.2 (List.Pairwise.filter _ (List.nodup_iff_pairwise_ne.1 (isort_nodup h.nodup))))
noncomputable def lay : Nat → List Pt → List (List Pt)
  | 0, _ => []
  | n + 1, a => if a = [] then [] else (onb a).1 :: lay n (onb a).2
theorem lay_mem : ∀ (n : Nat) (a l : List Pt), l ∈ lay n a → ∀ x ∈ l, x ∈ a
  | 0, a, l, h, x, hx => by cases h
  | n + 1, a, l, h, x, hx => by
    unfold lay at h
    split at h
    · cases h
    · rcases List.mem_cons.1 h with e | h
      · subst e; exact onb_mem1 hx
      · exact onb_mem2 (lay_mem n _ l h x hx)
theorem lay_each : ∀ (n : Nat) (a l : List Pt), l ∈ lay n a → l.length ≤ a.length
  | 0, a, l, h => by cases h
  | n + 1, a, l, h => by
    have := onb_len a
    unfold lay at h
    split at h
    · cases h
    · rcases List.mem_cons.1 h with e | h
      · subst e; omega
      · have := lay_each n _ l h; omega
theorem lay_len : ∀ (n : Nat) (a : List Pt), (lay n a).length ≤ n
  | 0, a => Nat.le_refl _
  | n + 1, a => by
    unfold lay
    split
    · simp
    · have := lay_len n (onb a).2; simp; omega
theorem layers_l0 {L : Nat} (hL : 5000 < L) : ∀ (n m : Nat) (v : List Pt) (w : List (List Pt)), v.length ≤ n → (v = [] ∨ Diff v) → n < m → (w.length : Int) + v.length ≤ 100 →
    spec_bdLayers_l0 L m v w = some (w ++ lay n v) ∧ impl_LayersOf_l0 L m v w = some (w ++ lay n v, true) := by
  intro n
  induction n with
  | zero =>
    intro m v w hv hd hm hw
    obtain ⟨m, rfl⟩ : ∃ k, m = k + 1 := ⟨m - 1, by omega⟩
    rw [spec_bdLayers_l0, impl_LayersOf_l0]
    simp only [ilen_mapep, ilt_eq, show ¬ ((0 : Int) < (v.length : Int)) by omega, decide_false, cond_false, lay, List.append_nil, and_self]
  | succ n ih =>
    intro m v w hv hd hm hw
    obtain ⟨m, rfl⟩ : ∃ k, m = k + 1 := ⟨m - 1, by omega⟩
    rw [spec_bdLayers_l0, impl_LayersOf_l0]
    by_cases hn : v = []
    · subst hn
      simp only [List.map_nil, show ilen ([] : List AV) = 0 by rw [ilen_eq]; rfl, ilt_eq, Int.lt_irrefl, decide_false, cond_false, lay, if_true, List.append_nil, and_self]
    · have h := hd.resolve_left hn
      have hp := List.length_pos_iff.2 hn
      obtain ⟨e1, e2⟩ := outer_eq (L := L) h hL
      have k1 : ilen [AV.lst false false 2 (List.map ep (onb v).1)] = 1 := by rw [ilen_eq]; rfl
      have k2 : ilen (List.map eLP w) = (w.length : Int) := by rw [ilen_eq]; simp
      have f1 : fits (iadd (w.length : Int) 1) 24 = true := by rw [iadd_eq]; exact fits_l (by omega)
      have hl := onb_len v
      have hf := List.length_pos_iff.2 (onb_fst h)
      have := ih m (onb v).2 (w ++ [(onb v).1]) (by omega) (by by_cases e : (onb v).2 = []; exact .inl e; exact .inr (onb_diff h e)) (by omega) (by simp; omega)
      simp only [ilen_mapep, ilt_eq, show (0 : Int) < (v.length : Int) by omega, decide_true, cond_true, e1, e2, gbind_eq, Option.bind_some, k1, k2, f1, lcat_eq, this]
      simp only [lay, hn, if_false, List.append_assoc, List.singleton_append, and_self]
theorem layers_eq {L : Nat} {a : List Pt} (h : Diff a) (hL : 5000 < L) : spec_bdLayers L a = some (lay a.length a) ∧ impl_LayersOf_l0 L L a [] = some (lay a.length a, true) := by
  have hi := h.hi
  have := layers_l0 hL a.length L a [] (Nat.le_refl _) (.inr h) (by omega) (by simp; omega)
  rw [List.nil_append] at this
  exact this
open Classical in
theorem bdHas_eq {L : Nat} {a : List Pt} {q : Pt} (hs : (a.length : Int) ≤ 1000) (hL : 5000 < L) : spec_bdHas L a q.x q.y = some (decide (q ∈ a)) := by
  have heq : ∀ v, (decide (q.x = (pt a v).x) && decide (q.y = (pt a v).y)) = decide (pt a v = q) := fun v => by
    rw [Bool.eq_iff_iff, pt_eq_iff]; simp [eq_comm]
  have := search (f := fun m v => spec_bdHas_l0 L a q.x q.y m v) (r := some true) (k := some false) (lo := 0) (n := (a.length : Int)) (hi := 1000) (bad := fun i => pt a i = q) hs
    (fun m v h0 _ h => by simp only [spec_bdHas_l0, ilen_mapep, ilt_eq, h, decide_false, cond_false])
    (fun m v h0 h hb => by simp only [spec_bdHas_l0, ilen_mapep, ilt_eq, h, decide_true, cond_true, lget_pt h0 h, gbind_eq, Option.bind_some, ieq_eq, heq]; rw [decide_eq_true hb]; rfl)
    (fun m v h0 h hb => by
      simp only [spec_bdHas_l0, ilen_mapep, ilt_eq, h, decide_true, cond_true, lget_pt h0 h, gbind_eq, Option.bind_some, ieq_eq, heq, hb, decide_false, cond_false, iadd_eq]
      rw [wr_s (by omega)]) L 0 (Int.le_refl _) (by omega) (by omega) (by omega)
  unfold spec_bdHas
  by_cases h : q ∈ a
  · obtain ⟨i, h0, h1, e⟩ := mem_pt h
    rw [this.1 ⟨i, h0, h1, e⟩]; simp only [h, decide_true]
  · rw [this.2 fun j h0 h1 e => h (by
      have hn : a ≠ [] := by intro e; subst e; simp at h1; omega
      rw [← e]; exact pt_mem hn j)]
    simp only [h, decide_false]
open Classical in
theorem has_eq {L : Nat} {a : List Pt} {q : Pt} (hs : (a.length : Int) ≤ 1000) (hL : 5000 < L) : slices_Contains_impl_Peg_impl_Peg L a q.x q.y = some (decide (q ∈ a)) := by
  have := contains_eq (L := L) (b := a) (p := q) (by omega) (by omega)
  by_cases h : q ∈ a
  · obtain ⟨i, h0, h1, e⟩ := mem_pt h
    rw [this.1 ⟨i, h0, h1, e⟩]; simp only [h, decide_true]
  · rw [this.2 fun j h0 h1 e => h (by
      have hn : a ≠ [] := by intro e; subst e; simp at h1; omega
      rw [← e]; exact pt_mem hn j)]
    simp only [h, decide_false]
open Classical in
noncomputable def inLay (q : Pt) : List (List Pt) → Nat → Option Nat
  | [], _ => none
  | l :: r, i => if q ∈ l then some i else inLay q r (i + 1)
theorem inLay_none {q : Pt} : ∀ {r : List (List Pt)} {i : Nat}, (∀ l ∈ r, q ∉ l) → inLay q r i = none
  | [], i, h => rfl
  | l :: r, i, h => by unfold inLay; rw [if_neg (h l (by simp))]; exact inLay_none fun l hl => h l (by simp [hl])
theorem layerOf_l0 {L : Nat} {q : Pt} {r : List (List Pt)} (hr : (r.length : Int) ≤ 1000) (he : ∀ l ∈ r, (l.length : Int) ≤ 1000) (hL : 5000 < L) : ∀ (m i : Nat), i ≤ r.length → r.length - i < m →
    spec_LayerOfPeg_l0 L q.x q.y r m i = some (match inLay q (r.drop i) i with | some n => ((n : Int) + 1, true) | none => (0, false)) ∧
    slices_IndexFunc_impl_Peg_impl_Peg_impl_LayerOfPeg_1_l0 L r q.x q.y m i = some (match inLay q (r.drop i) i with | some n => (n : Int) | none => -1) ∧ (∀ n, inLay q (r.drop i) i = some n → n < r.length) := by
  intro m
  induction m with
  | zero => intro i _ h; omega
  | succ m ih =>
    intro i hi hm
    rw [spec_LayerOfPeg_l0, slices_IndexFunc_impl_Peg_impl_Peg_impl_LayerOfPeg_1_l0]
    have kl : ilen (List.map eLP r) = (r.length : Int) := by rw [ilen_eq]; simp
    by_cases h : (i : Int) < (r.length : Int)
    · have hlt : i < r.length := by omega
      have wi : wr IntKind.i64 (iadd (i : Int) 1) = ((i + 1 : Nat) : Int) := by rw [iadd_eq, wr_s (by omega)]; omega
      have g : lget r (i : Int) = some r[i] := by rw [lget_eq, if_pos (by omega), Int.toNat_natCast, List.getElem?_eq_getElem hlt]
      have hm' := he r[i] (List.getElem_mem hlt)
      unfold impl_LayerOfPeg_1_v2
      simp only [kl, ilt_eq, ile_eq, h, show (0 : Int) ≤ i by omega, decide_true, Bool.and_self, cond_true, g, gbind_eq, Option.bind_some, bdHas_eq hm' hL, has_eq hm' hL, wi]
      rw [List.drop_eq_getElem_cons hlt, inLay]
      by_cases hq : q ∈ r[i]
      · simp only [hq, decide_true, cond_true, if_true]
        exact ⟨by congr 2, trivial, fun n e => by cases e; exact hlt⟩
      · simp only [hq, decide_false, cond_false, if_false]
        exact ih (i + 1) (by omega) (by omega)
    · simp only [kl, ilt_eq, h, decide_false, cond_false]
      rw [List.drop_of_length_le (by omega)]
      exact ⟨rfl, rfl, fun n e => by cases e⟩
theorem layerOfPeg_eq {L : Nat} {a : List Pt} {q : Pt} (hL : 5000 < L) : ∃ r, spec_LayerOfPeg L a q.x q.y = some r ∧ impl_LayerOfPeg L a q.x q.y = some r := by
  unfold spec_LayerOfPeg impl_LayerOfPeg impl_LayersOf
  rw [spec_bdGood_eq (by omega), impl_AreDifferent_eq (by omega)]
  simp only [gbind_eq, Option.bind_some]
  by_cases h : Diff a
  · obtain ⟨e1, e2⟩ := layers_eq (L := L) h hL
    have hi := h.hi
    have hl := lay_len a.length a
    simp only [h, decide_true, Bool.not_true, cond_false, e1, e2, Option.bind_some, bdHas_eq (q := q) (show (a.length : Int) ≤ 1000 by omega) hL]
    obtain ⟨q1, q2, q3⟩ := layerOf_l0 (L := L) (q := q) (r := lay a.length a) (by omega) (fun l hl => by have := lay_each _ _ l hl; omega) hL L 0 (by omega) (by omega)
    rw [show ((0 : Nat) : Int) = 0 by rfl, List.drop_zero] at q1 q2
    rw [List.drop_zero] at q3
    unfold slices_IndexFunc_impl_Peg_impl_Peg_impl_LayerOfPeg_1
    rw [q1, q2]
    simp only [Option.bind_some, cond_true]
    by_cases hq : q ∈ a
    · simp only [hq, decide_true, Bool.not_true, cond_false]
      cases hc : inLay q (lay a.length a) 0 with
      | none =>
        simp only [iadd_eq, ile_eq]
        rw [wr_s (by omega)]
        exact ⟨_, rfl, rfl⟩
      | some n =>
        have := q3 n hc
        simp only [iadd_eq, ile_eq]
        rw [wr_s (by omega)]
        exact ⟨_, rfl, by simp⟩
    · simp only [hq, decide_false, Bool.not_false, cond_true]
      rw [inLay_none fun l hl hx => hq (lay_mem _ _ l hl q hx)]
      simp only [iadd_eq, ile_eq]
      rw [wr_s (by omega)]
      exact ⟨_, rfl, rfl⟩
  · simp only [h, decide_false, Bool.not_false, cond_true, Option.bind_some, cond_false]
    have hL0 : ∃ k, L = k + 1 := ⟨L - 1, by omega⟩
    obtain ⟨k, rfl⟩ := hL0
    unfold slices_IndexFunc_impl_Peg_impl_Peg_impl_LayerOfPeg_1
    rw [slices_IndexFunc_impl_Peg_impl_Peg_impl_LayerOfPeg_1_l0]
    simp only [List.map_nil, show ilen ([] : List AV) = 0 by rw [ilen_eq]; rfl, ilt_eq, Int.lt_irrefl, decide_false, cond_false, Option.bind_some, iadd_eq]
    rw [wr_s (by omega)]
    exact ⟨_, rfl, rfl⟩
end Go.AM
namespace Go.AM
theorem sub_len : ∀ {x y : List Pt}, x.Nodup → (∀ p ∈ x, p ∈ y) → x.length ≤ y.length
  | [], y, _, _ => by simp
  | a :: x, y, hn, hs => by
    rw [List.nodup_cons] at hn
    obtain ⟨u, v, e⟩ := List.append_of_mem (hs a List.mem_cons_self)
    have ih := sub_len (x := x) (y := u ++ v) hn.2 (fun p hp => by
      have := hs p (List.mem_cons_of_mem _ hp)
      rw [e] at this
      rcases List.mem_append.1 this with h | h
      · exact List.mem_append_left _ h
      · rcases List.mem_cons.1 h with rfl | h
        · exact absurd hp hn.1
        · exact List.mem_append_right _ h)
    subst e
    simp only [List.length_append, List.length_cons] at ih ⊢
    omega
theorem band_zero {l : List Pt} (hl : 2 ≤ l.length) : pt (bandL l) 0 = pt l 0 := by
  obtain ⟨a1, a2, a3⟩ := side_ends hl
  have eB : bandL l = (sideL l).dropLast ++ (sideL l.reverse).dropLast := by unfold bandL; rw [if_neg (by omega)]
  have hd : 0 < (sideL l).dropLast.length := by rw [List.length_dropLast]; omega
  have g : (bandL l)[0]? = l[0]? := by
    rw [eB, List.getElem?_append_left hd, List.getElem?_dropLast, if_pos (by omega), a2]
  have h1 := pt_get (a := bandL l) (i := 0) (by omega) (by rw [eB, List.length_append]; omega)
  have h2 := pt_get (a := l) (i := 0) (by omega) (by omega)
  rw [Int.toNat_zero] at h1 h2
  rw [g, h2] at h1
  exact (Option.some.inj h1).symm
theorem band_first {l : List Pt} (hn : l ≠ []) : pt (bandL l) 0 = pt l 0 := by
  have hpos := List.length_pos_iff.2 hn
  by_cases h : l.length = 1
  · unfold bandL; rw [if_pos h]
  · exact band_zero (by omega)
theorem first_least {l : List Pt} (hr : Rise l) (hn : l ≠ []) {q : Pt} (hq : q ∈ l) : ¬ Less q (pt l 0) := by
  have hpos := List.length_pos_iff.2 hn
  have h2 := pt_get (a := l) (i := 0) (by omega) (by omega)
  match l, hr, hn with
  | a :: l, hr, _ =>
    simp at h2
    rw [← h2]
    rcases List.mem_cons.1 hq with rfl | hq
    · exact Less.irrefl _
    · have := (List.pairwise_cons.1 (rise_ord hr)).1 q hq
      exact fun k => Less.irrefl _ (this.trans k)
theorem onL_of {a b p : Pt} (hz : turn a b p = 0) (h1 : ¬ Less p a) (h2 : ¬ Less b p) : OnL a b p := by
  have xa : a.x ≤ p.x := by unfold Less at h1; omega
  have xb : p.x ≤ b.x := by unfold Less at h2; omega
  refine ⟨hz, ?_, ?_⟩
  · rw [mul_le0]; left; omega
  · by_cases hx : a.x = b.x
    · unfold Less at h1 h2
      rw [mul_le0]; left; omega
    · have e1 : (a.y - p.y) * (b.x - a.x) = -((b.y - a.y) * (p.x - a.x)) := by unfold turn at hz; grind
      have e2 : (b.y - p.y) * (b.x - a.x) = (b.y - a.y) * (b.x - p.x) := by unfold turn at hz; grind
      have m1 := Int.mul_nonneg (show 0 ≤ p.x - a.x by omega) (show 0 ≤ b.x - p.x by omega)
      have m2 := mul_self_nn (b.y - a.y)
      have m3 := Int.mul_nonneg m2 m1
      have e3 : (a.y - p.y) * (b.y - p.y) * ((b.x - a.x) * (b.x - a.x)) = -((b.y - a.y) * (b.y - a.y) * ((p.x - a.x) * (b.x - p.x))) := by
        have : (a.y - p.y) * (b.y - p.y) * ((b.x - a.x) * (b.x - a.x)) = ((a.y - p.y) * (b.x - a.x)) * ((b.y - p.y) * (b.x - a.x)) := by grind
        rw [this, e1, e2]; grind
      have m4 := Int.mul_pos (show 0 < b.x - a.x by omega) (show 0 < b.x - a.x by omega)
      rcases Int.lt_or_le 0 ((a.y - p.y) * (b.y - p.y)) with h | h
      · have := Int.mul_pos h m4; omega
      · exact h
theorem band_two {l : List Pt} (hr : Rise l) (h2 : 2 ≤ l.length) (hB : (bandL l).length = 2) {q : Pt} (hq : q ∈ l) : OnL (pt (bandL l) 0) (pt (bandL l) 1) q ∧ Less (pt (bandL l) 0) (pt (bandL l) 1) := by
  have hn : l ≠ [] := by intro e; subst e; simp at h2
  obtain ⟨k, m, h⟩ := sides_of_rise h2 hr
  have e : bandL l = (sideL l).dropLast ++ (sideL l.reverse).dropLast := by unfold bandL; rw [if_neg (by omega)]
  have hl := h.len
  have k0 := h.k0
  have m0 := h.m0
  rw [← e] at hl
  have k1 : k = 1 := by omega
  have m1 : m = 1 := by omega
  have c0 := h.cov 0 q hq
  have c1 := h.cov 1 q hq
  rw [← e] at c0 c1
  have e2 : pt (bandL l) (1 + 1) = pt (bandL l) 0 := pt_congr (by rw [hB]; rfl)
  rw [show (0 : Int) + 1 = 1 by rfl] at c0
  rw [e2] at c1
  have ts := turn_p2 (pt (bandL l) 0) (pt (bandL l) 1) q
  have f0 := first_least hr hn hq
  rw [← band_first hn] at f0
  obtain ⟨a1, a2, a3⟩ := side_ends h2
  have g0 := h.gA 0 (by omega)
  have g1 := h.gA 1 (by omega)
  rw [← e] at g0 g1
  have hls := h.up.ord 0 _ _ g0 g1
  refine ⟨onL_of (by omega) f0 ?_, hls⟩
  have hA : (sideL l).length = 2 := by have := h.lA; omega
  rw [List.getLast?_eq_getElem?, hA] at a3
  have g1' : (sideL l)[1]? = some (pt (bandL l) 1) := g1
  rw [g1'] at a3
  intro hb
  have hp := rise_ord hr
  obtain ⟨ys, lx⟩ := List.getLast?_eq_some_iff.1 a3.symm
  rw [lx] at hp
  have : q ∈ ys ++ [pt (bandL l) 1] := lx ▸ hq
  rcases List.mem_append.1 this with hm | hm
  · exact Less.irrefl _ (((List.pairwise_append.1 hp).2.2 q hm _ (by simp)).trans hb)
  · simp at hm; rw [hm] at hb; exact Less.irrefl _ hb
theorem band_ne {l : List Pt} (hr : Rise l) (hn : l ≠ []) : ∀ i k, 0 ≤ k → k < i → i < ((bandL l).length : Int) → pt (bandL l) k ≠ pt (bandL l) i := fun i k h0 h1 h2 => by
  have hpos := List.length_pos_iff.2 hn
  rcases band_hull hr hn with ⟨c1, c2⟩ | ⟨c1, c2⟩ | ⟨c1, c2⟩
  · rw [c2, c1] at h2; omega
  · obtain ⟨_, hls⟩ := band_two hr c1 c2 (q := pt l 0) (pt_mem hn 0)
    have i1 : i = 1 := by omega
    have k0 : k = 0 := by omega
    subst i1; subst k0
    exact fun e => Less.irrefl _ (e ▸ hls)
  · exact c2.inj k i h0 h1 h2
theorem Diff.bandDiff {a : List Pt} (h : Diff a) : Diff (bandL (isort a)) := by
  have hr := h.rise
  have hne : isort a ≠ [] := fun e => h.nn (List.eq_nil_of_length_eq_zero (by rw [← isort_len, e]; rfl))
  have hb := h.band
  have ne := band_ne hr hne
  have hpos := List.length_pos_iff.2 hb.nn
  have nd : (bandL (isort a)).Nodup := by
    rw [List.nodup_iff_pairwise_ne, List.pairwise_iff_getElem]
    intro i j hi hj hij e
    refine ne j i (by omega) (by omega) (by omega) ?_
    rw [← get_pt hi, ← get_pt hj, e]
  have hl := sub_len nd hb.mem
  have := h.hi
  exact ⟨by omega, by omega, fun i _ _ => hb.isIn i, ne⟩
theorem Hull.restrict {n : Int} {P : Int → Pt} {Q Q' : List Pt} (h : Hull n P Q) (hs : ∀ q ∈ Q', q ∈ Q) (hp : ∀ i, P i ∈ Q') : Hull n P Q' :=
  ⟨h.n3, h.per, h.left, fun i q hq => h.cov i q (hs q hq), hp, h.inj⟩
theorem hull_one {n m : Int} {P R : Int → Pt} {Q : List Pt} (h : Hull n P Q) (k : Hull m R Q) (hQ : ∀ q ∈ Q, ∃ j, q = P j) (h0 : P 0 = R 0) : n = m ∧ ∀ i : Nat, P i = R i := by
  have all : ∀ i : Nat, P i = R i := by
    intro i
    induction i with
    | zero => exact h0
    | succ i ih =>
      have e1 : ((i + 1 : Nat) : Int) = (i : Int) + 1 := by omega
      rw [e1]
      have t1 := h.cov i (R (i + 1)) (k.sub _)
      have t2 := k.cov i (P (i + 1)) (h.sub _)
      rw [← ih] at t2
      have sw := turn_p3 (P i) (P (i + 1)) (R (i + 1))
      obtain ⟨j, hj⟩ := hQ _ (k.sub (i + 1))
      by_cases c : P j = P (i + 1)
      · rw [hj, c]
      · exfalso
        have c2 : P j ≠ P i := fun e => by
          have := k.ne (i := (i : Int)) (j := (i : Int) + 1) (by omega) (by have := k.n3; omega)
          rw [hj, e, ih] at this
          exact this rfl
        have st := h.strict c2 c
        rw [← hj] at st
        omega
  refine ⟨?_, all⟩
  have n3 := h.n3
  have m3 := k.n3
  rcases Int.lt_trichotomy n m with hlt | heq | hgt
  · exfalso
    have e := all n.toNat
    rw [Int.toNat_of_nonneg (by omega)] at e
    have p : P n = P 0 := by have := h.per 0; rwa [Int.zero_add] at this
    have z := all 0
    exact k.inj 0 n (by omega) (by omega) hlt (by rw [← e, p]; exact z.symm)
  · exact heq
  · exfalso
    have e := all m.toNat
    rw [Int.toNat_of_nonneg (by omega)] at e
    have p : R m = R 0 := by have := k.per 0; rwa [Int.zero_add] at this
    have z := all 0
    exact h.inj 0 m (by omega) (by omega) hgt (by rw [e, p]; exact z)
theorem list_pt {a b : List Pt} (hl : a.length = b.length) (h : ∀ i : Nat, i < a.length → pt a i = pt b i) : a = b := by
  refine List.ext_getElem hl fun i h1 h2 => ?_
  rw [get_pt h1, get_pt h2]
  exact h i h1
theorem isort_fix {l : List Pt} (h : Ord l) : isort l = l := ord_one (isort_ord l) h (isort_perm l)
theorem rise_isort {l : List Pt} (h : Rise l) : isort l = l :=
  isort_fix (List.Pairwise.imp (R := Less) (S := fun a b => ¬ Less b a) (fun {a b} hab hba => Less.irrefl _ (hab.trans hba)) (rise_ord h))
theorem band_again {l : List Pt} (hr : Rise l) (hn : l ≠ []) (hd : Diff (bandL l)) : bandL (isort (bandL l)) = bandL l := by
  have hpos := List.length_pos_iff.2 hn
  rcases band_hull hr hn with ⟨c1, c2⟩ | ⟨c1, c2⟩ | ⟨c1, c2⟩
  · rw [c2, rise_isort hr, c2]
  · obtain ⟨_, hls⟩ := band_two hr c1 c2 (q := pt l 0) (pt_mem hn 0)
    have r : Rise (bandL l) := by
      match hb : bandL l, c2 with
      | [x, y], _ =>
        rw [hb] at hls
        exact ⟨hls, trivial⟩
    rw [rise_isort r, bandL_few (by omega)]
  · have hr2 : Rise (isort (bandL l)) := hd.rise
    have hn2 : isort (bandL l) ≠ [] := fun e => hd.nn (List.eq_nil_of_length_eq_zero (by rw [← isort_len, e]; rfl))
    have ln := isort_len (bandL l)
    have hR : Hull ((bandL l).length : Int) (pt (bandL l)) (isort (bandL l)) :=
      c2.restrict (fun q hq => (band_mem hr hn).2 q (isort_mem.1 hq)) fun i => isort_mem.2 (pt_mem hd.nn i)
    have hQ : ∀ q ∈ isort (bandL l), ∃ j, q = pt (bandL l) j := fun q hq => by
      obtain ⟨j, _, _, e⟩ := mem_pt (isort_mem.1 hq)
      exact ⟨j, e.symm⟩
    rcases band_hull hr2 hn2 with ⟨d1, _⟩ | ⟨d1, d2⟩ | ⟨d1, d2⟩
    · omega
    · exfalso
      have z : ∀ j, turn (pt (bandL (isort (bandL l))) 0) (pt (bandL (isort (bandL l))) 1) (pt (bandL l) j) = 0 := fun j =>
        (band_two hr2 d1 d2 (isort_mem.2 (pt_mem hd.nn j))).1.1
      have hls := (band_two hr2 d1 d2 (isort_mem.2 (pt_mem hd.nn 0))).2
      have pos : Pos (df (pt (bandL (isort (bandL l))) 0) (pt (bandL (isort (bandL l))) 1)) := less_pos.1 hls
      have lf := c2.left 0
      rw [all_col (Q := bandL l) pos (fun q hq => by
        obtain ⟨j, _, _, e⟩ := mem_pt hq
        rw [← e, ← turn_df]; exact z j) (pt_mem hd.nn _) (pt_mem hd.nn _) (pt_mem hd.nn _)] at lf
      omega
    · have e0 : pt (bandL l) 0 = pt (bandL (isort (bandL l))) 0 := by
        rw [band_first hn2]
        have f1 := first_least hr2 hn2 (q := pt (bandL l) 0) (isort_mem.2 (pt_mem hd.nn 0))
        have f2 := first_least hr hn (q := pt (isort (bandL l)) 0) ((band_mem hr hn).2 _ (isort_mem.1 (pt_mem hn2 0)))
        rw [← band_first hn] at f2
        exact not_less_eq f1 f2
      obtain ⟨q1, q2⟩ := hull_one hR d2 hQ e0
      exact list_pt (by omega) fun i _ => (q2 i).symm
end Go.AM
namespace Go.AM
def dd (S : List Pt) : Nat → List Pt
  | 0 => []
  | n + 1 => if 0 < n ∧ pt S n = pt S ((n : Int) - 1) then dd S n else dd S n ++ [pt S n]
theorem dd_id {S : List Pt} : ∀ {n : Nat}, n ≤ S.length → (∀ i : Nat, 0 < i → i < n → pt S i ≠ pt S ((i : Int) - 1)) → dd S n = S.take n
  | 0, _, _ => by simp [dd]
  | n + 1, hn, h => by
    have ih := dd_id (S := S) (n := n) (by omega) fun i h0 h1 => h i h0 (by omega)
    unfold dd
    rw [if_neg (fun c => h n c.1 (by omega) c.2), ih, List.take_succ_eq_append_getElem (by omega), get_pt]
theorem dd_mem {S : List Pt} : ∀ {n : Nat} {q : Pt}, q ∈ dd S n ↔ ∃ i : Nat, i < n ∧ pt S i = q
  | 0, q => by simp [dd]
  | n + 1, q => by
    have ih := dd_mem (S := S) (n := n) (q := q)
    unfold dd
    constructor
    · intro h
      split at h
      · obtain ⟨i, h1, h2⟩ := ih.1 h
        exact ⟨i, by omega, h2⟩
      · rcases List.mem_append.1 h with h | h
        · obtain ⟨i, h1, h2⟩ := ih.1 h
          exact ⟨i, by omega, h2⟩
        · simp at h
          exact ⟨n, by omega, h.symm⟩
    · rintro ⟨i, h1, h2⟩
      split
      · rename_i c
        rcases Nat.lt_or_ge i n with hi | hi
        · exact ih.2 ⟨i, hi, h2⟩
        · have e : i = n := by omega
          subst e
          refine ih.2 ⟨i - 1, by omega, ?_⟩
          rw [← h2, c.2]
          congr 1
          omega
      · rcases Nat.lt_or_ge i n with hi | hi
        · exact List.mem_append_left _ (ih.2 ⟨i, hi, h2⟩)
        · have e : i = n := by omega
          subst e
          rw [h2]; simp
theorem ord_pt {S : List Pt} (hS : Ord S) {i j : Nat} (h1 : i < j) (h2 : j < S.length) : ¬ Less (pt S j) (pt S i) := by
  have := List.pairwise_iff_getElem.1 hS i j (by omega) h2 h1
  rwa [get_pt, get_pt] at this
theorem dd_rise {S : List Pt} (hS : Ord S) : ∀ {n : Nat}, n ≤ S.length → (dd S n).Pairwise Less
  | 0, _ => by simp [dd]
  | n + 1, hn => by
    have ih := dd_rise hS (n := n) (by omega)
    unfold dd
    split
    · exact ih
    · rename_i c
      rw [List.pairwise_append]
      refine ⟨ih, by simp, fun a ha b hb => ?_⟩
      simp at hb
      subst hb
      obtain ⟨i, h1, rfl⟩ := dd_mem.1 ha
      have hn0 : 0 < n := by omega
      have hl : Less (pt S ((n - 1 : Nat) : Int)) (pt S n) := by
        have k := ord_pt hS (i := n - 1) (j := n) (by omega) (by omega)
        by_cases l : Less (pt S ((n - 1 : Nat) : Int)) (pt S n)
        · exact l
        · exfalso
          have := not_less_eq l k
          exact c ⟨hn0, by rw [← this]; congr 1; omega⟩
      rcases Nat.lt_or_ge i (n - 1) with hi | hi
      · have k := ord_pt hS (i := i) (j := n - 1) (by omega) (by omega)
        unfold Less at *
        omega
      · have e : i = n - 1 := by omega
        rw [e]; exact hl
theorem rise_pw : ∀ {l : List Pt}, l.Pairwise Less → Rise l
  | [], _ => trivial
  | [_], _ => trivial
  | a :: b :: r, h => ⟨(List.pairwise_cons.1 h).1 b (by simp), rise_pw (l := b :: r) (List.pairwise_cons.1 h).2⟩
theorem rise_one : ∀ {l m : List Pt}, l.Pairwise Less → m.Pairwise Less → (∀ q, q ∈ l ↔ q ∈ m) → l = m
  | [], [], _, _, _ => rfl
  | [], b :: m, _, _, h => absurd ((h b).2 (by simp)) (by simp)
  | a :: l, [], _, _, h => absurd ((h a).1 (by simp)) (by simp)
  | a :: l, b :: m, h1, h2, h => by
    rw [List.pairwise_cons] at h1 h2
    have e : a = b := by
      rcases List.mem_cons.1 ((h a).1 (by simp)) with e | hm
      · exact e
      · rcases List.mem_cons.1 ((h b).2 (by simp)) with e | hl
        · exact e.symm
        · exact absurd ((h2.1 a hm).trans (h1.1 b hl)) (Less.irrefl _)
    subst e
    have : l = m := rise_one h1.2 h2.2 fun q => by
      constructor
      · intro hq
        rcases List.mem_cons.1 ((h q).1 (List.mem_cons_of_mem _ hq)) with e | hm
        · subst e; exact absurd (h1.1 q hq) (Less.irrefl _)
        · exact hm
      · intro hq
        rcases List.mem_cons.1 ((h q).2 (List.mem_cons_of_mem _ hq)) with e | hm
        · subst e; exact absurd (h2.1 q hq) (Less.irrefl _)
        · exact hm
    rw [this]
theorem rise_dd {S : List Pt} (hS : Ord S) : (dd S S.length).Pairwise Less := dd_rise hS (Nat.le_refl _)
theorem dd_all {S : List Pt} {q : Pt} : q ∈ dd S S.length ↔ q ∈ S := by
  rw [dd_mem]
  constructor
  · rintro ⟨i, h1, rfl⟩
    exact pt_mem (by intro e; subst e; simp at h1) _
  · intro h
    obtain ⟨i, h0, h1, e⟩ := mem_pt h
    exact ⟨i.toNat, by omega, by rw [Int.toNat_of_nonneg h0, e]⟩
theorem lget_same {S w : List Pt} {j k : Nat} (hd : w.drop k = S.drop k) (hj : k ≤ j) (hl : j < S.length) : lget w (j : Int) = some (pt S j) := by
  have : w[j]? = S[j]? := by
    have e1 : w[j]? = (w.drop k)[j - k]? := by rw [List.getElem?_drop]; congr 1; omega
    have e2 : S[j]? = (S.drop k)[j - k]? := by rw [List.getElem?_drop]; congr 1; omega
    rw [e1, e2, hd]
  rw [lget_eq, if_pos (by omega), Int.toNat_natCast, this]
  have := pt_get (a := S) (i := (j : Int)) (by omega) (by omega)
  simpa using this
theorem compact_l1 {L : Nat} {S : List Pt} {k : Nat} (hk : 0 < k) (hkl : k < S.length) (hs : (S.length : Int) ≤ 100000) : ∀ (m j i : Nat) (w : List Pt), 1 ≤ j → k + j ≤ S.length → S.length - (k + j) < m → w.length = S.length → i = (dd S (k + j)).length → i < k + j → w.take i = dd S (k + j) → w.drop (k + j - 1) = S.drop (k + j - 1) →
    ∃ w', slices_Compact_impl_Peg_impl_Peg_l1 L S k m i j w = some (((dd S S.length).length : Int), w') ∧ w'.take (dd S S.length).length = dd S S.length := by
  intro m
  induction m with
  | zero => intro j i w _ _ h; omega
  | succ m ih =>
    intro j i w hj hkj hm hwl hi hik ht hd
    rw [slices_Compact_impl_Peg_impl_Peg_l1]
    simp only [ilen_mapep, isub_eq, ilt_eq, ile_eq, iadd_eq]
    by_cases h : k + j < S.length
    · have g1 : lget w ((k : Int) + (j : Int)) = some (pt S ((k + j : Nat) : Int)) := by
        rw [show (k : Int) + (j : Int) = ((k + j : Nat) : Int) by omega]
        exact lget_same hd (by omega) h
      have wj : wr IntKind.i64 ((j : Int) - 1) = (j : Int) - 1 := wr_id (by omega)
      have wj1 : wr IntKind.i64 ((j : Int) + 1) = ((j + 1 : Nat) : Int) := by rw [wr_id (by omega)]; omega
      have wi1 : wr IntKind.i64 ((i : Int) + 1) = ((i + 1 : Nat) : Int) := by rw [wr_id (by omega)]; omega
      have g2 : lget w ((k : Int) + ((j : Int) - 1)) = some (pt S ((k + j - 1 : Nat) : Int)) := by
        rw [show (k : Int) + ((j : Int) - 1) = ((k + j - 1 : Nat) : Int) by omega]
        exact lget_same hd (by omega) (by omega)
      have gi : ∃ y, lget w (i : Int) = some y := by
        rw [lget_eq, if_pos (by omega), Int.toNat_natCast, List.getElem?_eq_getElem (by omega)]
        exact ⟨_, rfl⟩
      obtain ⟨y, gi⟩ := gi
      simp only [show (j : Int) < (S.length : Int) - (k : Int) by omega, show (0 : Int) ≤ (j : Int) by omega, decide_true, Bool.and_self, cond_true, g1, g2, wj, wj1, wi1, gi, gbind_eq, Option.bind_some, ieq_eq,
        show (0 : Int) ≤ (j : Int) - 1 by omega, show (j : Int) - 1 < (S.length : Int) - (k : Int) by omega, show (0 : Int) ≤ (i : Int) by omega, show (i : Int) < (w.length : Int) by omega]
      have hc : ((k + j - 1 : Nat) : Int) = ((k + j : Nat) : Int) - 1 := by omega
      have d1 : dd S (k + (j + 1)) = if 0 < k + j ∧ pt S ((k + j : Nat) : Int) = pt S (((k + j : Nat) : Int) - 1) then dd S (k + j) else dd S (k + j) ++ [pt S ((k + j : Nat) : Int)] := rfl
      by_cases he : pt S ((k + j : Nat) : Int) = pt S ((k + j - 1 : Nat) : Int)
      · have hb : (decide ((pt S ((k + j : Nat) : Int)).x = (pt S ((k + j - 1 : Nat) : Int)).x) && decide ((pt S ((k + j : Nat) : Int)).y = (pt S ((k + j - 1 : Nat) : Int)).y)) = true := pt_eq_iff.2 he
        rw [hb]
        simp only [Bool.not_true, cond_false]
        rw [hc] at he
        rw [if_pos ⟨by omega, he⟩] at d1
        refine ih (j + 1) i w (by omega) (by omega) (by omega) hwl (by rw [d1]; exact hi) (by omega) (by rw [d1]; exact ht) ?_
        have e : w.drop (k + j) = S.drop (k + j) := by
          have a1 : w.drop (k + j) = (w.drop (k + j - 1)).drop 1 := by rw [List.drop_drop]; congr 1; omega
          have a2 : S.drop (k + j) = (S.drop (k + j - 1)).drop 1 := by rw [List.drop_drop]; congr 1; omega
          rw [a1, a2, hd]
        rw [show k + (j + 1) - 1 = k + j by omega]; exact e
      · have hb : (decide ((pt S ((k + j : Nat) : Int)).x = (pt S ((k + j - 1 : Nat) : Int)).x) && decide ((pt S ((k + j : Nat) : Int)).y = (pt S ((k + j - 1 : Nat) : Int)).y)) = false := by
          rw [← Bool.not_eq_true]; exact fun c => he (pt_eq_iff.1 c)
        rw [hb]
        simp only [Bool.not_false, cond_true]
        rw [hc] at he
        rw [if_neg (fun c => he c.2)] at d1
        have e : w.drop (k + j) = S.drop (k + j) := by
          have a1 : w.drop (k + j) = (w.drop (k + j - 1)).drop 1 := by rw [List.drop_drop]; congr 1; omega
          have a2 : S.drop (k + j) = (S.drop (k + j - 1)).drop 1 := by rw [List.drop_drop]; congr 1; omega
          rw [a1, a2, hd]
        refine ih (j + 1) (i + 1) (lset w i (pt S ((k + j : Nat) : Int))) (by omega) (by omega) (by omega) (by rw [lset_eq]; simp [hwl]) (by rw [d1]; simp; omega) (by omega) ?_ ?_
        · rw [d1, lset_eq, Int.toNat_natCast, List.take_succ_eq_append_getElem (by simp; omega), List.take_set_of_le (by omega), ht]
          simp
        · rw [show k + (j + 1) - 1 = k + j by omega, lset_eq, Int.toNat_natCast, List.drop_set_of_lt (by omega), e]
    · have hkl' : k + j = S.length := by omega
      rw [hkl'] at hi ht hik
      have x1 : ilen (lcat (lcat (lsub (List.map ep w) 0 (i : Int)) (lrep ((w.length : Int) - (i : Int)) (AV.agg [AV.int IntKind.i64 0, AV.int IntKind.i64 0]))) (lsub (List.map ep w) ((i : Int) + ((w.length : Int) - (i : Int))) (w.length : Int))) = (w.length : Int) := by
        rw [ilen_eq, lcat_eq, lcat_eq, lsub_eq, lsub_eq, lrep_eq]
        simp
        omega
      simp only [show ¬ ((j : Int) < (S.length : Int) - (k : Int)) by omega, decide_false, cond_false, show (0 : Int) ≤ (i : Int) by omega, show (i : Int) ≤ (w.length : Int) by omega, decide_true, Bool.and_self, cond_true, x1]
      refine ⟨_, by rw [hi], ?_⟩
      rw [← hi, lcat_eq, lcat_eq, lsub_eq, List.append_assoc, List.take_append_of_le_length (by simp; omega)]
      simp
      rw [ht, List.take_of_length_le (by omega)]
theorem compact_l0 {L : Nat} {S : List Pt} (hs : (S.length : Int) ≤ 10000) (hL : 100000 < L) : ∀ (m k : Nat), 0 < k → k ≤ S.length → S.length - k < m → (∀ i : Nat, 0 < i → i < k → pt S i ≠ pt S ((i : Int) - 1)) →
    ∃ w', slices_Compact_impl_Peg_impl_Peg_l0 L S m k = some (((dd S S.length).length : Int), w') ∧ w'.take (dd S S.length).length = dd S S.length := by
  intro m
  induction m with
  | zero => intro k _ _ h; omega
  | succ m ih =>
    intro k hk hkl hm hd
    rw [slices_Compact_impl_Peg_impl_Peg_l0]
    simp only [ilen_mapep, isub_eq, ilt_eq, ile_eq, iadd_eq]
    by_cases h : k < S.length
    · have g1 : lget S (k : Int) = some (pt S k) := lget_pt (by omega) (by omega)
      have wk : wr IntKind.i64 ((k : Int) - 1) = (k : Int) - 1 := wr_id (by omega)
      have wk1 : wr IntKind.i64 ((k : Int) + 1) = ((k + 1 : Nat) : Int) := by rw [wr_id (by omega)]; omega
      have g2 : lget S ((k : Int) - 1) = some (pt S ((k : Int) - 1)) := lget_pt (by omega) (by omega)
      simp only [show (k : Int) < (S.length : Int) by omega, show (0 : Int) ≤ (k : Int) by omega, decide_true, Bool.and_self, cond_true, g1, wk, wk1, g2, gbind_eq, Option.bind_some, ieq_eq,
        show (0 : Int) ≤ (k : Int) - 1 by omega, show (k : Int) - 1 < (S.length : Int) by omega, show (k : Int) ≤ (S.length : Int) by omega]
      by_cases he : pt S k = pt S ((k : Int) - 1)
      · rw [pt_eq_iff.2 he]
        simp only [cond_true]
        have d0 := dd_id (S := S) (n := k) (by omega) hd
        have d1 : dd S (k + 1) = S.take k := by
          show (if 0 < k ∧ pt S k = pt S ((k : Int) - 1) then dd S k else dd S k ++ [pt S k]) = _
          rw [if_pos ⟨hk, he⟩, d0]
        exact compact_l1 (L := L) hk h (by omega) L 1 k S (by omega) (by omega) (by omega) rfl (by rw [d1, List.length_take]; omega) (by omega) (by rw [d1]) rfl
      · have hb : (decide ((pt S k).x = (pt S ((k : Int) - 1)).x) && decide ((pt S k).y = (pt S ((k : Int) - 1)).y)) = false := by
          rw [← Bool.not_eq_true]; exact fun c => he (pt_eq_iff.1 c)
        rw [hb]
        simp only [cond_false]
        refine ih (k + 1) (by omega) (by omega) (by omega) fun i h0 h1 => ?_
        rcases Nat.lt_or_ge i k with hi | hi
        · exact hd i h0 hi
        · have e : i = k := by omega
          subst e; exact he
    · have e : k = S.length := by omega
      subst e
      have d0 := dd_id (S := S) (n := S.length) (by omega) hd
      simp only [show ¬ ((S.length : Int) < (S.length : Int)) by omega, decide_false, cond_false]
      rw [d0, List.take_length]
      exact ⟨S, rfl, List.take_length⟩
theorem compact_eq {L : Nat} {S : List Pt} (hs : (S.length : Int) ≤ 10000) (hL : 100000 < L) :
    ∃ w', slices_Compact_impl_Peg_impl_Peg L S = some (((dd S S.length).length : Int), w') ∧ w'.take (dd S S.length).length = dd S S.length := by
  unfold slices_Compact_impl_Peg_impl_Peg
  simp only [ilen_mapep, ilt_eq]
  by_cases h : (S.length : Int) < 2
  · simp only [h, decide_true, cond_true]
    have d0 := dd_id (S := S) (n := S.length) (by omega) (fun i h0 h1 => by omega)
    rw [d0, List.take_length]
    exact ⟨S, rfl, List.take_length⟩
  · simp only [h, decide_false, cond_false]
    exact compact_l0 hs hL L 1 (by omega) (by omega) (by omega) fun i h0 h1 => by omega
end Go.AM
namespace Go.AM
def jn (a b : List Pt) : List Pt := dd (isort (a ++ b)) (isort (a ++ b)).length
theorem jn_mem {a b : List Pt} {q : Pt} : q ∈ jn a b ↔ q ∈ a ∨ q ∈ b := by
  unfold jn; rw [dd_all, isort_mem, List.mem_append]
theorem jn_pw (a b : List Pt) : (jn a b).Pairwise Less := rise_dd (isort_ord _)
theorem jn_rise (a b : List Pt) : Rise (jn a b) := rise_pw (jn_pw a b)
theorem jn_isort (a b : List Pt) : isort (jn a b) = jn a b := rise_isort (jn_rise a b)
theorem jn_comm (a b : List Pt) : jn a b = jn b a := rise_one (jn_pw a b) (jn_pw b a) fun q => by rw [jn_mem, jn_mem, or_comm]
theorem pw_nodup {l : List Pt} (h : l.Pairwise Less) : l.Nodup := by
  rw [List.nodup_iff_pairwise_ne]
  exact List.Pairwise.imp (R := Less) (S := fun a b => a ≠ b) (fun {a b} hab e => by subst e; exact Less.irrefl _ hab) h
theorem jn_diff {a b : List Pt} (ha : Diff a) (hb : Diff b) (hl : (jn a b).length ≤ 30) : Diff (jn a b) := by
  refine diff_of ?_ (by omega) (fun x hx => ?_) (pw_nodup (jn_pw a b))
  · intro e
    have : pt a 0 ∈ jn a b := jn_mem.2 (.inl (pt_mem ha.nn 0))
    rw [e] at this; cases this
  · rcases jn_mem.1 hx with h | h
    · exact ha.mem h
    · exact hb.mem h
theorem impl_join {L : Nat} {a b : List Pt} (ha : Diff a) (hb : Diff b) (hL : 100000 < L) :
    impl_JoinBands L a b = if (jn a b).length ≤ 30 then some (bandL (jn a b), true) else some ([], false) := by
  have h1 := ha.hi
  have h2 := hb.hi
  have hn : a ++ b ≠ [] := by have := ha.nn; simp [this]
  obtain ⟨w, e1, e2⟩ := compact_eq (L := L) (S := isort (a ++ b)) (by rw [isort_len]; simp; omega) hL
  have e2' : w.take (jn a b).length = jn a b := e2
  have e1' : slices_Compact_impl_Peg_impl_Peg L (isort (a ++ b)) = some (((jn a b).length : Int), w) := e1
  have k : lsub w 0 (0 + ((jn a b).length : Int)) = jn a b := by
    rw [lsub_eq, Int.toNat_zero, List.drop_zero, Int.zero_add, Int.sub_zero, Int.toNat_natCast]; exact e2'
  unfold impl_JoinBands
  rw [impl_AreDifferent_eq (by omega), impl_AreDifferent_eq (by omega), concat_eq (by omega) (by omega) (by omega)]
  simp only [ha, hb, decide_true, gbind_eq, Option.bind_some, Bool.not_true, cond_false, impl_sorted_eq hn (by simp; omega), e1', ilt_eq, iadd_eq, k]
  by_cases hl : (jn a b).length ≤ 30
  · have hd := jn_diff ha hb hl
    simp only [show ¬ ((30 : Int) < ((jn a b).length : Int)) by omega, decide_false, cond_false, hl, if_true]
    rw [impl_band_eq hd.nn (by omega) (by omega) hd.nr, jn_isort]
    rfl
  · simp only [show ((30 : Int) < ((jn a b).length : Int)) by omega, decide_true, cond_true, hl, if_false]
open Classical in
noncomputable def un (a b : List Pt) : Nat → List Pt
  | 0 => a
  | k + 1 => if pt b k ∈ un a b k then un a b k else un a b k ++ [pt b k]
theorem un_mem {a b : List Pt} {q : Pt} : ∀ {k : Nat}, q ∈ un a b k ↔ q ∈ a ∨ ∃ i : Nat, i < k ∧ pt b i = q
  | 0 => by simp [un]
  | k + 1 => by
    have ih := un_mem (a := a) (b := b) (q := q) (k := k)
    unfold un
    split
    · rename_i c
      rw [ih]
      constructor
      · rintro (h | ⟨i, h1, h2⟩)
        · exact .inl h
        · exact .inr ⟨i, by omega, h2⟩
      · rintro (h | ⟨i, h1, h2⟩)
        · exact .inl h
        · rcases Nat.lt_or_ge i k with hi | hi
          · exact .inr ⟨i, hi, h2⟩
          · have e : i = k := by omega
            subst e
            rw [h2] at c
            exact ih.1 c
    · rw [List.mem_append, ih]
      constructor
      · rintro ((h | ⟨i, h1, h2⟩) | h)
        · exact .inl h
        · exact .inr ⟨i, by omega, h2⟩
        · simp at h; exact .inr ⟨k, by omega, h.symm⟩
      · rintro (h | ⟨i, h1, h2⟩)
        · exact .inl (.inl h)
        · rcases Nat.lt_or_ge i k with hi | hi
          · exact .inl (.inr ⟨i, hi, h2⟩)
          · have e : i = k := by omega
            subst e
            right; simp [h2]
theorem un_nodup {a b : List Pt} (ha : a.Nodup) : ∀ k : Nat, (un a b k).Nodup
  | 0 => ha
  | k + 1 => by
    have ih := un_nodup (b := b) ha k
    unfold un
    split
    · exact ih
    · rename_i c
      rw [List.nodup_append]
      exact ⟨ih, by simp, fun x hx y hy => by simp at hy; subst hy; exact fun e => c (e ▸ hx)⟩
theorem un_len (a b : List Pt) : ∀ k : Nat, (un a b k).length ≤ a.length + k
  | 0 => by simp [un]
  | k + 1 => by
    have := un_len a b k
    unfold un
    split
    · omega
    · simp; omega
theorem un_jn {a b : List Pt} (ha : Diff a) : isort (un a b b.length) = jn a b := by
  refine rise_one (rise_ord (rise_of (isort_ord _) (isort_nodup (un_nodup ha.nodup _)))) (jn_pw a b) fun q => ?_
  rw [isort_mem, un_mem, jn_mem]
  constructor
  · rintro (h | ⟨i, h1, h2⟩)
    · exact .inl h
    · exact .inr (h2 ▸ pt_mem (by intro e; subst e; simp at h1) _)
  · rintro (h | h)
    · exact .inl h
    · obtain ⟨i, h0, h1, e⟩ := mem_pt h
      exact .inr ⟨i.toNat, by omega, by rw [Int.toNat_of_nonneg h0, e]⟩
theorem ilen_two (p : Pt) : ilen [AV.agg [AV.int IntKind.i64 p.x, AV.int IntKind.i64 p.y]] = 1 := by rw [ilen_eq]; rfl
theorem join_l0 {L : Nat} {a b : List Pt} (ha : Diff a) (hb : Diff b) (hL : 100000 < L) : ∀ (m k : Nat), k ≤ b.length → b.length - k < m →
    spec_JoinBands_l0 L b m k (un a b k) = if (jn a b).length ≤ 30 then some (bandL (jn a b), true) else some ([], false) := by
  intro m
  have h1 := ha.hi
  have h2 := hb.hi
  induction m with
  | zero => intro k _ h; omega
  | succ m ih =>
    intro k hk hm
    rw [spec_JoinBands_l0]
    have hu := un_len a b k
    simp only [ilen_mapep, ilt_eq]
    by_cases h : k < b.length
    · have g1 : lget b (k : Int) = some (pt b k) := lget_pt (by omega) (by omega)
      have wk : wr IntKind.i64 (iadd (k : Int) 1) = ((k + 1 : Nat) : Int) := by rw [iadd_eq, wr_id (by omega)]; omega
      have hf : fits (iadd ((un a b k).length : Int) (ilen [AV.agg [AV.int IntKind.i64 (pt b k).x, AV.int IntKind.i64 (pt b k).y]])) 16 = true := by
        rw [ilen_two, iadd_eq]; exact fits_l (by omega)
      have ih' := ih (k + 1) (by omega) (by omega)
      simp only [show (k : Int) < (b.length : Int) by omega, decide_true, cond_true, g1, gbind_eq, Option.bind_some, bdHas_eq (L := L) (a := un a b k) (q := pt b k) (by omega) (by omega), wk, hf]
      by_cases c : pt b k ∈ un a b k
      · simp only [c, decide_true, Bool.not_true, cond_false]
        rw [un, if_pos c] at ih'
        exact ih'
      · simp only [c, decide_false, Bool.not_false, cond_true]
        rw [un, if_neg c] at ih'
        rw [lcat_eq]
        exact ih'
    · have e : k = b.length := by omega
      subst e
      have hj := un_jn (b := b) ha
      have hlen : (jn a b).length = (un a b b.length).length := by rw [← hj, isort_len]
      simp only [show ¬ ((b.length : Int) < (b.length : Int)) by omega, decide_false, cond_false, spec_bdGood_eq (show 100 < L by omega), gbind_eq, Option.bind_some]
      by_cases hl : (jn a b).length ≤ 30
      · have hd : Diff (un a b b.length) := by
          refine diff_of ?_ (by omega) (fun x hx => ?_) (un_nodup ha.nodup _)
          · intro e
            have : pt a 0 ∈ un a b b.length := un_mem.2 (.inl (pt_mem ha.nn 0))
            rw [e] at this; cases this
          · rw [← isort_mem, hj] at hx
            exact (jn_diff ha hb hl).mem hx
        simp only [hd, decide_true, Bool.not_true, cond_false, hl, if_true]
        rw [spec_bdBand_eq (by omega) (by omega) hd.nr, hj]
        rfl
      · have hd : ¬ Diff (un a b b.length) := fun c => by have := c.hi; omega
        simp only [hd, decide_false, Bool.not_false, cond_true, hl, if_false]
theorem spec_join {L : Nat} {a b : List Pt} (ha : Diff a) (hb : Diff b) (hL : 100000 < L) :
    spec_JoinBands L a b = if (jn a b).length ≤ 30 then some (bandL (jn a b), true) else some ([], false) := by
  have h1 := ha.hi
  have h2 := hb.hi
  unfold spec_JoinBands
  have hf : fits (iadd (ilen ([] : List AV)) (a.length : Int)) 16 = true := by
    rw [show ilen ([] : List AV) = 0 by rw [ilen_eq]; rfl, iadd_eq]; exact fits_l (by omega)
  simp only [spec_bdGood_eq (show 100 < L by omega), ha, hb, decide_true, gbind_eq, Option.bind_some, Bool.not_true, cond_false, ilen_mapep, hf, cond_true, lcat_eq, List.nil_append]
  exact join_l0 ha hb hL L 0 (by omega) (by omega)
theorem join_bad {L : Nat} {a b : List Pt} (h : ¬ (Diff a ∧ Diff b)) (hL : 100000 < L) : impl_JoinBands L a b = some ([], false) ∧ spec_JoinBands L a b = some ([], false) := by
  unfold impl_JoinBands spec_JoinBands
  simp only [spec_bdGood_eq (show 100 < L by omega), impl_AreDifferent_eq (show 100 < L by omega), gbind_eq, Option.bind_some]
  by_cases ha : Diff a
  · have hb : ¬ Diff b := fun k => h ⟨ha, k⟩
    simp only [ha, hb, decide_true, decide_false, Bool.not_true, Bool.not_false, cond_true, cond_false, and_self]
  · simp only [ha, decide_false, Bool.not_false, cond_true, and_self]
end Go.AM
namespace Go.AM
theorem isort_nn {a : List Pt} (hn : a ≠ []) : isort a ≠ [] := fun e => hn (List.eq_nil_of_length_eq_zero (by rw [← isort_len, e]; rfl))
noncomputable def cnt (B : List Pt) : Int := (area B + round B).tdiv 2 + 1
theorem round_bd {B : List Pt} (hs : (B.length : Int) ≤ 100) (hin : ∀ i, Nr (pt B i)) : -400000 ≤ round B ∧ round B ≤ 400000 := by
  have := sm_bd (g := fun i => step (pt B i) (pt B (i + 1))) (B := 4000) (fun i => step_bd (hin _) (hin _)) B.length
  unfold round
  omega
theorem bandV {L : Nat} {a : List Pt} (h : Diff a) (hL : 5000 < L) : impl_BandOf L a = some (bandL (isort a), true) ∧ spec_BandOf L a = some (bandL (isort a), true) := by
  have hi := h.hi
  unfold impl_BandOf spec_BandOf
  rw [spec_bdGood_eq (by omega), impl_AreDifferent_eq (by omega)]
  simp only [h, decide_true, gbind_eq, Option.bind_some, Bool.not_true, cond_false]
  rw [spec_bdBand_eq (by omega) (by omega) h.nr, impl_band_eq h.nn (by omega) (by omega) h.nr]
  exact ⟨rfl, rfl⟩
theorem pegsV {L : Nat} {a : List Pt} (h : Diff a) (hL : 5000 < L) : impl_PegsOfBand L a = some ((onb a).1, true) ∧ spec_PegsOfBand L a = some ((onb a).1, true) := by
  unfold impl_PegsOfBand spec_PegsOfBand
  rw [spec_bdGood_eq (by omega), impl_AreDifferent_eq (by omega)]
  obtain ⟨e1, e2⟩ := outer_eq (L := L) h hL
  simp only [h, decide_true, Bool.not_true, cond_false, e1, e2, gbind_eq, Option.bind_some, and_self]
theorem layersV {L : Nat} {a : List Pt} (h : Diff a) (hL : 5000 < L) : impl_LayersOf L a = some (lay a.length a, true) ∧ spec_LayersOf L a = some (lay a.length a, true) := by
  unfold impl_LayersOf spec_LayersOf
  rw [spec_bdGood_eq (by omega), impl_AreDifferent_eq (by omega)]
  obtain ⟨e1, e2⟩ := layers_eq (L := L) h hL
  simp only [h, decide_true, Bool.not_true, cond_false, e1, e2, gbind_eq, Option.bind_some, and_self]
theorem twiceV {L : Nat} {a : List Pt} (h : Diff a) (hL : 5000 < L) : impl_TwiceBand L a = some (area (bandL (isort a)), true) ∧ spec_TwiceBand L a = some (area (bandL (isort a)), true) := by
  obtain ⟨r, e1, e2⟩ := twiceBand_eq (L := L) (a := a) hL
  have k : impl_TwiceBand L a = some (area (bandL (isort a)), true) := by
    unfold impl_TwiceBand
    have hb := h.band
    have hi := h.hi
    have hl := hb.len
    have hN : ∀ i, Nr (pt (bandL (isort a)) i) := fun i => (hb.isIn i).nr
    rw [impl_AreDifferent_eq (by omega)]
    simp only [h, decide_true, Bool.not_true, cond_false, gbind_eq, Option.bind_some]
    rw [impl_band_eq h.nn (by omega) (by omega) h.nr]
    simp only [Option.bind_some]
    rw [impl_twice_eq hb.nn (by omega) (by omega) hN]
    rfl
  exact ⟨k, by rw [e1, ← e2, k]⟩
theorem countV {L : Nat} {a : List Pt} (h : Diff a) (hL : 5000 < L) : impl_CountInBand L a = some (cnt (bandL (isort a)), true) ∧ spec_CountInBand L a = some (cnt (bandL (isort a)), true) := by
  obtain ⟨r, e1, e2⟩ := countInBand_eq (L := L) (a := a) hL
  have k : impl_CountInBand L a = some (cnt (bandL (isort a)), true) := by
    unfold impl_CountInBand
    have hb := h.band
    have hi := h.hi
    have hl := hb.len
    have hN : ∀ i, Nr (pt (bandL (isort a)) i) := fun i => (hb.isIn i).nr
    have b1 := area_bd (a := bandL (isort a)) (by omega) hN
    have b2 := round_bd (B := bandL (isort a)) (by omega) hN
    rw [impl_AreDifferent_eq (by omega)]
    simp only [h, decide_true, Bool.not_true, cond_false, gbind_eq, Option.bind_some]
    rw [impl_band_eq h.nn (by omega) (by omega) h.nr]
    simp only [Option.bind_some]
    rw [impl_twice_eq hb.nn (by omega) (by omega) hN, impl_around_eq hb.nn (by omega) (by omega) hN]
    simp only [Option.bind_some, ieq_eq, show ¬ ((2 : Int) = 0) by omega, decide_false, cond_false, iadd_eq, iquo_eq]
    unfold cnt
    rw [wr_id (n := area (bandL (isort a)) + round (bandL (isort a))) (by omega)]
    have b3 := tdiv_bd (a := area (bandL (isort a)) + round (bandL (isort a))) (b := 2) (A := 300000000) (by omega)
    rw [wr_id (n := (area (bandL (isort a)) + round (bandL (isort a))).tdiv 2) (by omega), wr_id (by omega)]
  exact ⟨k, by rw [e1, ← e2, k]⟩
theorem convexV {L : Nat} {a : List Pt} (h : Diff a) (hL : 5000 < L) : impl_AreConvex L a = some (decide (((bandL (isort a)).length : Int) = (a.length : Int)), true) ∧ spec_AreConvex L a = some (decide (((bandL (isort a)).length : Int) = (a.length : Int)), true) := by
  have hi := h.hi
  unfold impl_AreConvex spec_AreConvex impl_areConvex
  rw [spec_bdGood_eq (by omega), impl_AreDifferent_eq (by omega)]
  simp only [h, decide_true, gbind_eq, Option.bind_some, Bool.not_true, cond_false]
  rw [spec_bdBand_eq (by omega) (by omega) h.nr, impl_band_eq h.nn (by omega) (by omega) h.nr]
  simp only [Option.bind_some, ilen_mapep, ieq_eq, and_self]
theorem bw_mem {l : List Pt} {q : Pt} (hr : Rise l) (hq : q ∈ l) : 0 ≤ bw (bandL l) q := by
  have hn : l ≠ [] := by intro e; subst e; cases hq
  have hb := (band_mem hr hn).1
  rcases band_hull hr hn with ⟨c1, c2⟩ | ⟨c1, c2⟩ | ⟨c1, c2⟩
  · have : bw (bandL l) q = 0 := by
      rw [bw_zero hb, c2]
      obtain ⟨i, h0, h1, e⟩ := mem_pt hq
      exact ⟨i, h0, h1, .inl e⟩
    omega
  · have : bw (bandL l) q = 0 := by
      rw [bw_zero hb]
      exact ⟨0, by omega, by omega, .inr ⟨by omega, (band_two hr c1 c2 hq).1⟩⟩
    omega
  · unfold bw
    rw [if_neg (by omega), in_iff c2.lp]
    exact fun i => c2.cov i q hq
theorem inV {L : Nat} {a : List Pt} {q : Pt} (h : Diff a) (hq : In q) (hw : 0 ≤ bw (bandL (isort a)) q) (hL : 5000 < L) : impl_InBand L a q.x q.y = some (true, true) := by
  have hi := h.hi
  have hb := h.band
  have hl := hb.len
  have hN : ∀ i, Nr (pt (bandL (isort a)) i) := fun i => (hb.isIn i).nr
  unfold impl_InBand
  rw [impl_AreDifferent_eq (by omega), impl_IsPeg_eq.1 hq]
  simp only [h, decide_true, gbind_eq, Option.bind_some, Bool.not_true, cond_false]
  rw [impl_band_eq h.nn (by omega) (by omega) h.nr]
  simp only [Option.bind_some]
  rw [impl_bandWhere_eq hb.nn (by omega) hN hq.nr (by omega)]
  simp only [Option.bind_some, ile_eq, hw, decide_true]
theorem badV {L : Nat} {a : List Pt} (h : ¬ Diff a) (hL : 5000 < L) :
    (impl_BandOf L a = some ([], false) ∧ spec_BandOf L a = some ([], false)) ∧ (impl_PegsOfBand L a = some ([], false) ∧ spec_PegsOfBand L a = some ([], false)) ∧ (impl_LayersOf L a = some ([], false) ∧ spec_LayersOf L a = some ([], false)) ∧
    (impl_TwiceBand L a = some (0, false) ∧ spec_TwiceBand L a = some (0, false)) ∧ (impl_CountInBand L a = some (0, false) ∧ spec_CountInBand L a = some (0, false)) ∧ (impl_AreConvex L a = some (false, false) ∧ spec_AreConvex L a = some (false, false)) := by
  unfold impl_BandOf spec_BandOf impl_PegsOfBand spec_PegsOfBand impl_LayersOf spec_LayersOf impl_TwiceBand spec_TwiceBand impl_CountInBand spec_CountInBand impl_AreConvex spec_AreConvex
  rw [spec_bdGood_eq (by omega), impl_AreDifferent_eq (by omega)]
  simp only [h, decide_false, gbind_eq, Option.bind_some, Bool.not_false, cond_true, and_self]
theorem area_few {B : List Pt} (h : B.length ≤ 2) : area B = 0 := by
  match B, h with
  | [], _ => rfl
  | [p], _ => simp [area, sm, pt, cross]; grind
  | [p, q], _ =>
    have : area [p, q] = (0 : Int) + cross (pt [p, q] 0) (pt [p, q] 1) + cross (pt [p, q] 1) (pt [p, q] 2) := rfl
    have h2 : pt [p, q] 2 = pt [p, q] 0 := pt_congr (by simp)
    rw [this, h2, cross_anti]; omega
theorem area_lp {B : List Pt} (h : LP B.length (pt B)) : 0 < area B := by
  have n3 := h.n3
  rw [← fan_area B (by omega)]
  obtain ⟨h0, h1⟩ := sm_nonneg (g := fun i => turn (pt B 0) (pt B (i + 1)) (pt B (i + 2))) (k := B.length - 2) (fun i _ _ => by
    have := h.gen (i + 1) 0
    have e := turn_p1 (pt B 0) (pt B (i + 1)) (pt B (i + 2))
    rw [show i + 1 + 1 = i + 2 by omega] at this
    omega)
  have := h1 0 (by omega) (by omega)
  have l := h.left 0
  simp only [Int.zero_add] at this l
  omega
theorem band_area {l : List Pt} (hr : Rise l) (hn : l ≠ []) : 0 ≤ area (bandL l) ∧ (0 < area (bandL l) ↔ 2 < ((bandL l).length : Int)) := by
  have hpos := List.length_pos_iff.2 hn
  rcases band_hull hr hn with ⟨c1, c2⟩ | ⟨c1, c2⟩ | ⟨c1, c2⟩
  · have := area_few (B := bandL l) (by rw [c2]; omega)
    rw [c2] at *
    omega
  · have := area_few (B := bandL l) (by omega)
    omega
  · have := area_lp c2.lp
    omega
theorem cnt_ge {l : List Pt} (hr : Rise l) (hn : l ≠ []) : (l.length : Int) ≤ cnt (bandL l) := by
  have hpos := List.length_pos_iff.2 hn
  unfold cnt
  by_cases h : 2 ≤ l.length
  · have := band_W h hr
    rw [Int.tdiv_eq_ediv_of_nonneg (by omega)]
    omega
  · have e : bandL l = l := by unfold bandL; rw [if_pos (by omega)]
    rw [e]
    match l, hpos, h with
    | [p], _, _ =>
      rw [area_few (by simp)]
      have : round [p] = 0 := by simp [round, sm, pt, step]
      rw [this]
      show ((1 : Nat) : Int) ≤ (0 + 0 : Int).tdiv 2 + 1
      decide
    | _ :: _ :: _, _, h => simp at h
theorem lp_good {B : List Pt} (h : LP B.length (pt B)) (hin : ∀ i, In (pt B i)) (hne : ∀ i k, 0 ≤ k → k < i → i < (B.length : Int) → pt B k ≠ pt B i) (hl : (B.length : Int) ≤ 10) : Good_ B where
  lo := h.n3
  hi := hl
  isIn i _ _ := hin i
  ne := hne
  turn i _ _ := by have := h.left i; omega
  apart i k _ h1 _ h2 := h.apart i k h1 h2
theorem even_tdiv {x : Int} (h : x % 2 = 0) : x.tdiv 2 = x / 2 := by
  obtain ⟨k, rfl⟩ : ∃ k, x = 2 * k := ⟨x / 2, by omega⟩
  rw [Int.mul_tdiv_cancel_left _ (by decide)]
  omega
theorem inside_cnt {B : List Pt} (hs : (B.length : Int) ≤ 100) (hin : ∀ i, Nr (pt B i)) (h0 : 0 ≤ area B) : round B + inside B = cnt B := by
  have b1 := area_bd hs hin
  have b2 := round_bd hs hin
  have p := area_round B
  unfold inside cnt
  rw [wr_id (n := ((area B).natAbs : Int) + 2) (by omega), wr_id (n := ((area B).natAbs : Int) + 2 - round B) (by omega), even_tdiv (by omega), even_tdiv (by omega), wr_id (by omega)]
  omega
end Go.AM
namespace Go.AM
end Go.AM
namespace Go.AM
end Go.AM
namespace Go.AM
end Go.AM
namespace Go.AM
end Go.AM
namespace Go.AM
end Go.AM
namespace Go.AM
end Go.AM
namespace Go.AM
open Classical
end Go.AM
namespace Go.AM
end Go.AM
namespace Go.AM
end Go.AM
namespace Go.AM
end Go.AM
namespace Go.AM
end Go.AM
namespace Go.AM
end Go.AM
namespace Go.AM
end Go.AM
namespace Go.AM
end Go.AM
namespace Go.AM
end Go.AM
namespace Go.AM
end Go.AM
namespace Go.AM
def By (a : List Int) : Prop := ∀ x ∈ a, 0 ≤ x ∧ x ≤ 255
theorem ilen_eU (a : List Int) : ilen (List.map eU a) = (a.length : Int) := by rw [ilen_eq]; simp
theorem iand_bd {x : Int} : 0 ≤ iand IntKind.u64 x 255 ∧ iand IntKind.u64 x 255 ≤ 255 := by
  rw [iand_eq]
  have h : (BitVec.ofInt (IntKind.bits .u64) x &&& BitVec.ofInt (IntKind.bits .u64) 255).toNat ≤ 255 := by
    rw [BitVec.toNat_and]
    refine Nat.le_trans Nat.and_le_right ?_
    decide
  generalize (BitVec.ofInt (IntKind.bits .u64) x &&& BitVec.ofInt (IntKind.bits .u64) 255).toNat = n at *
  have e : IntKind.wrap .u64 (n : Int) = n := by
    simp only [IntKind.wrap, IntKind.signed, IntKind.bits]
    simp
    omega
  rw [e]; omega
theorem next_dr {L : Nat} {a : List Int} {t s : Int} (hb : By a) (ht : 0 ≤ t ∧ t ≤ 1000000) : ∃ r s', spec_l1Cur_next L a t s = some (r, t + 1, s') ∧ 0 ≤ r ∧ r ≤ 255 := by
  unfold spec_l1Cur_next
  have wt : wr IntKind.i64 (iadd t 1) = t + 1 := by rw [iadd_eq, wr_id (by omega)]
  have low : ∀ X : Int, 0 ≤ wr IntKind.i64 (iand IntKind.u64 X 255) ∧ wr IntKind.i64 (iand IntKind.u64 X 255) ≤ 255 := fun X => by
    have := iand_bd (x := X)
    rw [wr_id (by omega)]; exact this
  simp only [wt, ilen_eU, ilt_eq, ile_eq, gbind_eq, show ¬ (40 : Int) < 0 by omega, decide_false, cond_false]
  by_cases h : t < (a.length : Int)
  · have hlt : t.toNat < a.length := by omega
    have hg : lget a t = some a[t.toNat] := by rw [lget_eq, if_pos ht.1, List.getElem?_eq_getElem hlt]
    have hp := hb a[t.toNat] (List.getElem_mem hlt)
    simp only [h, decide_true, cond_true, hg, Option.bind_some]
    by_cases h2 : t + 1 ≤ (a.length : Int)
    · simp only [h2, decide_true, cond_true]
      exact ⟨_, _, rfl, by rw [wr_id (by omega)]; exact hp⟩
    · simp only [h2, decide_false, cond_false]
      exact ⟨_, _, rfl, low _⟩
  · simp only [h, decide_false, cond_false]
    by_cases h2 : t + 1 ≤ (a.length : Int)
    · simp only [h2, decide_true, cond_true]
      exact ⟨_, _, rfl, by omega, by omega⟩
    · simp only [h2, decide_false, cond_false]
      exact ⟨_, _, rfl, low _⟩
theorem pick_dr {L : Nat} {a : List Int} {t s n : Int} (hb : By a) (ht : 0 ≤ t ∧ t ≤ 900000) (hn : 1 ≤ n ∧ n ≤ 1000000) : ∃ r t' s', spec_l1Cur_pick L a t s n = some (r, t', s') ∧ (0 ≤ r ∧ r < n) ∧ t ≤ t' ∧ t' ≤ t + 2 := by
  unfold spec_l1Cur_pick
  simp only [ile_eq, ilt_eq, ieq_eq, gbind_eq]
  by_cases h1 : n ≤ 1
  · simp only [h1, decide_true, cond_true]
    exact ⟨0, t, s, rfl, by omega, by omega, by omega⟩
  · simp only [h1, decide_false, cond_false]
    obtain ⟨r, s1, e1, r0, r1⟩ := next_dr (L := L) (s := s) hb (t := t) (by omega)
    simp only [e1, Option.bind_some, show ¬ n = 0 by omega, decide_false, cond_false]
    have key : ∀ x : Int, 0 ≤ x → 0 ≤ irem x n ∧ irem x n < n := fun x hx => by
      rw [irem_eq, Int.tmod_eq_emod_of_nonneg hx]
      exact ⟨Int.emod_nonneg _ (by omega), Int.emod_lt_of_pos _ (by omega)⟩
    by_cases h2 : 200 < n
    · simp only [h2, decide_true, cond_true]
      obtain ⟨q, s2, e2, q0, q1⟩ := next_dr (L := L) (s := s1) hb (t := t + 1) (by omega)
      simp only [e2, Option.bind_some]
      refine ⟨_, _, _, rfl, key _ ?_, by omega, by omega⟩
      rw [imul_eq, iadd_eq, wr_id (n := r * 256) (by omega), wr_id (by omega)]; omega
    · simp only [h2, decide_false, cond_false]
      exact ⟨_, _, _, rfl, key r r0, by omega, by omega⟩
theorem one_dr {L : Nat} {a : List Int} {t s n : Int} (hb : By a) (ht : 0 ≤ t ∧ t ≤ 900000) (hn : 1 ≤ n ∧ n ≤ 1000000) : ∃ r t' s', spec_l1Cur_one L a t s n = some (r, t', s') ∧ t ≤ t' ∧ t' ≤ t + 2 := by
  obtain ⟨r, t', s', e, _, h1, h2⟩ := pick_dr (L := L) (s := s) hb ht hn
  unfold spec_l1Cur_one
  simp only [e, gbind_eq, Option.bind_some]
  exact ⟨_, _, _, rfl, h1, h2⟩
theorem among_dr {L : Nat} {a w : List Int} {t s : Int} (hb : By a) (ht : 0 ≤ t ∧ t ≤ 900000) (hw : 1 ≤ (w.length : Int) ∧ (w.length : Int) ≤ 1000) : ∃ r t' s', spec_l1Cur_among_v2 L a t s w = some (r, t', s', w) ∧ r ∈ w ∧ t ≤ t' ∧ t' ≤ t + 2 := by
  have hl : ilen (List.map eI w) = (w.length : Int) := by rw [ilen_eq]; simp
  obtain ⟨r, t', s', e, ⟨r0, r1⟩, h1, h2⟩ := pick_dr (L := L) (s := s) (n := (w.length : Int)) hb ht (by omega)
  unfold spec_l1Cur_among_v2
  have hlt : r.toNat < w.length := by omega
  have hg : lget w r = some w[r.toNat] := by rw [lget_eq, if_pos r0, List.getElem?_eq_getElem hlt]
  simp only [hl, e, gbind_eq, Option.bind_some, ile_eq, ilt_eq, r0, r1, decide_true, Bool.and_self, cond_true, hg]
  exact ⟨_, _, _, rfl, List.getElem_mem hlt, h1, h2⟩
theorem surePeg_dr {L : Nat} {a : List Int} {t s n : Int} (hb : By a) (ht : 0 ≤ t ∧ t ≤ 800000) (hn : 1 ≤ n ∧ n ≤ 20) : ∃ x y t' s', spec_l1Cur_surePeg L a t s n = some (x, y, t', s') ∧ In ⟨x, y⟩ ∧ t ≤ t' ∧ t' ≤ t + 4 := by
  have wn : wr IntKind.i64 (iadd (wr IntKind.i64 (imul 2 n)) 1) = 2 * n + 1 := by
    rw [imul_eq, iadd_eq, wr_id (n := 2 * n) (by omega), wr_id (by omega)]
  obtain ⟨r, t1, s1, e1, ⟨r0, r1⟩, h1, h2⟩ := pick_dr (L := L) (s := s) (n := 2 * n + 1) hb (t := t) (by omega) (by omega)
  obtain ⟨q, t2, s2, e2, ⟨q0, q1⟩, h3, h4⟩ := pick_dr (L := L) (s := s1) (n := 2 * n + 1) hb (t := t1) (by omega) (by omega)
  unfold spec_l1Cur_surePeg
  simp only [wn, e1, e2, gbind_eq, Option.bind_some, isub_eq]
  rw [wr_id (n := r - n) (by omega), wr_id (n := q - n) (by omega)]
  exact ⟨_, _, _, _, rfl, by unfold In; simp only; omega, by omega, by omega⟩
theorem peg_dr {L : Nat} {a : List Int} {t s : Int} (hb : By a) (ht : 0 ≤ t ∧ t ≤ 700000) : ∃ x y t' s', spec_l1Cur_peg L a t s = some (x, y, t', s') ∧ Wd ⟨x, y⟩ ∧ t ≤ t' ∧ t' ≤ t + 8 := by
  obtain ⟨b, t1, s1, e1, h1, h2⟩ := one_dr (L := L) (s := s) (n := 12) hb (t := t) (by omega) (by omega)
  unfold spec_l1Cur_peg
  simp only [e1, gbind_eq, Option.bind_some]
  cases b with
  | true =>
    obtain ⟨x, t2, s2, e2, m2, h3, h4⟩ := among_dr (L := L) (s := s1) (w := [0, 40, -40, 41, 4611686018427387904]) hb (t := t1) (by omega) (by simp)
    obtain ⟨y, t3, s3, e3, m3, h5, h6⟩ := among_dr (L := L) (s := s2) (w := [0, 1, 40, -41, -9223372036854775808]) hb (t := t2) (by omega) (by simp)
    simp only [cond_true, e2, e3, Option.bind_some]
    refine ⟨_, _, _, _, rfl, ?_, by omega, by omega⟩
    simp only [List.mem_cons, List.not_mem_nil, or_false] at m2 m3
    unfold Wd; simp only; omega
  | false =>
    obtain ⟨x, y, t2, s2, e2, m2, h3, h4⟩ := surePeg_dr (L := L) (s := s1) (n := 6) hb (t := t1) (by omega) (by omega)
    simp only [cond_false, e2, Option.bind_some]
    refine ⟨_, _, _, _, rfl, ?_, by omega, by omega⟩
    unfold In at m2; unfold Wd; simp only at *; omega
end Go.AM
namespace Go.AM
theorem lay_succ {n : Nat} {v : List Pt} (hv : v ≠ []) : lay (n + 1) v = (onb v).1 :: lay n (onb v).2 := by
  rw [lay, if_neg hv]
theorem lay_nil (n : Nat) : lay n [] = [] := by
  cases n <;> simp [lay]
theorem lay_rec {P : Nat → List Pt → Prop} (h0 : ∀ n, P n []) (hs : ∀ n v, v ≠ [] → Diff v → v.length ≤ n + 1 → P n (onb v).2 → P (n + 1) v) : ∀ (n : Nat) (v : List Pt), v.length ≤ n → (v = [] ∨ Diff v) → P n v
  | 0, v, hl, _ => by
    have : v = [] := List.eq_nil_of_length_eq_zero (by omega)
    subst this; exact h0 0
  | n + 1, v, hl, hd => by
    by_cases hv : v = []
    · subst hv; exact h0 _
    · have h := hd.resolve_left hv
      have k1 := onb_len v
      have k2 := List.length_pos_iff.2 (onb_fst h)
      exact hs n v hv h hl (lay_rec h0 hs n (onb v).2 (by omega) (by by_cases e : (onb v).2 = []; exact .inl e; exact .inr (onb_diff h e)))
theorem lay_sum (n : Nat) (v : List Pt) (hl : v.length ≤ n) (hd : v = [] ∨ Diff v) : ((lay n v).map List.length).sum = v.length := by
  refine lay_rec (P := fun n v => ((lay n v).map List.length).sum = v.length) (fun n => by rw [lay_nil]; rfl) (fun n v hv h hl ih => ?_) n v hl hd
  have := onb_len v
  rw [lay_succ hv, List.map_cons, List.sum_cons, ih]
  omega
theorem onb_pw {v : List Pt} (h : Diff v) : (onb v).1.Pairwise Less := List.Pairwise.filter _ (rise_ord h.rise)
theorem lay_pw (n : Nat) (v : List Pt) (hl : v.length ≤ n) (hd : v = [] ∨ Diff v) : ∀ l ∈ lay n v, l.Pairwise Less := by
  refine lay_rec (P := fun n v => ∀ l ∈ lay n v, l.Pairwise Less) (fun n => by rw [lay_nil]; simp) (fun n v hv h hl ih => ?_) n v hl hd
  rw [lay_succ hv]
  intro l hm
  rcases List.mem_cons.1 hm with e | hm
  · subst e; exact onb_pw h
  · exact ih l hm
theorem onb_apart {v : List Pt} {q : Pt} (h1 : q ∈ (onb v).1) (h2 : q ∈ (onb v).2) : False := by
  have a := (List.mem_filter.1 h1).2
  have b := (List.mem_filter.1 h2).2
  simp only [decide_eq_true_eq, Bool.not_eq_true', decide_eq_false_iff_not] at a b
  exact b a
theorem lay_at (n : Nat) (v : List Pt) (hl : v.length ≤ n) (hd : v = [] ∨ Diff v) : ∀ (i s : Nat) (l : List Pt) (q : Pt), (lay n v)[i]? = some l → q ∈ l → inLay q (lay n v) s = some (s + i) := by
  refine lay_rec (P := fun n v => ∀ (i s : Nat) (l : List Pt) (q : Pt), (lay n v)[i]? = some l → q ∈ l → inLay q (lay n v) s = some (s + i)) (fun n i s l q h => by rw [lay_nil] at h; simp at h) (fun n v hv h hl ih => ?_) n v hl hd
  rw [lay_succ hv]
  intro i s l q hi hq
  cases i with
  | zero =>
    simp at hi
    subst hi
    unfold inLay
    rw [if_pos hq]; rfl
  | succ i =>
    simp at hi
    have hm : q ∈ (onb v).2 := lay_mem n _ l (List.mem_of_getElem? hi) q hq
    unfold inLay
    rw [if_neg (fun c => onb_apart c hm), ih i (s + 1) l q hi hq]
    congr 1; omega
theorem layerV {L : Nat} {a l : List Pt} {q : Pt} {i : Nat} (h : Diff a) (hi : (lay a.length a)[i]? = some l) (hq : q ∈ l) (hL : 5000 < L) : impl_LayerOfPeg L a q.x q.y = some ((i : Int) + 1, true) := by
  have hh := h.hi
  have hll := lay_len a.length a
  obtain ⟨q1, q2, q3⟩ := layerOf_l0 (L := L) (q := q) (r := lay a.length a) (by omega) (fun l hl => by have := lay_each _ _ l hl; omega) hL L 0 (by omega) (by omega)
  rw [show ((0 : Nat) : Int) = 0 by rfl, List.drop_zero] at q2
  rw [List.drop_zero] at q3
  have k := lay_at a.length a (Nat.le_refl _) (.inr h) i 0 l q hi hq
  rw [Nat.zero_add] at k
  rw [k] at q2
  have k3 := q3 i k
  unfold impl_LayerOfPeg slices_IndexFunc_impl_Peg_impl_Peg_impl_LayerOfPeg_1
  rw [(layersV h hL).1]
  simp only [gbind_eq, Option.bind_some, q2, cond_true, iadd_eq, ile_eq, show (0 : Int) ≤ (i : Int) by omega, decide_true]
  rw [wr_id (by omega)]
theorem lay_zero {a : List Pt} (h : Diff a) : (lay a.length a)[0]? = some (onb a).1 := by
  have hp := List.length_pos_iff.2 h.nn
  obtain ⟨n, e⟩ : ∃ n, a.length = n + 1 := ⟨a.length - 1, by omega⟩
  rw [e, lay_succ h.nn]; rfl
theorem band_on {a : List Pt} (h : Diff a) {c : Pt} (hc : c ∈ bandL (isort a)) : c ∈ (onb a).1 := by
  have hb := h.band
  unfold onb
  refine List.mem_filter.2 ⟨isort_mem.2 (hb.mem c hc), ?_⟩
  obtain ⟨i, h0, h1, e⟩ := mem_pt hc
  simp only [decide_eq_true_eq]
  exact ⟨i, h0, h1, .inl e⟩
theorem lset_len {α : Type} (xs : List α) (i : Int) (v : α) : (lset xs i v).length = xs.length := by rw [lset_eq]; simp
theorem pegs_l1 {L : Nat} {a : List Int} (hb : By a) : ∀ (m : Nat) (t s : Int) (w : List Pt), 0 ≤ t → t + 2 * (40 - (w.length : Int)) ≤ 800000 → w.length ≤ 31 → 31 - w.length < m →
    ∃ l t' s', spec_l1Cur_pegs_l1 L a m t s w = some (l, t', s') ∧ l.length ≤ 40 ∧ t ≤ t' ∧ t' ≤ t + 2 * (40 - (w.length : Int)) := by
  intro m
  induction m with
  | zero => intro t s w _ _ _ h; omega
  | succ m ih =>
    intro t s w ht htt hw hm
    rw [spec_l1Cur_pegs_l1]
    obtain ⟨r, t1, s1, e1, hr, ht1, ht2⟩ := pick_dr (L := L) (s := s) (n := 2) hb (show 0 ≤ t ∧ t ≤ 900000 by omega) (by omega)
    simp only [e1, gbind_eq, Option.bind_some, ilen_mapep, iadd_eq, ilt_eq]
    rw [wr_id (n := 30 + r) (by omega)]
    by_cases h : (w.length : Int) < 30 + r
    · have hf : fits ((w.length : Int) + 1) 16 = true := fits_l (by omega)
      have k1 : ∀ x y : AV, ilen [AV.agg [x, y]] = 1 := fun x y => by rw [ilen_eq]; rfl
      simp only [h, decide_true, cond_true, ieq_eq, show ¬ ((7 : Int) = 0) by omega, decide_false, cond_false, k1, hf, lcat_eq]
      obtain ⟨l, t', s', e2, h1, h2, h3⟩ := ih t1 s1 (w ++ [⟨(w.length : Int), irem (wr IntKind.i64 (imul (w.length : Int) (w.length : Int))) 7⟩]) (by omega) (by simp; omega) (by simp; omega) (by simp; omega)
      refine ⟨l, t', s', e2, h1, by omega, ?_⟩
      simp at h3
      omega
    · simp only [h, decide_false, cond_false]
      exact ⟨w, t1, s1, rfl, by omega, by omega, by omega⟩
theorem pegs_l2 {L : Nat} {w : List Pt} {r : Int × Int × Int} (hw : w.length ≤ 40) : ∀ (m : Nat) (i : Nat) (x : List Pt), x.length = w.length → i ≤ w.length → w.length - i < m →
    ∃ l, spec_l1Cur_pegs_l2 L w r m i x = some (l, r.2.1, r.2.2) ∧ l.length ≤ 40 := by
  intro m
  induction m with
  | zero => intro i x _ _ h; omega
  | succ m ih =>
    intro i x hx hi hm
    rw [spec_l1Cur_pegs_l2]
    simp only [ilen_mapep, ilt_eq, ile_eq, iadd_eq, imul_eq]
    by_cases h : i < w.length
    · have wi : wr IntKind.i64 ((i : Int) + 1) = ((i + 1 : Nat) : Int) := by rw [wr_id (by omega)]; omega
      have g : lget x (i : Int) = some (pt x i) := lget_pt (by omega) (by omega)
      simp only [show (i : Int) < (w.length : Int) by omega, show (0 : Int) ≤ (i : Int) by omega, show (i : Int) < (x.length : Int) by omega, decide_true, Bool.and_self, cond_true, g, gbind_eq, Option.bind_some, wi]
      exact ih (i + 1) _ (by rw [lset_len]; exact hx) (by omega) (by omega)
    · simp only [show ¬ ((i : Int) < (w.length : Int)) by omega, decide_false, cond_false]
      exact ⟨x, rfl, by omega⟩
theorem pegs_l0 {L : Nat} {a : List Int} {c : Int} (hb : By a) (hc : 1 ≤ c ∧ c ≤ 20) (hL : 6000 < L) : ∀ (m : Nat) (v t s : Int) (w : List Pt), 0 ≤ v → v ≤ 30 → 0 ≤ t → t + 4 * v ≤ 600000 → (w.length : Int) + v ≤ 35 → v < m →
    ∃ l t' s', spec_l1Cur_pegs_l0 L a c m v t s w = some (l, t', s') ∧ l.length ≤ 40 ∧ t ≤ t' ∧ t' ≤ t + 4 * v + 100 := by
  intro m
  induction m with
  | zero => intro v t s w _ _ _ _ _ h; omega
  | succ m ih =>
    intro v t s w hv hv2 ht htt hw hm
    rw [spec_l1Cur_pegs_l0]
    simp only [ilt_eq, isub_eq, ieq_eq]
    by_cases h : 0 < v
    · obtain ⟨x, y, t1, s1, e1, hin, ht1, ht2⟩ := surePeg_dr (L := L) (s := s) (n := c) hb (show 0 ≤ t ∧ t ≤ 800000 by omega) hc
      have k1 : ∀ x y : AV, ilen [AV.agg [x, y]] = 1 := fun x y => by rw [ilen_eq]; rfl
      have hf : fits (iadd (w.length : Int) 1) 16 = true := by rw [iadd_eq]; exact fits_l (by omega)
      have hh := bdHas_eq (L := L) (a := w) (q := ⟨x, y⟩) (by omega) (by omega)
      simp only at hh
      simp only [h, decide_true, cond_true, e1, gbind_eq, Option.bind_some, hh, ilen_mapep, k1, hf, lcat_eq]
      rw [wr_id (n := v - 1) (by omega)]
      by_cases hm' : (⟨x, y⟩ : Pt) ∈ w
      · simp only [hm', decide_true, Bool.not_true, cond_false]
        obtain ⟨l, t', s', e2, h1, h2, h3⟩ := ih (v - 1) t1 s1 w (by omega) (by omega) (by omega) (by omega) (by omega) (by omega)
        exact ⟨l, t', s', e2, h1, by omega, by omega⟩
      · simp only [hm', decide_false, Bool.not_false, cond_true]
        obtain ⟨l, t', s', e2, h1, h2, h3⟩ := ih (v - 1) t1 s1 (w ++ [⟨x, y⟩]) (by omega) (by omega) (by omega) (by omega) (by simp; omega) (by omega)
        exact ⟨l, t', s', e2, h1, by omega, by omega⟩
    · simp only [h, decide_false, cond_false]
      obtain ⟨r, t1, s1, e1, hr, ht1, ht2⟩ := pick_dr (L := L) (s := s) (n := 16) hb (show 0 ≤ t ∧ t ≤ 900000 by omega) (by omega)
      simp only [e1, gbind_eq, Option.bind_some]
      by_cases r0 : r = 0
      · obtain ⟨x, y, t2, s2, e2, hwd, ht3, ht4⟩ := peg_dr (L := L) (t := t1) (s := s1) hb (by omega)
        have k1 : ∀ x y : AV, ilen [AV.agg [x, y]] = 1 := fun x y => by rw [ilen_eq]; rfl
        have hf : fits (iadd (w.length : Int) 1) 16 = true := by rw [iadd_eq]; exact fits_l (by omega)
        simp only [r0, decide_true, cond_true, e2, Option.bind_some, ilen_mapep, k1, hf, lcat_eq]
        exact ⟨_, _, _, rfl, by simp; omega, by omega, by omega⟩
      · simp only [r0, decide_false, cond_false]
        by_cases r1 : r = 1
        · simp only [r1, decide_true, cond_true]
          exact ⟨_, _, _, rfl, by simp, by omega, by omega⟩
        · simp only [r1, decide_false, cond_false]
          by_cases r2 : r = 2
          · simp only [r2, decide_true, cond_true]
            obtain ⟨l, t', s', e2, h1, h2, h3⟩ := pegs_l1 (L := L) hb L t1 s1 [] (by omega) (by simp; omega) (by simp) (by simp; omega)
            refine ⟨l, t', s', e2, h1, by omega, ?_⟩
            simp at h3; omega
          · simp only [r2, decide_false, cond_false]
            by_cases r3 : r = 3
            · simp only [r3, decide_true, cond_true]
              obtain ⟨l, e2, h1⟩ := pegs_l2 (L := L) (w := w) (r := (3, t1, s1)) (by omega) L 0 w rfl (by omega) (by omega)
              exact ⟨l, t1, s1, e2, h1, by omega, by omega⟩
            · simp only [r3, decide_false, cond_false]
              exact ⟨w, t1, s1, rfl, by omega, by omega, by omega⟩
theorem pegs_dr {L : Nat} {a : List Int} {t s b c : Int} (hb : By a) (ht : 0 ≤ t ∧ t ≤ 500000) (hb' : 1 ≤ b ∧ b ≤ 20) (hc : 1 ≤ c ∧ c ≤ 20) (hL : 6000 < L) :
    ∃ l t' s', spec_l1Cur_pegs L a t s b c = some (l, t', s') ∧ l.length ≤ 40 ∧ t ≤ t' ∧ t' ≤ t + 300 := by
  unfold spec_l1Cur_pegs
  obtain ⟨r, t1, s1, e1, hr, ht1, ht2⟩ := pick_dr (L := L) (s := s) (n := b) hb (show 0 ≤ t ∧ t ≤ 900000 by omega) (by omega)
  simp only [e1, gbind_eq, Option.bind_some, iadd_eq]
  rw [wr_id (n := 1 + r) (by omega)]
  obtain ⟨l, t', s', e2, h1, h2, h3⟩ := pegs_l0 (L := L) hb hc hL L (1 + r) t1 s1 [] (by omega) (by omega) (by omega) (by omega) (by simp; omega) (by omega)
  exact ⟨l, t', s', e2, h1, by omega, by omega⟩
theorem drawBand {L : Nat} {a : List Int} (hb : By a) (hL : 6000 < L) : ∃ l, spec_DrawBandOf L a = some l ∧ l.length ≤ 40 := by
  unfold spec_DrawBandOf spec_DrawAreDifferent
  obtain ⟨l, t', s', e, h, _⟩ := pegs_dr (L := L) (t := 0) (s := 0) (b := 10) (c := 4) hb (by omega) (by omega) (by omega) hL
  simp only [e, gbind_eq, Option.bind_some]
  exact ⟨l, rfl, h⟩
theorem drawJoin {L : Nat} {a : List Int} (hb : By a) (hL : 6000 < L) : ∃ p q, spec_DrawJoinBands L a = some (p, q) := by
  unfold spec_DrawJoinBands
  obtain ⟨l, t1, s1, e1, h, h1, h2⟩ := pegs_dr (L := L) (t := 0) (s := 0) (b := 6) (c := 4) hb (by omega) (by omega) (by omega) hL
  obtain ⟨l2, t2, s2, e2, _⟩ := pegs_dr (L := L) (t := t1) (s := s1) (b := 6) (c := 4) hb (by omega) (by omega) (by omega) hL
  simp only [e1, e2, gbind_eq, Option.bind_some]
  exact ⟨l, l2, rfl⟩
theorem drawIn {L : Nat} {a : List Int} (hb : By a) (hL : 6000 < L) : ∃ l x y, spec_DrawInBand L a = some (l, x, y) := by
  unfold spec_DrawInBand
  obtain ⟨l, t1, s1, e1, h, h1, h2⟩ := pegs_dr (L := L) (t := 0) (s := 0) (b := 8) (c := 5) hb (by omega) (by omega) (by omega) hL
  obtain ⟨x, y, t2, s2, e2, _⟩ := peg_dr (L := L) (t := t1) (s := s1) hb (by omega)
  simp only [e1, e2, gbind_eq, Option.bind_some]
  exact ⟨l, x, y, rfl⟩
theorem drawLayer {L : Nat} {a : List Int} (hb : By a) (hL : 6000 < L) : ∃ l x y, spec_DrawLayerOfPeg L a = some (l, x, y) := by
  unfold spec_DrawLayerOfPeg
  obtain ⟨l, t1, s1, e1, h, h1, h2⟩ := pegs_dr (L := L) (t := 0) (s := 0) (b := 10) (c := 4) hb (by omega) (by omega) (by omega) hL
  simp only [e1, gbind_eq, Option.bind_some, ilen_mapep, ilt_eq, ile_eq]
  by_cases hl : 0 < (l.length : Int)
  · obtain ⟨r, t2, s2, e2, h3, h4⟩ := one_dr (L := L) (t := t1) (s := s1) (n := 4) hb (by omega) (by omega)
    simp only [hl, decide_true, cond_true, e2, Option.bind_some]
    cases r with
    | true =>
      obtain ⟨x, y, t3, s3, e3, _⟩ := peg_dr (L := L) (t := t2) (s := s2) hb (by omega)
      simp only [Bool.not_true, cond_false, e3, Option.bind_some]
      exact ⟨l, x, y, rfl⟩
    | false =>
      obtain ⟨k, t3, s3, e3, hk, _⟩ := pick_dr (L := L) (t := t2) (s := s2) (n := (l.length : Int)) hb (by omega) (by omega)
      simp only [Bool.not_false, cond_true, e3, Option.bind_some, hk.1, hk.2, decide_true, Bool.and_self, lget_pt hk.1 hk.2]
      exact ⟨l, _, _, rfl⟩
  · obtain ⟨x, y, t2, s2, e2, _⟩ := peg_dr (L := L) (t := t1) (s := s1) hb (by omega)
    simp only [hl, decide_false, cond_false, e2, Option.bind_some]
    exact ⟨l, x, y, rfl⟩
end Go.AM
namespace Go.AM
theorem ePegs_l0 {L : Nat} {a : List Pt} (hs : (a.length : Int) ≤ 1000) : ∀ (m i : Nat), i ≤ a.length → a.length - i < m → laws_ePegs_l0 L a a m i = some true := by
  intro m
  induction m with
  | zero => intro i _ h; omega
  | succ m ih =>
    intro i hi hm
    rw [laws_ePegs_l0]
    simp only [ilen_mapep, ilt_eq, ieq_eq, iadd_eq]
    by_cases h : i < a.length
    · have wi : wr IntKind.i64 ((i : Int) + 1) = ((i + 1 : Nat) : Int) := by rw [wr_id (by omega)]; omega
      simp only [show (i : Int) < (a.length : Int) by omega, decide_true, cond_true, lget_pt (a := a) (i := (i : Int)) (by omega) (by omega), gbind_eq, Option.bind_some, Bool.and_self, Bool.not_true, cond_false, wi]
      exact ih (i + 1) (by omega) (by omega)
    · simp only [show ¬ ((i : Int) < (a.length : Int)) by omega, decide_false, cond_false]
theorem ePegs_eq {L : Nat} {a : List Pt} (hs : (a.length : Int) ≤ 1000) (hL : 5000 < L) : laws_ePegs L a a = some true := by
  unfold laws_ePegs
  simp only [ieq_eq, decide_true, Bool.not_true, cond_false]
  exact ePegs_l0 hs L 0 (by omega) (by omega)
theorem ilen_elp (r : List (List Pt)) : ilen (List.map eLP r) = (r.length : Int) := by rw [ilen_eq]; simp
theorem lget_nat {α : Type} {r : List α} {i : Nat} (h : i < r.length) : lget r (i : Int) = some r[i] := by
  rw [lget_eq, if_pos (by omega), Int.toNat_natCast, List.getElem?_eq_getElem h]
theorem eLists_l0 {L : Nat} {r : List (List Pt)} (hs : (r.length : Int) ≤ 1000) (he : ∀ l ∈ r, (l.length : Int) ≤ 1000) (hL : 5000 < L) : ∀ (m i : Nat), i ≤ r.length → r.length - i < m → laws_eLists_l0 L r r m i = some true := by
  intro m
  induction m with
  | zero => intro i _ h; omega
  | succ m ih =>
    intro i hi hm
    rw [laws_eLists_l0]
    simp only [ilen_elp, ilt_eq, iadd_eq]
    by_cases h : i < r.length
    · have wi : wr IntKind.i64 ((i : Int) + 1) = ((i + 1 : Nat) : Int) := by rw [wr_id (by omega)]; omega
      simp only [show (i : Int) < (r.length : Int) by omega, decide_true, cond_true, lget_nat h, gbind_eq, Option.bind_some, ePegs_eq (L := L) (he _ (List.getElem_mem h)) hL, Bool.not_true, cond_false, wi]
      exact ih (i + 1) (by omega) (by omega)
    · simp only [show ¬ ((i : Int) < (r.length : Int)) by omega, decide_false, cond_false]
theorem eLists_eq {L : Nat} {r : List (List Pt)} (hs : (r.length : Int) ≤ 1000) (he : ∀ l ∈ r, (l.length : Int) ≤ 1000) (hL : 5000 < L) : laws_eLists L r r = some true := by
  unfold laws_eLists
  simp only [ieq_eq, decide_true, Bool.not_true, cond_false]
  exact eLists_l0 hs he hL L 0 (by omega) (by omega)
theorem eIn_eq {L : Nat} {a : List Pt} {q : Pt} (hs : (a.length : Int) ≤ 1000) (hq : q ∈ a) (hL : 5000 < L) : laws_eIn L a q.x q.y = some true := by
  have heq : ∀ v, (decide ((pt a v).x = q.x) && decide ((pt a v).y = q.y)) = decide (pt a v = q) := fun v => by
    rw [Bool.eq_iff_iff, pt_eq_iff]; simp
  have := search (f := fun m v => laws_eIn_l0 L a q.x q.y m v) (r := some true) (k := some false) (lo := 0) (n := (a.length : Int)) (hi := 1000) (bad := fun i => pt a i = q) hs
    (fun m v h0 _ h => by simp only [laws_eIn_l0, ilen_mapep, ilt_eq, h, decide_false, cond_false])
    (fun m v h0 h hb => by simp only [laws_eIn_l0, ilen_mapep, ilt_eq, h, decide_true, cond_true, lget_pt h0 h, gbind_eq, Option.bind_some, ieq_eq, heq]; rw [decide_eq_true hb]; rfl)
    (fun m v h0 h hb => by
      simp only [laws_eIn_l0, ilen_mapep, ilt_eq, h, decide_true, cond_true, lget_pt h0 h, gbind_eq, Option.bind_some, ieq_eq, heq, hb, decide_false, cond_false, iadd_eq]
      rw [wr_s (by omega)]) L 0 (Int.le_refl _) (by omega) (by omega) (by omega)
  unfold laws_eIn
  obtain ⟨i, h0, h1, e⟩ := mem_pt hq
  exact this.1 ⟨i, h0, h1, e⟩
theorem eLess_eq {L : Nat} {p q : Pt} : laws_eLess L p.x p.y q.x q.y = some (decide (Less p q)) := by
  unfold laws_eLess Less
  simp only [ilt_eq, ieq_eq]
  by_cases h1 : p.x < q.x
  · simp [h1]
  · by_cases h2 : p.x = q.x
    · simp [h2]
    · simp [h1, h2]
theorem eTurn_eq {L : Nat} {a b c : Pt} (ha : Nr a) (hb : Nr b) (hc : Nr c) : laws_eTurn L a.x a.y b.x b.y c.x c.y = some (turn a b c) := spec_pgTurn_eq (L := L) ha hb hc
theorem ba_l11 {L : Nat} {p q J : List Pt} {t : Bool} (h : ∀ x ∈ p, impl_InBand L J x.x x.y = some (true, true)) (hs : (p.length : Int) ≤ 1000) : ∀ (m i : Nat), i ≤ p.length → p.length - i < m → laws_FnBandsAround_l11 L (p, q) (J, t) m i = some true := by
  intro m
  induction m with
  | zero => intro i _ h; omega
  | succ m ih =>
    intro i hi hm
    rw [laws_FnBandsAround_l11]
    simp only [ilen_mapep, ilt_eq, ile_eq, iadd_eq]
    by_cases hl : i < p.length
    · have wi : wr IntKind.i64 ((i : Int) + 1) = ((i + 1 : Nat) : Int) := by rw [wr_id (by omega)]; omega
      have hp := h (pt p i) (pt_mem (by intro e; subst e; simp at hl) _)
      simp only [show (i : Int) < (p.length : Int) by omega, show (0 : Int) ≤ (i : Int) by omega, decide_true, Bool.and_self, cond_true, lget_pt (a := p) (i := (i : Int)) (by omega) (by omega), gbind_eq, Option.bind_some, hp, Bool.not_true, cond_false, wi]
      exact ih (i + 1) (by omega) (by omega)
    · simp only [show ¬ ((i : Int) < (p.length : Int)) by omega, decide_false, cond_false]
theorem jband_in {L : Nat} {p q : List Pt} {x : Pt} (hp : Diff p) (hq : Diff q) (hl : (jn p q).length ≤ 30) (hx : x ∈ p) (hL : 5000 < L) : impl_InBand L (bandL (jn p q)) x.x x.y = some (true, true) := by
  have hd := jn_diff hp hq hl
  have hB := hd.bandDiff
  rw [jn_isort] at hB
  refine inV hB (hp.mem hx) ?_ hL
  rw [band_again (jn_rise p q) hd.nn hB]
  exact bw_mem (jn_rise p q) (jn_mem.2 (.inl hx))
theorem ba_j10 {L : Nat} {p q : List Pt} {n : Int} {t t' : Bool} {r15 : List Pt × Bool} (h : impl_JoinBands L p q = some r15) (hL : 100000 < L) : laws_FnBandsAround_j10 L (p, q) r15 (n, t) (n, t') false = some true := by
  unfold laws_FnBandsAround_j10
  simp only [cond_false, ieq_eq, decide_true, Bool.not_true]
  by_cases hd : Diff p ∧ Diff q
  · obtain ⟨hp, hq⟩ := hd
    have hp1 := hp.hi
    rw [impl_join hp hq hL] at h
    by_cases hl : (jn p q).length ≤ 30
    · rw [if_pos hl] at h
      have e := Option.some.inj h
      subst e
      rw [impl_join hq hp hL, jn_comm q p, if_pos hl]
      have hB := (jn_diff hp hq hl).bandDiff.hi
      rw [jn_isort] at hB
      simp only [cond_true, gbind_eq, Option.bind_some, Bool.not_true, cond_false, ePegs_eq (L := L) (a := bandL (jn p q)) (by omega) (by omega)]
      exact ba_l11 (fun x hx => jband_in hp hq hl hx (by omega)) (by omega) L 0 (by omega) (by omega)
    · rw [if_neg hl] at h
      have e := Option.some.inj h
      subst e
      rfl
  · rw [(join_bad hd hL).1] at h
    have e := Option.some.inj h
    subst e
    rfl
theorem ba_j8 {L : Nat} {b : List Int} (hb : By b) (hL : 100000 < L) : laws_FnBandsAround_j8 L b = some true := by
  unfold laws_FnBandsAround_j8
  obtain ⟨p, q, e1⟩ := drawJoin (L := L) hb (by omega)
  obtain ⟨l, x, y, e2⟩ := drawIn (L := L) hb (by omega)
  obtain ⟨l', x', y', e3⟩ := drawLayer (L := L) hb (by omega)
  obtain ⟨r, f1, f2⟩ := inBand_eq (L := L) (a := l) (q := ⟨x, y⟩) (by omega)
  obtain ⟨r', g1, g2⟩ := layerOfPeg_eq (L := L) (a := l') (q := ⟨x', y'⟩) (by omega)
  simp only at f1 f2 g1 g2
  obtain ⟨r15, j1, j2, j3⟩ : ∃ r15 : List Pt × Bool, impl_JoinBands L p q = some r15 ∧ spec_JoinBands L p q = some r15 ∧ (r15.1.length : Int) ≤ 1000 := by
    by_cases hd : Diff p ∧ Diff q
    · rw [impl_join hd.1 hd.2 hL, spec_join hd.1 hd.2 hL]
      by_cases hl : (jn p q).length ≤ 30
      · have hB := (jn_diff hd.1 hd.2 hl).bandDiff.hi
        rw [jn_isort] at hB
        simp only [hl, if_true]
        exact ⟨_, rfl, rfl, by simp only; omega⟩
      · simp only [hl, if_false]
        exact ⟨_, rfl, rfl, by simp⟩
    · rw [(join_bad hd hL).1, (join_bad hd hL).2]
      exact ⟨_, rfl, rfl, by simp⟩
  obtain ⟨n, t⟩ := r'
  simp only [e1, e2, e3, f1, f2, g1, g2, j1, j2, gbind_eq, Option.bind_some, beqb_eq, beq_self_eq_true, Bool.not_true, cond_false, ePegs_eq (L := L) j3 (by omega)]
  unfold laws_FnBandsAround_j9
  simp only [cond_false, beqb_eq, beq_self_eq_true, Bool.not_true]
  exact ba_j10 j1 hL
theorem ba_l17 {L : Nat} {κ : (List Int) → Int → Int → Int → Int → Int → Int → (List Pt) → (List Pt) → (List Pt) → (List (List Pt)) → Option Bool} {v11 : List Int} {v18 v22 v30 v39 v353 : Int} {i : Nat} {a w1 w2 l : List Pt} {w3 : List (List Pt)}
    (h : Diff a) (hi : (lay a.length a)[i]? = some l) (hpw : l.Pairwise Less) (hL : 5000 < L) (hs : (l.length : Int) ≤ 1000) (hi2 : (i : Int) ≤ 1000) : ∀ (m j : Nat), j ≤ l.length → l.length - j < m →
    laws_FnBandsAround_l17 L κ v11 v18 v22 v30 v39 v353 i a w1 w2 w3 l m j = κ v11 v18 v22 v30 (wr IntKind.i64 (v39 + (l.length : Int))) v353 ((i : Int) + 1) a w1 w2 w3 := by
  intro m
  induction m with
  | zero => intro j _ h; omega
  | succ m ih =>
    intro j hj hm
    rw [laws_FnBandsAround_l17]
    simp only [ilen_mapep, ilt_eq, ieq_eq, iadd_eq, isub_eq]
    have wi : wr IntKind.i64 ((i : Int) + 1) = (i : Int) + 1 := wr_id (by omega)
    by_cases hl : j < l.length
    · have wj : wr IntKind.i64 ((j : Int) + 1) = ((j + 1 : Nat) : Int) := by rw [wr_id (by omega)]; omega
      have wj' : wr IntKind.i64 ((j : Int) - 1) = (j : Int) - 1 := wr_id (by omega)
      have hln : l ≠ [] := by intro e; subst e; simp at hl
      have hv := layerV (L := L) h hi (pt_mem hln (j : Int)) hL
      have ih' := ih (j + 1) (by omega) (by omega)
      simp only [show (j : Int) < (l.length : Int) by omega, decide_true, cond_true, lget_pt (a := l) (i := (j : Int)) (by omega) (by omega), gbind_eq, Option.bind_some, hv, wi, wj, Bool.not_true, cond_false]
      by_cases h0 : (0 : Int) < (j : Int)
      · have hless : Less (pt l ((j : Int) - 1)) (pt l (j : Int)) := by
          have := List.pairwise_iff_getElem.1 hpw (j - 1) j (by omega) hl (by omega)
          rw [get_pt, get_pt] at this
          rwa [show ((j - 1 : Nat) : Int) = (j : Int) - 1 by omega] at this
        simp only [h0, decide_true, cond_true, wj', lget_pt (a := l) (i := (j : Int) - 1) (by omega) (by omega), Option.bind_some, eLess_eq, hless, Bool.not_true, cond_false]
        exact ih'
      · simp only [h0, decide_false, cond_false]
        exact ih'
    · simp only [show ¬ ((j : Int) < (l.length : Int)) by omega, decide_false, cond_false, wi]
def sumT (r : List (List Pt)) (k : Nat) : Nat := ((r.take k).map List.length).sum
theorem sumT_succ {r : List (List Pt)} {k : Nat} (h : k < r.length) : sumT r (k + 1) = sumT r k + r[k].length := by
  unfold sumT
  rw [List.take_succ_eq_append_getElem h, List.map_append, List.sum_append]
  simp
theorem sumT_all (r : List (List Pt)) : sumT r r.length = (r.map List.length).sum := by unfold sumT; rw [List.take_length]
theorem sumT_le (r : List (List Pt)) (k : Nat) : sumT r k ≤ (r.map List.length).sum := by
  have e : (r.map List.length).sum = sumT r k + ((r.drop k).map List.length).sum := by
    unfold sumT
    conv => lhs; rw [← List.take_append_drop k r]
    rw [List.map_append, List.sum_append]
  omega
theorem ba_l16 {L : Nat} {a : List Pt} {b : List Int} (h : Diff a) (hb : By b) (hL : 100000 < L) : ∀ (m i : Nat), i ≤ (lay a.length a).length → (lay a.length a).length - i < m → ∀ v39 : Int, v39 = (sumT (lay a.length a) i : Int) →
    laws_FnBandsAround_l16 L m b (area (bandL (isort a))) (cnt (bandL (isort a))) ((bandL (isort a)).length : Int) v39 ((lay a.length a).length : Int) i a (bandL (isort a)) (onb a).1 (lay a.length a) = some true := by
  have hi := h.hi
  have hbd := h.band
  have hll := lay_len a.length a
  have hsum := lay_sum a.length a (Nat.le_refl _) (.inr h)
  have hBn := isort_nn h.nn
  intro m
  induction m with
  | zero => intro i _ h; omega
  | succ m ih =>
    intro i hii hm v39 hv
    rw [laws_FnBandsAround_l16]
    simp only [ilt_eq, ile_eq, ilen_elp, ieq_eq, ilen_mapep]
    by_cases hl : i < (lay a.length a).length
    · simp only [show (i : Int) < ((lay a.length a).length : Int) by omega, show (0 : Int) ≤ (i : Int) by omega, decide_true, Bool.and_self, cond_true, lget_nat hl, gbind_eq, Option.bind_some]
      have hm' := List.getElem_mem hl
      have he := lay_each _ _ _ hm'
      have k17 := ba_l17 (L := L) (κ := laws_FnBandsAround_l16 L m) (v11 := b) (v18 := area (bandL (isort a))) (v22 := cnt (bandL (isort a))) (v30 := ((bandL (isort a)).length : Int)) (v39 := v39) (v353 := ((lay a.length a).length : Int)) (w1 := bandL (isort a)) (w2 := (onb a).1) (w3 := lay a.length a) (l := (lay a.length a)[i]) h (List.getElem?_eq_getElem hl) (lay_pw a.length a (Nat.le_refl _) (.inr h) _ hm') (by omega) (by omega) (by omega) L 0 (by omega) (by omega)
      rw [show ((0 : Nat) : Int) = 0 from rfl] at k17
      rw [k17]
      have hs := sumT_succ hl
      have hs2 := sumT_le (lay a.length a) (i + 1)
      have := ih (i + 1) (by omega) (by omega) (wr IntKind.i64 (v39 + ((lay a.length a)[i].length : Int))) (by rw [wr_id (by omega)]; omega)
      rw [show ((i : Nat) : Int) + 1 = ((i + 1 : Nat) : Int) by omega]
      exact this
    · have e : i = (lay a.length a).length := by omega
      have hv2 : v39 = (a.length : Int) := by rw [hv, e, sumT_all, hsum]
      have hpos : 0 < (lay a.length a).length := by
        have := lay_zero h
        rcases Nat.lt_or_ge 0 (lay a.length a).length with k | k
        · exact k
        · rw [List.getElem?_eq_none (by omega)] at this; cases this
      have g0 : lget (lay a.length a) 0 = some (onb a).1 := by
        have := lget_nat (r := lay a.length a) (i := 0) hpos
        have k := lay_zero h
        rw [List.getElem?_eq_getElem hpos] at k
        rw [Option.some.inj k] at this
        exact this
      have hon : (((onb a).1).length : Int) ≤ 1000 := by have := onb_len a; omega
      have j8 := ba_j8 (L := L) hb hL
      simp only [show ¬ ((i : Int) < ((lay a.length a).length : Int)) by omega, decide_false, cond_false, hv2, decide_true, Bool.not_true, show (0 : Int) ≤ 0 by omega, show (0 : Int) < ((lay a.length a).length : Int) by omega, Bool.and_self, cond_true, g0, gbind_eq, Option.bind_some, ePegs_eq (L := L) hon (by omega)]
      by_cases h2 : (2 : Int) < ((bandL (isort a)).length : Int)
      · simp only [h2, decide_true, cond_true]
        by_cases h10 : ((bandL (isort a)).length : Int) ≤ 10
        · have hlp : LP (bandL (isort a)).length (pt (bandL (isort a))) := by
            rcases band_hull h.rise hBn with ⟨c1, c2⟩ | ⟨c1, c2⟩ | ⟨c1, c2⟩
            · rw [c2, c1] at h2; omega
            · omega
            · exact c2.lp
          have g := lp_good hlp hbd.isIn (band_ne h.rise hBn) h10
          have nr : ∀ i, Nr (pt (bandL (isort a)) i) := fun i => (hbd.isIn i).nr
          have ar := (band_area h.rise hBn).1
          have ic := inside_cnt (B := bandL (isort a)) (by omega) nr ar
          have b1 := area_bd (a := bandL (isort a)) (by omega) nr
          have b2 := round_bd (B := bandL (isort a)) (by omega) nr
          have b3 : -300000000 ≤ cnt (bandL (isort a)) ∧ cnt (bandL (isort a)) ≤ 300000000 := by
            have b3 := tdiv_bd (a := area (bandL (isort a)) + round (bandL (isort a))) (b := 2) (A := 250000000) (by omega)
            unfold cnt; omega
          have t1 : impl_TwiceArea L (bandL (isort a)) = some (area (bandL (isort a)), true) := by
            unfold impl_TwiceArea
            rw [impl_IsPolygon_eq (by omega)]
            simp only [g, decide_true, Bool.not_true, cond_false, gbind_eq, Option.bind_some, impl_twice_eq hbd.nn (show ((bandL (isort a)).length : Int) ≤ 1000 by omega) (show ((bandL (isort a)).length : Int) < (L : Int) by omega) nr]
          have t2 : impl_PegsOn L (bandL (isort a)) = some (round (bandL (isort a)), true) := by
            unfold impl_PegsOn
            rw [impl_IsPolygon_eq (by omega)]
            simp only [g, decide_true, Bool.not_true, cond_false, gbind_eq, Option.bind_some, impl_around_eq hbd.nn (show ((bandL (isort a)).length : Int) ≤ 1000 by omega) (show 3000 < L by omega) nr]
          have t3 : impl_PegsInside L (bandL (isort a)) = some (inside (bandL (isort a)), true) := by
            unfold impl_PegsInside
            rw [impl_IsPolygon_eq (by omega)]
            simp only [g, decide_true, Bool.not_true, cond_false, gbind_eq, Option.bind_some, (inner_eq (L := L) (a := bandL (isort a)) (by omega) (by omega) (by omega) nr).2]
          unfold laws_FnBandsAround_j18
          simp only [h10, decide_true, cond_true, t1, t2, t3, Option.bind_some, Bool.not_true, cond_false, ieq_eq, iadd_eq, ic]
          rw [wr_id (n := cnt (bandL (isort a))) (by omega)]
          simp only [decide_true, Bool.not_true, cond_false]
          exact j8
        · simp only [h10, decide_false, cond_false]
          exact j8
      · simp only [h2, decide_false, cond_false]
        exact j8
theorem ba_l15 {L : Nat} {a : List Pt} {b : List Int} (h : Diff a) (hb : By b) (hL : 100000 < L) : ∀ (m i : Nat), i ≤ a.length → a.length - i < m →
    laws_FnBandsAround_l15 L b a (bandL (isort a), true) ((onb a).1, true) (lay a.length a, true) (area (bandL (isort a)), true) (cnt (bandL (isort a)), true) m i = some true := by
  have hi := h.hi
  intro m
  induction m with
  | zero => intro i _ h; omega
  | succ m ih =>
    intro i hii hm
    rw [laws_FnBandsAround_l15]
    simp only [ilt_eq, ile_eq, ilen_elp, iadd_eq, ilen_mapep]
    by_cases hl : i < a.length
    · have wi : wr IntKind.i64 ((i : Int) + 1) = ((i + 1 : Nat) : Int) := by rw [wr_id (by omega)]; omega
      have hm := pt_mem h.nn (i : Int)
      have hv := inV (L := L) h (h.mem hm) (bw_mem h.rise (isort_mem.2 hm)) (by omega)
      simp only [show (i : Int) < (a.length : Int) by omega, show (0 : Int) ≤ (i : Int) by omega, decide_true, Bool.and_self, cond_true, lget_pt (a := a) (i := (i : Int)) (by omega) (by omega), gbind_eq, Option.bind_some, hv, Bool.not_true, cond_false, wi]
      exact ih (i + 1) (by omega) (by omega)
    · simp only [show ¬ ((i : Int) < (a.length : Int)) by omega, decide_false, cond_false]
      exact ba_l16 h hb hL L 0 (by omega) (by have := lay_len a.length a; omega) 0 rfl
theorem ba_l14 {L : Nat} {a : List Pt} {b : List Int} (h : Diff a) (hb : By b) (hL : 100000 < L) : ∀ (m i : Nat), i ≤ (bandL (isort a)).length → (bandL (isort a)).length - i < m →
    laws_FnBandsAround_l14 L b a (bandL (isort a), true) ((onb a).1, true) (lay a.length a, true) (area (bandL (isort a)), true) (cnt (bandL (isort a)), true) m i = some true := by
  have hi := h.hi
  have hbd := h.band
  have hBn := isort_nn h.nn
  have hlen := hbd.len
  have hpos := List.length_pos_iff.2 hbd.nn
  have hon : (((onb a).1).length : Int) ≤ 1000 := by have := onb_len a; omega
  intro m
  induction m with
  | zero => intro i _ h; omega
  | succ m ih =>
    intro i hii hm
    rw [laws_FnBandsAround_l14]
    simp only [ilt_eq, ile_eq, ieq_eq, iadd_eq, ilen_mapep]
    by_cases hl : i < (bandL (isort a)).length
    · have wi : wr IntKind.i64 ((i : Int) + 1) = (i : Int) + 1 := wr_id (by omega)
      have wi2 : wr IntKind.i64 ((i : Int) + 2) = (i : Int) + 2 := wr_id (by omega)
      have hm' := pt_mem hbd.nn (i : Int)
      have hin := hbd.mem _ hm'
      have x1 := eIn_eq (L := L) (a := a) (by omega) hin (by omega)
      have x2 := eIn_eq (L := L) (a := (onb a).1) hon (band_on h hm') (by omega)
      have fl := first_least h.rise hBn (isort_mem.2 hin)
      rw [← band_first hBn] at fl
      have g1 := lget_rem (a := bandL (isort a)) (i := (i : Int) + 1) (by omega) hbd.nn
      have g2 := lget_rem (a := bandL (isort a)) (i := (i : Int) + 2) (by omega) hbd.nn
      have r1 := irem_nn (i := (i : Int) + 1) (n := ((bandL (isort a)).length : Int)) (by omega)
      have r2 := irem_nn (i := (i : Int) + 2) (n := ((bandL (isort a)).length : Int)) (by omega)
      have q1 := Int.emod_nonneg ((i : Int) + 1) (b := ((bandL (isort a)).length : Int)) (by omega)
      have q2 := Int.emod_lt_of_pos ((i : Int) + 1) (b := ((bandL (isort a)).length : Int)) (by omega)
      have q3 := Int.emod_nonneg ((i : Int) + 2) (b := ((bandL (isort a)).length : Int)) (by omega)
      have q4 := Int.emod_lt_of_pos ((i : Int) + 2) (b := ((bandL (isort a)).length : Int)) (by omega)
      have ih' := ih (i + 1) (by omega) (by omega)
      rw [show ((i + 1 : Nat) : Int) = (i : Int) + 1 by omega] at ih'
      simp only [show (i : Int) < ((bandL (isort a)).length : Int) by omega, show (0 : Int) ≤ (i : Int) by omega, decide_true, Bool.and_self, cond_true, lget_pt (a := bandL (isort a)) (i := (i : Int)) (by omega) (by omega), gbind_eq, Option.bind_some, x1, x2, Bool.not_true, cond_false,
        show (0 : Int) ≤ 0 by omega, show (0 : Int) < ((bandL (isort a)).length : Int) by omega, lget_pt (a := bandL (isort a)) (i := 0) (by omega) (by omega), eLess_eq, fl, decide_false, wi, wi2, r1, r2, q1, q2, q3, q4, show ¬ (((bandL (isort a)).length : Int) = 0) by omega]
      by_cases h2 : (2 : Int) < ((bandL (isort a)).length : Int)
      · have lf : 0 < turn (pt (bandL (isort a)) i) (pt (bandL (isort a)) ((i : Int) + 1)) (pt (bandL (isort a)) ((i : Int) + 2)) := by
          rcases band_hull h.rise hBn with ⟨c1, c2⟩ | ⟨c1, c2⟩ | ⟨c1, c2⟩
          · rw [c2, c1] at h2; omega
          · omega
          · exact c2.left i
        have g1' := g1
        have g2' := g2
        rw [r1] at g1'
        rw [r2] at g2'
        simp only [h2, decide_true, cond_true, g1', g2', Option.bind_some, eTurn_eq (L := L) (hbd.isIn _).nr (hbd.isIn _).nr (hbd.isIn _).nr, show ¬ (turn (pt (bandL (isort a)) i) (pt (bandL (isort a)) ((i : Int) + 1)) (pt (bandL (isort a)) ((i : Int) + 2)) ≤ 0) by omega, decide_false, cond_false]
        exact ih'
      · simp only [h2, decide_false, cond_false]
        exact ih'
    · simp only [show ¬ ((i : Int) < ((bandL (isort a)).length : Int)) by omega, decide_false, cond_false]
      exact ba_l15 h hb hL L 0 (by omega) (by omega)
theorem big_eq {L : Nat} {a b : List Int} : ∃ r, laws_big L a b = some r := by
  unfold laws_big
  cases h : ilt 1048576 (ilen (List.map eU a)) <;> simp only [cond_true, cond_false] <;> exact ⟨_, rfl⟩
theorem bandsAround_law (a b : List Int) (ha : By a) (hb : By b) : ∃ L, laws_FnBandsAround L a b = some true := by
  refine ⟨2000000, ?_⟩
  generalize hLL : 2000000 = L
  have hL : 100000 < L := by omega
  unfold laws_FnBandsAround
  obtain ⟨r, hr⟩ := big_eq (L := L) (a := a) (b := b)
  simp only [hr, gbind_eq, Option.bind_some]
  cases r with
  | true => rfl
  | false =>
    obtain ⟨l, e1, hlen⟩ := drawBand (L := L) ha (by omega)
    simp only [cond_false, e1, Option.bind_some]
    by_cases h : Diff l
    · have hi := h.hi
      have hbd := h.band
      have hB := hbd.len
      have hll := lay_len l.length l
      have hon : (((onb l).1).length : Int) ≤ 1000 := by have := onb_len l; omega
      obtain ⟨a1, a2⟩ := bandV (L := L) h (by omega)
      obtain ⟨b1, b2⟩ := pegsV (L := L) h (by omega)
      obtain ⟨c1, c2⟩ := layersV (L := L) h (by omega)
      obtain ⟨d1, d2⟩ := twiceV (L := L) h (by omega)
      obtain ⟨f1, f2⟩ := countV (L := L) h (by omega)
      obtain ⟨g1, g2⟩ := convexV (L := L) h (by omega)
      have s1 : impl_AreDifferent L l = some true := by rw [impl_AreDifferent_eq (by omega)]; simp only [h, decide_true]
      have s2 : spec_AreDifferent L l = some true := by unfold spec_AreDifferent; rw [spec_bdGood_eq (by omega)]; simp only [h, decide_true, gbind_eq, Option.bind_some]
      have p1 := ePegs_eq (L := L) (a := bandL (isort l)) (by omega) (by omega)
      have p2 := ePegs_eq (L := L) (a := (onb l).1) hon (by omega)
      have p3 := eLists_eq (L := L) (r := lay l.length l) (by omega) (fun x hx => by have := lay_each _ _ x hx; omega) (by omega)
      have again : impl_BandOf L (bandL (isort l)) = some (bandL (isort l), true) := by
        have := (bandV (L := L) h.bandDiff (by omega)).1
        rwa [band_again h.rise (isort_nn h.nn) h.bandDiff] at this
      have ar := band_area h.rise (isort_nn h.nn)
      have cg := cnt_ge h.rise (isort_nn h.nn)
      rw [isort_len] at cg
      have hpos := List.length_pos_iff.2 hbd.nn
      simp only [a1, a2, b1, b2, c1, c2, d1, d2, f1, f2, g1, g2, Option.bind_some, beqb_eq, beq_self_eq_true, Bool.not_true, cond_false, p1]
      unfold laws_FnBandsAround_j0 laws_FnBandsAround_j1 laws_FnBandsAround_j2 laws_FnBandsAround_j3 laws_FnBandsAround_j4 laws_FnBandsAround_j5 laws_FnBandsAround_j6 laws_FnBandsAround_j7 laws_FnBandsAround_j12 laws_FnBandsAround_j13
      simp only [cond_false, cond_true, gbind_eq, Option.bind_some, p1, p2, p3, Bool.not_true, ieq_eq, decide_true, beqb_eq, beq_self_eq_true, s1, s2, again, ilen_mapep, ilt_eq, show ¬ (((bandL (isort l)).length : Int) < 1) by omega, decide_false, show ¬ (cnt (bandL (isort l)) < (l.length : Int)) by omega, show ¬ (area (bandL (isort l)) < 0) by omega]
      have e3 : (decide (0 < area (bandL (isort l))) == decide ((2 : Int) < ((bandL (isort l)).length : Int))) = true := by
        rw [beq_iff_eq, decide_eq_decide]; exact ar.2
      simp only [e3, Bool.not_true, cond_false]
      exact ba_l14 h hb hL L 0 (by omega) (by omega)
    · obtain ⟨⟨a1, a2⟩, ⟨b1, b2⟩, ⟨c1, c2⟩, ⟨d1, d2⟩, ⟨f1, f2⟩, ⟨g1, g2⟩⟩ := badV (L := L) h (by omega)
      have s1 : impl_AreDifferent L l = some false := by rw [impl_AreDifferent_eq (by omega)]; simp only [h, decide_false]
      have s2 : spec_AreDifferent L l = some false := by unfold spec_AreDifferent; rw [spec_bdGood_eq (by omega)]; simp only [h, decide_false, gbind_eq, Option.bind_some]
      have p1 := ePegs_eq (L := L) (a := []) (by simp) (by omega)
      have p3 := eLists_eq (L := L) (r := []) (by simp) (fun x hx => by cases hx) (by omega)
      simp only [a1, a2, b1, b2, c1, c2, d1, d2, f1, f2, g1, g2, Option.bind_some, beqb_eq, beq_self_eq_true, Bool.not_true, cond_false, p1]
      unfold laws_FnBandsAround_j0 laws_FnBandsAround_j1 laws_FnBandsAround_j2 laws_FnBandsAround_j3 laws_FnBandsAround_j4 laws_FnBandsAround_j5 laws_FnBandsAround_j6 laws_FnBandsAround_j7
      simp only [cond_false, cond_true, gbind_eq, Option.bind_some, p1, p3, Bool.not_true, ieq_eq, decide_true, beqb_eq, beq_self_eq_true, s1, s2]
      exact ba_j8 hb hL
end Go.AM
