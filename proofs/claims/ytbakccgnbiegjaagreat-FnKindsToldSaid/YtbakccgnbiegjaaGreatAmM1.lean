import Derived.Test.YtbakccgnbiegjaaGreatAmM0
set_option linter.unusedVariables false
set_option linter.unusedSimpArgs false
set_option linter.unnecessarySimpa false
set_option linter.deprecated false
set_option linter.unusedSectionVars false
namespace Go.AM
theorem FR_tour {L : Nat} {q : List Pt} {k s : Int} (hn : q ≠ []) : FR L (tour q k s q.length) 0 1 = FR L q k s := by
  unfold FR
  have hn2 : tour q k s q.length ≠ [] := by intro e; have := congrArg List.length e; rw [tour_len] at this; exact hn (List.eq_nil_of_length_eq_zero (by simpa using this))
  rw [tour_id hn2]
theorem pair_tour {p q : List Pt} {k s : Int} (gp : Good_ p) (gq : Good_ q) (hl : q.length = p.length) (hs : s = 1 ∨ s = -1) : Pair p (tour q k s q.length) := by
  obtain ⟨h1, h2, h3, h4⟩ := vwl gp
  obtain ⟨k1, k2, k3, k4⟩ := vwl gq
  refine ⟨by rw [tour_len, hl], h4, by omega, h1, fun i => by rw [pt_tour' k2]; exact k1 _, ?_⟩
  have := (fa_of gp).turn 0
  simpa using this
theorem cand {L : Nat} {p q : List Pt} {k s : Int} (gp : Good_ p) (gq : Good_ q) (hl : q.length = p.length) (hs : s = 1 ∨ s = -1) (hL : 6000 < L) :
    (∃ α β γ δ u v, Img p (tour q k s q.length) α β γ δ u v ∧ FR L q k s = FR L p 0 1 ∧ impl_between L p (tour q k s q.length) = some (α, β, γ, δ, u, v) ∧ spec_mvTo L p (tour q k s q.length) = some (α, β, γ, δ, u, v, true) ∧ Wi u ∧ Wi v) ∨
    (FR L q k s ≠ FR L p 0 1 ∧ spec_mvTo L p (tour q k s q.length) = some no7) := by
  have hp := fa_of gp
  have hq := fa_of gq
  have pr := pair_tour (k := k) gp gq hl hs
  have ht := hq.tour (k := k) hs
  by_cases h : ∃ α β γ δ u v, Img p (tour q k s q.length) α β γ δ u v
  · obtain ⟨α, β, γ, δ, u, v, hi⟩ := h
    obtain ⟨b1, b2, b3⟩ := between_eq (L := L) pr hi
    exact .inl ⟨α, β, γ, δ, u, v, hi, by rw [← FR_tour hq.ne]; exact (frames_of_img pr.len hp ht (by omega) hi).symm, b1, mvTo_yes pr hi (by omega), b2, b3⟩
  · refine .inr ⟨fun e => h (img_of_frames (L := L) pr.len hp ht (by omega) (by rw [FR_tour hq.ne, e])), mvTo_no pr h (by omega)⟩
abbrev M7 := Int × Int × Int × Int × Int × Int × Bool
def MvR (p q : List Pt) (r : M7) : Prop := r.2.2.2.2.2.2 = true → ∃ k s α β γ δ u v, (s = 1 ∨ s = -1) ∧ Img p (tour q k s q.length) α β γ δ u v ∧ MvG α β γ δ u v ∧ r = (α, β, γ, δ, u, v, true)
theorem mvR_mv7 {p q : List Pt} {k s α β γ δ u v : Int} (hs : s = 1 ∨ s = -1) (h : Img p (tour q k s q.length) α β γ δ u v) : MvR p q (mv7 α β γ δ u v) := fun hf => by
  obtain ⟨m, e⟩ := mv7_some hf
  exact ⟨k, s, α, β, γ, δ, u, v, hs, h, m, e⟩
theorem moveB_l0 {L : Nat} {p q : List Pt} {b0 b1 b2 b3 b4 b5 c0 c1 c2 c3 c4 c5 : Int} (gp : Good_ p) (gq : Good_ q) (hl : q.length = p.length) (hL : 6000 < L) : ∀ (m k : Nat), k ≤ q.length → q.length - k < m →
    ∃ r, impl_MoveBetween_l0 L m p q (q.length : Int) (k : Int) b0 b1 b2 b3 b4 b5 (FR L p 0 1) = some r ∧ spec_MoveBetween_l0 L m p q (q.length : Int) (k : Int) c0 c1 c2 c3 c4 c5 = some r ∧ MvR p q r := by
  obtain ⟨h1, h2, h3, h4⟩ := vwl gp
  obtain ⟨k1, k2, k3, k4⟩ := vwl gq
  have hq := fa_of gq
  intro m
  induction m with
  | zero => intro k _ h; omega
  | succ m ih =>
    intro k hk hm
    rw [impl_MoveBetween_l0, spec_MoveBetween_l0]
    by_cases h : (k : Int) < (q.length : Int)
    · have wk : wr IntKind.i64 (iadd (k : Int) 1) = ((k + 1 : Nat) : Int) := by rw [iadd_eq, wr_s (by omega)]; omega
      obtain ⟨r, r1, r2, r3⟩ := ih (k + 1) (by omega) (by omega)
      have hl2 : ∀ x y : AV, ilen [x, y] = 2 := fun _ _ => by rw [ilen_eq]; rfl
      have t1 := impl_told_eq (L := L) (a := q) (k := (k : Int)) (s := 1) k2 (by omega) (by omega) (by omega) (by omega)
      have t2 := impl_told_eq (L := L) (a := q) (k := (k : Int)) (s := -1) k2 (by omega) (by omega) (by omega) (by omega)
      obtain ⟨_, f1, l1, _⟩ := FR_eq (L := L) hq (k := (k : Int)) (s := 1) (.inl rfl) (by omega)
      obtain ⟨_, f2, l2, _⟩ := FR_eq (L := L) hq (k := (k : Int)) (s := -1) (.inr rfl) (by omega)
      have e1 := equal_any (L := L) (a := FR L q (k : Int) 1) (b := FR L p 0 1) (by omega) (by omega)
      have e2 := equal_any (L := L) (a := FR L q (k : Int) (-1)) (b := FR L p 0 1) (by omega) (by omega)
      have i0 : lget ((1 : Int) :: (-1 :: [])) 0 = some 1 := by rw [lget_eq]; rfl
      have i1 : lget ((1 : Int) :: (-1 :: [])) 1 = some (-1) := by rw [lget_eq]; rfl
      have w01 : wr IntKind.i64 (iadd 0 1) = 1 := by simp only [iadd_eq]; exact wr_id (by omega)
      have w12 : wr IntKind.i64 (iadd 1 1) = 2 := by simp only [iadd_eq]; exact wr_id (by omega)
      have cc : lcat (lcat [] (lsub q (k : Int) (q.length : Int))) (lsub q 0 (k : Int)) = tour q (k : Int) 1 q.length := by
        rw [← rot_eq (c := q) (k := (k : Int)) (by omega) (by omega)]
        simp only [lcat_eq, lsub_eq, List.nil_append, Int.toNat_natCast]
        rw [List.take_of_length_le (by simp)]
        simp
      have f3 : fits (iadd (ilen ([] : List AV)) (ilen (lsub (List.map ep q) (k : Int) (q.length : Int)))) 16 = true := by
        refine fits_s ?_
        simp only [iadd_eq, ilen_eq, lsub_eq, List.length_take, List.length_drop, List.length_map, List.length_nil]
        omega
      have f4 : fits (iadd (ilen (lcat [] (lsub (List.map ep q) (k : Int) (q.length : Int)))) (ilen (lsub (List.map ep q) 0 (k : Int)))) 16 = true := by
        refine fits_s ?_
        simp only [iadd_eq, ilen_eq, lcat_eq, lsub_eq, List.length_append, List.length_take, List.length_drop, List.length_map, List.length_nil]
        omega
      have tn : tour q (k : Int) 1 q.length ≠ [] := (hq.tour (k := (k : Int)) (.inl rfl)).ne
      have bk : spec_pgBack L (tour q (k : Int) 1 q.length) = some (tour q (k : Int) (-1) q.length) := by
        rw [spec_pgBack_eq tn (by rw [tour_len]; omega) (by rw [tour_len]; omega), tour_len, tour_tours k2]
        simp
      have g0 : lget (tour q (k : Int) 1 q.length :: (tour q (k : Int) (-1) q.length :: [])) 0 = some (tour q (k : Int) 1 q.length) := by rw [lget_eq]; rfl
      have g1 : lget (tour q (k : Int) 1 q.length :: (tour q (k : Int) (-1) q.length :: [])) 1 = some (tour q (k : Int) (-1) q.length) := by rw [lget_eq]; rfl
      simp only [ilt_eq, ile_eq, ilen_mapep, h, decide_true, cond_true, show (0 : Int) ≤ (k : Int) by omega, show (k : Int) ≤ (q.length : Int) by omega, Bool.and_self, f3, f4, cc, bk, gbind_eq, Option.bind_some]
      obtain ⟨n, hn⟩ : ∃ n, L = n + 3 := ⟨L - 3, by omega⟩
      have I2 : ∀ n, impl_MoveBetween_l1 L (impl_MoveBetween_l0 L m) p q (q.length : Int) (k : Int) b0 b1 b2 b3 b4 b5 (FR L p 0 1) (n + 1) 2 = some r := fun n => by
        rw [impl_MoveBetween_l1]
        simp only [hl2, ilt_eq, Int.lt_irrefl, decide_false, cond_false, wk]
        exact r1
      have S2 : ∀ n, spec_MoveBetween_l1 L (spec_MoveBetween_l0 L m) p q (q.length : Int) (k : Int) c0 c1 c2 c3 c4 c5 (tour q (k : Int) (-1) q.length) (n + 1) 2 = some r := fun n => by
        rw [spec_MoveBetween_l1]
        simp only [hl2, ilt_eq, Int.lt_irrefl, decide_false, cond_false, wk]
        exact r2
      have R1 : ∃ r', (∀ n, impl_MoveBetween_l1 L (impl_MoveBetween_l0 L m) p q (q.length : Int) (k : Int) b0 b1 b2 b3 b4 b5 (FR L p 0 1) (n + 2) 1 = some r') ∧
          (∀ n, spec_MoveBetween_l1 L (spec_MoveBetween_l0 L m) p q (q.length : Int) (k : Int) c0 c1 c2 c3 c4 c5 (tour q (k : Int) (-1) q.length) (n + 2) 1 = some r') ∧ MvR p q r' := by
        rcases cand (k := (k : Int)) (s := -1) gp gq hl (.inr rfl) hL with ⟨α, β, γ, δ, u, v, hi, ef, hb, hm', wu, wv⟩ | ⟨ef, hm'⟩
        · obtain ⟨ch1, ch2⟩ := checked_eq (L := L) (A := α) (B := β) (C := γ) (D := δ) wu wv (by omega)
          refine ⟨mv7 α β γ δ u v, fun n => ?_, fun n => ?_, mvR_mv7 (.inr rfl) hi⟩
          · have E : slices_Equal_impl_Peg_impl_Peg L (FR L q (k : Int) (-1)) (FR L p 0 1) = some true := by rw [e2, ef]; simp
            rw [impl_MoveBetween_l1]
            simp only [hl2, ilt_eq, ile_eq, show (1 : Int) < 2 by omega, show (0 : Int) ≤ 1 by omega, decide_true, Bool.and_self, cond_true, gbind_eq, i1, Option.bind_some, t2, f2, E, hb, ch2]
          · rw [spec_MoveBetween_l1]
            simp only [hl2, ilt_eq, ile_eq, ilen_mapep, cc, show (1 : Int) < 2 by omega, show (0 : Int) ≤ 1 by omega, decide_true, Bool.and_self, cond_true, gbind_eq, g1, Option.bind_some, hm', ch1]
        · refine ⟨r, fun n => ?_, fun n => ?_, r3⟩
          · rw [impl_MoveBetween_l1]
            simp only [hl2, ilt_eq, ile_eq, show (1 : Int) < 2 by omega, show (0 : Int) ≤ 1 by omega, decide_true, Bool.and_self, cond_true, gbind_eq, i1, Option.bind_some, t2, f2, e2, ef, decide_false, cond_false, w12]
            exact I2 n
          · rw [spec_MoveBetween_l1]
            simp only [hl2, ilt_eq, ile_eq, ilen_mapep, cc, show (1 : Int) < 2 by omega, show (0 : Int) ≤ 1 by omega, decide_true, Bool.and_self, cond_true, gbind_eq, g1, Option.bind_some, hm', no7, cond_false, w12]
            exact S2 n
      obtain ⟨r', q1, q2, q3⟩ := R1
      have R0 : ∃ r', (∀ n, impl_MoveBetween_l1 L (impl_MoveBetween_l0 L m) p q (q.length : Int) (k : Int) b0 b1 b2 b3 b4 b5 (FR L p 0 1) (n + 3) 0 = some r') ∧
          (∀ n, spec_MoveBetween_l1 L (spec_MoveBetween_l0 L m) p q (q.length : Int) (k : Int) c0 c1 c2 c3 c4 c5 (tour q (k : Int) (-1) q.length) (n + 3) 0 = some r') ∧ MvR p q r' := by
        rcases cand (k := (k : Int)) (s := 1) gp gq hl (.inl rfl) hL with ⟨α, β, γ, δ, u, v, hi, ef, hb, hm', wu, wv⟩ | ⟨ef, hm'⟩
        · obtain ⟨ch1, ch2⟩ := checked_eq (L := L) (A := α) (B := β) (C := γ) (D := δ) wu wv (by omega)
          refine ⟨mv7 α β γ δ u v, fun n => ?_, fun n => ?_, mvR_mv7 (.inl rfl) hi⟩
          · have E : slices_Equal_impl_Peg_impl_Peg L (FR L q (k : Int) 1) (FR L p 0 1) = some true := by rw [e1, ef]; simp
            rw [impl_MoveBetween_l1]
            simp only [hl2, ilt_eq, ile_eq, show (0 : Int) < 2 by omega, Int.le_refl, decide_true, Bool.and_self, cond_true, gbind_eq, i0, Option.bind_some, t1, f1, E, hb, ch2]
          · rw [spec_MoveBetween_l1]
            simp only [hl2, ilt_eq, ile_eq, ilen_mapep, cc, show (0 : Int) < 2 by omega, Int.le_refl, decide_true, Bool.and_self, cond_true, gbind_eq, g0, Option.bind_some, hm', ch1]
        · refine ⟨r', fun n => ?_, fun n => ?_, q3⟩
          · rw [impl_MoveBetween_l1]
            simp only [hl2, ilt_eq, ile_eq, show (0 : Int) < 2 by omega, Int.le_refl, decide_true, Bool.and_self, cond_true, gbind_eq, i0, Option.bind_some, t1, f1, e1, ef, decide_false, cond_false, w01]
            exact q1 n
          · rw [spec_MoveBetween_l1]
            simp only [hl2, ilt_eq, ile_eq, ilen_mapep, cc, show (0 : Int) < 2 by omega, Int.le_refl, decide_true, Bool.and_self, cond_true, gbind_eq, g0, Option.bind_some, hm', no7, cond_false, w01]
            exact q2 n
      obtain ⟨r'', z1, z2, z3⟩ := R0
      have z1' := z1 n
      have z2' := z2 n
      rw [← hn] at z1' z2'
      exact ⟨r'', z1', z2', z3⟩
    · simp only [ilt_eq, h, decide_false, cond_false]
      exact ⟨_, rfl, rfl, fun hf => by cases hf⟩
theorem moveBetween_eq {L : Nat} {p q : List Pt} (hL : 6000 < L) : ∃ r, impl_MoveBetween L p q = some r ∧ spec_MoveBetween L p q = some r ∧ (r.2.2.2.2.2.2 = true → (Good_ p ∧ Good_ q ∧ q.length = p.length) ∧ MvR p q r) := by
  unfold impl_MoveBetween spec_MoveBetween
  rw [impl_IsPolygon_eq (by omega), impl_IsPolygon_eq (by omega), spec_pgGood_eq (by omega), spec_pgGood_eq (by omega)]
  by_cases gp : Good_ p
  · by_cases gq : Good_ q
    · by_cases hl : (p.length : Int) = (q.length : Int)
      · have hp := fa_of gp
        obtain ⟨_, f1, _, _⟩ := FR_eq (L := L) hp (k := 0) (s := 1) (.inl rfl) (by omega)
        rw [tour_id hp.ne] at f1
        obtain ⟨r, r1, r2, r3⟩ := moveB_l0 (L := L) (b0 := 0) (b1 := 0) (b2 := 0) (b3 := 0) (b4 := 0) (b5 := 0) (c0 := 0) (c1 := 0) (c2 := 0) (c3 := 0) (c4 := 0) (c5 := 0) gp gq (by omega) hL L 0 (by omega) (by have := gq.hi; omega)
        have r1' : impl_MoveBetween_l0 L L p q (q.length : Int) 0 0 0 0 0 0 0 (FR L p 0 1) = some r := r1
        have r2' : spec_MoveBetween_l0 L L p q (q.length : Int) 0 0 0 0 0 0 0 = some r := r2
        simp only [gp, gq, ilen_mapep, hl, ieq_eq, decide_true, Bool.not_true, cond_false, gbind_eq, Option.bind_some, f1, r1', r2']
        exact ⟨r, rfl, rfl, fun _ => ⟨⟨trivial, trivial, by omega⟩, r3⟩⟩
      · simp only [gp, gq, ilen_mapep, hl, ieq_eq, decide_true, decide_false, Bool.not_true, Bool.not_false, cond_false, cond_true, gbind_eq, Option.bind_some]
        exact ⟨_, rfl, rfl, fun hf => by cases hf⟩
    · simp only [gp, gq, decide_true, decide_false, Bool.not_true, Bool.not_false, cond_false, cond_true, gbind_eq, Option.bind_some]
      exact ⟨_, rfl, rfl, fun hf => by cases hf⟩
  · simp only [gp, decide_false, Bool.not_false, cond_true, gbind_eq, Option.bind_some]
    exact ⟨_, rfl, rfl, fun hf => by cases hf⟩
end Go.AM
namespace Go.AM
theorem it_get {a : List Int} {i : Nat} (h : i < a.length) : it a (i : Int) = a[i] := by
  have h1 := lget_it (a := a) (i := (i : Int)) (by omega) (by omega)
  rw [lget_eq, if_pos (by omega), Int.toNat_natCast, List.getElem?_eq_getElem h] at h1
  exact (Option.some.inj h1).symm
theorem list_ext_it {a b : List Int} (hl : a.length = b.length) (h : ∀ i : Int, 0 ≤ i → i < (a.length : Int) → it a i = it b i) : a = b := by
  refine List.ext_getElem hl fun i h1 h2 => ?_
  have := h i (by omega) (by omega)
  rwa [it_get h1, it_get h2] at this
theorem sameI_l0 {L : Nat} {a b : List Int} (hab : a.length = b.length) (hs : (a.length : Int) ≤ 1000000) : ∀ (m : Nat) (v : Int), 0 ≤ v → v ≤ a.length → (a.length : Int) - v < m →
    ∃ t, spec_l1Same_l0 L a b m v = some t ∧ slices_Equal_int_int_l0 L a b m v = some t ∧ laws_zSame_l0 L a b m v = some t ∧ (t = true ↔ ∀ i, v ≤ i → i < (a.length : Int) → it a i = it b i)
  | 0, _, _, _, h => by omega
  | m + 1, v, h0, hv, hm => by
    by_cases h : v < (a.length : Int)
    · obtain ⟨t, q1, q2, q3, q4⟩ := sameI_l0 (L := L) hab hs m (v + 1) (by omega) (by omega) (by omega)
      have hb : v < (b.length : Int) := by omega
      simp only [slices_Equal_int_int_l0, spec_l1Same_l0, laws_zSame_l0, ilt_eq, ilen_mapI, h, decide_true, cond_true, gbind_eq, lget_it h0 h, lget_it h0 hb, Option.bind_some, ieq_eq, iadd_eq, wr_id (n := v + 1) (by omega)]
      by_cases e : it a v = it b v
      · simp only [e, decide_true, Bool.not_true, cond_false]
        refine ⟨t, q1, q2, q3, q4.trans ⟨fun ht i i0 i1 => ?_, fun ht i i0 i1 => ht i (by omega) i1⟩⟩
        by_cases hi : i = v
        · subst hi; exact e
        · exact ht i (by omega) i1
      · simp only [e, decide_false, Bool.not_false, cond_true]
        exact ⟨false, rfl, rfl, rfl, by simp; exact ⟨v, Int.le_refl _, h, e⟩⟩
    · simp only [slices_Equal_int_int_l0, spec_l1Same_l0, laws_zSame_l0, ilt_eq, ilen_mapI, h, decide_false, cond_false]
      exact ⟨true, rfl, rfl, rfl, by simp; intro i i0 i1; omega⟩
theorem sameI {L : Nat} {a b : List Int} (hs : (a.length : Int) ≤ 1000000) (hL : (a.length : Int) < L) :
    spec_l1Same L a b = some (decide (a = b)) ∧ slices_Equal_int_int L a b = some (decide (a = b)) ∧ laws_zSame L a b = some (decide (a = b)) := by
  unfold spec_l1Same slices_Equal_int_int laws_zSame
  simp only [ieq_eq, ilen_mapI]
  by_cases h : (a.length : Int) = (b.length : Int)
  · obtain ⟨t, q1, q2, q3, q4⟩ := sameI_l0 (L := L) (a := a) (b := b) (by omega) hs L 0 (by omega) (by omega) (by omega)
    have e : t = decide (a = b) := by
      by_cases k : a = b
      · rw [q4.2 fun i _ _ => by rw [k]]; simp [k]
      · cases t with
        | false => simp [k]
        | true => exact absurd (list_ext_it (by omega) fun i i0 i1 => q4.1 rfl i i0 i1) k
    subst e
    simp only [h, decide_true, Bool.not_true, cond_false, q1, q2, q3, and_self]
  · have k : a ≠ b := by intro k; subst k; exact h rfl
    simp only [h, decide_false, Bool.not_false, cond_true, k, and_self]
theorem ilen_mapLI (a : List (List Int)) : ilen (List.map eLI a) = (a.length : Int) := by rw [ilen_map, ilen_eq]
theorem zRows_l0 {L : Nat} {a : List (List Int)} (hs : (a.length : Int) ≤ 100000) (hr : ∀ x ∈ a, (x.length : Int) ≤ 100) (hL : 200 < L) : ∀ (m i : Nat), i ≤ a.length → a.length - i < m → laws_zRows_l0 L a a m i = some true := by
  intro m
  induction m with
  | zero => intro i _ h; omega
  | succ m ih =>
    intro i hi hm
    rw [laws_zRows_l0]
    by_cases h : (i : Int) < (a.length : Int)
    · have hlt : i < a.length := by omega
      have wi : wr IntKind.i64 (iadd (i : Int) 1) = ((i + 1 : Nat) : Int) := by rw [iadd_eq, wr_s (by omega)]; omega
      have hg : lget a (i : Int) = some a[i] := by rw [lget_eq, if_pos (by omega), Int.toNat_natCast, List.getElem?_eq_getElem hlt]
      have hx := hr a[i] (List.getElem_mem hlt)
      simp only [ilen_mapLI, ilt_eq, h, decide_true, cond_true, hg, gbind_eq, Option.bind_some, (sameI (L := L) (a := a[i]) (b := a[i]) (by omega) (by omega)).2.2, Bool.not_true, cond_false, wi]
      exact ih (i + 1) (by omega) (by omega)
    · simp only [ilen_mapLI, ilt_eq, h, decide_false, cond_false]
theorem zRows_eq {L : Nat} {a : List (List Int)} (hs : (a.length : Int) ≤ 100000) (hr : ∀ x ∈ a, (x.length : Int) ≤ 100) (hL : 200 < L) (hL2 : (a.length : Int) < L) : laws_zRows L a a = some true := by
  unfold laws_zRows
  simp only [ieq_eq, decide_true, Bool.not_true, cond_false]
  exact zRows_l0 hs hr hL L 0 (by omega) (by omega)
theorem kind_step {L : Nat} {a b d : Int} (ha : 0 < a ∧ a ≤ 1000) (hb : 0 ≤ b ∧ b < d) (hd : d ≤ 1000) (hL : 5000 < L) :
    ∃ x y z, spec_mvList L (tri3 a b d) = some [x, y, z] ∧ impl_kindOf L (tri3 a b d) = some [x, y, z] ∧ ([x, y, z] = [a, b, d] ↔ IsK L a b d) := by
  have fa := fa_tri ha hb hd
  obtain ⟨f, _, h⟩ := mvKind_eq (L := L) fa hL
  obtain ⟨x, y, z, rfl, _⟩ := kind_three rfl fa hL h
  obtain ⟨k1, k2⟩ := kindOf_fa fa hL h
  refine ⟨x, y, z, k1, k2, ?_⟩
  constructor
  · intro e
    simp only [List.cons.injEq, and_true] at e
    obtain ⟨rfl, rfl, rfl⟩ := e
    exact h
  · intro k
    obtain ⟨rfl, rfl, rfl⟩ := tri3_inj (h.eq fa hL k)
    rfl
open Classical in
noncomputable def kRow (L : Nat) (a d : Int) (k : Nat) : List (List Int) := ((List.range k).filter fun (b : Nat) => decide (IsK L a (b : Int) d)).map fun (b : Nat) => [a, (b : Int), d]
theorem kRow_yes {L : Nat} {a d : Int} {k : Nat} (h : IsK L a (k : Int) d) : kRow L a d (k + 1) = kRow L a d k ++ [[a, (k : Int), d]] := by
  unfold kRow
  rw [List.range_succ, List.filter_append, List.map_append]
  simp [h]
theorem kRow_no {L : Nat} {a d : Int} {k : Nat} (h : ¬ IsK L a (k : Int) d) : kRow L a d (k + 1) = kRow L a d k := by
  unfold kRow
  rw [List.range_succ, List.filter_append, List.map_append]
  simp [h]
theorem kRow_len (L : Nat) (a d : Int) (k : Nat) : (kRow L a d k).length ≤ k := by
  unfold kRow
  rw [List.length_map]
  exact Nat.le_trans (List.length_filter_le _ _) (by simp)
theorem kRow_mem {L : Nat} {a d : Int} {k : Nat} {x : List Int} : x ∈ kRow L a d k ↔ ∃ b : Nat, b < k ∧ IsK L a (b : Int) d ∧ x = [a, (b : Int), d] := by
  unfold kRow
  simp only [List.mem_map, List.mem_filter, List.mem_range, decide_eq_true_iff]
  constructor
  · rintro ⟨b, ⟨h1, h2⟩, rfl⟩; exact ⟨b, h1, h2, rfl⟩
  · rintro ⟨b, h1, h2, rfl⟩; exact ⟨b, ⟨h1, h2⟩, rfl⟩
noncomputable def kAll (L : Nat) (n : Int) : Nat → List (List Int)
  | 0 => []
  | j + 1 => kAll L n j ++ (if n.tmod ((j + 1 : Nat) : Int) = 0 then kRow L ((j + 1 : Nat) : Int) (n.tdiv ((j + 1 : Nat) : Int)) (n.tdiv ((j + 1 : Nat) : Int)).toNat else [])
theorem tdiv_of {n a : Int} (hn : 1 ≤ n) (ha : 1 ≤ a) (h : n.tmod a = 0) : a * n.tdiv a = n ∧ 1 ≤ n.tdiv a ∧ n.tdiv a ≤ n := by
  have hd := Int.dvd_of_tmod_eq_zero h
  have e := Int.mul_tdiv_cancel' hd
  have q1 : 1 ≤ n.tdiv a := by
    rcases Int.lt_or_le (n.tdiv a) 1 with k | k
    · have := Int.mul_nonpos_of_nonneg_of_nonpos (show 0 ≤ a by omega) (show n.tdiv a ≤ 0 by omega)
      omega
    · exact k
  refine ⟨e, q1, ?_⟩
  have := Int.mul_le_mul_of_nonneg_right ha (show 0 ≤ n.tdiv a by omega)
  omega
theorem kAll_len {L : Nat} {n : Int} (hn : 1 ≤ n ∧ n ≤ 60) : ∀ j : Nat, (kAll L n j).length ≤ 60 * j
  | 0 => by simp [kAll]
  | j + 1 => by
    have ih := kAll_len (L := L) hn j
    rw [kAll, List.length_append]
    split
    · rename_i h
      obtain ⟨_, q1, q2⟩ := tdiv_of hn.1 (show (1 : Int) ≤ ((j + 1 : Nat) : Int) by omega) h
      have := kRow_len L ((j + 1 : Nat) : Int) (n.tdiv ((j + 1 : Nat) : Int)) (n.tdiv ((j + 1 : Nat) : Int)).toNat
      omega
    · simp; omega
theorem kAll_mem {L : Nat} {n : Int} (hn : 1 ≤ n) : ∀ {j : Nat} {x : List Int}, x ∈ kAll L n j → ∃ a b d : Int, x = [a, b, d] ∧ (1 ≤ a ∧ a ≤ j) ∧ (0 ≤ b ∧ b < d) ∧ a * d = n ∧ IsK L a b d
  | 0, x, h => by simp [kAll] at h
  | j + 1, x, h => by
    rw [kAll, List.mem_append] at h
    rcases h with h | h
    · obtain ⟨a, b, d, h1, h2, h3, h4, h5⟩ := kAll_mem hn h
      exact ⟨a, b, d, h1, by omega, h3, h4, h5⟩
    · split at h
      · rename_i hm
        obtain ⟨e, q1, q2⟩ := tdiv_of hn (show (1 : Int) ≤ ((j + 1 : Nat) : Int) by omega) hm
        obtain ⟨b, h1, h2, rfl⟩ := kRow_mem.1 h
        exact ⟨_, _, _, rfl, by omega, by omega, e, h2⟩
      · simp at h
theorem kAll_has {L : Nat} {n a b d : Int} (hn : 1 ≤ n) (ha : 1 ≤ a) (hb : 0 ≤ b ∧ b < d) (e : a * d = n) (k : IsK L a b d) : ∀ j : Nat, a ≤ j → [a, b, d] ∈ kAll L n j
  | 0, h => by omega
  | j + 1, h => by
    rw [kAll, List.mem_append]
    by_cases hj : a ≤ j
    · exact .inl (kAll_has hn ha hb e k j hj)
    · right
      have ea : a = ((j + 1 : Nat) : Int) := by omega
      have hz : a ≠ 0 := by omega
      have e' : n = d * a := by rw [← e, Int.mul_comm]
      rw [← ea, e', Int.mul_tmod_left, if_pos rfl, Int.mul_tdiv_cancel _ hz]
      exact kRow_mem.2 ⟨b.toNat, by omega, by rw [Int.toNat_of_nonneg hb.1]; exact k, by rw [Int.toNat_of_nonneg hb.1]⟩
def LexL (x y : List Int) : Prop := it x 0 < it y 0 ∨ it x 0 = it y 0 ∧ it x 1 < it y 1
theorem kRow_sorted (L : Nat) (a d : Int) : ∀ k : Nat, (kRow L a d k).Pairwise LexL
  | 0 => by unfold kRow; simp
  | k + 1 => by
    have ih := kRow_sorted L a d k
    by_cases h : IsK L a (k : Int) d
    · rw [kRow_yes h, List.pairwise_append]
      refine ⟨ih, by simp, fun x hx y hy => ?_⟩
      obtain ⟨b, b1, _, rfl⟩ := kRow_mem.1 hx
      simp only [List.mem_singleton] at hy
      subst hy
      refine .inr ⟨rfl, ?_⟩
      show (b : Int) < (k : Int)
      omega
    · rw [kRow_no h]; exact ih
theorem kAll_sorted {L : Nat} {n : Int} (hn : 1 ≤ n) : ∀ j : Nat, (kAll L n j).Pairwise LexL
  | 0 => by simp [kAll]
  | j + 1 => by
    rw [kAll, List.pairwise_append]
    refine ⟨kAll_sorted hn j, ?_, fun x hx y hy => ?_⟩
    · split
      · exact kRow_sorted _ _ _ _
      · simp
    · obtain ⟨a, b, d, rfl, h2, _⟩ := kAll_mem hn hx
      split at hy
      · obtain ⟨b', _, _, rfl⟩ := kRow_mem.1 hy
        refine .inl ?_
        show a < ((j + 1 : Nat) : Int)
        omega
      · simp at hy
theorem spec_kinds_l1 {L : Nat} {κ0 : Int → Int → List (List Int) → Option (List (List Int))} {n a d : Int} {w : List (List Int)} (hn : 1 ≤ n ∧ n ≤ 60) (ha : 1 ≤ a ∧ a ≤ 60) (hm : n.tmod a = 0) (hd : n.tdiv a = d) (hw : w.length ≤ 10000) (hL : 6000 < L) :
    ∀ (m b : Nat), (b : Int) ≤ d → d - b < m → spec_mvKinds_l1 L κ0 n a m (b : Int) (w ++ kRow L a d b) = κ0 n (a + 1) (w ++ kRow L a d d.toNat) := by
  obtain ⟨e, d1, d2⟩ := tdiv_of hn.1 ha.1 hm
  rw [hd] at e d1 d2
  have wq : wr IntKind.i64 (iquo n a) = d := by rw [iquo_eq, hd, wr_id (by omega)]
  have wa : wr IntKind.i64 (iadd a 1) = a + 1 := by rw [iadd_eq, wr_id (by omega)]
  intro m
  induction m with
  | zero => intro b _ h; omega
  | succ m ih =>
    intro b hb hm'
    rw [spec_mvKinds_l1]
    simp only [wq, wa]
    by_cases h : (b : Int) < d
    · obtain ⟨x, y, z, k1, k2, k3⟩ := kind_step (L := L) (a := a) (b := (b : Int)) (d := d) (by omega) (by omega) (by omega) (by omega)
      have wb : wr IntKind.i64 (iadd (b : Int) 1) = ((b + 1 : Nat) : Int) := by rw [iadd_eq, wr_s (by omega)]; omega
      have mm : spec_mvMade L a (b : Int) d = some (tri3 a (b : Int) d) := rfl
      have sm := (sameI (L := L) (a := [x, y, z]) (b := [a, (b : Int), d]) (by simp) (by simp; omega)).1
      have hlen := kRow_len L a d b
      simp only [ilt_eq, h, decide_true, cond_true, gbind_eq, mm, Option.bind_some, k1, sm, wb]
      by_cases hk : IsK L a (b : Int) d
      · have ff : fits (iadd (ilen (List.map eLI (w ++ kRow L a d b))) (ilen [AV.lst false false 1 [AV.int IntKind.i64 a, AV.int IntKind.i64 (b : Int), AV.int IntKind.i64 d]])) 24 = true := by
          refine fits_s ?_
          simp only [iadd_eq, ilen_eq, List.length_map, List.length_append, List.length_cons, List.length_nil]
          omega
        simp only [k3.2 hk, decide_true, cond_true, ff, lcat_eq, List.append_assoc]
        rw [← kRow_yes hk]
        exact ih (b + 1) (by omega) (by omega)
      · have : ¬ ([x, y, z] = [a, (b : Int), d]) := fun q => hk (k3.1 q)
        simp only [this, decide_false, cond_false]
        rw [← kRow_no hk]
        exact ih (b + 1) (by omega) (by omega)
    · have hbd : d.toNat = b := by omega
      simp only [ilt_eq, h, decide_false, cond_false, hbd]
theorem spec_kinds_l0 {L : Nat} {n : Int} (hn : 1 ≤ n ∧ n ≤ 60) (hL : 6000 < L) : ∀ (m j : Nat), (j : Int) ≤ n → n - j < m → spec_mvKinds_l0 L m n ((j + 1 : Nat) : Int) (kAll L n j) = some (kAll L n n.toNat) := by
  intro m
  induction m with
  | zero => intro j _ h; omega
  | succ m ih =>
    intro j hj hm
    rw [spec_mvKinds_l0]
    by_cases h : ((j + 1 : Nat) : Int) ≤ n
    · have hz : ¬ ((j + 1 : Nat) : Int) = 0 := by omega
      have wa : wr IntKind.i64 (iadd ((j + 1 : Nat) : Int) 1) = ((j + 1 + 1 : Nat) : Int) := by rw [iadd_eq, wr_id (by omega)]; omega
      have hlen := kAll_len (L := L) hn j
      simp only [ile_eq, h, decide_true, cond_true, ieq_eq, hz, decide_false, cond_false, irem_eq, wa]
      have nxt := ih (j + 1) (by omega) (by omega)
      by_cases hm' : n.tmod ((j + 1 : Nat) : Int) = 0
      · simp only [hm', decide_true, Bool.not_true, cond_false]
        obtain ⟨_, d1, d2⟩ := tdiv_of hn.1 (show (1 : Int) ≤ ((j + 1 : Nat) : Int) by omega) hm'
        have row := spec_kinds_l1 (L := L) (κ0 := spec_mvKinds_l0 L m) (w := kAll L n j) hn (show (1 : Int) ≤ ((j + 1 : Nat) : Int) ∧ ((j + 1 : Nat) : Int) ≤ 60 by omega) hm' rfl (by omega) hL L 0 (by omega) (by omega)
        have row' : spec_mvKinds_l1 L (spec_mvKinds_l0 L m) n ((j + 1 : Nat) : Int) L 0 (kAll L n j) = spec_mvKinds_l0 L m n (((j + 1 : Nat) : Int) + 1) (kAll L n j ++ kRow L ((j + 1 : Nat) : Int) (n.tdiv ((j + 1 : Nat) : Int)) (n.tdiv ((j + 1 : Nat) : Int)).toNat) := by
          have z : kRow L ((j + 1 : Nat) : Int) (n.tdiv ((j + 1 : Nat) : Int)) 0 = [] := by unfold kRow; simp
          rw [z, List.append_nil] at row
          exact row
        rw [row']
        rw [kAll, if_pos hm'] at nxt
        exact nxt
      · simp only [hm', decide_false, Bool.not_false, cond_true]
        rw [kAll, if_neg hm', List.append_nil] at nxt
        exact nxt
    · have e : n.toNat = j := by omega
      simp only [ile_eq, h, decide_false, cond_false, e]
theorem impl_kinds_l1 {L : Nat} {κ0 : Int → Int → List (List Int) → Option (List (List Int) × Bool)} {n a d : Int} {w : List (List Int)} (hn : 1 ≤ n ∧ n ≤ 60) (ha : 1 ≤ a ∧ a ≤ 60) (hm : n.tmod a = 0) (hd : n.tdiv a = d) (hw : w.length ≤ 10000) (hL : 6000 < L) :
    ∀ (m b : Nat), (b : Int) ≤ d → d - b < m → impl_KindsOfArea_l1 L κ0 n a m (b : Int) (w ++ kRow L a d b) = κ0 n (a + 1) (w ++ kRow L a d d.toNat) := by
  obtain ⟨e, d1, d2⟩ := tdiv_of hn.1 ha.1 hm
  rw [hd] at e d1 d2
  have wq : wr IntKind.i64 (iquo n a) = d := by rw [iquo_eq, hd, wr_id (by omega)]
  have wa : wr IntKind.i64 (iadd a 1) = a + 1 := by rw [iadd_eq, wr_id (by omega)]
  have hz : ¬ a = 0 := by omega
  intro m
  induction m with
  | zero => intro b _ h; omega
  | succ m ih =>
    intro b hb hm'
    rw [impl_KindsOfArea_l1]
    simp only [wq, wa, ieq_eq, hz, decide_false, cond_false, irem_eq, hm, decide_true, cond_true]
    by_cases h : (b : Int) < d
    · obtain ⟨x, y, z, k1, k2, k3⟩ := kind_step (L := L) (a := a) (b := (b : Int)) (d := d) (by omega) (by omega) (by omega) (by omega)
      have wb : wr IntKind.i64 (iadd (b : Int) 1) = ((b + 1 : Nat) : Int) := by rw [iadd_eq, wr_s (by omega)]; omega
      have mm : impl_triangle L a (b : Int) d = some (tri3 a (b : Int) d) := rfl
      have sm := (sameI (L := L) (a := [x, y, z]) (b := [a, (b : Int), d]) (by simp) (by simp; omega)).2.1
      have hlen := kRow_len L a d b
      simp only [ilt_eq, h, decide_true, cond_true, gbind_eq, mm, Option.bind_some, k2, sm, wb]
      by_cases hk : IsK L a (b : Int) d
      · have ff : fits (iadd (ilen (List.map eLI (w ++ kRow L a d b))) (ilen [AV.lst false false 1 [AV.int IntKind.i64 a, AV.int IntKind.i64 (b : Int), AV.int IntKind.i64 d]])) 24 = true := by
          refine fits_s ?_
          simp only [iadd_eq, ilen_eq, List.length_map, List.length_append, List.length_cons, List.length_nil]
          omega
        simp only [k3.2 hk, decide_true, cond_true, ff, lcat_eq, List.append_assoc]
        rw [← kRow_yes hk]
        exact ih (b + 1) (by omega) (by omega)
      · have : ¬ ([x, y, z] = [a, (b : Int), d]) := fun q => hk (k3.1 q)
        simp only [this, decide_false, cond_false]
        rw [← kRow_no hk]
        exact ih (b + 1) (by omega) (by omega)
    · have hbd : d.toNat = b := by omega
      simp only [ilt_eq, h, decide_false, cond_false, hbd]
theorem impl_kinds_l0 {L : Nat} {n : Int} (hn : 1 ≤ n ∧ n ≤ 60) (hL : 6000 < L) : ∀ (m j : Nat), (j : Int) ≤ n → n - j < m → impl_KindsOfArea_l0 L m n ((j + 1 : Nat) : Int) (kAll L n j) = some (kAll L n n.toNat, true) := by
  intro m
  induction m with
  | zero => intro j _ h; omega
  | succ m ih =>
    intro j hj hm
    rw [impl_KindsOfArea_l0]
    by_cases h : ((j + 1 : Nat) : Int) ≤ n
    · have hz : ¬ ((j + 1 : Nat) : Int) = 0 := by omega
      have wa : wr IntKind.i64 (iadd ((j + 1 : Nat) : Int) 1) = ((j + 1 + 1 : Nat) : Int) := by rw [iadd_eq, wr_id (by omega)]; omega
      have hlen := kAll_len (L := L) hn j
      simp only [ile_eq, h, decide_true, cond_true]
      have nxt := ih (j + 1) (by omega) (by omega)
      by_cases hm' : n.tmod ((j + 1 : Nat) : Int) = 0
      · obtain ⟨_, d1, d2⟩ := tdiv_of hn.1 (show (1 : Int) ≤ ((j + 1 : Nat) : Int) by omega) hm'
        have row := impl_kinds_l1 (L := L) (κ0 := impl_KindsOfArea_l0 L m) (w := kAll L n j) hn (show (1 : Int) ≤ ((j + 1 : Nat) : Int) ∧ ((j + 1 : Nat) : Int) ≤ 60 by omega) hm' rfl (by omega) hL L 0 (by omega) (by omega)
        have row' : impl_KindsOfArea_l1 L (impl_KindsOfArea_l0 L m) n ((j + 1 : Nat) : Int) L 0 (kAll L n j) = impl_KindsOfArea_l0 L m n (((j + 1 : Nat) : Int) + 1) (kAll L n j ++ kRow L ((j + 1 : Nat) : Int) (n.tdiv ((j + 1 : Nat) : Int)) (n.tdiv ((j + 1 : Nat) : Int)).toNat) := by
          have z : kRow L ((j + 1 : Nat) : Int) (n.tdiv ((j + 1 : Nat) : Int)) 0 = [] := by unfold kRow; simp
          rw [z, List.append_nil] at row
          exact row
        rw [row']
        rw [kAll, if_pos hm'] at nxt
        exact nxt
      · obtain ⟨q, hq⟩ : ∃ q, L = q + 1 := ⟨L - 1, by omega⟩
        have one : ∀ q, impl_KindsOfArea_l1 L (impl_KindsOfArea_l0 L m) n ((j + 1 : Nat) : Int) (q + 1) 0 (kAll L n j) = impl_KindsOfArea_l0 L m n ((j + 1 + 1 : Nat) : Int) (kAll L n j) := fun q => by
          rw [impl_KindsOfArea_l1]
          simp only [ieq_eq, hz, decide_false, cond_false, irem_eq, hm', wa]
        have one' := one q
        rw [← hq] at one'
        rw [one']
        rw [kAll, if_neg hm', List.append_nil] at nxt
        exact nxt
    · have e : n.toNat = j := by omega
      simp only [ile_eq, h, decide_false, cond_false, e]
theorem mvKinds_eq {L : Nat} {n : Int} (hn : 1 ≤ n ∧ n ≤ 60) (hL : 6000 < L) : spec_mvKinds L n = some (kAll L n n.toNat) := by
  unfold spec_mvKinds
  exact spec_kinds_l0 hn hL L 0 (by omega) (by omega)
theorem kindsOf_yes {L : Nat} {n : Int} (hn : 1 ≤ n ∧ n ≤ 60) (hL : 6000 < L) : spec_KindsOfArea L n = some (kAll L n n.toNat, true) ∧ impl_KindsOfArea L n = some (kAll L n n.toNat, true) ∧ spec_CountKinds L n = some (((kAll L n n.toNat).length : Int), true) ∧ impl_CountKinds L n = some (((kAll L n n.toNat).length : Int), true) := by
  have h1 : impl_KindsOfArea L n = some (kAll L n n.toNat, true) := by
    unfold impl_KindsOfArea
    simp only [impl_within_eq, hn, and_self, decide_true, gbind_eq, Option.bind_some, Bool.not_true, cond_false]
    exact impl_kinds_l0 hn hL L 0 (by omega) (by omega)
  unfold spec_KindsOfArea spec_CountKinds impl_CountKinds
  simp only [spec_l1In_eq, hn, and_self, decide_true, gbind_eq, Option.bind_some, Bool.not_true, cond_false, mvKinds_eq hn hL, h1, ilen_mapLI]
theorem kindsOf_no {L : Nat} {n : Int} (hn : ¬ (1 ≤ n ∧ n ≤ 60)) : spec_KindsOfArea L n = some ([], false) ∧ impl_KindsOfArea L n = some ([], false) ∧ spec_CountKinds L n = some (0, false) ∧ impl_CountKinds L n = some (0, false) := by
  unfold spec_CountKinds impl_CountKinds spec_KindsOfArea impl_KindsOfArea
  have z : ilen (List.map eLI []) = 0 := by rw [ilen_mapLI]; rfl
  simp only [spec_l1In_eq, impl_within_eq, hn, decide_false, gbind_eq, Option.bind_some, Bool.not_false, cond_true, z, and_self]
end Go.AM
namespace Go.AM
theorem kindPoly_l0 {L : Nat} {f : List Pt} (hs : (f.length : Int) ≤ 1000) : ∀ (m i : Nat), i ≤ f.length → f.length - i < m →
    ((∃ j : Int, (i : Int) ≤ j ∧ j < (f.length : Int) ∧ ¬ In (pt f j)) → spec_KindOfPolygon_l0 L f m i = some ([], false)) ∧ ((∀ j : Int, (i : Int) ≤ j → j < (f.length : Int) → In (pt f j)) → spec_KindOfPolygon_l0 L f m i = some (f, true)) := by
  intro m
  induction m with
  | zero => intro i _ h; omega
  | succ m ih =>
    intro i hi hm
    rw [spec_KindOfPolygon_l0]
    by_cases h : (i : Int) < (f.length : Int)
    · have wi : wr IntKind.i64 (iadd (i : Int) 1) = ((i + 1 : Nat) : Int) := by rw [iadd_eq, wr_s (by omega)]; omega
      obtain ⟨k1, k2⟩ := ih (i + 1) (by omega) (by omega)
      simp only [ilen_mapep, ilt_eq, h, decide_true, cond_true, lget_pt (show (0 : Int) ≤ i by omega) h, gbind_eq, Option.bind_some, wi]
      by_cases hI : In (pt f i)
      · rw [spec_pgIs_eq.1 hI]
        simp only [Option.bind_some, Bool.not_true, cond_false]
        refine ⟨fun ⟨j, j0, j1, j2⟩ => k1 ⟨j, ?_, j1, j2⟩, fun hh => k2 fun j j0 j1 => hh j (by omega) j1⟩
        by_cases e : j = i
        · subst e; exact absurd hI j2
        · omega
      · rw [spec_pgIs_eq.2 hI]
        simp only [Option.bind_some, Bool.not_false, cond_true]
        exact ⟨fun _ => trivial, fun hh => absurd (hh i (Int.le_refl _) h) hI⟩
    · simp only [ilen_mapep, ilt_eq, h, decide_false, cond_false]
      exact ⟨fun ⟨j, j0, j1, _⟩ => by omega, fun _ => trivial⟩
theorem kindPoly_yes {L : Nat} {a f : List Pt} (g : Good_ a) (h : IsKind L a f) (hin : ∀ i, In (pt f i)) (hL : 6000 < L) : spec_KindOfPolygon L a = some (f, true) ∧ impl_KindOfPolygon L a = some (f, true) := by
  have ha := fa_of g
  have hl := h.len ha (by omega)
  have hi := g.hi
  obtain ⟨c, c0, c1, c2⟩ := kind_eq (L := L) ha (by omega)
  obtain rfl : c = f := c2.eq ha (by omega) h
  have k := (kindPoly_l0 (L := L) (f := c) (by omega) L 0 (by omega) (by omega)).2 fun j _ _ => hin j
  have p := (arePegs_eq (L := L) (a := c) (by omega) (by omega)).2 fun i _ _ => hin i
  unfold spec_KindOfPolygon impl_KindOfPolygon
  rw [impl_IsPolygon_eq (by omega), spec_pgGood_eq (by omega)]
  simp only [g, decide_true, Bool.not_true, cond_false, gbind_eq, Option.bind_some, c0, c1, p]
  exact ⟨k, trivial⟩
theorem kindPoly_eq {L : Nat} {a : List Pt} (hL : 6000 < L) : ∃ r, spec_KindOfPolygon L a = some r ∧ impl_KindOfPolygon L a = some r ∧ (r.1.length : Int) ≤ 1000 ∧ (r.2 = true → Good_ a ∧ IsKind L a r.1 ∧ ∀ i, In (pt r.1 i)) := by
  by_cases g : Good_ a
  · have ha := fa_of g
    have hi := g.hi
    have lo := g.lo
    obtain ⟨c, c0, c1, c2⟩ := kind_eq (L := L) ha (by omega)
    have hl := c2.len ha (by omega)
    by_cases hin : ∀ i : Int, 0 ≤ i → i < (c.length : Int) → In (pt c i)
    · have hn : c ≠ [] := by intro e; subst e; simp at hl; omega
      obtain ⟨k1, k2⟩ := kindPoly_yes g c2 (in_all hin hn) hL
      exact ⟨_, k1, k2, by simp only; omega, fun _ => ⟨g, c2, in_all hin hn⟩⟩
    · have hx : ∃ i : Int, 0 ≤ i ∧ i < (c.length : Int) ∧ ¬ In (pt c i) := Classical.byContradiction fun e => hin fun i i0 i1 => Classical.byContradiction fun e2 => e ⟨i, i0, i1, e2⟩
      have k := (kindPoly_l0 (L := L) (f := c) (by omega) L 0 (by omega) (by omega)).1 hx
      have k' : spec_KindOfPolygon_l0 L c L 0 = some ([], false) := k
      have p := (arePegs_eq (L := L) (a := c) (by omega) (by omega)).1 hx
      refine ⟨([], false), ?_, ?_, by simp, fun h => by cases h⟩
      · unfold spec_KindOfPolygon
        rw [spec_pgGood_eq (by omega)]
        simp only [g, decide_true, Bool.not_true, cond_false, gbind_eq, Option.bind_some, c0, k']
      · unfold impl_KindOfPolygon
        rw [impl_IsPolygon_eq (by omega)]
        simp only [g, decide_true, Bool.not_true, cond_false, gbind_eq, Option.bind_some, c1, p, Bool.not_false, cond_true]
  · refine ⟨([], false), ?_, ?_, by simp, fun h => by cases h⟩
    · unfold spec_KindOfPolygon
      rw [spec_pgGood_eq (by omega)]
      simp only [g, decide_false, Bool.not_false, cond_true, gbind_eq, Option.bind_some]
    · unfold impl_KindOfPolygon
      rw [impl_IsPolygon_eq (by omega)]
      simp only [g, decide_false, Bool.not_false, cond_true, gbind_eq, Option.bind_some]
theorem twiceArea_yes {L : Nat} {a : List Pt} (g : Good_ a) (hL : 6000 < L) : impl_TwiceArea L a = some (area a, true) ∧ (-200000000 ≤ area a ∧ area a ≤ 200000000) := by
  obtain ⟨v1, v2, v3, v4⟩ := vwl g
  refine ⟨?_, area_bd (by omega) fun i => (v1 i).nr⟩
  unfold impl_TwiceArea
  rw [impl_IsPolygon_eq (by omega)]
  simp only [g, decide_true, Bool.not_true, cond_false, gbind_eq, Option.bind_some, impl_twice_eq v2 (show (a.length : Int) ≤ 1000 by omega) (show (a.length : Int) < L by omega) (fun i => (v1 i).nr)]
theorem zAbs_eq {L : Nat} {n : Int} (h : -200000000 ≤ n ∧ n ≤ 200000000) : laws_zAbs L n = some (n.natAbs : Int) := by
  unfold laws_zAbs
  rw [ilt_eq]
  by_cases k : n < 0
  · simp only [k, decide_true, cond_true, isub_eq]
    rw [wr_id (by omega)]
    congr 1; omega
  · simp only [k, decide_false, cond_false]
    congr 1; omega
theorem moveCorners_yes {L : Nat} {A B C D X Y : Int} {p : List Pt} (hm : MvG A B C D X Y) (g : Good_ p) (hin : ∀ i, In (mvP A B C D X Y (pt p i))) (hL : 6000 < L) : impl_MoveCorners L A B C D X Y p = some (p.map (mvP A B C D X Y), true) := by
  obtain ⟨v1, v2, v3, v4⟩ := vwl g
  obtain ⟨r, r1, r2, _⟩ := moveCorners_eq (L := L) (A := A) (B := B) (C := C) (D := D) (p := p) (wi_of80 hm.2.1.1) (wi_of80 hm.2.1.2) hL
  have k := (pgMap_l0 (L := L) hm v1 (by omega) L 0 (by omega) (by omega)).2 fun j _ _ => hin j
  have k' : spec_pgMap_l0 L p A B C D X Y L 0 [] = some (p.map (mvP A B C D X Y), true) := k
  unfold spec_MoveCorners at r1
  simp only [spec_mvGood_eq (L := L) (show 10 < L by omega), hm, decide_true, gbind_eq, Option.bind_some, spec_pgGood_eq (L := L) (a := p) (show 20 < L by omega), g, Bool.not_true, cond_false] at r1
  unfold spec_pgMap at r1
  rw [k'] at r1
  rw [r2]
  simpa using r1.symm
theorem tellFirst_val2 {L : Nat} {a : List Pt} (g : Good_ a) (hL : 6000 < L) : ∃ c, impl_TellFirst L a = some (c, true) ∧ impl_tellFirst L a = some c ∧ (c.length : Int) ≤ 1000 := by
  obtain ⟨v1, v2, v3, v4⟩ := vwl g
  obtain ⟨k, _, e⟩ := tellFirst_any (L := L) g (by omega)
  refine ⟨_, ?_, e, by rw [tour_len]; omega⟩
  unfold impl_TellFirst
  rw [impl_IsPolygon_eq (by omega)]
  simp only [g, decide_true, Bool.not_true, cond_false, gbind_eq, Option.bind_some, e]
theorem triangleOf_true {L : Nat} {a : List Int} {r : List Pt × Bool} (hL : 6000 < L) (h : impl_TriangleOfKind L a = some r) (hr : r.2 = true) :
    ∃ x y z, a = [x, y, z] ∧ r.1 = tri3 x y z ∧ Good_ (tri3 x y z) ∧ impl_kindOf L (tri3 x y z) = some [x, y, z] := by
  unfold impl_TriangleOfKind at h
  simp only [ieq_eq, ilen_mapI] at h
  by_cases h3 : (a.length : Int) = 3
  · obtain ⟨x, y, z, rfl⟩ : ∃ x y z, a = [x, y, z] := by
      match a, h3 with
      | [x, y, z], _ => exact ⟨x, y, z, rfl⟩
      | [], h3 => simp at h3
      | [_], h3 => simp at h3
      | [_, _], h3 => simp at h3
      | _ :: _ :: _ :: _ :: _, h3 => simp at h3; omega
    have g0 : lget [x, y, z] 0 = some x := by rw [lget_eq]; rfl
    have g1 : lget [x, y, z] 1 = some y := by rw [lget_eq]; rfl
    have g2 : lget [x, y, z] 2 = some z := by rw [lget_eq]; rfl
    have mm : impl_triangle L x y z = some (tri3 x y z) := rfl
    simp only [h3, decide_true, Bool.not_true, cond_false, gbind_eq, g0, g1, g2, Option.bind_some, mm, (three_eq (L := L) (a := tri3 x y z) (by omega)).2] at h
    by_cases g : ((tri3 x y z).length : Int) = 3 ∧ Good_ (tri3 x y z)
    · obtain ⟨f, _, hk⟩ := mvKind_eq (L := L) (fa_of g.2) (by omega)
      obtain ⟨x', y', z', rfl, _⟩ := kind_three rfl (fa_of g.2) (by omega) hk
      obtain ⟨k1, k2⟩ := kindOf_fa (fa_of g.2) (by omega) hk
      have sm := (sameI (L := L) (a := [x', y', z']) (b := [x, y, z]) (by simp) (by simp; omega)).2.1
      simp only [g, and_self, decide_true, Bool.not_true, cond_false, k2, Option.bind_some, sm] at h
      by_cases e : [x', y', z'] = [x, y, z]
      · simp only [e, decide_true, Bool.not_true, cond_false] at h
        have h' := Option.some.inj h
        subst h'
        rw [e] at k2
        exact ⟨x, y, z, rfl, rfl, g.2, k2⟩
      · simp only [e, decide_false, Bool.not_false, cond_true] at h
        have h' := Option.some.inj h
        subst h'
        cases hr
    · simp only [g, decide_false, Bool.not_false, cond_true] at h
      have h' := Option.some.inj h
      subst h'
      cases hr
  · simp only [h3, decide_false, Bool.not_false, cond_true] at h
    have h' := Option.some.inj h
    subst h'
    cases hr
theorem kindOfTriangle_yes {L : Nat} {t : List Pt} {x y z : Int} (h3 : (t.length : Int) = 3) (g : Good_ t) (hk : impl_kindOf L t = some [x, y, z]) (hL : 6000 < L) : impl_KindOfTriangle L t = some ([x, y, z], true) := by
  unfold impl_KindOfTriangle
  simp only [(three_eq (L := L) (a := t) (by omega)).2, h3, g, and_self, decide_true, gbind_eq, Option.bind_some, Bool.not_true, cond_false, hk]
theorem kindOfTriangle_full {L : Nat} {t : List Pt} (hL : 6000 < L) : ∃ r, spec_KindOfTriangle L t = some r ∧ impl_KindOfTriangle L t = some r ∧ (r.1.length : Int) ≤ 3 ∧
    (r.2 = true → Good_ t ∧ ∃ x y z, r.1 = [x, y, z] ∧ IsKind L t (tri3 x y z) ∧ 0 < x ∧ 0 ≤ y ∧ y < z ∧ x * z = ((area t).natAbs : Int)) := by
  obtain ⟨r, r1, r2, r3⟩ := kindOf_eq (L := L) (a := t) (by omega)
  refine ⟨r, r1, r2, r3, fun hr => ?_⟩
  have r2' := r2
  unfold impl_KindOfTriangle at r2'
  simp only [(three_eq (L := L) (a := t) (by omega)).2, gbind_eq, Option.bind_some] at r2'
  by_cases g : (t.length : Int) = 3 ∧ Good_ t
  · obtain ⟨f, _, hk⟩ := mvKind_eq (L := L) (fa_of g.2) (by omega)
    obtain ⟨x, y, z, rfl, h1, h2, h3, h4⟩ := kind_three (by omega) (fa_of g.2) (by omega) hk
    obtain ⟨k1, k2⟩ := kindOf_fa (fa_of g.2) (by omega) hk
    simp only [g, and_self, decide_true, Bool.not_true, cond_false, k2, Option.bind_some] at r2'
    have h' := Option.some.inj r2'
    subst h'
    exact ⟨g.2, x, y, z, rfl, hk, h1, h2, h3, h4⟩
  · simp only [g, decide_false, Bool.not_false, cond_true] at r2'
    have h' := Option.some.inj r2'
    subst h'
    cases hr
end Go.AM
namespace Go.AM
theorem drawKinds_dr {L : Nat} {a : List Int} (hb : By a) : ∃ n, spec_DrawKindsOfArea L a = some n ∧ (-1 ≤ n ∧ n ≤ 61) := by
  obtain ⟨n, t, s, e, m, _, _⟩ := among_dr (L := L) (a := a) (t := 0) (s := 0) (w := [1, 2, 3, 4, 5, 6, 8, 12, 25, 60, 61, 0, -1]) hb (by omega) (by simp)
  unfold spec_DrawKindsOfArea
  simp only [e, gbind_eq, Option.bind_some]
  refine ⟨n, rfl, ?_⟩
  simp only [List.mem_cons, List.not_mem_nil, or_false] at m
  omega
theorem drawKindTri_dr {L : Nat} {a : List Int} (hb : By a) (hL : 1000 < L) : ∃ t, spec_DrawKindOfTriangle L a = some t := by
  obtain ⟨b, t1, s1, e1, h1, h2⟩ := one_dr (L := L) (s := 0) (n := 8) hb (t := 0) (by omega) (by omega)
  unfold spec_DrawKindOfTriangle
  simp only [e1, gbind_eq, Option.bind_some]
  cases b with
  | true =>
    obtain ⟨p, t2, s2, e2, _⟩ := polygon_dr (L := L) (a := a) (t := t1) (s := s1) (n := 4) hb (by omega) (by omega) hL
    simp only [cond_true, e2, Option.bind_some]
    exact ⟨_, rfl⟩
  | false =>
    obtain ⟨x1, y1, t2, s2, e2, _, h3, h4⟩ := surePeg_dr (L := L) (s := s1) (n := 5) hb (t := t1) (by omega) (by omega)
    obtain ⟨x2, y2, t3, s3, e3, _, h5, h6⟩ := surePeg_dr (L := L) (s := s2) (n := 5) hb (t := t2) (by omega) (by omega)
    obtain ⟨x3, y3, t4, s4, e4, _, h7, h8⟩ := surePeg_dr (L := L) (s := s3) (n := 5) hb (t := t3) (by omega) (by omega)
    simp only [cond_false, e2, e3, e4, Option.bind_some]
    exact ⟨_, rfl⟩
theorem kAll_one {L : Nat} {n : Int} (hn : 1 ≤ n ∧ n ≤ 60) (hL : 6000 < L) : 1 ≤ (kAll L n n.toNat).length := by
  have := kAll_has (L := L) (n := n) (a := 1) (b := 0) (d := n) hn.1 (by omega) (by omega) (by omega) (isK_one (by omega) (by omega)) n.toNat (by omega)
  exact List.length_pos_iff.2 (List.ne_nil_of_mem this)
theorem kAll_row {L : Nat} {n : Int} (hn : 1 ≤ n ∧ n ≤ 60) : ∀ x ∈ kAll L n n.toNat, (x.length : Int) ≤ 3 := fun x hx => by
  obtain ⟨a, b, d, rfl, _⟩ := kAll_mem hn.1 hx
  simp
theorem drawTriOf_dr {L : Nat} {a : List Int} (hb : By a) (hL : 6000 < L) : ∃ k, spec_DrawTriangleOfKind L a = some k ∧ (k.length : Int) ≤ 3 := by
  obtain ⟨b, t1, s1, e1, h1, h2⟩ := one_dr (L := L) (s := 0) (n := 3) hb (t := 0) (by omega) (by omega)
  unfold spec_DrawTriangleOfKind
  simp only [e1, gbind_eq, Option.bind_some]
  cases b with
  | true =>
    obtain ⟨r, t2, s2, e2, ⟨r0, r1⟩, _, _⟩ := pick_dr (L := L) (s := s1) (n := 8) hb (t := t1) (by omega) (by omega)
    have l8 : ∀ x1 x2 x3 x4 x5 x6 x7 x8 : AV, ilen [x1, x2, x3, x4, x5, x6, x7, x8] = 8 := fun _ _ _ _ _ _ _ _ => by rw [ilen_eq]; rfl
    have hlt : r.toNat < ([[1, 0, 1], [1, 2, 3], [2, 0, 2], [3, 0, 1], [1, 0], [0, 0, 1], [1, 5, 3], [1, 0, 41]] : List (List Int)).length := by simp; omega
    have hg : lget ([[1, 0, 1], [1, 2, 3], [2, 0, 2], [3, 0, 1], [1, 0], [0, 0, 1], [1, 5, 3], [1, 0, 41]] : List (List Int)) r = some (([[1, 0, 1], [1, 2, 3], [2, 0, 2], [3, 0, 1], [1, 0], [0, 0, 1], [1, 5, 3], [1, 0, 41]] : List (List Int))[r.toNat]) := by rw [lget_eq, if_pos r0, List.getElem?_eq_getElem hlt]
    have hm := List.getElem_mem hlt
    generalize ([[1, 0, 1], [1, 2, 3], [2, 0, 2], [3, 0, 1], [1, 0], [0, 0, 1], [1, 5, 3], [1, 0, 41]] : List (List Int))[r.toNat] = x at hg hm
    simp only [cond_true, e2, Option.bind_some, l8, ile_eq, ilt_eq, r0, r1, decide_true, Bool.and_self, hg]
    refine ⟨x, rfl, ?_⟩
    simp only [List.mem_cons, List.not_mem_nil, or_false] at hm
    rcases hm with rfl | rfl | rfl | rfl | rfl | rfl | rfl | rfl <;> simp
  | false =>
    obtain ⟨r, t2, s2, e2, ⟨r0, r1⟩, h3, h4⟩ := pick_dr (L := L) (s := s1) (n := 24) hb (t := t1) (by omega) (by omega)
    have w1 : wr IntKind.i64 (iadd 1 r) = 1 + r := by rw [iadd_eq, wr_id (by omega)]
    have hn : 1 ≤ 1 + r ∧ 1 + r ≤ 60 := by omega
    have one := kAll_one (L := L) hn hL
    have hlen := kAll_len (L := L) hn (1 + r).toNat
    have hrow := kAll_row (L := L) hn
    simp only [cond_false, e2, Option.bind_some, w1, mvKinds_eq hn hL, ilen_mapLI]
    generalize kAll L (1 + r) (1 + r).toNat = K at *
    obtain ⟨i, t3, s3, e3, ⟨i0, i1⟩, _, _⟩ := pick_dr (L := L) (s := s2) (n := (K.length : Int)) hb (t := t2) (by omega) (by omega)
    have hlt : i.toNat < K.length := by omega
    have hg : lget K i = some K[i.toNat] := by rw [lget_eq, if_pos i0, List.getElem?_eq_getElem hlt]
    have hx := hrow _ (List.getElem_mem hlt)
    have ff : fits (iadd (ilen ([] : List AV)) (ilen (List.map eI K[i.toNat]))) 8 = true := by
      refine fits_s ?_
      simp only [iadd_eq, ilen_eq, List.length_map, List.length_nil]
      omega
    simp only [e3, Option.bind_some, ile_eq, ilt_eq, i0, i1, decide_true, Bool.and_self, cond_true, hg, spec_l1Own, ff, lcat_eq, List.nil_append]
    exact ⟨_, rfl, hx⟩
theorem drawIsP_l0 {L : Nat} {a : List Int} (hb : By a) : ∀ (k m : Nat) (t s : Int) (w : List Pt), k < m → k ≤ 10 → (0 ≤ t ∧ t ≤ 500000 - 10 * k) → w.length ≤ 100 - k → ∃ r, spec_DrawIsPolygon_l0 L a m (k : Int) t s w = some r := by
  intro k
  induction k with
  | zero =>
    intro m t s w hm _ ht hw
    obtain ⟨m, rfl⟩ : ∃ q, m = q + 1 := ⟨m - 1, by omega⟩
    rw [spec_DrawIsPolygon_l0]
    simp only [ilt_eq, show ¬ (0 : Int) < ((0 : Nat) : Int) by omega, decide_false, cond_false]
    exact ⟨_, rfl⟩
  | succ k ih =>
    intro m t s w hm hk ht hw
    obtain ⟨m, rfl⟩ : ∃ q, m = q + 1 := ⟨m - 1, by omega⟩
    obtain ⟨x, y, t2, s2, e2, _, h3, h4⟩ := surePeg_dr (L := L) (s := s) (n := 2) hb (t := t) (by omega) (by omega)
    have wk : wr IntKind.i64 (isub ((k + 1 : Nat) : Int) 1) = (k : Int) := by rw [isub_eq, wr_id (by omega)]; omega
    have ff : fits (iadd (ilen (List.map ep w)) (ilen [AV.agg [AV.int IntKind.i64 x, AV.int IntKind.i64 y]])) 16 = true := by
      refine fits_s ?_
      simp only [iadd_eq, ilen_eq, List.length_map, List.length_cons, List.length_nil]
      omega
    rw [spec_DrawIsPolygon_l0]
    simp only [ilt_eq, show (0 : Int) < ((k + 1 : Nat) : Int) by omega, decide_true, cond_true, e2, gbind_eq, Option.bind_some, ff, wk, lcat_eq]
    exact ih m t2 s2 _ (by omega) (by omega) (by omega) (by simp; omega)
theorem drawKindPoly_dr {L : Nat} {a : List Int} (hb : By a) (hL : 1000 < L) : ∃ r, spec_DrawKindOfPolygon L a = some r := by
  obtain ⟨b, t1, s1, e1, h1, h2⟩ := one_dr (L := L) (s := 0) (n := 4) hb (t := 0) (by omega) (by omega)
  unfold spec_DrawKindOfPolygon spec_DrawIsPolygon
  simp only [e1, gbind_eq, Option.bind_some]
  cases b with
  | true =>
    obtain ⟨r, t2, s2, e2, ⟨r0, r1⟩, h3, h4⟩ := pick_dr (L := L) (s := s1) (n := 6) hb (t := t1) (by omega) (by omega)
    obtain ⟨q, hq⟩ := drawIsP_l0 (L := L) hb r.toNat L t2 s2 [] (by omega) (by omega) (by omega) (by simp)
    rw [Int.toNat_of_nonneg r0] at hq
    simp only [cond_true, e2, Option.bind_some, hq]
    exact ⟨_, rfl⟩
  | false =>
    obtain ⟨p, t2, s2, e2, _⟩ := polygon_dr (L := L) (a := a) (t := t1) (s := s1) (n := 5) hb (by omega) (by omega) hL
    simp only [cond_false, e2, Option.bind_some]
    exact ⟨_, rfl⟩
theorem drawAlike_dr {L : Nat} {a : List Int} (hb : By a) (hL : 6000 < L) : ∃ p q, spec_DrawAreAlike L a = some (p, q) := by
  obtain ⟨p, t1, s1, e1, pl, pw, h1, h2⟩ := polygon_dr (L := L) (a := a) (t := 0) (s := 0) (n := 4) hb (by omega) (by omega) (by omega)
  obtain ⟨A, B, C, D, X, Y, t2, s2, e2, _, ⟨wX, wY⟩, h3, h4⟩ := move_dr (L := L) (a := a) (t := t1) (s := s1) hb (by omega) (by omega)
  obtain ⟨r, q1, q2, q3, q4⟩ := moveCorners_eq (L := L) (A := A) (B := B) (C := C) (D := D) (p := p) wX wY (by omega)
  unfold spec_DrawAreAlike
  simp only [e1, e2, q1, gbind_eq, Option.bind_some]
  by_cases hf : r.2 = true
  · obtain ⟨hm, g, er, hin⟩ := q4 hf
    obtain ⟨v1, v2, v3, v4⟩ := vwl g
    have g2 : Good_ (p.map (mvP A B C D X Y)) := by rw [mvP_aff]; exact good_aff (uni_of hm) g hin
    rw [← er] at g2
    obtain ⟨w1, w2, w3, w4⟩ := vwl g2
    generalize r.1 = c at *
    obtain ⟨b, t3, s3, e3, h5, h6⟩ := one_dr (L := L) (s := s2) (n := 4) hb (t := t2) (by omega) (by omega)
    simp only [hf, cond_true, e3, Option.bind_some]
    cases b with
    | true =>
      obtain ⟨p', t4, s4, e4, _⟩ := polygon_dr (L := L) (a := a) (t := t3) (s := s3) (n := 4) hb (by omega) (by omega) (by omega)
      simp only [Bool.not_true, cond_false, e4, Option.bind_some]
      exact ⟨_, _, rfl⟩
    | false =>
      obtain ⟨k, t4, s4, e4, ⟨k0, k1⟩, h7, h8⟩ := pick_dr (L := L) (s := s3) (n := (c.length : Int)) hb (t := t3) (by omega) (by omega)
      obtain ⟨b2, t5, s5, e5, _⟩ := one_dr (L := L) (s := s4) (n := 2) hb (t := t4) (by omega) (by omega)
      have cc : lcat (lcat [] (lsub c k (iadd k (isub (c.length : Int) k)))) (lsub c 0 (iadd 0 k)) = tour c k 1 c.length := by
        rw [← rot_eq (c := c) (k := k) (by omega) (by omega)]
        simp only [lcat_eq, lsub_eq, iadd_eq, isub_eq, List.nil_append, Int.zero_add]
        rw [List.take_of_length_le (by simp; omega)]
        simp
      have f3 : fits (iadd (ilen ([] : List AV)) (ilen (lsub (List.map ep c) k (iadd k (isub (c.length : Int) k))))) 16 = true := by
        refine fits_s ?_
        simp only [iadd_eq, ilen_eq, lsub_eq, List.length_take, List.length_drop, List.length_map, List.length_nil]
        omega
      have f4 : fits (iadd (ilen (lcat [] (lsub (List.map ep c) k (iadd k (isub (c.length : Int) k))))) (ilen (lsub (List.map ep c) 0 (iadd 0 k)))) 16 = true := by
        refine fits_s ?_
        simp only [iadd_eq, ilen_eq, lcat_eq, lsub_eq, List.length_append, List.length_take, List.length_drop, List.length_map, List.length_nil]
        omega
      have tn : tour c k 1 c.length ≠ [] := by intro e; have := congrArg List.length e; rw [tour_len] at this; exact w2 (List.eq_nil_of_length_eq_zero (by simpa using this))
      have bk := spec_pgBack_eq (L := L) tn (by rw [tour_len]; omega) (by rw [tour_len]; omega)
      simp only [Bool.not_false, cond_true, ilen_mapep, e4, Option.bind_some, ile_eq, k0, show k ≤ (c.length : Int) by omega, decide_true, Bool.and_self, f3, f4, cc, e5, bk]
      cases b2 with
      | true => exact ⟨_, _, rfl⟩
      | false => exact ⟨_, _, rfl⟩
  · simp only [Bool.not_eq_true] at hf
    obtain ⟨p', t4, s4, e4, _⟩ := polygon_dr (L := L) (a := a) (t := t2) (s := s2) (n := 4) hb (by omega) (by omega) (by omega)
    simp only [hf, cond_false, e4, Option.bind_some]
    exact ⟨_, _, rfl⟩
end Go.AM
namespace Go.AM
def H7 (L : Nat) (v47 : Bool) (w4 w5 : List Pt) : Prop := v47 = true → Good_ w4 ∧ IsKind L w4 w5 ∧ ∀ i, In (pt w5 i)
def H6 (v42 : Bool) (w1 w2 : List Pt) (α β γ δ u v : Int) : Prop := v42 = true → Good_ w1 ∧ Good_ w2 ∧ w2.length = w1.length ∧ MvG α β γ δ u v ∧ ∃ k s, (s = 1 ∨ s = -1) ∧ Img w1 (tour w2 k s w2.length) α β γ δ u v
def H5 (L : Nat) (v37 v38 : Bool) (w1 w2 : List Pt) : Prop := v38 = true → Good_ w1 ∧ Good_ w2 ∧ ∃ f f', IsKind L w1 f ∧ IsKind L w2 f' ∧ v37 = decide (f = f')
def H4 (L : Nat) (v30 : List Int) (v32 : Bool) (w0 : List Pt) : Prop := v32 = true → impl_KindOfTriangle L w0 = some (v30, true) ∧ (v30.length : Int) ≤ 3
theorem told_j7 {L : Nat} {v47 : Bool} {w4 w5 : List Pt} (h : H7 L v47 w4 w5) (hL : 6000 < L) : laws_FnKindsTold_j7 L v47 w4 w5 = some true := by
  unfold laws_FnKindsTold_j7
  cases v47 with
  | false => rfl
  | true =>
    obtain ⟨g, hk, hin⟩ := h rfl
    have ha := fa_of g
    have hl := hk.len ha (by omega)
    have hi := g.hi
    have lo := g.lo
    have gf := good_kind g (by omega) hk hin
    have own := kind_own ha (by omega) hk (fun i => (hin i).nr)
    have al := (alike_val gf g hL own hk).2
    have kp := (kindPoly_yes gf own hin hL).2
    obtain ⟨_, _, _, _, _, _, _, _, _, _, _, p0, x, b, d, p1, _, x0, _⟩ := kind_img ha (by omega) hk
    have g0 : lget w5 0 = some ⟨0, 0⟩ := by rw [lget_pt (by omega) (by omega), p0]
    have g1 : lget w5 1 = some ⟨x, 0⟩ := by rw [lget_pt (by omega) (by omega), p1]
    simp only [cond_true, al, kp, gbind_eq, Option.bind_some, decide_true, zPegs_eq (L := L) (a := w5) (by omega) (by omega), ilen_mapep, ile_eq, ilt_eq, Int.le_refl, show (0 : Int) < (w5.length : Int) by omega, show (0 : Int) ≤ 1 by omega, show (1 : Int) < (w5.length : Int) by omega, Bool.and_self, g0, g1, ieq_eq, x0]
theorem told_j6 {L : Nat} {v42 v47 : Bool} {w1 w2 : List Pt} {α β γ δ u v : Int} {w4 w5 : List Pt} (h6 : H6 v42 w1 w2 α β γ δ u v) (h7 : H7 L v47 w4 w5) (hL : 6000 < L) : laws_FnKindsTold_j6 L v42 v47 w1 w2 α β γ δ u v w4 w5 = some true := by
  unfold laws_FnKindsTold_j6
  cases v42 with
  | false => exact told_j7 h7 hL
  | true =>
    obtain ⟨g1, g2, hl, hm, k, s, hs, hi⟩ := h6 rfl
    obtain ⟨v1, v2, v3, v4⟩ := vwl g1
    obtain ⟨u1, u2, u3, u4⟩ := vwl g2
    have e := hi.map v2 (by rw [tour_len, hl])
    have hin : ∀ i, In (mvP α β γ δ u v (pt w1 i)) := fun i => by
      have := hi.2 i
      rw [pt_tour' u2] at this
      rw [mvP_aff, ← this]
      exact u1 _
    have mc := moveCorners_yes hm g1 hin hL
    rw [mvP_aff, ← e] at mc
    obtain ⟨c, c1, c2, c3⟩ := tellFirst_val2 (L := L) (good_tour (k := k) g2 hs) hL
    obtain ⟨c', c1', c2', _⟩ := tellFirst_val2 (L := L) g2 hL
    have ec : c' = c := by
      have := tellFirst_tour (L := L) (k := k) g2 hs (by omega)
      rw [c2, c2'] at this
      exact (Option.some.inj this).symm
    subst ec
    simp only [cond_true, mc, gbind_eq, Option.bind_some, c1, c1', Bool.not_true, cond_false, zPegs_eq (L := L) (a := c') (by omega) (by omega)]
    exact told_j7 h7 hL
theorem told_j8 {L : Nat} {v37 v42 v47 : Bool} {w1 w2 : List Pt} {α β γ δ u v : Int} {w4 w5 : List Pt} (h6 : H6 v42 w1 w2 α β γ δ u v) (h7 : H7 L v47 w4 w5) (g1 : Good_ w1) (g2 : Good_ w2) (h : v37 = true → (area w1).natAbs = (area w2).natAbs ∧ w1.length = w2.length) (hL : 6000 < L) :
    laws_FnKindsTold_j8 L v37 v42 v47 w1 w2 α β γ δ u v w4 w5 (area w1, true) (area w2, true) false = some true := by
  unfold laws_FnKindsTold_j8
  have b1 := (twiceArea_yes (L := L) g1 hL).2
  have b2 := (twiceArea_yes (L := L) g2 hL).2
  cases v37 with
  | false =>
    simp only [cond_false]
    exact told_j6 h6 h7 hL
  | true =>
    obtain ⟨e1, e2⟩ := h rfl
    simp only [cond_false, cond_true, zAbs_eq b1, zAbs_eq b2, gbind_eq, Option.bind_some, ieq_eq, e1, e2, decide_true, Bool.not_true, ilen_mapep]
    exact told_j6 h6 h7 hL
theorem told_j5 {L : Nat} {v37 v38 v42 v47 : Bool} {w1 w2 : List Pt} {α β γ δ u v : Int} {w4 w5 : List Pt} (h5 : H5 L v37 v38 w1 w2) (h6 : H6 v42 w1 w2 α β γ δ u v) (h7 : H7 L v47 w4 w5) (hL : 6000 < L) :
    laws_FnKindsTold_j5 L v37 v38 v42 v47 w1 w2 α β γ δ u v w4 w5 = some true := by
  unfold laws_FnKindsTold_j5
  cases v38 with
  | false =>
    simp only [cond_false]
    exact told_j6 h6 h7 hL
  | true =>
    obtain ⟨g1, g2, f, f', k1, k2, e⟩ := h5 rfl
    have al := (alike_val g2 g1 hL k2 k1).2
    have ar1 := (twiceArea_yes (L := L) g1 hL).1
    have ar2 := (twiceArea_yes (L := L) g2 hL).1
    have es : decide (f' = f) = v37 := by
      rw [e]
      by_cases q : f = f'
      · subst q; rfl
      · have : ¬ f' = f := fun z => q z.symm
        simp [q, this]
    simp only [cond_true, al, ar1, ar2, gbind_eq, Option.bind_some, Bool.not_true, cond_false, es, beqb_eq, beq_self_eq_true]
    refine told_j8 h6 h7 g1 g2 (fun hv => ?_) hL
    rw [hv] at e
    have q : f = f' := of_decide_eq_true e.symm
    subst q
    have a1 := area_kind (fa_of g1) (by omega) k1
    have a2 := area_kind (fa_of g2) (by omega) k2
    have l1 := k1.len (fa_of g1) (by omega)
    have l2 := k2.len (fa_of g2) (by omega)
    exact ⟨by omega, by omega⟩
theorem told_j4 {L : Nat} {v30 : List Int} {v32 v37 v38 v42 v47 : Bool} {w0 w1 w2 : List Pt} {α β γ δ u v : Int} {w4 w5 : List Pt} (h4 : H4 L v30 v32 w0) (h5 : H5 L v37 v38 w1 w2) (h6 : H6 v42 w1 w2 α β γ δ u v) (h7 : H7 L v47 w4 w5) (hL : 6000 < L) :
    laws_FnKindsTold_j4 L v30 v32 v37 v38 v42 v47 w0 w1 w2 α β γ δ u v w4 w5 = some true := by
  unfold laws_FnKindsTold_j4
  cases v32 with
  | false =>
    simp only [cond_false]
    exact told_j5 h5 h6 h7 hL
  | true =>
    obtain ⟨e, hl⟩ := h4 rfl
    simp only [cond_true, e, gbind_eq, Option.bind_some, Bool.not_true, cond_false, (sameI (L := L) (a := v30) (b := v30) (by omega) (by omega)).2.2, decide_true]
    exact told_j5 h5 h6 h7 hL
theorem told_l9 {L : Nat} {n : Int} {r10 : List Int} {r11 : List Pt × Bool} {r13 : List Pt × List Pt} {r14 : Bool × Bool} {α β γ δ u v : Int} {nine : Bool} {r18 : List Pt} {r19 : List Pt × Bool} (hn : 1 ≤ n ∧ n ≤ 60) (h4 : H4 L r10 r11.2 r11.1) (h5 : H5 L r14.1 r14.2 r13.1 r13.2) (h6 : H6 nine r13.1 r13.2 α β γ δ u v) (h7 : H7 L r19.2 r18 r19.1) (hL : 6000 < L) :
    ∀ (m i : Nat), i ≤ (kAll L n n.toNat).length → (kAll L n n.toNat).length - i < m → laws_FnKindsTold_l9 L n (kAll L n n.toNat, true) r10 r11 r13 r14 (α, β, γ, δ, u, v, nine) r18 r19 m (i : Int) = some true := by
  have hlen := kAll_len (L := L) hn n.toNat
  have hmem : ∀ x ∈ kAll L n n.toNat, ∃ a b d : Int, x = [a, b, d] ∧ (1 ≤ a ∧ a ≤ n.toNat) ∧ (0 ≤ b ∧ b < d) ∧ a * d = n ∧ IsK L a b d := fun x hx => kAll_mem hn.1 hx
  have hsort := List.pairwise_iff_getElem.1 (kAll_sorted (L := L) hn.1 n.toNat)
  generalize kAll L n n.toNat = K at *
  intro m
  induction m with
  | zero => intro i _ h; omega
  | succ m ih =>
    intro i hi hm
    rw [laws_FnKindsTold_l9]
    by_cases h : (i : Int) < (K.length : Int)
    · have hlt : i < K.length := by omega
      have wi : wr IntKind.i64 (iadd (i : Int) 1) = ((i + 1 : Nat) : Int) := by rw [iadd_eq, wr_s (by omega)]; omega
      have hg : lget K (i : Int) = some K[i] := by rw [lget_eq, if_pos (by omega), Int.toNat_natCast, List.getElem?_eq_getElem hlt]
      obtain ⟨a, b, d, hx, ha, hb, had, _⟩ := hmem _ (List.getElem_mem hlt)
      have hso := fun (j : Nat) (hj : j < i) => hsort j i (by omega) hlt hj
      rw [hx] at hg hso
      have x0 : lget [a, b, d] 0 = some a := by rw [lget_eq]; rfl
      have x1 : lget [a, b, d] 1 = some b := by rw [lget_eq]; rfl
      have x2 : lget [a, b, d] 2 = some d := by rw [lget_eq]; rfl
      have wm : wr IntKind.i64 (imul a d) = n := by rw [imul_eq, had, wr_id (by omega)]
      have nxt := ih (i + 1) (by omega) (by omega)
      simp only [ilen_mapLI, ilt_eq, ile_eq, h, show (0 : Int) ≤ (i : Int) by omega, decide_true, Bool.and_self, cond_true, hg, gbind_eq, Option.bind_some, x0, x1, x2, wm, ieq_eq, Bool.not_true, cond_false, wi, nxt]
      by_cases hp : (0 : Int) < (i : Int)
      · obtain ⟨j, rfl⟩ : ∃ j, i = j + 1 := ⟨i - 1, by omega⟩
        have wj : wr IntKind.i64 (isub ((j + 1 : Nat) : Int) 1) = (j : Int) := by rw [isub_eq, wr_id (by omega)]; omega
        have hjl : j < K.length := by omega
        have hgj : lget K (j : Int) = some K[j] := by rw [lget_eq, if_pos (by omega), Int.toNat_natCast, List.getElem?_eq_getElem hjl]
        obtain ⟨a', b', d', hx', _⟩ := hmem _ (List.getElem_mem hjl)
        have hs := hso j (by omega)
        rw [hx'] at hgj hs
        have y0 : lget [a', b', d'] 0 = some a' := by rw [lget_eq]; rfl
        have y1 : lget [a', b', d'] 1 = some b' := by rw [lget_eq]; rfl
        have hs' : a' < a ∨ a' = a ∧ b' < b := hs
        have c1 : ¬ a < a' := by omega
        simp only [hp, decide_true, cond_true, wj, show (0 : Int) ≤ (j : Int) by omega, show (j : Int) < (K.length : Int) by omega, Bool.and_self, hgj, Option.bind_some, y0, y1, c1, decide_false, cond_false]
        by_cases e : a' = a
        · have c2 : ¬ b ≤ b' := by omega
          simp only [e, decide_true, cond_true, c2, decide_false, cond_false]
        · simp only [e, decide_false, cond_false]
      · simp only [hp, decide_false, cond_false]
    · simp only [ilen_mapLI, ilt_eq, h, decide_false, cond_false]
      exact told_j4 h4 h5 h6 h7 hL
theorem told_j13 {L : Nat} {v47 : Bool} {w4 w5 : List Pt} (h : H7 L v47 w4 w5) (hL : 6000 < L) : laws_FnKindsTold_j13 L v47 w4 w5 = some true := by
  unfold laws_FnKindsTold_j13
  cases v47 with
  | false => rfl
  | true =>
    obtain ⟨g, hk, hin⟩ := h rfl
    have ha := fa_of g
    have hl := hk.len ha (by omega)
    have hi := g.hi
    have lo := g.lo
    have gf := good_kind g (by omega) hk hin
    have own := kind_own ha (by omega) hk (fun i => (hin i).nr)
    have al := (alike_val gf g hL own hk).2
    have kp := (kindPoly_yes gf own hin hL).2
    obtain ⟨_, _, _, _, _, _, _, _, _, _, _, p0, x, b, d, p1, _, x0, _⟩ := kind_img ha (by omega) hk
    have g0 : lget w5 0 = some ⟨0, 0⟩ := by rw [lget_pt (by omega) (by omega), p0]
    have g1 : lget w5 1 = some ⟨x, 0⟩ := by rw [lget_pt (by omega) (by omega), p1]
    simp only [cond_true, al, kp, gbind_eq, Option.bind_some, decide_true, zPegs_eq (L := L) (a := w5) (by omega) (by omega), ilen_mapep, ile_eq, ilt_eq, Int.le_refl, show (0 : Int) < (w5.length : Int) by omega, show (0 : Int) ≤ 1 by omega, show (1 : Int) < (w5.length : Int) by omega, Bool.and_self, g0, g1, ieq_eq, x0]
theorem told_j12 {L : Nat} {v42 v47 : Bool} {w1 w2 : List Pt} {α β γ δ u v : Int} {w4 w5 : List Pt} (h6 : H6 v42 w1 w2 α β γ δ u v) (h7 : H7 L v47 w4 w5) (hL : 6000 < L) : laws_FnKindsTold_j12 L v42 v47 w1 w2 α β γ δ u v w4 w5 = some true := by
  unfold laws_FnKindsTold_j12
  cases v42 with
  | false => exact told_j13 h7 hL
  | true =>
    obtain ⟨g1, g2, hl, hm, k, s, hs, hi⟩ := h6 rfl
    obtain ⟨v1, v2, v3, v4⟩ := vwl g1
    obtain ⟨u1, u2, u3, u4⟩ := vwl g2
    have e := hi.map v2 (by rw [tour_len, hl])
    have hin : ∀ i, In (mvP α β γ δ u v (pt w1 i)) := fun i => by
      have := hi.2 i
      rw [pt_tour' u2] at this
      rw [mvP_aff, ← this]
      exact u1 _
    have mc := moveCorners_yes hm g1 hin hL
    rw [mvP_aff, ← e] at mc
    obtain ⟨c, c1, c2, c3⟩ := tellFirst_val2 (L := L) (good_tour (k := k) g2 hs) hL
    obtain ⟨c', c1', c2', _⟩ := tellFirst_val2 (L := L) g2 hL
    have ec : c' = c := by
      have := tellFirst_tour (L := L) (k := k) g2 hs (by omega)
      rw [c2, c2'] at this
      exact (Option.some.inj this).symm
    subst ec
    simp only [cond_true, mc, gbind_eq, Option.bind_some, c1, c1', Bool.not_true, cond_false, zPegs_eq (L := L) (a := c') (by omega) (by omega)]
    exact told_j13 h7 hL
theorem told_j14 {L : Nat} {v37 v42 v47 : Bool} {w1 w2 : List Pt} {α β γ δ u v : Int} {w4 w5 : List Pt} (h6 : H6 v42 w1 w2 α β γ δ u v) (h7 : H7 L v47 w4 w5) (g1 : Good_ w1) (g2 : Good_ w2) (h : v37 = true → (area w1).natAbs = (area w2).natAbs ∧ w1.length = w2.length) (hL : 6000 < L) :
    laws_FnKindsTold_j14 L v37 v42 v47 w1 w2 α β γ δ u v w4 w5 (area w1, true) (area w2, true) false = some true := by
  unfold laws_FnKindsTold_j14
  have b1 := (twiceArea_yes (L := L) g1 hL).2
  have b2 := (twiceArea_yes (L := L) g2 hL).2
  cases v37 with
  | false =>
    simp only [cond_false]
    exact told_j12 h6 h7 hL
  | true =>
    obtain ⟨e1, e2⟩ := h rfl
    simp only [cond_false, cond_true, zAbs_eq b1, zAbs_eq b2, gbind_eq, Option.bind_some, ieq_eq, e1, e2, decide_true, Bool.not_true, ilen_mapep]
    exact told_j12 h6 h7 hL
theorem told_j11 {L : Nat} {v37 v38 v42 v47 : Bool} {w1 w2 : List Pt} {α β γ δ u v : Int} {w4 w5 : List Pt} (h5 : H5 L v37 v38 w1 w2) (h6 : H6 v42 w1 w2 α β γ δ u v) (h7 : H7 L v47 w4 w5) (hL : 6000 < L) :
    laws_FnKindsTold_j11 L v37 v38 v42 v47 w1 w2 α β γ δ u v w4 w5 = some true := by
  unfold laws_FnKindsTold_j11
  cases v38 with
  | false =>
    simp only [cond_false]
    exact told_j12 h6 h7 hL
  | true =>
    obtain ⟨g1, g2, f, f', k1, k2, e⟩ := h5 rfl
    have al := (alike_val g2 g1 hL k2 k1).2
    have ar1 := (twiceArea_yes (L := L) g1 hL).1
    have ar2 := (twiceArea_yes (L := L) g2 hL).1
    have es : decide (f' = f) = v37 := by
      rw [e]
      by_cases q : f = f'
      · subst q; rfl
      · have : ¬ f' = f := fun z => q z.symm
        simp [q, this]
    simp only [cond_true, al, ar1, ar2, gbind_eq, Option.bind_some, Bool.not_true, cond_false, es, beqb_eq, beq_self_eq_true]
    refine told_j14 h6 h7 g1 g2 (fun hv => ?_) hL
    rw [hv] at e
    have q : f = f' := of_decide_eq_true e.symm
    subst q
    have a1 := area_kind (fa_of g1) (by omega) k1
    have a2 := area_kind (fa_of g2) (by omega) k2
    have l1 := k1.len (fa_of g1) (by omega)
    have l2 := k2.len (fa_of g2) (by omega)
    exact ⟨by omega, by omega⟩
theorem told_j10 {L : Nat} {v30 : List Int} {v32 v37 v38 v42 v47 : Bool} {w0 w1 w2 : List Pt} {α β γ δ u v : Int} {w4 w5 : List Pt} (h4 : H4 L v30 v32 w0) (h5 : H5 L v37 v38 w1 w2) (h6 : H6 v42 w1 w2 α β γ δ u v) (h7 : H7 L v47 w4 w5) (hL : 6000 < L) :
    laws_FnKindsTold_j10 L v30 v32 v37 v38 v42 v47 w0 w1 w2 α β γ δ u v w4 w5 = some true := by
  unfold laws_FnKindsTold_j10
  cases v32 with
  | false =>
    simp only [cond_false]
    exact told_j11 h5 h6 h7 hL
  | true =>
    obtain ⟨e, hl⟩ := h4 rfl
    simp only [cond_true, e, gbind_eq, Option.bind_some, Bool.not_true, cond_false, (sameI (L := L) (a := v30) (b := v30) (by omega) (by omega)).2.2, decide_true]
    exact told_j11 h5 h6 h7 hL
theorem told_l15 {L : Nat} {n : Int} {r10 : List Int} {r11 : List Pt × Bool} {r13 : List Pt × List Pt} {r14 : Bool × Bool} {α β γ δ u v : Int} {nine : Bool} {r18 : List Pt} {r19 : List Pt × Bool} (hn : 1 ≤ n ∧ n ≤ 60) (h4 : H4 L r10 r11.2 r11.1) (h5 : H5 L r14.1 r14.2 r13.1 r13.2) (h6 : H6 nine r13.1 r13.2 α β γ δ u v) (h7 : H7 L r19.2 r18 r19.1) (hL : 6000 < L) :
    ∀ (m i : Nat), i ≤ (kAll L n n.toNat).length → (kAll L n n.toNat).length - i < m → laws_FnKindsTold_l15 L n (kAll L n n.toNat, true) r10 r11 r13 r14 (α, β, γ, δ, u, v, nine) r18 r19 m (i : Int) = some true := by
  have hlen := kAll_len (L := L) hn n.toNat
  have hmem : ∀ x ∈ kAll L n n.toNat, ∃ a b d : Int, x = [a, b, d] ∧ (1 ≤ a ∧ a ≤ n.toNat) ∧ (0 ≤ b ∧ b < d) ∧ a * d = n ∧ IsK L a b d := fun x hx => kAll_mem hn.1 hx
  have hsort := List.pairwise_iff_getElem.1 (kAll_sorted (L := L) hn.1 n.toNat)
  generalize kAll L n n.toNat = K at *
  intro m
  induction m with
  | zero => intro i _ h; omega
  | succ m ih =>
    intro i hi hm
    rw [laws_FnKindsTold_l15]
    by_cases h : (i : Int) < (K.length : Int)
    · have hlt : i < K.length := by omega
      have wi : wr IntKind.i64 (iadd (i : Int) 1) = ((i + 1 : Nat) : Int) := by rw [iadd_eq, wr_s (by omega)]; omega
      have hg : lget K (i : Int) = some K[i] := by rw [lget_eq, if_pos (by omega), Int.toNat_natCast, List.getElem?_eq_getElem hlt]
      obtain ⟨a, b, d, hx, ha, hb, had, _⟩ := hmem _ (List.getElem_mem hlt)
      have hso := fun (j : Nat) (hj : j < i) => hsort j i (by omega) hlt hj
      rw [hx] at hg hso
      have x0 : lget [a, b, d] 0 = some a := by rw [lget_eq]; rfl
      have x1 : lget [a, b, d] 1 = some b := by rw [lget_eq]; rfl
      have x2 : lget [a, b, d] 2 = some d := by rw [lget_eq]; rfl
      have wm : wr IntKind.i64 (imul a d) = n := by rw [imul_eq, had, wr_id (by omega)]
      have nxt := ih (i + 1) (by omega) (by omega)
      simp only [ilen_mapLI, ilt_eq, ile_eq, h, show (0 : Int) ≤ (i : Int) by omega, decide_true, Bool.and_self, cond_true, hg, gbind_eq, Option.bind_some, x0, x1, x2, wm, ieq_eq, Bool.not_true, cond_false, wi, nxt]
      by_cases hp : (0 : Int) < (i : Int)
      · obtain ⟨j, rfl⟩ : ∃ j, i = j + 1 := ⟨i - 1, by omega⟩
        have wj : wr IntKind.i64 (isub ((j + 1 : Nat) : Int) 1) = (j : Int) := by rw [isub_eq, wr_id (by omega)]; omega
        have hjl : j < K.length := by omega
        have hgj : lget K (j : Int) = some K[j] := by rw [lget_eq, if_pos (by omega), Int.toNat_natCast, List.getElem?_eq_getElem hjl]
        obtain ⟨a', b', d', hx', _⟩ := hmem _ (List.getElem_mem hjl)
        have hs := hso j (by omega)
        rw [hx'] at hgj hs
        have y0 : lget [a', b', d'] 0 = some a' := by rw [lget_eq]; rfl
        have y1 : lget [a', b', d'] 1 = some b' := by rw [lget_eq]; rfl
        have hs' : a' < a ∨ a' = a ∧ b' < b := hs
        have c1 : ¬ a < a' := by omega
        simp only [hp, decide_true, cond_true, wj, show (0 : Int) ≤ (j : Int) by omega, show (j : Int) < (K.length : Int) by omega, Bool.and_self, hgj, Option.bind_some, y0, y1, c1, decide_false, cond_false]
        by_cases e : a' = a
        · have c2 : ¬ b ≤ b' := by omega
          simp only [e, decide_true, cond_true, c2, decide_false, cond_false]
        · simp only [e, decide_false, cond_false]
      · simp only [hp, decide_false, cond_false]
    · simp only [ilen_mapLI, ilt_eq, h, decide_false, cond_false]
      exact told_j10 h4 h5 h6 h7 hL
end Go.AM
namespace Go.AM
theorem told_j3 {L : Nat} {n : Int} {r6 : List (List Int) × Bool} {r8 : Int × Bool} {r10 : List Int} {r11 : List Pt × Bool} {r13 : List Pt × List Pt} {r14 : Bool × Bool} {α β γ δ u v : Int} {nine : Bool} {r18 : List Pt} {r19 : List Pt × Bool}
    (hk : (r6 = (kAll L n n.toNat, true) ∧ r8 = (((kAll L n n.toNat).length : Int), true) ∧ (1 ≤ n ∧ n ≤ 60)) ∨ (r6 = ([], false) ∧ r8 = (0, false)))
    (h4 : H4 L r10 r11.2 r11.1) (h5 : H5 L r14.1 r14.2 r13.1 r13.2) (h6 : H6 nine r13.1 r13.2 α β γ δ u v) (h7 : H7 L r19.2 r18 r19.1) (h9 : nine = true → r14 = (true, true)) (hL : 6000 < L) :
    laws_FnKindsTold_j3 L n r6 r8 r10 r11 r13 r14 (α, β, γ, δ, u, v, nine) r18 r19 false = some true := by
  unfold laws_FnKindsTold_j3
  rcases hk with ⟨rfl, rfl, hn⟩ | ⟨rfl, rfl⟩
  · have one := kAll_one (L := L) hn hL
    have hlen := kAll_len (L := L) hn n.toNat
    have c1 : ¬ (((kAll L n n.toNat).length : Int) < 1) := by omega
    have a1 := told_l9 (L := L) (n := n) (nine := nine) hn h4 h5 h6 h7 hL L 0 (by omega) (by omega)
    have a2 := told_l15 (L := L) (n := n) (nine := nine) hn h4 h5 h6 h7 hL L 0 (by omega) (by omega)
    have a1' : laws_FnKindsTold_l9 L n (kAll L n n.toNat, true) r10 r11 r13 r14 (α, β, γ, δ, u, v, nine) r18 r19 L 0 = some true := a1
    have a2' : laws_FnKindsTold_l15 L n (kAll L n n.toNat, true) r10 r11 r13 r14 (α, β, γ, δ, u, v, nine) r18 r19 L 0 = some true := a2
    cases nine with
    | true =>
      obtain rfl := h9 rfl
      simp only [cond_false, cond_true, Bool.not_true, ilen_mapLI, ieq_eq, decide_true, ilt_eq, c1, decide_false, a1']
    | false =>
      simp only [cond_false, cond_true, Bool.not_true, ilen_mapLI, ieq_eq, decide_true, ilt_eq, c1, decide_false, a2']
  · cases nine with
    | true =>
      obtain rfl := h9 rfl
      simp only [cond_false, cond_true, Bool.not_true]
      exact told_j4 h4 h5 h6 h7 hL
    | false =>
      simp only [cond_false]
      exact told_j10 h4 h5 h6 h7 hL
theorem told_j0 {L : Nat} {b : List Int} (hb : By b) (hL : 6000 < L) : laws_FnKindsTold_j0 L b = some true := by
  obtain ⟨n, n1, n2⟩ := drawKinds_dr (L := L) hb
  obtain ⟨k, k1, k2⟩ := drawTriOf_dr hb hL
  obtain ⟨p, q, d1⟩ := drawAlike_dr hb hL
  obtain ⟨r, d2⟩ := drawKindPoly_dr (L := L) hb (by omega)
  obtain ⟨r11, t1, t2, t3⟩ := triangleOf_eq (L := L) (a := k) (by omega)
  obtain ⟨r16, m1, m2, m3⟩ := moveBetween_eq (L := L) (p := p) (q := q) hL
  obtain ⟨r19, f1, f2, f3, f4⟩ := kindPoly_eq (L := L) (a := r) hL
  have h4 : H4 L k r11.2 r11.1 := fun hr => by
    obtain ⟨x, y, z, e1, e2, e3, e4⟩ := triangleOf_true hL t2 hr
    rw [e2, e1]
    exact ⟨kindOfTriangle_yes rfl e3 e4 hL, by simp⟩
  have h7 : H7 L r19.2 r r19.1 := fun hr => f4 hr
  obtain ⟨α, β, γ, δ, u, v, nine⟩ := r16
  have h6 : H6 nine p q α β γ δ u v := fun hr => by
    obtain ⟨⟨g1, g2, hl⟩, mv⟩ := m3 hr
    obtain ⟨k', s, α', β', γ', δ', u', v', hs, hi, hm, e⟩ := mv hr
    simp only [Prod.mk.injEq] at e
    obtain ⟨rfl, rfl, rfl, rfl, rfl, rfl, _⟩ := e
    exact ⟨g1, g2, hl, hm, k', s, hs, hi⟩
  have al : ∃ r14 : Bool × Bool, spec_AreAlike L p q = some r14 ∧ impl_AreAlike L p q = some r14 ∧ H5 L r14.1 r14.2 p q ∧ (nine = true → r14 = (true, true)) := by
    by_cases g : Good_ p ∧ Good_ q
    · obtain ⟨f, _, kf⟩ := mvKind_eq (L := L) (fa_of g.1) (by omega)
      obtain ⟨f', _, kf'⟩ := mvKind_eq (L := L) (fa_of g.2) (by omega)
      obtain ⟨a1, a2⟩ := alike_val g.1 g.2 hL kf kf'
      refine ⟨_, a1, a2, fun _ => ⟨g.1, g.2, f, f', kf, kf', rfl⟩, fun hr => ?_⟩
      obtain ⟨_, _, hl, _, k', s, hs, hi⟩ := h6 hr
      have := kind_of_img hl (fa_of g.1) (fa_of g.2) hs (by omega) hi kf kf'
      subst this
      simp
    · obtain ⟨a1, a2⟩ := alike_no (L := L) g hL
      have h5' : H5 L false false p q := fun h => by cases h
      refine ⟨(false, false), a1, a2, h5', fun hr => ?_⟩
      obtain ⟨g1, g2, _⟩ := h6 hr
      exact absurd ⟨g1, g2⟩ g
  obtain ⟨r14, a1, a2, h5, h9⟩ := al
  have kk : ∃ r6 : List (List Int) × Bool, ∃ r8 : Int × Bool, spec_KindsOfArea L n = some r6 ∧ impl_KindsOfArea L n = some r6 ∧ spec_CountKinds L n = some r8 ∧ impl_CountKinds L n = some r8 ∧ r8.2 = r6.2 ∧ laws_zRows L r6.1 r6.1 = some true ∧
      ((r6 = (kAll L n n.toNat, true) ∧ r8 = (((kAll L n n.toNat).length : Int), true) ∧ (1 ≤ n ∧ n ≤ 60)) ∨ (r6 = ([], false) ∧ r8 = (0, false))) := by
    by_cases hn : 1 ≤ n ∧ n ≤ 60
    · obtain ⟨q1, q2, q3, q4⟩ := kindsOf_yes hn hL
      have hlen := kAll_len (L := L) hn n.toNat
      refine ⟨_, _, q1, q2, q3, q4, rfl, zRows_eq (a := kAll L n n.toNat) (by omega) (fun x hx => ?_) (by omega) (by omega), .inl ⟨rfl, rfl, hn⟩⟩
      have := kAll_row hn x hx
      omega
    · obtain ⟨q1, q2, q3, q4⟩ := kindsOf_no (L := L) hn
      exact ⟨_, _, q1, q2, q3, q4, rfl, zRows_eq (by simp) (fun x hx => by simp at hx) (by omega) (by simp; omega), .inr ⟨rfl, rfl⟩⟩
  obtain ⟨r6, r8, c1, c2, c3, c4, c5, c6, hk⟩ := kk
  have j3 := told_j3 (r10 := k) (r11 := r11) (r13 := (p, q)) (r14 := r14) (nine := nine) (r18 := r) (r19 := r19) hk h4 h5 h6 h7 h9 hL
  have z11 := zPegs_eq (L := L) (a := r11.1) (by omega) (by omega)
  have z19 := zPegs_eq (L := L) (a := r19.1) (by omega) (by omega)
  have j2 : laws_FnKindsTold_j2 L n r6 r8 k r11 (p, q) r14 (α, β, γ, δ, u, v, nine) (α, β, γ, δ, u, v, nine) r r19 r19 false = some true := by
    unfold laws_FnKindsTold_j2
    simp only [cond_false, ieq_eq, decide_true, Bool.and_self, Bool.not_true, beqb_eq, beq_self_eq_true, z19, gbind_eq, Option.bind_some, c5, j3]
  have j1 : laws_FnKindsTold_j1 L n r6 r8 k r11 r11 (p, q) r14 r14 (α, β, γ, δ, u, v, nine) (α, β, γ, δ, u, v, nine) r r19 r19 false = some true := by
    unfold laws_FnKindsTold_j1
    simp only [cond_false, Bool.not_true, beqb_eq, beq_self_eq_true, z11, gbind_eq, Option.bind_some, j2]
  unfold laws_FnKindsTold_j0
  simp only [n1, c1, c2, c3, c4, k1, t1, t2, d1, a1, a2, m1, m2, d2, f1, f2, gbind_eq, Option.bind_some, beqb_eq, beq_self_eq_true, Bool.not_true, cond_false, c6, ieq_eq, decide_true, j1]
theorem told_l17 {L : Nat} {b : List Int} {r2 : List Int × Bool} {K : List (List Int)} (hb : By b) (hL : 6000 < L) (h2 : (r2.1.length : Int) ≤ 3) (hK : (K.length : Int) ≤ 100000) (hrow : ∀ x ∈ K, (x.length : Int) ≤ 3) :
    ∀ (m i : Nat) (f : Bool), i ≤ K.length → K.length - i < m → (f = true ∨ r2.1 ∈ K.drop i) → laws_FnKindsTold_l17 L b r2 (K, true) m f (i : Int) = some true := by
  intro m
  induction m with
  | zero => intro i f _ h; omega
  | succ m ih =>
    intro i f hi hm hf
    rw [laws_FnKindsTold_l17]
    by_cases h : (i : Int) < (K.length : Int)
    · have hlt : i < K.length := by omega
      have wi : wr IntKind.i64 (iadd (i : Int) 1) = ((i + 1 : Nat) : Int) := by rw [iadd_eq, wr_s (by omega)]; omega
      have hg : lget K (i : Int) = some K[i] := by rw [lget_eq, if_pos (by omega), Int.toNat_natCast, List.getElem?_eq_getElem hlt]
      have hx := hrow _ (List.getElem_mem hlt)
      simp only [ilen_mapLI, ilt_eq, ile_eq, h, show (0 : Int) ≤ (i : Int) by omega, decide_true, Bool.and_self, cond_true, hg, gbind_eq, Option.bind_some, wi, (sameI (L := L) (a := K[i]) (b := r2.1) (by omega) (by omega)).2.2]
      cases f with
      | true =>
        simp only [cond_true]
        exact ih (i + 1) true (by omega) (by omega) (.inl rfl)
      | false =>
        simp only [cond_false]
        refine ih (i + 1) _ (by omega) (by omega) ?_
        rcases hf with hf | hf
        · cases hf
        · rw [List.drop_eq_getElem_cons hlt, List.mem_cons] at hf
          rcases hf with hf | hf
          · exact .inl (by simp [hf])
          · exact .inr hf
    · have e : K.drop i = [] := List.drop_of_length_le (by omega)
      rw [e] at hf
      have hf' : f = true := by
        rcases hf with hf | hf
        · exact hf
        · cases hf
      subst hf'
      simp only [ilen_mapLI, ilt_eq, h, decide_false, cond_false, Bool.not_true]
      exact told_j0 hb hL
theorem kindsTold_law (a b : List Int) (ha : By a) (hb : By b) : ∃ L, laws_FnKindsTold L a b = some true := by
  refine ⟨2000000, ?_⟩
  unfold laws_FnKindsTold
  obtain ⟨r, hr⟩ := big_eq (L := 2000000) (a := a) (b := b)
  simp only [hr, gbind_eq, Option.bind_some]
  cases r with
  | true => rfl
  | false =>
    obtain ⟨t, d1⟩ := drawKindTri_dr (L := 2000000) ha (by omega)
    obtain ⟨r2, q1, q2, q3, q4⟩ := kindOfTriangle_full (L := 2000000) (t := t) (by omega)
    have sm := (sameI (L := 2000000) (a := r2.1) (b := r2.1) (by omega) (by omega)).2.2
    have j0 := told_j0 (L := 2000000) hb (by omega)
    simp only [cond_false, d1, q1, q2, Option.bind_some, beqb_eq, beq_self_eq_true, Bool.not_true, sm, decide_true]
    by_cases hf : r2.2 = true
    · obtain ⟨g, x, y, z, e, hk, x0, y0, yz, har⟩ := q4 hf
      obtain ⟨r2a, r2b⟩ := r2
      simp only at e hf
      subst e; subst hf
      obtain ⟨ta, tb⟩ := twiceArea_yes (L := 2000000) g (by omega)
      have zb := zAbs_eq (L := 2000000) tb
      have l3 : ilen (List.map eI [x, y, z]) = 3 := by rw [ilen_eq]; rfl
      have g0 : lget [x, y, z] 0 = some x := by rw [lget_eq]; rfl
      have g1 : lget [x, y, z] 1 = some y := by rw [lget_eq]; rfl
      have g2 : lget [x, y, z] 2 = some z := by rw [lget_eq]; rfl
      have wm : wr IntKind.i64 (imul x z) = ((area t).natAbs : Int) := by rw [imul_eq, har, wr_id (by omega)]
      obtain ⟨r58, s1, s2, s3⟩ := triangleOf_eq (L := 2000000) (a := [x, y, z]) (by omega)
      have j16 : laws_FnKindsTold_j16 2000000 b ([x, y, z], true) (area t, true) = some true := by
        unfold laws_FnKindsTold_j16
        simp only [zb, gbind_eq, Option.bind_some, ile_eq]
        by_cases h60 : ((area t).natAbs : Int) ≤ 60
        · have hn : 1 ≤ ((area t).natAbs : Int) ∧ ((area t).natAbs : Int) ≤ 60 := by
            have := Int.mul_pos x0 (show 0 < z by omega)
            omega
          obtain ⟨_, c2, _, _⟩ := kindsOf_yes (L := 2000000) hn (by omega)
          have hlen := kAll_len (L := 2000000) hn ((area t).natAbs : Int).toNat
          have xz : (x ≤ 60 ∧ z ≤ 60) ∧ x ≤ ((area t).natAbs : Int) := by
            have m1 := Int.mul_le_mul_of_nonneg_left (show 1 ≤ z by omega) (show 0 ≤ x by omega)
            have m2 := Int.mul_le_mul_of_nonneg_right (show 1 ≤ x by omega) (show 0 ≤ z by omega)
            omega
          have ik := isK_kind (fa_of g) (by omega) hk (show 0 < x ∧ x ≤ 1000 by omega) ⟨y0, yz⟩ (by omega)
          have mem := kAll_has (L := 2000000) (n := ((area t).natAbs : Int)) hn.1 (show 1 ≤ x by omega) ⟨y0, yz⟩ har ik ((area t).natAbs : Int).toNat (by omega)
          have l17 := told_l17 (L := 2000000) (b := b) (r2 := ([x, y, z], true)) (K := kAll 2000000 ((area t).natAbs : Int) ((area t).natAbs : Int).toNat) hb (by omega) (by simp) (by omega) (kAll_row hn) 2000000 0 false (by omega) (by omega) (.inr (by simpa using mem))
          simp only [h60, decide_true, cond_true, c2, Option.bind_some]
          exact l17
        · simp only [h60, decide_false, cond_false, j0]
      simp only [cond_true, ta, Option.bind_some, Bool.not_true, cond_false, l3, ieq_eq, decide_true, ile_eq, ilt_eq, Int.le_refl, show (0 : Int) < 3 by omega, show (1 : Int) < 3 by omega, show (2 : Int) < 3 by omega, show (0 : Int) ≤ 1 by omega, show (0 : Int) ≤ 2 by omega, Bool.and_self, g0, g1, g2, zb, wm,
        show ¬ x < 1 by omega, show ¬ y < 0 by omega, show ¬ z ≤ y by omega, decide_false, s2]
      by_cases h58 : r58.2 = true
      · obtain ⟨x', y', z', e1, e2, e3, e4⟩ := triangleOf_true (by omega) s2 h58
        simp only [List.cons.injEq, and_true] at e1
        obtain ⟨rfl, rfl, rfl⟩ := e1
        obtain ⟨f, _, kf⟩ := mvKind_eq (L := 2000000) (fa_of e3) (by omega)
        have own := kind_own (fa_of g) (by omega) hk (fa_of e3).nr
        have al := (alike_val g e3 (by omega) hk own).2
        rw [← e2] at al
        simp only [h58, cond_true, al, Option.bind_some, decide_true, Bool.not_true, cond_false, j16]
      · simp only [Bool.not_eq_true] at h58
        simp only [h58, cond_false, j16]
    · simp only [Bool.not_eq_true] at hf
      simp only [hf, cond_false, j0]
end Go.AM
