import Derived.Test.YtkafhfnfdmdkgaaGreatAmM0
set_option linter.unusedVariables false
set_option linter.unusedSimpArgs false
set_option linter.unnecessarySimpa false
set_option linter.deprecated false
set_option linter.unusedSectionVars false
namespace Go.AM
theorem wr_i {v : Int} (h : 0 ≤ v ∧ v ≤ 1000000) : wr IntKind.i64 (v + 1) = v + 1 := wr_id (by omega)
noncomputable def frs (L : Nat) (p : List Pt) (n : Nat) : List (List Pt) := (List.range n).map fun (j : Nat) => FR L p (j : Int) 1
theorem frs_succ (L : Nat) (p : List Pt) (n : Nat) : frs L p (n + 1) = frs L p n ++ [FR L p (n : Int) 1] := by simp [frs, List.range_succ]
theorem frs_len (L : Nat) (p : List Pt) (n : Nat) : (frs L p n).length = n := by simp [frs]
theorem mvFrames_l1 {L : Nat} {κ0 : Int → Int → List (List Pt) → List (List Pt) → Option (List (List Pt))} {v11 v12 : Int} {w1 : List (List Pt)} {p : List Pt} {w : List (List Pt)} (hp : Fa p) (hL : 5000 < L) (h12 : 0 ≤ v12 ∧ v12 ≤ 1000) (hw : w.length ≤ 10000) :
    ∀ (m n : Nat), n ≤ p.length → p.length - n < m → spec_mvFrames_l1 L κ0 v11 v12 w1 p m (n : Int) (w ++ frs L p n) = κ0 v11 (v12 + 1) (w ++ frs L p p.length) w1
  | 0, _, _, h => by omega
  | m + 1, n, hn, hm => by
    have hi := hp.hi
    by_cases h : n < p.length
    · have c1 : lcat (lcat [] (lsub p (n : Int) (p.length : Int))) (lsub p 0 (n : Int)) = tour p (n : Int) 1 p.length := by
        rw [← rot_eq (c := p) (k := (n : Int)) (by omega) (by omega)]
        simp only [lcat_eq, lsub_eq, List.nil_append, Int.toNat_natCast]
        rw [List.take_of_length_le (by simp)]
        simp
      have f1 : fits (iadd (ilen ([] : List AV)) (ilen (lsub (List.map ep p) (n : Int) (p.length : Int)))) 16 = true := by
        refine fits_s ?_
        simp only [iadd_eq, ilen_eq, lsub_eq, List.length_take, List.length_drop, List.length_map, List.length_nil]
        omega
      have f2 : fits (iadd (ilen (lcat [] (lsub (List.map ep p) (n : Int) (p.length : Int)))) (ilen (lsub (List.map ep p) 0 (n : Int)))) 16 = true := by
        refine fits_s ?_
        simp only [iadd_eq, ilen_eq, lcat_eq, lsub_eq, List.length_append, List.length_take, List.length_drop, List.length_map, List.length_nil]
        omega
      have f3 : ∀ x : AV, fits (iadd (ilen (List.map eLP (w ++ frs L p n))) (ilen [x])) 24 = true := fun x => by
        refine fits_s ?_
        simp only [iadd_eq, ilen_eq, List.length_map, List.length_append, frs_len, List.length_cons, List.length_nil]
        omega
      obtain ⟨e1, _⟩ := FR_eq (L := L) hp (k := (n : Int)) (.inl rfl) hL
      have b1 : ((n : Int) < (p.length : Int)) = True := by simp; omega
      have b2 : ((0 : Int) ≤ (n : Int)) = True := by simp
      have b3 : ((n : Int) ≤ (p.length : Int)) = True := by simp; omega
      have wv : wr IntKind.i64 (iadd (n : Int) 1) = ((n + 1 : Nat) : Int) := by simp only [iadd_eq]; rw [wr_i (by omega)]; rfl
      simp only [spec_mvFrames_l1, ilt_eq, ile_eq, ilen_mapep, b1, b2, b3, decide_true, Bool.and_self, cond_true, f1, f2, c1, e1, gbind_eq, Option.bind_some, f3, wv]
      have e : lcat (w ++ frs L p n) [FR L p (n : Int) 1] = w ++ frs L p (n + 1) := by rw [lcat_eq, frs_succ, List.append_assoc]
      rw [e]
      exact mvFrames_l1 hp hL h12 hw m (n + 1) (by omega) (by omega)
    · have e : n = p.length := by omega
      subst e
      simp only [spec_mvFrames_l1, ilt_eq, ilen_mapep, Int.lt_irrefl, decide_false, cond_false, iadd_eq, wr_i (v := v12) (by omega)]
theorem mvFrames_eq {L : Nat} {a : List Pt} (ha : Fa a) (hL : 5000 < L) : spec_mvFrames L a = some (frs L a a.length ++ frs L (tour a 0 (-1) a.length) a.length) := by
  have hi := ha.hi
  have hb := ha.tour (k := 0) (s := -1) (.inr rfl)
  unfold spec_mvFrames
  rw [spec_pgBack_eq ha.ne (by omega) (by omega)]
  simp only [gbind_eq, Option.bind_some]
  have h2 : ilen [AV.lst false false 2 (List.map ep a), AV.lst false false 2 (List.map ep (tour a 0 (-1) a.length))] = 2 := by rw [ilen_eq]; rfl
  have h3 : ilen (List.map eLP (a :: tour a 0 (-1) a.length :: [])) = 2 := by rw [ilen_eq]; rfl
  rw [h2]
  obtain ⟨m, rfl⟩ : ∃ m, L = m + 3 := ⟨L - 3, by omega⟩
  have g0 : lget (a :: tour a 0 (-1) a.length :: []) 0 = some a := by rw [lget_eq]; rfl
  have g1 : lget (a :: tour a 0 (-1) a.length :: []) 1 = some (tour a 0 (-1) a.length) := by rw [lget_eq]; rfl
  have q1 := fun κ0 => mvFrames_l1 (κ0 := κ0) (v11 := 2) (v12 := 0) (w1 := a :: tour a 0 (-1) a.length :: []) (w := []) ha hL (by omega) (by simp) (m + 3) 0 (by omega) (by omega)
  have q2 := fun κ0 => mvFrames_l1 (κ0 := κ0) (v11 := 2) (v12 := 1) (w1 := a :: tour a 0 (-1) a.length :: []) (w := frs (m + 3) a a.length) hb hL (by omega) (by rw [frs_len]; omega) (m + 3) 0 (by omega) (by rw [tour_len]; omega)
  have z : ∀ p, frs (m + 3) p 0 = [] := fun p => rfl
  simp only [z, List.append_nil, List.nil_append, tour_len, show ((0 : Nat) : Int) = 0 from rfl] at q1 q2
  simp only [spec_mvFrames_l0, ilt_eq, ile_eq, h3, show ((0 : Int) < 2) = True by simp, show ((1 : Int) < 2) = True by simp, show ((0 : Int) ≤ 0) = True by simp, show ((0 : Int) ≤ 1) = True by simp, decide_true, Bool.and_self, cond_true, gbind_eq, g0, g1, Option.bind_some, q1, q2,
    show ((0 : Int) + 1) = 1 by rfl, show ((1 : Int) + 1) = 2 by rfl, Int.lt_irrefl, decide_false, cond_false]
theorem mvKind_l0 {L : Nat} {n : Int} {r : List (List Pt)} (hn : 0 < n) (hs : n ≤ 10000) (hr : (r.length : Int) ≤ 100000) (hlen : ∀ f ∈ r, (f.length : Int) = n) (hL : n < L) :
    ∀ (m v : Nat) (best : List Pt), v ≤ r.length → r.length - v < m → ((v = 0 ∧ best = []) ∨ (best ∈ r ∧ ∀ j f, j < v → r[j]? = some f → ¬ Lx n f best)) → r ≠ [] →
      ∃ b, spec_mvKind_l0 L r m best (v : Int) = some b ∧ b ∈ r ∧ ∀ f ∈ r, ¬ Lx n f b
  | 0, _, _, _, h, _, _ => by omega
  | m + 1, v, best, hv, hm, hb, hne => by
    have e0 : ilen (List.map eLP r) = (r.length : Int) := by rw [ilen_map, ilen_eq]
    by_cases h : v < r.length
    · have hg : lget r (v : Int) = some r[v] := by rw [lget_eq, if_pos (by omega), Int.toNat_natCast]; exact List.getElem?_eq_getElem h
      have hm0 : r[v] ∈ r := List.getElem_mem h
      have b1 : ((v : Int) < (r.length : Int)) = True := by simp; omega
      have b2 : ((0 : Int) ≤ (v : Int)) = True := by simp
      have wv : wr IntKind.i64 (iadd (v : Int) 1) = ((v + 1 : Nat) : Int) := by simp only [iadd_eq]; rw [wr_i (by omega)]; rfl
      simp only [spec_mvKind_l0, ilt_eq, ile_eq, e0, b1, b2, decide_true, Bool.and_self, cond_true, gbind_eq, hg, Option.bind_some, ieq_eq, ilen_mapep, wv]
      rcases hb with ⟨rfl, rfl⟩ | ⟨hbr, hmin⟩
      · simp only [List.length_nil, show ((0 : Nat) : Int) = 0 from rfl, decide_true, cond_true]
        refine mvKind_l0 hn hs hr hlen hL m (0 + 1) _ (by omega) (by omega) (.inr ⟨hm0, fun j f hj hf => ?_⟩) hne
        have : j = 0 := by omega
        subst this
        rw [List.getElem?_eq_getElem h] at hf
        cases hf
        exact Lx.irrefl
      · have hz : ¬ ((best.length : Int) = 0) := by rw [hlen best hbr]; omega
        obtain ⟨t, t1, t2⟩ := spec_mvBefore_eq (L := L) (hlen _ hm0) (hlen best hbr) (by omega) hL
        simp only [hz, decide_false, cond_false, t1, Option.bind_some]
        cases t with
        | true =>
          have hlt := t2.1 rfl
          simp only [cond_true]
          refine mvKind_l0 hn hs hr hlen hL m (v + 1) _ (by omega) (by omega) (.inr ⟨hm0, fun j f hj hf hx => ?_⟩) hne
          by_cases hjv : j = v
          · subst hjv
            rw [List.getElem?_eq_getElem h] at hf
            cases hf
            exact Lx.irrefl hx
          · exact hmin j f (by omega) hf (hx.trans hlt)
        | false =>
          have hlt : ¬ Lx n r[v] best := fun e => by have := t2.2 e; cases this
          simp only [cond_false]
          refine mvKind_l0 hn hs hr hlen hL m (v + 1) _ (by omega) (by omega) (.inr ⟨hbr, fun j f hj hf hx => ?_⟩) hne
          by_cases hjv : j = v
          · subst hjv
            rw [List.getElem?_eq_getElem h] at hf
            cases hf
            exact hlt hx
          · exact hmin j f (by omega) hf hx
    · have b1 : ((v : Int) < (r.length : Int)) = False := by simp; omega
      simp only [spec_mvKind_l0, ilt_eq, e0, b1, decide_false, cond_false]
      rcases hb with ⟨rfl, rfl⟩ | ⟨hbr, hmin⟩
      · exact absurd (List.length_eq_zero_iff.1 (by omega)) hne
      · refine ⟨best, rfl, hbr, fun f hf => ?_⟩
        obtain ⟨j, hj, e⟩ := List.getElem_of_mem hf
        exact hmin j f (by omega) (by rw [List.getElem?_eq_getElem hj, e])
def IsKind (L : Nat) (a f : List Pt) : Prop := (∃ k s, (s = 1 ∨ s = -1) ∧ f = FR L a k s) ∧ ∀ k s, (s = 1 ∨ s = -1) → ¬ Lx a.length (FR L a k s) f
theorem FR_back {L : Nat} {a : List Pt} (ha : a ≠ []) (k : Int) : FR L (tour a 0 (-1) a.length) k 1 = FR L a (-k) (-1) := by
  unfold FR
  rw [tour_len, tour_back ha]
theorem mem_frs {L : Nat} {p : List Pt} {n : Nat} {f : List Pt} : f ∈ frs L p n ↔ ∃ j : Nat, j < n ∧ f = FR L p (j : Int) 1 := by
  unfold frs
  simp only [List.mem_map, List.mem_range]
  constructor
  · rintro ⟨j, h1, h2⟩; exact ⟨j, h1, h2.symm⟩
  · rintro ⟨j, h1, h2⟩; exact ⟨j, h1, h2.symm⟩
theorem frames_all {L : Nat} {a f : List Pt} (ha : Fa a) : f ∈ frs L a a.length ++ frs L (tour a 0 (-1) a.length) a.length ↔ ∃ k s, (s = 1 ∨ s = -1) ∧ f = FR L a k s := by
  have hl : 0 < (a.length : Int) := by have := ha.lo; omega
  rw [List.mem_append, mem_frs, mem_frs]
  constructor
  · rintro (⟨j, _, rfl⟩ | ⟨j, _, rfl⟩)
    · exact ⟨j, 1, .inl rfl, rfl⟩
    · exact ⟨-j, -1, .inr rfl, FR_back ha.ne _⟩
  · rintro ⟨k, s, rfl | rfl, rfl⟩
    · left
      have h1 := Int.emod_nonneg k (show (a.length : Int) ≠ 0 by omega)
      have h2 := Int.emod_lt_of_pos k hl
      refine ⟨(k % a.length).toNat, by omega, FR_mod ?_⟩
      rw [Int.toNat_of_nonneg h1, Int.emod_emod_of_dvd _ (Int.dvd_refl _)]
    · right
      have h1 := Int.emod_nonneg (-k) (show (a.length : Int) ≠ 0 by omega)
      have h2 := Int.emod_lt_of_pos (-k) hl
      refine ⟨((-k) % a.length).toNat, by omega, ?_⟩
      rw [FR_back ha.ne]
      refine FR_mod ?_
      rw [Int.toNat_of_nonneg h1]
      have := Int.mul_ediv_add_emod (-k) a.length
      have e : -(-k % (a.length : Int)) = k + a.length * (-k / a.length) := by omega
      rw [e, Int.add_mul_emod_self_left]
theorem mvKind_eq {L : Nat} {a : List Pt} (ha : Fa a) (hL : 5000 < L) : ∃ f, spec_mvKind L a = some f ∧ IsKind L a f := by
  have hi := ha.hi; have lo := ha.lo
  unfold spec_mvKind
  rw [mvFrames_eq ha hL]
  simp only [gbind_eq, Option.bind_some]
  obtain ⟨b, h1, h2, h3⟩ := mvKind_l0 (L := L) (n := (a.length : Int)) (r := frs L a a.length ++ frs L (tour a 0 (-1) a.length) a.length) (by omega) (by omega) (by simp [frs_len]; omega) (fun f hf => by
    obtain ⟨k, s, hs, rfl⟩ := (frames_all ha).1 hf
    exact_mod_cast (FR_eq ha hs hL).2.2.1) (by omega) L 0 [] (by omega) (by simp [frs_len]; omega) (.inl ⟨rfl, rfl⟩) (by
    intro e
    have := congrArg List.length e
    rw [List.length_append, frs_len, frs_len] at this
    simp only [List.length_nil] at this
    omega)
  exact ⟨b, h1, (frames_all ha).1 h2, fun k s hs => h3 _ ((frames_all ha).2 ⟨k, s, hs, rfl⟩)⟩
theorem IsKind.len {L : Nat} {a f : List Pt} (ha : Fa a) (hL : 5000 < L) (h : IsKind L a f) : f.length = a.length := by
  obtain ⟨⟨k, s, hs, rfl⟩, _⟩ := h
  exact (FR_eq ha hs hL).2.2.1
theorem IsKind.eq {L : Nat} {a f g : List Pt} (ha : Fa a) (hL : 5000 < L) (h : IsKind L a f) (k : IsKind L a g) : f = g := by
  refine Lx.eq (n := (a.length : Int)) (by exact_mod_cast h.len ha hL) (by exact_mod_cast k.len ha hL) ?_ ?_
  · obtain ⟨⟨i, s, hs, rfl⟩, _⟩ := h; exact k.2 i s hs
  · obtain ⟨⟨i, s, hs, rfl⟩, _⟩ := k; exact h.2 i s hs
theorem ff_l1 {L : Nat} {κ0 : List Pt → Int → Int → List Pt → Option (List Pt)} {a w : List Pt} {v : Nat} {v11 : Int} (ha : Fa a) (hv : v < a.length) (hL : 5000 < L) (hw : w.length = a.length) :
    ∃ w', impl_firstFrame_l1 L κ0 a v11 (v : Int) L 0 w = κ0 a v11 ((v + 1 : Nat) : Int) w' ∧ (w' = w ∨ ∃ s, (s = 1 ∨ s = -1) ∧ w' = FR L a v s) ∧ (∀ f, ¬ Lx a.length f w → ¬ Lx a.length f w') ∧ ∀ s, (s = 1 ∨ s = -1) → ¬ Lx a.length (FR L a v s) w' := by
  have hi := ha.hi
  obtain ⟨m, hm⟩ : ∃ m, L = m + 3 := ⟨L - 3, by omega⟩
  have h2 : ilen [AV.int IntKind.i64 1, AV.int IntKind.i64 (-1)] = 2 := by rw [ilen_eq]; rfl
  have g0 : lget ((1 : Int) :: (-1 :: [])) 0 = some 1 := by rw [lget_eq]; rfl
  have g1 : lget ((1 : Int) :: (-1 :: [])) 1 = some (-1) := by rw [lget_eq]; rfl
  have t1 := impl_told_eq (L := L) (a := a) (k := (v : Int)) (s := 1) ha.ne (by omega) (by omega) (by omega) (by omega)
  have t2 := impl_told_eq (L := L) (a := a) (k := (v : Int)) (s := -1) ha.ne (by omega) (by omega) (by omega) (by omega)
  obtain ⟨_, f1, l1, _⟩ := FR_eq (L := L) ha (k := (v : Int)) (s := 1) (.inl rfl) hL
  obtain ⟨_, f2, l2, _⟩ := FR_eq (L := L) ha (k := (v : Int)) (s := -1) (.inr rfl) hL
  have step : ∀ (w : List Pt) (x : List Pt), w.length = a.length → x.length = a.length → ∃ c, impl_comparePolygons L x w = some c ∧ (c < 0 ↔ Lx a.length x w) := fun w x hw hx =>
    impl_comparePolygons_eq (by exact_mod_cast hx) (by exact_mod_cast hw) (by omega) (by omega)
  have pick : ∀ (w x : List Pt), w.length = a.length → x.length = a.length → ∃ c w', impl_comparePolygons L x w = some c ∧ ((c < 0 ∧ w' = x) ∨ (¬ c < 0 ∧ w' = w)) ∧ w'.length = a.length ∧ (∀ f, ¬ Lx a.length f w → ¬ Lx a.length f w') ∧ ¬ Lx a.length x w' := fun w x hw hx => by
    obtain ⟨c, c1, c2⟩ := step w x hw hx
    by_cases hc : c < 0
    · exact ⟨c, x, c1, .inl ⟨hc, rfl⟩, hx, fun f hf hfx => hf (hfx.trans (c2.1 hc)), Lx.irrefl⟩
    · exact ⟨c, w, c1, .inr ⟨hc, rfl⟩, hw, fun f hf => hf, fun e => hc (c2.2 e)⟩
  obtain ⟨c1, w1, p1, p2, p3, p4, p5⟩ := pick w _ hw l1
  obtain ⟨c2, w2, q1, q2, q3, q4, q5⟩ := pick w1 _ p3 l2
  refine ⟨w2, ?_, ?_, fun f hf => q4 f (p4 f hf), ?_⟩
  · have wv : wr IntKind.i64 (iadd (v : Int) 1) = ((v + 1 : Nat) : Int) := by simp only [iadd_eq]; rw [wr_i (by omega)]; rfl
    have w01 : wr IntKind.i64 (iadd 0 1) = 1 := by simp only [iadd_eq]; exact wr_id (by omega)
    have w12 : wr IntKind.i64 (iadd 1 1) = 2 := by simp only [iadd_eq]; exact wr_id (by omega)
    have r3 : ∀ m x, impl_firstFrame_l1 L κ0 a v11 (v : Int) (m + 1) 2 x = κ0 a v11 ((v + 1 : Nat) : Int) x := fun m x => by
      rw [impl_firstFrame_l1.eq_2]
      simp only [ilt_eq, h2, Int.lt_irrefl, decide_false, cond_false, wv]
    have r2 : ∀ m, impl_firstFrame_l1 L κ0 a v11 (v : Int) (m + 2) 1 w1 = κ0 a v11 ((v + 1 : Nat) : Int) w2 := fun m => by
      rw [show m + 2 = (m + 1) + 1 from rfl, impl_firstFrame_l1.eq_2]
      simp only [ilt_eq, ile_eq, h2, show ((1 : Int) < 2) = True by simp, show ((0 : Int) ≤ 1) = True by simp, decide_true, Bool.and_self, cond_true, gbind_eq, g1, Option.bind_some, t2, f2, q1, w12]
      rcases q2 with ⟨q2, rfl⟩ | ⟨q2, rfl⟩
      · simp only [q2, decide_true, cond_true]; exact r3 m _
      · simp only [q2, decide_false, cond_false]; exact r3 m _
    have r1 : impl_firstFrame_l1 L κ0 a v11 (v : Int) (m + 3) 0 w = κ0 a v11 ((v + 1 : Nat) : Int) w2 := by
      rw [show m + 3 = (m + 2) + 1 from rfl, impl_firstFrame_l1.eq_2]
      simp only [ilt_eq, ile_eq, h2, show ((0 : Int) < 2) = True by simp, show ((0 : Int) ≤ 0) = True by simp, decide_true, Bool.and_self, cond_true, gbind_eq, g0, Option.bind_some, t1, f1, p1, w01]
      rcases p2 with ⟨p2, rfl⟩ | ⟨p2, rfl⟩
      · simp only [p2, decide_true, cond_true]; exact r2 m
      · simp only [p2, decide_false, cond_false]; exact r2 m
    rw [← r1, ← hm]
  · rcases q2 with ⟨_, rfl⟩ | ⟨_, rfl⟩
    · exact .inr ⟨-1, .inr rfl, rfl⟩
    · rcases p2 with ⟨_, rfl⟩ | ⟨_, rfl⟩
      · exact .inr ⟨1, .inl rfl, rfl⟩
      · exact .inl rfl
  · rintro s (rfl | rfl)
    · exact q4 _ p5
    · exact q5
theorem firstFrame_eq {L : Nat} {a : List Pt} (ha : Fa a) (hL : 5000 < L) : ∃ f, impl_firstFrame L a = some f ∧ IsKind L a f := by
  have hi := ha.hi; have lo := ha.lo
  have f0 : impl_frame L a = some (FR L a 0 1) := by
    have := (FR_eq (L := L) ha (k := 0) (s := 1) (.inl rfl) hL).2.1
    rwa [tour_id ha.ne] at this
  have l0 := (FR_eq (L := L) ha (k := 0) (s := 1) (.inl rfl) hL).2.2.1
  unfold impl_firstFrame
  simp only [gbind_eq, f0, Option.bind_some, ilen_mapep]
  have key : ∀ (m v : Nat) (w : List Pt), v ≤ a.length → a.length - v < m → (∃ k s, (s = 1 ∨ s = -1) ∧ w = FR L a k s) → w.length = a.length → (∀ (j : Nat) s, j < v → (s = 1 ∨ s = -1) → ¬ Lx a.length (FR L a (j : Int) s) w) →
      ∃ f, impl_firstFrame_l0 L m a (a.length : Int) (v : Int) w = some f ∧ (∃ k s, (s = 1 ∨ s = -1) ∧ f = FR L a k s) ∧ ∀ (j : Nat) s, j < a.length → (s = 1 ∨ s = -1) → ¬ Lx a.length (FR L a (j : Int) s) f := by
    intro m
    induction m with
    | zero => intro v w _ h; omega
    | succ m ih =>
      intro v w hv hm hw hwl hmin
      by_cases h : v < a.length
      · have b1 : ((v : Int) < (a.length : Int)) = True := by simp; omega
        obtain ⟨w', e1, e2, e3, e4⟩ := ff_l1 (κ0 := impl_firstFrame_l0 L m) (v11 := (a.length : Int)) ha h hL hwl
        simp only [impl_firstFrame_l0, ilt_eq, b1, decide_true, cond_true, e1]
        have hw' : ∃ k s, (s = 1 ∨ s = -1) ∧ w' = FR L a k s := by
          rcases e2 with rfl | ⟨s, hs, rfl⟩
          · exact hw
          · exact ⟨_, s, hs, rfl⟩
        refine ih (v + 1) w' (by omega) (by omega) hw' ?_ fun j s hj hs => ?_
        · obtain ⟨k, s, hs, rfl⟩ := hw'; exact (FR_eq ha hs hL).2.2.1
        · by_cases hjv : j = v
          · subst hjv; exact e4 s hs
          · exact e3 _ (hmin j s (by omega) hs)
      · have b1 : ((v : Int) < (a.length : Int)) = False := by simp; omega
        simp only [impl_firstFrame_l0, ilt_eq, b1, decide_false, cond_false]
        exact ⟨w, rfl, hw, fun j s hj hs => hmin j s (by omega) hs⟩
  obtain ⟨f, h1, h2, h3⟩ := key L 0 (FR L a 0 1) (by omega) (by omega) ⟨0, 1, .inl rfl, rfl⟩ l0 (fun j s hj => by omega)
  refine ⟨f, h1, h2, fun k s hs => ?_⟩
  have q1 := Int.emod_nonneg k (show (a.length : Int) ≠ 0 by omega)
  have q2 := Int.emod_lt_of_pos k (show 0 < (a.length : Int) by omega)
  have := h3 (k % a.length).toNat s (by omega) hs
  rwa [FR_mod (k' := k) (by rw [Int.toNat_of_nonneg q1, Int.emod_emod_of_dvd _ (Int.dvd_refl _)])] at this
theorem kind_eq {L : Nat} {a : List Pt} (ha : Fa a) (hL : 5000 < L) : ∃ f, spec_mvKind L a = some f ∧ impl_firstFrame L a = some f ∧ IsKind L a f := by
  obtain ⟨f, h1, h2⟩ := mvKind_eq ha hL
  obtain ⟨g, h3, h4⟩ := firstFrame_eq ha hL
  have := h2.eq ha hL h4
  subst this
  exact ⟨f, h1, h3, h2⟩
end Go.AM
namespace Go.AM
open Classical
end Go.AM
namespace Go.AM
theorem frame_unique {α β γ δ g x y g' x' y' : Int} (hd : α * δ - β * γ = 1 ∨ α * δ - β * γ = -1) (hg : 0 < g) (hg' : 0 < g')
    (h1 : α * g = g') (h2 : γ * g = 0) (hy : 0 < y) (hx : 0 ≤ x) (hxy : x < y) (hy' : 0 < y') (hx' : 0 ≤ x') (hxy' : x' < y')
    (h3 : α * x + β * y = x') (h4 : γ * x + δ * y = y') : α = 1 ∧ β = 0 ∧ γ = 0 ∧ δ = 1 := by
  have c : γ = 0 := by
    rcases Int.mul_eq_zero.1 h2 with h | h
    · exact h
    · omega
  subst c
  have ap : 0 < α := by
    rcases Int.lt_trichotomy α 0 with h | h | h
    · have := Int.mul_neg_of_neg_of_pos h hg; omega
    · subst h; omega
    · exact h
  have dp : 0 < δ := by
    rcases Int.lt_trichotomy δ 0 with h | h | h
    · have := Int.mul_neg_of_neg_of_pos h hy; omega
    · subst h; omega
    · exact h
  have hd' : α * δ = 1 := by
    have := Int.mul_pos ap dp
    simp only [Int.mul_zero, Int.sub_zero] at hd
    omega
  have a1 : α = 1 := Int.eq_one_of_mul_eq_one_right (by omega) hd'
  subst a1
  have d1 : δ = 1 := by omega
  subst d1
  refine ⟨rfl, ?_, rfl, rfl⟩
  have e4 : y = y' := by omega
  subst e4
  rcases Int.lt_trichotomy β 0 with h | h | h
  · have h5 : (β + 1) * y ≤ 0 := Int.mul_nonpos_of_nonpos_of_nonneg (by omega) (by omega)
    rw [Int.add_mul] at h5; omega
  · exact h
  · have h5 : 0 ≤ (β - 1) * y := Int.mul_nonneg (by omega) (by omega)
    rw [Int.sub_mul] at h5; omega
end Go.AM
namespace Go.AM
theorem brg_one {A B C D P Q R S g b d g' b' d' : Int} {o p q : Pt} (e1 : A * D - B * C = 1 ∨ A * D - B * C = -1) (e2 : P * S - Q * R = 1 ∨ P * S - Q * R = -1)
    (h1 : brg A B C D o p = ⟨g, 0⟩) (h2 : brg A B C D o q = ⟨b, d⟩) (k1 : brg P Q R S o p = ⟨g', 0⟩) (k2 : brg P Q R S o q = ⟨b', d'⟩)
    (hg : 0 < g) (hb : 0 ≤ b) (hbd : b < d) (hg' : 0 < g') (hb' : 0 ≤ b') (hbd' : b' < d') : A = P ∧ B = Q ∧ C = R ∧ D = S := by
  unfold brg at h1 h2 k1 k2
  generalize p.x - o.x = px at *
  generalize p.y - o.y = py at *
  generalize q.x - o.x = qx at *
  generalize q.y - o.y = qy at *
  simp only [Pt.mk.injEq] at h1 h2 k1 k2
  obtain ⟨h1, h1'⟩ := h1
  obtain ⟨h2, h2'⟩ := h2
  obtain ⟨k1, k1'⟩ := k1
  obtain ⟨k2, k2'⟩ := k2
  generalize he : A * D - B * C = e at *
  have ee : e * e = 1 := by rcases e1 with rfl | rfl <;> rfl
  have hd : (e * (P * D - Q * C)) * (e * (S * A - R * B)) - (e * (Q * A - P * B)) * (e * (R * D - S * C)) = 1 ∨ (e * (P * D - Q * C)) * (e * (S * A - R * B)) - (e * (Q * A - P * B)) * (e * (R * D - S * C)) = -1 := by
    have : (e * (P * D - Q * C)) * (e * (S * A - R * B)) - (e * (Q * A - P * B)) * (e * (R * D - S * C)) = (e * e) * ((A * D - B * C) * (P * S - Q * R)) := by grind
    rw [this, ee, he]
    rcases e1 with h | h <;> rcases e2 with h' | h' <;> rw [h, h'] <;> simp
  obtain ⟨u1, u2, u3, u4⟩ := frame_unique (α := e * (P * D - Q * C)) (β := e * (Q * A - P * B)) (γ := e * (R * D - S * C)) (δ := e * (S * A - R * B)) (g := g) (x := b) (y := d) (g' := g') (x' := b') (y' := d') hd hg hg'
    (by rw [← k1]; have : e * (P * D - Q * C) * g = (e * e) * (P * px + Q * py) := by grind
        rw [this, ee]; omega)
    (by have : e * (R * D - S * C) * g = (e * e) * (R * px + S * py) := by grind
        rw [this, k1']; omega)
    (by omega) hb hbd (by omega) hb' hbd'
    (by rw [← k2]; have : e * (P * D - Q * C) * b + e * (Q * A - P * B) * d = (e * e) * (P * qx + Q * qy) := by grind
        rw [this, ee]; omega)
    (by rw [← k2']; have : e * (R * D - S * C) * b + e * (S * A - R * B) * d = (e * e) * (R * qx + S * qy) := by grind
        rw [this, ee]; omega)
  have v1 : (e * (P * D - Q * C)) * A + (e * (Q * A - P * B)) * C = (e * e) * P := by grind
  have v2 : (e * (P * D - Q * C)) * B + (e * (Q * A - P * B)) * D = (e * e) * Q := by grind
  have v3 : (e * (R * D - S * C)) * A + (e * (S * A - R * B)) * C = (e * e) * R := by grind
  have v4 : (e * (R * D - S * C)) * B + (e * (S * A - R * B)) * D = (e * e) * S := by grind
  rw [u1, u2, ee] at v1 v2
  rw [u3, u4, ee] at v3 v4
  omega
end Go.AM
namespace Go.AM
def aff (α β γ δ u v : Int) (p : Pt) : Pt := ⟨α * p.x + β * p.y + u, γ * p.x + δ * p.y + v⟩
theorem brg_aff {α β γ δ u v P Q R S : Int} {o p : Pt} : brg P Q R S (aff α β γ δ u v o) (aff α β γ δ u v p) = brg (P * α + Q * γ) (P * β + Q * δ) (R * α + S * γ) (R * β + S * δ) o p := by
  unfold brg aff
  simp only [Pt.mk.injEq]
  constructor <;> grind
theorem pt_maps {a : List Pt} (hn : a ≠ []) (f : Pt → Pt) (i : Int) : pt (a.map f) i = f (pt a i) := by
  have hl : 0 < (a.length : Int) := by have := List.length_pos_iff.2 hn; omega
  have h0 := Int.emod_nonneg i (show (a.length : Int) ≠ 0 by omega)
  have h1 := Int.emod_lt_of_pos i hl
  have h2 : (i % (a.length : Int)).toNat < a.length := by omega
  unfold pt
  simp [h2]
theorem frame_aff {L : Nat} {a : List Pt} {α β γ δ u v : Int} (hd : α * δ - β * γ = 1 ∨ α * δ - β * γ = -1) (hn : 3 ≤ (a.length : Int)) (hs : (a.length : Int) ≤ 1000) (hin : ∀ i, Nr (pt a i)) (hin' : ∀ i, Nr (aff α β γ δ u v (pt a i)))
    (ht : turn (pt a 0) (pt a 1) (pt a 2) ≠ 0) (hL : 5000 < L) : spec_mvFrame L (a.map (aff α β γ δ u v)) = spec_mvFrame L a := by
  have ha : a ≠ [] := by intro e; subst e; simp at hn
  have ht' : turn (pt (a.map (aff α β γ δ u v)) 0) (pt (a.map (aff α β γ δ u v)) 1) (pt (a.map (aff α β γ δ u v)) 2) ≠ 0 := by
    rw [pt_maps ha, pt_maps ha, pt_maps ha]
    have : turn (aff α β γ δ u v (pt a 0)) (aff α β γ δ u v (pt a 1)) (aff α β γ δ u v (pt a 2)) = (α * δ - β * γ) * turn (pt a 0) (pt a 1) (pt a 2) := by
      unfold turn aff; grind
    rw [this]
    rcases hd with h | h <;> rw [h] <;> omega
  obtain ⟨A, B, C, D, g, b, d, s1, _, f1⟩ := frame_eq hn hs hin ht hL
  obtain ⟨P, Q, R, S, g', b', d', s2, _, f2⟩ := frame_eq (a := a.map (aff α β γ δ u v)) (by simpa using hn) (by simpa using hs) (fun i => by rw [pt_maps ha]; exact hin' i) ht' hL
  have k1 := f2.e1; have k2 := f2.e2
  rw [pt_maps ha, pt_maps ha, brg_aff] at k1 k2
  have e2 : (P * α + Q * γ) * (R * β + S * δ) - (P * β + Q * δ) * (R * α + S * γ) = 1 ∨ (P * α + Q * γ) * (R * β + S * δ) - (P * β + Q * δ) * (R * α + S * γ) = -1 := by
    have : (P * α + Q * γ) * (R * β + S * δ) - (P * β + Q * δ) * (R * α + S * γ) = (P * S - Q * R) * (α * δ - β * γ) := by grind
    rw [this]
    rcases f2.det with h | h <;> rcases hd with h' | h' <;> rw [h, h'] <;> simp
  obtain ⟨z1, z2, z3, z4⟩ := brg_one f1.det e2 f1.e1 f1.e2 k1 k2 f1.g0 f1.b0 f1.bd f2.g0 f2.b0 f2.bd
  rw [s1, s2, List.map_map]
  congr 1
  refine List.map_congr_left fun p _ => ?_
  simp only [Function.comp]
  rw [pt_maps ha, brg_aff, z1, z2, z3, z4]
end Go.AM
namespace Go.AM
theorem tour_maps {a : List Pt} (hn : a ≠ []) (f : Pt → Pt) (k s : Int) (n : Nat) : tour (a.map f) k s n = (tour a k s n).map f := by
  unfold tour
  simp only [List.map_map]
  refine List.map_congr_left fun j _ => ?_
  simp only [Function.comp, pt_maps hn]
theorem FR_aff {L : Nat} {a : List Pt} {α β γ δ u v k s : Int} (hd : α * δ - β * γ = 1 ∨ α * δ - β * γ = -1) (ha : Fa a) (hb : Fa (a.map (aff α β γ δ u v))) (hs : s = 1 ∨ s = -1) (hL : 5000 < L) :
    FR L (a.map (aff α β γ δ u v)) k s = FR L a k s := by
  have hn := ha.ne
  have t1 := ha.tour (k := k) hs
  have t2 := hb.tour (k := k) hs
  rw [tour_maps hn, List.length_map] at t2
  unfold FR
  rw [tour_maps hn, List.length_map, frame_aff hd t1.lo t1.hi t1.nr (fun i => by have := t2.nr i; rwa [pt_maps t1.ne] at this) (by have := t1.turn 0; simpa using this) hL]
theorem kind_aff {L : Nat} {a f : List Pt} {α β γ δ u v : Int} (hd : α * δ - β * γ = 1 ∨ α * δ - β * γ = -1) (ha : Fa a) (hb : Fa (a.map (aff α β γ δ u v))) (hL : 5000 < L) (h : IsKind L a f) :
    IsKind L (a.map (aff α β γ δ u v)) f := by
  obtain ⟨⟨k, s, h1, h2⟩, h3⟩ := h
  refine ⟨⟨k, s, h1, by rw [FR_aff hd ha hb h1 hL]; exact h2⟩, fun k s hs => ?_⟩
  rw [FR_aff hd ha hb hs hL, List.length_map]
  exact h3 k s hs
end Go.AM
namespace Go.AM
end Go.AM
namespace Go.AM
theorem anti_lin {A B ux uy vx vy : Int} (hp : ux * vy = uy * vx) (h1 : ux * vx ≤ 0) (h2 : uy * vy ≤ 0) : (A * ux + B * uy) * (A * vx + B * vy) ≤ 0 := by
  have e : (A * ux + B * uy) * (A * vx + B * vy) = A * A * (ux * vx) + 2 * (A * B) * (ux * vy) + B * B * (uy * vy) := by grind
  rw [e]
  have hc : (ux * vy) * (ux * vy) = (ux * vx) * (uy * vy) := by grind
  generalize ux * vx = p at *
  generalize uy * vy = q at *
  generalize ux * vy = c at *
  clear e hp
  by_cases hp0 : p = 0
  · subst hp0
    have : c = 0 := by
      rcases Int.mul_eq_zero.1 (show c * c = 0 by rw [hc]; simp) with h | h <;> exact h
    subst this
    have := Int.mul_nonpos_of_nonneg_of_nonpos (mul_self_nn B) h2
    simp; exact this
  · rcases Int.lt_or_le 0 (A * A * p + 2 * (A * B) * c + B * B * q) with h | h
    · exfalso
      have hp' : p < 0 := by omega
      have h3 := Int.mul_neg_of_neg_of_pos hp' h
      have h4 : p * (A * A * p + 2 * (A * B) * c + B * B * q) = (A * p + B * c) * (A * p + B * c) := by
        have : p * (A * A * p + 2 * (A * B) * c + B * B * q) = (A * p + B * c) * (A * p + B * c) + B * B * (p * q - c * c) := by grind
        rw [this, hc]; simp
      rw [h4] at h3
      have := mul_self_nn (A * p + B * c)
      omega
    · exact h
theorem turn_aff {α β γ δ u v : Int} {a b c : Pt} : turn (aff α β γ δ u v a) (aff α β γ δ u v b) (aff α β γ δ u v c) = (α * δ - β * γ) * turn a b c := by
  unfold turn aff; grind
theorem turn_par {a b p : Pt} : turn a b p = (a.x - p.x) * (b.y - p.y) - (a.y - p.y) * (b.x - p.x) := by unfold turn; grind
theorem onL_aff1 {α β γ δ u v : Int} {a b p : Pt} (h : OnL a b p) : OnL (aff α β γ δ u v a) (aff α β γ δ u v b) (aff α β γ δ u v p) := by
  obtain ⟨h0, h1, h2⟩ := h
  have hp : (a.x - p.x) * (b.y - p.y) = (a.y - p.y) * (b.x - p.x) := by rw [turn_par] at h0; omega
  refine ⟨by rw [turn_aff, h0]; simp, ?_, ?_⟩
  · have := anti_lin (A := α) (B := β) hp h1 h2
    have e : ((aff α β γ δ u v a).x - (aff α β γ δ u v p).x) * ((aff α β γ δ u v b).x - (aff α β γ δ u v p).x) = (α * (a.x - p.x) + β * (a.y - p.y)) * (α * (b.x - p.x) + β * (b.y - p.y)) := by unfold aff; grind
    rw [e]; exact this
  · have := anti_lin (A := γ) (B := δ) hp h1 h2
    have e : ((aff α β γ δ u v a).y - (aff α β γ δ u v p).y) * ((aff α β γ δ u v b).y - (aff α β γ δ u v p).y) = (γ * (a.x - p.x) + δ * (a.y - p.y)) * (γ * (b.x - p.x) + δ * (b.y - p.y)) := by unfold aff; grind
    rw [e]; exact this
theorem aff_back {α β γ δ u v e : Int} (he : e * (α * δ - β * γ) = 1) (p : Pt) : aff (e * δ) (-(e * β)) (-(e * γ)) (e * α) (-(e * δ * u) + e * β * v) (e * γ * u - e * α * v) (aff α β γ δ u v p) = p := by
  unfold aff
  obtain ⟨x, y⟩ := p
  simp only [Pt.mk.injEq]
  constructor
  · have : e * δ * (α * x + β * y + u) + -(e * β) * (γ * x + δ * y + v) + (-(e * δ * u) + e * β * v) = (e * (α * δ - β * γ)) * x := by grind
    rw [this, he]; omega
  · have : -(e * γ) * (α * x + β * y + u) + e * α * (γ * x + δ * y + v) + (e * γ * u - e * α * v) = (e * (α * δ - β * γ)) * y := by grind
    rw [this, he]; omega
theorem uni_e {d : Int} (h : d = 1 ∨ d = -1) : ∃ e : Int, e * d = 1 := by rcases h with h | h; exact ⟨1, by omega⟩; exact ⟨-1, by omega⟩
theorem onL_aff {α β γ δ u v : Int} {a b p : Pt} (hd : α * δ - β * γ = 1 ∨ α * δ - β * γ = -1) : OnL (aff α β γ δ u v a) (aff α β γ δ u v b) (aff α β γ δ u v p) ↔ OnL a b p := by
  refine ⟨fun h => ?_, onL_aff1⟩
  obtain ⟨e, he⟩ := uni_e hd
  have := onL_aff1 (α := e * δ) (β := -(e * β)) (γ := -(e * γ)) (δ := e * α) (u := -(e * δ * u) + e * β * v) (v := e * γ * u - e * α * v) h
  rwa [aff_back he, aff_back he, aff_back he] at this
theorem aff_inj {α β γ δ u v : Int} {p q : Pt} (hd : α * δ - β * γ = 1 ∨ α * δ - β * γ = -1) (h : aff α β γ δ u v p = aff α β γ δ u v q) : p = q := by
  obtain ⟨e, he⟩ := uni_e hd
  rw [← aff_back (u := u) (v := v) he p, h, aff_back he]
theorem meet_aff {α β γ δ u v : Int} {a b c d : Pt} (hd : α * δ - β * γ = 1 ∨ α * δ - β * γ = -1) : Meet (aff α β γ δ u v a) (aff α β γ δ u v b) (aff α β γ δ u v c) (aff α β γ δ u v d) ↔ Meet a b c d := by
  unfold Meet
  rw [onL_aff hd, onL_aff hd, onL_aff hd, onL_aff hd, turn_aff, turn_aff, turn_aff, turn_aff]
  rcases hd with h | h
  · rw [h]; simp only [Int.one_mul]
  · rw [h]
    simp only [Int.neg_mul, Int.one_mul, sg_neg, Int.mul_neg, Int.neg_neg]
theorem good_aff {α β γ δ u v : Int} {a : List Pt} (hd : α * δ - β * γ = 1 ∨ α * δ - β * γ = -1) (g : Good_ a) (hin : ∀ i, In (aff α β γ δ u v (pt a i))) : Good_ (a.map (aff α β γ δ u v)) := by
  have hn : a ≠ [] := by intro e; have := g.lo; subst e; simp at this
  have hp := fun i => pt_maps hn (aff α β γ δ u v) i
  refine ⟨by simpa using g.lo, by simpa using g.hi, fun i _ _ => by rw [hp]; exact hin i, fun i k h0 h1 h2 => ?_, fun i h0 h1 => ?_, fun i k h0 h1 h2 h3 => ?_⟩
  · rw [hp, hp]
    exact fun e => g.ne i k h0 h1 (by simpa using h2) (aff_inj hd e)
  · rw [hp, hp, hp, turn_aff]
    have := g.turn i h0 (by simpa using h1)
    rcases hd with h | h <;> rw [h] <;> omega
  · rw [hp, hp, hp, hp, meet_aff hd]
    exact g.apart i k h0 h1 (by simpa using h2) (by simpa using h3)
theorem sm_congr' {f g : Int → Int} (h : ∀ i, f i = g i) (k : Nat) : sm f k = sm g k := by rw [show f = g from funext h]
theorem sm_tele (f : Int → Int) : ∀ k : Nat, sm (fun i => f (i + 1) - f i) k = f k - f 0
  | 0 => by simp [sm]
  | k + 1 => by
    rw [sm, sm_tele f k]
    have : ((k + 1 : Nat) : Int) = (k : Int) + 1 := by omega
    rw [this]; omega
theorem sm_smul (c : Int) (f : Int → Int) : ∀ k : Nat, sm (fun i => c * f i) k = c * sm f k
  | 0 => by simp [sm]
  | k + 1 => by rw [sm, sm, sm_smul c f k]; grind
theorem area_aff {α β γ δ u v : Int} {a : List Pt} (hn : a ≠ []) : area (a.map (aff α β γ δ u v)) = (α * δ - β * γ) * area a := by
  unfold area
  rw [List.length_map]
  have e : sm (fun i => cross (pt (a.map (aff α β γ δ u v)) i) (pt (a.map (aff α β γ δ u v)) (i + 1))) a.length
      = sm (fun i => (α * δ - β * γ) * cross (pt a i) (pt a (i + 1)) + ((fun i => u * (γ * (pt a i).x + δ * (pt a i).y) - v * (α * (pt a i).x + β * (pt a i).y)) (i + 1) - (fun i => u * (γ * (pt a i).x + δ * (pt a i).y) - v * (α * (pt a i).x + β * (pt a i).y)) i)) a.length := by
    refine sm_congr' (fun i => ?_) _
    rw [pt_maps hn, pt_maps hn]
    unfold cross aff
    grind
  rw [e, sm_plus (fun i => (α * δ - β * γ) * cross (pt a i) (pt a (i + 1))), sm_tele (fun i => u * (γ * (pt a i).x + δ * (pt a i).y) - v * (α * (pt a i).x + β * (pt a i).y)), sm_smul]
  have : pt a (a.length : Int) = pt a 0 := by rw [show (a.length : Int) = 0 + a.length by omega, pt_per]
  simp only [this]
  omega
theorem gcd_dvd_lin {A B x y : Int} : (Nat.gcd x.natAbs y.natAbs : Int) ∣ A * x + B * y := by
  have h1 : (Nat.gcd x.natAbs y.natAbs : Int) ∣ x := Int.ofNat_dvd_left.2 (Nat.gcd_dvd_left _ _)
  have h2 : (Nat.gcd x.natAbs y.natAbs : Int) ∣ y := Int.ofNat_dvd_left.2 (Nat.gcd_dvd_right _ _)
  exact Int.dvd_add (Int.dvd_trans h1 ⟨A, by grind⟩) (Int.dvd_trans h2 ⟨B, by grind⟩)
theorem gcd_lin_dvd {A B C D x y : Int} : Nat.gcd x.natAbs y.natAbs ∣ Nat.gcd (A * x + B * y).natAbs (C * x + D * y).natAbs :=
  Nat.dvd_gcd (Int.ofNat_dvd_left.1 gcd_dvd_lin) (Int.ofNat_dvd_left.1 gcd_dvd_lin)
theorem gcd_uni {A B C D x y : Int} (hd : A * D - B * C = 1 ∨ A * D - B * C = -1) : Nat.gcd (A * x + B * y).natAbs (C * x + D * y).natAbs = Nat.gcd x.natAbs y.natAbs := by
  obtain ⟨e, he⟩ := uni_e hd
  refine Nat.dvd_antisymm ?_ gcd_lin_dvd
  have := gcd_lin_dvd (A := e * D) (B := -(e * B)) (C := -(e * C)) (D := e * A) (x := A * x + B * y) (y := C * x + D * y)
  have e1 : e * D * (A * x + B * y) + -(e * B) * (C * x + D * y) = x := by
    have : e * D * (A * x + B * y) + -(e * B) * (C * x + D * y) = (e * (A * D - B * C)) * x := by grind
    rw [this, he]; omega
  have e2 : -(e * C) * (A * x + B * y) + e * A * (C * x + D * y) = y := by
    have : -(e * C) * (A * x + B * y) + e * A * (C * x + D * y) = (e * (A * D - B * C)) * y := by grind
    rw [this, he]; omega
  rwa [e1, e2] at this
theorem step_aff {α β γ δ u v : Int} {p q : Pt} (hd : α * δ - β * γ = 1 ∨ α * δ - β * γ = -1) : step (aff α β γ δ u v p) (aff α β γ δ u v q) = step p q := by
  unfold step
  have e1 : (aff α β γ δ u v p).x - (aff α β γ δ u v q).x = α * (p.x - q.x) + β * (p.y - q.y) := by unfold aff; grind
  have e2 : (aff α β γ δ u v p).y - (aff α β γ δ u v q).y = γ * (p.x - q.x) + δ * (p.y - q.y) := by unfold aff; grind
  rw [e1, e2, gcd_uni hd]
theorem round_aff {α β γ δ u v : Int} {a : List Pt} (hn : a ≠ []) (hd : α * δ - β * γ = 1 ∨ α * δ - β * γ = -1) : round (a.map (aff α β γ δ u v)) = round a := by
  unfold round
  rw [List.length_map]
  exact sm_congr' (fun i => by rw [pt_maps hn, pt_maps hn, step_aff hd]) _
end Go.AM
namespace Go.AM
theorem rng_map {g : Pt → Int} {f : Pt → Pt} : ∀ (l : List Pt) (u v : Int), rng g (l.map f) u v = rng (fun p => g (f p)) l u v
  | [], _, _ => rfl
  | p :: l, u, v => by
    rw [List.map_cons]
    unfold rng
    exact rng_map l _ _
theorem rng_congr {f g : Pt → Int} (h : ∀ p, f p = g p) (l : List Pt) (u v : Int) : rng f l u v = rng g l u v := by rw [show f = g from funext h]
theorem rng_shift {f : Pt → Int} (k : Int) : ∀ (l : List Pt) (u v : Int), rng (fun p => f p + k) l (u + k) (v + k) = ((rng f l u v).1 + k, (rng f l u v).2 + k)
  | [], _, _ => rfl
  | p :: l, u, v => by
    unfold rng
    have e1 : (if u + k < f p + k then u + k else f p + k) = (if u < f p then u else f p) + k := by split <;> split <;> omega
    have e2 : (if f p + k < v + k then v + k else f p + k) = (if f p < v then v else f p) + k := by split <;> split <;> omega
    rw [e1, e2]
    exact rng_shift k l _ _
theorem rng_neg {f : Pt → Int} : ∀ (l : List Pt) (u v : Int), rng (fun p => -f p) l (-v) (-u) = (-(rng f l u v).2, -(rng f l u v).1)
  | [], _, _ => rfl
  | p :: l, u, v => by
    unfold rng
    have e1 : (if -v < -f p then -v else -f p) = -(if f p < v then v else f p) := by split <;> split <;> omega
    have e2 : (if -f p < -u then -u else -f p) = -(if u < f p then u else f p) := by split <;> split <;> omega
    rw [e1, e2]
    exact rng_neg l _ _
theorem val_aff {α β γ δ u v b c : Int} (p : Pt) : val b c (aff α β γ δ u v p) = val (b * α + c * γ) (b * β + c * δ) p + (b * u + c * v) := by
  unfold val aff; grind
theorem rngOf_aff {α β γ δ u v b c : Int} {a : List Pt} (hn : a ≠ []) : rngOf b c (a.map (aff α β γ δ u v)) = ((rngOf (b * α + c * γ) (b * β + c * δ) a).1 + (b * u + c * v), (rngOf (b * α + c * γ) (b * β + c * δ) a).2 + (b * u + c * v)) := by
  unfold rngOf
  rw [rng_map, pt_maps hn, rng_congr (fun p => val_aff (α := α) (β := β) (γ := γ) (δ := δ) (u := u) (v := v) (b := b) (c := c) p), val_aff]
  exact rng_shift _ _ _ _
theorem wdth_aff {α β γ δ u v b c : Int} {a : List Pt} (hn : a ≠ []) : wdth (a.map (aff α β γ δ u v)) b c = wdth a (b * α + c * γ) (b * β + c * δ) := by
  unfold wdth
  rw [rngOf_aff hn]
  simp only
  omega
theorem wdth_neg {a : List Pt} (b c : Int) : wdth a (-b) (-c) = wdth a b c := by
  unfold wdth rngOf
  have hv : ∀ p, val (-b) (-c) p = - val b c p := fun p => by unfold val; grind
  rw [rng_congr hv, hv]
  rw [rng_neg]
  simp only
  omega
theorem dir_img {α β γ δ u v : Int} {a : List Pt} {p : Pt} (hn : a ≠ []) (hd : α * δ - β * γ = 1 ∨ α * δ - β * γ = -1) (hp : ToldD p) : ∃ q, ToldD q ∧ wdth (a.map (aff α β γ δ u v)) q.x q.y = wdth a p.x p.y := by
  obtain ⟨e, he⟩ := uni_e hd
  have ee : e = 1 ∨ e = -1 := by
    rcases hd with h | h <;> rw [h] at he <;> omega
  have hw : wdth (a.map (aff α β γ δ u v)) (e * δ * p.x + -(e * γ) * p.y) (-(e * β) * p.x + e * α * p.y) = wdth a p.x p.y := by
    rw [wdth_aff hn]
    have e1 : (e * δ * p.x + -(e * γ) * p.y) * α + (-(e * β) * p.x + e * α * p.y) * γ = p.x := by
      have : (e * δ * p.x + -(e * γ) * p.y) * α + (-(e * β) * p.x + e * α * p.y) * γ = (e * (α * δ - β * γ)) * p.x := by grind
      rw [this, he]; omega
    have e2 : (e * δ * p.x + -(e * γ) * p.y) * β + (-(e * β) * p.x + e * α * p.y) * δ = p.y := by
      have : (e * δ * p.x + -(e * γ) * p.y) * β + (-(e * β) * p.x + e * α * p.y) * δ = (e * (α * δ - β * γ)) * p.y := by grind
      rw [this, he]; omega
    rw [e1, e2]
  have hg : Nat.gcd (e * δ * p.x + -(e * γ) * p.y).natAbs (-(e * β) * p.x + e * α * p.y).natAbs = 1 := by
    rw [gcd_uni (A := e * δ) (B := -(e * γ)) (C := -(e * β)) (D := e * α) (by
      have : e * δ * (e * α) - -(e * γ) * -(e * β) = (e * e) * (α * δ - β * γ) := by grind
      rw [this]
      rcases ee with rfl | rfl <;> simpa using hd)]
    exact hp.1
  generalize e * δ * p.x + -(e * γ) * p.y = x at *
  generalize -(e * β) * p.x + e * α * p.y = y at *
  by_cases hs : 0 < x ∨ (x = 0 ∧ 1 ≤ y)
  · exact ⟨⟨x, y⟩, ⟨hg, hs⟩, hw⟩
  · refine ⟨⟨-x, -y⟩, ⟨?_, ?_⟩, ?_⟩
    · simp only [Int.natAbs_neg]; exact hg
    · simp only
      by_cases hx : x = 0
      · right
        refine ⟨by omega, ?_⟩
        have : y ≠ 0 := by
          intro hy
          rw [hx, hy] at hg
          simp at hg
        omega
      · left; omega
    · simp only [wdth_neg]; exact hw
theorem leastW_le {α β γ δ u v : Int} {a : List Pt} (hd : α * δ - β * γ = 1 ∨ α * δ - β * γ = -1) (g : Good_ a) (g2 : Good_ (a.map (aff α β γ δ u v))) : leastW (a.map (aff α β γ δ u v)) ≤ leastW a := by
  have hn : a ≠ [] := by intro e; have := g.lo; subst e; simp at this
  obtain ⟨h1, h2, h3⟩ := leastW_spec g
  obtain ⟨k1, k2, k3⟩ := leastW_spec g2
  obtain ⟨p, hp⟩ := List.exists_mem_of_ne_nil _ h2
  obtain ⟨t1, t2⟩ := (dirL_mem g (by omega)).1 hp
  obtain ⟨q, q1, q2⟩ := dir_img (u := u) (v := v) hn hd t1
  rcases Int.lt_or_le (leastW a) (leastW (a.map (aff α β γ δ u v))) with h | h
  · have e := k3 (leastW a) h1.1 h
    have m : q ∈ dirL (a.map (aff α β γ δ u v)) (leastW a) := (dirL_mem g2 (by omega)).2 ⟨q1, by omega⟩
    rw [e] at m
    cases m
  · exact h
theorem leastW_img {α β γ δ u v : Int} {a : List Pt} (hd : α * δ - β * γ = 1 ∨ α * δ - β * γ = -1) (g : Good_ a) (g2 : Good_ (a.map (aff α β γ δ u v))) : leastW (a.map (aff α β γ δ u v)) = leastW a := by
  have h1 := leastW_le hd g g2
  obtain ⟨e, he⟩ := uni_e hd
  have ee : e = 1 ∨ e = -1 := by
    rcases hd with h | h <;> rw [h] at he <;> omega
  have hback : (a.map (aff α β γ δ u v)).map (aff (e * δ) (-(e * β)) (-(e * γ)) (e * α) (-(e * δ * u) + e * β * v) (e * γ * u - e * α * v)) = a := by
    rw [List.map_map]
    have : (aff (e * δ) (-(e * β)) (-(e * γ)) (e * α) (-(e * δ * u) + e * β * v) (e * γ * u - e * α * v) ∘ aff α β γ δ u v) = id := by
      funext p
      exact aff_back he p
    rw [this, List.map_id]
  have hd2 : e * δ * (e * α) - -(e * β) * -(e * γ) = 1 ∨ e * δ * (e * α) - -(e * β) * -(e * γ) = -1 := by
    have : e * δ * (e * α) - -(e * β) * -(e * γ) = (e * e) * (α * δ - β * γ) := by grind
    rw [this]
    rcases ee with rfl | rfl <;> simpa using hd
  have h2 := leastW_le (a := a.map (aff α β γ δ u v)) hd2 g2 (by rw [hback]; exact g)
  rw [hback] at h2
  omega
theorem wdth_first {a : List Pt} {p : Pt} (g : Good_ a) (h : p ∈ dirL a (leastW a)) : wdth a p.x p.y = leastW a := by
  obtain ⟨h1, h2, h3⟩ := leastW_spec g
  obtain ⟨t1, t2⟩ := (dirL_mem g (by omega)).1 h
  have hp := wdth_pos g t1
  rcases Int.lt_or_le (wdth a p.x p.y) (leastW a) with k | k
  · have e := h3 _ hp k
    have m : p ∈ dirL a (wdth a p.x p.y) := (dirL_mem g (by omega)).2 ⟨t1, Int.le_refl _⟩
    rw [e] at m
    cases m
  · omega
end Go.AM
namespace Go.AM
def By (a : List Int) : Prop := ∀ x ∈ a, 0 ≤ x ∧ x ≤ 255
theorem ilen_eU (a : List Int) : ilen (List.map eU a) = (a.length : Int) := by rw [ilen_eq]; simp
theorem iand_bd {x : Int} : 0 ≤ iand IntKind.u64 x 255 ∧ iand IntKind.u64 x 255 ≤ 255 := by
  rw [iand_eq]
  have h : (BitVec.ofInt (IntKind.bits .u64) x &&& BitVec.ofInt (IntKind.bits .u64) 255).toNat ≤ 255 := by
    rw [BitVec.toNat_and]
    refine Nat.le_trans Nat.and_le_right ?_
    decide
  generalize (BitVec.ofInt (IntKind.bits .u64) x &&& BitVec.ofInt (IntKind.bits .u64) 255).toNat = n at *
  have e : IntKind.wrap .u64 (n : Int) = n := by
    simp only [IntKind.wrap, IntKind.signed, IntKind.bits]
    simp
    omega
  rw [e]; omega
theorem next_dr {L : Nat} {a : List Int} {t s : Int} (hb : By a) (ht : 0 ≤ t ∧ t ≤ 1000000) : ∃ r s', spec_l1Cur_next L a t s = some (r, t + 1, s') ∧ 0 ≤ r ∧ r ≤ 255 := by
  unfold spec_l1Cur_next
  have wt : wr IntKind.i64 (iadd t 1) = t + 1 := by rw [iadd_eq, wr_id (by omega)]
  have low : ∀ X : Int, 0 ≤ wr IntKind.i64 (iand IntKind.u64 X 255) ∧ wr IntKind.i64 (iand IntKind.u64 X 255) ≤ 255 := fun X => by
    have := iand_bd (x := X)
    rw [wr_id (by omega)]; exact this
  simp only [wt, ilen_eU, ilt_eq, ile_eq, gbind_eq, show ¬ (40 : Int) < 0 by omega, decide_false, cond_false]
  by_cases h : t < (a.length : Int)
  · have hlt : t.toNat < a.length := by omega
    have hg : lget a t = some a[t.toNat] := by rw [lget_eq, if_pos ht.1, List.getElem?_eq_getElem hlt]
    have hp := hb a[t.toNat] (List.getElem_mem hlt)
    simp only [h, decide_true, cond_true, hg, Option.bind_some]
    by_cases h2 : t + 1 ≤ (a.length : Int)
    · simp only [h2, decide_true, cond_true]
      exact ⟨_, _, rfl, by rw [wr_id (by omega)]; exact hp⟩
    · simp only [h2, decide_false, cond_false]
      exact ⟨_, _, rfl, low _⟩
  · simp only [h, decide_false, cond_false]
    by_cases h2 : t + 1 ≤ (a.length : Int)
    · simp only [h2, decide_true, cond_true]
      exact ⟨_, _, rfl, by omega, by omega⟩
    · simp only [h2, decide_false, cond_false]
      exact ⟨_, _, rfl, low _⟩
theorem pick_dr {L : Nat} {a : List Int} {t s n : Int} (hb : By a) (ht : 0 ≤ t ∧ t ≤ 900000) (hn : 1 ≤ n ∧ n ≤ 1000000) : ∃ r t' s', spec_l1Cur_pick L a t s n = some (r, t', s') ∧ (0 ≤ r ∧ r < n) ∧ t ≤ t' ∧ t' ≤ t + 2 := by
  unfold spec_l1Cur_pick
  simp only [ile_eq, ilt_eq, ieq_eq, gbind_eq]
  by_cases h1 : n ≤ 1
  · simp only [h1, decide_true, cond_true]
    exact ⟨0, t, s, rfl, by omega, by omega, by omega⟩
  · simp only [h1, decide_false, cond_false]
    obtain ⟨r, s1, e1, r0, r1⟩ := next_dr (L := L) (s := s) hb (t := t) (by omega)
    simp only [e1, Option.bind_some, show ¬ n = 0 by omega, decide_false, cond_false]
    have key : ∀ x : Int, 0 ≤ x → 0 ≤ irem x n ∧ irem x n < n := fun x hx => by
      rw [irem_eq, Int.tmod_eq_emod_of_nonneg hx]
      exact ⟨Int.emod_nonneg _ (by omega), Int.emod_lt_of_pos _ (by omega)⟩
    by_cases h2 : 200 < n
    · simp only [h2, decide_true, cond_true]
      obtain ⟨q, s2, e2, q0, q1⟩ := next_dr (L := L) (s := s1) hb (t := t + 1) (by omega)
      simp only [e2, Option.bind_some]
      refine ⟨_, _, _, rfl, key _ ?_, by omega, by omega⟩
      rw [imul_eq, iadd_eq, wr_id (n := r * 256) (by omega), wr_id (by omega)]; omega
    · simp only [h2, decide_false, cond_false]
      exact ⟨_, _, _, rfl, key r r0, by omega, by omega⟩
theorem one_dr {L : Nat} {a : List Int} {t s n : Int} (hb : By a) (ht : 0 ≤ t ∧ t ≤ 900000) (hn : 1 ≤ n ∧ n ≤ 1000000) : ∃ r t' s', spec_l1Cur_one L a t s n = some (r, t', s') ∧ t ≤ t' ∧ t' ≤ t + 2 := by
  obtain ⟨r, t', s', e, _, h1, h2⟩ := pick_dr (L := L) (s := s) hb ht hn
  unfold spec_l1Cur_one
  simp only [e, gbind_eq, Option.bind_some]
  exact ⟨_, _, _, rfl, h1, h2⟩
theorem among_dr {L : Nat} {a w : List Int} {t s : Int} (hb : By a) (ht : 0 ≤ t ∧ t ≤ 900000) (hw : 1 ≤ (w.length : Int) ∧ (w.length : Int) ≤ 1000) : ∃ r t' s', spec_l1Cur_among_v2 L a t s w = some (r, t', s', w) ∧ r ∈ w ∧ t ≤ t' ∧ t' ≤ t + 2 := by
  have hl : ilen (List.map eI w) = (w.length : Int) := by rw [ilen_eq]; simp
  obtain ⟨r, t', s', e, ⟨r0, r1⟩, h1, h2⟩ := pick_dr (L := L) (s := s) (n := (w.length : Int)) hb ht (by omega)
  unfold spec_l1Cur_among_v2
  have hlt : r.toNat < w.length := by omega
  have hg : lget w r = some w[r.toNat] := by rw [lget_eq, if_pos r0, List.getElem?_eq_getElem hlt]
  simp only [hl, e, gbind_eq, Option.bind_some, ile_eq, ilt_eq, r0, r1, decide_true, Bool.and_self, cond_true, hg]
  exact ⟨_, _, _, rfl, List.getElem_mem hlt, h1, h2⟩
theorem surePeg_dr {L : Nat} {a : List Int} {t s n : Int} (hb : By a) (ht : 0 ≤ t ∧ t ≤ 800000) (hn : 1 ≤ n ∧ n ≤ 20) : ∃ x y t' s', spec_l1Cur_surePeg L a t s n = some (x, y, t', s') ∧ In ⟨x, y⟩ ∧ t ≤ t' ∧ t' ≤ t + 4 := by
  have wn : wr IntKind.i64 (iadd (wr IntKind.i64 (imul 2 n)) 1) = 2 * n + 1 := by
    rw [imul_eq, iadd_eq, wr_id (n := 2 * n) (by omega), wr_id (by omega)]
  obtain ⟨r, t1, s1, e1, ⟨r0, r1⟩, h1, h2⟩ := pick_dr (L := L) (s := s) (n := 2 * n + 1) hb (t := t) (by omega) (by omega)
  obtain ⟨q, t2, s2, e2, ⟨q0, q1⟩, h3, h4⟩ := pick_dr (L := L) (s := s1) (n := 2 * n + 1) hb (t := t1) (by omega) (by omega)
  unfold spec_l1Cur_surePeg
  simp only [wn, e1, e2, gbind_eq, Option.bind_some, isub_eq]
  rw [wr_id (n := r - n) (by omega), wr_id (n := q - n) (by omega)]
  exact ⟨_, _, _, _, rfl, by unfold In; simp only; omega, by omega, by omega⟩
theorem peg_dr {L : Nat} {a : List Int} {t s : Int} (hb : By a) (ht : 0 ≤ t ∧ t ≤ 700000) : ∃ x y t' s', spec_l1Cur_peg L a t s = some (x, y, t', s') ∧ Wd ⟨x, y⟩ ∧ t ≤ t' ∧ t' ≤ t + 8 := by
  obtain ⟨b, t1, s1, e1, h1, h2⟩ := one_dr (L := L) (s := s) (n := 12) hb (t := t) (by omega) (by omega)
  unfold spec_l1Cur_peg
  simp only [e1, gbind_eq, Option.bind_some]
  cases b with
  | true =>
    obtain ⟨x, t2, s2, e2, m2, h3, h4⟩ := among_dr (L := L) (s := s1) (w := [0, 40, -40, 41, 4611686018427387904]) hb (t := t1) (by omega) (by simp)
    obtain ⟨y, t3, s3, e3, m3, h5, h6⟩ := among_dr (L := L) (s := s2) (w := [0, 1, 40, -41, -9223372036854775808]) hb (t := t2) (by omega) (by simp)
    simp only [cond_true, e2, e3, Option.bind_some]
    refine ⟨_, _, _, _, rfl, ?_, by omega, by omega⟩
    simp only [List.mem_cons, List.not_mem_nil, or_false] at m2 m3
    unfold Wd; simp only; omega
  | false =>
    obtain ⟨x, y, t2, s2, e2, m2, h3, h4⟩ := surePeg_dr (L := L) (s := s1) (n := 6) hb (t := t1) (by omega) (by omega)
    simp only [cond_false, e2, Option.bind_some]
    refine ⟨_, _, _, _, rfl, ?_, by omega, by omega⟩
    unfold In at m2; unfold Wd; simp only at *; omega
theorem pt_mem2 {a : List Pt} (hn : a ≠ []) (i : Int) : pt a i ∈ a := by
  have hl : 0 < (a.length : Int) := by have := List.length_pos_iff.2 hn; omega
  have := pt_get (a := a) (i := i % a.length) (Int.emod_nonneg _ (by omega)) (Int.emod_lt_of_pos _ hl)
  rw [pt_congr (Int.emod_emod_of_dvd _ (Int.dvd_refl _))] at this
  exact List.mem_of_getElem? this
structure Pl (w : List Pt) (n : Int) : Prop where
  len : (w.length : Int) ≤ n
  lo : 3 ≤ (w.length : Int)
  ins : ∀ p ∈ w, In p
theorem surePoly_l0 {L : Nat} {a : List Int} {n : Int} (hb : By a) (hn : 1 ≤ n ∧ n ≤ 20) (hL : 1000 < L) : ∀ (k m : Nat) (t s : Int) (w : List Pt), k < m → k ≤ 10 → (0 ≤ t ∧ t ≤ 500000 - 10 * k) → Pl w (30 - k) → w ≠ [] →
    ∃ r t' s', spec_l1Cur_surePolygon_l0 L a n m k t s w = some (r, t', s') ∧ Pl r 30 ∧ r ≠ [] ∧ t ≤ t' ∧ t' ≤ t + 10 * k + 2 := by
  intro k
  induction k with
  | zero =>
    intro m t s w hm _ ht hw hne
    obtain ⟨m, rfl⟩ : ∃ q, m = q + 1 := ⟨m - 1, by omega⟩
    obtain ⟨b, t1, s1, e1, h1, h2⟩ := one_dr (L := L) (s := s) (n := 3) hb (t := t) (by omega) (by omega)
    have hl := hw.len
    rw [spec_l1Cur_surePolygon_l0]
    simp only [ilt_eq, show ¬ (0 : Int) < ((0 : Nat) : Int) by omega, decide_false, cond_false, e1, gbind_eq, Option.bind_some]
    cases b with
    | true =>
      simp only [cond_true, spec_pgBack_eq (L := L) hne (show (w.length : Int) ≤ 900000 by omega) (by omega), Option.bind_some]
      refine ⟨_, _, _, rfl, ⟨by rw [tour_len]; omega, by rw [tour_len]; exact hw.lo, fun p hp => ?_⟩, fun e => hne (by have := congrArg List.length e; rw [tour_len] at this; exact List.eq_nil_of_length_eq_zero (by simpa using this)), by omega, by omega⟩
      unfold tour at hp
      obtain ⟨j, _, rfl⟩ := List.mem_map.1 hp
      exact hw.ins _ (pt_mem2 hne _)
    | false =>
      simp only [cond_false]
      exact ⟨_, _, _, rfl, ⟨by omega, hw.lo, hw.ins⟩, hne, by omega, by omega⟩
  | succ k ih =>
    intro m t s w hm hk ht hw hne
    obtain ⟨m, rfl⟩ : ∃ q, m = q + 1 := ⟨m - 1, by omega⟩
    have hl := hw.len
    have hpos : 0 < (w.length : Int) := by have := List.length_pos_iff.2 hne; omega
    obtain ⟨r, t1, s1, e1, ⟨r0, r1⟩, h1, h2⟩ := pick_dr (L := L) (s := s) (n := (w.length : Int)) hb (t := t) (by omega) (by omega)
    obtain ⟨x, y, t2, s2, e2, m2, h3, h4⟩ := surePeg_dr (L := L) (s := s1) (n := n) hb (t := t1) (by omega) hn
    have w1 : wr IntKind.i64 (iadd 1 r) = 1 + r := by rw [iadd_eq, wr_id (by omega)]
    have wk : wr IntKind.i64 (isub ((k + 1 : Nat) : Int) 1) = (k : Int) := by rw [isub_eq, wr_id (by omega)]; omega
    have hall : ∀ (u v : List AV), (u.length : Int) ≤ 100 → (v.length : Int) ≤ 100 → fits (iadd (ilen u) (ilen v)) 16 = true := fun u v hu hv => by
      rw [ilen_eq, ilen_eq, iadd_eq]; exact fits_s (by omega)
    rw [spec_l1Cur_surePolygon_l0]
    simp only [ilt_eq, show (0 : Int) < ((k + 1 : Nat) : Int) by omega, decide_true, cond_true, ilen_mapep, e1, e2, gbind_eq, Option.bind_some, w1, wk, ile_eq, show (0 : Int) ≤ 1 + r by omega, show 1 + r ≤ (w.length : Int) by omega, Bool.and_self]
    rw [hall _ _ (by simp) (by rw [lsub_eq]; simp; omega), cond_true, hall _ _ (by rw [lcat_eq, lsub_eq]; simp; omega) (by simp), cond_true, hall _ _ (by rw [lcat_eq, lcat_eq, lsub_eq]; simp; omega) (by rw [lsub_eq]; simp; omega), cond_true]
    simp only [spec_pgGood_eq (show 20 < L by omega), Option.bind_some]
    have hw' : Pl (lcat (lcat (lcat [] (lsub w 0 (iadd 0 (1 + r)))) [(⟨x, y⟩ : Pt)]) (lsub w (1 + r) (iadd (1 + r) (isub (w.length : Int) (1 + r))))) (30 - k) := by
      simp only [lcat_eq, lsub_eq, iadd_eq, isub_eq]
      have hlo := hw.lo
      refine ⟨by simp; omega, by simp; omega, fun p hp => ?_⟩
      simp only [List.nil_append, List.mem_append, List.mem_singleton] at hp
      rcases hp with (hp | hp) | hp
      · exact hw.ins p (List.mem_of_mem_drop (List.mem_of_mem_take hp))
      · rw [hp]; exact m2
      · exact hw.ins p (List.mem_of_mem_drop (List.mem_of_mem_take hp))
    have hne' : lcat (lcat (lcat [] (lsub w 0 (iadd 0 (1 + r)))) [(⟨x, y⟩ : Pt)]) (lsub w (1 + r) (iadd (1 + r) (isub (w.length : Int) (1 + r)))) ≠ [] := by
      simp [lcat_eq]
    generalize lcat (lcat (lcat [] (lsub w 0 (iadd 0 (1 + r)))) [(⟨x, y⟩ : Pt)]) (lsub w (1 + r) (iadd (1 + r) (isub (w.length : Int) (1 + r)))) = w' at *
    by_cases g : Good_ w'
    · simp only [g, decide_true, cond_true]
      obtain ⟨q, t3, s3, e3, g1, g2, g3, g4⟩ := ih m t2 s2 w' (by omega) (by omega) (by omega) hw' hne'
      exact ⟨q, t3, s3, e3, g1, g2, by omega, by omega⟩
    · simp only [g, decide_false, cond_false]
      obtain ⟨q, t3, s3, e3, g1, g2, g3, g4⟩ := ih m t2 s2 w (by omega) (by omega) (by omega) ⟨by omega, hw.lo, hw.ins⟩ hne
      exact ⟨q, t3, s3, e3, g1, g2, by omega, by omega⟩
theorem surePoly_dr {L : Nat} {a : List Int} {t s n c : Int} (hb : By a) (ht : 0 ≤ t ∧ t ≤ 400000) (hn : 1 ≤ n ∧ n ≤ 20) (hc : 2 ≤ c ∧ c ≤ 10) (hL : 1000 < L) : ∃ r t' s', spec_l1Cur_surePolygon L a t s n c = some (r, t', s') ∧ Pl r 30 ∧ r ≠ [] ∧ t ≤ t' ∧ t' ≤ t + 200 := by
  obtain ⟨x, t1, s1, e1, x0, h1, h2⟩ := pick_dr (L := L) (s := s) (n := n) hb (t := t) (by omega) (by omega)
  obtain ⟨y, t2, s2, e2, y0, h3, h4⟩ := pick_dr (L := L) (s := s1) (n := n + 1) hb (t := t1) (by omega) (by omega)
  obtain ⟨z, t3, s3, e3, z0, h5, h6⟩ := pick_dr (L := L) (s := s2) (n := n) hb (t := t2) (by omega) (by omega)
  obtain ⟨k, t4, s4, e4, k0, h7, h8⟩ := pick_dr (L := L) (s := s3) (n := c - 1) hb (t := t3) (by omega) (by omega)
  unfold spec_l1Cur_surePolygon
  have wn : wr IntKind.i64 (iadd n 1) = n + 1 := by rw [iadd_eq, wr_id (by omega)]
  have wc : wr IntKind.i64 (isub c 1) = c - 1 := by rw [isub_eq, wr_id (by omega)]
  have wx : wr IntKind.i64 (iadd 1 x) = 1 + x := by rw [iadd_eq, wr_id (by omega)]
  have wz : wr IntKind.i64 (iadd 1 z) = 1 + z := by rw [iadd_eq, wr_id (by omega)]
  simp only [e1, wn, e2, e3, wc, e4, gbind_eq, Option.bind_some, wx, wz]
  obtain ⟨q, t5, s5, e5, g1, g2, g3, g4⟩ := surePoly_l0 (L := L) hb hn hL k.toNat L t4 s4 [⟨0, 0⟩, ⟨1 + x, 0⟩, ⟨y, 1 + z⟩] (by omega) (by omega) (by omega)
    ⟨by simp; omega, by simp, fun p hp => by
      simp only [List.mem_cons, List.not_mem_nil, or_false] at hp
      rcases hp with rfl | rfl | rfl <;> unfold In <;> simp only <;> omega⟩ (by simp)
  rw [Int.toNat_of_nonneg k0.1] at e5
  exact ⟨q, t5, s5, e5, g1, g2, by omega, by omega⟩
theorem polygon_dr {L : Nat} {a : List Int} {t s n : Int} (hb : By a) (ht : 0 ≤ t ∧ t ≤ 300000) (hn : 1 ≤ n ∧ n ≤ 20) (hL : 1000 < L) : ∃ r t' s', spec_l1Cur_polygon L a t s n = some (r, t', s') ∧ (r.length : Int) ≤ 30 ∧ (∀ p ∈ r, Wd p) ∧ t ≤ t' ∧ t' ≤ t + 300 := by
  have inwd : ∀ p, In p → Wd p := fun p h => by unfold In at h; unfold Wd; omega
  obtain ⟨w, t1, s1, e1, hw, hne, h1, h2⟩ := surePoly_dr (L := L) (s := s) (n := n) (c := 8) hb (t := t) (by omega) hn (by omega) hL
  obtain ⟨k, t2, s2, e2, k0, h3, h4⟩ := pick_dr (L := L) (s := s1) (n := 16) hb (t := t1) (by omega) (by omega)
  have hpos : 0 < (w.length : Int) := by have := List.length_pos_iff.2 hne; omega
  have hl := hw.len
  unfold spec_l1Cur_polygon
  simp only [e1, e2, gbind_eq, Option.bind_some, ilen_mapep, ieq_eq]
  by_cases c0 : k = 0
  · obtain ⟨i, t3, s3, e3, i0, h5, h6⟩ := pick_dr (L := L) (s := s2) (n := (w.length : Int)) hb (t := t2) (by omega) (by omega)
    obtain ⟨x, y, t4, s4, e4, hp, h7, h8⟩ := peg_dr (L := L) (s := s3) hb (t := t3) (by omega)
    simp only [c0, decide_true, cond_true, e3, e4, Option.bind_some, ile_eq, ilt_eq, i0.1, i0.2, Bool.and_self, lget_pt i0.1 i0.2]
    refine ⟨_, _, _, rfl, by rw [lset_eq]; simp; omega, fun p hp' => ?_, by omega, by omega⟩
    rw [lset_eq] at hp'
    rcases List.mem_or_eq_of_mem_set hp' with h | h
    · exact inwd p (hw.ins p h)
    · rw [h]; exact hp
  · by_cases c1 : k = 1
    · obtain ⟨i, t3, s3, e3, i0, h5, h6⟩ := pick_dr (L := L) (s := s2) (n := 3) hb (t := t2) (by omega) (by omega)
      simp only [c0, c1, decide_true, decide_false, cond_true, cond_false, e3, Option.bind_some, ile_eq, i0.1, Bool.true_and]
      have hlo := hw.lo
      by_cases hi : i ≤ (w.length : Int)
      · simp only [hi, decide_true, cond_true]
        refine ⟨_, _, _, rfl, by rw [lsub_eq]; simp; omega, fun p hp' => ?_, by omega, by omega⟩
        rw [lsub_eq] at hp'
        exact inwd p (hw.ins p (List.mem_of_mem_drop (List.mem_of_mem_take hp')))
      · omega
    · by_cases c2 : k = 2
      · simp only [c0, c1, c2, decide_true, decide_false, cond_true, cond_false]
        refine ⟨_, _, _, rfl, by simp, fun p hp' => ?_, by omega, by omega⟩
        simp only [List.mem_cons, List.not_mem_nil, or_false] at hp'
        rcases hp' with rfl | rfl | rfl | rfl <;> unfold Wd <;> simp only <;> omega
      · simp only [c0, c1, c2, decide_false, cond_false]
        exact ⟨_, _, _, rfl, by omega, fun p hp => inwd p (hw.ins p hp), by omega, by omega⟩
end Go.AM
namespace Go.AM
end Go.AM
namespace Go.AM
theorem vwl {a : List Pt} (g : Good_ a) : (∀ i, In (pt a i)) ∧ a ≠ [] ∧ (a.length : Int) ≤ 10 ∧ 3 ≤ (a.length : Int) := by
  have lo := g.lo
  have hn : a ≠ [] := by intro e; subst e; simp at lo
  exact ⟨in_all g.isIn hn, hn, g.hi, lo⟩
end Go.AM
namespace Go.AM
theorem wi_of80 {n : Int} (h : Bd80 n) : Wi n := by unfold Bd80 at h; unfold Wi; omega
theorem uni_of {A B C D X Y : Int} (h : MvG A B C D X Y) : A * D - B * C = 1 ∨ A * D - B * C = -1 := by have := h.2.2; omega
end Go.AM
namespace Go.AM
theorem zPegs_l0 {L : Nat} {a : List Pt} (hs : (a.length : Int) ≤ 100000) : ∀ (m i : Nat), i ≤ a.length → a.length - i < m → laws_zPegs_l0 L a a m i = some true := by
  intro m
  induction m with
  | zero => intro i _ h; omega
  | succ m ih =>
    intro i hi hm
    rw [laws_zPegs_l0]
    by_cases h : (i : Int) < (a.length : Int)
    · have wi : wr IntKind.i64 (iadd (i : Int) 1) = ((i + 1 : Nat) : Int) := by rw [iadd_eq, wr_s (by omega)]; omega
      simp only [ilen_mapep, ilt_eq, h, decide_true, cond_true, lget_pt (show (0 : Int) ≤ i by omega) h, gbind_eq, Option.bind_some, ieq_eq, Bool.and_self, Bool.not_true, cond_false, wi]
      exact ih (i + 1) (by omega) (by omega)
    · simp only [ilen_mapep, ilt_eq, h, decide_false, cond_false]
theorem zPegs_eq {L : Nat} {a : List Pt} (hs : (a.length : Int) ≤ 100000) (hL : (a.length : Int) < L) : laws_zPegs L a a = some true := by
  unfold laws_zPegs
  simp only [ieq_eq, decide_true, Bool.not_true, cond_false]
  exact zPegs_l0 hs L 0 (by omega) (by omega)
end Go.AM
namespace Go.AM
theorem equal_l0 {L : Nat} {a : List Pt} (hs : (a.length : Int) ≤ 100000) : ∀ (m i : Nat), i ≤ a.length → a.length - i < m → slices_Equal_impl_Peg_impl_Peg_l0 L a a m i = some true := by
  intro m
  induction m with
  | zero => intro i _ h; omega
  | succ m ih =>
    intro i hi hm
    rw [slices_Equal_impl_Peg_impl_Peg_l0]
    by_cases h : (i : Int) < (a.length : Int)
    · have wi : wr IntKind.i64 (iadd (i : Int) 1) = ((i + 1 : Nat) : Int) := by rw [iadd_eq, wr_s (by omega)]; omega
      simp only [ilen_mapep, ilt_eq, h, decide_true, cond_true, lget_pt (show (0 : Int) ≤ i by omega) h, gbind_eq, Option.bind_some, ieq_eq, Bool.and_self, Bool.not_true, cond_false, wi]
      exact ih (i + 1) (by omega) (by omega)
    · simp only [ilen_mapep, ilt_eq, h, decide_false, cond_false]
theorem equal_self {L : Nat} {a : List Pt} (hs : (a.length : Int) ≤ 100000) (hL : (a.length : Int) < L) : slices_Equal_impl_Peg_impl_Peg L a a = some true := by
  unfold slices_Equal_impl_Peg_impl_Peg
  simp only [ieq_eq, decide_true, Bool.not_true, cond_false]
  exact equal_l0 hs L 0 (by omega) (by omega)
theorem moveCorners_eq {L : Nat} {A B C D X Y : Int} {p : List Pt} (hX : Wi X) (hY : Wi Y) (hL : 300000 < L) : ∃ r, spec_MoveCorners L A B C D X Y p = some r ∧ impl_MoveCorners L A B C D X Y p = some r ∧ (r.1.length : Int) ≤ 10 ∧
    (r.2 = true → MvG A B C D X Y ∧ Good_ p ∧ r.1 = p.map (mvP A B C D X Y) ∧ ∀ i, In (mvP A B C D X Y (pt p i))) := by
  unfold spec_MoveCorners impl_MoveCorners
  simp only [spec_mvGood_eq (L := L) (show 10 < L by omega), impl_IsMove_eq hX hY (show 10 < L by omega), gbind_eq, Option.bind_some, spec_pgGood_eq (L := L) (a := p) (show 20 < L by omega)]
  by_cases h : MvG A B C D X Y
  · by_cases g : Good_ p
    · obtain ⟨r, e1, e2, e3, e4⟩ := map_both (L := L) h g (by omega)
      simp only [h, g, decide_true, Bool.not_true, cond_false, e1, e2, Option.bind_some]
      exact ⟨r, rfl, rfl, e3, fun hr => ⟨trivial, trivial, (e4 hr).1, (e4 hr).2⟩⟩
    · have : impl_changed_impl_Move_bring L p A B C D X Y = some ([], false) := by
        unfold impl_changed_impl_Move_bring
        rw [impl_IsPolygon_eq (by omega)]
        simp only [g, decide_false, gbind_eq, Option.bind_some, Bool.not_false, cond_true]
      simp only [h, g, decide_true, decide_false, Bool.not_true, Bool.not_false, cond_false, cond_true, this, Option.bind_some]
      exact ⟨([], false), rfl, rfl, by simp, fun hr => by cases hr⟩
  · simp only [h, decide_false, Bool.not_false, cond_true]
    exact ⟨([], false), rfl, rfl, by simp, fun hr => by cases hr⟩
theorem mvP_aff (A B C D X Y : Int) : mvP A B C D X Y = aff A B C D X Y := rfl
theorem fa_of {a : List Pt} (g : Good_ a) : Fa a := by
  obtain ⟨h1, h2, h3, h4⟩ := vwl g
  refine ⟨h4, by omega, fun i => (h1 i).nr, fun i => ?_⟩
  have := g.turn (i % a.length) (Int.emod_nonneg _ (by omega)) (Int.emod_lt_of_pos _ (by omega))
  have e : ∀ c : Int, pt a (i % (a.length : Int) + c) = pt a (i + c) := fun c => pt_congr (by rw [Int.emod_add_emod])
  rwa [pt_mod, e, e] at this
theorem alike_moved {L : Nat} {A B C D X Y : Int} {p : List Pt} (h : MvG A B C D X Y) (g : Good_ p) (hin : ∀ i, In (mvP A B C D X Y (pt p i))) (hL : 300000 < L) : impl_AreAlike L p (p.map (mvP A B C D X Y)) = some (true, true) := by
  have g2 : Good_ (p.map (mvP A B C D X Y)) := by rw [mvP_aff]; exact good_aff (uni_of h) g hin
  obtain ⟨f, _, f1, f2⟩ := kind_eq (L := L) (fa_of g) (by omega)
  obtain ⟨f', _, f1', f2'⟩ := kind_eq (L := L) (fa_of g2) (by omega)
  have k := kind_aff (L := L) (α := A) (β := B) (γ := C) (δ := D) (u := X) (v := Y) (uni_of h) (fa_of g) (by rw [← mvP_aff]; exact fa_of g2) (by omega) f2
  rw [← mvP_aff] at k
  have e : f' = f := f2'.eq (fa_of g2) (by omega) k
  subst e
  have hl := f2.len (fa_of g) (by omega)
  obtain ⟨h1, h2, h3, h4⟩ := vwl g
  unfold impl_AreAlike
  rw [impl_IsPolygon_eq (by omega), impl_IsPolygon_eq (by omega)]
  simp only [g, g2, decide_true, Bool.not_true, cond_false, gbind_eq, Option.bind_some, f1, f1', equal_self (L := L) (a := f') (by omega) (by omega)]
theorem big_eq {L : Nat} {a b : List Int} : ∃ r, laws_big L a b = some r := by
  unfold laws_big
  by_cases h : ilt 1048576 (ilen (List.map eU a)) = true
  · rw [h]; exact ⟨_, rfl⟩
  · simp only [Bool.not_eq_true] at h
    rw [h]; exact ⟨_, rfl⟩
end Go.AM
namespace Go.AM
end Go.AM
namespace Go.AM
end Go.AM
namespace Go.AM
end Go.AM
namespace Go.AM
theorem Diff.rise {a : List Pt} (h : Diff a) : Rise (isort a) := rise_of (isort_ord a) (isort_nodup h.nodup)
theorem Diff.nr {a : List Pt} (h : Diff a) : ∀ x ∈ a, Nr x := fun x hx => (h.mem hx).nr
end Go.AM
namespace Go.AM
open Classical
end Go.AM
namespace Go.AM
open Classical
def dd (p q : Pt) : Int := (p.x - q.x) * (p.x - q.x) + (p.y - q.y) * (p.y - q.y)
def Bf (p q a b : Pt) : Prop := Less p a ∨ (p = a ∧ Less q b)
theorem dd_bd {p q : Pt} (hp : Nr p) (hq : Nr q) : 0 ≤ dd p q ∧ dd p q ≤ 8000000 := by
  have ⟨hx, hy⟩ := sub_bd hp hq
  have h1 := mul_bd hx hx
  have h2 := mul_bd hy hy
  have n1 := mul_self_nn (p.x - q.x)
  have n2 := mul_self_nn (p.y - q.y)
  unfold dd; omega
theorem dd_pos {p q : Pt} (h : Less p q) : 0 < dd p q := by
  have n1 := mul_self_nn (p.x - q.x)
  have n2 := mul_self_nn (p.y - q.y)
  unfold dd
  rcases h with h | ⟨h1, h2⟩
  · have : 0 < (p.x - q.x) * (p.x - q.x) := by
      have := Int.mul_pos_of_neg_of_neg (show p.x - q.x < 0 by omega) (show p.x - q.x < 0 by omega); exact this
    omega
  · have : 0 < (p.y - q.y) * (p.y - q.y) := by
      have := Int.mul_pos_of_neg_of_neg (show p.y - q.y < 0 by omega) (show p.y - q.y < 0 by omega); exact this
    omega
theorem wr_m {n : Int} (h : -1000000000 ≤ n ∧ n ≤ 1000000000) : wr .i64 n = n := wr_id (by omega)
theorem spec_trSquare_eq {L : Nat} {p q : Pt} (hp : Nr p) (hq : Nr q) : spec_trSquare L p.x p.y q.x q.y = some (dd p q) := by
  have ⟨hx, hy⟩ := sub_bd hp hq
  have h1 := mul_bd hx hx
  have h2 := mul_bd hy hy
  have h3 := dd_bd hp hq
  unfold dd at h3
  unfold spec_trSquare dd
  simp only [isub_eq, imul_eq, iadd_eq]
  rw [wr_m (show -1000000000 ≤ p.x - q.x ∧ p.x - q.x ≤ 1000000000 by omega), wr_m (show -1000000000 ≤ p.y - q.y ∧ p.y - q.y ≤ 1000000000 by omega), wr_m (n := (p.x - q.x) * (p.x - q.x)) (by omega), wr_m (n := (p.y - q.y) * (p.y - q.y)) (by omega), wr_m (by omega)]
theorem impl_square_eq {L : Nat} {p q : Pt} (hp : Nr p) (hq : Nr q) : (gbind (impl_Peg_less L p.x p.y q.x q.y) fun r => impl_Peg_square L (Prod.fst r) (Prod.snd r)) = some (dd p q) := by
  have ⟨hx, hy⟩ := sub_bd hp hq
  have h1 := mul_bd hx hx
  have h2 := mul_bd hy hy
  have h3 := dd_bd hp hq
  unfold dd at h3
  unfold impl_Peg_less impl_Peg_square dd
  simp only [isub_eq, imul_eq, iadd_eq, gbind_eq, Option.bind_some]
  rw [wr_m (show -1000000000 ≤ p.x - q.x ∧ p.x - q.x ≤ 1000000000 by omega), wr_m (show -1000000000 ≤ p.y - q.y ∧ p.y - q.y ≤ 1000000000 by omega), wr_m (n := (p.x - q.x) * (p.x - q.x)) (by omega), wr_m (n := (p.y - q.y) * (p.y - q.y)) (by omega), wr_m (by omega)]
theorem mvBefore2 {L : Nat} {p q a b : Pt} (hL : 3 < L) : spec_mvBefore L [p, q] [a, b] = some (decide (Bf p q a b)) := by
  obtain ⟨m, rfl⟩ : ∃ m, L = m + 3 := ⟨L - 3, by omega⟩
  unfold spec_mvBefore Bf
  have hl : ilen (List.map ep [p, q]) = 2 := by rw [ilen_eq]; rfl
  have g0 : lget [p, q] 0 = some p := by rw [lget_eq]; rfl
  have g1 : lget [p, q] 1 = some q := by rw [lget_eq]; rfl
  have f0 : lget [a, b] 0 = some a := by rw [lget_eq]; rfl
  have f1 : lget [a, b] 1 = some b := by rw [lget_eq]; rfl
  have w1 : wr .i64 (0 + 1) = 1 := wr_id (by decide)
  have w2 : wr .i64 (1 + 1) = 2 := wr_id (by decide)
  have eqq : ∀ x y : Pt, (decide (x.x = y.x) && decide (x.y = y.y)) = decide (x = y) := fun x y => by rw [Bool.eq_iff_iff, pt_eq_iff]; simp
  simp only [spec_mvBefore_l0, hl, ilt_eq, gbind_eq, g0, g1, f0, f1, iadd_eq, w1, w2, ieq_eq, Option.bind_some, eqq, spec_pgLess_eq, show ((0 : Int) < 2) = True by simp, show ((1 : Int) < 2) = True by simp, show ((2 : Int) < 2) = False by simp, decide_true, decide_false, cond_true, cond_false]
  by_cases h1 : p = a
  · subst h1
    simp only [decide_true, Bool.not_true, cond_false]
    by_cases h2 : q = b
    · subst h2
      simp only [decide_true, Bool.not_true, cond_false]
      have h1 : ¬ Less p p := Less.irrefl _
      have h2 : ¬ Less q q := Less.irrefl _
      simp [h1, h2]
    · simp only [h2, decide_false, Bool.not_false, cond_true]
      congr 1
      rw [decide_eq_decide]
      constructor
      · intro h; exact .inr ⟨trivial, h⟩
      · rintro (h | ⟨_, h⟩)
        · exact absurd h (Less.irrefl _)
        · exact h
  · simp only [h1, decide_false, Bool.not_false, cond_true, false_and, or_false]
def Far (Pr : Pt → Pt → Prop) (A B : Pt) (m : Int) : Prop :=
  (m = 0 ∧ A = ⟨0, 0⟩ ∧ B = ⟨0, 0⟩ ∧ ∀ p q, ¬ Pr p q) ∨ (Pr A B ∧ m = dd A B ∧ ∀ p q, Pr p q → dd p q ≤ m ∧ (dd p q = m → ¬ Bf p q A B))
theorem bf_tot {p q a b : Pt} (h1 : ¬ Bf p q a b) (h2 : ¬ Bf a b p q) : p = a ∧ q = b := by
  unfold Bf at *
  have e : p = a := not_less_eq (fun h => h1 (.inl h)) (fun h => h2 (.inl h))
  subst e
  exact ⟨rfl, not_less_eq (fun h => h1 (.inr ⟨rfl, h⟩)) (fun h => h2 (.inr ⟨rfl, h⟩))⟩
theorem Far.one {Pr Pr' : Pt → Pt → Prop} {A B A' B' : Pt} {m m' : Int} (he : ∀ p q, Pr p q ↔ Pr' p q) (h : Far Pr A B m) (h' : Far Pr' A' B' m') : A = A' ∧ B = B' ∧ m = m' := by
  rcases h with ⟨h1, h2, h3, h4⟩ | ⟨h1, h2, h3⟩ <;> rcases h' with ⟨k1, k2, k3, k4⟩ | ⟨k1, k2, k3⟩
  · exact ⟨by rw [h2, k2], by rw [h3, k3], by rw [h1, k1]⟩
  · exact absurd ((he _ _).2 k1) (h4 _ _)
  · exact absurd ((he _ _).1 h1) (k4 _ _)
  · have a1 := h3 A' B' ((he _ _).2 k1)
    have a2 := k3 A B ((he _ _).1 h1)
    have em : m = m' := by omega
    have := bf_tot (a2.2 (by omega)) (a1.2 (by omega))
    exact ⟨this.1, this.2, em⟩
theorem Far.same {Pr Pr' : Pt → Pt → Prop} {A B : Pt} {m : Int} (he : ∀ p q, Pr p q ↔ Pr' p q) (h : Far Pr A B m) : Far Pr' A B m := by
  rcases h with ⟨h1, h2, h3, h4⟩ | ⟨h1, h2, h3⟩
  · exact .inl ⟨h1, h2, h3, fun p q h => h4 p q ((he p q).2 h)⟩
  · exact .inr ⟨(he _ _).1 h1, h2, fun p q h => h3 p q ((he p q).2 h)⟩
theorem Far.more {Pr : Pt → Pt → Prop} {A B P Q : Pt} {m : Int} (h : Far Pr A B m) (hl : Less P Q) (hd : m < dd P Q) : Far (fun p q => Pr p q ∨ (p = P ∧ q = Q)) P Q (dd P Q) := by
  refine .inr ⟨.inr ⟨rfl, rfl⟩, rfl, fun p q hp => ?_⟩
  rcases hp with hp | ⟨rfl, rfl⟩
  · rcases h with ⟨_, _, _, h4⟩ | ⟨_, h2, h3⟩
    · exact absurd hp (h4 _ _)
    · have := (h3 p q hp).1
      exact ⟨by omega, fun e => by omega⟩
  · refine ⟨Int.le_refl _, fun _ hb => ?_⟩
    rcases hb with hb | ⟨_, hb⟩ <;> exact Less.irrefl _ hb
theorem Far.tie {Pr : Pt → Pt → Prop} {A B P Q : Pt} {m : Int} (h : Far Pr A B m) (hl : Less P Q) (hd : m = dd P Q) (hb : Bf P Q A B) : Far (fun p q => Pr p q ∨ (p = P ∧ q = Q)) P Q m := by
  have hp := dd_pos hl
  rcases h with ⟨h1, _, _, _⟩ | ⟨h1, h2, h3⟩
  · omega
  refine .inr ⟨.inr ⟨rfl, rfl⟩, hd, fun p q hp => ?_⟩
  rcases hp with hp | ⟨rfl, rfl⟩
  · refine ⟨(h3 p q hp).1, fun e hb' => (h3 p q hp).2 e ?_⟩
    unfold Bf at *
    rcases hb' with hb' | ⟨rfl, hb'⟩
    · rcases hb with hb | ⟨rfl, hb⟩
      · exact .inl (hb'.trans hb)
      · exact .inl hb'
    · rcases hb with hb | ⟨rfl, hb⟩
      · exact .inl hb
      · exact .inr ⟨rfl, hb'.trans hb⟩
  · refine ⟨by omega, fun _ hb => ?_⟩
    rcases hb with hb | ⟨_, hb⟩ <;> exact Less.irrefl _ hb
theorem Far.keep {Pr : Pt → Pt → Prop} {A B P Q : Pt} {m : Int} (h : Far Pr A B m) (hl : Less P Q) (hd : dd P Q ≤ m) (hb : dd P Q = m → ¬ Bf P Q A B) : Far (fun p q => Pr p q ∨ (p = P ∧ q = Q)) A B m := by
  have hp := dd_pos hl
  rcases h with ⟨h1, _, _, _⟩ | ⟨h1, h2, h3⟩
  · omega
  refine .inr ⟨.inl h1, h2, fun p q hp => ?_⟩
  rcases hp with hp | ⟨rfl, rfl⟩
  · exact h3 p q hp
  · exact ⟨hd, hb⟩
def Prs (a : List Pt) (i j : Int) (p q : Pt) : Prop := Less p q ∧ ∃ i' j', 0 ≤ i' ∧ 0 ≤ j' ∧ j' < (a.length : Int) ∧ (i' < i ∨ (i' = i ∧ j' < j)) ∧ pt a i' = p ∧ pt a j' = q
theorem wiFar_l1 {L : Nat} {κ0 : (List Pt) → Int → (List Pt) → Int → Int → Int → Int → Int → Int → Int → Int → Int → Int → Option (Int × Int × Int × Int)} {a v12 : List Pt} {v13 i b00 b01 b10 b11 : Int} (hs : (a.length : Int) ≤ 1000) (hin : ∀ i, Nr (pt a i)) (hi : 0 ≤ i ∧ i < (a.length : Int)) (hL : 100 < L) :
    ∀ (m : Nat) (j : Int) (A B : Pt) (M : Int), 0 ≤ j → j ≤ (a.length : Int) → (a.length : Int) - j < m → Far (Prs a i j) A B M →
      ∃ A' B' M', Far (Prs a i a.length) A' B' M' ∧ spec_wiFar_l1 L κ0 a v12 v13 i b00 b01 b10 b11 (pt a i) m M j A.x A.y B.x B.y = κ0 a M' v12 v13 (i + 1) b00 b01 b10 b11 A'.x A'.y B'.x B'.y := by
  intro m
  induction m with
  | zero => intro j A B M _ _ h; omega
  | succ m ih =>
    intro j A B M h0 h1 hm hF
    rw [spec_wiFar_l1]
    simp only [ilt_eq, ilen_mapep, iadd_eq]
    by_cases h : j < (a.length : Int)
    · simp only [h, decide_true, cond_true, lget_pt h0 h, gbind_eq, Option.bind_some, spec_trSquare_eq (hin i) (hin j), spec_pgLess_eq]
      rw [wr_s (show -1000000 ≤ j + 1 ∧ j + 1 ≤ 1000000 by omega)]
      have next : ∀ p q, (Prs a i j p q ∨ (p = pt a i ∧ q = pt a j)) ∧ (p = pt a i ∧ q = pt a j → Less (pt a i) (pt a j)) ↔ Prs a i (j + 1) p q := by
        intro p q
        unfold Prs
        constructor
        · rintro ⟨⟨hl, i', j', c1, c2, c3, c4, c5, c6⟩ | ⟨rfl, rfl⟩, hh⟩
          · exact ⟨hl, i', j', c1, c2, c3, by omega, c5, c6⟩
          · exact ⟨hh ⟨rfl, rfl⟩, i, j, hi.1, h0, h, .inr ⟨rfl, by omega⟩, rfl, rfl⟩
        · rintro ⟨hl, i', j', c1, c2, c3, c4, c5, c6⟩
          refine ⟨?_, fun ⟨e1, e2⟩ => by rw [← e1, ← e2]; exact hl⟩
          by_cases e : i' = i ∧ j' = j
          · obtain ⟨rfl, rfl⟩ := e
            exact .inr ⟨c5.symm, c6.symm⟩
          · exact .inl ⟨hl, i', j', c1, c2, c3, by omega, c5, c6⟩
      by_cases hl : Less (pt a i) (pt a j)
      · have nx : ∀ p q, (Prs a i j p q ∨ (p = pt a i ∧ q = pt a j)) ↔ Prs a i (j + 1) p q := fun p q => by rw [← next]; exact ⟨fun h => ⟨h, fun _ => hl⟩, And.left⟩
        simp only [hl, decide_true, Bool.not_true, cond_false]
        by_cases c1 : dd (pt a i) (pt a j) < M
        · simp only [c1, decide_true, cond_true]
          exact ih (j + 1) A B M (by omega) (by omega) (by omega) ((hF.keep hl (by omega) (fun e => by omega)).same nx)
        · by_cases c2 : M < dd (pt a i) (pt a j)
          · simp only [c1, c2, decide_true, decide_false, cond_true, cond_false]
            exact ih (j + 1) (pt a i) (pt a j) _ (by omega) (by omega) (by omega) ((hF.more hl c2).same nx)
          · simp only [c1, c2, decide_false, cond_false]
            have eAB : ({ x := A.x, y := A.y } : Pt) = A := rfl
            rw [eAB, show ({ x := B.x, y := B.y } : Pt) = B from rfl, mvBefore2 (by omega)]
            simp only [Option.bind_some]
            by_cases c3 : Bf (pt a i) (pt a j) A B
            · simp only [c3, decide_true, cond_true]
              have e : dd (pt a i) (pt a j) = M := by omega
              rw [e]
              exact ih (j + 1) (pt a i) (pt a j) M (by omega) (by omega) (by omega) ((hF.tie hl e.symm c3).same nx)
            · simp only [c3, decide_false, cond_false]
              exact ih (j + 1) A B M (by omega) (by omega) (by omega) ((hF.keep hl (by omega) (fun _ => c3)).same nx)
      · simp only [hl, decide_false, Bool.not_false, cond_true]
        refine ih (j + 1) A B M (by omega) (by omega) (by omega) (hF.same fun p q => ?_)
        rw [← next]
        constructor
        · intro h
          refine ⟨.inl h, fun ⟨e1, e2⟩ => ?_⟩
          have := h.1
          rw [e1, e2] at this
          exact this
        · rintro ⟨h | ⟨h1, h2⟩, hh⟩
          · exact h
          · exact absurd (hh ⟨h1, h2⟩) hl
    · simp only [h, decide_false, cond_false]
      rw [wr_s (show -1000000 ≤ i + 1 ∧ i + 1 ≤ 1000000 by omega)]
      obtain rfl : j = a.length := by omega
      exact ⟨A, B, M, hF, rfl⟩
theorem wiFar_l0 {L : Nat} {a : List Pt} (hs : (a.length : Int) ≤ 1000) (hin : ∀ i, Nr (pt a i)) (hL : (a.length : Int) + 100 < L) :
    ∀ (m : Nat) (i : Int) (A B : Pt) (M : Int) (c0 c1 c2 c3 : Int), 0 ≤ i → i ≤ (a.length : Int) → (a.length : Int) - i < m → Far (Prs a i 0) A B M →
      ∃ A' B' M', Far (Prs a a.length 0) A' B' M' ∧ spec_wiFar_l0 L m a M a a.length i c0 c1 c2 c3 A.x A.y B.x B.y = some (A'.x, A'.y, B'.x, B'.y) := by
  intro m
  induction m with
  | zero => intro i A B M c0 c1 c2 c3 _ _ h; omega
  | succ m ih =>
    intro i A B M c0 c1 c2 c3 h0 h1 hm hF
    rw [spec_wiFar_l0]
    simp only [ilt_eq]
    by_cases h : i < (a.length : Int)
    · simp only [h, decide_true, cond_true, lget_pt h0 h, gbind_eq, Option.bind_some]
      obtain ⟨A', B', M', hF', e⟩ := wiFar_l1 (L := L) (κ0 := spec_wiFar_l0 L m) (a := a) (v12 := a) (v13 := a.length) (i := i) (b00 := c0) (b01 := c1) (b10 := c2) (b11 := c3) hs hin ⟨h0, h⟩ (by omega) L 0 A B M (by omega) (by omega) (by omega) hF
      rw [e]
      refine ih (i + 1) A' B' M' c0 c1 c2 c3 (by omega) (by omega) (by omega) (hF'.same fun p q => ?_)
      unfold Prs
      constructor
      · rintro ⟨hl, i', j', c1, c2, c3, c4, c5, c6⟩
        exact ⟨hl, i', j', c1, c2, c3, by omega, c5, c6⟩
      · rintro ⟨hl, i', j', c1, c2, c3, c4, c5, c6⟩
        exact ⟨hl, i', j', c1, c2, c3, by omega, c5, c6⟩
    · simp only [h, decide_false, cond_false]
      obtain rfl : i = a.length := by omega
      exact ⟨A, B, M, hF, rfl⟩
theorem spec_wiFar_eq {L : Nat} {a : List Pt} (hs : (a.length : Int) ≤ 1000) (hin : ∀ i, Nr (pt a i)) (hL : (a.length : Int) + 100 < L) : ∃ A B M, Far (Prs a a.length 0) A B M ∧ spec_wiFar L a = some (A.x, A.y, B.x, B.y) := by
  unfold spec_wiFar
  rw [ilen_mapep]
  exact wiFar_l0 hs hin hL L 0 ⟨0, 0⟩ ⟨0, 0⟩ 0 0 0 0 0 (by omega) (by omega) (by omega) (.inl ⟨rfl, rfl, rfl, fun p q ⟨_, i', j', c1, c2, c3, c4, _⟩ => by omega⟩)
def Pri (l : List Pt) (i j : Int) (p q : Pt) : Prop := ∃ i' j', 0 ≤ i' ∧ i' < j' ∧ j' < (l.length : Int) ∧ (i' < i ∨ (i' = i ∧ j' < j)) ∧ pt l i' = p ∧ pt l j' = q
theorem rise_pt {l : List Pt} (h : l.Pairwise Less) {i j : Int} (h0 : 0 ≤ i) (h1 : i < j) (h2 : j < (l.length : Int)) : Less (pt l i) (pt l j) := by
  rw [List.pairwise_iff_getElem] at h
  have := h i.toNat j.toNat (by omega) (by omega) (by omega)
  have p1 := pt_get (a := l) h0 (by omega)
  have p2 := pt_get (a := l) (i := j) (by omega) h2
  rw [List.getElem?_eq_getElem (by omega)] at p1 p2
  rw [← Option.some.inj p1, ← Option.some.inj p2]
  exact this
theorem far_l1 {L : Nat} {κ0 : Int → Int → Int → Int → Int → Int → Int → Int → Int → Int → Int → (List Pt) → Option (Int × Int × Int × Int × Int × Bool)} {l : List Pt} {v30 i b00 b01 b10 b11 : Int} (hs : (l.length : Int) ≤ 1000) (hin : ∀ i, Nr (pt l i)) (hr : l.Pairwise Less) (hi : 0 ≤ i ∧ i < (l.length : Int)) :
    ∀ (m : Nat) (j : Int) (A B : Pt) (M : Int), 0 ≤ j → j ≤ (l.length : Int) - (i + 1) → (l.length : Int) - (i + 1) - j < m → Far (Pri l i (i + 1 + j)) A B M →
      ∃ A' B' M', Far (Pri l i l.length) A' B' M' ∧ impl_FarthestApart_l1 L κ0 v30 i b00 b01 b10 b11 l (pt l i) m M j A.x A.y B.x B.y = κ0 M' v30 (i + 1) b00 b01 b10 b11 A'.x A'.y B'.x B'.y l := by
  intro m
  induction m with
  | zero => intro j A B M _ _ h; omega
  | succ m ih =>
    intro j A B M h0 h1 hm hF
    rw [impl_FarthestApart_l1]
    simp only [ilt_eq, ile_eq, ilen_mapep, iadd_eq, isub_eq]
    rw [wr_s (show -1000000 ≤ i + 1 ∧ i + 1 ≤ 1000000 by omega)]
    by_cases h : j < (l.length : Int) - (i + 1)
    · have hl : Less (pt l i) (pt l (i + 1 + j)) := rise_pt hr hi.1 (by omega) (by omega)
      have sq := impl_square_eq (L := L) (hin i) (hin (i + 1 + j))
      rw [gbind_eq] at sq
      obtain ⟨r2, q1, q2⟩ := Option.bind_eq_some_iff.1 sq
      simp only [h, h0, decide_true, Bool.and_self, cond_true, lget_pt (show 0 ≤ i + 1 + j by omega) (show i + 1 + j < (l.length : Int) by omega), gbind_eq, Option.bind_some, q1, q2]
      rw [wr_s (show -1000000 ≤ j + 1 ∧ j + 1 ≤ 1000000 by omega)]
      have nx : ∀ p q, (Pri l i (i + 1 + j) p q ∨ (p = pt l i ∧ q = pt l (i + 1 + j))) ↔ Pri l i (i + 1 + (j + 1)) p q := by
        intro p q
        unfold Pri
        constructor
        · rintro (⟨i', j', c1, c2, c3, c4, c5, c6⟩ | ⟨rfl, rfl⟩)
          · exact ⟨i', j', c1, c2, c3, by omega, c5, c6⟩
          · exact ⟨i, i + 1 + j, hi.1, by omega, by omega, .inr ⟨rfl, by omega⟩, rfl, rfl⟩
        · rintro ⟨i', j', c1, c2, c3, c4, c5, c6⟩
          by_cases e : i' = i ∧ j' = i + 1 + j
          · obtain ⟨rfl, rfl⟩ := e
            exact .inr ⟨c5.symm, c6.symm⟩
          · exact .inl ⟨i', j', c1, c2, c3, by omega, c5, c6⟩
      by_cases c : M < dd (pt l i) (pt l (i + 1 + j))
      · simp only [c, decide_true, cond_true]
        exact ih (j + 1) (pt l i) (pt l (i + 1 + j)) _ (by omega) (by omega) (by omega) ((hF.more hl c).same nx)
      · simp only [c, decide_false, cond_false]
        refine ih (j + 1) A B M (by omega) (by omega) (by omega) ((hF.keep hl (by omega) (fun _ hb => ?_)).same nx)
        have hp := dd_pos hl
        rcases hF with ⟨h1, _, _, _⟩ | ⟨⟨i', j', c1, c2, c3, c4, rfl, rfl⟩, _, _⟩
        · omega
        · rcases hb with hb | ⟨e, hb⟩
          · by_cases e : i' = i
            · rw [e] at hb; exact Less.irrefl _ hb
            · exact Less.irrefl _ (hb.trans (rise_pt hr c1 (show i' < i by omega) hi.2))
          · by_cases e2 : i' = i
            · exact Less.irrefl _ (hb.trans (rise_pt hr (show 0 ≤ j' by omega) (show j' < i + 1 + j by omega) (by omega)))
            · have := rise_pt hr c1 (show i' < i by omega) hi.2
              rw [e] at this
              exact Less.irrefl _ this
    · simp only [h, decide_false, cond_false]
      rw [show i + 1 + j = (l.length : Int) by omega] at hF
      exact ⟨A, B, M, hF, rfl⟩
theorem far_l0 {L : Nat} {l : List Pt} (hs : (l.length : Int) ≤ 1000) (hin : ∀ i, Nr (pt l i)) (hr : l.Pairwise Less) (hL : (l.length : Int) + 100 < L) :
    ∀ (m : Nat) (i : Int) (A B : Pt) (M : Int) (c0 c1 c2 c3 : Int), 0 ≤ i → i ≤ (l.length : Int) → (l.length : Int) - i < m → Far (Pri l i 0) A B M →
      ∃ A' B' M', Far (Pri l l.length 0) A' B' M' ∧ impl_FarthestApart_l0 L m M l.length i c0 c1 c2 c3 A.x A.y B.x B.y l = some (A'.x, A'.y, B'.x, B'.y, M', true) := by
  intro m
  induction m with
  | zero => intro i A B M c0 c1 c2 c3 _ _ h; omega
  | succ m ih =>
    intro i A B M c0 c1 c2 c3 h0 h1 hm hF
    rw [impl_FarthestApart_l0]
    simp only [ilt_eq, ile_eq, ilen_mapep, iadd_eq]
    by_cases h : i < (l.length : Int)
    · rw [wr_s (show -1000000 ≤ i + 1 ∧ i + 1 ≤ 1000000 by omega)]
      simp only [h, h0, decide_true, Bool.and_self, cond_true, lget_pt h0 h, gbind_eq, Option.bind_some, show 0 ≤ i + 1 by omega, show i + 1 ≤ (l.length : Int) by omega]
      obtain ⟨A', B', M', hF', e⟩ := far_l1 (L := L) (κ0 := impl_FarthestApart_l0 L m) (l := l) (v30 := l.length) (i := i) (b00 := c0) (b01 := c1) (b10 := c2) (b11 := c3) hs hin hr ⟨h0, h⟩ L 0 A B M (by omega) (by omega) (by omega) (hF.same fun p q => by
        unfold Pri
        constructor
        · rintro ⟨i', j', c1, c2, c3, c4, c5, c6⟩; exact ⟨i', j', c1, c2, c3, by omega, c5, c6⟩
        · rintro ⟨i', j', c1, c2, c3, c4, c5, c6⟩; exact ⟨i', j', c1, c2, c3, by omega, c5, c6⟩)
      rw [e]
      refine ih (i + 1) A' B' M' c0 c1 c2 c3 (by omega) (by omega) (by omega) (hF'.same fun p q => ?_)
      unfold Pri
      constructor
      · rintro ⟨i', j', c1, c2, c3, c4, c5, c6⟩; exact ⟨i', j', c1, c2, c3, by omega, c5, c6⟩
      · rintro ⟨i', j', c1, c2, c3, c4, c5, c6⟩; exact ⟨i', j', c1, c2, c3, by omega, c5, c6⟩
    · simp only [h, decide_false, cond_false]
      obtain rfl : i = l.length := by omega
      exact ⟨A, B, M, hF, rfl⟩
theorem pairs_same {a : List Pt} (hd : a.Nodup) (p q : Pt) : Pri (isort a) (isort a).length 0 p q ↔ Prs a a.length 0 p q := by
  have hr : (isort a).Pairwise Less := rise_ord (rise_of (isort_ord a) (isort_nodup hd))
  unfold Pri Prs
  constructor
  · rintro ⟨i', j', c1, c2, c3, _, rfl, rfl⟩
    have hn : isort a ≠ [] := fun e => by rw [e] at c3; simp at c3; omega
    obtain ⟨u, u0, u1, u2⟩ := mem_pt (isort_mem.1 (pt_mem hn i'))
    obtain ⟨v, v0, v1, v2⟩ := mem_pt (isort_mem.1 (pt_mem hn j'))
    exact ⟨rise_pt hr c1 c2 c3, u, v, u0, v0, v1, .inl u1, u2, v2⟩
  · rintro ⟨hl, i', j', c1, c2, c3, c4, rfl, rfl⟩
    have hn : a ≠ [] := fun e => by subst e; simp at c3; omega
    obtain ⟨u, u0, u1, u2⟩ := mem_pt (isort_mem.2 (pt_mem hn i'))
    obtain ⟨v, v0, v1, v2⟩ := mem_pt (isort_mem.2 (pt_mem hn j'))
    refine ⟨u, v, u0, ?_, v1, .inl u1, u2, v2⟩
    rcases Int.lt_trichotomy u v with h | h | h
    · exact h
    · subst h; rw [u2] at v2; rw [v2] at hl; exact absurd hl (Less.irrefl _)
    · have := rise_pt hr v0 h u1
      rw [u2, v2] at this
      exact absurd (hl.trans this) (Less.irrefl _)
theorem Good_.diff {a : List Pt} (g : Good_ a) : Diff a := ⟨by have := g.lo; omega, by have := g.hi; omega, g.isIn, g.ne⟩
theorem far_eq {L : Nat} {a : List Pt} (g : Good_ a) (hL : 5000 < L) : ∃ A B M, Nr A ∧ Nr B ∧ spec_wiFar L a = some (A.x, A.y, B.x, B.y) ∧ impl_FarthestApart L a = some (A.x, A.y, B.x, B.y, M, true) := by
  have hd := g.diff
  have hlo := g.lo
  have hhi := g.hi
  have hN : ∀ i, Nr (pt a i) := fun i => (hd.all i).nr
  obtain ⟨A, B, M, hF, e⟩ := spec_wiFar_eq (L := L) (a := a) (by omega) hN (by omega)
  have hlen := isort_len a
  have hne : isort a ≠ [] := fun e => hd.nn (List.eq_nil_of_length_eq_zero (by rw [← isort_len, e]; rfl))
  have hN2 : ∀ i, Nr (pt (isort a) i) := fun i => hd.nr _ (isort_mem.1 (pt_mem hne i))
  have hr : (isort a).Pairwise Less := rise_ord hd.rise
  obtain ⟨A', B', M', hF', e'⟩ := far_l0 (L := L) (l := isort a) (by omega) hN2 hr (by omega) L 0 ⟨0, 0⟩ ⟨0, 0⟩ 0 0 0 0 0 (by omega) (by omega) (by omega) (.inl ⟨rfl, rfl, rfl, fun p q ⟨i', j', c1, c2, c3, c4, _⟩ => by omega⟩)
  obtain ⟨rfl, rfl, rfl⟩ := hF'.one (fun p q => pairs_same hd.nodup p q) hF
  have hAB : Nr A' ∧ Nr B' := by
    rcases hF' with ⟨_, rfl, rfl, _⟩ | ⟨⟨i', j', _, _, _, _, rfl, rfl⟩, _⟩
    · exact ⟨⟨by decide, by decide⟩, ⟨by decide, by decide⟩⟩
    · exact ⟨hN2 _, hN2 _⟩
  refine ⟨A', B', M', hAB.1, hAB.2, e, ?_⟩
  unfold impl_FarthestApart
  rw [impl_AreDifferent_eq (by omega)]
  simp only [gbind_eq, Option.bind_some, hd, decide_true, Bool.not_true, cond_false, ilen_mapep, ilt_eq, show ¬ (a.length : Int) < 2 by omega, decide_false, cond_false]
  rw [impl_sorted_eq hd.nn (by omega)]
  simp only [Option.bind_some, ilen_mapep]
  exact e'
theorem farCorners_eq {L : Nat} {a : List Pt} (hL : 5000 < L) : ∃ A B : Pt, ∃ t : Bool, Nr A ∧ Nr B ∧ spec_FarthestCorners L a = some (A.x, A.y, B.x, B.y, t) ∧ impl_FarthestCorners L a = some (A.x, A.y, B.x, B.y, t) := by
  unfold spec_FarthestCorners impl_FarthestCorners
  rw [spec_pgGood_eq (by omega), impl_IsPolygon_eq (by omega)]
  simp only [gbind_eq, Option.bind_some]
  by_cases g : Good_ a
  · obtain ⟨A, B, M, hA, hB, e1, e2⟩ := far_eq (L := L) g hL
    simp only [g, decide_true, Bool.not_true, cond_false, e1, e2, Option.bind_some]
    exact ⟨A, B, true, hA, hB, rfl, rfl⟩
  · simp only [g, decide_false, Bool.not_false, cond_true]
    exact ⟨⟨0, 0⟩, ⟨0, 0⟩, false, ⟨by decide, by decide⟩, ⟨by decide, by decide⟩, rfl, rfl⟩
theorem farSquare_eq {L : Nat} {a : List Pt} (hL : 5000 < L) : ∃ r, spec_FarSquare L a = some r ∧ impl_FarSquare L a = some r := by
  obtain ⟨A, B, t, hA, hB, e1, e2⟩ := farCorners_eq (L := L) (a := a) hL
  unfold spec_FarSquare impl_FarSquare
  have sq := impl_square_eq (L := L) hA hB
  rw [gbind_eq] at sq
  obtain ⟨r2, q1, q2⟩ := Option.bind_eq_some_iff.1 sq
  rw [e2]
  simp only [gbind_eq, Option.bind_some, q1, q2]
  unfold spec_FarthestCorners at e1
  rw [spec_pgGood_eq (by omega)] at e1 ⊢
  simp only [gbind_eq, Option.bind_some] at e1 ⊢
  by_cases g : Good_ a
  · simp only [g, decide_true, Bool.not_true, cond_false] at e1 ⊢
    obtain ⟨⟨x1, x2, x3, x4⟩, f1, f2⟩ := Option.bind_eq_some_iff.1 e1
    simp only [Option.some.injEq, Prod.mk.injEq] at f2
    obtain ⟨rfl, rfl, rfl, rfl, rfl⟩ := f2
    rw [f1]
    simp only [Option.bind_some, spec_trSquare_eq hA hB]
    exact ⟨_, rfl, rfl⟩
  · simp only [g, decide_false, Bool.not_false, cond_true, Option.some.injEq, Prod.mk.injEq] at e1 ⊢
    obtain ⟨a1, a2, a3, a4, rfl⟩ := e1
    refine ⟨_, rfl, ?_⟩
    unfold dd
    rw [← a1, ← a2, ← a3, ← a4]
    rfl
end Go.AM
namespace Go.AM
theorem imin_if (a b : Int) : imin a b = if a < b then a else b := by rw [imin_eq]; split <;> split <;> omega
theorem imax_if (a b : Int) : imax a b = if b < a then a else b := by rw [imax_eq]; split <;> split <;> omega
theorem boxf_l0 {L : Nat} {a : List Pt} (hs : (a.length : Int) ≤ 1000) : ∀ (m i : Nat) (b0 b1 c0 c1 : Int), i ≤ a.length → a.length - i < m →
    impl_box_l0 L a m i b0 b1 c0 c1 = some ((rng Pt.x (a.drop i) b0 c0).1, (rng Pt.y (a.drop i) b1 c1).1, (rng Pt.x (a.drop i) b0 c0).2, (rng Pt.y (a.drop i) b1 c1).2) := by
  intro m
  induction m with
  | zero => intro i _ _ _ _ _ h; omega
  | succ m ih =>
    intro i b0 b1 c0 c1 hi hm
    rw [impl_box_l0]
    by_cases h : (i : Int) < (a.length : Int)
    · have hlt : i < a.length := by omega
      have wi : wr IntKind.i64 (iadd (i : Int) 1) = ((i + 1 : Nat) : Int) := by rw [iadd_eq, wr_s (by omega)]; omega
      simp only [ilen_mapep, ilt_eq, h, decide_true, cond_true, lget_pt (show (0 : Int) ≤ i by omega) h, gbind_eq, Option.bind_some, wi]
      rw [ih (i + 1) _ _ _ _ (by omega) (by omega), drop_pt hlt, rng, rng, imin_if, imin_if, imax_if, imax_if]
    · simp only [ilen_mapep, ilt_eq, h, decide_false, cond_false]
      rw [List.drop_of_length_le (by omega)]
      rfl
theorem rng_x {a : List Pt} : rng Pt.x a (pt a 0).x (pt a 0).x = rngOf 1 0 a := by
  have h : ∀ p, val 1 0 p = Pt.x p := fun p => by unfold val; omega
  unfold rngOf
  rw [rng_congr h, h]
theorem rng_y {a : List Pt} : rng Pt.y a (pt a 0).y (pt a 0).y = rngOf 0 1 a := by
  have h : ∀ p, val 0 1 p = Pt.y p := fun p => by unfold val; omega
  unfold rngOf
  rw [rng_congr h, h]
noncomputable def bxv (a : List Pt) : Int × Int × Int × Int := ((rngOf 1 0 a).1, (rngOf 0 1 a).1, (rngOf 1 0 a).2, (rngOf 0 1 a).2)
theorem boxf_eq {L : Nat} {a : List Pt} (hn : a ≠ []) (hs : (a.length : Int) ≤ 1000) (hL : a.length < L) : impl_box L a = some (bxv a) := by
  have hl : 0 < (a.length : Int) := by have := List.length_pos_iff.2 hn; omega
  have e := boxf_l0 (L := L) hs L 0 (pt a 0).x (pt a 0).y (pt a 0).x (pt a 0).y (by omega) (by omega)
  unfold impl_box
  rw [show ((0 : Nat) : Int) = 0 by rfl, List.drop_zero, rng_x, rng_y] at e
  simp only [lget_pt (Int.le_refl 0) hl, gbind_eq, Option.bind_some, e]
  rfl
theorem boxOf_yes {L : Nat} {a : List Pt} (g : Good_ a) (hL : 300000 < L) : spec_BoxOf L a = some ((bxv a).1, (bxv a).2.1, (bxv a).2.2.1, (bxv a).2.2.2, true) ∧ impl_BoxOf L a = some ((bxv a).1, (bxv a).2.1, (bxv a).2.2.1, (bxv a).2.2.2, true) := by
  obtain ⟨v1, v2, v3, v4⟩ := vwl g
  have r1 := (range_eq (L := L) (a := a) (b := 1) (c := 0) (by omega) (by omega) v2 (by omega) v1 (by omega)).1
  have r2 := (range_eq (L := L) (a := a) (b := 0) (c := 1) (by omega) (by omega) v2 (by omega) v1 (by omega)).1
  unfold spec_BoxOf impl_BoxOf
  rw [spec_pgGood_eq (by omega), impl_IsPolygon_eq (by omega)]
  simp only [g, decide_true, Bool.not_true, cond_false, gbind_eq, Option.bind_some, r1, r2, boxf_eq (L := L) v2 (by omega) (by omega)]
  exact ⟨rfl, trivial⟩
theorem boxOf_no {L : Nat} {a : List Pt} (g : ¬ Good_ a) (hL : 300000 < L) : spec_BoxOf L a = some (0, 0, 0, 0, false) ∧ impl_BoxOf L a = some (0, 0, 0, 0, false) := by
  unfold spec_BoxOf impl_BoxOf
  rw [spec_pgGood_eq (by omega), impl_IsPolygon_eq (by omega)]
  simp only [g, decide_false, Bool.not_false, cond_true, gbind_eq, Option.bind_some, and_self]
theorem leastWidth_yes {L : Nat} {a : List Pt} (g : Good_ a) (hL : 300000 < L) : impl_LeastWidth L a = some (leastW a, true) := by
  unfold impl_LeastWidth
  rw [impl_IsPolygon_eq (by omega)]
  simp only [g, decide_true, Bool.not_true, cond_false, gbind_eq, Option.bind_some, impl_least_val g (show 200000 < L by omega)]
theorem widthIn_yes {L : Nat} {a : List Pt} {b c : Int} (g : Good_ a) (hd : Dir b c) (hb : -100000 ≤ b ∧ b ≤ 100000) (hc : -100000 ≤ c ∧ c ≤ 100000) (hL : 300000 < L) : impl_WidthIn L a b c = some (wdth a b c, true) := by
  obtain ⟨v1, v2, v3, v4⟩ := vwl g
  unfold impl_WidthIn impl_isWide
  rw [impl_IsPolygon_eq (by omega)]
  simp only [g, decide_true, cond_true, impl_isDirection_eq (L := L) (by omega), hd, gbind_eq, Option.bind_some, Bool.not_true, cond_false, (width_eq (L := L) hb hc v2 (by omega) v1 (by omega)).2]
theorem aff_pegs {L : Nat} {a b : List Pt} (ga : Good_ a) (gb : Good_ b) (h1 : (area a).natAbs = (area b).natAbs) (h2 : round a = round b) (hi : impl_inner L a = impl_inner L b) (hL : 300000 < L) : impl_PegsInAll L a = impl_PegsInAll L b := by
  obtain ⟨v1, v2, v3, v4⟩ := vwl ga
  obtain ⟨w1, w2, w3, w4⟩ := vwl gb
  unfold impl_PegsInAll
  rw [impl_IsPolygon_eq (by omega), impl_IsPolygon_eq (by omega)]
  simp only [ga, gb, hi, decide_true, Bool.not_true, cond_false, gbind_eq, Option.bind_some, impl_around_eq (L := L) v2 (by omega) (by omega) (fun i => (v1 i).nr), impl_around_eq (L := L) w2 (by omega) (by omega) (fun i => (w1 i).nr), h2]
theorem prs_iff {a : List Pt} {p q : Pt} : Prs a a.length 0 p q ↔ Less p q ∧ p ∈ a ∧ q ∈ a := by
  unfold Prs
  constructor
  · rintro ⟨hl, i, j, i0, j0, j1, hi, rfl, rfl⟩
    have hn : a ≠ [] := fun e => by subst e; simp at j1; omega
    exact ⟨hl, pt_mem hn i, pt_mem hn j⟩
  · rintro ⟨hl, hp, hq⟩
    obtain ⟨i, i0, i1, rfl⟩ := mem_pt hp
    obtain ⟨j, j0, j1, rfl⟩ := mem_pt hq
    exact ⟨hl, i, j, i0, j0, j1, .inl i1, rfl, rfl⟩
theorem dd_sym (p q : Pt) : dd p q = dd q p := by unfold dd; grind
theorem far_full {L : Nat} {a : List Pt} (g : Good_ a) (hL : 300000 < L) : ∃ A B : Pt, In A ∧ In B ∧ spec_FarthestCorners L a = some (A.x, A.y, B.x, B.y, true) ∧ impl_FarthestCorners L a = some (A.x, A.y, B.x, B.y, true) ∧
    spec_FarSquare L a = some (dd A B, true) ∧ impl_FarSquare L a = some (dd A B, true) ∧ Less A B ∧ ∀ i j, dd (pt a i) (pt a j) ≤ dd A B := by
  obtain ⟨v1, v2, v3, v4⟩ := vwl g
  obtain ⟨A, B, M, hF, e⟩ := spec_wiFar_eq (L := L) (a := a) (by omega) (fun i => (v1 i).nr) (by omega)
  have s1 : spec_FarthestCorners L a = some (A.x, A.y, B.x, B.y, true) := by
    unfold spec_FarthestCorners
    rw [spec_pgGood_eq (by omega)]
    simp only [g, decide_true, Bool.not_true, cond_false, gbind_eq, Option.bind_some, e]
  obtain ⟨A', B', t, _, _, q1, q2⟩ := farCorners_eq (L := L) (a := a) (by omega)
  rw [s1] at q1
  simp only [Option.some.injEq, Prod.mk.injEq] at q1
  obtain ⟨x1, x2, x3, x4, rfl⟩ := q1
  rw [← x1, ← x2, ← x3, ← x4] at q2
  have hne : pt a 0 ≠ pt a 1 := g.ne 1 0 (by omega) (by omega) (by omega)
  rcases hF with ⟨_, _, _, hno⟩ | ⟨hp, hM, hmax⟩
  · exfalso
    by_cases h : Less (pt a 0) (pt a 1)
    · exact hno _ _ (prs_iff.2 ⟨h, pt_mem v2 0, pt_mem v2 1⟩)
    · by_cases h' : Less (pt a 1) (pt a 0)
      · exact hno _ _ (prs_iff.2 ⟨h', pt_mem v2 1, pt_mem v2 0⟩)
      · exact hne (not_less_eq h h')
  · obtain ⟨hl, hA, hB⟩ := prs_iff.1 hp
    obtain ⟨i, _, _, eA⟩ := mem_pt hA
    obtain ⟨j, _, _, eB⟩ := mem_pt hB
    have iA : In A := by rw [← eA]; exact v1 i
    have iB : In B := by rw [← eB]; exact v1 j
    obtain ⟨r, f1, f2⟩ := farSquare_eq (L := L) (a := a) (by omega)
    have f3 : spec_FarSquare L a = some (dd A B, true) := by
      unfold spec_FarSquare
      rw [spec_pgGood_eq (by omega)]
      simp only [g, decide_true, Bool.not_true, cond_false, gbind_eq, Option.bind_some, e, spec_trSquare_eq iA.nr iB.nr]
    refine ⟨A, B, iA, iB, s1, q2, f3, by rw [f2, ← f1, f3], hl, fun i j => ?_⟩
    by_cases h : Less (pt a i) (pt a j)
    · rw [← hM]; exact (hmax _ _ (prs_iff.2 ⟨h, pt_mem v2 i, pt_mem v2 j⟩)).1
    · by_cases h' : Less (pt a j) (pt a i)
      · rw [← hM, dd_sym]; exact (hmax _ _ (prs_iff.2 ⟨h', pt_mem v2 j, pt_mem v2 i⟩)).1
      · rw [not_less_eq h h']
        have : dd (pt a j) (pt a j) = 0 := by unfold dd; grind
        rw [this]
        exact (dd_bd iA.nr iB.nr).1
theorem far_no {L : Nat} {a : List Pt} (g : ¬ Good_ a) (hL : 300000 < L) : (∃ s, spec_FarSquare L a = some (s, false) ∧ impl_FarSquare L a = some (s, false)) ∧ ∃ A B : Pt, spec_FarthestCorners L a = some (A.x, A.y, B.x, B.y, false) ∧ impl_FarthestCorners L a = some (A.x, A.y, B.x, B.y, false) := by
  have s1 : spec_FarthestCorners L a = some (0, 0, 0, 0, false) := by
    unfold spec_FarthestCorners
    rw [spec_pgGood_eq (by omega)]
    simp only [g, decide_false, Bool.not_false, cond_true, gbind_eq, Option.bind_some]
  obtain ⟨A', B', t, _, _, q1, q2⟩ := farCorners_eq (L := L) (a := a) (by omega)
  obtain ⟨r, f1, f2⟩ := farSquare_eq (L := L) (a := a) (by omega)
  rw [s1] at q1
  simp only [Option.some.injEq, Prod.mk.injEq] at q1
  obtain ⟨x1, x2, x3, x4, rfl⟩ := q1
  rw [← x1, ← x2, ← x3, ← x4] at q2
  have f3 : spec_FarSquare L a = some (0, false) := by
    unfold spec_FarSquare
    rw [spec_pgGood_eq (by omega)]
    simp only [g, decide_false, Bool.not_false, cond_true, gbind_eq, Option.bind_some]
  exact ⟨⟨0, f3, by rw [f2, ← f1, f3]⟩, ⟨0, 0⟩, ⟨0, 0⟩, s1, q2⟩
end Go.AM
namespace Go.AM
theorem three_l0 {L : Nat} {r3 r4 r5 : Int × Int × Int × Int} {r6 : Bool × Int × Int} : ∀ (k m : Nat) (M : Int) (w : List Pt), w.length = 3 → k ≤ 3 → k < m → 2 ^ k * M ≤ 1000000 → 0 ≤ M → (∀ p ∈ w, (-M ≤ p.x ∧ p.x ≤ M) ∧ (-M ≤ p.y ∧ p.y ≤ M)) →
    ∃ w', spec_l1Cur_three_l0 L r3 r4 r5 r6 m (3 - k) w = some (w', r6.2.1, r6.2.2) ∧ w'.length = 3 ∧ ∀ p ∈ w', Wd p := by
  intro k
  induction k with
  | zero =>
    intro m M w hw _ hm hM h0 hp
    obtain ⟨m, rfl⟩ : ∃ q, m = q + 1 := ⟨m - 1, by omega⟩
    have hlen : ilen [AV.agg [AV.int IntKind.i64 r3.1, AV.int IntKind.i64 r3.2.1], AV.agg [AV.int IntKind.i64 r4.1, AV.int IntKind.i64 r4.2.1], AV.agg [AV.int IntKind.i64 r5.1, AV.int IntKind.i64 r5.2.1]] = 3 := by rw [ilen_eq]; rfl
    rw [spec_l1Cur_three_l0]
    simp only [hlen, ilt_eq, show ¬ (3 : Int) - ((0 : Nat) : Int) < 3 by omega, decide_false, cond_false]
    refine ⟨w, rfl, hw, fun p h => ?_⟩
    have := hp p h
    simp at hM
    unfold Wd; omega
  | succ k ih =>
    intro m M w hw hk hm hM h0 hp
    obtain ⟨m, rfl⟩ : ∃ q, m = q + 1 := ⟨m - 1, by omega⟩
    have hlen : ilen [AV.agg [AV.int IntKind.i64 r3.1, AV.int IntKind.i64 r3.2.1], AV.agg [AV.int IntKind.i64 r4.1, AV.int IntKind.i64 r4.2.1], AV.agg [AV.int IntKind.i64 r5.1, AV.int IntKind.i64 r5.2.1]] = 3 := by rw [ilen_eq]; rfl
    have hM' : 2 ^ k * (2 * M) ≤ 1000000 := by
      have : (2 : Int) ^ (k + 1) * M = 2 ^ k * (2 * M) := by rw [Int.pow_succ]; grind
      rwa [this] at hM
    have hMs : M ≤ 1000000 := by
      have hp' : (1 : Int) ≤ 2 ^ (k + 1) := by
        have : (0 : Int) < 2 ^ (k + 1) := Int.pow_pos (by omega)
        omega
      have := Int.mul_le_mul_of_nonneg_right hp' h0
      omega
    have i0 : (0 : Int) ≤ 3 - ((k + 1 : Nat) : Int) := by omega
    have i1 : (3 : Int) - ((k + 1 : Nat) : Int) < (w.length : Int) := by omega
    have hne : w ≠ [] := by intro e; subst e; simp at hw
    have hq := hp _ (pt_mem2 hne (3 - ((k + 1 : Nat) : Int)))
    have w1 : wr IntKind.i64 (iadd (3 - ((k + 1 : Nat) : Int)) 1) = 3 - (k : Int) := by rw [iadd_eq, wr_id (by omega)]; omega
    rw [spec_l1Cur_three_l0]
    simp only [hlen, ilt_eq, ile_eq, ilen_mapep, show (3 : Int) - ((k + 1 : Nat) : Int) < 3 by omega, i0, i1, decide_true, Bool.and_self, cond_true, lget_pt i0 i1, gbind_eq, Option.bind_some, w1, imul_eq]
    rw [wr_id (n := 2 * (pt w (3 - ((k + 1 : Nat) : Int))).x) (by omega), wr_id (n := 2 * (pt w (3 - ((k + 1 : Nat) : Int))).y) (by omega)]
    refine ih m (2 * M) _ (by rw [lset_eq]; simpa using hw) (by omega) (by omega) hM' (by omega) fun p hp' => ?_
    rw [lset_eq] at hp'
    rcases List.mem_or_eq_of_mem_set hp' with h | h
    · have := hp p h; omega
    · rw [h]; simp only; omega
theorem three_dr {L : Nat} {a : List Int} {t s n : Int} (hb : By a) (ht : 0 ≤ t ∧ t ≤ 200000) (hn : 1 ≤ n ∧ n ≤ 20) (hL : 1000 < L) : ∃ r t' s', spec_l1Cur_three L a t s n = some (r, t', s') ∧ (r.length : Int) ≤ 30 ∧ (∀ p ∈ r, Wd p) ∧ t ≤ t' ∧ t' ≤ t + 400 := by
  have inwd : ∀ p, In p → Wd p := fun p h => by unfold In at h; unfold Wd; omega
  obtain ⟨k, t1, s1, e1, k0, h1, h2⟩ := pick_dr (L := L) (s := s) (n := 12) hb (t := t) (by omega) (by omega)
  unfold spec_l1Cur_three
  simp only [e1, gbind_eq, Option.bind_some, ieq_eq]
  by_cases c0 : k = 0
  · obtain ⟨r, t2, s2, e2, q1, q2, q3, q4⟩ := polygon_dr (L := L) (s := s1) (n := 4) hb (t := t1) (by omega) (by omega) hL
    simp only [c0, decide_true, cond_true, e2, Option.bind_some]
    exact ⟨_, _, _, rfl, q1, q2, by omega, by omega⟩
  · by_cases c1 : k = 1
    · obtain ⟨x, t2, s2, e2, x0, h3, h4⟩ := pick_dr (L := L) (s := s1) (n := 3) hb (t := t1) (by omega) (by omega)
      simp only [c0, c1, decide_true, decide_false, cond_true, cond_false, e2, Option.bind_some]
      refine ⟨_, _, _, rfl, by simp, fun p hp => ?_, by omega, by omega⟩
      simp only [List.mem_cons, List.not_mem_nil, or_false] at hp
      have wx : wr IntKind.i64 (isub x 1) = x - 1 := by rw [isub_eq, wr_id (by omega)]
      rcases hp with rfl | rfl | rfl <;> unfold Wd <;> simp only [wx] <;> omega
    · obtain ⟨x1, y1, t2, s2, e2, m2, h3, h4⟩ := surePeg_dr (L := L) (s := s1) (n := n) hb (t := t1) (by omega) hn
      obtain ⟨x2, y2, t3, s3, e3, m3, h5, h6⟩ := surePeg_dr (L := L) (s := s2) (n := n) hb (t := t2) (by omega) hn
      obtain ⟨x3, y3, t4, s4, e4, m4, h7, h8⟩ := surePeg_dr (L := L) (s := s3) (n := n) hb (t := t3) (by omega) hn
      obtain ⟨b, t5, s5, e5, h9, h10⟩ := one_dr (L := L) (s := s4) (n := 3) hb (t := t4) (by omega) (by omega)
      simp only [c0, c1, decide_false, cond_false, e2, e3, e4, e5, Option.bind_some]
      cases b with
      | true =>
        obtain ⟨w', e6, l6, p6⟩ := three_l0 (L := L) (r3 := (x1, y1, t2, s2)) (r4 := (x2, y2, t3, s3)) (r5 := (x3, y3, t4, s4)) (r6 := (true, t5, s5)) 3 L 40 [⟨x1, y1⟩, ⟨x2, y2⟩, ⟨x3, y3⟩] rfl (by omega) (by omega) (by decide) (by omega) (fun p hp => by
          simp only [List.mem_cons, List.not_mem_nil, or_false] at hp
          unfold In at m2 m3 m4
          rcases hp with rfl | rfl | rfl <;> simp only at * <;> omega)
        rw [show (3 : Int) - ((3 : Nat) : Int) = 0 by omega] at e6
        simp only [cond_true, e6]
        exact ⟨_, _, _, rfl, by omega, p6, by omega, by omega⟩
      | false =>
        simp only [cond_false]
        refine ⟨_, _, _, rfl, by simp, fun p hp => ?_, by omega, by omega⟩
        simp only [List.mem_cons, List.not_mem_nil, or_false] at hp
        rcases hp with rfl | rfl | rfl
        · exact inwd _ m2
        · exact inwd _ m3
        · exact inwd _ m4
end Go.AM
namespace Go.AM
theorem impl_side {L : Nat} {A B C D X Y : Int} (h : MvG A B C D X Y) (hL : 10 < L) : impl_SideOfMove L A B C D X Y = some (A * D - B * C, true) := by
  have hX : Wi X := wi_of80 h.2.1.1
  have hY : Wi Y := wi_of80 h.2.1.2
  unfold impl_SideOfMove impl_Move_side
  have d := (det_wr h.1).1
  simp only [impl_IsMove_eq hX hY hL, gbind_eq, Option.bind_some, h, decide_true, Bool.not_true, cond_false, d]
theorem impl_inner_eq {L : Nat} {a : List Pt} (g : Good_ a) (hL : 300000 < L) : impl_inner L a = some (inside a) := by
  obtain ⟨v1, v2, v3, v4⟩ := vwl g
  have hin : ∀ i, Nr (pt a i) := fun i => (v1 i).nr
  have hb := area_bd (a := a) (by omega) hin
  unfold impl_inner inside
  rw [impl_twice_eq v2 (by omega) (by omega) hin]
  simp only [gbind_eq, Option.bind_some, impl_size_eq (show -1000000000 ≤ area a ∧ area a ≤ 1000000000 by omega), impl_around_eq v2 (show (a.length : Int) ≤ 1000 by omega) (show 3000 < L by omega) hin, ieq_eq, isub_eq, iadd_eq, iquo_eq]
  rfl
theorem pegsInAll_same {L : Nat} {a b : List Pt} (ga : Good_ a) (gb : Good_ b) (h1 : (area a).natAbs = (area b).natAbs) (h2 : round a = round b) (hL : 300000 < L) : ∃ n, impl_PegsInAll L a = some (n, true) ∧ impl_PegsInAll L b = some (n, true) := by
  obtain ⟨v1, v2, v3, v4⟩ := vwl ga
  have e : inside a = inside b := by unfold inside; rw [h1, h2]
  have k := aff_pegs ga gb h1 h2 (by rw [impl_inner_eq ga hL, impl_inner_eq gb hL, e]) hL
  have : ∃ n, impl_PegsInAll L a = some (n, true) := by
    unfold impl_PegsInAll
    rw [impl_IsPolygon_eq (by omega)]
    simp only [ga, impl_inner_eq ga hL, decide_true, Bool.not_true, cond_false, gbind_eq, Option.bind_some, impl_around_eq (L := L) v2 (by omega) (by omega) (fun i => (v1 i).nr)]
    exact ⟨_, rfl⟩
  obtain ⟨n, hn⟩ := this
  exact ⟨n, hn, by rw [← k]; exact hn⟩
theorem dirsOf_l0 {L : Nat} {S : List Pt} {k : Int} (hs : (S.length : Int) ≤ 200000) : ∀ (m i : Nat), i ≤ S.length → S.length - i < m → impl_DirectionsOfWidth_l0 L (S, k) m (i : Int) ((S.take i).map row) = some (S.map row, true) := by
  intro m
  induction m with
  | zero => intro i _ h; omega
  | succ m ih =>
    intro i hi hm
    rw [impl_DirectionsOfWidth_l0]
    by_cases h : (i : Int) < (S.length : Int)
    · have hlt : i < S.length := by omega
      have wi : wr IntKind.i64 (iadd (i : Int) 1) = ((i + 1 : Nat) : Int) := by rw [iadd_eq, wr_s (by omega)]; omega
      have ff : fits (iadd (ilen (List.map eLI ((S.take i).map row))) (ilen [AV.lst false false 1 [AV.int IntKind.i64 (pt S i).x, AV.int IntKind.i64 (pt S i).y]])) 24 = true := by
        refine fits_s ?_
        simp only [iadd_eq, ilen_eq, List.length_map, List.length_take, List.length_cons, List.length_nil]
        omega
      simp only [ilen_mapep, ilt_eq, ile_eq, h, show (0 : Int) ≤ (i : Int) by omega, decide_true, Bool.and_self, cond_true, lget_pt (show (0 : Int) ≤ i by omega) h, gbind_eq, Option.bind_some, ff, wi, lcat_eq]
      have e : (S.take i).map row ++ [[(pt S i).x, (pt S i).y]] = (S.take (i + 1)).map row := by
        rw [take_pt hlt, List.map_append]; rfl
      rw [e]
      exact ih (i + 1) (by omega) (by omega)
    · simp only [ilen_mapep, ilt_eq, h, decide_false, cond_false]
      rw [List.take_of_length_le (by omega)]
noncomputable def dirsW (a : List Pt) : List Pt := isort (dirL a (leastW a))
theorem dirs_eq {L : Nat} {a : List Pt} (g : Good_ a) (hL : 300000 < L) : impl_DirectionsOfWidth L a = some ((dirsW a).map row, true) ∧ dirsW a ≠ [] := by
  obtain ⟨h1, h2, h3⟩ := leastW_spec g
  have hne : dirsW a ≠ [] := fun e => h2 (by have := isort_len (dirL a (leastW a)); unfold dirsW at e; rw [e] at this; exact List.eq_nil_of_length_eq_zero this.symm)
  have hl := dirL_len (a := a) (t := leastW a) (by omega)
  have hll : ((dirsW a).length : Int) ≤ 100000 := by unfold dirsW; rw [isort_len]; exact hl
  refine ⟨?_, hne⟩
  unfold impl_DirectionsOfWidth
  rw [impl_IsPolygon_eq (by omega)]
  simp only [g, decide_true, Bool.not_true, cond_false, gbind_eq, Option.bind_some, impl_least_val g (show 200000 < L by omega)]
  exact dirsOf_l0 (L := L) (S := dirsW a) (k := leastW a) (by omega) L 0 (by omega) (by omega)
theorem moveCorners_yes {L : Nat} {A B C D X Y : Int} {p : List Pt} (hm : MvG A B C D X Y) (g : Good_ p) (hin : ∀ i, In (mvP A B C D X Y (pt p i))) (hL : 300000 < L) : impl_MoveCorners L A B C D X Y p = some (p.map (mvP A B C D X Y), true) := by
  obtain ⟨v1, v2, v3, v4⟩ := vwl g
  obtain ⟨r, r1, r2, _⟩ := moveCorners_eq (L := L) (A := A) (B := B) (C := C) (D := D) (p := p) (wi_of80 hm.2.1.1) (wi_of80 hm.2.1.2) hL
  have k := (pgMap_l0 (L := L) hm v1 (by omega) L 0 (by omega) (by omega)).2 fun j _ _ => hin j
  have k' : spec_pgMap_l0 L p A B C D X Y L 0 [] = some (p.map (mvP A B C D X Y), true) := k
  unfold spec_MoveCorners at r1
  simp only [spec_mvGood_eq (L := L) (show 10 < L by omega), hm, decide_true, gbind_eq, Option.bind_some, spec_pgGood_eq (L := L) (a := p) (show 20 < L by omega), g, Bool.not_true, cond_false] at r1
  unfold spec_pgMap at r1
  rw [k'] at r1
  rw [r2]
  simpa using r1.symm
structure FlM (a : List Pt) (A B C D X Y : Int) : Prop where
  good : Good_ a
  mv : MvG A B C D X Y
  side : A * D - B * C = 1
  dir : (⟨C, D⟩ : Pt) = pt (dirsW a) 0
  ex : X = -(rngOf A B a).1
  ey : Y = -(rngOf C D a).1
theorem flat_full {L : Nat} {a : List Pt} (hL : 300000 < L) : ∃ (A B C D X Y : Int) (one : Bool) (r2 : List Pt × Bool), spec_FlatMove L a = some (A, B, C, D, X, Y, one) ∧ impl_FlatMove L a = some (A, B, C, D, X, Y, one) ∧ spec_FlatPolygon L a = some r2 ∧ impl_FlatPolygon L a = some r2 ∧ (r2.1.length : Int) ≤ 10 ∧
    (one = true → FlM a A B C D X Y) ∧ (r2.2 = true → one = true ∧ r2.1 = a.map (mvP A B C D X Y) ∧ Good_ r2.1 ∧ ∀ i, In (mvP A B C D X Y (pt a i))) := by
  obtain ⟨r, r1, r2, r3⟩ := flatMove_eq (L := L) (a := a) hL
  obtain ⟨A, B, C, D, X, Y, t⟩ := r
  have hF : t = true → FlM a A B C D X Y := fun ht => by
    obtain ⟨g, hm⟩ := r3 ht
    obtain ⟨A', B', C', D', X', Y', e1, e2, hX, hY, d1, d2, d3, d4⟩ := flatMoves (L := L) g hL
    unfold impl_FlatMove at r2
    rw [impl_IsPolygon_eq (by omega)] at r2
    simp only [g, decide_true, Bool.not_true, cond_false, gbind_eq, Option.bind_some, e2] at r2
    unfold impl_checkedMove at r2
    simp only [impl_IsMove_eq (L := L) hX hY (show 10 < L by omega), gbind_eq, Option.bind_some] at r2
    by_cases hm' : MvG A' B' C' D' X' Y'
    · simp only [hm', decide_true, Bool.not_true, cond_false, Option.bind_some, Option.some.injEq, Prod.mk.injEq] at r2
      obtain ⟨rfl, rfl, rfl, rfl, rfl, rfl, _⟩ := r2
      exact ⟨g, hm, d2, d1, d3, d4⟩
    · simp only [hm', decide_false, Bool.not_false, cond_true, Option.bind_some, Option.some.injEq, Prod.mk.injEq] at r2
      have : (false : Bool) = t := r2.2.2.2.2.2.2
      rw [ht] at this
      cases this
  cases t with
  | false =>
    refine ⟨A, B, C, D, X, Y, false, ([], false), r1, r2, ?_, ?_, by simp, hF, fun h => by cases h⟩
    · unfold spec_FlatPolygon
      simp only [r1, gbind_eq, Option.bind_some, Bool.not_false, cond_true]
    · unfold impl_FlatPolygon
      simp only [r2, gbind_eq, Option.bind_some, Bool.not_false, cond_true]
  | true =>
    obtain ⟨g, hm⟩ := r3 rfl
    obtain ⟨q, q1, q2, q3, q4⟩ := map_both (L := L) hm g (by omega)
    refine ⟨A, B, C, D, X, Y, true, q, r1, r2, ?_, ?_, q3, hF, fun hq => ?_⟩
    · unfold spec_FlatPolygon spec_MoveCorners
      simp only [r1, gbind_eq, Option.bind_some, Bool.not_true, cond_false, spec_mvGood_eq (L := L) (show 10 < L by omega), hm, decide_true, spec_pgGood_eq (L := L) (a := a) (show 20 < L by omega), g, q1]
    · unfold impl_FlatPolygon
      simp only [r2, gbind_eq, Option.bind_some, Bool.not_true, cond_false, q2]
    · obtain ⟨e, hin⟩ := q4 hq
      refine ⟨rfl, e, ?_, hin⟩
      rw [e, mvP_aff]
      exact good_aff (uni_of hm) g hin
theorem flat_box {a : List Pt} {A B C D X Y : Int} (h : FlM a A B C D X Y) : (bxv (a.map (mvP A B C D X Y))).1 = 0 ∧ (bxv (a.map (mvP A B C D X Y))).2.1 = 0 ∧ (bxv (a.map (mvP A B C D X Y))).2.2.2 = leastW a := by
  obtain ⟨v1, v2, v3, v4⟩ := vwl h.good
  have hx := h.ex
  have hy := h.ey
  unfold bxv
  rw [mvP_aff, rngOf_aff v2, rngOf_aff v2]
  simp only [Int.one_mul, Int.zero_mul, Int.add_zero, Int.zero_add]
  have hm : pt (dirsW a) 0 ∈ dirL a (leastW a) := isort_mem.1 (pt_mem (dirs_eq (L := 300001) h.good (by omega)).2 0)
  have hw := wdth_first h.good hm
  rw [← h.dir] at hw
  simp only at hw
  unfold wdth at hw
  exact ⟨by omega, by omega, by omega⟩
end Go.AM
namespace Go.AM
theorem drawLeast_dr {L : Nat} {a : List Int} (hb : By a) (hL : 1000 < L) : ∃ r, spec_DrawLeastWidth L a = some r := by
  obtain ⟨b, t1, s1, e1, h1, h2⟩ := one_dr (L := L) (s := 0) (n := 3) hb (t := 0) (by omega) (by omega)
  unfold spec_DrawLeastWidth
  simp only [e1, gbind_eq, Option.bind_some]
  cases b with
  | true =>
    obtain ⟨r, t2, s2, e2, _⟩ := three_dr (L := L) (a := a) (t := t1) (s := s1) (n := 6) hb (by omega) (by omega) hL
    simp only [cond_true, e2, Option.bind_some]
    exact ⟨_, rfl⟩
  | false =>
    obtain ⟨r, t2, s2, e2, _⟩ := polygon_dr (L := L) (a := a) (t := t1) (s := s1) (n := 5) hb (by omega) (by omega) hL
    simp only [cond_false, e2, Option.bind_some]
    exact ⟨_, rfl⟩
theorem zLess_eq {L : Nat} {ax ay bx b_y : Int} (h : Less ⟨ax, ay⟩ ⟨bx, b_y⟩) (hL : 10 < L) : laws_zLess L [⟨ax, ay⟩] [⟨bx, b_y⟩] = some true := by
  unfold laws_zLess
  have key : ∀ m, laws_zLess_l0 L [⟨ax, ay⟩] [⟨bx, b_y⟩] (m + 1) 0 = some true := fun m => by
    rw [laws_zLess_l0]
    have l1 : ilen (List.map ep [(⟨ax, ay⟩ : Pt)]) = 1 := by rw [ilen_mapep]; rfl
    have g0 : lget [(⟨ax, ay⟩ : Pt)] 0 = some ⟨ax, ay⟩ := by rw [lget_eq]; rfl
    have g1 : lget [(⟨bx, b_y⟩ : Pt)] 0 = some ⟨bx, b_y⟩ := by rw [lget_eq]; rfl
    simp only [l1, ilt_eq, show (0 : Int) < 1 by omega, decide_true, cond_true, g0, g1, gbind_eq, Option.bind_some, ieq_eq]
    unfold Less at h
    simp only at h
    by_cases hx : ax = bx
    · have hy : ay < b_y := by omega
      have hn : ¬ ay = b_y := by omega
      simp only [hx, hn, decide_true, decide_false, Bool.and_false, Bool.not_false, cond_true, Int.lt_irrefl, cond_false, hy]
    · have hlt : ax < bx := by omega
      simp only [hx, decide_false, Bool.false_and, Bool.not_false, cond_true, hlt, decide_true]
  obtain ⟨m, rfl⟩ : ∃ m, L = m + 1 := ⟨L - 1, by omega⟩
  exact key m
theorem rngOf_bd {a : List Pt} (g : Good_ a) : (-40 ≤ (rngOf 1 0 a).1 ∧ (rngOf 1 0 a).1 ≤ 40) ∧ (-40 ≤ (rngOf 1 0 a).2 ∧ (rngOf 1 0 a).2 ≤ 40) ∧ (-40 ≤ (rngOf 0 1 a).1 ∧ (rngOf 0 1 a).1 ≤ 40) ∧ (-40 ≤ (rngOf 0 1 a).2 ∧ (rngOf 0 1 a).2 ≤ 40) ∧
    ∀ i, ((rngOf 1 0 a).1 ≤ (pt a i).x ∧ (pt a i).x ≤ (rngOf 1 0 a).2) ∧ ((rngOf 0 1 a).1 ≤ (pt a i).y ∧ (pt a i).y ≤ (rngOf 0 1 a).2) := by
  obtain ⟨v1, v2, v3, v4⟩ := vwl g
  have hx : ∀ p, In p → -40 ≤ Pt.x p ∧ Pt.x p ≤ 40 := fun p h => by unfold In at h; omega
  have hy : ∀ p, In p → -40 ≤ Pt.y p ∧ Pt.y p ≤ 40 := fun p h => by unfold In at h; omega
  have mem : ∀ p ∈ a, In p := fun p hp => by
    obtain ⟨i, _, _, e⟩ := mem_pt hp
    rw [← e]; exact v1 i
  have b1 := rng_bd (f := Pt.x) (A := -40) (B := 40) a (pt a 0).x (pt a 0).x (hx _ (v1 0)) (hx _ (v1 0)) fun p hp => hx p (mem p hp)
  have b2 := rng_bd (f := Pt.y) (A := -40) (B := 40) a (pt a 0).y (pt a 0).y (hy _ (v1 0)) (hy _ (v1 0)) fun p hp => hy p (mem p hp)
  have c1 := (rng_le (f := Pt.x) a (pt a 0).x (pt a 0).x).2.2
  have c2 := (rng_le (f := Pt.y) a (pt a 0).y (pt a 0).y).2.2
  rw [rng_x] at b1 c1
  rw [rng_y] at b2 c2
  exact ⟨b1.1, b1.2, b2.1, b2.2, fun i => ⟨c1 _ (pt_mem v2 i), c2 _ (pt_mem v2 i)⟩⟩
theorem dir10 : Dir 1 0 := by unfold Dir; decide
theorem dir01 : Dir 0 1 := by unfold Dir; decide
theorem told_l6 {L : Nat} {κ0 : Int → Int → Int → (List Pt) → Int → Int → Int → Int → Option Bool} {M : Int} {a : List Pt} {i : Nat} {lx ly hx hy : Int} (g : Good_ a) (hM : ∀ i j, dd (pt a i) (pt a j) ≤ M) (hi : i < a.length) :
    ∀ (m j : Nat), j ≤ i → i - j < m → laws_FnPolygonsFlat_l6 L κ0 M (a.length : Int) (i : Int) a lx ly hx hy (pt a i) m (j : Int) = κ0 M (a.length : Int) ((i + 1 : Nat) : Int) a lx ly hx hy := by
  obtain ⟨v1, v2, v3, v4⟩ := vwl g
  intro m
  induction m with
  | zero => intro j _ h; omega
  | succ m ih =>
    intro j hj hm
    rw [laws_FnPolygonsFlat_l6]
    by_cases h : (j : Int) < (i : Int)
    · have wj : wr IntKind.i64 (iadd (j : Int) 1) = ((j + 1 : Nat) : Int) := by rw [iadd_eq, wr_s (by omega)]; omega
      have gj : lget a (iadd 0 (j : Int)) = some (pt a (j : Int)) := by rw [iadd_eq, Int.zero_add]; exact lget_pt (by omega) (by omega)
      have hI := v1 (i : Int)
      have hJ := v1 (j : Int)
      have hd := hM (i : Int) (j : Int)
      unfold dd at hd
      unfold In at hI hJ
      have m1 := mul_bd (x := (pt a (i : Int)).x - (pt a (j : Int)).x) (y := (pt a (i : Int)).x - (pt a (j : Int)).x) (A := 80) (B := 80) (by omega) (by omega)
      have m2 := mul_bd (x := (pt a (i : Int)).y - (pt a (j : Int)).y) (y := (pt a (i : Int)).y - (pt a (j : Int)).y) (A := 80) (B := 80) (by omega) (by omega)
      have wd : wr IntKind.i64 (iadd (wr IntKind.i64 (imul (wr IntKind.i64 (isub (pt a (i : Int)).x (pt a (j : Int)).x)) (wr IntKind.i64 (isub (pt a (i : Int)).x (pt a (j : Int)).x)))) (wr IntKind.i64 (imul (wr IntKind.i64 (isub (pt a (i : Int)).y (pt a (j : Int)).y)) (wr IntKind.i64 (isub (pt a (i : Int)).y (pt a (j : Int)).y))))) =
          ((pt a (i : Int)).x - (pt a (j : Int)).x) * ((pt a (i : Int)).x - (pt a (j : Int)).x) + ((pt a (i : Int)).y - (pt a (j : Int)).y) * ((pt a (i : Int)).y - (pt a (j : Int)).y) := by
        simp only [isub_eq, imul_eq, iadd_eq]
        rw [wr_id (n := (pt a (i : Int)).x - (pt a (j : Int)).x) (by omega), wr_id (n := (pt a (i : Int)).y - (pt a (j : Int)).y) (by omega), wr_id (n := ((pt a (i : Int)).x - (pt a (j : Int)).x) * ((pt a (i : Int)).x - (pt a (j : Int)).x)) (by omega),
          wr_id (n := ((pt a (i : Int)).y - (pt a (j : Int)).y) * ((pt a (i : Int)).y - (pt a (j : Int)).y)) (by omega), wr_id (by omega)]
      simp only [ilt_eq, ile_eq, h, show (0 : Int) ≤ (j : Int) by omega, decide_true, Bool.and_self, cond_true, gj, gbind_eq, Option.bind_some, wd, wj]
      rw [decide_eq_false (show ¬ (M < ((pt a (i : Int)).x - (pt a (j : Int)).x) * ((pt a (i : Int)).x - (pt a (j : Int)).x) + ((pt a (i : Int)).y - (pt a (j : Int)).y) * ((pt a (i : Int)).y - (pt a (j : Int)).y)) by omega)]
      simp only [cond_false]
      exact ih (j + 1) (by omega) (by omega)
    · have wi : wr IntKind.i64 (iadd (i : Int) 1) = ((i + 1 : Nat) : Int) := by rw [iadd_eq, wr_s (by omega)]; omega
      simp only [ilt_eq, h, decide_false, cond_false, wi]
theorem told_l5 {L : Nat} {M : Int} {a : List Pt} (g : Good_ a) (hM : ∀ i j, dd (pt a i) (pt a j) ≤ M) (hL : 300000 < L) :
    ∀ (m i : Nat), i ≤ a.length → a.length - i < m → laws_FnPolygonsFlat_l5 L m M (a.length : Int) (i : Int) a (bxv a).1 (bxv a).2.1 (bxv a).2.2.1 (bxv a).2.2.2 = some true := by
  obtain ⟨v1, v2, v3, v4⟩ := vwl g
  obtain ⟨b1, b2, b3, b4, b5⟩ := rngOf_bd g
  intro m
  induction m with
  | zero => intro i _ h; omega
  | succ m ih =>
    intro i hi hm
    rw [laws_FnPolygonsFlat_l5]
    by_cases h : (i : Int) < (a.length : Int)
    · have hl6 := told_l6 (L := L) (κ0 := laws_FnPolygonsFlat_l5 L m) (M := M) (lx := (bxv a).1) (ly := (bxv a).2.1) (hx := (bxv a).2.2.1) (hy := (bxv a).2.2.2) g hM (show i < a.length by omega) L 0 (by omega) (by omega)
      have hl6' : laws_FnPolygonsFlat_l6 L (laws_FnPolygonsFlat_l5 L m) M (a.length : Int) (i : Int) a (bxv a).1 (bxv a).2.1 (bxv a).2.2.1 (bxv a).2.2.2 (pt a i) L 0 = laws_FnPolygonsFlat_l5 L m M (a.length : Int) ((i + 1 : Nat) : Int) a (bxv a).1 (bxv a).2.1 (bxv a).2.2.1 (bxv a).2.2.2 := hl6
      obtain ⟨⟨c1, c2⟩, c3, c4⟩ := b5 (i : Int)
      have d1 : ¬ ((pt a (i : Int)).x < (bxv a).1) := by unfold bxv; simp only; omega
      have d2 : ¬ ((bxv a).2.2.1 < (pt a (i : Int)).x) := by unfold bxv; simp only; omega
      have d3 : ¬ ((pt a (i : Int)).y < (bxv a).2.1) := by unfold bxv; simp only; omega
      have d4 : ¬ ((bxv a).2.2.2 < (pt a (i : Int)).y) := by unfold bxv; simp only; omega
      simp only [ilt_eq, ile_eq, ilen_mapep, h, show (0 : Int) ≤ (i : Int) by omega, show (i : Int) ≤ (a.length : Int) by omega, decide_true, Bool.and_self, cond_true, lget_pt (show (0 : Int) ≤ i by omega) h, gbind_eq, Option.bind_some, d1, d2, d3, d4, decide_false, cond_false, hl6']
      exact ih (i + 1) (by omega) (by omega)
    · have w1 := widthIn_yes (L := L) g dir10 (by omega) (by omega) hL
      have w2 := widthIn_yes (L := L) g dir01 (by omega) (by omega) hL
      have e1 : wr IntKind.i64 (isub (bxv a).2.2.1 (bxv a).1) = wdth a 1 0 := by
        unfold bxv wdth; simp only [isub_eq]; rw [wr_id (by omega)]
      have e2 : wr IntKind.i64 (isub (bxv a).2.2.2 (bxv a).2.1) = wdth a 0 1 := by
        unfold bxv wdth; simp only [isub_eq]; rw [wr_id (by omega)]
      simp only [ilt_eq, h, decide_false, cond_false, w1, w2, gbind_eq, Option.bind_some, e1, e2, ieq_eq, decide_true, cond_true]
theorem told_j2 {L : Nat} {b : List Int} (hb : By b) (hL : 300000 < L) : laws_FnPolygonsFlat_j2 L b = some true := by
  obtain ⟨q, d1⟩ := drawLeast_dr (L := L) hb (by omega)
  have d2 : spec_DrawFarthestCorners L b = some q := by
    unfold spec_DrawFarthestCorners
    simp only [d1, gbind_eq, Option.bind_some]
  unfold laws_FnPolygonsFlat_j2
  by_cases g : Good_ q
  · obtain ⟨A, B, iA, iB, f1, f2, f3, f4, hl, hM⟩ := far_full (L := L) g hL
    obtain ⟨x1, x2⟩ := boxOf_yes (L := L) g hL
    have sq : wr IntKind.i64 (iadd (wr IntKind.i64 (imul (wr IntKind.i64 (isub A.x B.x)) (wr IntKind.i64 (isub A.x B.x)))) (wr IntKind.i64 (imul (wr IntKind.i64 (isub A.y B.y)) (wr IntKind.i64 (isub A.y B.y))))) = dd A B := by
      unfold In at iA iB
      have m1 := mul_bd (x := A.x - B.x) (y := A.x - B.x) (A := 80) (B := 80) (by omega) (by omega)
      have m2 := mul_bd (x := A.y - B.y) (y := A.y - B.y) (A := 80) (B := 80) (by omega) (by omega)
      simp only [isub_eq, imul_eq, iadd_eq]
      rw [wr_id (n := A.x - B.x) (by omega), wr_id (n := A.y - B.y) (by omega), wr_id (n := (A.x - B.x) * (A.x - B.x)) (by omega), wr_id (n := (A.y - B.y) * (A.y - B.y)) (by omega), wr_id (by omega)]
      rfl
    have zl := zLess_eq (L := L) (ax := A.x) (ay := A.y) (bx := B.x) (b_y := B.y) hl (by omega)
    obtain ⟨_, _, lq, _⟩ := vwl g
    have l5 := told_l5 (L := L) (M := dd A B) g hM hL L 0 (by omega) (by omega)
    have l5' : laws_FnPolygonsFlat_l5 L L (dd A B) (q.length : Int) 0 q (bxv q).1 (bxv q).2.1 (bxv q).2.2.1 (bxv q).2.2.2 = some true := l5
    simp only [d2, f1, f2, f3, f4, x1, x2, gbind_eq, Option.bind_some, beqb_eq, beq_self_eq_true, ieq_eq, decide_true, Bool.and_self, Bool.not_true, cond_false]
    unfold laws_FnPolygonsFlat_j3
    simp only [beqb_eq, beq_self_eq_true, ieq_eq, decide_true, Bool.and_self, Bool.not_true, cond_false]
    unfold laws_FnPolygonsFlat_j4
    simp only [beqb_eq, beq_self_eq_true, ieq_eq, decide_true, Bool.and_self, Bool.not_true, cond_false, cond_true, sq, zl, gbind_eq, Option.bind_some, ilen_mapep, l5']
  · obtain ⟨⟨s, f3, f4⟩, A, B, f1, f2⟩ := far_no (L := L) g hL
    obtain ⟨x1, x2⟩ := boxOf_no (L := L) g hL
    simp only [d2, f1, f2, f3, f4, x1, x2, gbind_eq, Option.bind_some, beqb_eq, beq_self_eq_true, ieq_eq, decide_true, Bool.and_self, Bool.not_true, cond_false]
    unfold laws_FnPolygonsFlat_j3
    simp only [beqb_eq, beq_self_eq_true, ieq_eq, decide_true, Bool.and_self, Bool.not_true, cond_false]
    unfold laws_FnPolygonsFlat_j4
    simp only [beqb_eq, beq_self_eq_true, ieq_eq, decide_true, Bool.and_self, Bool.not_true, cond_false]
theorem told_j1 {L : Nat} {b : List Int} {a : List Pt} {r2 : List Pt × Bool} {A B C D X Y : Int} {one : Bool} (hb : By b) (hlen : (r2.1.length : Int) ≤ 10) (hF : one = true → FlM a A B C D X Y)
    (h2 : r2.2 = true → one = true ∧ r2.1 = a.map (mvP A B C D X Y) ∧ Good_ r2.1 ∧ ∀ i, In (mvP A B C D X Y (pt a i))) (hL : 300000 < L) : laws_FnPolygonsFlat_j1 L b a r2 (A, B, C, D, X, Y, one) = some true := by
  have j2 := told_j2 (L := L) hb hL
  unfold laws_FnPolygonsFlat_j1
  obtain ⟨f, t⟩ := r2
  cases t with
  | false => simp only [cond_false, j2]
  | true =>
    obtain ⟨e1, e2, g2, hin⟩ := h2 rfl
    have fm := hF e1
    simp only at e2 g2 hlen
    obtain ⟨b1, b2, b3⟩ := flat_box fm
    rw [← e2] at b1 b2 b3
    have g := fm.good
    obtain ⟨v1, v2, v3, v4⟩ := vwl g
    have bo := (boxOf_yes (L := L) g2 hL).2
    rw [b1, b2, b3] at bo
    have lw1 := leastWidth_yes (L := L) g hL
    have lw2 := leastWidth_yes (L := L) g2 hL
    have lwe : leastW f = leastW a := by rw [e2, mvP_aff]; exact leastW_img (uni_of fm.mv) g (by rw [← mvP_aff, ← e2]; exact g2)
    rw [lwe] at lw2
    have har : (area a).natAbs = (area f).natAbs := by
      rw [e2, mvP_aff, area_aff v2]
      rcases uni_of fm.mv with h | h <;> rw [h] <;> omega
    have hro : round a = round f := by rw [e2, mvP_aff, round_aff v2 (uni_of fm.mv)]
    obtain ⟨n, p1, p2⟩ := pegsInAll_same (L := L) g g2 har hro hL
    have al := alike_moved (L := L) fm.mv g hin hL
    rw [← e2] at al
    have mc := moveCorners_yes (L := L) fm.mv g hin hL
    rw [← e2] at mc
    simp only [cond_true, bo, lw1, lw2, p1, p2, al, mc, gbind_eq, Option.bind_some, Bool.not_true, cond_false, ieq_eq, decide_true, Bool.and_self]
    unfold laws_FnPolygonsFlat_j7
    simp only [cond_false, ieq_eq, decide_true, Bool.not_true]
    unfold laws_FnPolygonsFlat_j8
    simp only [cond_false, Bool.not_true, zPegs_eq (L := L) (a := f) (by omega) (by omega), gbind_eq, Option.bind_some, j2]
theorem polygonsFlat_law (a b : List Int) (ha : By a) (hb : By b) : ∃ L, laws_FnPolygonsFlat L a b = some true := by
  refine ⟨2000000, ?_⟩
  unfold laws_FnPolygonsFlat
  obtain ⟨r, hr⟩ := big_eq (L := 2000000) (a := a) (b := b)
  simp only [hr, gbind_eq, Option.bind_some]
  cases r with
  | true => rfl
  | false =>
    obtain ⟨p, d1⟩ := drawLeast_dr (L := 2000000) ha (by omega)
    have d2 : spec_DrawFlatPolygon 2000000 a = some p := by
      unfold spec_DrawFlatPolygon
      simp only [d1, gbind_eq, Option.bind_some]
    obtain ⟨A, B, C, D, X, Y, one, r2, q1, q2, q3, q4, hlen, hF, h2⟩ := flat_full (L := 2000000) (a := p) (by omega)
    have j1 := told_j1 (L := 2000000) hb hlen hF h2 (by omega)
    have j0 : laws_FnPolygonsFlat_j0 2000000 b p r2 (A, B, C, D, X, Y, one) = some true := by
      unfold laws_FnPolygonsFlat_j0
      cases one with
      | false => simp only [cond_false, j1]
      | true =>
        have fm := hF rfl
        have sd := impl_side (L := 2000000) fm.mv (by omega)
        obtain ⟨dq, dn⟩ := dirs_eq (L := 2000000) fm.good (by omega)
        have dpos : 0 < ((dirsW p).length : Int) := by have := List.length_pos_iff.2 dn; omega
        have l0 : lget ((dirsW p).map row) 0 = some (row (pt (dirsW p) 0)) := lget_row (Int.le_refl 0) dpos
        rw [← fm.dir] at l0
        have r0 : lget (row ⟨C, D⟩) 0 = some C := row_get0 _
        have r1 : lget (row ⟨C, D⟩) 1 = some D := row_get1 _
        have ll : ilen (List.map eLI ((dirsW p).map row)) = ((dirsW p).length : Int) := by rw [ilen_li, List.length_map]
        simp only [cond_false, cond_true, Bool.not_true, sd, dq, gbind_eq, Option.bind_some, fm.side, ieq_eq, decide_true, ll, ile_eq, ilt_eq, Int.le_refl, dpos, Bool.and_self, l0, r0, r1, j1]
    simp only [cond_false, d2, q1, q2, q3, q4, Option.bind_some, beqb_eq, beq_self_eq_true, Bool.not_true, zPegs_eq (L := 2000000) (a := r2.1) (by omega) (by omega), ieq_eq, decide_true, Bool.and_self]
    unfold laws_FnPolygonsFlat_j9
    cases ht : r2.2 with
    | true =>
      have h1 := (h2 ht).1
      subst h1
      simp only [cond_false, cond_true, Bool.not_true, j0]
    | false => simp only [cond_false, j0]
end Go.AM
