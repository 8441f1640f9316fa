import Derived.Test.YtlacambjecjdbaaAmM4
set_option linter.unusedVariables false
set_option linter.unusedSimpArgs false
set_option linter.unnecessarySimpa false
/-! Convexity, steps, pegs inside, where a point is. -/
namespace Go.AM
set_option linter.unusedVariables false

def Cvx (a : List Pt) : Prop := ∀ i, 0 ≤ i → i < (a.length : Int) → sg (turn (pt a i) (pt a (i + 1)) (pt a (i + 2))) = sg (area a)

open Classical in
theorem spec_pgConvex_eq {L : Nat} {a : List Pt} (hn : 2 ≤ (a.length : Int)) (hs : (a.length : Int) ≤ 1000) (hL : (a.length : Int) < L) (hin : ∀ i, Nr (pt a i)) : spec_pgConvex L a = some (decide (Cvx a)) := by
  have hne : a ≠ [] := by intro e; subst e; simp at hn
  have h3 : ¬ ((a.length : Int) = 0) := by omega
  unfold spec_pgConvex
  rw [spec_pgArea_eq hn hs hL hin]
  simp only [gbind_eq, Option.bind_some, spec_l1Sign_eq]
  have := search (f := fun m v => spec_pgConvex_l0 L a (sg (area a)) m v) (r := some false) (k := some true) (lo := 0) (n := a.length) (hi := a.length) (bad := fun i => sg (turn (pt a i) (pt a (i + 1)) (pt a (i + 2))) ≠ sg (area a)) (Int.le_refl _) (fun m v h0 _ h => by
      simp only [spec_pgConvex_l0, ilt_eq, ilen_mapep, h, decide_false, cond_false]) (fun m v h0 h hb => by
      simp only [spec_pgConvex_l0, ilt_eq, ieq_eq, iadd_eq, ilen_mapep, h3, h, decide_true, decide_false, cond_true, cond_false, gbind_eq, wr_s (i := v + 1) (by omega), wr_s (i := v + 2) (by omega), lget_pt h0 h, lget_rem (show 0 ≤ v + 1 by omega) hne, lget_rem (show 0 ≤ v + 2 by omega) hne, Option.bind_some]
      rw [spec_pgTurn_eq (hin _) (hin _) (hin _)]
      simp only [Option.bind_some, spec_l1Sign_eq, hb, decide_false, Bool.not_false, cond_true]) (fun m v h0 h hb => by
      simp only [spec_pgConvex_l0, ilt_eq, ieq_eq, iadd_eq, ilen_mapep, h3, h, decide_true, decide_false, cond_true, cond_false, gbind_eq, wr_s (i := v + 1) (by omega), wr_s (i := v + 2) (by omega), lget_pt h0 h, lget_rem (show 0 ≤ v + 1 by omega) hne, lget_rem (show 0 ≤ v + 2 by omega) hne, Option.bind_some]
      rw [spec_pgTurn_eq (hin _) (hin _) (hin _)]
      simp only [Option.bind_some, spec_l1Sign_eq, Classical.not_not.1 hb, decide_true, Bool.not_true, cond_false]) L 0 (Int.le_refl _) (by omega) (by omega) (by omega)
  by_cases h : ∃ j, 0 ≤ j ∧ j < (a.length : Int) ∧ sg (turn (pt a j) (pt a (j + 1)) (pt a (j + 2))) ≠ sg (area a)
  · have e := this.1 h
    have : ¬ Cvx a := fun c => by obtain ⟨j, q1, q2, q3⟩ := h; exact q3 (c j q1 q2)
    simp only [this, decide_false]; exact e
  · have c : Cvx a := fun j q1 q2 => Classical.byContradiction fun q3 => h ⟨j, q1, q2, q3⟩
    have e := this.2 fun j q1 q2 q3 => h ⟨j, q1, q2, q3⟩
    simp only [c, decide_true]; exact e

open Classical in
theorem impl_isConvex_eq {L : Nat} {a : List Pt} (hn : 2 ≤ (a.length : Int)) (hs : (a.length : Int) ≤ 1000) (hL : (a.length : Int) < L) (hin : ∀ i, Nr (pt a i)) : impl_isConvex L a = some (decide (Cvx a)) := by
  have hne : a ≠ [] := by intro e; subst e; simp at hn
  have hl : 0 < (a.length : Int) := by omega
  unfold impl_isConvex
  rw [impl_twice_eq hne hs hL hin]
  simp only [gbind_eq, Option.bind_some, impl_sign_eq]
  have := search (f := fun m v => impl_isConvex_l0 L a (sg (area a)) m v) (r := some false) (k := some true) (lo := 0) (n := a.length) (hi := a.length) (bad := fun i => sg (turn (pt a (i - 1)) (pt a i) (pt a (i + 1))) ≠ sg (area a)) (Int.le_refl _) (fun m v h0 _ h => by
      simp only [impl_isConvex_l0, ilt_eq, ilen_mapep, h, decide_false, cond_false]) (fun m v h0 h hb => by
      simp only [impl_isConvex_l0, ilt_eq, ieq_eq, iadd_eq, isub_eq, ilen_mapep, h, decide_true, decide_false, cond_true, cond_false, gbind_eq, wr_s (i := v + 1) (by omega), wr_s (i := v - 1) (by omega), lget_pt h0 h, impl_at_eq hne (show (a.length : Int) ≤ 1000000000 by omega), Option.bind_some]
      rw [impl_turn_eq (hin _) (hin _) (hin _)]
      simp only [Option.bind_some, impl_sign_eq, hb, decide_false, Bool.not_false, cond_true]) (fun m v h0 h hb => by
      simp only [impl_isConvex_l0, ilt_eq, ieq_eq, iadd_eq, isub_eq, ilen_mapep, h, decide_true, decide_false, cond_true, cond_false, gbind_eq, wr_s (i := v + 1) (by omega), wr_s (i := v - 1) (by omega), lget_pt h0 h, impl_at_eq hne (show (a.length : Int) ≤ 1000000000 by omega), Option.bind_some]
      rw [impl_turn_eq (hin _) (hin _) (hin _)]
      simp only [Option.bind_some, impl_sign_eq, Classical.not_not.1 hb, decide_true, Bool.not_true, cond_false]) L 0 (Int.le_refl _) (by omega) (by omega) (by omega)
  by_cases h : ∃ j, 0 ≤ j ∧ j < (a.length : Int) ∧ sg (turn (pt a (j - 1)) (pt a j) (pt a (j + 1))) ≠ sg (area a)
  · have e := this.1 h
    have : ¬ Cvx a := fun c => by
      obtain ⟨j, q1, q2, q3⟩ := h
      have q := c ((j - 1) % a.length) (Int.emod_nonneg _ (by omega)) (Int.emod_lt_of_pos _ hl)
      rw [pt_congr (a := a) (i := (j - 1) % a.length) (j := j - 1) (Int.emod_emod_of_dvd _ (Int.dvd_refl _)), pt_congr (a := a) (i := (j - 1) % a.length + 1) (j := j) (by rw [Int.emod_add_emod]; congr 1; omega),
        pt_congr (a := a) (i := (j - 1) % a.length + 2) (j := j + 1) (by rw [Int.emod_add_emod]; congr 1; omega)] at q
      exact q3 q
    simp only [this, decide_false]; exact e
  · have c : Cvx a := fun j q1 q2 => Classical.byContradiction fun q3 => h ⟨(j + 1) % a.length, Int.emod_nonneg _ (by omega), Int.emod_lt_of_pos _ hl, by
      rw [pt_congr (a := a) (i := (j + 1) % a.length - 1) (j := j) (by rw [Int.emod_sub_emod]; congr 1; omega), pt_congr (a := a) (i := (j + 1) % a.length) (j := j + 1) (Int.emod_emod_of_dvd _ (Int.dvd_refl _)),
        pt_congr (a := a) (i := (j + 1) % a.length + 1) (j := j + 2) (by rw [Int.emod_add_emod]; congr 1; omega)]
      exact q3⟩
    have e := this.2 fun j q1 q2 q3 => h ⟨j, q1, q2, q3⟩
    simp only [c, decide_true]; exact e

/-! steps -/
theorem impl_size_eq {L : Nat} {n : Int} (h : -1000000000 ≤ n ∧ n ≤ 1000000000) : impl_size L n = some (n.natAbs : Int) := by
  unfold impl_size
  simp only [imax_eq, isub_eq]
  rw [wr_id (by omega)]
  congr 1
  split <;> omega

theorem spec_l1Abs_eq {L : Nat} {n : Int} (h : -1000000000 ≤ n ∧ n ≤ 1000000000) : spec_l1Abs L n = some (n.natAbs : Int) := by
  unfold spec_l1Abs spec_l1Most
  simp only [ilt_eq, isub_eq, gbind_eq]
  rw [wr_id (by omega)]
  by_cases h1 : 0 - n < n
  · simp only [h1, decide_true, cond_true, Option.bind_some]; congr 1; omega
  · simp only [h1, decide_false, cond_false, Option.bind_some]; congr 1; omega

theorem divisor_l0 {L : Nat} : ∀ (m : Nat) (u v : Int), (-1000000000 ≤ u ∧ u ≤ 1000000000) → (-1000000000 ≤ v ∧ v ≤ 1000000000) → v.natAbs < m → impl_divisor_l0 L m u v = some (Nat.gcd u.natAbs v.natAbs : Int)
  | 0, _, _, _, _, h => by omega
  | m + 1, u, v, hu, hv, hm => by
    simp only [impl_divisor_l0, ieq_eq]
    by_cases h0 : v = 0
    · subst h0
      simp only [decide_true, Bool.not_true, cond_false, impl_size_eq hu, gbind_eq, Option.bind_some]
      simp
    · simp only [h0, decide_false, Bool.not_false, cond_true, cond_false]
      have h1 : (irem u v).natAbs = u.natAbs % v.natAbs := by rw [irem_eq, Int.natAbs_tmod]
      have h2 := Nat.mod_lt u.natAbs (show 0 < v.natAbs by omega)
      rw [divisor_l0 m v (irem u v) hv (by omega) (by omega), h1]
      congr 2
      rw [Nat.gcd_comm u.natAbs, Nat.gcd_rec v.natAbs u.natAbs, Nat.gcd_comm]

theorem common_l0 {L : Nat} : ∀ (m : Nat) (u v : Nat), v < m → spec_pgCommon_l0 L m u v = some (Nat.gcd u v : Int)
  | 0, _, _, h => by omega
  | m + 1, u, v, hm => by
    simp only [spec_pgCommon_l0, ilt_eq, ieq_eq]
    by_cases h0 : v = 0
    · subst h0
      simp
    · have h1 : (0 : Int) < (v : Int) := by omega
      have h2 : ¬ ((v : Int) = 0) := by omega
      simp only [h1, h2, decide_true, decide_false, cond_true, cond_false]
      have h3 : irem (u : Int) (v : Int) = ((u % v : Nat) : Int) := by rw [irem_nn (by omega)]; simp
      have h4 := Nat.mod_lt u (show 0 < v by omega)
      rw [h3, common_l0 m v (u % v) (by omega)]
      congr 2
      rw [Nat.gcd_comm u v, Nat.gcd_rec v u, Nat.gcd_comm]

def step (p q : Pt) : Int := (Nat.gcd (p.x - q.x).natAbs (p.y - q.y).natAbs : Int)

theorem step_bd {p q : Pt} (hp : Nr p) (hq : Nr q) : -4000 ≤ step p q ∧ step p q ≤ 4000 := by
  have h := sub_bd hp hq
  unfold step
  have : Nat.gcd (p.x - q.x).natAbs (p.y - q.y).natAbs ≤ (p.x - q.x).natAbs + (p.y - q.y).natAbs := by
    by_cases h0 : (p.x - q.x).natAbs = 0
    · rw [h0]; simp
    · have := Nat.gcd_le_left (p.y - q.y).natAbs (show 0 < (p.x - q.x).natAbs by omega); omega
  omega

theorem impl_steps_eq {L : Nat} {p q : Pt} (hp : Nr p) (hq : Nr q) (hL : 3000 < L) : impl_steps L p.x p.y q.x q.y = some (step p q) := by
  have h := sub_bd hp hq
  unfold impl_steps impl_divisor
  simp only [isub_eq, gbind_eq]
  rw [wr_id (n := p.x - q.x) (by omega), wr_id (n := p.y - q.y) (by omega), divisor_l0 L _ _ (by omega) (by omega) (by omega)]
  rfl

theorem spec_pgStep_eq {L : Nat} {p q : Pt} (hp : Nr p) (hq : Nr q) (hL : 3000 < L) : spec_pgStep L p.x p.y q.x q.y = some (step p q) := by
  have h := sub_bd hp hq
  unfold spec_pgStep spec_pgCommon
  simp only [isub_eq, gbind_eq]
  rw [wr_id (n := p.x - q.x) (by omega), wr_id (n := p.y - q.y) (by omega), spec_l1Abs_eq (by omega), spec_l1Abs_eq (by omega)]
  simp only [Option.bind_some]
  rw [common_l0 L _ _ (by omega)]
  rfl

def round (a : List Pt) : Int := sm (fun i => step (pt a i) (pt a (i + 1))) a.length

theorem impl_around_eq {L : Nat} {a : List Pt} (hn : a ≠ []) (hs : (a.length : Int) ≤ 1000) (hL : 3000 < L) (hin : ∀ i, Nr (pt a i)) : impl_around L a = some (round a) := by
  unfold impl_around
  have := accum (f := fun m s v => impl_around_l0 L a m s v) (S := fun v => sm (fun i => step (pt a i) (pt a (i + 1))) v.toNat) (r := some (round a)) (lo := 0) (n := a.length) (fun m => by
    simp only [impl_around_l0, ilt_eq, ilen_mapep, Int.lt_irrefl, decide_false, cond_false]; rfl) (fun m v h0 h => by
    simp only [impl_around_l0, ilt_eq, ilen_mapep, h, decide_true, cond_true, gbind_eq, lget_pt h0 h, Option.bind_some, iadd_eq, wr_s (i := v + 1) (by omega), impl_at_eq hn (show (a.length : Int) ≤ 1000000000 by omega)]
    rw [impl_steps_eq (hin _) (hin _) hL]
    simp only [Option.bind_some]
    have h1 := sm_bd (fun i => step_bd (hin i) (hin (i + 1))) v.toNat
    have h2 := step_bd (hin v) (hin (v + 1))
    have h3 : (v.toNat : Int) * 4000 ≤ 1000 * 4000 := by omega
    rw [wr_id (by omega)]
    congr 1
    rw [show (v + 1).toNat = v.toNat + 1 by omega]
    simp only [sm]
    rw [Int.toNat_of_nonneg h0]) L 0 (Int.le_refl _) (by omega) (by omega)
  exact this

theorem spec_pgRound_eq {L : Nat} {a : List Pt} (hn : a ≠ []) (hs : (a.length : Int) ≤ 1000) (hL : 3000 < L) (hin : ∀ i, Nr (pt a i)) : spec_pgRound L a = some (round a) := by
  have h3 : ¬ ((a.length : Int) = 0) := by have := List.length_pos_iff.2 hn; omega
  unfold spec_pgRound
  have := accum (f := fun m s v => spec_pgRound_l0 L a m s v) (S := fun v => sm (fun i => step (pt a i) (pt a (i + 1))) v.toNat) (r := some (round a)) (lo := 0) (n := a.length) (fun m => by
    simp only [spec_pgRound_l0, ilt_eq, ilen_mapep, Int.lt_irrefl, decide_false, cond_false]; rfl) (fun m v h0 h => by
    simp only [spec_pgRound_l0, ilt_eq, ieq_eq, ilen_mapep, h, h3, decide_true, decide_false, cond_true, cond_false, gbind_eq, lget_pt h0 h, Option.bind_some, iadd_eq, wr_s (i := v + 1) (by omega), lget_rem (show 0 ≤ v + 1 by omega) hn]
    rw [spec_pgStep_eq (hin _) (hin _) hL]
    simp only [Option.bind_some]
    have h1 := sm_bd (fun i => step_bd (hin i) (hin (i + 1))) v.toNat
    have h2 := step_bd (hin v) (hin (v + 1))
    have h3 : (v.toNat : Int) * 4000 ≤ 1000 * 4000 := by omega
    rw [wr_id (by omega)]
    congr 1
    rw [show (v + 1).toNat = v.toNat + 1 by omega]
    simp only [sm]
    rw [Int.toNat_of_nonneg h0]) L 0 (Int.le_refl _) (by omega) (by omega)
  exact this

theorem area_bd {a : List Pt} (hs : (a.length : Int) ≤ 100) (hin : ∀ i, Nr (pt a i)) : -200000000 ≤ area a ∧ area a ≤ 200000000 := by
  have h1 := sm_bd (fun i => cross_bd (hin i) (hin (i + 1))) a.length
  unfold area
  omega

noncomputable def inside (a : List Pt) : Int := wr .i64 (((wr .i64 (wr .i64 ((area a).natAbs + 2) - round a))).tdiv 2)

theorem inner_eq {L : Nat} {a : List Pt} (hn : 2 ≤ (a.length : Int)) (hs : (a.length : Int) ≤ 100) (hL : 3000 < L) (hin : ∀ i, Nr (pt a i)) : spec_pgInside L a = some (inside a) ∧ impl_inner L a = some (inside a) := by
  have hne : a ≠ [] := by intro e; subst e; simp at hn
  have hb := area_bd hs hin
  constructor
  · unfold spec_pgInside inside
    rw [spec_pgArea_eq hn (by omega) (by omega) hin]
    simp only [gbind_eq, Option.bind_some, spec_l1Abs_eq (show -1000000000 ≤ area a ∧ area a ≤ 1000000000 by omega), spec_pgRound_eq hne (show (a.length : Int) ≤ 1000 by omega) hL hin, ieq_eq, isub_eq, iadd_eq, iquo_eq]
    rfl
  · unfold impl_inner inside
    rw [impl_twice_eq hne (by omega) (by omega) hin]
    simp only [gbind_eq, Option.bind_some, impl_size_eq (show -1000000000 ≤ area a ∧ area a ≤ 1000000000 by omega), impl_around_eq hne (show (a.length : Int) ≤ 1000 by omega) hL hin, ieq_eq, isub_eq, iadd_eq, iquo_eq]
    rfl
end Go.AM
