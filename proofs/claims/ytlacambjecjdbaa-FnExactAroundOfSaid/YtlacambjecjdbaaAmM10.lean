import Derived.Test.YtlacambjecjdbaaAmM9
set_option linter.unusedVariables false
set_option linter.unusedSimpArgs false
set_option linter.unnecessarySimpa false
/-! The pegs around. -/
namespace Go.AM
set_option linter.unusedVariables false

def mkp (p q : Pt) (j : Int) : Pt := ⟨p.x + (q.x - p.x).tdiv (step p q) * j, p.y + (q.y - p.y).tdiv (step p q) * j⟩
def seg (p q : Pt) (n : Nat) : List Pt := (List.range n).map fun (j : Nat) => mkp p q (j : Int)

theorem step_dvd (p q : Pt) : step p q ∣ (q.x - p.x) ∧ step p q ∣ (q.y - p.y) := by
  unfold step
  constructor
  · rw [Int.ofNat_dvd_left, show (q.x - p.x).natAbs = (p.x - q.x).natAbs by omega]; exact Nat.gcd_dvd_left _ _
  · rw [Int.ofNat_dvd_left, show (q.y - p.y).natAbs = (p.y - q.y).natAbs by omega]; exact Nat.gcd_dvd_right _ _

theorem step_nn (p q : Pt) : 0 ≤ step p q := by unfold step; omega

theorem tdiv_bd {a b A : Int} (h : -A ≤ a ∧ a ≤ A) : -A ≤ a.tdiv b ∧ a.tdiv b ≤ A := by
  have h1 : (a.tdiv b).natAbs ≤ a.natAbs := by rw [Int.natAbs_tdiv]; exact Nat.div_le_self _ _
  omega

theorem seg_succ (p q : Pt) (n : Nat) : seg p q (n + 1) = seg p q n ++ [mkp p q (n : Int)] := by simp [seg, List.range_succ]
theorem seg_len (p q : Pt) (n : Nat) : (seg p q n).length = n := by simp [seg]

def allp (c : List Pt) : Nat → List Pt
  | 0 => []
  | i + 1 => allp c i ++ seg (pt c i) (pt c (i + 1)) (step (pt c i) (pt c (i + 1))).toNat

theorem allp_len {c : List Pt} (hin : ∀ i, Nr (pt c i)) : ∀ i : Nat, (allp c i).length ≤ i * 4000
  | 0 => by simp [allp]
  | i + 1 => by
    have h := allp_len hin i
    have h2 := step_bd (hin i) (hin (i + 1))
    simp only [allp, List.length_append, seg_len]
    omega

theorem spec_seg {L : Nat} {κ0 : Int → Int → (List Pt) → (List Pt) → Option ((List Pt))} {n v : Int} {c w : List Pt} {p q : Pt} (hp : Nr p) (hq : Nr q) (hv : 0 ≤ v ∧ v ≤ 1000) (hw : (w.length : Int) ≤ 4000000) : ∀ (m : Nat) (j : Nat), (j : Int) ≤ step p q → step p q - j < m →
    spec_duAround_l1 L κ0 n v c p q (step p q) m j (w ++ seg p q j) = κ0 n (v + 1) c (w ++ seg p q (step p q).toNat)
  | 0, _, _, h => by omega
  | m + 1, j, hj, hm => by
    have hb := step_bd hp hq
    have hs := sub_bd hq hp
    by_cases h : (j : Int) < step p q
    · have h0 : ¬ step p q = 0 := by omega
      have d1 := tdiv_bd (b := step p q) hs.1
      have d2 := tdiv_bd (b := step p q) hs.2
      have m1 := mul_bd (y := (j : Int)) (B := 4000) d1 (by omega)
      have m2 := mul_bd (y := (j : Int)) (B := 4000) d2 (by omega)
      unfold Nr at hp hq
      simp only [spec_duAround_l1, ilt_eq, ieq_eq, h, h0, decide_true, decide_false, cond_true, cond_false, isub_eq, iadd_eq, imul_eq, iquo_eq, wr_id (n := q.x - p.x) (by omega), wr_id (n := q.y - p.y) (by omega), wr_id (n := (q.x - p.x).tdiv (step p q)) (by omega),
        wr_id (n := (q.y - p.y).tdiv (step p q)) (by omega), wr_id (n := (q.x - p.x).tdiv (step p q) * j) (by omega), wr_id (n := (q.y - p.y).tdiv (step p q) * j) (by omega), wr_id (n := p.x + (q.x - p.x).tdiv (step p q) * j) (by omega), wr_id (n := p.y + (q.y - p.y).tdiv (step p q) * j) (by omega), wr_s (i := (j : Int) + 1) (by omega)]
      rw [fits_s (by rw [ilen_mapep, ilen_eq]; simp [seg_len]; omega)]
      simp only [cond_true]
      have e : lcat (w ++ seg p q j) [{ x := p.x + (q.x - p.x).tdiv (step p q) * j, y := p.y + (q.y - p.y).tdiv (step p q) * j }] = w ++ seg p q (j + 1) := by
        rw [lcat_eq, seg_succ, List.append_assoc]; rfl
      rw [e]
      exact spec_seg hp hq hv hw m (j + 1) (by omega) (by omega)
    · have e : (j : Int) = step p q := by omega
      simp only [spec_duAround_l1, ilt_eq, h, decide_false, cond_false, iadd_eq, wr_s (i := v + 1) (by omega)]
      rw [← e]; simp

theorem impl_seg {L : Nat} {κ0 : (List Pt) → (List Pt) → Int → Int → (List Pt) → Option ((List Pt))} {n v : Int} {c c' w : List Pt} {p q : Pt} (hp : Nr p) (hq : Nr q) (hv : 0 ≤ v ∧ v ≤ 1000) (hw : (w.length : Int) ≤ 4000000) : ∀ (m : Nat) (j : Nat), (j : Int) ≤ step p q → step p q - j < m →
    impl_pegsAround_l1 L κ0 c c' n v p (step p q) (q.x - p.x, q.y - p.y) m j (w ++ seg p q j) = κ0 c c' n (v + 1) (w ++ seg p q (step p q).toNat)
  | 0, _, _, h => by omega
  | m + 1, j, hj, hm => by
    have hb := step_bd hp hq
    have hs := sub_bd hq hp
    by_cases h : (j : Int) < step p q
    · have h0 : ¬ step p q = 0 := by omega
      have d1 := tdiv_bd (b := step p q) hs.1
      have d2 := tdiv_bd (b := step p q) hs.2
      have m1 := mul_bd (y := (j : Int)) (B := 4000) d1 (by omega)
      have m2 := mul_bd (y := (j : Int)) (B := 4000) d2 (by omega)
      have n1 := mul_bd (x := (j : Int)) (A := 4000) (by omega) hs.1
      have n2 := mul_bd (x := (j : Int)) (A := 4000) (by omega) hs.2
      have e1 : ((j : Int) * (q.x - p.x)).tdiv (step p q) = (q.x - p.x).tdiv (step p q) * j := by rw [Int.mul_tdiv_assoc _ (step_dvd p q).1, Int.mul_comm]
      have e2 : ((j : Int) * (q.y - p.y)).tdiv (step p q) = (q.y - p.y).tdiv (step p q) * j := by rw [Int.mul_tdiv_assoc _ (step_dvd p q).2, Int.mul_comm]
      unfold Nr at hp hq
      simp only [impl_pegsAround_l1, impl_Peg_plus, gbind_eq, Option.bind_some, ilt_eq, ieq_eq, h, h0, decide_true, decide_false, cond_true, cond_false, isub_eq, iadd_eq, imul_eq, iquo_eq, wr_id (n := (j : Int) * (q.x - p.x)) (by omega), wr_id (n := (j : Int) * (q.y - p.y)) (by omega), e1, e2,
        wr_id (n := (q.x - p.x).tdiv (step p q) * j) (by omega), wr_id (n := (q.y - p.y).tdiv (step p q) * j) (by omega), wr_id (n := p.x + (q.x - p.x).tdiv (step p q) * j) (by omega), wr_id (n := p.y + (q.y - p.y).tdiv (step p q) * j) (by omega), wr_s (i := (j : Int) + 1) (by omega)]
      rw [fits_s (by rw [ilen_mapep, ilen_eq]; simp [seg_len]; omega)]
      simp only [cond_true]
      have e : lcat (w ++ seg p q j) [{ x := p.x + (q.x - p.x).tdiv (step p q) * j, y := p.y + (q.y - p.y).tdiv (step p q) * j }] = w ++ seg p q (j + 1) := by
        rw [lcat_eq, seg_succ, List.append_assoc]; rfl
      rw [e]
      exact impl_seg hp hq hv hw m (j + 1) (by omega) (by omega)
    · have e : (j : Int) = step p q := by omega
      simp only [impl_pegsAround_l1, ilt_eq, h, decide_false, cond_false, iadd_eq, wr_s (i := v + 1) (by omega)]
      rw [← e]; simp

theorem spec_around_l0 {L : Nat} {c : List Pt} (hn : c ≠ []) (hs : (c.length : Int) ≤ 100) (hL : 5000 < L) (hin : ∀ i, Nr (pt c i)) : ∀ (m : Nat) (i : Nat), i ≤ c.length → (c.length : Int) - i < m → spec_duAround_l0 L m c.length i c (allp c i) = some (allp c c.length)
  | 0, _, _, h => by omega
  | m + 1, i, hi, hm => by
    have hl : 0 < (c.length : Int) := by have := List.length_pos_iff.2 hn; omega
    have h3 : ¬ ((c.length : Int) = 0) := by omega
    by_cases h : (i : Int) < (c.length : Int)
    · have b1 := Int.emod_nonneg ((i : Int) + 1) h3
      have b2 := Int.emod_lt_of_pos ((i : Int) + 1) hl
      have ha := allp_len hin i
      simp only [spec_duAround_l0, ilt_eq, ile_eq, ieq_eq, ilen_mapep, iadd_eq, h, h3, show 0 ≤ (i : Int) by omega, decide_true, decide_false, Bool.and_self, cond_true, cond_false, gbind_eq, lget_pt (show 0 ≤ (i : Int) by omega) h, Option.bind_some, wr_s (i := (i : Int) + 1) (by omega),
        lget_rem (show 0 ≤ (i : Int) + 1 by omega) hn, irem_nn (show 0 ≤ (i : Int) + 1 by omega), b1, b2]
      have hg : lget c (((i : Int) + 1) % (c.length : Int)) = some (pt c (i + 1)) := by rw [← irem_nn (by omega)]; exact lget_rem (by omega) hn
      rw [hg]
      simp only [Option.bind_some]
      rw [spec_pgStep_eq (hin _) (hin _) (by omega)]
      simp only [Option.bind_some]
      have hstep := step_bd (hin i) (hin (i + 1))
      have := spec_seg (L := L) (κ0 := spec_duAround_l0 L m) (n := c.length) (v := i) (c := c) (w := allp c i) (hin i) (hin (i + 1)) (by omega) (by omega) L 0 (step_nn _ _) (by omega)
      have e0 : seg (pt c i) (pt c (i + 1)) 0 = [] := rfl
      rw [e0, List.append_nil] at this
      refine this.trans ?_
      exact spec_around_l0 hn hs hL hin m (i + 1) (by omega) (by omega)
    · have e : i = c.length := by omega
      subst e
      simp only [spec_duAround_l0, ilt_eq, h, decide_false, cond_false]
end Go.AM
