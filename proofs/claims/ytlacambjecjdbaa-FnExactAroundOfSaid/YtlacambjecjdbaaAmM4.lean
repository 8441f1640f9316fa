import Derived.Test.YtlacambjecjdbaaAmM3
set_option linter.unusedVariables false
set_option linter.unusedSimpArgs false
set_option linter.unnecessarySimpa false
/-! Areas, greatest common divisors, convexity. -/
namespace Go.AM
set_option linter.unusedVariables false

def sm (g : Int → Int) : Nat → Int
  | 0 => 0
  | k + 1 => sm g k + g k

theorem sm_bd {g : Int → Int} {B : Int} (h : ∀ i, -B ≤ g i ∧ g i ≤ B) : ∀ k : Nat, -(k * B) ≤ sm g k ∧ sm g k ≤ k * B
  | 0 => by simp [sm]
  | k + 1 => by
    have h1 := sm_bd h k
    have h2 := h k
    simp only [sm]
    have : ((k + 1 : Nat) : Int) * B = k * B + B := by rw [Int.natCast_add, Int.add_mul]; simp
    omega

theorem sm_congr {g h : Int → Int} : ∀ {k : Nat}, (∀ i : Int, 0 ≤ i → i < k → g i = h i) → sm g k = sm h k
  | 0, _ => rfl
  | k + 1, hh => by simp only [sm]; rw [sm_congr fun i h1 h2 => hh i h1 (by omega), hh k (by omega) (by omega)]

/-- a loop that adds -/
theorem accum {β : Type} {f : Nat → Int → Int → Option β} {S : Int → Int} {r : Option β} {lo n : Int} (hstop : ∀ m, f (m + 1) (S n) n = r) (hgo : ∀ m v, lo ≤ v → v < n → f (m + 1) (S v) v = f m (S (v + 1)) (v + 1)) :
    ∀ (m : Nat) (v : Int), lo ≤ v → v ≤ n → n - v < m → f m (S v) v = r := by
  intro m
  induction m with
  | zero => intro v _ _ h; omega
  | succ m ih =>
    intro v hv hvn hm
    by_cases h : v < n
    · rw [hgo m v hv h]; exact ih (v + 1) (by omega) (by omega) (by omega)
    · have : v = n := by omega
      subst this
      exact hstop m

def cross (p q : Pt) : Int := p.x * q.y - p.y * q.x

theorem cross_bd {p q : Pt} (hp : Nr p) (hq : Nr q) : -2000000 ≤ cross p q ∧ cross p q ≤ 2000000 := by
  have h1 := mul_bd hp.1 hq.2
  have h2 := mul_bd hp.2 hq.1
  unfold cross
  omega

theorem impl_cross_eq {L : Nat} {p q : Pt} (hp : Nr p) (hq : Nr q) : impl_cross L p.x p.y q.x q.y = some (cross p q) := by
  have h1 := mul_bd hp.1 hq.2
  have h2 := mul_bd hp.2 hq.1
  unfold impl_cross cross
  simp only [isub_eq, imul_eq]
  rw [wr_id (n := p.x * q.y) (by omega), wr_id (n := p.y * q.x) (by omega), wr_id (by omega)]

theorem turn_cross (a b c : Pt) : turn a b c = cross a b + cross b c - cross a c := by unfold turn cross; grind

/-- twice the area, as the program adds it -/
def area (a : List Pt) : Int := sm (fun i => cross (pt a i) (pt a (i + 1))) a.length

theorem impl_twice_eq {L : Nat} {a : List Pt} (hn : a ≠ []) (hs : (a.length : Int) ≤ 1000) (hL : (a.length : Int) < L) (hin : ∀ i, Nr (pt a i)) : impl_twice L a = some (area a) := by
  unfold impl_twice
  have := accum (f := fun m s v => impl_twice_l0 L a m s v) (S := fun v => sm (fun i => cross (pt a i) (pt a (i + 1))) v.toNat) (r := some (area a)) (lo := 0) (n := a.length) (fun m => by
    simp only [impl_twice_l0, ilt_eq, ilen_mapep, Int.lt_irrefl, decide_false, cond_false]; rfl) (fun m v h0 h => by
    simp only [impl_twice_l0, ilt_eq, ilen_mapep, h, decide_true, cond_true, gbind_eq, lget_pt h0 h, Option.bind_some, iadd_eq, wr_s (i := v + 1) (by omega), impl_at_eq hn (show (a.length : Int) ≤ 1000000000 by omega)]
    rw [impl_cross_eq (hin _) (hin _)]
    simp only [Option.bind_some]
    have h1 := sm_bd (fun i => cross_bd (hin i) (hin (i + 1))) v.toNat
    have h2 := cross_bd (hin v) (hin (v + 1))
    have h3 : (v.toNat : Int) * 2000000 ≤ 1000 * 2000000 := by omega
    rw [wr_id (by omega)]
    congr 1
    rw [show (v + 1).toNat = v.toNat + 1 by omega]
    simp only [sm]
    rw [Int.toNat_of_nonneg h0]) L 0 (Int.le_refl _) (by omega) (by omega)
  exact this

theorem fan_area (a : List Pt) (hn : 2 ≤ (a.length : Int)) : sm (fun i => turn (pt a 0) (pt a (i + 1)) (pt a (i + 2))) (a.length - 2) = area a := by
  have key : ∀ k : Nat, sm (fun i => turn (pt a 0) (pt a (i + 1)) (pt a (i + 2))) k + cross (pt a 0) (pt a (k + 1)) = sm (fun i => cross (pt a i) (pt a (i + 1))) (k + 1) := by
    intro k
    induction k with
    | zero => simp [sm]
    | succ k ih =>
      simp only [sm] at ih ⊢
      rw [turn_cross]
      have e1 : ((k + 1 : Nat) : Int) = (k : Int) + 1 := by omega
      have e2 : (k : Int) + 1 + 1 = (k : Int) + 2 := by omega
      rw [e1, e2]
      omega
  have h := key (a.length - 2)
  unfold area
  have e : a.length = (a.length - 2) + 1 + 1 := by omega
  conv => rhs; rw [e]
  simp only [sm] at h ⊢
  have e1 : (((a.length - 2 + 1 : Nat) : Int) + 1) = (a.length : Int) := by omega
  have e2 : (((a.length - 2 : Nat) : Int) + 1) = ((a.length - 2 + 1 : Nat) : Int) := by omega
  rw [e1]
  rw [e2] at h
  have e3 : pt a (a.length : Int) = pt a 0 := pt_congr (by simp)
  rw [e3]
  have e4 : cross (pt a ((a.length - 2 + 1 : Nat) : Int)) (pt a 0) = - cross (pt a 0) (pt a ((a.length - 2 + 1 : Nat) : Int)) := by unfold cross; grind
  rw [e4]
  rw [← e2] at h ⊢
  omega

theorem spec_pgArea_eq {L : Nat} {a : List Pt} (hn : 2 ≤ (a.length : Int)) (hs : (a.length : Int) ≤ 1000) (hL : (a.length : Int) < L) (hin : ∀ i, Nr (pt a i)) : spec_pgArea L a = some (area a) := by
  unfold spec_pgArea
  have := accum (f := fun m s v => spec_pgArea_l0 L a m s v) (S := fun v => sm (fun i => turn (pt a 0) (pt a (i + 1)) (pt a (i + 2))) (v - 2).toNat) (r := some (area a)) (lo := 2) (n := a.length) (fun m => by
    simp only [spec_pgArea_l0, ilt_eq, ilen_mapep, Int.lt_irrefl, decide_false, cond_false]
    rw [← fan_area a hn, show ((a.length : Int) - 2).toNat = a.length - 2 by omega]) (fun m v h0 h => by
    simp only [spec_pgArea_l0, ilt_eq, ilen_mapep, h, decide_true, cond_true, gbind_eq, lget_pt (show 0 ≤ v by omega) h, lget_pt (Int.le_refl 0) (show 0 < (a.length : Int) by omega), Option.bind_some, iadd_eq, isub_eq, wr_s (i := v + 1) (by omega), wr_s (i := v - 1) (by omega),
      lget_pt (show 0 ≤ v - 1 by omega) (show v - 1 < (a.length : Int) by omega)]
    rw [spec_pgTurn_eq (hin _) (hin _) (hin _)]
    simp only [Option.bind_some]
    have h1 := sm_bd (fun i => turn_bd (hin 0) (hin (i + 1)) (hin (i + 2))) (v - 2).toNat
    have h2 := turn_bd (hin 0) (hin (v - 1)) (hin v)
    have h3 : ((v - 2).toNat : Int) * 8000000 ≤ 1000 * 8000000 := by omega
    rw [wr_id (by omega)]
    congr 1
    rw [show (v + 1 - 2).toNat = (v - 2).toNat + 1 by omega]
    simp only [sm]
    rw [show (((v - 2).toNat : Nat) : Int) + 1 = v - 1 by omega, show (((v - 2).toNat : Nat) : Int) + 2 = v by omega]) L 2 (Int.le_refl _) (by omega) (by omega)
  exact this
end Go.AM
