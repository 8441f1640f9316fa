import Derived.Test.YtblinpffebpgfaaAmM0
set_option linter.unusedVariables false
set_option linter.unusedSimpArgs false
set_option linter.unnecessarySimpa false
set_option linter.deprecated false
set_option linter.unusedSectionVars false
namespace Go.AM
open Classical
theorem onL_cases {A B q : Pt} (hne : A ≠ B) (h : OnL A B q) : q = A ∨ q = B ∨ Bt A B q := by
  obtain ⟨hz, hx, hy⟩ := h
  rw [mul_le0] at hx hy
  by_cases eA : q = A
  · exact .inl eA
  by_cases eB : q = B
  · exact .inr (.inl eB)
  right; right
  have z : (B.x - A.x) * (q.y - A.y) = (B.y - A.y) * (q.x - A.x) := by unfold turn at hz; omega
  have nA := pt_ne eA
  have nB := pt_ne eB
  by_cases cx : A.x = B.x
  · have qx : q.x = A.x := by omega
    rcases Int.lt_or_le A.y B.y with c | c
    · exact ⟨q.y - A.y, B.y - q.y, by omega, by omega, by rw [← cx, qx]; grind, by grind⟩
    · exact ⟨A.y - q.y, q.y - B.y, by omega, by omega, by rw [← cx, qx]; grind, by grind⟩
  · have ex : q.x ≠ A.x := by
      intro e
      rw [e, Int.sub_self, Int.mul_zero] at z
      rcases Int.mul_eq_zero.1 z with c | c <;> omega
    have ex2 : q.x ≠ B.x := by
      intro e
      have : (B.x - A.x) * (q.y - B.y) = 0 := by rw [e] at z; grind
      rcases Int.mul_eq_zero.1 this with c | c <;> omega
    rcases Int.lt_or_gt_of_ne cx with c | c
    · exact ⟨q.x - A.x, B.x - q.x, by omega, by omega, by grind, by grind⟩
    · exact ⟨A.x - q.x, q.x - B.x, by omega, by omega, by grind, by grind⟩
theorem bt_ends {A B : Pt} (hne : A ≠ B) : ¬ Bt A B A ∧ ¬ Bt A B B := by
  constructor
  · rintro ⟨p, r, hp, hr, hx, hy⟩
    rw [Int.sub_self, Int.mul_zero] at hx hy
    have a := Int.mul_eq_zero.1 hx.symm
    have b := Int.mul_eq_zero.1 hy.symm
    have := pt_ne hne
    omega
  · rintro ⟨p, r, hp, hr, hx, hy⟩
    rw [Int.sub_self, Int.mul_zero] at hx hy
    have a := Int.mul_eq_zero.1 hx
    have b := Int.mul_eq_zero.1 hy
    have := pt_ne hne
    omega
section
variable {n : Int} {P : Int → Pt}
theorem SP.modn (h : SP n P) (x : Int) : P (x % n) = P x ∧ P (x % n + 1) = P (x + 1) := by
  have n3 := h.n3
  have e : ∀ x, P (x % n) = P x := fun x => by
    have up : ∀ (t : Nat) (x : Int), P (x + t * n) = P x := by
      intro t
      induction t with
      | zero => intro x; simp
      | succ t ih => intro x; rw [show x + ((t + 1 : Nat) : Int) * n = (x + t * n) + n by rw [Int.natCast_add, Int.add_mul]; simp; omega, h.per, ih]
    rcases Int.le_total 0 (x / n) with hq | hq
    · have := up (x / n).toNat (x % n)
      rw [Int.toNat_of_nonneg hq, Int.mul_comm, Int.emod_add_mul_ediv] at this
      exact this.symm
    · have := up (-(x / n)).toNat x
      rw [Int.toNat_of_nonneg (by omega), Int.neg_mul, Int.mul_comm] at this
      rw [← this]; congr 1
      have := Int.emod_add_mul_ediv x n
      omega
  refine ⟨e x, ?_⟩
  rw [← e (x % n + 1), ← e (x + 1)]
  congr 1
  rw [Int.add_emod, Int.emod_emod_of_dvd _ (Int.dvd_refl _), ← Int.add_emod]
theorem SP.line (h : SP n P) (j : Int) : P j ≠ P (j + 1) := h.ne (by omega) (by have := h.n3; omega)
theorem SP.no_corner (h : SP n P) (j i : Int) : ¬ Bt (P j) (P (j + 1)) (P i) := by
  have n3 := h.n3
  obtain ⟨t, t0, t1, e⟩ : ∃ t : Int, 0 ≤ t ∧ t < n ∧ P i = P (j + t) := ⟨(i - j) % n, Int.emod_nonneg _ (by omega), Int.emod_lt_of_pos _ (by omega), by
    rw [← (h.modn (j + (i - j) % n)).1, ← (h.modn i).1]
    congr 1
    rw [Int.add_emod, Int.emod_emod_of_dvd _ (Int.dvd_refl _), ← Int.add_emod]
    congr 1; omega⟩
  rw [e]
  intro hb
  by_cases c0 : t = 0
  · subst c0; rw [Int.add_zero] at hb; exact (bt_ends (h.line j)).1 hb
  by_cases c1 : t = 1
  · subst c1; exact (bt_ends (h.line j)).2 hb
  have on := hb.on
  by_cases c2 : t = 2
  · subst c2; exact h.bend j on.1
  by_cases c3 : t = n - 1
  · subst c3
    have bd := h.bend (j - 1)
    rw [show j - 1 + 1 = j by omega, show j - 1 + 2 = j + 1 by omega] at bd
    have e0 : P (j + (n - 1)) = P (j - 1) := by
      have := h.per (j - 1); rwa [show j - 1 + n = j + (n - 1) by omega] at this
    rw [e0] at on
    have := on.1
    apply bd
    rw [← this]; unfold turn; grind
  exact h.apart j (j + t) (by omega) (by omega) (.inl on)
theorem SP.next_no (h : SP n P) {j : Int} {q : Pt} (h1 : Bt (P j) (P (j + 1)) q) (h2 : Bt (P (j + 1)) (P (j + 2)) q) : False := by
  obtain ⟨p, r, hp, hr, hx, hy⟩ := h1
  have e := bt_aff hx hy (P (j + 1)) (P (j + 2))
  rw [h2.on.1, Int.mul_zero] at e
  have z : turn (P (j + 1)) (P (j + 2)) (P (j + 1)) = 0 := by unfold turn; grind
  rw [z, Int.mul_zero, Int.add_zero] at e
  have bd := h.bend j
  rcases Int.mul_eq_zero.1 e.symm with c | c
  · omega
  · apply bd; rw [← c]; unfold turn; grind
theorem SP.one_line (h : SP n P) {j k : Int} {q : Pt} (j0 : 0 ≤ j) (j1 : j < n) (k0 : 0 ≤ k) (k1 : k < n) (h1 : Bt (P j) (P (j + 1)) q) (h2 : Bt (P k) (P (k + 1)) q) : j = k := by
  have n3 := h.n3
  have key : ∀ j k : Int, 0 ≤ j → j < k → k < n → Bt (P j) (P (j + 1)) q → Bt (P k) (P (k + 1)) q → False := fun j k j0 jk k1 h1 h2 => by
    by_cases c1 : k = j + 1
    · subst c1
      rw [show j + 1 + 1 = j + 2 by omega] at h2
      exact h.next_no h1 h2
    · by_cases c2 : k = j + n - 1
      · have e1 : P (k + 1) = P j := by have := h.per j; rwa [show j + n = k + 1 by omega] at this
        have e2 : P (k + 2) = P (j + 1) := by have := h.per (j + 1); rwa [show j + 1 + n = k + 2 by omega] at this
        exact h.next_no (j := k) h2 (by rw [e1, e2]; exact h1)
      · exact h.apart j k (by omega) (by omega) (meet_common (h.line j) (h.line k) h1 h2.on)
  rcases Int.lt_trichotomy j k with c | c | c
  · exact (key j k j0 c k1 h1 h2).elim
  · exact c
  · exact (key k j k0 c j1 h2 h1).elim
def Off (P : Int → Pt) (q : Pt) : Prop := ∀ k, ¬ OnL (P k) (P (k + 1)) q
noncomputable def insd (n : Int) (P : Int → Pt) (q : Pt) : Int := if Off P q ∧ wnd n P q ≠ 0 then 1 else 0
theorem SP.point (h : SP n P) (q : Pt) : wnd n P q = (2 * kap n P 0 - 1) * insd n P q + sm (fun i => if q = P i then cw n P i else 0) n.toNat + sm (fun j => if Bt (P j) (P (j + 1)) q then kap n P 0 - pp (eg P j) else 0) n.toNat := by
  have n3 := h.n3
  by_cases off : Off P q
  · have s1 : sm (fun i => if q = P i then cw n P i else 0) n.toNat = 0 := sm_zero fun i _ _ => by
      refine if_neg fun e => off i ?_
      rw [e]; exact ⟨by unfold turn; grind, by simp, by simp⟩
    have s2 : sm (fun j => if Bt (P j) (P (j + 1)) q then kap n P 0 - pp (eg P j) else 0) n.toNat = 0 := sm_zero fun j _ _ => if_neg fun e => off j e.on
    rw [s1, s2]
    unfold insd
    rcases h.seen2 off with e | e
    · rw [if_neg (fun c => c.2 e), e]; omega
    · have sd := h.sides
      rw [if_pos ⟨off, by omega⟩, e]; omega
  · obtain ⟨k, hk⟩ : ∃ k, OnL (P k) (P (k + 1)) q := by
      unfold Off at off
      rcases Classical.not_forall.1 off with ⟨k, hk⟩
      exact ⟨k, Classical.not_not.1 hk⟩
    have i0 : insd n P q = 0 := if_neg fun c => off c.1
    rw [i0, Int.mul_zero, Int.zero_add]
    have corner : ∀ i : Int, q = P i → wnd n P q = sm (fun i => if q = P i then cw n P i else 0) n.toNat + sm (fun j => if Bt (P j) (P (j + 1)) q then kap n P 0 - pp (eg P j) else 0) n.toNat := fun i e => by
      have e' : q = P (i % n) := by rw [(h.modn i).1]; exact e
      have a0 := Int.emod_nonneg i (b := n) (by omega)
      have a1 := Int.emod_lt_of_pos i (show 0 < n by omega)
      rw [sm_zero (g := fun j => if Bt (P j) (P (j + 1)) q then kap n P 0 - pp (eg P j) else 0) fun j _ _ => if_neg fun hb => h.no_corner j i (e ▸ hb)]
      rw [sm_only (u := i % n) a0 (by omega) fun j j0 j1 ne => if_neg fun ej => by
        rw [e'] at ej
        rcases Int.lt_or_gt_of_ne ne with c | c
        · exact h.ne (i := j) (j := i % n) c (by omega) ej.symm
        · exact h.ne (i := i % n) (j := j) c (by omega) ej]
      simp only [← e', if_true]
      rw [e', h.wnd_corner]; omega
    rcases onL_cases (h.line k) hk with e | e | e
    · exact corner k e
    · exact corner (k + 1) e
    · obtain ⟨m1, m2⟩ := h.modn k
      have e' : Bt (P (k % n)) (P (k % n + 1)) q := by rw [m1, m2]; exact e
      have a0 := Int.emod_nonneg k (b := n) (by omega)
      have a1 := Int.emod_lt_of_pos k (show 0 < n by omega)
      rw [sm_zero (g := fun i => if q = P i then cw n P i else 0) fun i _ _ => if_neg fun (ei : q = P i) => h.no_corner k i (ei ▸ e)]
      rw [sm_only (u := k % n) a0 (by omega) fun j j0 j1 ne => if_neg fun hb => ne (h.one_line j0 (by omega) a0 a1 hb e')]
      rw [if_pos e', h.wnd_at e']; omega
theorem bt_points {A B : Pt} (hne : A ≠ B) : ∃ u v : Int, B.x - A.x = step A B * u ∧ B.y - A.y = step A B * v ∧ 0 < step A B ∧ (u ≠ 0 ∨ v ≠ 0) ∧ ∀ q, Bt A B q ↔ ∃ t : Int, 0 < t ∧ t < step A B ∧ q = ⟨A.x + t * u, A.y + t * v⟩ := by
  have s1 := step_one hne
  obtain ⟨u, v, hu, hv, g⟩ := prim (x := A.x - B.x) (y := A.y - B.y) rfl (by unfold step at s1; omega)
  have eu : A.x - B.x = step A B * u := hu
  have ev : A.y - B.y = step A B * v := hv
  have nz : -u ≠ 0 ∨ -v ≠ 0 := by
    rcases pt_ne hne with c | c
    · left; intro e; rw [show u = 0 by omega, Int.mul_zero] at eu; omega
    · right; intro e; rw [show v = 0 by omega, Int.mul_zero] at ev; omega
  refine ⟨-u, -v, by rw [Int.mul_neg]; omega, by rw [Int.mul_neg]; omega, by omega, nz, fun q => ?_⟩
  constructor
  · rintro ⟨p, r, hp, hr, hx, hy⟩
    have kx : (p + r) * (q.x - A.x) = p * (step A B * (-u)) := by rw [Int.mul_neg, ← eu]; grind
    have ky : (p + r) * (q.y - A.y) = p * (step A B * (-v)) := by rw [Int.mul_neg, ← ev]; grind
    have pr : 0 < p + r := by omega
    have par : u * (q.y - A.y) = v * (q.x - A.x) := by
      have : (p + r) * (u * (q.y - A.y) - v * (q.x - A.x)) = 0 := by
        have : (p + r) * (u * (q.y - A.y) - v * (q.x - A.x)) = u * ((p + r) * (q.y - A.y)) - v * ((p + r) * (q.x - A.x)) := by grind
        rw [this, kx, ky]; grind
      rcases Int.mul_eq_zero.1 this with c | c <;> omega
    have cop : Nat.Coprime u.natAbs v.natAbs := g
    obtain ⟨t, t1, t2⟩ : ∃ t : Int, q.x - A.x = u * t ∧ q.y - A.y = v * t := by
      by_cases u0 : u = 0
      · have v1 : v.natAbs = 1 := by rw [u0] at g; simpa using g
        have x0 : q.x - A.x = 0 := by
          rw [u0, Int.zero_mul] at par
          rcases Int.mul_eq_zero.1 par.symm with c | c <;> omega
        refine ⟨v * (q.y - A.y), by rw [u0, x0]; simp, ?_⟩
        rcases (show v = 1 ∨ v = -1 by omega) with c | c <;> rw [c] <;> omega
      · have d : u ∣ q.x - A.x := by
          rw [← Int.natAbs_dvd_natAbs]
          refine cop.dvd_of_dvd_mul_left ?_
          rw [← Int.natAbs_mul, Int.natAbs_dvd_natAbs]
          exact ⟨q.y - A.y, par.symm⟩
        obtain ⟨t, ht⟩ := d
        refine ⟨t, ht, ?_⟩
        rw [ht] at par
        have : u * (q.y - A.y - v * t) = 0 := by grind
        rcases Int.mul_eq_zero.1 this with c | c <;> omega
    have tt : (p + r) * (-t) = p * step A B := by
      rw [t1] at kx
      rw [t2] at ky
      rcases nz with c | c
      · have : u * ((p + r) * (-t) - p * step A B) = 0 := by grind
        rcases Int.mul_eq_zero.1 this with d | d <;> omega
      · have : v * ((p + r) * (-t) - p * step A B) = 0 := by grind
        rcases Int.mul_eq_zero.1 this with d | d <;> omega
    have m1 := Int.mul_pos hp (show 0 < step A B by omega)
    have m2 := Int.mul_pos hr (show 0 < step A B by omega)
    have tpos := sgn_mul pr tt
    have tlt := sgn_mul pr (show (p + r) * (step A B - -t) = r * step A B by rw [Int.mul_sub, tt]; grind)
    refine ⟨-t, by omega, by omega, ?_⟩
    cases q
    simp only [Pt.mk.injEq] at *
    constructor <;> grind
  · rintro ⟨t, t0, t1, rfl⟩
    refine ⟨t, step A B - t, t0, by omega, ?_, ?_⟩
    · simp only
      have : B.x = A.x + step A B * (-u) := by rw [Int.mul_neg, ← eu]; omega
      rw [this]; grind
    · simp only
      have : B.y = A.y + step A B * (-v) := by rw [Int.mul_neg, ← ev]; omega
      rw [this]; grind
theorem bs_bt {M : Nat} {A B : Pt} (hne : A ≠ B) (a0 : -(M : Int) ≤ A.x) (a1 : A.x ≤ M) (a2 : -(M : Int) ≤ A.y) (a3 : A.y ≤ M) (b0 : -(M : Int) ≤ B.x) (b1 : B.x ≤ M) (b2 : -(M : Int) ≤ B.y) (b3 : B.y ≤ M) (c : Int) :
    bs M (fun q => if Bt A B q then c else 0) = c * (step A B - 1) := by
  obtain ⟨u, v, hu, hv, s0, nz, hb⟩ := bt_points hne
  have pw' : bs M (fun q => if Bt A B q then c else 0) = bs M (fun q => sm (fun t => if q = ⟨A.x + (t + 1) * u, A.y + (t + 1) * v⟩ then c else 0) (step A B - 1).toNat) := bs_congr fun q _ _ _ _ => by
    by_cases h : Bt A B q
    · rw [if_pos h]
      obtain ⟨t, t0, t1, e⟩ := (hb q).1 h
      rw [sm_only (u := t - 1) (by omega) (by omega) fun i i0 i1 ne => if_neg fun e' => by
        rw [e] at e'
        simp only [Pt.mk.injEq] at e'
        apply ne
        rcases nz with k | k
        · have : (t - (i + 1)) * u = 0 := by have := e'.1; grind
          rcases Int.mul_eq_zero.1 this with d | d <;> omega
        · have : (t - (i + 1)) * v = 0 := by have := e'.2; grind
          rcases Int.mul_eq_zero.1 this with d | d <;> omega]
      rw [if_pos (by rw [show t - 1 + 1 = t by omega]; exact e)]
    · rw [if_neg h, sm_zero fun t t0 t1 => if_neg fun e => h ((hb q).2 ⟨t + 1, by omega, by omega, e⟩)]
  rw [pw', bs_sm]
  have each : sm (fun t => bs M (fun q => if q = ⟨A.x + (t + 1) * u, A.y + (t + 1) * v⟩ then c else 0)) (step A B - 1).toNat = sm (fun _ => c) (step A B - 1).toNat := sm_congr fun t t0 t1 => by
    have on := ((hb ⟨A.x + (t + 1) * u, A.y + (t + 1) * v⟩).2 ⟨t + 1, by omega, by omega, rfl⟩).on
    have ox := on.2.1
    have oy := on.2.2
    rw [mul_le0] at ox oy
    simp only at ox oy
    exact bs_one (v := ⟨A.x + (t + 1) * u, A.y + (t + 1) * v⟩) (by simp only; omega) (by simp only; omega) (by simp only; omega) (by simp only; omega) c
  rw [each, sm_const, Int.mul_comm]
  congr 1
  omega
theorem SP.pick (h : SP n P) {M : Nat} (box : ∀ i, (-(M : Int) ≤ (P i).x ∧ (P i).x ≤ M) ∧ (-(M : Int) ≤ (P i).y ∧ (P i).y ≤ M)) :
    sm (fun i => cross (P i) (P (i + 1))) n.toNat = (2 * kap n P 0 - 1) * (2 * bs M (insd n P) - 2 + sm (fun i => step (P i) (P (i + 1))) n.toNat) := by
  have n3 := h.n3
  have L1 : 2 * bs M (wnd n P) = sm (fun i => cross (P i) (P (i + 1))) n.toNat - sm (fun i => (2 * pp (eg P i) - 1) * step (P i) (P (i + 1))) n.toNat := by
    have e : bs M (wnd n P) = sm (fun i => bs M (fun q => dl (df q (P i)) (df q (P (i + 1))))) n.toNat := by
      rw [← bs_sm]
      refine bs_congr fun q _ _ _ _ => ?_
      unfold wnd pw
      exact sm_congr fun i _ _ => by rw [Int.zero_add]
    rw [e, ← sm_mul, ← sm_add]
    have tel := sm_round (f := fun i => 2 * M * (P i).x - (P i).x * (P i).y + (P i).y + (P i).x) (k := n.toNat) (by
      have : P ((n.toNat : Nat) : Int) = P 0 := by have := h.per 0; rwa [show (0 : Int) + n = (n.toNat : Int) by omega] at this
      simp only [this])
    have pt : sm (fun i => 2 * bs M (fun q => dl (df q (P i)) (df q (P (i + 1))))) n.toNat = sm (fun i => (cross (P i) (P (i + 1)) - (2 * pp (eg P i) - 1) * step (P i) (P (i + 1))) + ((2 * M * (P (i + 1)).x - (P (i + 1)).x * (P (i + 1)).y + (P (i + 1)).y + (P (i + 1)).x) - (2 * M * (P i).x - (P i).x * (P i).y + (P i).y + (P i).x))) n.toNat := sm_congr fun i _ _ => by
      obtain ⟨⟨x1, x2⟩, y1, y2⟩ := box i
      obtain ⟨⟨x3, x4⟩, y3, y4⟩ := box (i + 1)
      rw [edge_sum (h.line i) x1 x2 y1 y2 x3 x4 y3 y4]
      unfold eg cross
      grind
    rw [pt, sm_plus, sm_add, sm_add]
    omega
  have L2 : bs M (wnd n P) = (2 * kap n P 0 - 1) * bs M (insd n P) + sm (fun i => cw n P i) n.toNat + sm (fun j => (kap n P 0 - pp (eg P j)) * (step (P j) (P (j + 1)) - 1)) n.toNat := by
    have e : bs M (wnd n P) = bs M (fun q => (2 * kap n P 0 - 1) * insd n P q + sm (fun i => if q = P i then cw n P i else 0) n.toNat + sm (fun j => if Bt (P j) (P (j + 1)) q then kap n P 0 - pp (eg P j) else 0) n.toNat) := bs_congr fun q _ _ _ _ => h.point q
    rw [e, bs_plus, bs_plus, bs_mul, bs_sm, bs_sm]
    congr 1
    · congr 1
      exact sm_congr fun i _ _ => by
        obtain ⟨⟨x1, x2⟩, y1, y2⟩ := box i
        exact bs_one x1 x2 y1 y2 _
    · exact sm_congr fun i _ _ => by
        obtain ⟨⟨x1, x2⟩, y1, y2⟩ := box i
        obtain ⟨⟨x3, x4⟩, y3, y4⟩ := box (i + 1)
        exact bs_bt (h.line i) x1 x2 y1 y2 x3 x4 y3 y4 _
  have perE : ∀ j, eg P (j + n) = eg P j := fun j => by unfold eg; rw [show j + n + 1 = j + 1 + n by omega, h.per, h.per]
  have c1 := cyc_sum (n := n) (g := fun t => dl (eg P t) (eg P (t + 1))) (by omega) (fun i => by rw [show i + n + 1 = i + 1 + n by omega, perE, perE]) (-1)
  have c2 := cyc_sum (n := n) (g := fun t => pp (eg P t)) (by omega) (fun i => by rw [perE]) (-1)
  have L3 : sm (fun i => cw n P i) n.toNat = n * kap n P 0 - spin n P - sm (fun i => pp (eg P i)) n.toNat := by
    have e : sm (fun i => cw n P i) n.toNat = sm (fun i => (kap n P 0 - dl (eg P (-1 + i)) (eg P (-1 + i + 1))) - pp (eg P (-1 + i))) n.toNat := sm_congr fun i _ _ => by
      have := h.kap_all i
      unfold kap at this
      rw [show -1 + i + 1 = i by omega, show -1 + i = i - 1 by omega]
      unfold kap
      omega
    rw [e, sm_add, sm_add, sm_const, c1, c2]
    unfold spin
    rw [Int.toNat_of_nonneg (by omega)]
  have L4 : sm (fun i => (2 * pp (eg P i) - 1) * step (P i) (P (i + 1))) n.toNat + 2 * sm (fun j => (kap n P 0 - pp (eg P j)) * (step (P j) (P (j + 1)) - 1)) n.toNat = (2 * kap n P 0 - 1) * sm (fun i => step (P i) (P (i + 1))) n.toNat - 2 * (n * kap n P 0) + 2 * sm (fun i => pp (eg P i)) n.toNat := by
    have e : sm (fun i => (2 * pp (eg P i) - 1) * step (P i) (P (i + 1)) + 2 * ((kap n P 0 - pp (eg P i)) * (step (P i) (P (i + 1)) - 1))) n.toNat = sm (fun i => ((2 * kap n P 0 - 1) * step (P i) (P (i + 1)) - 2 * kap n P 0) + 2 * pp (eg P i)) n.toNat := sm_congr fun i _ _ => by grind
    rw [sm_plus, sm_mul] at e
    rw [e, sm_plus, sm_add, sm_mul, sm_mul 2 (fun i => pp (eg P i)), sm_const, Int.toNat_of_nonneg (by omega)]
    have : n * (2 * kap n P 0) = 2 * (n * kap n P 0) := by grind
    omega
  have sd := h.sides
  rw [Int.mul_add, Int.mul_sub]
  have m1 : (2 * kap n P 0 - 1) * (2 * bs M (insd n P)) = 2 * ((2 * kap n P 0 - 1) * bs M (insd n P)) := by grind
  rw [m1]
  rcases sd with ⟨k, s⟩ | ⟨k, s⟩ <;> rw [k] at L2 L3 L4 ⊢ <;> rw [s] at L3 <;> omega
end
end Go.AM
namespace Go.AM
def rt (v : Pt) : Pt := ⟨v.y, -v.x⟩
theorem turn_rt (A B C : Pt) : turn (rt A) (rt B) (rt C) = turn A B C := by unfold turn rt; grind
theorem onL_rt {A B C : Pt} : OnL (rt A) (rt B) (rt C) ↔ OnL A B C := by
  have e : (-A.x - -C.x) * (-B.x - -C.x) = (A.x - C.x) * (B.x - C.x) := by grind
  unfold OnL
  rw [turn_rt]
  unfold rt
  simp only
  rw [e]
  constructor
  · rintro ⟨a, b, c⟩; exact ⟨a, c, b⟩
  · rintro ⟨a, b, c⟩; exact ⟨a, c, b⟩
theorem meet_rt {A B C D : Pt} : Meet (rt A) (rt B) (rt C) (rt D) → Meet A B C D := by
  unfold Meet
  simp only [onL_rt, turn_rt]
  exact id
theorem step_rt (A B : Pt) : step (rt A) (rt B) = step A B := by
  unfold step rt
  simp only
  rw [show (-A.x - -B.x).natAbs = (A.x - B.x).natAbs by omega, Nat.gcd_comm]
theorem cross_rt (A B : Pt) : cross (rt A) (rt B) = cross A B := by unfold cross rt; simp only; grind
theorem Good_.nn {a : List Pt} (g : Good_ a) : a ≠ [] := fun e => by have := g.lo; subst e; simp at this
theorem Good_.all {a : List Pt} (g : Good_ a) (i : Int) : In (pt a i) := in_all g.isIn g.nn i
theorem pt_shift {a : List Pt} (i c : Int) : pt a (i % (a.length : Int) + c) = pt a (i + c) :=
  pt_congr (by rw [Int.add_emod, Int.emod_emod_of_dvd _ (Int.dvd_refl _), ← Int.add_emod])
def rc (a : List Pt) (i : Int) : Pt := rt (pt a i)
theorem Good_.sp {a : List Pt} (g : Good_ a) : SP a.length (rc a) where
  n3 := g.lo
  per i := by unfold rc; rw [pt_per]
  bend i := by
    unfold rc
    rw [turn_rt]
    have h := g.turn (i % (a.length : Int)) (Int.emod_nonneg _ (by have := g.lo; omega)) (Int.emod_lt_of_pos _ (by have := g.lo; omega))
    rwa [pt_mod, pt_shift, pt_shift] at h
  apart i k h1 h2 hm := g.apartAll h1 h2 (meet_rt hm)
theorem dl_tg (A B q : Pt) : dl (df (rt q) (rt A)) (df (rt q) (rt B)) % 2 = if tg A B q = true then 1 else 0 := by
  have e1 : cross (df (rt q) (rt A)) (df (rt q) (rt B)) = turn A B q := by unfold cross df rt turn; simp only; grind
  have b1 : B.y = q.y → turn A B q = (q.y - A.y) * (B.x - q.x) := fun e => by unfold turn; rw [e]; grind
  have a1 : A.y = q.y → turn A B q = (B.y - q.y) * (A.x - q.x) := fun e => by unfold turn; rw [e]; grind
  unfold dl tg
  rw [e1]
  unfold Pos Neg df rt
  simp only [decide_eq_true_eq]
  have up : (((A.y - q.y < 0 ∨ (A.y - q.y = 0 ∧ -A.x - -q.x < 0)) ∧ (0 < B.y - q.y ∨ (B.y - q.y = 0 ∧ 0 < -B.x - -q.x)) ∧ 0 < turn A B q)) ↔ (A.y ≤ q.y ∧ q.y < B.y ∧ 0 < turn A B q) := by
    constructor
    · rintro ⟨p, r, t⟩
      refine ⟨by omega, ?_, t⟩
      rcases r with r | ⟨r, r2⟩
      · omega
      · exfalso
        have := b1 (by omega)
        have := Int.mul_nonneg (show 0 ≤ q.y - A.y by omega) (show 0 ≤ -(B.x - q.x) by omega)
        rw [Int.mul_neg] at this
        omega
    · rintro ⟨p, r, t⟩
      refine ⟨?_, by omega, t⟩
      by_cases e : A.y = q.y
      · right
        refine ⟨by omega, ?_⟩
        have k := a1 e
        rcases Int.lt_or_le q.x A.x with c | c
        · omega
        · exfalso
          have := Int.mul_nonneg (show 0 ≤ B.y - q.y by omega) (show 0 ≤ -(A.x - q.x) by omega)
          rw [Int.mul_neg] at this
          omega
      · omega
  have dn : ((0 < A.y - q.y ∨ (A.y - q.y = 0 ∧ 0 < -A.x - -q.x)) ∧ (B.y - q.y < 0 ∨ (B.y - q.y = 0 ∧ -B.x - -q.x < 0)) ∧ turn A B q < 0) ↔ (B.y ≤ q.y ∧ q.y < A.y ∧ turn A B q < 0) := by
    constructor
    · rintro ⟨p, r, t⟩
      refine ⟨by omega, ?_, t⟩
      rcases p with p | ⟨p, p2⟩
      · omega
      · exfalso
        have := a1 (by omega)
        have := Int.mul_nonneg (show 0 ≤ -(B.y - q.y) by omega) (show 0 ≤ -(A.x - q.x) by omega)
        rw [Int.neg_mul, Int.mul_neg] at this
        omega
    · rintro ⟨p, r, t⟩
      refine ⟨by omega, ?_, t⟩
      by_cases e : B.y = q.y
      · right
        refine ⟨by omega, ?_⟩
        have k := b1 e
        rcases Int.lt_or_le q.x B.x with c | c
        · omega
        · exfalso
          have := Int.mul_nonneg (show 0 ≤ -(q.y - A.y) by omega) (show 0 ≤ -(B.x - q.x) by omega)
          rw [Int.neg_mul, Int.mul_neg] at this
          omega
      · omega
  simp only [up, dn]
  by_cases c1 : A.y ≤ q.y ∧ q.y < B.y ∧ 0 < turn A B q
  · rw [if_pos c1, if_pos (.inl c1)]; rfl
  · rw [if_neg c1]
    by_cases c2 : B.y ≤ q.y ∧ q.y < A.y ∧ turn A B q < 0
    · rw [if_pos c2, if_pos (.inr c2)]; rfl
    · rw [if_neg c2, if_neg (fun c => c.elim c1 c2)]; rfl
theorem xr_odd {f : Int → Int} {t : Int → Bool} (h : ∀ i, f i % 2 = if t i = true then 1 else 0) : ∀ k : Nat, sm f k % 2 = if xr t k = true then 1 else 0
  | 0 => rfl
  | k + 1 => by
    have ih := xr_odd h k
    have hk := h k
    show (sm f k + f k) % 2 = _
    have e : (xr t (k + 1) = true) ↔ ¬ (xr t k = true ↔ t k = true) := by
      show (xor (xr t k) (t k) = true) ↔ _
      by_cases h1 : xr t k = true <;> by_cases h2 : t k = true <;> simp [h1, h2]
    by_cases h1 : xr t k = true <;> by_cases h2 : t k = true
    · rw [if_pos h1] at ih; rw [if_pos h2] at hk; rw [if_neg (fun c => e.1 c ⟨fun _ => h2, fun _ => h1⟩)]; omega
    · rw [if_pos h1] at ih; rw [if_neg h2] at hk; rw [if_pos (e.2 fun c => h2 (c.1 h1))]; omega
    · rw [if_neg h1] at ih; rw [if_pos h2] at hk; rw [if_pos (e.2 fun c => h1 (c.2 h2))]; omega
    · rw [if_neg h1] at ih; rw [if_neg h2] at hk; rw [if_neg (fun c => e.1 c ⟨fun x => absurd x h1, fun x => absurd x h2⟩)]; omega
theorem wnd_par (a : List Pt) (q : Pt) : wnd a.length (rc a) (rt q) % 2 = if par a q 0 a.length = true then 1 else 0 := by
  rw [par_xr]
  unfold wnd pw rc
  rw [show (a.length : Int).toNat = a.length by omega]
  exact xr_odd (fun i => dl_tg _ _ _) _
theorem rim_off {a : List Pt} (g : Good_ a) (q : Pt) : Rim a q ↔ ¬ Off (rc a) (rt q) := by
  unfold Off
  constructor
  · rintro ⟨i, _, _, h⟩ c
    exact c i (onL_rt.2 h)
  · intro h
    rcases Classical.not_forall.1 h with ⟨k, hk⟩
    have hk := onL_rt.1 (Classical.not_not.1 hk)
    have lo := g.lo
    refine ⟨k % (a.length : Int), Int.emod_nonneg _ (by omega), Int.emod_lt_of_pos _ (by omega), ?_⟩
    rw [pt_mod, pt_shift]; exact hk
theorem wh_insd {a : List Pt} (g : Good_ a) (q : Pt) : insd a.length (rc a) (rt q) = if 0 < wh a q then 1 else 0 := by
  unfold insd wh
  by_cases hr : Rim a q
  · rw [if_neg (fun c => (rim_off g q).1 hr c.1), if_pos hr]; rfl
  · have off : Off (rc a) (rt q) := Classical.not_not.1 fun c => hr ((rim_off g q).2 c)
    have p := wnd_par a q
    have sd := g.sp.sides
    rw [if_neg hr]
    rcases g.sp.seen2 off with e | e
    · rw [e] at p
      have hp : par a q 0 a.length = false := by
        cases hc : par a q 0 a.length with
        | false => rfl
        | true => rw [hc] at p; simp at p
      rw [if_neg (fun c => c.2 e), hp]; rfl
    · have hp : par a q 0 a.length = true := by
        cases hc : par a q 0 a.length with
        | true => rfl
        | false =>
          rw [hc, e] at p
          rcases sd with ⟨k, _⟩ | ⟨k, _⟩ <;> rw [k] at p <;> simp at p
      rw [if_pos ⟨off, by omega⟩, hp]; rfl
theorem sm_swap (F : Int → Int → Int) (b : Nat) : ∀ a : Nat, sm (fun i => sm (fun j => F i j) b) a = sm (fun j => sm (fun i => F i j) a) b
  | 0 => (sm_zero fun j _ _ => rfl).symm
  | a + 1 => by
    have ih := sm_swap F b a
    show sm (fun i => sm (fun j => F i j) b) a + sm (fun j => F a j) b = sm (fun j => sm (fun i => F i j) a + F a j) b
    rw [ih, sm_plus]
theorem bs_rt (M : Nat) (f : Pt → Int) : bs M (fun p => f (rt p)) = bs M f := by
  unfold bs
  have e : sm (fun i => sm (fun j => f (rt ⟨i - M, j - M⟩)) (2 * M + 1)) (2 * M + 1) = sm (fun i => sm (fun j => f ⟨j - M, (((2 * M + 1 : Nat) : Int) - 1 - i) - M⟩) (2 * M + 1)) (2 * M + 1) := sm_congr fun i _ _ => sm_congr fun j _ _ => by
    unfold rt; simp only; congr 2; omega
  rw [e, sm_swap]
  exact sm_congr fun j _ _ => sm_revU (fun i => f ⟨j - M, i - M⟩) _
noncomputable def cntI (a : List Pt) : Int := bs 40 (fun q => if 0 < wh a q then 1 else 0)
theorem cntI_eq {a : List Pt} (g : Good_ a) : bs 40 (insd a.length (rc a)) = cntI a := by
  rw [← bs_rt]
  exact bs_congr fun q _ _ _ _ => wh_insd g q
theorem sm_ge {f : Int → Int} {c : Int} : ∀ {k : Nat}, (∀ i : Int, 0 ≤ i → i < k → c ≤ f i) → k * c ≤ sm f k
  | 0, _ => by simp [sm]
  | k + 1, h => by
    have ih := sm_ge (f := f) (c := c) (k := k) fun i h0 h1 => h i h0 (by omega)
    have := h k (by omega) (by omega)
    show _ ≤ sm f k + f k
    rw [Int.natCast_add, Int.add_mul]
    omega
theorem bs_nn {M : Nat} {f : Pt → Int} (h : ∀ p, 0 ≤ f p) : 0 ≤ bs M f := by
  unfold bs
  have := sm_ge (f := fun i => sm (fun j => f ⟨i - M, j - M⟩) (2 * M + 1)) (c := 0) (k := 2 * M + 1) fun i _ _ => by
    have := sm_ge (f := fun j => f ⟨i - M, j - M⟩) (c := 0) (k := 2 * M + 1) fun j _ _ => h _
    simpa using this
  simpa using this
theorem Good_.round_ge {a : List Pt} (g : Good_ a) : (a.length : Int) ≤ round a := by
  have := sm_ge (f := fun i => step (pt a i) (pt a (i + 1))) (c := 1) (k := a.length) fun i _ _ => step_one fun e => by
    have := g.sp.line i
    apply this
    unfold rc; rw [e]
  unfold round
  omega
theorem pick_rule {a : List Pt} (g : Good_ a) : (((area a).natAbs : Int) = 2 * cntI a - 2 + round a) ∧ area a ≠ 0 := by
  have p := g.sp.pick (M := 40) (fun i => by
    have := g.all i
    unfold In at this
    unfold rc rt
    simp only
    omega)
  have e1 : sm (fun i => cross (rc a i) (rc a (i + 1))) (a.length : Int).toNat = area a := by
    unfold area
    rw [show (a.length : Int).toNat = a.length by omega]
    exact sm_congr fun i _ _ => cross_rt _ _
  have e2 : sm (fun i => step (rc a i) (rc a (i + 1))) (a.length : Int).toNat = round a := by
    unfold round
    rw [show (a.length : Int).toNat = a.length by omega]
    exact sm_congr fun i _ _ => step_rt _ _
  rw [e1, e2, cntI_eq g] at p
  have rg := g.round_ge
  have lo := g.lo
  have nn : 0 ≤ cntI a := bs_nn fun q => by split <;> omega
  rcases g.sp.sides with ⟨k, _⟩ | ⟨k, _⟩ <;> rw [k] at p <;> omega
theorem inside_is {a : List Pt} (g : Good_ a) : inside a = cntI a := by
  have p := pick_rule g
  have ab := area_bd (a := a) (by have := g.hi; omega) (fun i => (g.all i).nr)
  have rg := g.round_ge
  have lo := g.lo
  have nn : 0 ≤ cntI a := bs_nn fun q => by split <;> omega
  unfold inside
  rw [wr_id (n := ((area a).natAbs : Int) + 2) (by omega), wr_id (n := ((area a).natAbs : Int) + 2 - round a) (by omega)]
  rw [show ((area a).natAbs : Int) + 2 - round a = 2 * cntI a by omega, Int.mul_tdiv_cancel_left _ (by decide), wr_id (by omega)]
end Go.AM
namespace Go.AM
noncomputable def colI (a : List Pt) (x : Int) : Nat → Int → List Pt
  | 0, _ => []
  | k + 1, y => (if 0 < wh a ⟨x, y⟩ then [⟨x, y⟩] else []) ++ colI a x k (y + 1)
noncomputable def boxI (a : List Pt) (ky : Nat) (y0 : Int) : Nat → Int → List Pt
  | 0, _ => []
  | k + 1, x => colI a x ky y0 ++ boxI a ky y0 k (x + 1)
theorem colI_s (a : List Pt) (x : Int) (k : Nat) (y : Int) : colI a x (k + 1) y = (if 0 < wh a ⟨x, y⟩ then [⟨x, y⟩] else []) ++ colI a x k (y + 1) := rfl
theorem boxI_s (a : List Pt) (ky : Nat) (y0 : Int) (k : Nat) (x : Int) : boxI a ky y0 (k + 1) x = colI a x ky y0 ++ boxI a ky y0 k (x + 1) := rfl
theorem colI_len (a : List Pt) (x : Int) : ∀ (k : Nat) (y : Int), (colI a x k y).length ≤ k
  | 0, _ => by simp [colI]
  | k + 1, y => by
    have := colI_len a x k (y + 1)
    unfold colI
    split <;> simp <;> omega
theorem colI_mem {a : List Pt} {x : Int} {q : Pt} : ∀ {k : Nat} {y : Int}, q ∈ colI a x k y → q.x = x ∧ y ≤ q.y ∧ q.y < y + k ∧ 0 < wh a q
  | 0, _, h => by cases h
  | k + 1, y, h => by
    unfold colI at h
    rcases List.mem_append.1 h with h | h
    · split at h
      · rename_i c
        simp at h
        subst h
        exact ⟨rfl, by simp, by simp only; omega, c⟩
      · cases h
    · obtain ⟨h1, h2, h3, h4⟩ := colI_mem h
      exact ⟨h1, by omega, by omega, h4⟩
theorem boxI_mem {a : List Pt} {ky : Nat} {y0 : Int} {q : Pt} : ∀ {k : Nat} {x : Int}, q ∈ boxI a ky y0 k x → x ≤ q.x ∧ q.x < x + k ∧ y0 ≤ q.y ∧ q.y < y0 + ky ∧ 0 < wh a q
  | 0, _, h => by cases h
  | k + 1, x, h => by
    unfold boxI at h
    rcases List.mem_append.1 h with h | h
    · obtain ⟨h1, h2, h3, h4⟩ := colI_mem h
      exact ⟨by omega, by omega, h2, h3, h4⟩
    · obtain ⟨h1, h2, h3⟩ := boxI_mem h
      exact ⟨by omega, by omega, h3⟩
theorem colI_pw (a : List Pt) (x : Int) : ∀ (k : Nat) (y : Int), (colI a x k y).Pairwise Less
  | 0, _ => by simp [colI]
  | k + 1, y => by
    unfold colI
    rw [List.pairwise_append]
    refine ⟨by split <;> simp, colI_pw a x k (y + 1), fun p hp q hq => ?_⟩
    obtain ⟨h1, h2, _⟩ := colI_mem hq
    split at hp
    · simp at hp; subst hp; unfold Less; simp only; omega
    · cases hp
theorem boxI_pw (a : List Pt) (ky : Nat) (y0 : Int) : ∀ (k : Nat) (x : Int), (boxI a ky y0 k x).Pairwise Less
  | 0, _ => by simp [boxI]
  | k + 1, x => by
    unfold boxI
    rw [List.pairwise_append]
    refine ⟨colI_pw a x ky y0, boxI_pw a ky y0 k (x + 1), fun p hp q hq => ?_⟩
    obtain ⟨h1, _⟩ := colI_mem hp
    obtain ⟨h2, _⟩ := boxI_mem hq
    unfold Less; omega
theorem colI_app (a : List Pt) (x : Int) (l : Nat) : ∀ (k : Nat) (y : Int), colI a x (k + l) y = colI a x k y ++ colI a x l (y + k)
  | 0, y => by simp [colI]
  | k + 1, y => by
    rw [show k + 1 + l = (k + l) + 1 by omega, colI_s, colI_s]
    rw [colI_app a x l k (y + 1), List.append_assoc, show y + 1 + (k : Int) = y + ((k + 1 : Nat) : Int) by omega]
theorem boxI_app (a : List Pt) (ky : Nat) (y0 : Int) (l : Nat) : ∀ (k : Nat) (x : Int), boxI a ky y0 (k + l) x = boxI a ky y0 k x ++ boxI a ky y0 l (x + k)
  | 0, x => by simp [boxI]
  | k + 1, x => by
    rw [show k + 1 + l = (k + l) + 1 by omega, boxI_s, boxI_s]
    rw [boxI_app a ky y0 l k (x + 1), List.append_assoc, show x + 1 + (k : Int) = x + ((k + 1 : Nat) : Int) by omega]
theorem colI_nil {a : List Pt} {x : Int} : ∀ {k : Nat} {y : Int}, (∀ q : Pt, q.x = x → y ≤ q.y → q.y < y + k → wh a q ≤ 0) → colI a x k y = []
  | 0, _, _ => rfl
  | k + 1, y, h => by
    unfold colI
    rw [if_neg (by have := h ⟨x, y⟩ rfl (by simp) (by simp only; omega); omega), colI_nil fun q h1 h2 h3 => h q h1 (by omega) (by omega)]
    rfl
theorem boxI_nil {a : List Pt} {ky : Nat} {y0 : Int} : ∀ {k : Nat} {x : Int}, (∀ q : Pt, x ≤ q.x → q.x < x + k → wh a q ≤ 0) → boxI a ky y0 k x = []
  | 0, _, _ => rfl
  | k + 1, x, h => by
    unfold boxI
    rw [colI_nil fun q h1 _ _ => h q (by omega) (by omega), boxI_nil fun q h1 h2 => h q (by omega) (by omega)]
    rfl
theorem colI_sum (a : List Pt) (x : Int) : ∀ (k : Nat) (y : Int), ((colI a x k y).length : Int) = sm (fun j => if 0 < wh a ⟨x, y + j⟩ then 1 else 0) k
  | 0, _ => rfl
  | k + 1, y => by
    rw [colI_app a x 1 k y]
    show _ = sm _ k + (if 0 < wh a ⟨x, y + k⟩ then (1 : Int) else 0)
    rw [← colI_sum a x k y, List.length_append, colI_s]
    split <;> simp [colI]
theorem boxI_sum (a : List Pt) (ky : Nat) (y0 : Int) : ∀ (k : Nat) (x : Int), ((boxI a ky y0 k x).length : Int) = sm (fun i => sm (fun j => if 0 < wh a ⟨x + i, y0 + j⟩ then 1 else 0) ky) k
  | 0, _ => rfl
  | k + 1, x => by
    rw [boxI_app a ky y0 1 k x]
    show _ = sm _ k + sm (fun j => if 0 < wh a ⟨x + k, y0 + j⟩ then (1 : Int) else 0) ky
    rw [← boxI_sum a ky y0 k x, ← colI_sum, List.length_append, boxI_s]
    simp [boxI]
theorem full_len (a : List Pt) : ((boxI a 81 (-40) 81 (-40)).length : Int) = cntI a := by
  rw [boxI_sum]
  unfold cntI bs
  exact sm_congr fun i _ _ => sm_congr fun j _ _ => by
    rw [show (-40 : Int) + i = i - ((40 : Nat) : Int) by omega, show (-40 : Int) + j = j - ((40 : Nat) : Int) by omega]
theorem Good_.far {a : List Pt} (g : Good_ a) {q : Pt} (h : (∀ i, q.y < (pt a i).y) ∨ (∀ i, (pt a i).y < q.y) ∨ (∀ i, q.x < (pt a i).x) ∨ (∀ i, (pt a i).x < q.x)) : wh a q ≤ 0 := by
  have w := wh_insd g q
  by_cases c : 0 < wh a q
  · exfalso
    rw [if_pos c] at w
    unfold insd at w
    split at w
    case isFalse => omega
    rename_i k
    have k2 := k.2
    apply k2
    unfold wnd pw
    have zz : ∀ i : Int, rc a (0 + i) = rt (pt a i) := fun i => by rw [Int.zero_add]; rfl
    have zz1 : ∀ i : Int, rc a (0 + i + 1) = rt (pt a (i + 1)) := fun i => by rw [Int.zero_add]; rfl
    rcases h with h | h | h | h
    · refine sm_zero fun i _ _ => ?_
      rw [zz, zz1]
      have h1 := h i
      have h2 := h (i + 1)
      exact dl_pp (by unfold Pos df rt; simp only; omega) (by unfold Pos df rt; simp only; omega)
    · refine sm_zero fun i _ _ => ?_
      rw [zz, zz1]
      have h1 := h i
      have h2 := h (i + 1)
      exact dl_nn (by unfold Neg df rt; simp only; omega) (by unfold Neg df rt; simp only; omega)
    · -- to the left of all: each way up is taken back
      have e : sm (fun t => dl (df (rt q) (rc a (0 + t))) (df (rt q) (rc a (0 + t + 1)))) (a.length : Int).toNat = sm (fun i => pp (df (rt q) (rc a (i + 1))) - pp (df (rt q) (rc a i))) (a.length : Int).toNat := sm_congr fun i _ _ => by
        rw [Int.zero_add]
        have h1 := h i
        have h2 := h (i + 1)
        have y1 : (df (rt q) (rc a i)).y < 0 := by unfold df rc rt; simp only; omega
        have y2 : (df (rt q) (rc a (i + 1))).y < 0 := by unfold df rc rt; simp only; omega
        revert y1 y2
        generalize df (rt q) (rc a i) = u
        generalize df (rt q) (rc a (i + 1)) = v
        intro y1 y2
        have hu : u ≠ ⟨0, 0⟩ := fun e => by rw [e] at y1; simp at y1
        have hv : v ≠ ⟨0, 0⟩ := fun e => by rw [e] at y2; simp at y2
        unfold pp
        rcases pos_or_neg hu with a1 | a1 <;> rcases pos_or_neg hv with b1 | b1
        · rw [dl_pp a1 b1, if_pos a1, if_pos b1]; rfl
        · rw [dl_pn a1 b1, if_pos a1, if_neg (neg_not_pos b1), if_pos]; rfl
          unfold Pos at a1
          unfold Neg at b1
          have x1 := Int.mul_pos (show 0 < u.x by omega) (show 0 < -v.y by omega)
          have x2 := Int.mul_nonneg (show 0 ≤ -u.y by omega) (show 0 ≤ -v.x by omega)
          unfold cross
          grind
        · rw [dl_np a1 b1, if_neg (neg_not_pos a1), if_pos b1, if_pos]; rfl
          unfold Pos at b1
          unfold Neg at a1
          have x1 := Int.mul_pos (show 0 < v.x by omega) (show 0 < -u.y by omega)
          have x2 := Int.mul_nonneg (show 0 ≤ -v.y by omega) (show 0 ≤ -u.x by omega)
          unfold cross
          grind
        · rw [dl_nn a1 b1, if_neg (neg_not_pos a1), if_neg (neg_not_pos b1)]; rfl
      rw [e, sm_add]
      have := sm_round (f := fun i => pp (df (rt q) (rc a i))) (k := (a.length : Int).toNat) (by
        have : rc a (((a.length : Int).toNat : Nat) : Int) = rc a 0 := by
          have := g.sp.per 0
          rwa [show (0 : Int) + a.length = (((a.length : Int).toNat : Nat) : Int) by omega] at this
        simp only [this])
      omega
    · have e : sm (fun t => dl (df (rt q) (rc a (0 + t))) (df (rt q) (rc a (0 + t + 1)))) (a.length : Int).toNat = 0 := sm_zero fun i _ _ => by
        rw [Int.zero_add]
        have h1 := h i
        have h2 := h (i + 1)
        have y1 : 0 < (df (rt q) (rc a i)).y := by unfold df rc rt; simp only; omega
        have y2 : 0 < (df (rt q) (rc a (i + 1))).y := by unfold df rc rt; simp only; omega
        revert y1 y2
        generalize df (rt q) (rc a i) = u
        generalize df (rt q) (rc a (i + 1)) = v
        intro y1 y2
        unfold dl
        rw [if_neg, if_neg]
        · rintro ⟨a1, b1, c1⟩
          unfold Pos at a1
          unfold Neg at b1
          have x1 := Int.mul_nonneg (show 0 ≤ u.x by omega) (show 0 ≤ v.y by omega)
          have x2 := Int.mul_nonneg (show 0 ≤ u.y by omega) (show 0 ≤ -v.x by omega)
          unfold cross at c1
          grind
        · rintro ⟨a1, b1, c1⟩
          unfold Neg at a1
          unfold Pos at b1
          have x1 := Int.mul_nonneg (show 0 ≤ -u.x by omega) (show 0 ≤ v.y by omega)
          have x2 := Int.mul_nonneg (show 0 ≤ u.y by omega) (show 0 ≤ v.x by omega)
          unfold cross at c1
          grind
      exact e
  · omega
theorem box_full {a : List Pt} (g : Good_ a) {lx ly hx hy : Int} (b : -40 ≤ lx ∧ hx ≤ 40 ∧ -40 ≤ ly ∧ hy ≤ 40) (h : ∀ i, (lx ≤ (pt a i).x ∧ (pt a i).x ≤ hx) ∧ (ly ≤ (pt a i).y ∧ (pt a i).y ≤ hy)) :
    boxI a (hy + 1 - ly).toNat ly (hx + 1 - lx).toNat lx = boxI a 81 (-40) 81 (-40) := by
  have h0 := h 0
  have cols : ∀ x, colI a x 81 (-40) = colI a x (hy + 1 - ly).toNat ly := fun x => by
    have e : 81 = (ly + 40).toNat + ((hy + 1 - ly).toNat + (40 - hy).toNat) := by omega
    rw [e, colI_app, colI_app]
    rw [colI_nil (k := (ly + 40).toNat) fun q _ h1 h2 => g.far (.inl fun i => by have := h i; omega), colI_nil (k := (40 - hy).toNat) fun q _ h1 h2 => g.far (.inr (.inl fun i => by have := h i; omega))]
    rw [List.nil_append, List.append_nil]
    congr 1; omega
  have rows : ∀ (k : Nat) (x : Int), boxI a 81 (-40) k x = boxI a (hy + 1 - ly).toNat ly k x := by
    intro k
    induction k with
    | zero => intro x; rfl
    | succ k ih => intro x; rw [boxI_s, boxI_s, cols, ih]
  rw [rows]
  have e : 81 = (lx + 40).toNat + ((hx + 1 - lx).toNat + (40 - hx).toNat) := by omega
  rw [e, boxI_app, boxI_app]
  rw [boxI_nil (k := (lx + 40).toNat) fun q h1 h2 => g.far (.inr (.inr (.inl fun i => by have := h i; omega))), boxI_nil (k := (40 - hx).toNat) fun q h1 h2 => g.far (.inr (.inr (.inr fun i => by have := h i; omega)))]
  rw [List.nil_append, List.append_nil]
  congr 1; omega
theorem ilen_ag (x y : AV) : ilen [AV.agg [x, y]] = 1 := by rw [ilen_eq]; rfl
theorem spec_col {L : Nat} {a : List Pt} (g : Good_ a) (hL : 5000 < L) {κ : (List Pt) → Int → (List Pt) → Option ((List Pt))} {x : Int} (hx : -40 ≤ x ∧ x ≤ 40) : ∀ (m k : Nat) (y : Int) (w : List Pt), -40 ≤ y → y + k = 41 → k < m → (w.length : Int) + k ≤ 1000000 →
    spec_pgList_l1 L κ a x m y w = κ a (x + 1) (w ++ colI a x k y) := by
  have hh := g.hi
  intro m
  induction m with
  | zero => intro k y w _ _ h; omega
  | succ m ih =>
    intro k y w hy hk hm hw
    rw [spec_pgList_l1]
    simp only [ile_eq, ilt_eq, iadd_eq]
    cases k with
    | zero =>
      simp only [show ¬ (y ≤ 40) by omega, decide_false, cond_false, colI, List.append_nil]
      rw [wr_id (by omega)]
    | succ k =>
      have wv := (where_val (L := L) (a := a) (q := ⟨x, y⟩) g.nn (by omega) (fun i => (g.all i).nr) (by unfold Nr; simp only; omega) (by omega)).1
      simp only at wv
      have wy : wr IntKind.i64 (y + 1) = y + 1 := wr_id (by omega)
      simp only [show y ≤ 40 by omega, decide_true, cond_true, wv, gbind_eq, Option.bind_some, wy, ilen_mapep, ilen_ag]
      rw [colI_s]
      by_cases c : 0 < wh a ⟨x, y⟩
      · have hf : fits ((w.length : Int) + 1) 16 = true := by rw [fits_eq]; exact decide_eq_true (by omega)
        simp only [c, decide_true, cond_true, if_true, hf, lcat_eq]
        rw [ih k (y + 1) _ (by omega) (by omega) (by omega) (by simp; omega), List.append_assoc]
      · simp only [c, decide_false, cond_false, if_false, List.nil_append]
        exact ih k (y + 1) w (by omega) (by omega) (by omega) (by omega)
theorem spec_rows {L : Nat} {a : List Pt} (g : Good_ a) (hL : 5000 < L) : ∀ (m k : Nat) (x : Int) (w : List Pt), -40 ≤ x → x + k = 41 → k < m → (w.length : Int) + 81 * k ≤ 900000 →
    spec_pgList_l0 L m a x w = some (w ++ boxI a 81 (-40) k x) := by
  intro m
  induction m with
  | zero => intro k x w _ _ h; omega
  | succ m ih =>
    intro k x w hx hk hm hw
    rw [spec_pgList_l0]
    simp only [ile_eq]
    cases k with
    | zero => simp only [show ¬ (x ≤ 40) by omega, decide_false, cond_false, boxI, List.append_nil]
    | succ k =>
      have cl := colI_len a x 81 (-40)
      simp only [show x ≤ 40 by omega, decide_true, cond_true]
      rw [spec_col g hL (by omega) L 81 (-40) w (by omega) (by omega) (by omega) (by omega)]
      rw [ih k (x + 1) _ (by omega) (by omega) (by omega) (by simp; omega)]
      rw [boxI_s, List.append_assoc]
theorem spec_list {L : Nat} {a : List Pt} (g : Good_ a) (hL : 5000 < L) : spec_pgList L a = some (boxI a 81 (-40) 81 (-40)) := by
  have h := spec_rows g hL L 81 (-40) [] (by omega) (by omega) (by omega) (by simp only [List.length_nil]; omega)
  rw [List.nil_append] at h
  unfold spec_pgList
  exact h
theorem impl_col {L : Nat} {a : List Pt} (g : Good_ a) (hL : 5000 < L) {κ : (List Pt) → Int → (List Pt) → Int → Int → Int → Int → Option ((List Pt) × Bool)} {x lx ly hx hy : Int} (hx' : -40 ≤ x ∧ x ≤ 40) (hhy : hy ≤ 40) : ∀ (m k : Nat) (y : Int) (w : List Pt), -40 ≤ y → y + k = hy + 1 → k < m → (w.length : Int) + k ≤ 1000000 →
    impl_ListInside_l1 L κ a x lx ly hx hy m y w = κ a (x + 1) (w ++ colI a x k y) lx ly hx hy := by
  have hh := g.hi
  intro m
  induction m with
  | zero => intro k y w _ _ h; omega
  | succ m ih =>
    intro k y w hy hk hm hw
    rw [impl_ListInside_l1]
    simp only [ile_eq, ilt_eq, iadd_eq]
    cases k with
    | zero =>
      rename_i hyy
      simp only [show ¬ (y ≤ hyy) by omega, decide_false, cond_false, colI, List.append_nil]
      rw [wr_id (by omega)]
    | succ k =>
      rename_i hyy
      have wv := (where_val (L := L) (a := a) (q := ⟨x, y⟩) g.nn (by omega) (fun i => (g.all i).nr) (by unfold Nr; simp only; omega) (by omega)).2
      simp only at wv
      have wy : wr IntKind.i64 (y + 1) = y + 1 := wr_id (by omega)
      simp only [show y ≤ hyy by omega, decide_true, cond_true, wv, gbind_eq, Option.bind_some, wy, ilen_mapep, ilen_ag]
      rw [colI_s]
      by_cases c : 0 < wh a ⟨x, y⟩
      · have hf : fits ((w.length : Int) + 1) 16 = true := by rw [fits_eq]; exact decide_eq_true (by omega)
        simp only [c, decide_true, cond_true, if_true, hf, lcat_eq]
        rw [ih k (y + 1) _ (by omega) (by omega) (by omega) (by simp; omega), List.append_assoc]
      · simp only [c, decide_false, cond_false, if_false, List.nil_append]
        exact ih k (y + 1) w (by omega) (by omega) (by omega) (by omega)
theorem impl_rows {L : Nat} {a : List Pt} (g : Good_ a) (hL : 5000 < L) {lx ly hx hy : Int} (hb : -40 ≤ ly ∧ ly ≤ hy ∧ hy ≤ 40 ∧ hx ≤ 40) : ∀ (m k : Nat) (x : Int) (w : List Pt), -40 ≤ x → x + k = hx + 1 → k < m → (w.length : Int) + 81 * k ≤ 900000 →
    impl_ListInside_l0 L m a x w lx ly hx hy = some (w ++ boxI a (hy + 1 - ly).toNat ly k x, true) := by
  intro m
  induction m with
  | zero => intro k x w _ _ h; omega
  | succ m ih =>
    intro k x w hxx hk hm hw
    rw [impl_ListInside_l0]
    simp only [ile_eq]
    cases k with
    | zero => simp only [show ¬ (x ≤ hx) by omega, decide_false, cond_false, boxI, List.append_nil]
    | succ k =>
      have cl := colI_len a x (hy + 1 - ly).toNat ly
      simp only [show x ≤ hx by omega, decide_true, cond_true]
      rw [impl_col g hL (by omega) (by omega) L (hy + 1 - ly).toNat ly w (by omega) (by omega) (by omega) (by omega)]
      rw [ih k (x + 1) _ (by omega) (by omega) (by omega) (by simp; omega)]
      rw [boxI_s, List.append_assoc]
theorem box_l0 {L : Nat} {a : List Pt} (g : Good_ a) : ∀ (m i : Nat) (b0 b1 c0 c1 : Int), i ≤ a.length → a.length - i < m → (-40 ≤ b0 ∧ -40 ≤ b1 ∧ c0 ≤ 40 ∧ c1 ≤ 40) →
    ∃ lx ly hx hy, impl_box_l0 L a m i b0 b1 c0 c1 = some (lx, ly, hx, hy) ∧ (-40 ≤ lx ∧ hx ≤ 40 ∧ -40 ≤ ly ∧ hy ≤ 40) ∧ (lx ≤ b0 ∧ ly ≤ b1 ∧ c0 ≤ hx ∧ c1 ≤ hy) ∧
      ∀ j : Nat, i ≤ j → j < a.length → (lx ≤ (pt a j).x ∧ (pt a j).x ≤ hx) ∧ (ly ≤ (pt a j).y ∧ (pt a j).y ≤ hy) := by
  intro m
  induction m with
  | zero => intro i _ _ _ _ _ h; omega
  | succ m ih =>
    intro i b0 b1 c0 c1 hi hm hb
    have hh := g.hi
    rw [impl_box_l0]
    simp only [ilen_mapep, ilt_eq, iadd_eq]
    by_cases h : i < a.length
    · have wi : wr IntKind.i64 ((i : Int) + 1) = ((i + 1 : Nat) : Int) := by rw [wr_id (by omega)]; omega
      have hin := g.all (i : Int)
      unfold In at hin
      simp only [show (i : Int) < (a.length : Int) by omega, decide_true, cond_true, lget_pt (a := a) (i := (i : Int)) (by omega) (by omega), gbind_eq, Option.bind_some, wi, imin_eq, imax_eq]
      obtain ⟨lx, ly, hx, hy, e, k1, k2, k3⟩ := ih (i + 1) (if (pt a i).x < b0 then (pt a i).x else b0) (if (pt a i).y < b1 then (pt a i).y else b1) (if (pt a i).x > c0 then (pt a i).x else c0) (if (pt a i).y > c1 then (pt a i).y else c1) (by omega) (by omega) (by
        refine ⟨?_, ?_, ?_, ?_⟩ <;> split <;> omega)
      refine ⟨lx, ly, hx, hy, e, k1, ?_, fun j j0 j1 => ?_⟩
      · obtain ⟨q1, q2, q3, q4⟩ := k2
        refine ⟨?_, ?_, ?_, ?_⟩
        · split at q1 <;> omega
        · split at q2 <;> omega
        · split at q3 <;> omega
        · split at q4 <;> omega
      · rcases Nat.lt_or_ge i j with c | c
        · exact k3 j (by omega) j1
        · have ej : j = i := by omega
          subst ej
          obtain ⟨q1, q2, q3, q4⟩ := k2
          refine ⟨⟨?_, ?_⟩, ?_, ?_⟩
          · split at q1 <;> omega
          · split at q3 <;> omega
          · split at q2 <;> omega
          · split at q4 <;> omega
    · simp only [show ¬ ((i : Int) < (a.length : Int)) by omega, decide_false, cond_false]
      exact ⟨b0, b1, c0, c1, rfl, by omega, by omega, fun j j0 j1 => by omega⟩
theorem listV {L : Nat} {a : List Pt} (g : Good_ a) (hL : 5000 < L) : impl_ListInside L a = some (boxI a 81 (-40) 81 (-40), true) ∧ spec_ListInside L a = some (boxI a 81 (-40) 81 (-40), true) := by
  have hh := g.hi
  have lo := g.lo
  have i0 := g.all 0
  unfold In at i0
  constructor
  · unfold impl_ListInside impl_box
    rw [impl_IsPolygon_eq (by omega)]
    obtain ⟨lx, ly, hx, hy, e, k1, k2, k3⟩ := box_l0 (L := L) g L 0 (pt a 0).x (pt a 0).y (pt a 0).x (pt a 0).y (by omega) (by omega) (by omega)
    rw [show ((0 : Nat) : Int) = 0 from rfl] at e
    simp only [g, decide_true, Bool.not_true, cond_false, gbind_eq, Option.bind_some, lget_pt (a := a) (i := 0) (by omega) (by omega), e]
    have k3' : ∀ i, (lx ≤ (pt a i).x ∧ (pt a i).x ≤ hx) ∧ (ly ≤ (pt a i).y ∧ (pt a i).y ≤ hy) := fun i => by
      have n0 := Int.emod_nonneg i (b := (a.length : Int)) (by omega)
      have n1 := Int.emod_lt_of_pos i (show 0 < (a.length : Int) by omega)
      have := k3 (i % (a.length : Int)).toNat (by omega) (by omega)
      rwa [Int.toNat_of_nonneg n0, pt_mod] at this
    rw [impl_rows g hL (by omega) L (hx + 1 - lx).toNat lx [] (by omega) (by omega) (by omega) (by simp only [List.length_nil]; omega), List.nil_append, box_full g k1 k3']
  · unfold spec_ListInside
    rw [spec_pgGood_eq (by omega)]
    simp only [g, decide_true, Bool.not_true, cond_false, gbind_eq, Option.bind_some, spec_list g hL]
end Go.AM
namespace Go.AM
theorem pt_tour' {a : List Pt} {k s : Int} (hn : a ≠ []) (i : Int) : pt (tour a k s a.length) i = pt a (k + i * s) := by
  rw [pt_tour hn]
  apply pt_congr
  rw [Int.add_emod, Int.mul_emod, Int.emod_emod_of_dvd _ (Int.dvd_refl _), ← Int.mul_emod, ← Int.add_emod]
end Go.AM
namespace Go.AM
theorem tmod_abs (a b : Int) : (a.tmod b).natAbs = a.natAbs % b.natAbs := Int.natAbs_tmod a b
theorem rem_abs {a b : Int} (hb : b ≠ 0) : ((a - a.tdiv b * b).natAbs : Int) = a.natAbs - (a.tdiv b).natAbs * b.natAbs ∧ (a - a.tdiv b * b) = a.tmod b := by
  have h1 : a - a.tdiv b * b = a.tmod b := by
    have := Int.tmod_add_mul_tdiv a b
    rw [Int.mul_comm b] at this
    omega
  refine ⟨?_, h1⟩
  rw [h1, tmod_abs, Int.natAbs_tdiv]
  have := Nat.div_add_mod a.natAbs b.natAbs
  have h2 : ((a.natAbs.div b.natAbs : Nat) : Int) * (b.natAbs : Int) = ((b.natAbs * (a.natAbs / b.natAbs) : Nat) : Int) := by rw [Nat.mul_comm b.natAbs]; simp; rfl
  rw [h2]
  omega
structure Bz (a0 b0 a b u x v y : Int) : Prop where
  e1 : u * a0 + v * b0 = a
  e2 : x * a0 + y * b0 = b
  k1 : (u.natAbs : Int) * b.natAbs + x.natAbs * a.natAbs ≤ b0.natAbs
  k2 : (v.natAbs : Int) * b.natAbs + y.natAbs * a.natAbs ≤ a0.natAbs
  hu : u.natAbs ≤ 1 ∨ (u.natAbs : Int) ≤ b0.natAbs
  hv : v.natAbs ≤ 1 ∨ (v.natAbs : Int) ≤ a0.natAbs
  hx : x.natAbs ≤ 1 ∨ (x.natAbs : Int) ≤ b0.natAbs
  hy : y.natAbs ≤ 1 ∨ (y.natAbs : Int) ≤ a0.natAbs
  gcd : Nat.gcd a.natAbs b.natAbs = Nat.gcd a0.natAbs b0.natAbs
  ha : a.natAbs ≤ 4000
  hb : b.natAbs ≤ 4000
theorem bz0 {a0 b0 : Int} (ha : a0.natAbs ≤ 4000) (hb : b0.natAbs ≤ 4000) : Bz a0 b0 a0 b0 1 0 0 1 := by
  refine ⟨by omega, by omega, by simp, by simp, .inl (by simp), .inl (by simp), .inl (by simp), .inl (by simp), rfl, ha, hb⟩
theorem mul_le_of {a b c : Nat} (h : (a : Int) * b ≤ c) (hb : 0 < b) : a ≤ c := by
  have h1 : a * b ≤ c := by exact_mod_cast h
  exact Nat.le_trans (Nat.le_mul_of_pos_right a hb) h1
theorem bz_step {a0 b0 a b u x v y : Int} (h : Bz a0 b0 a b u x v y) (hb : b ≠ 0) : Bz a0 b0 b (a - a.tdiv b * b) x (u - a.tdiv b * x) y (v - a.tdiv b * y) := by
  obtain ⟨r1, r2⟩ := rem_abs (a := a) hb
  have tri : ∀ p q z : Int, ((p - q * z).natAbs : Int) ≤ p.natAbs + q.natAbs * z.natAbs := fun p q z => by
    have := Int.natAbs_sub_le p (q * z)
    rw [Int.natAbs_mul] at this
    have e : ((q.natAbs * z.natAbs : Nat) : Int) = (q.natAbs : Int) * z.natAbs := by simp
    omega
  have key : ∀ p z : Int, ∀ c : Nat, (p.natAbs : Int) * b.natAbs + z.natAbs * a.natAbs ≤ c → (z.natAbs : Int) * (a - a.tdiv b * b).natAbs + ((p - a.tdiv b * z).natAbs : Int) * b.natAbs ≤ c := fun p z c hc => by
    have t := tri p (a.tdiv b) z
    have hbn : (0 : Int) ≤ b.natAbs := by omega
    have m := Int.mul_le_mul_of_nonneg_right t hbn
    rw [r1]
    have e1 : (z.natAbs : Int) * (a.natAbs - (a.tdiv b).natAbs * b.natAbs) = z.natAbs * a.natAbs - (a.tdiv b).natAbs * z.natAbs * b.natAbs := by grind
    have e2 : ((p.natAbs : Int) + (a.tdiv b).natAbs * z.natAbs) * b.natAbs = p.natAbs * b.natAbs + (a.tdiv b).natAbs * z.natAbs * b.natAbs := by grind
    rw [e1]
    rw [e2] at m
    omega
  have hbp : 0 < b.natAbs := by omega
  have n1 := key u x _ h.k1
  have n2 := key v y _ h.k2
  have bd : ∀ p q : Int, ∀ c : Nat, (q.natAbs : Int) * (a - a.tdiv b * b).natAbs + (p.natAbs : Int) * b.natAbs ≤ c → p.natAbs ≤ 1 ∨ (p.natAbs : Int) ≤ c := fun p q c hc => by
    right
    have : (p.natAbs : Int) * b.natAbs ≤ c := by
      have : (0 : Int) ≤ q.natAbs * (a - a.tdiv b * b).natAbs := by exact_mod_cast Nat.zero_le _
      omega
    exact_mod_cast mul_le_of this hbp
  refine ⟨h.e2, ?_, n1, n2, h.hx, h.hy, bd _ _ _ n1, bd _ _ _ n2, ?_, h.hb, ?_⟩
  · have := h.e1; have := h.e2; subst_vars; grind
  · rw [r2, tmod_abs, ← h.gcd, Nat.gcd_comm, ← Nat.gcd_rec, Nat.gcd_comm]
  · rw [r2, tmod_abs]
    have := Nat.mod_le a.natAbs b.natAbs
    have := h.ha
    omega
theorem bz_q {a0 b0 a b u x v y : Int} (h : Bz a0 b0 a b u x v y) (hb : b ≠ 0) (hA : a0.natAbs ≤ 4000) (hB : b0.natAbs ≤ 4000) :
    (-4000 ≤ a.tdiv b ∧ a.tdiv b ≤ 4000) ∧ (-4000 ≤ a.tdiv b * x ∧ a.tdiv b * x ≤ 4000) ∧ (-4000 ≤ a.tdiv b * y ∧ a.tdiv b * y ≤ 4000) ∧ (-4000 ≤ a.tdiv b * b ∧ a.tdiv b * b ≤ 4000) := by
  have hq : (a.tdiv b).natAbs * b.natAbs ≤ a.natAbs := by
    rw [Int.natAbs_tdiv]
    exact Nat.div_mul_le_self _ _
  have hbp : 0 < b.natAbs := by omega
  have hq1 : (a.tdiv b).natAbs ≤ a.natAbs := Nat.le_trans (Nat.le_mul_of_pos_right _ hbp) hq
  have one : ∀ z : Int, ∀ c : Nat, (z.natAbs : Int) * a.natAbs ≤ c → c ≤ 4000 → (a.tdiv b * z).natAbs ≤ 4000 := fun z c hz hc => by
    have h1 : z.natAbs * a.natAbs ≤ c := by exact_mod_cast hz
    rw [Int.natAbs_mul, Nat.mul_comm]
    exact Nat.le_trans (Nat.mul_le_mul_left _ hq1) (Nat.le_trans h1 hc)
  have p1 : (x.natAbs : Int) * a.natAbs ≤ b0.natAbs := by
    have := h.k1
    have : (0 : Int) ≤ u.natAbs * b.natAbs := by exact_mod_cast Nat.zero_le _
    omega
  have p2 : (y.natAbs : Int) * a.natAbs ≤ a0.natAbs := by
    have := h.k2
    have : (0 : Int) ≤ v.natAbs * b.natAbs := by exact_mod_cast Nat.zero_le _
    omega
  have q1 := one x _ p1 hB
  have q2 := one y _ p2 hA
  have q3 : (a.tdiv b * b).natAbs ≤ 4000 := by rw [Int.natAbs_mul]; exact Nat.le_trans hq h.ha
  have := h.ha
  omega
theorem bezout_l0 {L : Nat} {a0 b0 : Int} (hA : a0.natAbs ≤ 4000) (hB : b0.natAbs ≤ 4000) : ∀ (m : Nat) (a b u x v y : Int), Bz a0 b0 a b u x v y → b.natAbs < m →
    ∃ g p q, impl_bezout_l0 L m a b u v x y = some (g, p, q) ∧ spec_mvFull_l0 L m a b u v x y = some (if g < 0 then (-p, -q) else (p, q)) ∧
      p * a0 + q * b0 = g ∧ g.natAbs = Nat.gcd a0.natAbs b0.natAbs ∧ (-4000 ≤ p ∧ p ≤ 4000) ∧ (-4000 ≤ q ∧ q ≤ 4000)
  | 0, _, _, _, _, _, _, _, h => by omega
  | m + 1, a, b, u, x, v, y, h, hm => by
    by_cases hb : b = 0
    · subst hb
      have bu : -4000 ≤ u ∧ u ≤ 4000 := by have := h.hu; omega
      have bv : -4000 ≤ v ∧ v ≤ 4000 := by have := h.hv; omega
      refine ⟨a, u, v, ?_, ?_, h.e1, ?_, bu, bv⟩
      · simp only [impl_bezout_l0, ieq_eq, decide_true, Bool.not_true, cond_false]
      · simp only [spec_mvFull_l0, ieq_eq, ilt_eq, isub_eq, decide_true, Bool.not_true, cond_false]
        rw [wr_id (n := 0 - u) (by omega), wr_id (n := 0 - v) (by omega)]
        by_cases ha : a < 0
        · simp only [ha, decide_true, cond_true, if_true]; congr 2 <;> omega
        · simp only [ha, decide_false, cond_false, if_false]
      · have := h.gcd; simpa using this
    · obtain ⟨b1, b2, b3, b4⟩ := bz_q h hb hA hB
      have k1 := h.hu; have k2 := h.hv; have k3 := h.ha
      have s := bz_step h hb
      obtain ⟨r1, r2⟩ := rem_abs (a := a) hb
      have hlt : (a - a.tdiv b * b).natAbs < m := by
        rw [r2, tmod_abs]
        have := Nat.mod_lt a.natAbs (show 0 < b.natAbs by omega)
        omega
      obtain ⟨g, p, q, e1, e2, e3⟩ := bezout_l0 (L := L) hA hB m _ _ _ _ _ _ s hlt
      refine ⟨g, p, q, ?_, ?_, e3⟩
      · simp only [impl_bezout_l0, ieq_eq, hb, decide_false, Bool.not_false, cond_true, cond_false, iquo_eq, imul_eq, isub_eq]
        rw [wr_id (n := a.tdiv b) (by omega), wr_id (n := a.tdiv b * b) (by omega), wr_id (n := a.tdiv b * x) (by omega), wr_id (n := a.tdiv b * y) (by omega), wr_id (n := a - a.tdiv b * b) (by omega), wr_id (n := u - a.tdiv b * x) (by omega), wr_id (n := v - a.tdiv b * y) (by omega)]
        exact e1
      · simp only [spec_mvFull_l0, ieq_eq, hb, decide_false, Bool.not_false, cond_true, cond_false, iquo_eq, imul_eq, isub_eq]
        rw [wr_id (n := a.tdiv b) (by omega), wr_id (n := a.tdiv b * b) (by omega), wr_id (n := a.tdiv b * x) (by omega), wr_id (n := a.tdiv b * y) (by omega), wr_id (n := a - a.tdiv b * b) (by omega), wr_id (n := u - a.tdiv b * x) (by omega), wr_id (n := v - a.tdiv b * y) (by omega)]
        exact e2
theorem bezout_eq {L : Nat} {a b : Int} (hA : a.natAbs ≤ 4000) (hB : b.natAbs ≤ 4000) (hL : 4000 < L) :
    ∃ g p q, impl_bezout L a b = some (g, p, q) ∧ spec_mvFull L a b = some (if g < 0 then (-p, -q) else (p, q)) ∧
      p * a + q * b = g ∧ g.natAbs = Nat.gcd a.natAbs b.natAbs ∧ (-4000 ≤ p ∧ p ≤ 4000) ∧ (-4000 ≤ q ∧ q ≤ 4000) := by
  unfold impl_bezout spec_mvFull
  exact bezout_l0 hA hB L a b 1 0 0 1 (bz0 hA hB) (by omega)
end Go.AM
namespace Go.AM
theorem take_map_succ {β : Type} {a : List Pt} {h : Pt → β} {v : Int} (h0 : 0 ≤ v) (h1 : v < a.length) : (a.take (v + 1).toNat).map h = (a.take v.toNat).map h ++ [h (pt a v)] := by
  have e : (v + 1).toNat = v.toNat + 1 := by omega
  rw [e, List.take_add_one, pt_get h0 h1]
  simp
theorem mapLoop {β : Type} {f : Nat → Int → List β → Option (List β)} {h : Pt → β} {a : List Pt} (hstop : ∀ m w, f (m + 1) a.length w = some w)
    (hgo : ∀ m v w, 0 ≤ v → v < (a.length : Int) → w.length ≤ a.length → f (m + 1) v w = f m (v + 1) (w ++ [h (pt a v)])) : ∀ (m : Nat) (v : Int), 0 ≤ v → v ≤ a.length → (a.length : Int) - v < m → f m v ((a.take v.toNat).map h) = some (a.map h)
  | 0, v, _, _, hm => by omega
  | m + 1, v, h0, hv, hm => by
    by_cases hvn : v < (a.length : Int)
    · rw [hgo m v _ h0 hvn (by simp; omega), ← take_map_succ h0 hvn]
      exact mapLoop hstop hgo m (v + 1) (by omega) (by omega) (by omega)
    · have e : v = (a.length : Int) := by omega
      subst e
      rw [hstop]
      simp
def brg (A B C D : Int) (o p : Pt) : Pt := ⟨A * (p.x - o.x) + B * (p.y - o.y), C * (p.x - o.x) + D * (p.y - o.y)⟩
theorem spec_mvPeg_eq {L : Nat} {A B C D X Y x y : Int} (hA : -60000000000 ≤ A ∧ A ≤ 60000000000) (hB : -60000000000 ≤ B ∧ B ≤ 60000000000) (hC : -60000000000 ≤ C ∧ C ≤ 60000000000) (hD : -60000000000 ≤ D ∧ D ≤ 60000000000)
    (hX : -1000000000 ≤ X ∧ X ≤ 1000000000) (hY : -1000000000 ≤ Y ∧ Y ≤ 1000000000) (hx : -4000 ≤ x ∧ x ≤ 4000) (hy : -4000 ≤ y ∧ y ≤ 4000) :
    spec_mvPeg L A B C D X Y x y = some (A * x + B * y + X, C * x + D * y + Y) := by
  have h1 := mul_bd hA hx; have h2 := mul_bd hB hy; have h3 := mul_bd hC hx; have h4 := mul_bd hD hy
  unfold spec_mvPeg
  simp only [iadd_eq, imul_eq]
  rw [wr_id (n := A * x) (by omega), wr_id (n := B * y) (by omega), wr_id (n := C * x) (by omega), wr_id (n := D * y) (by omega), wr_id (n := A * x + B * y) (by omega), wr_id (n := C * x + D * y) (by omega), wr_id (n := A * x + B * y + X) (by omega), wr_id (n := C * x + D * y + Y) (by omega)]
theorem impl_bring_eq {L : Nat} {A B C D X Y x y : Int} : impl_Move_bring L A B C D X Y x y = spec_mvPeg L A B C D X Y x y := rfl
theorem less_eq {L : Nat} {p q : Pt} (hp : Nr p) (hq : Nr q) : impl_Peg_less L p.x p.y q.x q.y = some (p.x - q.x, p.y - q.y) := by
  have := sub_bd hp hq
  unfold impl_Peg_less
  simp only [isub_eq]
  rw [wr_id (by omega), wr_id (by omega)]
theorem spec_mvFrame_l0_eq {L : Nat} {a : List Pt} {o p1 p2 : Pt} {r : Int} {r1 r2 : Int × Int} {A B C D K : Int} (hin : ∀ i, Nr (pt a i)) (ho : Nr o) (hs : (a.length : Int) ≤ 1000)
    (hC : wr IntKind.i64 (isub 0 (wr IntKind.i64 (iquo (wr IntKind.i64 (isub 0 (wr IntKind.i64 (isub (Pt.y p2) (Pt.y o))))) r))) = C) (hD : wr IntKind.i64 (isub 0 (wr IntKind.i64 (iquo (wr IntKind.i64 (isub (Pt.x p1) (Pt.x o))) r))) = D)
    (hK : wr IntKind.i64 (iquo (wr IntKind.i64 (isub (irem (wr IntKind.i64 (iadd (irem (Prod.fst r2) (wr IntKind.i64 (isub 0 (Prod.snd r2)))) (wr IntKind.i64 (isub 0 (Prod.snd r2))))) (wr IntKind.i64 (isub 0 (Prod.snd r2)))) (Prod.fst r2))) (wr IntKind.i64 (isub 0 (Prod.snd r2)))) = K)
    (hA : wr IntKind.i64 (iadd (Prod.fst r1) (wr IntKind.i64 (imul K C))) = A) (hB : wr IntKind.i64 (iadd (Prod.snd r1) (wr IntKind.i64 (imul K D))) = B)
    (bA : -60000000000 ≤ A ∧ A ≤ 60000000000) (bB : -60000000000 ≤ B ∧ B ≤ 60000000000) (bC : -60000000000 ≤ C ∧ C ≤ 60000000000) (bD : -60000000000 ≤ D ∧ D ≤ 60000000000) (hL : (a.length : Int) < L) :
    spec_mvFrame_l0 L a o p1 p2 r r1 r2 L 0 [] = some (a.map (brg A B C D o)) := by
  have := mapLoop (f := spec_mvFrame_l0 L a o p1 p2 r r1 r2) (h := brg A B C D o) (a := a) (fun m w => by
    simp only [spec_mvFrame_l0, ilt_eq, ilen_mapep, Int.lt_irrefl, decide_false, cond_false]) (fun m v w hv0 h1 hw => by
    have hb := sub_bd (hin v) ho
    simp only [spec_mvFrame_l0, ilt_eq, ilen_mapep, h1, decide_true, cond_true, gbind_eq, lget_pt hv0 h1, Option.bind_some, hC, hD, hK, hA, hB]
    simp only [isub_eq]
    rw [wr_id (n := (pt a v).x - o.x) (by omega), wr_id (n := (pt a v).y - o.y) (by omega), spec_mvPeg_eq bA bB bC bD (by omega) (by omega) (by omega) (by omega)]
    simp only [Option.bind_some, iadd_eq, ilen_eq, List.length_cons, List.length_nil, fits_s (n := (w.length : Int) + ((0 + 1 : Nat) : Int)) (b := 16) (by omega), cond_true, lcat_eq, wr_id (n := v + 1) (by omega)]
    simp [brg]) L 0 (by omega) (by omega) (by omega)
  simpa using this
theorem spec_mvFrame_l1_eq {L : Nat} {a : List Pt} {o p1 p2 : Pt} {r : Int} {r1 r2 : Int × Int} {A B C D K : Int} (hin : ∀ i, Nr (pt a i)) (ho : Nr o) (hs : (a.length : Int) ≤ 1000)
    (hC : wr IntKind.i64 (iquo (wr IntKind.i64 (isub 0 (wr IntKind.i64 (isub (Pt.y p2) (Pt.y o))))) r) = C) (hD : wr IntKind.i64 (iquo (wr IntKind.i64 (isub (Pt.x p1) (Pt.x o))) r) = D)
    (hK : wr IntKind.i64 (iquo (wr IntKind.i64 (isub (irem (wr IntKind.i64 (iadd (irem (Prod.fst r2) (Prod.snd r2)) (Prod.snd r2))) (Prod.snd r2)) (Prod.fst r2))) (Prod.snd r2)) = K)
    (hA : wr IntKind.i64 (iadd (Prod.fst r1) (wr IntKind.i64 (imul K C))) = A) (hB : wr IntKind.i64 (iadd (Prod.snd r1) (wr IntKind.i64 (imul K D))) = B)
    (bA : -60000000000 ≤ A ∧ A ≤ 60000000000) (bB : -60000000000 ≤ B ∧ B ≤ 60000000000) (bC : -60000000000 ≤ C ∧ C ≤ 60000000000) (bD : -60000000000 ≤ D ∧ D ≤ 60000000000) (hL : (a.length : Int) < L) :
    spec_mvFrame_l1 L a o p1 p2 r r1 r2 L 0 [] = some (a.map (brg A B C D o)) := by
  have := mapLoop (f := spec_mvFrame_l1 L a o p1 p2 r r1 r2) (h := brg A B C D o) (a := a) (fun m w => by
    simp only [spec_mvFrame_l1, ilt_eq, ilen_mapep, Int.lt_irrefl, decide_false, cond_false]) (fun m v w hv0 h1 hw => by
    have hb := sub_bd (hin v) ho
    simp only [spec_mvFrame_l1, ilt_eq, ilen_mapep, h1, decide_true, cond_true, gbind_eq, lget_pt hv0 h1, Option.bind_some, hC, hD, hK, hA, hB]
    simp only [isub_eq]
    rw [wr_id (n := (pt a v).x - o.x) (by omega), wr_id (n := (pt a v).y - o.y) (by omega), spec_mvPeg_eq bA bB bC bD (by omega) (by omega) (by omega) (by omega)]
    simp only [Option.bind_some, iadd_eq, ilen_eq, List.length_cons, List.length_nil, fits_s (n := (w.length : Int) + ((0 + 1 : Nat) : Int)) (b := 16) (by omega), cond_true, lcat_eq, wr_id (n := v + 1) (by omega)]
    simp [brg]) L 0 (by omega) (by omega) (by omega)
  simpa using this
theorem impl_frame_l0_eq {L : Nat} {a : List Pt} {o : Pt} {r : Int × Int} {r1 : Int × Int × Int} {r3 : Int × Int} {A B C D K : Int} (h0 : lget a 0 = some o) (hin : ∀ i, Nr (pt a i)) (ho : Nr o) (hs : (a.length : Int) ≤ 1000)
    (hC : wr IntKind.i64 (isub 0 (wr IntKind.i64 (iquo (wr IntKind.i64 (isub 0 (Prod.snd r))) (wr IntKind.i64 (isub 0 (Prod.fst r1)))))) = C) (hD : wr IntKind.i64 (isub 0 (wr IntKind.i64 (iquo (Prod.fst r) (wr IntKind.i64 (isub 0 (Prod.fst r1)))))) = D)
    (hK : wr IntKind.i64 (iquo (wr IntKind.i64 (isub (irem (wr IntKind.i64 (iadd (irem (Prod.fst r3) (wr IntKind.i64 (isub 0 (Prod.snd r3)))) (wr IntKind.i64 (isub 0 (Prod.snd r3))))) (wr IntKind.i64 (isub 0 (Prod.snd r3)))) (Prod.fst r3))) (wr IntKind.i64 (isub 0 (Prod.snd r3)))) = K)
    (hA : wr IntKind.i64 (iadd (wr IntKind.i64 (isub 0 (Prod.fst (Prod.snd r1)))) (wr IntKind.i64 (imul K C))) = A) (hB : wr IntKind.i64 (iadd (wr IntKind.i64 (isub 0 (Prod.snd (Prod.snd r1)))) (wr IntKind.i64 (imul K D))) = B)
    (bA : -60000000000 ≤ A ∧ A ≤ 60000000000) (bB : -60000000000 ≤ B ∧ B ≤ 60000000000) (bC : -60000000000 ≤ C ∧ C ≤ 60000000000) (bD : -60000000000 ≤ D ∧ D ≤ 60000000000) (hL : (a.length : Int) < L) :
    impl_frame_l0 L a r r1 r3 L 0 [] = some (a.map (brg A B C D o)) := by
  have := mapLoop (f := impl_frame_l0 L a r r1 r3) (h := brg A B C D o) (a := a) (fun m w => by
    simp only [impl_frame_l0, ilt_eq, ilen_mapep, Int.lt_irrefl, decide_false, cond_false]) (fun m v w hv0 h1 hw => by
    have hb := sub_bd (hin v) ho
    simp only [impl_frame_l0, ilt_eq, ilen_mapep, h1, decide_true, cond_true, gbind_eq, lget_pt hv0 h1, Option.bind_some, hC, hD, hK, hA, hB, h0]
    rw [less_eq (hin v) ho]
    simp only [Option.bind_some, impl_bring_eq]
    rw [spec_mvPeg_eq bA bB bC bD (by omega) (by omega) (by omega) (by omega)]
    simp only [Option.bind_some, iadd_eq, ilen_eq, List.length_cons, List.length_nil, fits_s (n := (w.length : Int) + ((0 + 1 : Nat) : Int)) (b := 16) (by omega), cond_true, lcat_eq, wr_id (n := v + 1) (by omega)]
    simp [brg]) L 0 (by omega) (by omega) (by omega)
  simpa using this
theorem impl_frame_l1_eq {L : Nat} {a : List Pt} {o : Pt} {r : Int × Int} {r1 : Int × Int × Int} {r3 : Int × Int} {A B C D K : Int} (h0 : lget a 0 = some o) (hin : ∀ i, Nr (pt a i)) (ho : Nr o) (hs : (a.length : Int) ≤ 1000)
    (hC : wr IntKind.i64 (iquo (wr IntKind.i64 (isub 0 (Prod.snd r))) (wr IntKind.i64 (isub 0 (Prod.fst r1)))) = C) (hD : wr IntKind.i64 (iquo (Prod.fst r) (wr IntKind.i64 (isub 0 (Prod.fst r1)))) = D)
    (hK : wr IntKind.i64 (iquo (wr IntKind.i64 (isub (irem (wr IntKind.i64 (iadd (irem (Prod.fst r3) (Prod.snd r3)) (Prod.snd r3))) (Prod.snd r3)) (Prod.fst r3))) (Prod.snd r3)) = K)
    (hA : wr IntKind.i64 (iadd (wr IntKind.i64 (isub 0 (Prod.fst (Prod.snd r1)))) (wr IntKind.i64 (imul K C))) = A) (hB : wr IntKind.i64 (iadd (wr IntKind.i64 (isub 0 (Prod.snd (Prod.snd r1)))) (wr IntKind.i64 (imul K D))) = B)
    (bA : -60000000000 ≤ A ∧ A ≤ 60000000000) (bB : -60000000000 ≤ B ∧ B ≤ 60000000000) (bC : -60000000000 ≤ C ∧ C ≤ 60000000000) (bD : -60000000000 ≤ D ∧ D ≤ 60000000000) (hL : (a.length : Int) < L) :
    impl_frame_l1 L a r r1 r3 L 0 [] = some (a.map (brg A B C D o)) := by
  have := mapLoop (f := impl_frame_l1 L a r r1 r3) (h := brg A B C D o) (a := a) (fun m w => by
    simp only [impl_frame_l1, ilt_eq, ilen_mapep, Int.lt_irrefl, decide_false, cond_false]) (fun m v w hv0 h1 hw => by
    have hb := sub_bd (hin v) ho
    simp only [impl_frame_l1, ilt_eq, ilen_mapep, h1, decide_true, cond_true, gbind_eq, lget_pt hv0 h1, Option.bind_some, hC, hD, hK, hA, hB, h0]
    rw [less_eq (hin v) ho]
    simp only [Option.bind_some, impl_bring_eq]
    rw [spec_mvPeg_eq bA bB bC bD (by omega) (by omega) (by omega) (by omega)]
    simp only [Option.bind_some, iadd_eq, ilen_eq, List.length_cons, List.length_nil, fits_s (n := (w.length : Int) + ((0 + 1 : Nat) : Int)) (b := 16) (by omega), cond_true, lcat_eq, wr_id (n := v + 1) (by omega)]
    simp [brg]) L 0 (by omega) (by omega) (by omega)
  simpa using this
theorem impl_frame_l2_eq {L : Nat} {a : List Pt} {o : Pt} {r : Int × Int} {r1 : Int × Int × Int} {r9 : Int × Int} {A B C D K : Int} (h0 : lget a 0 = some o) (hin : ∀ i, Nr (pt a i)) (ho : Nr o) (hs : (a.length : Int) ≤ 1000)
    (hC : wr IntKind.i64 (isub 0 (wr IntKind.i64 (iquo (wr IntKind.i64 (isub 0 (Prod.snd r))) (Prod.fst r1)))) = C) (hD : wr IntKind.i64 (isub 0 (wr IntKind.i64 (iquo (Prod.fst r) (Prod.fst r1)))) = D)
    (hK : wr IntKind.i64 (iquo (wr IntKind.i64 (isub (irem (wr IntKind.i64 (iadd (irem (Prod.fst r9) (wr IntKind.i64 (isub 0 (Prod.snd r9)))) (wr IntKind.i64 (isub 0 (Prod.snd r9))))) (wr IntKind.i64 (isub 0 (Prod.snd r9)))) (Prod.fst r9))) (wr IntKind.i64 (isub 0 (Prod.snd r9)))) = K)
    (hA : wr IntKind.i64 (iadd (Prod.fst (Prod.snd r1)) (wr IntKind.i64 (imul K C))) = A) (hB : wr IntKind.i64 (iadd (Prod.snd (Prod.snd r1)) (wr IntKind.i64 (imul K D))) = B)
    (bA : -60000000000 ≤ A ∧ A ≤ 60000000000) (bB : -60000000000 ≤ B ∧ B ≤ 60000000000) (bC : -60000000000 ≤ C ∧ C ≤ 60000000000) (bD : -60000000000 ≤ D ∧ D ≤ 60000000000) (hL : (a.length : Int) < L) :
    impl_frame_l2 L a r r1 r9 L 0 [] = some (a.map (brg A B C D o)) := by
  have := mapLoop (f := impl_frame_l2 L a r r1 r9) (h := brg A B C D o) (a := a) (fun m w => by
    simp only [impl_frame_l2, ilt_eq, ilen_mapep, Int.lt_irrefl, decide_false, cond_false]) (fun m v w hv0 h1 hw => by
    have hb := sub_bd (hin v) ho
    simp only [impl_frame_l2, ilt_eq, ilen_mapep, h1, decide_true, cond_true, gbind_eq, lget_pt hv0 h1, Option.bind_some, hC, hD, hK, hA, hB, h0]
    rw [less_eq (hin v) ho]
    simp only [Option.bind_some, impl_bring_eq]
    rw [spec_mvPeg_eq bA bB bC bD (by omega) (by omega) (by omega) (by omega)]
    simp only [Option.bind_some, iadd_eq, ilen_eq, List.length_cons, List.length_nil, fits_s (n := (w.length : Int) + ((0 + 1 : Nat) : Int)) (b := 16) (by omega), cond_true, lcat_eq, wr_id (n := v + 1) (by omega)]
    simp [brg]) L 0 (by omega) (by omega) (by omega)
  simpa using this
theorem impl_frame_l3_eq {L : Nat} {a : List Pt} {o : Pt} {r : Int × Int} {r1 : Int × Int × Int} {r9 : Int × Int} {A B C D K : Int} (h0 : lget a 0 = some o) (hin : ∀ i, Nr (pt a i)) (ho : Nr o) (hs : (a.length : Int) ≤ 1000)
    (hC : wr IntKind.i64 (iquo (wr IntKind.i64 (isub 0 (Prod.snd r))) (Prod.fst r1)) = C) (hD : wr IntKind.i64 (iquo (Prod.fst r) (Prod.fst r1)) = D)
    (hK : wr IntKind.i64 (iquo (wr IntKind.i64 (isub (irem (wr IntKind.i64 (iadd (irem (Prod.fst r9) (Prod.snd r9)) (Prod.snd r9))) (Prod.snd r9)) (Prod.fst r9))) (Prod.snd r9)) = K)
    (hA : wr IntKind.i64 (iadd (Prod.fst (Prod.snd r1)) (wr IntKind.i64 (imul K C))) = A) (hB : wr IntKind.i64 (iadd (Prod.snd (Prod.snd r1)) (wr IntKind.i64 (imul K D))) = B)
    (bA : -60000000000 ≤ A ∧ A ≤ 60000000000) (bB : -60000000000 ≤ B ∧ B ≤ 60000000000) (bC : -60000000000 ≤ C ∧ C ≤ 60000000000) (bD : -60000000000 ≤ D ∧ D ≤ 60000000000) (hL : (a.length : Int) < L) :
    impl_frame_l3 L a r r1 r9 L 0 [] = some (a.map (brg A B C D o)) := by
  have := mapLoop (f := impl_frame_l3 L a r r1 r9) (h := brg A B C D o) (a := a) (fun m w => by
    simp only [impl_frame_l3, ilt_eq, ilen_mapep, Int.lt_irrefl, decide_false, cond_false]) (fun m v w hv0 h1 hw => by
    have hb := sub_bd (hin v) ho
    simp only [impl_frame_l3, ilt_eq, ilen_mapep, h1, decide_true, cond_true, gbind_eq, lget_pt hv0 h1, Option.bind_some, hC, hD, hK, hA, hB, h0]
    rw [less_eq (hin v) ho]
    simp only [Option.bind_some, impl_bring_eq]
    rw [spec_mvPeg_eq bA bB bC bD (by omega) (by omega) (by omega) (by omega)]
    simp only [Option.bind_some, iadd_eq, ilen_eq, List.length_cons, List.length_nil, fits_s (n := (w.length : Int) + ((0 + 1 : Nat) : Int)) (b := 16) (by omega), cond_true, lcat_eq, wr_id (n := v + 1) (by omega)]
    simp [brg]) L 0 (by omega) (by omega) (by omega)
  simpa using this
end Go.AM
namespace Go.AM
structure Fr (a : List Pt) (A B C D g b d : Int) : Prop where
  e1 : brg A B C D (pt a 0) (pt a 1) = ⟨g, 0⟩
  e2 : brg A B C D (pt a 0) (pt a 2) = ⟨b, d⟩
  g0 : 0 < g
  b0 : 0 ≤ b
  bd : b < d
  gg : g = step (pt a 0) (pt a 1)
  det : A * D - B * C = 1 ∨ A * D - B * C = -1
  bA : -60000000000 ≤ A ∧ A ≤ 60000000000
  bB : -60000000000 ≤ B ∧ B ≤ 60000000000
  bC : -2000 ≤ C ∧ C ≤ 2000
  bD : -2000 ≤ D ∧ D ≤ 2000
theorem shear_eq {tx ty : Int} (hty : 0 < ty) (bx : -17000000 ≤ tx ∧ tx ≤ 17000000) (by_ : ty ≤ 9000000) :
    ∃ b K : Int, wr .i64 (iquo (wr .i64 (isub (irem (wr .i64 (iadd (irem tx ty) ty)) ty) tx)) ty) = K ∧ 0 ≤ b ∧ b < ty ∧ tx + K * ty = b ∧ (-27000000 ≤ K ∧ K ≤ 27000000) := by
  have h1 : -ty < tx.tmod ty ∧ tx.tmod ty < ty := by
    have := Int.tmod_lt_of_pos tx hty
    have h2 := Int.natAbs_tmod tx ty
    have h3 := Nat.mod_lt tx.natAbs (show 0 < ty.natAbs by omega)
    omega
  have h2 : (tx.tmod ty + ty).tmod ty = tx % ty := by
    rw [Int.tmod_eq_emod_of_nonneg (by omega), Int.add_emod_right]
    conv => rhs; rw [← Int.tmod_add_mul_tdiv tx ty, Int.add_mul_emod_self_left]
  have h3 := Int.emod_nonneg tx (show ty ≠ 0 by omega)
  have h4 := Int.emod_lt_of_pos tx hty
  have h5 := Int.mul_ediv_add_emod tx ty
  have h6 : (tx % ty - tx).tdiv ty = -(tx / ty) := by
    have : tx % ty - tx = -(tx / ty) * ty := by rw [Int.neg_mul, Int.mul_comm]; omega
    rw [this, Int.mul_tdiv_cancel _ (by omega)]
  have h7 : -17000000 ≤ tx / ty ∧ tx / ty ≤ 17000000 := by
    constructor
    · have := Int.ediv_le_ediv hty bx.1
      have h8 : -17000000 ≤ (-17000000 : Int) / ty := by
        rw [Int.le_ediv_iff_mul_le hty]; omega
      omega
    · have := Int.ediv_le_ediv hty bx.2
      have h8 : (17000000 : Int) / ty ≤ 17000000 := Int.ediv_le_self _ (by omega)
      omega
  refine ⟨tx % ty, -(tx / ty), ?_, h3, h4, ?_, by omega⟩
  · simp only [irem_eq, iadd_eq, isub_eq, iquo_eq]
    rw [wr_id (n := tx.tmod ty + ty) (by omega), h2, wr_id (n := tx % ty - tx) (by omega), h6, wr_id (by omega)]
  · rw [Int.neg_mul, Int.mul_comm]; omega
theorem exact_div {G z : Int} (hG : 0 < G) (h : G ∣ z) : z.tdiv G * G = z := Int.tdiv_mul_cancel h
theorem frame_eq {L : Nat} {a : List Pt} (hn : 3 ≤ (a.length : Int)) (hs : (a.length : Int) ≤ 1000) (hin : ∀ i, Nr (pt a i)) (ht : turn (pt a 0) (pt a 1) (pt a 2) ≠ 0) (hL : 5000 < L) :
    ∃ A B C D g b d, spec_mvFrame L a = some (a.map (brg A B C D (pt a 0))) ∧ impl_frame L a = some (a.map (brg A B C D (pt a 0))) ∧ Fr a A B C D g b d := by
  have l0 := lget_pt (a := a) (i := 0) (by omega) (by omega)
  have l1 := lget_pt (a := a) (i := 1) (by omega) (by omega)
  have l2 := lget_pt (a := a) (i := 2) (by omega) (by omega)
  have n0 := hin 0; have n1 := hin 1; have n2 := hin 2
  have s1 := sub_bd n1 n0
  have s2 := sub_bd n2 n0
  have hst : pt a 0 ≠ pt a 1 := fun e => ht (by rw [e]; unfold turn; grind)
  have hG := step_pos hst
  have hstd := step_dvd (pt a 0) (pt a 1)
  have hsb := step_bd n0 n1
  obtain ⟨gz, p, q, hb1, hb2, hb3, hb4, hb5, hb6⟩ := bezout_eq (L := L) (a := (pt a 1).x - (pt a 0).x) (b := (pt a 1).y - (pt a 0).y) (by omega) (by omega) (by omega)
  have hGz : (gz.natAbs : Int) = step (pt a 0) (pt a 1) := by
    rw [hb4]; unfold step
    rw [show ((pt a 1).x - (pt a 0).x).natAbs = ((pt a 0).x - (pt a 1).x).natAbs by omega, show ((pt a 1).y - (pt a 0).y).natAbs = ((pt a 0).y - (pt a 1).y).natAbs by omega]
  generalize hGd : step (pt a 0) (pt a 1) = G at *
  generalize hX : (pt a 1).x - (pt a 0).x = X at *
  generalize hY : (pt a 1).y - (pt a 0).y = Y at *
  generalize hWx : (pt a 2).x - (pt a 0).x = wx at *
  generalize hWy : (pt a 2).y - (pt a 0).y = wy at *
  have hturn : turn (pt a 0) (pt a 1) (pt a 2) = X * wy - Y * wx := by unfold turn; rw [hX, hY, hWx, hWy]
  have dX : X.tdiv G * G = X := exact_div hG hstd.1
  have dY : (-Y).tdiv G * G = -Y := exact_div hG (Int.dvd_neg.2 hstd.2)
  have bX : -2000 ≤ X.tdiv G ∧ X.tdiv G ≤ 2000 := tdiv_bd (A := 2000) (by omega)
  have bY : -2000 ≤ (-Y).tdiv G ∧ (-Y).tdiv G ≤ 2000 := tdiv_bd (A := 2000) (by omega)
  generalize hd0 : X.tdiv G = d0 at *
  generalize hc0 : (-Y).tdiv G = c0 at *
  obtain ⟨u, v, huv, hspec, hu, hv⟩ : ∃ u v : Int, u * X + v * Y = G ∧ (if gz < 0 then (-p, -q) else (p, q)) = (u, v) ∧ (-4000 ≤ u ∧ u ≤ 4000) ∧ (-4000 ≤ v ∧ v ≤ 4000) := by
    by_cases hneg : gz < 0
    · refine ⟨-p, -q, ?_, by simp [hneg], by omega, by omega⟩
      have : -p * X + -q * Y = -gz := by rw [← hb3]; grind
      omega
    · exact ⟨p, q, by omega, by simp [hneg], hb5, hb6⟩
  rw [hspec] at hb2
  have m1 := mul_bd hu s2.1; have m2 := mul_bd hv s2.2; have m3 := mul_bd bY s2.1; have m4 := mul_bd bX s2.2
  have hT3 : G * (c0 * wx + d0 * wy) = X * wy - Y * wx := by grind
  have hty0 : c0 * wx + d0 * wy ≠ 0 := fun e => ht (by rw [hturn, ← hT3, e]; simp)
  have hdet : u * d0 - v * c0 = 1 := by
    have : G * (u * d0 - v * c0) = G * 1 := by grind
    exact Int.eq_of_mul_eq_mul_left (by omega) this
  generalize htx : u * wx + v * wy = tx at *
  generalize htyd : c0 * wx + d0 * wy = ty at *
  have fin : ∀ (C D t K b : Int), ((C = c0 ∧ D = d0 ∧ t = ty) ∨ (C = -c0 ∧ D = -d0 ∧ t = -ty)) → 0 < t → 0 ≤ b → b < t → tx + K * t = b → (-27000000 ≤ K ∧ K ≤ 27000000) →
      Fr a (u + K * C) (v + K * D) C D G b t ∧ (-54000000000 ≤ K * C ∧ K * C ≤ 54000000000) ∧ (-54000000000 ≤ K * D ∧ K * D ≤ 54000000000) := by
    intro C D t K b hCD ht0 hb0 hbt hK bK
    have bC : -2000 ≤ C ∧ C ≤ 2000 := by omega
    have bD : -2000 ≤ D ∧ D ≤ 2000 := by omega
    have k1 := mul_bd bK bC; have k2 := mul_bd bK bD
    have q1 : C * X + D * Y = 0 := by
      have z : c0 * X + d0 * Y = 0 := by
        have : G * (c0 * X + d0 * Y) = 0 := by grind
        rcases Int.mul_eq_zero.1 this with h | h
        · omega
        · exact h
      rcases hCD with ⟨rfl, rfl, _⟩ | ⟨rfl, rfl, _⟩
      · exact z
      · rw [Int.neg_mul, Int.neg_mul]; omega
    have q2 : C * wx + D * wy = t := by
      rcases hCD with ⟨rfl, rfl, rfl⟩ | ⟨rfl, rfl, rfl⟩
      · exact htyd
      · rw [Int.neg_mul, Int.neg_mul]; omega
    refine ⟨⟨?_, ?_, hG, hb0, hbt, hGd.symm, ?_, by omega, by omega, bC, bD⟩, by omega, by omega⟩
    · unfold brg; rw [hX, hY]
      congr 1
      have : (u + K * C) * X + (v + K * D) * Y = u * X + v * Y + K * (C * X + D * Y) := by grind
      rw [this, q1, huv]; omega
    · unfold brg; rw [hWx, hWy]
      congr 1
      have : (u + K * C) * wx + (v + K * D) * wy = u * wx + v * wy + K * (C * wx + D * wy) := by grind
      rw [this, q2, htx, hK]
    · have : (u + K * C) * D - (v + K * D) * C = u * D - v * C := by grind
      rw [this]
      rcases hCD with ⟨rfl, rfl, _⟩ | ⟨rfl, rfl, _⟩
      · exact .inl hdet
      · right; rw [Int.mul_neg, Int.mul_neg]; omega
  have wY : wr IntKind.i64 (isub 0 (wr IntKind.i64 (isub (pt a 1).y (pt a 0).y))) = -Y := by
    simp only [isub_eq]; rw [hY, wr_id (n := Y) (by omega), wr_id (n := 0 - Y) (by omega)]; omega
  have wX : wr IntKind.i64 (isub (pt a 1).x (pt a 0).x) = X := by simp only [isub_eq]; rw [hX, wr_id (by omega)]
  have wY1 : wr IntKind.i64 (isub (pt a 1).y (pt a 0).y) = Y := by simp only [isub_eq]; rw [hY, wr_id (by omega)]
  have wWx : wr IntKind.i64 (isub (pt a 2).x (pt a 0).x) = wx := by simp only [isub_eq]; rw [hWx, wr_id (by omega)]
  have wWy : wr IntKind.i64 (isub (pt a 2).y (pt a 0).y) = wy := by simp only [isub_eq]; rw [hWy, wr_id (by omega)]
  have wc : wr IntKind.i64 (iquo (-Y) G) = c0 := by simp only [iquo_eq]; rw [hc0, wr_id (by omega)]
  have wd : wr IntKind.i64 (iquo X G) = d0 := by simp only [iquo_eq]; rw [hd0, wr_id (by omega)]
  have wneg : ∀ z : Int, -100000000 ≤ z ∧ z ≤ 100000000 → wr IntKind.i64 (isub 0 z) = -z := fun z hz => by simp only [isub_eq]; rw [wr_id (by omega)]; omega
  have hpeg : spec_mvPeg L u v c0 d0 0 0 wx wy = some (tx, ty) := by
    rw [spec_mvPeg_eq (by omega) (by omega) (by omega) (by omega) (by omega) (by omega) (by omega) (by omega), Int.add_zero, Int.add_zero, htx, htyd]
  have hcom : spec_pgCommon L X Y = some G := by
    have := spec_pgStep_eq (L := L) (p := pt a 1) (q := pt a 0) n1 n0 (by omega)
    unfold spec_pgStep at this
    simp only [isub_eq, gbind_eq] at this
    rw [hX, hY, wr_id (n := X) (by omega), wr_id (n := Y) (by omega)] at this
    cases hc : spec_pgCommon L X Y with
    | none => rw [hc] at this; cases this
    | some z =>
      rw [hc] at this
      simp only [Option.bind_some, Option.some.injEq] at this
      rw [this, ← hGd]
      unfold step
      congr 1
      rw [show ((pt a 1).x - (pt a 0).x).natAbs = ((pt a 0).x - (pt a 1).x).natAbs by omega, show ((pt a 1).y - (pt a 0).y).natAbs = ((pt a 0).y - (pt a 1).y).natAbs by omega]
  have w40 : wr IntKind.i64 (isub 0 Y) = -Y := wneg Y (by omega)
  have hG0 : decide (G = 0) = false := by simp; omega
  have hfit : fits (a.length : Int) 16 = true := fits_s (by omega)
  have hz0 : lrep 0 (⟨0, 0⟩ : Pt) = [] := by simp [lrep_eq]
  have hle0 : (a.length : Int) < L := by omega
  have wu : ∀ z : Int, -4000 ≤ z ∧ z ≤ 4000 → wr IntKind.i64 (isub 0 z) = -z := fun z hz => wneg z (by omega)
  rcases Int.lt_or_gt_of_ne hty0 with hneg | hpos
  · obtain ⟨b, K, hKe, hb0, hbt, hK, bK⟩ := shear_eq (tx := tx) (ty := -ty) (by omega) (by omega) (by omega)
    obtain ⟨fr, k1, k2⟩ := fin (-c0) (-d0) (-ty) K b (.inr ⟨rfl, rfl, rfl⟩) (by omega) hb0 hbt hK bK
    have wty := wneg ty (by omega)
    have wA : wr IntKind.i64 (iadd u (wr IntKind.i64 (imul K (-c0)))) = u + K * -c0 := by
      simp only [iadd_eq, imul_eq]; rw [wr_id (n := K * -c0) (by omega), wr_id (by omega)]
    have wB : wr IntKind.i64 (iadd v (wr IntKind.i64 (imul K (-d0)))) = v + K * -d0 := by
      simp only [iadd_eq, imul_eq]; rw [wr_id (n := K * -d0) (by omega), wr_id (by omega)]
    have hlt : decide (ty < 0) = true := by simp [hneg]
    have hny : decide (-ty = 0) = false := by simp; omega
    refine ⟨_, _, _, _, _, _, _, ?_, ?_, fr⟩
    · unfold spec_mvFrame
      simp only [l0, l1, l2, gbind_eq, Option.bind_some, wX, wY1, w40, hcom, hb2, wc, wd, wWx, wWy, hpeg, ieq_eq, ilt_eq, hG0, cond_false, hlt, cond_true, wty, hny]
      exact spec_mvFrame_l0_eq (r := G) (r1 := (u, v)) (r2 := (tx, ty)) (A := u + K * -c0) (B := v + K * -d0) (C := -c0) (D := -d0) (K := K) hin n0 hs (by rw [wY, wc]; exact wneg c0 (by omega)) (by rw [wX, wd]; exact wneg d0 (by omega)) (by simp only [wty]; exact hKe) wA wB (by omega) (by omega) (by omega) (by omega) hle0
    · unfold impl_frame
      simp only [l0, l1, l2, gbind_eq, Option.bind_some, less_eq n1 n0, less_eq n2 n0, hX, hY, hWx, hWy, hb1]
      by_cases hgn : gz < 0
      · simp only [hgn, if_true, Prod.mk.injEq] at hspec
        have hgz : -gz = G := by omega
        have w1 : wr IntKind.i64 (isub 0 gz) = G := by rw [wneg gz (by omega), hgz]
        have w2 : wr IntKind.i64 (isub 0 p) = u := by rw [wu p hb5]; exact hspec.1
        have w3 : wr IntKind.i64 (isub 0 q) = v := by rw [wu q hb6]; exact hspec.2
        have w4 : wr IntKind.i64 (isub 0 Y) = -Y := wneg Y (by omega)
        simp only [ilt_eq, hgn, decide_true, cond_true, w1, w2, w3, w4, wc, wd, ieq_eq, hG0, cond_false, impl_bring_eq, hpeg, Option.bind_some, hlt, wty, hny, ilen_mapep, ile_eq, Int.le_refl, show (0 : Int) ≤ a.length by omega, Bool.and_self, hfit, hz0]
        exact impl_frame_l0_eq (A := u + K * -c0) (B := v + K * -d0) (C := -c0) (D := -d0) (K := K) l0 hin n0 hs (by simp only [w1, w4, wc]; exact wneg c0 (by omega)) (by simp only [w1, wd]; exact wneg d0 (by omega)) (by simp only [wty]; exact hKe) (by simp only [w2]; exact wA) (by simp only [w3]; exact wB) (by omega) (by omega) (by omega) (by omega) hle0
      · simp only [hgn, if_false, Prod.mk.injEq] at hspec
        have hgz : gz = G := by omega
        have w4 : wr IntKind.i64 (isub 0 Y) = -Y := wneg Y (by omega)
        obtain ⟨rfl, rfl⟩ := hspec
        subst hgz
        simp only [ilt_eq, hgn, decide_false, w4, wc, wd, ieq_eq, hG0, cond_false, impl_bring_eq, hpeg, Option.bind_some, hlt, cond_true, wty, hny, ilen_mapep, ile_eq, Int.le_refl, show (0 : Int) ≤ a.length by omega, decide_true, Bool.and_self, hfit, hz0]
        exact impl_frame_l2_eq (A := p + K * -c0) (B := q + K * -d0) (C := -c0) (D := -d0) (K := K) l0 hin n0 hs (by simp only [w4, wc]; exact wneg c0 (by omega)) (by simp only [wd]; exact wneg d0 (by omega)) (by simp only [wty]; exact hKe) wA wB (by omega) (by omega) (by omega) (by omega) hle0
  · obtain ⟨b, K, hKe, hb0, hbt, hK, bK⟩ := shear_eq (tx := tx) (ty := ty) (by omega) (by omega) (by omega)
    obtain ⟨fr, k1, k2⟩ := fin c0 d0 ty K b (.inl ⟨rfl, rfl, rfl⟩) (by omega) hb0 hbt hK bK
    have wA : wr IntKind.i64 (iadd u (wr IntKind.i64 (imul K c0))) = u + K * c0 := by
      simp only [iadd_eq, imul_eq]; rw [wr_id (n := K * c0) (by omega), wr_id (by omega)]
    have wB : wr IntKind.i64 (iadd v (wr IntKind.i64 (imul K d0))) = v + K * d0 := by
      simp only [iadd_eq, imul_eq]; rw [wr_id (n := K * d0) (by omega), wr_id (by omega)]
    have hlt : decide (ty < 0) = false := by simp; omega
    have hny : decide (ty = 0) = false := by simp; omega
    refine ⟨_, _, _, _, _, _, _, ?_, ?_, fr⟩
    · unfold spec_mvFrame
      simp only [l0, l1, l2, gbind_eq, Option.bind_some, wX, wY1, w40, hcom, hb2, wc, wd, wWx, wWy, hpeg, ieq_eq, ilt_eq, hG0, cond_false, hlt, hny]
      exact spec_mvFrame_l1_eq (r := G) (r1 := (u, v)) (r2 := (tx, ty)) (A := u + K * c0) (B := v + K * d0) (C := c0) (D := d0) (K := K) hin n0 hs (by rw [wY, wc]) (by rw [wX, wd]) hKe wA wB (by omega) (by omega) (by omega) (by omega) hle0
    · unfold impl_frame
      simp only [l0, l1, l2, gbind_eq, Option.bind_some, less_eq n1 n0, less_eq n2 n0, hX, hY, hWx, hWy, hb1]
      by_cases hgn : gz < 0
      · simp only [hgn, if_true, Prod.mk.injEq] at hspec
        have hgz : -gz = G := by omega
        have w1 : wr IntKind.i64 (isub 0 gz) = G := by rw [wneg gz (by omega), hgz]
        have w2 : wr IntKind.i64 (isub 0 p) = u := by rw [wu p hb5]; exact hspec.1
        have w3 : wr IntKind.i64 (isub 0 q) = v := by rw [wu q hb6]; exact hspec.2
        have w4 : wr IntKind.i64 (isub 0 Y) = -Y := wneg Y (by omega)
        simp only [ilt_eq, hgn, decide_true, cond_true, w1, w2, w3, w4, wc, wd, ieq_eq, hG0, cond_false, impl_bring_eq, hpeg, Option.bind_some, hlt, hny, ilen_mapep, ile_eq, Int.le_refl, show (0 : Int) ≤ a.length by omega, Bool.and_self, hfit, hz0]
        exact impl_frame_l1_eq (A := u + K * c0) (B := v + K * d0) (C := c0) (D := d0) (K := K) l0 hin n0 hs (by simp only [w1, w4, wc]) (by simp only [w1, wd]) hKe (by simp only [w2]; exact wA) (by simp only [w3]; exact wB) (by omega) (by omega) (by omega) (by omega) hle0
      · simp only [hgn, if_false, Prod.mk.injEq] at hspec
        have hgz : gz = G := by omega
        have w4 : wr IntKind.i64 (isub 0 Y) = -Y := wneg Y (by omega)
        obtain ⟨rfl, rfl⟩ := hspec
        subst hgz
        simp only [ilt_eq, hgn, decide_false, w4, wc, wd, ieq_eq, hG0, cond_false, impl_bring_eq, hpeg, Option.bind_some, hlt, cond_true, hny, ilen_mapep, ile_eq, Int.le_refl, show (0 : Int) ≤ a.length by omega, decide_true, Bool.and_self, hfit, hz0]
        exact impl_frame_l3_eq (A := p + K * c0) (B := q + K * d0) (C := c0) (D := d0) (K := K) l0 hin n0 hs (by simp only [w4, wc]) (by simp only [wd]) hKe wA wB (by omega) (by omega) (by omega) (by omega) hle0
end Go.AM
namespace Go.AM
def Lx (n : Int) (a b : List Pt) : Prop := ∃ i, 0 ≤ i ∧ i < n ∧ (∀ j, 0 ≤ j → j < i → pt a j = pt b j) ∧ Less (pt a i) (pt b i)
theorem Lx.trans {n : Int} {a b c : List Pt} (h : Lx n a b) (k : Lx n b c) : Lx n a c := by
  obtain ⟨i, i0, i1, i2, i3⟩ := h
  obtain ⟨j, j0, j1, j2, j3⟩ := k
  rcases Int.lt_trichotomy i j with h | rfl | h
  · exact ⟨i, i0, i1, fun q q0 q1 => (i2 q q0 q1).trans (j2 q q0 (by omega)), by rw [← j2 i i0 h]; exact i3⟩
  · exact ⟨i, i0, i1, fun q q0 q1 => (i2 q q0 q1).trans (j2 q q0 q1), i3.trans j3⟩
  · exact ⟨j, j0, j1, fun q q0 q1 => (i2 q q0 (by omega)).trans (j2 q q0 q1), by rw [i2 j j0 h]; exact j3⟩
theorem Lx.irrefl {n : Int} {a : List Pt} : ¬ Lx n a a := fun ⟨i, _, _, _, h⟩ => Less.irrefl _ h
theorem list_ext_pt {a b : List Pt} (hl : a.length = b.length) (h : ∀ i, 0 ≤ i → i < (a.length : Int) → pt a i = pt b i) : a = b := by
  apply List.ext_getElem hl
  intro i h1 h2
  have k := h i (by omega) (by omega)
  have e1 := pt_get (a := a) (i := i) (by omega) (by omega)
  have e2 := pt_get (a := b) (i := i) (by omega) (by omega)
  rw [Int.toNat_natCast] at e1 e2
  have f1 := List.getElem?_eq_getElem h1
  have f2 := List.getElem?_eq_getElem h2
  rw [f1] at e1; rw [f2] at e2
  simp only [Option.some.injEq] at e1 e2
  rw [e1, e2, k]
structure Fa (a : List Pt) : Prop where
  lo : 3 ≤ (a.length : Int)
  hi : (a.length : Int) ≤ 1000
  nr : ∀ i, Nr (pt a i)
  turn : ∀ i, turn (pt a i) (pt a (i + 1)) (pt a (i + 2)) ≠ 0
theorem turn_rev (a b c : Pt) : turn c b a = - turn a b c := by unfold turn; grind
theorem Fa.ne {a : List Pt} (h : Fa a) : a ≠ [] := by intro e; subst e; have := h.lo; simp at this
theorem Fa.tour {a : List Pt} (h : Fa a) {k s : Int} (hs : s = 1 ∨ s = -1) : Fa (tour a k s a.length) := by
  have hl := h.lo
  have hpt : ∀ i, pt (AM.tour a k s a.length) i = pt a (k + (i % (a.length : Int)) * s) := fun i => pt_tour h.ne
  refine ⟨by rw [tour_len]; exact h.lo, by rw [tour_len]; exact h.hi, fun i => by rw [hpt]; exact h.nr _, fun i => ?_⟩
  have hm : ∀ i j : Int, pt (AM.tour a k s a.length) (i + j) = pt a (k + (i % (a.length : Int) + j) * s) := fun i j => by
    rw [hpt]
    apply pt_congr
    have e : (i + j) % (a.length : Int) = (i % a.length + j) % a.length := by rw [Int.emod_add_emod]
    rw [e]
    rw [Int.add_emod, Int.mul_emod, Int.emod_emod_of_dvd _ (Int.dvd_refl _), ← Int.mul_emod, ← Int.add_emod]
  have h0 := hm i 0
  rw [Int.add_zero, Int.add_zero] at h0
  rw [h0, hm i 1, hm i 2]
  rcases hs with rfl | rfl
  · have := h.turn (k + (i % (a.length : Int)) * 1)
    rwa [show k + (i % (a.length : Int)) * 1 + 1 = k + (i % (a.length : Int) + 1) * 1 by omega, show k + (i % (a.length : Int)) * 1 + 2 = k + (i % (a.length : Int) + 2) * 1 by omega] at this
  · have := h.turn (k + (i % (a.length : Int) + 2) * -1)
    rw [show k + (i % (a.length : Int) + 2) * -1 + 1 = k + (i % (a.length : Int) + 1) * -1 by omega, show k + (i % (a.length : Int) + 2) * -1 + 2 = k + (i % (a.length : Int)) * -1 by omega, turn_rev] at this
    omega
noncomputable def FR (L : Nat) (a : List Pt) (k s : Int) : List Pt := (spec_mvFrame L (tour a k s a.length)).getD []
theorem FR_eq {L : Nat} {a : List Pt} (h : Fa a) {k s : Int} (hs : s = 1 ∨ s = -1) (hL : 5000 < L) :
    spec_mvFrame L (tour a k s a.length) = some (FR L a k s) ∧ impl_frame L (tour a k s a.length) = some (FR L a k s) ∧ ((FR L a k s).length = a.length) ∧
    ∃ A B C D g b d, FR L a k s = (tour a k s a.length).map (brg A B C D (pt (tour a k s a.length) 0)) ∧ Fr (tour a k s a.length) A B C D g b d := by
  have ht := h.tour (k := k) hs
  obtain ⟨A, B, C, D, g, b, d, h1, h2, h3⟩ := frame_eq (L := L) ht.lo ht.hi ht.nr (by have := ht.turn 0; simpa using this) hL
  have e : FR L a k s = (tour a k s a.length).map (brg A B C D (pt (tour a k s a.length) 0)) := by unfold FR; rw [h1]; rfl
  exact ⟨by rw [h1, e], by rw [h2, e], by rw [e, List.length_map, tour_len], A, B, C, D, g, b, d, e, h3⟩
theorem tour_mod {a : List Pt} {k k' s : Int} (h : k % (a.length : Int) = k' % (a.length : Int)) (n : Nat) : tour a k s n = tour a k' s n :=
  tour_ext fun j _ => pt_congr (by rw [Int.add_emod, h, ← Int.add_emod])
theorem tour_id {a : List Pt} (hn : a ≠ []) : tour a 0 1 a.length = a := by
  refine list_ext_pt (tour_len _ _ _ _) fun i h0 h1 => ?_
  rw [pt_tour hn]
  rw [tour_len] at h1
  rw [Int.emod_eq_of_lt h0 h1]
  congr 1; omega
end Go.AM
namespace Go.AM
def IsKind (L : Nat) (a f : List Pt) : Prop := (∃ k s, (s = 1 ∨ s = -1) ∧ f = FR L a k s) ∧ ∀ k s, (s = 1 ∨ s = -1) → ¬ Lx a.length (FR L a k s) f
theorem IsKind.len {L : Nat} {a f : List Pt} (ha : Fa a) (hL : 5000 < L) (h : IsKind L a f) : f.length = a.length := by
  obtain ⟨⟨k, s, hs, rfl⟩, _⟩ := h
  exact (FR_eq ha hs hL).2.2.1
end Go.AM
namespace Go.AM
open Classical
def it (a : List Int) (i : Int) : Int := a.getD i.toNat 0
theorem Good_.fa {a : List Pt} (h : Good_ a) : Fa a := by
  have lo := h.lo; have hi := h.hi
  have hne : a ≠ [] := by intro e; subst e; simp at lo
  refine ⟨lo, by omega, fun i => (in_all h.isIn hne i).nr, fun i => ?_⟩
  have q1 := Int.emod_nonneg i (show (a.length : Int) ≠ 0 by omega)
  have q2 := Int.emod_lt_of_pos i (show 0 < (a.length : Int) by omega)
  have := h.turn (i % a.length) q1 q2
  have e : ∀ j : Int, pt a (i % a.length + j) = pt a (i + j) := fun j => pt_congr (by rw [Int.emod_add_emod])
  have e0 : pt a (i % a.length) = pt a i := pt_mod a i
  rwa [e, e, e0] at this
end Go.AM
namespace Go.AM
end Go.AM
namespace Go.AM
end Go.AM
namespace Go.AM
end Go.AM
namespace Go.AM
end Go.AM
namespace Go.AM
def aff (α β γ δ u v : Int) (p : Pt) : Pt := ⟨α * p.x + β * p.y + u, γ * p.x + δ * p.y + v⟩
theorem pt_maps {a : List Pt} (hn : a ≠ []) (f : Pt → Pt) (i : Int) : pt (a.map f) i = f (pt a i) := by
  have hl : 0 < (a.length : Int) := by have := List.length_pos_iff.2 hn; omega
  have h0 := Int.emod_nonneg i (show (a.length : Int) ≠ 0 by omega)
  have h1 := Int.emod_lt_of_pos i hl
  have h2 : (i % (a.length : Int)).toNat < a.length := by omega
  unfold pt
  simp [h2]
end Go.AM
namespace Go.AM
end Go.AM
namespace Go.AM
theorem tour_tours {a : List Pt} (hn : a ≠ []) {k s k' s' : Int} : tour (tour a k s a.length) k' s' a.length = tour a (k + k' * s) (s * s') a.length := by
  unfold tour
  refine List.map_congr_left fun j _ => ?_
  have e := pt_tour' hn (k := k) (s := s) (k' + (j : Int) * s')
  unfold tour at e
  rw [e]
  congr 1
  grind
end Go.AM
namespace Go.AM
end Go.AM
namespace Go.AM
theorem sm_congr' {f g : Int → Int} (h : ∀ i, f i = g i) (k : Nat) : sm f k = sm g k := by rw [show f = g from funext h]
theorem sm_smul (c : Int) (f : Int → Int) : ∀ k : Nat, sm (fun i => c * f i) k = c * sm f k
  | 0 => by simp [sm]
  | k + 1 => by rw [sm, sm, sm_smul c f k]; grind
end Go.AM
namespace Go.AM
def By (a : List Int) : Prop := ∀ x ∈ a, 0 ≤ x ∧ x ≤ 255
theorem ilen_eU (a : List Int) : ilen (List.map eU a) = (a.length : Int) := by rw [ilen_eq]; simp
theorem iand_bd {x : Int} : 0 ≤ iand IntKind.u64 x 255 ∧ iand IntKind.u64 x 255 ≤ 255 := by
  rw [iand_eq]
  have h : (BitVec.ofInt (IntKind.bits .u64) x &&& BitVec.ofInt (IntKind.bits .u64) 255).toNat ≤ 255 := by
    rw [BitVec.toNat_and]
    refine Nat.le_trans Nat.and_le_right ?_
    decide
  generalize (BitVec.ofInt (IntKind.bits .u64) x &&& BitVec.ofInt (IntKind.bits .u64) 255).toNat = n at *
  have e : IntKind.wrap .u64 (n : Int) = n := by
    simp only [IntKind.wrap, IntKind.signed, IntKind.bits]
    simp
    omega
  rw [e]; omega
theorem next_dr {L : Nat} {a : List Int} {t s : Int} (hb : By a) (ht : 0 ≤ t ∧ t ≤ 1000000) : ∃ r s', spec_l1Cur_next L a t s = some (r, t + 1, s') ∧ 0 ≤ r ∧ r ≤ 255 := by
  unfold spec_l1Cur_next
  have wt : wr IntKind.i64 (iadd t 1) = t + 1 := by rw [iadd_eq, wr_id (by omega)]
  have low : ∀ X : Int, 0 ≤ wr IntKind.i64 (iand IntKind.u64 X 255) ∧ wr IntKind.i64 (iand IntKind.u64 X 255) ≤ 255 := fun X => by
    have := iand_bd (x := X)
    rw [wr_id (by omega)]; exact this
  simp only [wt, ilen_eU, ilt_eq, ile_eq, gbind_eq, show ¬ (40 : Int) < 0 by omega, decide_false, cond_false]
  by_cases h : t < (a.length : Int)
  · have hlt : t.toNat < a.length := by omega
    have hg : lget a t = some a[t.toNat] := by rw [lget_eq, if_pos ht.1, List.getElem?_eq_getElem hlt]
    have hp := hb a[t.toNat] (List.getElem_mem hlt)
    simp only [h, decide_true, cond_true, hg, Option.bind_some]
    by_cases h2 : t + 1 ≤ (a.length : Int)
    · simp only [h2, decide_true, cond_true]
      exact ⟨_, _, rfl, by rw [wr_id (by omega)]; exact hp⟩
    · simp only [h2, decide_false, cond_false]
      exact ⟨_, _, rfl, low _⟩
  · simp only [h, decide_false, cond_false]
    by_cases h2 : t + 1 ≤ (a.length : Int)
    · simp only [h2, decide_true, cond_true]
      exact ⟨_, _, rfl, by omega, by omega⟩
    · simp only [h2, decide_false, cond_false]
      exact ⟨_, _, rfl, low _⟩
theorem pick_dr {L : Nat} {a : List Int} {t s n : Int} (hb : By a) (ht : 0 ≤ t ∧ t ≤ 900000) (hn : 1 ≤ n ∧ n ≤ 1000000) : ∃ r t' s', spec_l1Cur_pick L a t s n = some (r, t', s') ∧ (0 ≤ r ∧ r < n) ∧ t ≤ t' ∧ t' ≤ t + 2 := by
  unfold spec_l1Cur_pick
  simp only [ile_eq, ilt_eq, ieq_eq, gbind_eq]
  by_cases h1 : n ≤ 1
  · simp only [h1, decide_true, cond_true]
    exact ⟨0, t, s, rfl, by omega, by omega, by omega⟩
  · simp only [h1, decide_false, cond_false]
    obtain ⟨r, s1, e1, r0, r1⟩ := next_dr (L := L) (s := s) hb (t := t) (by omega)
    simp only [e1, Option.bind_some, show ¬ n = 0 by omega, decide_false, cond_false]
    have key : ∀ x : Int, 0 ≤ x → 0 ≤ irem x n ∧ irem x n < n := fun x hx => by
      rw [irem_eq, Int.tmod_eq_emod_of_nonneg hx]
      exact ⟨Int.emod_nonneg _ (by omega), Int.emod_lt_of_pos _ (by omega)⟩
    by_cases h2 : 200 < n
    · simp only [h2, decide_true, cond_true]
      obtain ⟨q, s2, e2, q0, q1⟩ := next_dr (L := L) (s := s1) hb (t := t + 1) (by omega)
      simp only [e2, Option.bind_some]
      refine ⟨_, _, _, rfl, key _ ?_, by omega, by omega⟩
      rw [imul_eq, iadd_eq, wr_id (n := r * 256) (by omega), wr_id (by omega)]; omega
    · simp only [h2, decide_false, cond_false]
      exact ⟨_, _, _, rfl, key r r0, by omega, by omega⟩
theorem one_dr {L : Nat} {a : List Int} {t s n : Int} (hb : By a) (ht : 0 ≤ t ∧ t ≤ 900000) (hn : 1 ≤ n ∧ n ≤ 1000000) : ∃ r t' s', spec_l1Cur_one L a t s n = some (r, t', s') ∧ t ≤ t' ∧ t' ≤ t + 2 := by
  obtain ⟨r, t', s', e, _, h1, h2⟩ := pick_dr (L := L) (s := s) hb ht hn
  unfold spec_l1Cur_one
  simp only [e, gbind_eq, Option.bind_some]
  exact ⟨_, _, _, rfl, h1, h2⟩
theorem among_dr {L : Nat} {a w : List Int} {t s : Int} (hb : By a) (ht : 0 ≤ t ∧ t ≤ 900000) (hw : 1 ≤ (w.length : Int) ∧ (w.length : Int) ≤ 1000) : ∃ r t' s', spec_l1Cur_among_v2 L a t s w = some (r, t', s', w) ∧ r ∈ w ∧ t ≤ t' ∧ t' ≤ t + 2 := by
  have hl : ilen (List.map eI w) = (w.length : Int) := by rw [ilen_eq]; simp
  obtain ⟨r, t', s', e, ⟨r0, r1⟩, h1, h2⟩ := pick_dr (L := L) (s := s) (n := (w.length : Int)) hb ht (by omega)
  unfold spec_l1Cur_among_v2
  have hlt : r.toNat < w.length := by omega
  have hg : lget w r = some w[r.toNat] := by rw [lget_eq, if_pos r0, List.getElem?_eq_getElem hlt]
  simp only [hl, e, gbind_eq, Option.bind_some, ile_eq, ilt_eq, r0, r1, decide_true, Bool.and_self, cond_true, hg]
  exact ⟨_, _, _, rfl, List.getElem_mem hlt, h1, h2⟩
theorem surePeg_dr {L : Nat} {a : List Int} {t s n : Int} (hb : By a) (ht : 0 ≤ t ∧ t ≤ 800000) (hn : 1 ≤ n ∧ n ≤ 20) : ∃ x y t' s', spec_l1Cur_surePeg L a t s n = some (x, y, t', s') ∧ In ⟨x, y⟩ ∧ t ≤ t' ∧ t' ≤ t + 4 := by
  have wn : wr IntKind.i64 (iadd (wr IntKind.i64 (imul 2 n)) 1) = 2 * n + 1 := by
    rw [imul_eq, iadd_eq, wr_id (n := 2 * n) (by omega), wr_id (by omega)]
  obtain ⟨r, t1, s1, e1, ⟨r0, r1⟩, h1, h2⟩ := pick_dr (L := L) (s := s) (n := 2 * n + 1) hb (t := t) (by omega) (by omega)
  obtain ⟨q, t2, s2, e2, ⟨q0, q1⟩, h3, h4⟩ := pick_dr (L := L) (s := s1) (n := 2 * n + 1) hb (t := t1) (by omega) (by omega)
  unfold spec_l1Cur_surePeg
  simp only [wn, e1, e2, gbind_eq, Option.bind_some, isub_eq]
  rw [wr_id (n := r - n) (by omega), wr_id (n := q - n) (by omega)]
  exact ⟨_, _, _, _, rfl, by unfold In; simp only; omega, by omega, by omega⟩
theorem peg_dr {L : Nat} {a : List Int} {t s : Int} (hb : By a) (ht : 0 ≤ t ∧ t ≤ 700000) : ∃ x y t' s', spec_l1Cur_peg L a t s = some (x, y, t', s') ∧ Wd ⟨x, y⟩ ∧ t ≤ t' ∧ t' ≤ t + 8 := by
  obtain ⟨b, t1, s1, e1, h1, h2⟩ := one_dr (L := L) (s := s) (n := 12) hb (t := t) (by omega) (by omega)
  unfold spec_l1Cur_peg
  simp only [e1, gbind_eq, Option.bind_some]
  cases b with
  | true =>
    obtain ⟨x, t2, s2, e2, m2, h3, h4⟩ := among_dr (L := L) (s := s1) (w := [0, 40, -40, 41, 4611686018427387904]) hb (t := t1) (by omega) (by simp)
    obtain ⟨y, t3, s3, e3, m3, h5, h6⟩ := among_dr (L := L) (s := s2) (w := [0, 1, 40, -41, -9223372036854775808]) hb (t := t2) (by omega) (by simp)
    simp only [cond_true, e2, e3, Option.bind_some]
    refine ⟨_, _, _, _, rfl, ?_, by omega, by omega⟩
    simp only [List.mem_cons, List.not_mem_nil, or_false] at m2 m3
    unfold Wd; simp only; omega
  | false =>
    obtain ⟨x, y, t2, s2, e2, m2, h3, h4⟩ := surePeg_dr (L := L) (s := s1) (n := 6) hb (t := t1) (by omega) (by omega)
    simp only [cond_false, e2, Option.bind_some]
    refine ⟨_, _, _, _, rfl, ?_, by omega, by omega⟩
    unfold In at m2; unfold Wd; simp only at *; omega
theorem pt_mem2 {a : List Pt} (hn : a ≠ []) (i : Int) : pt a i ∈ a := by
  have hl : 0 < (a.length : Int) := by have := List.length_pos_iff.2 hn; omega
  have := pt_get (a := a) (i := i % a.length) (Int.emod_nonneg _ (by omega)) (Int.emod_lt_of_pos _ hl)
  rw [pt_congr (Int.emod_emod_of_dvd _ (Int.dvd_refl _))] at this
  exact List.mem_of_getElem? this
structure Pl (w : List Pt) (n : Int) : Prop where
  len : (w.length : Int) ≤ n
  lo : 3 ≤ (w.length : Int)
  ins : ∀ p ∈ w, In p
theorem surePoly_l0 {L : Nat} {a : List Int} {n : Int} (hb : By a) (hn : 1 ≤ n ∧ n ≤ 20) (hL : 1000 < L) : ∀ (k m : Nat) (t s : Int) (w : List Pt), k < m → k ≤ 10 → (0 ≤ t ∧ t ≤ 500000 - 10 * k) → Pl w (30 - k) → w ≠ [] →
    ∃ r t' s', spec_l1Cur_surePolygon_l0 L a n m k t s w = some (r, t', s') ∧ Pl r 30 ∧ r ≠ [] ∧ t ≤ t' ∧ t' ≤ t + 10 * k + 2 := by
  intro k
  induction k with
  | zero =>
    intro m t s w hm _ ht hw hne
    obtain ⟨m, rfl⟩ : ∃ q, m = q + 1 := ⟨m - 1, by omega⟩
    obtain ⟨b, t1, s1, e1, h1, h2⟩ := one_dr (L := L) (s := s) (n := 3) hb (t := t) (by omega) (by omega)
    have hl := hw.len
    rw [spec_l1Cur_surePolygon_l0]
    simp only [ilt_eq, show ¬ (0 : Int) < ((0 : Nat) : Int) by omega, decide_false, cond_false, e1, gbind_eq, Option.bind_some]
    cases b with
    | true =>
      simp only [cond_true, spec_pgBack_eq (L := L) hne (show (w.length : Int) ≤ 900000 by omega) (by omega), Option.bind_some]
      refine ⟨_, _, _, rfl, ⟨by rw [tour_len]; omega, by rw [tour_len]; exact hw.lo, fun p hp => ?_⟩, fun e => hne (by have := congrArg List.length e; rw [tour_len] at this; exact List.eq_nil_of_length_eq_zero (by simpa using this)), by omega, by omega⟩
      unfold tour at hp
      obtain ⟨j, _, rfl⟩ := List.mem_map.1 hp
      exact hw.ins _ (pt_mem2 hne _)
    | false =>
      simp only [cond_false]
      exact ⟨_, _, _, rfl, ⟨by omega, hw.lo, hw.ins⟩, hne, by omega, by omega⟩
  | succ k ih =>
    intro m t s w hm hk ht hw hne
    obtain ⟨m, rfl⟩ : ∃ q, m = q + 1 := ⟨m - 1, by omega⟩
    have hl := hw.len
    have hpos : 0 < (w.length : Int) := by have := List.length_pos_iff.2 hne; omega
    obtain ⟨r, t1, s1, e1, ⟨r0, r1⟩, h1, h2⟩ := pick_dr (L := L) (s := s) (n := (w.length : Int)) hb (t := t) (by omega) (by omega)
    obtain ⟨x, y, t2, s2, e2, m2, h3, h4⟩ := surePeg_dr (L := L) (s := s1) (n := n) hb (t := t1) (by omega) hn
    have w1 : wr IntKind.i64 (iadd 1 r) = 1 + r := by rw [iadd_eq, wr_id (by omega)]
    have wk : wr IntKind.i64 (isub ((k + 1 : Nat) : Int) 1) = (k : Int) := by rw [isub_eq, wr_id (by omega)]; omega
    have hall : ∀ (u v : List AV), (u.length : Int) ≤ 100 → (v.length : Int) ≤ 100 → fits (iadd (ilen u) (ilen v)) 16 = true := fun u v hu hv => by
      rw [ilen_eq, ilen_eq, iadd_eq]; exact fits_s (by omega)
    rw [spec_l1Cur_surePolygon_l0]
    simp only [ilt_eq, show (0 : Int) < ((k + 1 : Nat) : Int) by omega, decide_true, cond_true, ilen_mapep, e1, e2, gbind_eq, Option.bind_some, w1, wk, ile_eq, show (0 : Int) ≤ 1 + r by omega, show 1 + r ≤ (w.length : Int) by omega, Bool.and_self]
    rw [hall _ _ (by simp) (by rw [lsub_eq]; simp; omega), cond_true, hall _ _ (by rw [lcat_eq, lsub_eq]; simp; omega) (by simp), cond_true, hall _ _ (by rw [lcat_eq, lcat_eq, lsub_eq]; simp; omega) (by rw [lsub_eq]; simp; omega), cond_true]
    simp only [spec_pgGood_eq (show 20 < L by omega), Option.bind_some]
    have hw' : Pl (lcat (lcat (lcat [] (lsub w 0 (iadd 0 (1 + r)))) [(⟨x, y⟩ : Pt)]) (lsub w (1 + r) (iadd (1 + r) (isub (w.length : Int) (1 + r))))) (30 - k) := by
      simp only [lcat_eq, lsub_eq, iadd_eq, isub_eq]
      have hlo := hw.lo
      refine ⟨by simp; omega, by simp; omega, fun p hp => ?_⟩
      simp only [List.nil_append, List.mem_append, List.mem_singleton] at hp
      rcases hp with (hp | hp) | hp
      · exact hw.ins p (List.mem_of_mem_drop (List.mem_of_mem_take hp))
      · rw [hp]; exact m2
      · exact hw.ins p (List.mem_of_mem_drop (List.mem_of_mem_take hp))
    have hne' : lcat (lcat (lcat [] (lsub w 0 (iadd 0 (1 + r)))) [(⟨x, y⟩ : Pt)]) (lsub w (1 + r) (iadd (1 + r) (isub (w.length : Int) (1 + r)))) ≠ [] := by
      simp [lcat_eq]
    generalize lcat (lcat (lcat [] (lsub w 0 (iadd 0 (1 + r)))) [(⟨x, y⟩ : Pt)]) (lsub w (1 + r) (iadd (1 + r) (isub (w.length : Int) (1 + r)))) = w' at *
    by_cases g : Good_ w'
    · simp only [g, decide_true, cond_true]
      obtain ⟨q, t3, s3, e3, g1, g2, g3, g4⟩ := ih m t2 s2 w' (by omega) (by omega) (by omega) hw' hne'
      exact ⟨q, t3, s3, e3, g1, g2, by omega, by omega⟩
    · simp only [g, decide_false, cond_false]
      obtain ⟨q, t3, s3, e3, g1, g2, g3, g4⟩ := ih m t2 s2 w (by omega) (by omega) (by omega) ⟨by omega, hw.lo, hw.ins⟩ hne
      exact ⟨q, t3, s3, e3, g1, g2, by omega, by omega⟩
theorem surePoly_dr {L : Nat} {a : List Int} {t s n c : Int} (hb : By a) (ht : 0 ≤ t ∧ t ≤ 400000) (hn : 1 ≤ n ∧ n ≤ 20) (hc : 2 ≤ c ∧ c ≤ 10) (hL : 1000 < L) : ∃ r t' s', spec_l1Cur_surePolygon L a t s n c = some (r, t', s') ∧ Pl r 30 ∧ r ≠ [] ∧ t ≤ t' ∧ t' ≤ t + 200 := by
  obtain ⟨x, t1, s1, e1, x0, h1, h2⟩ := pick_dr (L := L) (s := s) (n := n) hb (t := t) (by omega) (by omega)
  obtain ⟨y, t2, s2, e2, y0, h3, h4⟩ := pick_dr (L := L) (s := s1) (n := n + 1) hb (t := t1) (by omega) (by omega)
  obtain ⟨z, t3, s3, e3, z0, h5, h6⟩ := pick_dr (L := L) (s := s2) (n := n) hb (t := t2) (by omega) (by omega)
  obtain ⟨k, t4, s4, e4, k0, h7, h8⟩ := pick_dr (L := L) (s := s3) (n := c - 1) hb (t := t3) (by omega) (by omega)
  unfold spec_l1Cur_surePolygon
  have wn : wr IntKind.i64 (iadd n 1) = n + 1 := by rw [iadd_eq, wr_id (by omega)]
  have wc : wr IntKind.i64 (isub c 1) = c - 1 := by rw [isub_eq, wr_id (by omega)]
  have wx : wr IntKind.i64 (iadd 1 x) = 1 + x := by rw [iadd_eq, wr_id (by omega)]
  have wz : wr IntKind.i64 (iadd 1 z) = 1 + z := by rw [iadd_eq, wr_id (by omega)]
  simp only [e1, wn, e2, e3, wc, e4, gbind_eq, Option.bind_some, wx, wz]
  obtain ⟨q, t5, s5, e5, g1, g2, g3, g4⟩ := surePoly_l0 (L := L) hb hn hL k.toNat L t4 s4 [⟨0, 0⟩, ⟨1 + x, 0⟩, ⟨y, 1 + z⟩] (by omega) (by omega) (by omega)
    ⟨by simp; omega, by simp, fun p hp => by
      simp only [List.mem_cons, List.not_mem_nil, or_false] at hp
      rcases hp with rfl | rfl | rfl <;> unfold In <;> simp only <;> omega⟩ (by simp)
  rw [Int.toNat_of_nonneg k0.1] at e5
  exact ⟨q, t5, s5, e5, g1, g2, by omega, by omega⟩
theorem polygon_dr {L : Nat} {a : List Int} {t s n : Int} (hb : By a) (ht : 0 ≤ t ∧ t ≤ 300000) (hn : 1 ≤ n ∧ n ≤ 20) (hL : 1000 < L) : ∃ r t' s', spec_l1Cur_polygon L a t s n = some (r, t', s') ∧ (r.length : Int) ≤ 30 ∧ (∀ p ∈ r, Wd p) ∧ t ≤ t' ∧ t' ≤ t + 300 := by
  have inwd : ∀ p, In p → Wd p := fun p h => by unfold In at h; unfold Wd; omega
  obtain ⟨w, t1, s1, e1, hw, hne, h1, h2⟩ := surePoly_dr (L := L) (s := s) (n := n) (c := 8) hb (t := t) (by omega) hn (by omega) hL
  obtain ⟨k, t2, s2, e2, k0, h3, h4⟩ := pick_dr (L := L) (s := s1) (n := 16) hb (t := t1) (by omega) (by omega)
  have hpos : 0 < (w.length : Int) := by have := List.length_pos_iff.2 hne; omega
  have hl := hw.len
  unfold spec_l1Cur_polygon
  simp only [e1, e2, gbind_eq, Option.bind_some, ilen_mapep, ieq_eq]
  by_cases c0 : k = 0
  · obtain ⟨i, t3, s3, e3, i0, h5, h6⟩ := pick_dr (L := L) (s := s2) (n := (w.length : Int)) hb (t := t2) (by omega) (by omega)
    obtain ⟨x, y, t4, s4, e4, hp, h7, h8⟩ := peg_dr (L := L) (s := s3) hb (t := t3) (by omega)
    simp only [c0, decide_true, cond_true, e3, e4, Option.bind_some, ile_eq, ilt_eq, i0.1, i0.2, Bool.and_self, lget_pt i0.1 i0.2]
    refine ⟨_, _, _, rfl, by rw [lset_eq]; simp; omega, fun p hp' => ?_, by omega, by omega⟩
    rw [lset_eq] at hp'
    rcases List.mem_or_eq_of_mem_set hp' with h | h
    · exact inwd p (hw.ins p h)
    · rw [h]; exact hp
  · by_cases c1 : k = 1
    · obtain ⟨i, t3, s3, e3, i0, h5, h6⟩ := pick_dr (L := L) (s := s2) (n := 3) hb (t := t2) (by omega) (by omega)
      simp only [c0, c1, decide_true, decide_false, cond_true, cond_false, e3, Option.bind_some, ile_eq, i0.1, Bool.true_and]
      have hlo := hw.lo
      by_cases hi : i ≤ (w.length : Int)
      · simp only [hi, decide_true, cond_true]
        refine ⟨_, _, _, rfl, by rw [lsub_eq]; simp; omega, fun p hp' => ?_, by omega, by omega⟩
        rw [lsub_eq] at hp'
        exact inwd p (hw.ins p (List.mem_of_mem_drop (List.mem_of_mem_take hp')))
      · omega
    · by_cases c2 : k = 2
      · simp only [c0, c1, c2, decide_true, decide_false, cond_true, cond_false]
        refine ⟨_, _, _, rfl, by simp, fun p hp' => ?_, by omega, by omega⟩
        simp only [List.mem_cons, List.not_mem_nil, or_false] at hp'
        rcases hp' with rfl | rfl | rfl | rfl <;> unfold Wd <;> simp only <;> omega
      · simp only [c0, c1, c2, decide_false, cond_false]
        exact ⟨_, _, _, rfl, by omega, fun p hp => inwd p (hw.ins p hp), by omega, by omega⟩
end Go.AM
namespace Go.AM
theorem less_pos {a b : Pt} : Less a b ↔ Pos (df a b) := by unfold Less Pos df; simp only; omega
theorem turn_df (a b c : Pt) : turn a b c = cross (df a b) (df a c) := by unfold turn cross df; rfl
theorem tp0 {u v w : Pt} (hu : Pos u) (hv : Pos v) (hw : Pos w) (h1 : 0 ≤ cross u v) (h2 : 0 ≤ cross v w) : 0 ≤ cross u w := by
  obtain ⟨e1, _⟩ := three_way u v w
  rw [cross_anti u w] at e1
  rcases Int.lt_or_le (cross u w) 0 with h | h
  · exfalso
    have ux : 0 ≤ u.x := by unfold Pos at hu; omega
    have vx : 0 ≤ v.x := by unfold Pos at hv; omega
    have wx : 0 ≤ w.x := by unfold Pos at hw; omega
    have m1 := Int.mul_nonneg h2 ux
    have m2 := Int.mul_nonneg h1 wx
    by_cases hvx : v.x = 0
    · have hvy : 0 < v.y := by unfold Pos at hv; omega
      have c2 : cross v w = -(v.y * w.x) := by unfold cross; rw [hvx]; grind
      have hwx : w.x = 0 := by
        rcases Int.lt_or_le 0 w.x with h3 | h3
        · have := Int.mul_pos hvy h3; omega
        · omega
      have hwy : 0 < w.y := by unfold Pos at hw; omega
      have c3 : cross u w = u.x * w.y := by unfold cross; rw [hwx]; grind
      have := Int.mul_nonneg ux (Int.le_of_lt hwy)
      omega
    · have := Int.mul_neg_of_neg_of_pos h (show 0 < v.x by omega)
      have e : -cross u w * v.x = -(cross u w * v.x) := by grind
      omega
  · exact h
theorem tp1 {u v w : Pt} (hu : Pos u) (hv : Pos v) (hw : Pos w) (h1 : 0 < cross u v) (h2 : 0 ≤ cross v w) : 0 < cross u w := by
  have h0 := tp0 hu hv hw (by omega) h2
  rcases Int.lt_or_le 0 (cross u w) with h | h
  · exact h
  · exfalso
    have hz : cross u w = 0 := by omega
    obtain ⟨e1, e2⟩ := three_way u v w
    rw [cross_anti u w, hz] at e1 e2
    have ux : 0 ≤ u.x := by unfold Pos at hu; omega
    have wx : 0 ≤ w.x := by unfold Pos at hw; omega
    have m1 := Int.mul_nonneg h2 ux
    have m2 := Int.mul_nonneg (Int.le_of_lt h1) wx
    have z1 : cross u v * w.x = 0 := by simp at e1; omega
    have z2 : cross v w * u.x = 0 := by simp at e1; omega
    have hwx : w.x = 0 := by
      rcases Int.mul_eq_zero.1 z1 with h | h <;> omega
    have hwy : 0 < w.y := by unfold Pos at hw; omega
    have c3 : cross u w = u.x * w.y := by unfold cross; rw [hwx]; grind
    have hux : u.x = 0 := by
      rcases Int.lt_or_le 0 u.x with h3 | h3
      · have := Int.mul_pos h3 hwy; omega
      · omega
    have huy : 0 < u.y := by unfold Pos at hu; omega
    have c4 : cross u v = -(u.y * v.x) := by unfold cross; rw [hux]; grind
    have vx : 0 ≤ v.x := by unfold Pos at hv; omega
    have := Int.mul_nonneg (Int.le_of_lt huy) vx
    omega
def Edges (f : Pt → Pt → Prop) : List Pt → Prop
  | b :: a :: r => f a b ∧ Edges f (a :: r)
  | _ => True
def Trips : List Pt → Prop
  | c :: b :: a :: r => 0 < turn a b c ∧ Trips (b :: a :: r)
  | _ => True
def stk : List Pt → Pt → List Pt
  | b :: a :: r, p => if turn a b p ≤ 0 then stk (a :: r) p else p :: b :: a :: r
  | s, p => p :: s
theorem Edges.tail {f : Pt → Pt → Prop} {b : Pt} {s : List Pt} (h : Edges f (b :: s)) : Edges f s := by
  cases s with
  | nil => trivial
  | cons a r => exact h.2
theorem Trips.tail {b : Pt} {s : List Pt} (h : Trips (b :: s)) : Trips s := by
  match s, h with
  | [], _ => trivial
  | [_], _ => trivial
  | _ :: _ :: _, h => exact h.2
theorem ahead {p : Pt} : ∀ {r : List Pt} {a b : Pt}, Edges Less (b :: a :: r) → Trips (b :: a :: r) → Less b p → 0 < turn a b p → Edges (fun a b => 0 ≤ turn a b p) (b :: a :: r)
  | [], a, b, _, _, _, h => ⟨by omega, trivial⟩
  | z :: r, a, b, ho, ht, hl, h => by
    refine ⟨by omega, ahead ho.tail ht.tail (ho.1.trans hl) ?_⟩
    have h1 : 0 < turn z a b := ht.1
    have hza : Less z a := ho.2.1
    have hab : Less a b := ho.1
    have e1 : turn z a b = cross (df z a) (df a b) := by unfold turn cross df; grind
    have e2 : turn z a p = cross (df z a) (df a p) := by unfold turn cross df; grind
    rw [turn_df] at h
    rw [e1] at h1
    rw [e2]
    exact tp1 (less_pos.1 hza) (less_pos.1 hab) (less_pos.1 (hab.trans hl)) h1 (by omega)
def stack (l : List Pt) : List Pt := l.foldl stk []
end Go.AM
namespace Go.AM
end Go.AM
namespace Go.AM
structure Side (o : Pt → Pt → Prop) (Q A : List Pt) : Prop where
  ord : ∀ (i : Nat) a b, A[i]? = some a → A[i + 1]? = some b → o a b
  cov : ∀ (i : Nat) a b, A[i]? = some a → A[i + 1]? = some b → ∀ q ∈ Q, 0 ≤ turn a b q
  cvx : ∀ (i : Nat) a b c, A[i]? = some a → A[i + 1]? = some b → A[i + 2]? = some c → 0 < turn a b c
  sub : ∀ x ∈ A, x ∈ Q
end Go.AM
namespace Go.AM
theorem par0 {d1 d2 e : Pt} (h1 : Pos d1) (h2 : Pos d2) (hz : cross d1 d2 = 0) (h : 0 ≤ cross d1 e) : 0 ≤ cross d2 e := by
  obtain ⟨e1, e2⟩ := three_way d1 d2 e
  rw [hz, cross_anti d1 e] at e1 e2
  have x1 : cross d2 e * d1.x = cross d1 e * d2.x := by grind
  have x2 : cross d2 e * d1.y = cross d1 e * d2.y := by grind
  rcases Int.lt_or_le (cross d2 e) 0 with hc | hc
  · exfalso
    have a1 : 0 ≤ d1.x := by unfold Pos at h1; omega
    have a2 : 0 ≤ d2.x := by unfold Pos at h2; omega
    have m2 := Int.mul_nonneg h a2
    have hx1 : d1.x = 0 := by
      rcases Int.lt_or_le 0 d1.x with h3 | h3
      · have := Int.mul_neg_of_neg_of_pos hc h3; omega
      · omega
    have y1 : 0 < d1.y := by unfold Pos at h1; omega
    have c : cross d1 d2 = -(d1.y * d2.x) := by unfold cross; rw [hx1]; grind
    have hx2 : d2.x = 0 := by
      rcases Int.lt_or_le 0 d2.x with h3 | h3
      · have := Int.mul_pos y1 h3; omega
      · omega
    have y2 : 0 < d2.y := by unfold Pos at h2; omega
    have m3 := Int.mul_neg_of_neg_of_pos hc y1
    have m4 := Int.mul_nonneg h (Int.le_of_lt y2)
    omega
  · exact hc
theorem col0 {d x z : Pt} (h : Pos d) (h1 : cross d x = 0) (h2 : cross d z = 0) : cross x z = 0 := by
  obtain ⟨e1, e2⟩ := three_way d x z
  rw [h1, cross_anti d z, h2] at e1 e2
  have e1' : cross x z * d.x = 0 := by omega
  have e2' : cross x z * d.y = 0 := by omega
  unfold Pos at h
  rcases Int.mul_eq_zero.1 e1' with e1 | e1
  · exact e1
  · rcases Int.mul_eq_zero.1 e2' with e2 | e2
    · exact e2
    · omega
theorem cross_neg2 (u v : Pt) : cross u (ngt v) = - cross u v := by unfold cross ngt; grind
theorem mid_corner {X M Z U V : Pt} (hU : Less U M) (hV : Less M V) (hz : turn U M V = 0) (hc : 0 < turn X M Z) (u1 : 0 ≤ turn X M U) (v1 : 0 ≤ turn X M V) (u2 : 0 ≤ turn M Z U) (v2 : 0 ≤ turn M Z V) : False := by
  have p1 := less_pos.1 hU
  have p2 := less_pos.1 hV
  have e0 : cross (df U M) (df M V) = 0 := by rw [← hz]; unfold turn cross df; grind
  have e0' : cross (df M V) (df U M) = 0 := by rw [cross_anti, e0]; rfl
  have f1 : turn X M U = - cross (df X M) (df U M) := by unfold turn cross df; grind
  have f2 : turn X M V = cross (df X M) (df M V) := by unfold turn cross df; grind
  have f3 : turn M Z U = - cross (df M Z) (df U M) := by unfold turn cross df; grind
  have f4 : turn M Z V = cross (df M Z) (df M V) := by unfold turn cross df; grind
  have f5 : turn X M Z = cross (df X M) (df M Z) := by unfold turn cross df; grind
  have g : ∀ x : Pt, 0 ≤ cross x (df M V) → cross x (df U M) ≤ 0 → cross (df M V) x = 0 := fun x h1 h2 => by
    have a : 0 ≤ cross (df U M) x := by rw [cross_anti]; omega
    have b := par0 p1 p2 e0 a
    rw [cross_anti] at h1
    omega
  have z1 := g (df X M) (by omega) (by omega)
  have z2 := g (df M Z) (by omega) (by omega)
  have := col0 p2 z1 z2
  omega
structure Hull (n : Int) (P : Int → Pt) (Q : List Pt) : Prop where
  n3 : 3 ≤ n
  per : ∀ i, P (i + n) = P i
  left : ∀ i, 0 < turn (P i) (P (i + 1)) (P (i + 2))
  cov : ∀ i, ∀ q ∈ Q, 0 ≤ turn (P i) (P (i + 1)) q
  sub : ∀ i, P i ∈ Q
  inj : ∀ i j, 0 ≤ i → i < j → j < n → P i ≠ P j
section
variable {n : Int} {P : Int → Pt} {Q : List Pt}
theorem Hull.between (h : Hull n P Q) {t : Int} {U V : Pt} (hU : U ∈ Q) (hV : V ∈ Q) (h1 : Less U (P t)) (h2 : Less (P t) V) (hz : turn U (P t) V = 0) : False := by
  have l := h.left (t - 1)
  have c1 := h.cov (t - 1)
  have c2 := h.cov t
  rw [show t - 1 + 1 = t by omega, show t - 1 + 2 = t + 1 by omega] at l
  rw [show t - 1 + 1 = t by omega] at c1
  exact mid_corner h1 h2 hz l (c1 U hU) (c1 V hV) (c2 U hU) (c2 V hV)
theorem turn_p1 (a b c : Pt) : turn b c a = turn a b c := by unfold turn; grind
theorem turn_p2 (a b c : Pt) : turn b a c = - turn a b c := by unfold turn; grind
theorem turn_p3 (a b c : Pt) : turn a c b = - turn a b c := by unfold turn; grind
theorem Hull.strict (h : Hull n P Q) {i j : Int} (h1 : P j ≠ P i) (h2 : P j ≠ P (i + 1)) : 0 < turn (P i) (P (i + 1)) (P j) := by
  have h0 := h.cov i (P j) (h.sub j)
  rcases Int.lt_or_le 0 (turn (P i) (P (i + 1)) (P j)) with hp | hp
  · exact hp
  · exfalso
    have hz : turn (P i) (P (i + 1)) (P j) = 0 := by omega
    have hne : P i ≠ P (i + 1) := fun e => by
      have := h.left i
      rw [← e] at this
      unfold turn at this
      simp at this
    have tri : ∀ {a b : Pt}, a ≠ b → Less a b ∨ Less b a := fun {a b} hab => by
      by_cases l1 : Less a b
      · exact .inl l1
      · by_cases l2 : Less b a
        · exact .inr l2
        · exact absurd (not_less_eq l1 l2) hab
    have A := h.sub i
    have B := h.sub (i + 1)
    have C := h.sub j
    have z2 := turn_p1 (P i) (P (i + 1)) (P j)
    have z3 := turn_p2 (P i) (P (i + 1)) (P j)
    have z4 := turn_p3 (P i) (P (i + 1)) (P j)
    have z5 := turn_p1 (P (i + 1)) (P j) (P i)
    have z6 := turn_p2 (P j) (P (i + 1)) (P i)
    have z7 := turn_p1 (P i) (P j) (P (i + 1))
    have z8 := turn_p2 (P j) (P i) (P (i + 1))
    have z9 := turn_p2 (P (i + 1)) (P j) (P i)
    rcases tri hne with ab | ba <;> rcases tri h1 with ca | ac <;> rcases tri h2 with cb | bc
    · exact h.between C B ca ab (by omega)
    · exact absurd ((bc.trans ca).trans ab) (Less.irrefl _)
    · exact h.between A B ac cb (by omega)
    · exact h.between A C ab bc (by omega)
    · exact h.between C A cb ba (by omega)
    · exact h.between B A bc ca (by omega)
    · exact absurd ((ac.trans cb).trans ba) (Less.irrefl _)
    · exact h.between B C ba ac (by omega)
theorem Hull.mod (h : Hull n P Q) (i : Int) : P (i % n) = P i := by
  have up : ∀ (k : Nat) (x : Int), P (x + k * n) = P x := by
    intro k
    induction k with
    | zero => intro x; simp
    | succ k ih => intro x; rw [show x + ((k + 1 : Nat) : Int) * n = (x + k * n) + n by rw [Int.natCast_add, Int.add_mul]; simp; omega, h.per, ih]
  have n3 := h.n3
  rcases Int.le_total 0 (i / n) with hq | hq
  · have := up (i / n).toNat (i % n)
    rw [Int.toNat_of_nonneg hq, Int.mul_comm, Int.emod_add_mul_ediv] at this
    exact this.symm
  · have := up (-(i / n)).toNat i
    rw [Int.toNat_of_nonneg (by omega), Int.neg_mul, Int.mul_comm] at this
    rw [← this]; congr 1
    have := Int.emod_add_mul_ediv i n
    omega
theorem Hull.ne (h : Hull n P Q) {i j : Int} (h1 : i < j) (h2 : j < i + n) : P i ≠ P j := fun e => by
  have n3 := h.n3
  have a := Int.emod_nonneg i (b := n) (by omega)
  have b := Int.emod_lt_of_pos i (b := n) (by omega)
  have c := Int.emod_nonneg j (b := n) (by omega)
  have d := Int.emod_lt_of_pos j (b := n) (by omega)
  have ne : i % n ≠ j % n := fun e1 => by
    have := Int.emod_emod_of_dvd (j - i) (Int.dvd_refl n)
    have h3 : (j - i) % n = 0 := by rw [Int.sub_emod, e1]; simp
    have h4 : (j - i) % n = j - i := Int.emod_eq_of_lt (by omega) (by omega)
    omega
  rw [← h.mod i, ← h.mod j] at e
  rcases Int.lt_or_le (i % n) (j % n) with h3 | h3
  · exact h.inj _ _ a h3 d e
  · exact h.inj _ _ c (by omega) b e.symm
theorem Hull.conv (h : Hull n P Q) {i j : Int} (h1 : i + 2 ≤ j) (h2 : j ≤ i + n - 1) : 0 < turn (P i) (P (i + 1)) (P j) :=
  h.strict (fun e => h.ne (i := i) (j := j) (by omega) (by omega) e.symm) (fun e => h.ne (i := i + 1) (j := j) (by omega) (by omega) e.symm)
end
end Go.AM
namespace Go.AM
section
variable {l A B : List Pt} {k m : Nat}
theorem band_get (hA : A.length = k + 1) (hB : B.length = m + 1) (hm : 0 < m) (hk : 0 < k) (e1 : A.getLast? = B[0]?) (e2 : B.getLast? = A[0]?) :
    (A.dropLast ++ B.dropLast).length = k + m ∧ (∀ i : Nat, i ≤ k → A[i]? = some (pt (A.dropLast ++ B.dropLast) i)) ∧ (∀ j : Nat, j ≤ m → B[j]? = some (pt (A.dropLast ++ B.dropLast) ((k + j : Nat) : Int))) := by
  have hl : (A.dropLast ++ B.dropLast).length = k + m := by simp; omega
  have g : ∀ i : Nat, i < k + m → (A.dropLast ++ B.dropLast)[i]? = some (pt (A.dropLast ++ B.dropLast) i) := fun i hi => by
    unfold pt
    rw [hl, Int.emod_eq_of_lt (by omega) (by omega), Int.toNat_natCast, List.getD_eq_getElem?_getD, List.getElem?_eq_getElem (by omega)]
    simp
  have gA : ∀ i : Nat, i < k → A[i]? = some (pt (A.dropLast ++ B.dropLast) i) := fun i hi => by
    rw [← g i (by omega), List.getElem?_append_left (by simp; omega), List.getElem?_dropLast, if_pos (by omega)]
  have gB : ∀ j : Nat, j < m → B[j]? = some (pt (A.dropLast ++ B.dropLast) ((k + j : Nat) : Int)) := fun j hj => by
    rw [← g (k + j) (by omega), List.getElem?_append_right (by simp; omega), List.getElem?_dropLast, List.length_dropLast, hA, show k + j - (k + 1 - 1) = j by omega, if_pos (by omega)]
  refine ⟨hl, fun i hi => ?_, fun j hj => ?_⟩
  · rcases Nat.lt_or_ge i k with h | h
    · exact gA i h
    · obtain rfl : i = k := by omega
      rw [List.getLast?_eq_getElem?, hA, show i + 1 - 1 = i by omega] at e1
      rw [e1, gB 0 hm, Nat.add_zero]
  · rcases Nat.lt_or_ge j m with h | h
    · exact gB j h
    · obtain rfl : j = m := by omega
      rw [List.getLast?_eq_getElem?, hB, show j + 1 - 1 = j by omega] at e2
      rw [e2, gA 0 hk]
      congr 1
      unfold pt
      rw [hl]
      congr 2
      simp
theorem turn_three (Z a b c : Pt) : turn a b c = cross (df Z b) (df Z c) - cross (df Z b) (df Z a) - cross (df Z a) (df Z c) := by unfold turn cross df; grind
theorem all_col {Q : List Pt} {Z d : Pt} (hd : Pos d) (h : ∀ q ∈ Q, cross d (df Z q) = 0) {a b c : Pt} (ha : a ∈ Q) (hb : b ∈ Q) (hc : c ∈ Q) : turn a b c = 0 := by
  rw [turn_three Z, col0 hd (h b hb) (h c hc), col0 hd (h b hb) (h a ha), col0 hd (h a ha) (h c hc)]
  rfl
structure Sides (l A B : List Pt) (k m : Nat) : Prop where
  up : Side Less l A
  dn : Side (fun a b => Less b a) l B
  lA : A.length = k + 1
  lB : B.length = m + 1
  k0 : 0 < k
  m0 : 0 < m
  e1 : A.getLast? = B[0]?
  e2 : B.getLast? = A[0]?
namespace Sides
variable (h : Sides l A B k m)
include h
def bd (_ : Sides l A B k m) : List Pt := A.dropLast ++ B.dropLast
omit h in
theorem len (h : Sides l A B k m) : (A.dropLast ++ B.dropLast).length = k + m := (band_get h.lA h.lB h.m0 h.k0 h.e1 h.e2).1
theorem gA (i : Nat) (hi : i ≤ k) : A[i]? = some (pt (A.dropLast ++ B.dropLast) i) := (band_get h.lA h.lB h.m0 h.k0 h.e1 h.e2).2.1 i hi
theorem gB (j : Nat) (hj : j ≤ m) : B[j]? = some (pt (A.dropLast ++ B.dropLast) ((k + j : Nat) : Int)) := (band_get h.lA h.lB h.m0 h.k0 h.e1 h.e2).2.2 j hj
theorem ptmod (i : Int) : pt (A.dropLast ++ B.dropLast) (i % ((k + m : Nat) : Int)) = pt (A.dropLast ++ B.dropLast) i := by
  unfold pt; rw [h.len, Int.emod_emod_of_dvd _ (Int.dvd_refl _)]
theorem edge (i : Nat) (hi : i < k + m) : (i < k ∧ A[i]? = some (pt (A.dropLast ++ B.dropLast) i) ∧ A[i + 1]? = some (pt (A.dropLast ++ B.dropLast) ((i + 1 : Nat) : Int))) ∨
    (k ≤ i ∧ B[i - k]? = some (pt (A.dropLast ++ B.dropLast) i) ∧ B[i - k + 1]? = some (pt (A.dropLast ++ B.dropLast) ((i + 1 : Nat) : Int))) := by
  rcases Nat.lt_or_ge i k with h1 | h1
  · exact .inl ⟨h1, h.gA i (by omega), h.gA (i + 1) (by omega)⟩
  · refine .inr ⟨h1, ?_, ?_⟩
    · have := h.gB (i - k) (by omega); rwa [show k + (i - k) = i by omega] at this
    · have := h.gB (i - k + 1) (by omega); rwa [show k + (i - k + 1) = i + 1 by omega] at this
theorem nat_of (f : Int → Prop) (hf : ∀ i : Nat, i < k + m → f i) (hp : ∀ i : Int, f (i % ((k + m : Nat) : Int)) → f i) (i : Int) : f i := by
  have hk := h.k0
  have a := Int.emod_nonneg i (b := ((k + m : Nat) : Int)) (by omega)
  have b := Int.emod_lt_of_pos i (b := ((k + m : Nat) : Int)) (by omega)
  have := hf (i % ((k + m : Nat) : Int)).toNat (by omega)
  rw [Int.toNat_of_nonneg a] at this
  exact hp i this
theorem ptmod1 (i c : Int) : pt (A.dropLast ++ B.dropLast) (i % ((k + m : Nat) : Int) + c) = pt (A.dropLast ++ B.dropLast) (i + c) := by
  rw [← h.ptmod, ← h.ptmod (i + c), Int.add_emod (i % _) c, Int.emod_emod_of_dvd _ (Int.dvd_refl _), ← Int.add_emod]
theorem cov (i : Int) : ∀ q ∈ l, 0 ≤ turn (pt (A.dropLast ++ B.dropLast) i) (pt (A.dropLast ++ B.dropLast) (i + 1)) q := by
  refine h.nat_of (fun i => ∀ q ∈ l, 0 ≤ turn (pt (A.dropLast ++ B.dropLast) i) (pt (A.dropLast ++ B.dropLast) (i + 1)) q) (fun i hi q hq => ?_) (fun i hi => ?_) i
  · rcases h.edge i hi with ⟨_, h2, h3⟩ | ⟨_, h2, h3⟩
    · exact h.up.cov _ _ _ h2 h3 q hq
    · exact h.dn.cov _ _ _ h2 h3 q hq
  · rw [h.ptmod1 i 1, h.ptmod] at hi; exact hi
theorem sub (i : Int) : pt (A.dropLast ++ B.dropLast) i ∈ l := by
  refine h.nat_of (fun i => pt (A.dropLast ++ B.dropLast) i ∈ l) (fun i hi => ?_) (fun i hi => by rwa [h.ptmod] at hi) i
  rcases h.edge i hi with ⟨_, h2, _⟩ | ⟨_, h2, _⟩
  · exact h.up.sub _ (List.mem_of_getElem? h2)
  · exact h.dn.sub _ (List.mem_of_getElem? h2)
theorem not_col (h3 : 3 ≤ k + m) {Z d : Pt} (hd : Pos d) (hc : ∀ q ∈ l, cross d (df Z q) = 0) : False := by
  rcases Nat.lt_or_ge k 2 with hk | hk
  · have hm : 2 ≤ m := by omega
    have c := h.dn.cvx 0 _ _ _ (h.gB 0 (by omega)) (h.gB 1 (by omega)) (h.gB 2 (by omega))
    rw [all_col hd hc (h.sub _) (h.sub _) (h.sub _)] at c
    omega
  · have c := h.up.cvx 0 _ _ _ (h.gA 0 (by omega)) (h.gA 1 (by omega)) (h.gA 2 (by omega))
    rw [all_col hd hc (h.sub _) (h.sub _) (h.sub _)] at c
    omega
theorem joint {U Z V : Pt} (h3 : 3 ≤ k + m) (c1 : ∀ q ∈ l, 0 ≤ turn U Z q) (c2 : ∀ q ∈ l, 0 ≤ turn Z V q) (hV : V ∈ l) (o : (Less U Z ∧ Less V Z) ∨ (Less Z U ∧ Less Z V)) : 0 < turn U Z V := by
  have h0 := c1 V hV
  rcases Int.lt_or_le 0 (turn U Z V) with hp | hp
  · exact hp
  · exfalso
    have hz : turn U Z V = 0 := by omega
    rcases o with ⟨o1, o2⟩ | ⟨o1, o2⟩
    · -- ways from both to Z
      have p1 := less_pos.1 o1
      have p2 := less_pos.1 o2
      have e0 : cross (df U Z) (df V Z) = 0 := by have : turn U Z V = - cross (df U Z) (df V Z) := by unfold turn cross df; grind
                                                  omega
      have e0' : cross (df V Z) (df U Z) = 0 := by rw [cross_anti, e0]; rfl
      refine h.not_col h3 (Z := Z) p1 fun q hq => ?_
      have f1 : turn U Z q = cross (df U Z) (df Z q) := by unfold turn cross df; grind
      have f2 : turn Z V q = - cross (df V Z) (df Z q) := by unfold turn cross df; grind
      have a1 := c1 q hq
      have a2 := c2 q hq
      have b1 := par0 p1 p2 e0 (show 0 ≤ cross (df U Z) (df Z q) by omega)
      have b2 : 0 ≤ cross (df V Z) (ngt (df Z q)) := by rw [cross_neg2]; omega
      have b3 := par0 p2 p1 e0' b2
      rw [cross_neg2] at b3
      omega
    · have p1 := less_pos.1 o1
      have p2 := less_pos.1 o2
      have e0 : cross (df Z U) (df Z V) = 0 := by have : turn U Z V = - cross (df Z U) (df Z V) := by unfold turn cross df; grind
                                                  omega
      have e0' : cross (df Z V) (df Z U) = 0 := by rw [cross_anti, e0]; rfl
      refine h.not_col h3 (Z := Z) p1 fun q hq => ?_
      have f1 : turn U Z q = - cross (df Z U) (df Z q) := by unfold turn cross df; grind
      have f2 : turn Z V q = cross (df Z V) (df Z q) := by unfold turn cross df; grind
      have a1 := c1 q hq
      have a2 := c2 q hq
      have b2 : 0 ≤ cross (df Z U) (ngt (df Z q)) := by rw [cross_neg2]; omega
      have b3 := par0 p2 p1 e0' (show 0 ≤ cross (df Z V) (df Z q) by omega)
      omega
theorem left (h3 : 3 ≤ k + m) (i : Int) : 0 < turn (pt (A.dropLast ++ B.dropLast) i) (pt (A.dropLast ++ B.dropLast) (i + 1)) (pt (A.dropLast ++ B.dropLast) (i + 2)) := by
  refine h.nat_of (fun i => 0 < turn (pt (A.dropLast ++ B.dropLast) i) (pt (A.dropLast ++ B.dropLast) (i + 1)) (pt (A.dropLast ++ B.dropLast) (i + 2))) (fun i hi => ?_) (fun i hi => ?_) i
  · have k0 := h.k0
    have m0 := h.m0
    have cv := h.cov
    rcases Nat.lt_or_ge (i + 1) k with h1 | h1
    · exact h.up.cvx i _ _ _ (h.gA i (by omega)) (h.gA (i + 1) (by omega)) (h.gA (i + 2) (by omega))
    · rcases Nat.lt_or_ge i k with h2 | h2
      · -- the last line up, the first one down
        have c1 := cv i
        have c2 := cv (i + 1)
        rw [show (i : Int) + 1 + 1 = i + 2 by omega] at c2
        refine h.joint h3 c1 c2 (h.sub _) (.inl ⟨?_, ?_⟩)
        · exact h.up.ord i _ _ (h.gA i (by omega)) (h.gA (i + 1) (by omega))
        · have q1 := h.gB 0 (by omega)
          have q2 := h.gB 1 (by omega)
          have := h.dn.ord 0 _ _ q1 q2
          rw [show ((k + 0 : Nat) : Int) = i + 1 by omega, show ((k + 1 : Nat) : Int) = i + 2 by omega] at this
          exact this
      · rcases Nat.lt_or_ge (i + 1) (k + m) with h4 | h4
        · have q0 := h.gB (i - k) (by omega)
          have q1 := h.gB (i - k + 1) (by omega)
          have q2 := h.gB (i - k + 2) (by omega)
          have := h.dn.cvx (i - k) _ _ _ q0 q1 q2
          rw [show ((k + (i - k) : Nat) : Int) = i by omega, show ((k + (i - k + 1) : Nat) : Int) = i + 1 by omega, show ((k + (i - k + 2) : Nat) : Int) = i + 2 by omega] at this
          exact this
        · have c1 := cv i
          have c2 := cv (i + 1)
          rw [show (i : Int) + 1 + 1 = i + 2 by omega] at c2
          have e1 : pt (A.dropLast ++ B.dropLast) ((i : Int) + 1) = pt (A.dropLast ++ B.dropLast) 0 := by
            rw [← h.ptmod, show (i : Int) + 1 = ((k + m : Nat) : Int) by omega]; simp
          have e2 : pt (A.dropLast ++ B.dropLast) ((i : Int) + 2) = pt (A.dropLast ++ B.dropLast) 1 := by
            rw [← h.ptmod, show (i : Int) + 2 = 1 + ((k + m : Nat) : Int) by omega, Int.add_emod_right, h.ptmod]
          refine h.joint h3 c1 c2 (h.sub _) (.inr ⟨?_, ?_⟩)
          · have := h.dn.ord (m - 1) _ _ (h.gB (m - 1) (by omega)) (h.gB (m - 1 + 1) (by omega))
            rw [show ((k + (m - 1) : Nat) : Int) = i by omega, show ((k + (m - 1 + 1) : Nat) : Int) = i + 1 by omega] at this
            exact this
          · rw [e1, e2]
            exact h.up.ord 0 _ _ (h.gA 0 (by omega)) (h.gA 1 (by omega))
  · rw [h.ptmod1 i 1, h.ptmod1 i 2, h.ptmod] at hi; exact hi
end Sides
end
end Go.AM
namespace Go.AM
namespace Sides
section
variable {l A B : List Pt} {k m : Nat} (h : Sides l A B k m)
include h
end
end Sides
end Go.AM
namespace Go.AM
section
variable {n : Int} {P : Int → Pt}
end
end Go.AM
namespace Go.AM
end Go.AM
namespace Go.AM
end Go.AM
namespace Go.AM
structure Diff (a : List Pt) : Prop where
  lo : 1 ≤ (a.length : Int)
  hi : (a.length : Int) ≤ 30
  isIn : ∀ i, 0 ≤ i → i < (a.length : Int) → In (pt a i)
  ne : ∀ i k, 0 ≤ k → k < i → i < (a.length : Int) → pt a k ≠ pt a i
theorem Diff.nn {a : List Pt} (h : Diff a) : a ≠ [] := fun e => by have := h.lo; subst e; simp at this
theorem Diff.all {a : List Pt} (h : Diff a) (i : Int) : In (pt a i) := in_all h.isIn h.nn i
end Go.AM
namespace Go.AM
end Go.AM
namespace Go.AM
end Go.AM
namespace Go.AM
def Bd20 (n : Int) : Prop := -20 ≤ n ∧ n ≤ 20
def Bd80 (n : Int) : Prop := -80 ≤ n ∧ n ≤ 80
instance (n : Int) : Decidable (Bd20 n) := by unfold Bd20; infer_instance
instance (n : Int) : Decidable (Bd80 n) := by unfold Bd80; infer_instance
def MvG (A B C D X Y : Int) : Prop := (Bd20 A ∧ Bd20 B ∧ Bd20 C ∧ Bd20 D) ∧ (Bd80 X ∧ Bd80 Y) ∧ (A * D - B * C).natAbs = 1
instance (A B C D X Y : Int) : Decidable (MvG A B C D X Y) := by unfold MvG; infer_instance
end Go.AM
namespace Go.AM
theorem vwl {a : List Pt} (g : Good_ a) : (∀ i, In (pt a i)) ∧ a ≠ [] ∧ (a.length : Int) ≤ 10 ∧ 3 ≤ (a.length : Int) := by
  have lo := g.lo
  have hn : a ≠ [] := by intro e; subst e; simp at lo
  exact ⟨in_all g.isIn hn, hn, g.hi, lo⟩
end Go.AM
namespace Go.AM
end Go.AM
namespace Go.AM
end Go.AM
namespace Go.AM
theorem fa_of {a : List Pt} (g : Good_ a) : Fa a := by
  obtain ⟨h1, h2, h3, h4⟩ := vwl g
  refine ⟨h4, by omega, fun i => (h1 i).nr, fun i => ?_⟩
  have := g.turn (i % a.length) (Int.emod_nonneg _ (by omega)) (Int.emod_lt_of_pos _ (by omega))
  have e : ∀ c : Int, pt a (i % (a.length : Int) + c) = pt a (i + c) := fun c => pt_congr (by rw [Int.emod_add_emod])
  rwa [pt_mod, e, e] at this
end Go.AM
namespace Go.AM
theorem good_tour {a : List Pt} {k s : Int} (g : Good_ a) (hs : s = 1 ∨ s = -1) : Good_ (tour a k s a.length) := by
  have lo := g.lo
  have hi := g.hi
  have hn : a ≠ [] := by intro e; subst e; simp at lo
  have hl : 0 < (a.length : Int) := by omega
  have hin := in_all g.isIn hn
  have hp := pt_tour' (k := k) (s := s) hn
  have fa := fa_of g
  refine ⟨by rw [tour_len]; exact lo, by rw [tour_len]; exact hi, fun i _ _ => by rw [hp]; exact hin _, fun i j j0 ji i1 he => ?_, fun i i0 i1 => (fa.tour (k := k) hs).turn i, fun i j i0 ij j1 jw hm => ?_⟩
  · rw [tour_len] at i1
    rw [hp, hp] at he
    have := pt_inj hn g.ne he
    have h2 : (k + j * s - (k + i * s)) % (a.length : Int) = 0 := Int.emod_eq_emod_iff_emod_sub_eq_zero.1 this
    have hd := Int.dvd_of_emod_eq_zero h2
    rcases hs with rfl | rfl
    · have hd' : (a.length : Int) ∣ i - j := by
        have := Int.dvd_neg.2 hd
        rwa [show -(k + j * 1 - (k + i * 1)) = i - j by omega] at this
      have := Int.le_of_dvd (by omega) hd'
      omega
    · rw [show k + j * -1 - (k + i * -1) = i - j by omega] at hd
      have := Int.le_of_dvd (by omega) hd
      omega
  · rw [tour_len] at j1 jw
    rw [hp, hp, hp, hp] at hm
    rcases hs with rfl | rfl
    · have := g.apartAll (i := k + i) (k := k + j) (by omega) (by omega)
      rw [show k + i * 1 = k + i by omega, show k + (i + 1) * 1 = k + i + 1 by omega, show k + j * 1 = k + j by omega, show k + (j + 1) * 1 = k + j + 1 by omega] at hm
      exact this hm
    · have := g.apartAll (i := k - j - 1) (k := k - i - 1) (by omega) (by omega)
      rw [show k + i * -1 = k - i - 1 + 1 by omega, show k + (i + 1) * -1 = k - i - 1 by omega, show k + j * -1 = k - j - 1 + 1 by omega, show k + (j + 1) * -1 = k - j - 1 by omega] at hm
      exact this (meet_sym.1 (meet_rev hm))
theorem sm_front (f : Int → Int) : ∀ k : Nat, sm f (k + 1) = f 0 + sm (fun i => f (i + 1)) k
  | 0 => by simp [sm]
  | k + 1 => by
    have := sm_front f k
    simp only [sm] at this ⊢
    rw [this]
    simp only [Int.natCast_add]
    have e : ((k : Int) + ((1 : Nat) : Int)) = (k : Int) + 1 := rfl
    rw [e]
    omega
theorem sm_rev : ∀ (k : Nat) (f : Int → Int), sm (fun i => f ((k : Int) - 1 - i)) k = sm f k
  | 0, f => rfl
  | k + 1, f => by
    rw [sm_front f]
    simp only [sm]
    have := sm_rev k (fun i => f (i + 1))
    rw [← this]
    have e : sm (fun i => f (((k + 1 : Nat) : Int) - 1 - i)) k = sm (fun i => f ((k : Int) - 1 - i + 1)) k := sm_congr' (fun i => by congr 1; omega) k
    rw [e, show ((k + 1 : Nat) : Int) - 1 - (k : Int) = 0 by omega]
    omega
theorem sm_from {f : Int → Int} {n : Nat} (hper : ∀ i, f (i + n) = f i) : ∀ c : Int, sm (fun i => f (c + i)) n = sm f n := by
  have one : ∀ c : Int, sm (fun i => f (c + 1 + i)) n = sm (fun i => f (c + i)) n := fun c => by
    have := sm_round (f := fun i => f (c + i)) (k := n) (by simp only [Int.add_zero]; exact hper c)
    rw [← this]
    exact sm_congr' (fun i => by congr 1; omega) n
  have pos : ∀ c : Nat, sm (fun i => f ((c : Int) + i)) n = sm f n := by
    intro c
    induction c with
    | zero => exact sm_congr' (fun i => by congr 1; omega) n
    | succ c ih => rw [← ih, ← one (c : Int)]; rfl
  have neg : ∀ c : Nat, sm (fun i => f (-(c : Int) + i)) n = sm f n := by
    intro c
    induction c with
    | zero => exact sm_congr' (fun i => by congr 1; omega) n
    | succ c ih => rw [← ih, ← one (-((c + 1 : Nat) : Int))]; exact sm_congr' (fun i => by congr 1; omega) n
  intro c
  rcases Int.le_total 0 c with h | h
  · have := pos c.toNat
    rwa [Int.toNat_of_nonneg h] at this
  · have := neg (-c).toNat
    rwa [Int.toNat_of_nonneg (by omega), Int.neg_neg] at this
theorem area_tour {a : List Pt} {k s : Int} (hn : a ≠ []) (hs : s = 1 ∨ s = -1) : area (tour a k s a.length) = s * area a := by
  unfold area
  rw [tour_len]
  have hp := pt_tour' (k := k) (s := s) hn
  have e : sm (fun i => cross (pt (tour a k s a.length) i) (pt (tour a k s a.length) (i + 1))) a.length = sm (fun i => cross (pt a (k + i * s)) (pt a (k + (i + 1) * s))) a.length := sm_congr' (fun i => by rw [hp, hp]) _
  rw [e]
  have per : ∀ i, cross (pt a (i + a.length)) (pt a (i + a.length + 1)) = cross (pt a i) (pt a (i + 1)) := fun i => by
    rw [pt_per, show i + (a.length : Int) + 1 = i + 1 + a.length by omega, pt_per]
  rcases hs with rfl | rfl
  · rw [Int.one_mul, ← sm_from (f := fun i => cross (pt a i) (pt a (i + 1))) per k]
    exact sm_congr' (fun i => by rw [show k + i * 1 = k + i by omega, show k + (i + 1) * 1 = k + i + 1 by omega]) _
  · rw [← sm_from (f := fun i => cross (pt a i) (pt a (i + 1))) per (k - a.length), ← sm_rev a.length (fun i => cross (pt a (k - a.length + i)) (pt a (k - a.length + i + 1))), ← sm_smul]
    refine sm_congr' (fun i => ?_) _
    rw [show k - (a.length : Int) + ((a.length : Int) - 1 - i) = k + (i + 1) * -1 by omega, show k + (i + 1) * -1 + 1 = k + i * -1 by omega]
    unfold cross; grind
end Go.AM
namespace Go.AM
end Go.AM
namespace Go.AM
end Go.AM
namespace Go.AM
def Img (p q : List Pt) (α β γ δ u v : Int) : Prop := (α * δ - β * γ = 1 ∨ α * δ - β * γ = -1) ∧ ∀ i, pt q i = aff α β γ δ u v (pt p i)
theorem Img.map {p q : List Pt} {α β γ δ u v : Int} (hn : p ≠ []) (hl : q.length = p.length) (h : Img p q α β γ δ u v) : q = p.map (aff α β γ δ u v) := by
  refine list_ext_pt (by rw [List.length_map, hl]) fun i _ _ => ?_
  rw [pt_maps hn]; exact h.2 i
end Go.AM
namespace Go.AM
theorem sg_flip {s x : Int} (hs : s = 1 ∨ s = -1) : sg (s * x) = s * sg x := by
  rcases hs with rfl | rfl
  · rw [Int.one_mul, Int.one_mul]
  · rw [show -1 * x = -x by omega]
    unfold sg
    by_cases h : 0 < x
    · rw [if_pos h, if_neg (by omega), if_pos (by omega)]; rfl
    · by_cases h2 : x < 0
      · rw [if_pos (by omega), if_neg h, if_pos h2]; rfl
      · rw [if_neg (by omega), if_neg (by omega), if_neg h, if_neg h2]; rfl
theorem tellFirst_any {L : Nat} {a : List Pt} (g : Good_ a) (hL : 3000 < L) : ∃ k, IsMin a k a.length ∧ impl_tellFirst L a = some (tour a k (sg (area a)) a.length) := by
  obtain ⟨hin, hn, hi, lo⟩ := vwl g
  obtain ⟨k, k1, k2, _⟩ := impl_first_eq (L := L) hn (by omega) (by omega)
  refine ⟨k, k2, ?_⟩
  have hs := sg_bd (area a)
  unfold impl_tellFirst
  simp only [k1, gbind_eq, Option.bind_some, impl_twice_eq hn (show (a.length : Int) ≤ 1000 by omega) (show (a.length : Int) < L by omega) (fun i => (hin i).nr), impl_sign_eq]
  rw [impl_told_eq hn (by omega) ⟨k2.1, by have := k2.2.1; omega⟩ (by omega) (by omega)]
  rfl
theorem tellFirst_tour {L : Nat} {q : List Pt} {k s : Int} (g : Good_ q) (hs : s = 1 ∨ s = -1) (hL : 3000 < L) : impl_tellFirst L (tour q k s q.length) = impl_tellFirst L q := by
  obtain ⟨hin, hn, hi, lo⟩ := vwl g
  have g2 := good_tour (k := k) g hs
  obtain ⟨_, hn2, _, _⟩ := vwl g2
  obtain ⟨k1, m1, e1⟩ := tellFirst_any (L := L) g2 hL
  obtain ⟨k2, m2, e2⟩ := tellFirst_any (L := L) g hL
  rw [e1, e2, tour_len, tour_tours hn, area_tour hn hs, sg_flip hs]
  have ss : s * (s * sg (area q)) = sg (area q) := by rcases hs with rfl | rfl <;> omega
  rw [ss]
  congr 1
  refine tour_mod ?_ _
  refine pt_inj hn g.ne (not_less_eq (isMin_all hn m2 _) ?_)
  have := isMin_all hn2 m1 ((k2 - k) * s)
  rw [pt_tour' hn, pt_tour' hn] at this
  have e : k + (k2 - k) * s * s = k2 := by rcases hs with rfl | rfl <;> omega
  rwa [e] at this
end Go.AM
namespace Go.AM
theorem zPegsL0 {L : Nat} {a : List Pt} (hs : (a.length : Int) ≤ 100000) : ∀ (m i : Nat), i ≤ a.length → a.length - i < m → laws_zPegs_l0 L a a m i = some true := by
  intro m
  induction m with
  | zero => intro i _ h; omega
  | succ m ih =>
    intro i hi hm
    rw [laws_zPegs_l0]
    simp only [ilen_mapep, ilt_eq, ieq_eq, iadd_eq]
    by_cases h : i < a.length
    · have wi : wr IntKind.i64 ((i : Int) + 1) = ((i + 1 : Nat) : Int) := by rw [wr_id (by omega)]; omega
      simp only [show (i : Int) < (a.length : Int) by omega, decide_true, cond_true, lget_pt (a := a) (i := (i : Int)) (by omega) (by omega), gbind_eq, Option.bind_some, Bool.and_self, Bool.not_true, cond_false, wi]
      exact ih (i + 1) (by omega) (by omega)
    · simp only [show ¬ ((i : Int) < (a.length : Int)) by omega, decide_false, cond_false]
theorem zPegsV {L : Nat} {a : List Pt} (hs : (a.length : Int) ≤ 100000) (hL : 200000 < L) : laws_zPegs L a a = some true := by
  unfold laws_zPegs
  simp only [ieq_eq, decide_true, Bool.not_true, cond_false]
  exact zPegsL0 hs L 0 (by omega) (by omega)
theorem zLessV {L : Nat} {p q : Pt} (hL : 5 < L) : laws_zLess L [p] [q] = some (decide (Less p q)) := by
  obtain ⟨m, rfl⟩ : ∃ m, L = m + 2 := ⟨L - 2, by omega⟩
  unfold laws_zLess
  have g : ∀ r : Pt, lget [r] 0 = some r := fun r => by rw [lget_eq]; rfl
  have w1 : wr IntKind.i64 (0 + 1) = 1 := wr_id (by omega)
  rw [laws_zLess_l0]
  simp only [ilen_mapep, List.length_singleton, ilt_eq, show (0 : Int) < ((1 : Nat) : Int) by omega, decide_true, cond_true, g, gbind_eq, Option.bind_some, ieq_eq, iadd_eq, w1]
  by_cases e : p = q
  · subst e
    simp only [decide_true, Bool.and_self, Bool.not_true, cond_false]
    rw [laws_zLess_l0]
    simp only [ilen_mapep, List.length_singleton, ilt_eq, show ¬ ((1 : Int) < ((1 : Nat) : Int)) by omega, decide_false, cond_false]
    congr 1
    exact (decide_eq_false (Less.irrefl p)).symm
  · have hb : (decide (p.x = q.x) && decide (p.y = q.y)) = false := by
      rw [← Bool.not_eq_true]; exact fun c => e (pt_eq_iff.1 c)
    simp only [hb, Bool.not_false, cond_true]
    unfold Less
    by_cases h1 : p.x < q.x
    · simp [h1]
    · by_cases h2 : p.x = q.x
      · simp [h2]
      · simp [h1, h2]
theorem zAbsV {L : Nat} {n : Int} (h : -1000000000 ≤ n ∧ n ≤ 1000000000) : laws_zAbs L n = some (n.natAbs : Int) := by
  unfold laws_zAbs
  simp only [ilt_eq, isub_eq]
  by_cases c : n < 0
  · simp only [c, decide_true, cond_true]
    rw [wr_id (by omega)]
    congr 1; omega
  · simp only [c, decide_false, cond_false]
    congr 1; omega
theorem whereV {L : Nat} {a : List Pt} {q : Pt} (g : Good_ a) (hq : In q) (hL : 5000 < L) : impl_WhereIs L a q.x q.y = some (wh a q, true) ∧ spec_WhereIs L a q.x q.y = some (wh a q, true) := by
  have hh := g.hi
  have w := where_val (L := L) (a := a) (q := q) g.nn (by omega) (fun i => (g.all i).nr) hq.nr (by omega)
  unfold impl_WhereIs spec_WhereIs
  rw [impl_IsPolygon_eq (by omega), spec_pgGood_eq (by omega), impl_IsPeg_eq.1 hq, spec_pgIs_eq.1 hq]
  simp only [g, decide_true, Bool.not_true, cond_false, gbind_eq, Option.bind_some, w.1, w.2, and_self]
theorem where_bad {L : Nat} {a : List Pt} {q : Pt} (h : ¬ (Good_ a ∧ In q)) (hL : 5000 < L) : impl_WhereIs L a q.x q.y = some (0, false) ∧ spec_WhereIs L a q.x q.y = some (0, false) := by
  unfold impl_WhereIs spec_WhereIs
  rw [impl_IsPolygon_eq (by omega), spec_pgGood_eq (by omega)]
  by_cases g : Good_ a
  · have hq : ¬ In q := fun k => h ⟨g, k⟩
    rw [impl_IsPeg_eq.2 hq, spec_pgIs_eq.2 hq]
    simp only [g, decide_true, Bool.not_true, cond_false, gbind_eq, Option.bind_some, Bool.not_false, cond_true, and_self]
  · simp only [g, decide_false, Bool.not_false, cond_true, gbind_eq, Option.bind_some, and_self]
theorem areaV {L : Nat} {a : List Pt} (g : Good_ a) (hL : 5000 < L) : impl_TwiceArea L a = some (area a, true) ∧ spec_TwiceArea L a = some (area a, true) := by
  have hh := g.hi
  have lo := g.lo
  unfold impl_TwiceArea spec_TwiceArea
  rw [impl_IsPolygon_eq (by omega), spec_pgGood_eq (by omega)]
  simp only [g, decide_true, Bool.not_true, cond_false, gbind_eq, Option.bind_some, impl_twice_eq g.nn (show (a.length : Int) ≤ 1000 by omega) (show (a.length : Int) < L by omega) (fun i => (g.all i).nr), spec_pgArea_eq (L := L) (a := a) (by omega) (by omega) (by omega) (fun i => (g.all i).nr), and_self]
theorem onV {L : Nat} {a : List Pt} (g : Good_ a) (hL : 5000 < L) : impl_PegsOn L a = some (round a, true) ∧ spec_PegsOn L a = some (round a, true) := by
  have hh := g.hi
  unfold impl_PegsOn spec_PegsOn
  rw [impl_IsPolygon_eq (by omega), spec_pgGood_eq (by omega)]
  simp only [g, decide_true, Bool.not_true, cond_false, gbind_eq, Option.bind_some, impl_around_eq g.nn (show (a.length : Int) ≤ 1000 by omega) (show 3000 < L by omega) (fun i => (g.all i).nr), spec_pgRound_eq g.nn (show (a.length : Int) ≤ 1000 by omega) (show 3000 < L by omega) (fun i => (g.all i).nr), and_self]
theorem insideV {L : Nat} {a : List Pt} (g : Good_ a) (hL : 5000 < L) : impl_PegsInside L a = some (cntI a, true) ∧ spec_PegsInside L a = some (cntI a, true) := by
  have hh := g.hi
  have lo := g.lo
  obtain ⟨e1, e2⟩ := inner_eq (L := L) (a := a) (by omega) (by omega) (by omega) (fun i => (g.all i).nr)
  rw [inside_is g] at e1 e2
  unfold impl_PegsInside spec_PegsInside
  rw [impl_IsPolygon_eq (by omega), spec_pgGood_eq (by omega)]
  simp only [g, decide_true, Bool.not_true, cond_false, gbind_eq, Option.bind_some, e1, e2, and_self]
open Classical in
theorem convexV {L : Nat} {a : List Pt} (g : Good_ a) (hL : 5000 < L) : impl_IsConvex L a = some (decide (Cvx a), true) ∧ spec_IsConvex L a = some (decide (Cvx a), true) := by
  have hh := g.hi
  have lo := g.lo
  unfold impl_IsConvex spec_IsConvex
  rw [impl_IsPolygon_eq (by omega), spec_pgGood_eq (by omega)]
  simp only [g, decide_true, Bool.not_true, cond_false, gbind_eq, Option.bind_some, impl_isConvex_eq (L := L) (a := a) (by omega) (by omega) (by omega) (fun i => (g.all i).nr), spec_pgConvex_eq (L := L) (a := a) (by omega) (by omega) (by omega) (fun i => (g.all i).nr), and_self]
theorem backV {L : Nat} {a : List Pt} (g : Good_ a) (hL : 5000 < L) : impl_BackPolygon L a = some (tour a 0 (-1) a.length, true) ∧ spec_BackPolygon L a = some (tour a 0 (-1) a.length, true) := by
  have hh := g.hi
  unfold impl_BackPolygon spec_BackPolygon
  rw [impl_IsPolygon_eq (by omega), spec_pgGood_eq (by omega)]
  simp only [g, decide_true, Bool.not_true, cond_false, gbind_eq, Option.bind_some, impl_told_eq (L := L) (a := a) (k := 0) (s := -1) g.nn (by omega) (by omega) (by omega) (by omega), spec_pgBack_eq (L := L) (a := a) g.nn (by omega) (by omega), and_self]
theorem firstV {L : Nat} {a : List Pt} (g : Good_ a) (hL : 5000 < L) : ∃ k, IsMin a k a.length ∧ impl_tellFirst L a = some (tour a k (sg (area a)) a.length) ∧ impl_TellFirst L a = some (tour a k (sg (area a)) a.length, true) ∧ spec_TellFirst L a = some (tour a k (sg (area a)) a.length, true) := by
  have hh := g.hi
  have lo := g.lo
  obtain ⟨k, m, e⟩ := tellFirst_any (L := L) g (by omega)
  obtain ⟨c, e1, e2, _⟩ := first_eq (L := L) (a := a) g.nn (by omega) (by omega) (fun i => (g.all i).nr) g.ne (by omega) (pick_rule g).2
  rw [e] at e2
  have ec := Option.some.inj e2
  subst ec
  refine ⟨k, m, e, ?_, ?_⟩
  · unfold impl_TellFirst
    rw [impl_IsPolygon_eq (by omega)]
    simp only [g, decide_true, Bool.not_true, cond_false, gbind_eq, Option.bind_some, e]
  · unfold spec_TellFirst
    rw [spec_pgGood_eq (by omega)]
    simp only [g, decide_true, Bool.not_true, cond_false, gbind_eq, Option.bind_some, e1]
open Classical in
theorem polyV {L : Nat} {a : List Pt} (hL : 5000 < L) : impl_IsPolygon L a = some (decide (Good_ a)) ∧ spec_IsPolygon L a = some (decide (Good_ a)) := by
  unfold spec_IsPolygon
  rw [impl_IsPolygon_eq (by omega), spec_pgGood_eq (by omega)]
  simp only [gbind_eq, Option.bind_some, and_self]
theorem badV {L : Nat} {a : List Pt} (h : ¬ Good_ a) (hL : 5000 < L) :
    (impl_ListInside L a = some ([], false) ∧ spec_ListInside L a = some ([], false)) ∧ (impl_TwiceArea L a = some (0, false) ∧ spec_TwiceArea L a = some (0, false)) ∧ (impl_PegsOn L a = some (0, false) ∧ spec_PegsOn L a = some (0, false)) ∧
    (impl_PegsInside L a = some (0, false) ∧ spec_PegsInside L a = some (0, false)) ∧ (impl_IsConvex L a = some (false, false) ∧ spec_IsConvex L a = some (false, false)) ∧ (impl_BackPolygon L a = some ([], false) ∧ spec_BackPolygon L a = some ([], false)) ∧
    (impl_TellFirst L a = some ([], false) ∧ spec_TellFirst L a = some ([], false)) := by
  unfold impl_ListInside spec_ListInside impl_TwiceArea spec_TwiceArea impl_PegsOn spec_PegsOn impl_PegsInside spec_PegsInside impl_IsConvex spec_IsConvex impl_BackPolygon spec_BackPolygon impl_TellFirst spec_TellFirst
  rw [impl_IsPolygon_eq (by omega), spec_pgGood_eq (by omega)]
  simp only [h, decide_false, Bool.not_false, cond_true, gbind_eq, Option.bind_some, and_self]
theorem cvx_tour {a : List Pt} {k s : Int} (g : Good_ a) (hs : s = 1 ∨ s = -1) : Cvx (tour a k s a.length) ↔ Cvx a := by
  have hn := g.nn
  have lo := g.lo
  have key : ∀ i, sg (turn (pt (tour a k s a.length) i) (pt (tour a k s a.length) (i + 1)) (pt (tour a k s a.length) (i + 2))) = s * sg (if s = 1 then turn (pt a (k + i)) (pt a (k + i + 1)) (pt a (k + i + 2)) else turn (pt a (k - i - 2)) (pt a (k - i - 2 + 1)) (pt a (k - i - 2 + 2))) := fun i => by
    rw [pt_tour' hn, pt_tour' hn, pt_tour' hn]
    rcases hs with rfl | rfl
    · rw [if_pos rfl, Int.one_mul, Int.mul_one, Int.mul_one, Int.mul_one, show k + (i + 1) = k + i + 1 by omega, show k + (i + 2) = k + i + 2 by omega]
    · rw [if_neg (by decide), ← sg_flip (.inr rfl)]
      congr 1
      rw [show k + i * -1 = k - i - 2 + 2 by omega, show k + (i + 1) * -1 = k - i - 2 + 1 by omega, show k + (i + 2) * -1 = k - i - 2 by omega]
      unfold turn; grind
  have ar : sg (area (tour a k s a.length)) = s * sg (area a) := by rw [area_tour hn hs, sg_flip hs]
  constructor
  · intro h i _ _
    have h' := Cvx.all (by intro e; have := tour_len a k s a.length; rw [e] at this; simp at this; omega) h
    rcases hs with rfl | rfl
    · have := h' (i - k)
      rw [key, ar, if_pos rfl, show k + (i - k) = i by omega] at this
      omega
    · have := h' (k - i - 2)
      rw [key, ar, if_neg (by decide), show k - (k - i - 2) - 2 = i by omega] at this
      omega
  · intro h i _ _
    have h' := Cvx.all hn h
    rw [key, ar]
    congr 1
    rcases hs with rfl | rfl
    · rw [if_pos rfl]; exact h' _
    · rw [if_neg (by decide)]; exact h' _
theorem sg_area {a : List Pt} (g : Good_ a) : sg (area a) = 1 ∨ sg (area a) = -1 := by
  have := (pick_rule g).2
  unfold sg
  split
  · exact .inl rfl
  · right; rw [if_pos (by omega)]
theorem pegs2 {L : Nat} {l : List Pt} (hl : (l.length : Int) ≤ 10) (hin : ∀ p ∈ l, In p) (hL : 5000 < L) : impl_arePegs L l = some true := by
  have := arePegs_eq (L := L) (a := l) (by omega) (by omega)
  refine this.2 fun i h0 h1 => hin _ (pt_mem2 (fun e => ?_) i)
  rw [e] at h1; simp at h1; omega
end Go.AM
namespace Go.AM
set_option maxRecDepth 100000
theorem pegsLineV {L : Nat} {p q : Pt} (hp : In p) (hq : In q) (hne : p ≠ q) (hL : 5000 < L) : impl_PegsOnLine L p.x p.y q.x q.y = some (step p q + 1, true) := by
  have hb := step_bd hp.nr hq.nr
  have e : ¬ (decide (p.x = q.x) && decide (p.y = q.y)) = true := fun c => hne (pt_eq_iff.1 c)
  unfold impl_PegsOnLine
  rw [pegs2 (l := [⟨p.x, p.y⟩, ⟨q.x, q.y⟩]) (by simp) (fun r hr => by
    simp at hr
    rcases hr with rfl | rfl
    · exact hp
    · exact hq) hL]
  simp only [gbind_eq, Option.bind_some, Bool.not_true, cond_false, ieq_eq, Bool.eq_false_iff.2 e, impl_steps_eq hp.nr hq.nr (show 3000 < L by omega), iadd_eq]
  rw [wr_id (by omega)]
open Classical in
theorem onLineV {L : Nat} {p q r : Pt} (hp : In p) (hq : In q) (hr : In r) (hne : p ≠ q) (hL : 5000 < L) : impl_IsOnLine L p.x p.y q.x q.y r.x r.y = some (decide (OnL p q r), true) := by
  have e : ¬ (decide (p.x = q.x) && decide (p.y = q.y)) = true := fun c => hne (pt_eq_iff.1 c)
  unfold impl_IsOnLine
  rw [pegs2 (l := [⟨p.x, p.y⟩, ⟨q.x, q.y⟩, ⟨r.x, r.y⟩]) (by simp) (fun v hv => by
    simp at hv
    rcases hv with rfl | rfl | rfl
    · exact hp
    · exact hq
    · exact hr) hL]
  simp only [gbind_eq, Option.bind_some, Bool.not_true, cond_false, ieq_eq, Bool.eq_false_iff.2 e, impl_isOn_eq hp.nr hq.nr hr.nr]
theorem Good_.line {a : List Pt} (g : Good_ a) (i : Int) : pt a i ≠ pt a (i + 1) := fun e => by
  have := g.sp.line i
  apply this
  unfold rc; rw [e]
theorem rem_facts {a : List Pt} (hn : a ≠ []) {i : Int} (h : 0 ≤ i) : 0 ≤ irem i (a.length : Int) ∧ irem i (a.length : Int) < (a.length : Int) := by
  have hl : 0 < (a.length : Int) := by have := List.length_pos_iff.2 hn; omega
  rw [irem_nn h]
  exact ⟨Int.emod_nonneg _ (by omega), Int.emod_lt_of_pos _ hl⟩
theorem ph_l11 {L : Nat} {a : List Pt} {q : Pt} (g : Good_ a) (hq : In q) (hL : 5000 < L) : ∀ (m i : Nat) (f : Bool), i ≤ a.length → a.length - i < m → (f = true ∨ ∃ j : Nat, i ≤ j ∧ j < a.length ∧ OnL (pt a j) (pt a ((j : Int) + 1)) q) →
    laws_FnPickHolds_l11 L (a, q.x, q.y) m f i = some true := by
  have hh := g.hi
  have hn := g.nn
  intro m
  induction m with
  | zero => intro i f _ h; omega
  | succ m ih =>
    intro i f hi hm hf
    rw [laws_FnPickHolds_l11]
    simp only [ilen_mapep, ilt_eq, ile_eq, ieq_eq, iadd_eq]
    by_cases h : i < a.length
    · have wi : wr IntKind.i64 ((i : Int) + 1) = (i : Int) + 1 := wr_id (by omega)
      have g1 := lget_rem (a := a) (i := (i : Int) + 1) (by omega) hn
      obtain ⟨q1, q2⟩ := rem_facts hn (i := (i : Int) + 1) (by omega)
      have ol := onLineV (L := L) (g.all i) (g.all ((i : Int) + 1)) hq (g.line i) hL
      have ih' := fun f => ih (i + 1) f (by omega) (by omega)
      rw [show ((i + 1 : Nat) : Int) = (i : Int) + 1 by omega] at ih'
      simp only [show (i : Int) < (a.length : Int) by omega, show (0 : Int) ≤ (i : Int) by omega, decide_true, Bool.and_self, cond_true, lget_pt (a := a) (i := (i : Int)) (by omega) (by omega), gbind_eq, Option.bind_some, show ¬ ((a.length : Int) = 0) by omega, decide_false, cond_false, wi, q1, q2, g1, ol]
      cases f with
      | true =>
        simp only [cond_true]
        exact ih' true (.inl rfl)
      | false =>
        simp only [cond_false]
        by_cases c : OnL (pt a i) (pt a ((i : Int) + 1)) q
        · simp only [c, decide_true]
          exact ih' true (.inl rfl)
        · simp only [c, decide_false]
          refine ih' false ?_
          rcases hf with hf | ⟨j, j0, j1, hj⟩
          · cases hf
          · by_cases e : j = i
            · subst e; exact absurd hj c
            · exact .inr ⟨j, by omega, j1, hj⟩
    · simp only [show ¬ ((i : Int) < (a.length : Int)) by omega, decide_false, cond_false]
      rcases hf with hf | ⟨j, j0, j1, _⟩
      · rw [hf]
      · omega
theorem wh_zero {a : List Pt} {q : Pt} (h : wh a q = 0) : Rim a q := by
  unfold wh at h
  by_cases c : Rim a q
  · exact c
  · rw [if_neg c] at h
    split at h <;> omega
theorem drawWhere {L : Nat} {a : List Int} (hb : By a) (hL : 6000 < L) : ∃ l x y, spec_DrawWhereIs L a = some (l, x, y) := by
  unfold spec_DrawWhereIs
  obtain ⟨l, t1, s1, e1, _, _, h1, h2⟩ := polygon_dr (L := L) (t := 0) (s := 0) (n := 5) hb (by omega) (by omega) (by omega)
  obtain ⟨x, y, t2, s2, e2, _⟩ := peg_dr (L := L) (t := t1) (s := s1) hb (by omega)
  simp only [e1, e2, gbind_eq, Option.bind_some]
  exact ⟨l, x, y, rfl⟩
theorem ph_j10 {L : Nat} {b : List Int} (hb : By b) (hL : 6000 < L) : laws_FnPickHolds_j10 L b = some true := by
  unfold laws_FnPickHolds_j10
  obtain ⟨l, x, y, e⟩ := drawWhere (L := L) hb hL
  simp only [e, gbind_eq, Option.bind_some]
  by_cases h : Good_ l ∧ In ⟨x, y⟩
  · obtain ⟨g, hq⟩ := h
    obtain ⟨w1, w2⟩ := whereV (L := L) g hq (by omega)
    simp only at w1 w2
    simp only [w1, w2, Option.bind_some, beqb_eq, beq_self_eq_true, Bool.not_true, cond_false, cond_true, ieq_eq, decide_true]
    by_cases c : wh l ⟨x, y⟩ = 0
    · simp only [c, decide_true, cond_true]
      obtain ⟨i, i0, i1, hi⟩ := wh_zero c
      exact ph_l11 (q := ⟨x, y⟩) g hq (by omega) L 0 false (by omega) (by have := g.hi; omega) (.inr ⟨i.toNat, by omega, by omega, by rw [Int.toNat_of_nonneg i0]; exact hi⟩)
    · simp only [c, decide_false, cond_false]
  · obtain ⟨w1, w2⟩ := where_bad (L := L) (a := l) (q := ⟨x, y⟩) h (by omega)
    simp only at w1 w2
    simp only [w1, w2, Option.bind_some, beqb_eq, beq_self_eq_true, Bool.not_true, cond_false, ieq_eq, decide_true]
theorem ph_l18 {L : Nat} {b : List Int} {c : List Pt} {t : Bool} (hb : By b) (hL : 6000 < L) (hn : c ≠ []) (hs : (c.length : Int) ≤ 1000) (hmin : ∀ i, ¬ Less (pt c i) (pt c 0)) : ∀ (m i : Nat), i ≤ c.length → c.length - i < m →
    laws_FnPickHolds_l18 L b (c, t) m i = some true := by
  have hl : 0 < (c.length : Int) := by have := List.length_pos_iff.2 hn; omega
  intro m
  induction m with
  | zero => intro i _ h; omega
  | succ m ih =>
    intro i hi hm
    rw [laws_FnPickHolds_l18]
    simp only [ilen_mapep, ilt_eq, ile_eq, iadd_eq]
    by_cases h : i < c.length
    · have wi : wr IntKind.i64 ((i : Int) + 1) = ((i + 1 : Nat) : Int) := by rw [wr_id (by omega)]; omega
      have ls : lsub c 0 (0 + 1) = [pt c 0] := by
        rw [lsub_eq]
        have := pt_get (a := c) (i := 0) (by omega) hl
        match c, hn with
        | p :: c, _ =>
          simp at this
          simp [← this]
      simp only [show (i : Int) < (c.length : Int) by omega, show (0 : Int) ≤ (i : Int) by omega, show (0 : Int) ≤ 1 by omega, show (1 : Int) ≤ (c.length : Int) by omega, decide_true, Bool.and_self, cond_true, lget_pt (a := c) (i := (i : Int)) (by omega) (by omega), gbind_eq, Option.bind_some, ls, zLessV (L := L) (show 5 < L by omega), hmin, decide_false, cond_false, wi]
      exact ih (i + 1) (by omega) (by omega)
    · simp only [show ¬ ((i : Int) < (c.length : Int)) by omega, decide_false, cond_false]
      exact ph_j10 hb hL
def stp (a : List Pt) (i : Nat) : Int := sm (fun j => step (pt a j) (pt a (j + 1))) i
theorem stp_bd {a : List Pt} (hin : ∀ i, Nr (pt a i)) (i : Nat) : -(i * 4000 : Int) ≤ stp a i ∧ stp a i ≤ i * 4000 := sm_bd (fun j => step_bd (hin _) (hin _)) i
open Classical in
theorem ph_l13 {L : Nat} {a : List Pt} {b : List Int} {k : Int} (g : Good_ a) (hb : By b) (hL : 300000 < L) (hk : IsMin a k a.length) (hf : impl_tellFirst L a = some (tour a k (sg (area a)) a.length)) : ∀ (m i : Nat), i ≤ a.length → a.length - i < m →
    laws_FnPickHolds_l13 L b a (area a, true) (round a, true) (decide (Cvx a), true) (tour a 0 (-1) a.length, true) (tour a k (sg (area a)) a.length, true) m (stp a i) i = some true := by
  have hh := g.hi
  have lo := g.lo
  have hn := g.nn
  have ss := sg_area g
  have nr : ∀ i, Nr (pt a i) := fun i => (g.all i).nr
  have gB := good_tour (k := 0) (s := -1) g (.inr rfl)
  have gF := good_tour (k := k) g ss
  have lB := tour_len a 0 (-1) a.length
  have lF := tour_len a k (sg (area a)) a.length
  intro m
  induction m with
  | zero => intro i _ h; omega
  | succ m ih =>
    intro i hi hm
    rw [laws_FnPickHolds_l13]
    simp only [ilen_mapep, ilt_eq, ile_eq, ieq_eq, iadd_eq, isub_eq]
    by_cases h : i < a.length
    · have wi : wr IntKind.i64 ((i : Int) + 1) = (i : Int) + 1 := wr_id (by omega)
      have g1 := lget_rem (a := a) (i := (i : Int) + 1) (by omega) hn
      obtain ⟨q1, q2⟩ := rem_facts hn (i := (i : Int) + 1) (by omega)
      have wv := (whereV (L := L) g (g.all (i : Int)) (by omega)).1
      have w0 : wh a (pt a i) = 0 := by
        unfold wh
        rw [if_pos]
        exact ⟨i, by omega, by omega, by unfold turn; grind, by simp, by simp⟩
      rw [w0] at wv
      have pl := pegsLineV (L := L) (g.all i) (g.all ((i : Int) + 1)) (g.line i) (by omega)
      have sb := step_bd (nr (i : Int)) (nr ((i : Int) + 1))
      have tb := stp_bd nr i
      have ws : wr IntKind.i64 (stp a i + wr IntKind.i64 (step (pt a i) (pt a ((i : Int) + 1)) + 1 - 1)) = stp a (i + 1) := by
        rw [show step (pt a i) (pt a ((i : Int) + 1)) + 1 - 1 = step (pt a i) (pt a ((i : Int) + 1)) by omega, wr_id (n := step (pt a i) (pt a ((i : Int) + 1))) (by omega), wr_id (by omega)]
        rfl
      have ih' := ih (i + 1) (by omega) (by omega)
      rw [show ((i + 1 : Nat) : Int) = (i : Int) + 1 by omega] at ih'
      simp only [show (i : Int) < (a.length : Int) by omega, show (0 : Int) ≤ (i : Int) by omega, decide_true, Bool.and_self, cond_true, lget_pt (a := a) (i := (i : Int)) (by omega) (by omega), gbind_eq, Option.bind_some, show ¬ ((a.length : Int) = 0) by omega, decide_false, cond_false, wi, q1, q2, g1, wv, pl, Bool.not_true, ws]
      exact ih'
    · have e : i = a.length := by omega
      subst e
      have a1 := (areaV (L := L) gB (by omega)).1
      rw [area_tour hn (.inr rfl)] at a1
      have b1 := (backV (L := L) gB (by omega)).1
      rw [lB, tour_tours hn, show (0 : Int) + 0 * -1 = 0 by omega, show (-1 : Int) * -1 = 1 by omega, tour_id hn] at b1
      have a2 := (areaV (L := L) gF (by omega)).1
      rw [area_tour hn ss, sg_mul_self] at a2
      have f1 : impl_TellFirst L (tour a 0 (-1) a.length) = some (tour a k (sg (area a)) a.length, true) := by
        unfold impl_TellFirst
        rw [impl_IsPolygon_eq (by omega), tellFirst_tour g (.inr rfl) (by omega), hf]
        simp only [gB, decide_true, Bool.not_true, cond_false, gbind_eq, Option.bind_some]
      have c1 := (convexV (L := L) gF (by omega)).1
      have ec : decide (Cvx (tour a k (sg (area a)) a.length)) = decide (Cvx a) := decide_eq_decide.2 (cvx_tour g ss)
      rw [ec] at c1
      have es : stp a a.length = round a := rfl
      have ab := area_bd (a := a) (by omega) nr
      have z1 := zPegsV (L := L) (a := a) (by omega) (by omega)
      have z2 := zPegsV (L := L) (a := tour a k (sg (area a)) a.length) (by rw [lF]; omega) (by omega)
      have za := zAbsV (L := L) (n := area a) (by omega)
      have hmin : ∀ i, ¬ Less (pt (tour a k (sg (area a)) a.length) i) (pt (tour a k (sg (area a)) a.length) 0) := fun i => by
        rw [pt_tour' hn, pt_tour' hn, Int.zero_mul, Int.add_zero]
        exact isMin_all hn hk _
      have l18 := ph_l18 (L := L) (t := true) hb (by omega) gF.nn (by rw [lF]; omega) hmin L 0 (by omega) (by rw [lF]; omega)
      simp only [show ¬ ((a.length : Int) < (a.length : Int)) by omega, decide_false, cond_false, a1, b1, a2, f1, c1, gbind_eq, Option.bind_some, es, decide_true, Bool.not_true]
      rw [show (0 : Int) - area a = -1 * area a by omega, wr_id (n := -1 * area a) (by omega)]
      unfold laws_FnPickHolds_j14 laws_FnPickHolds_j15 laws_FnPickHolds_j16 laws_FnPickHolds_j17
      simp only [decide_true, Bool.not_true, cond_false, gbind_eq, z1, z2, za, Option.bind_some, ieq_eq, beqb_eq, beq_self_eq_true]
      exact l18
open Classical in
theorem ph_l12 {L : Nat} {a : List Pt} {b : List Int} {k : Int} (g : Good_ a) (hb : By b) (hL : 300000 < L) (hk : IsMin a k a.length) (hf : impl_tellFirst L a = some (tour a k (sg (area a)) a.length)) {l : List Pt} (hl : l.length ≤ 10000) (hm : ∀ q ∈ l, In q ∧ 0 < wh a q) (hp : l.Pairwise Less) : ∀ (m i : Nat), i ≤ l.length → l.length - i < m →
    laws_FnPickHolds_l12 L b a (l, true) (area a, true) (round a, true) (decide (Cvx a), true) (tour a 0 (-1) a.length, true) (tour a k (sg (area a)) a.length, true) m i = some true := by
  intro m
  induction m with
  | zero => intro i _ h; omega
  | succ m ih =>
    intro i hi hmm
    rw [laws_FnPickHolds_l12]
    simp only [ilen_mapep, ilt_eq, ile_eq, ieq_eq, iadd_eq, isub_eq]
    by_cases h : i < l.length
    · have wi : wr IntKind.i64 ((i : Int) + 1) = ((i + 1 : Nat) : Int) := by rw [wr_id (by omega)]; omega
      have wi' : wr IntKind.i64 ((i : Int) - 1) = (i : Int) - 1 := wr_id (by omega)
      have ln : l ≠ [] := by intro e; subst e; simp at h
      obtain ⟨hin, hw⟩ := hm _ (pt_mem2 ln (i : Int))
      have wv := (whereV (L := L) g hin (by omega)).1
      have w1 : wh a (pt l i) = 1 := by
        revert hw
        unfold wh
        split
        · omega
        · split <;> omega
      rw [w1] at wv
      have ih' := ih (i + 1) (by omega) (by omega)
      simp only [show (i : Int) < (l.length : Int) by omega, show (0 : Int) ≤ (i : Int) by omega, decide_true, Bool.and_self, cond_true, lget_pt (a := l) (i := (i : Int)) (by omega) (by omega), gbind_eq, Option.bind_some, wv, Bool.not_true, cond_false, wi]
      by_cases h0 : (0 : Int) < (i : Int)
      · have hless : Less (pt l ((i : Int) - 1)) (pt l (i : Int)) := by
          have := List.pairwise_iff_getElem.1 hp (i - 1) i (by omega) h (by omega)
          have e1 := pt_get (a := l) (i := ((i - 1 : Nat) : Int)) (by omega) (by omega)
          have e2 := pt_get (a := l) (i := (i : Int)) (by omega) (by omega)
          rw [Int.toNat_natCast, List.getElem?_eq_getElem (by omega)] at e1 e2
          rw [Option.some.inj e1, Option.some.inj e2] at this
          rwa [show ((i - 1 : Nat) : Int) = (i : Int) - 1 by omega] at this
        simp only [h0, decide_true, cond_true, wi', show (0 : Int) ≤ (i : Int) - 1 by omega, show (i : Int) - 1 < (l.length : Int) by omega, Bool.and_self, lget_pt (a := l) (i := (i : Int) - 1) (by omega) (by omega), Option.bind_some, zLessV (L := L) (show 5 < L by omega), hless, Bool.not_true, cond_false]
        exact ih'
      · simp only [h0, decide_false, cond_false]
        exact ih'
    · simp only [show ¬ ((i : Int) < (l.length : Int)) by omega, decide_false, cond_false]
      exact ph_l13 g hb hL hk hf L 0 (by omega) (by have := g.hi; omega)
theorem drawPoly_l0 {L : Nat} {a : List Int} (hb : By a) (hL : 6000 < L) : ∀ (m : Nat) (v t s : Int) (w : List Pt), 0 ≤ v → v ≤ 30 → 0 ≤ t → t + 4 * v ≤ 600000 → (w.length : Int) + v ≤ 40 → v < m → ∃ l, spec_DrawIsPolygon_l0 L a m v t s w = some l ∧ l.length ≤ 40 := by
  intro m
  induction m with
  | zero => intro v t s w _ _ _ _ _ h; omega
  | succ m ih =>
    intro v t s w hv hv2 ht htt hw hm
    rw [spec_DrawIsPolygon_l0]
    simp only [ilt_eq, isub_eq]
    by_cases h : 0 < v
    · obtain ⟨x, y, t1, s1, e1, hin, ht1, ht2⟩ := surePeg_dr (L := L) (s := s) (n := 2) hb (show 0 ≤ t ∧ t ≤ 800000 by omega) (by omega)
      have hf : fits (iadd (w.length : Int) 1) 16 = true := by rw [iadd_eq, fits_eq]; exact decide_eq_true (by omega)
      simp only [h, decide_true, cond_true, e1, gbind_eq, Option.bind_some, ilen_mapep, ilen_ag, hf, lcat_eq]
      rw [wr_id (n := v - 1) (by omega)]
      exact ih (v - 1) t1 s1 (w ++ [⟨x, y⟩]) (by omega) (by omega) (by omega) (by omega) (by simp; omega) (by omega)
    · simp only [h, decide_false, cond_false]
      exact ⟨w, rfl, by omega⟩
theorem drawPoly {L : Nat} {a : List Int} (hb : By a) (hL : 6000 < L) : ∃ l, spec_DrawListInside L a = some l ∧ l.length ≤ 40 := by
  unfold spec_DrawListInside spec_DrawIsPolygon
  obtain ⟨r, t1, s1, e1, h1, h2⟩ := one_dr (L := L) (t := 0) (s := 0) (n := 4) hb (by omega) (by omega)
  simp only [e1, gbind_eq, Option.bind_some]
  cases r with
  | true =>
    obtain ⟨k, t2, s2, e2, hk, h3, h4⟩ := pick_dr (L := L) (t := t1) (s := s1) (n := 6) hb (by omega) (by omega)
    obtain ⟨l, e3, h5⟩ := drawPoly_l0 (L := L) hb hL L k t2 s2 [] (by omega) (by omega) (by omega) (by omega) (by simp; omega) (by omega)
    simp only [cond_true, e2, e3, Option.bind_some]
    exact ⟨l, rfl, h5⟩
  | false =>
    obtain ⟨l, t2, s2, e2, h3, h4, h5, h6⟩ := polygon_dr (L := L) (t := t1) (s := s1) (n := 5) hb (by omega) (by omega) (by omega)
    simp only [cond_false, e2, Option.bind_some]
    exact ⟨l, rfl, by omega⟩
theorem bigP {L : Nat} {a b : List Int} : ∃ r, laws_big L a b = some r := by
  unfold laws_big
  cases h : ilt 1048576 (ilen (List.map eU a)) <;> simp only [cond_true, cond_false] <;> exact ⟨_, rfl⟩
theorem boxI_len (a : List Pt) (ky : Nat) (y0 : Int) : ∀ (k : Nat) (x : Int), (boxI a ky y0 k x).length ≤ k * ky
  | 0, _ => by simp [boxI]
  | k + 1, x => by
    have h1 := boxI_len a ky y0 k (x + 1)
    have h2 := colI_len a x ky y0
    rw [boxI_s, List.length_append, Nat.add_mul]
    omega
open Classical in
theorem pickHolds_at (a b : List Int) (ha : By a) (hb : By b) {L : Nat} (hL : 300000 < L) : laws_FnPickHolds L a b = some true := by
  unfold laws_FnPickHolds
  obtain ⟨r, hr⟩ := bigP (L := L) (a := a) (b := b)
  simp only [hr, gbind_eq, Option.bind_some]
  cases r with
  | true => rfl
  | false =>
    obtain ⟨l, e1, hlen⟩ := drawPoly (L := L) ha (by omega)
    obtain ⟨p1, p2⟩ := polyV (L := L) (a := l) (by omega)
    simp only [cond_false, e1, Option.bind_some]
    by_cases g : Good_ l
    · have hh := g.hi
      have lo := g.lo
      have nr : ∀ i, Nr (pt l i) := fun i => (g.all i).nr
      simp only [g, decide_true] at p1 p2
      obtain ⟨a1, a2⟩ := listV (L := L) g (by omega)
      obtain ⟨b1, b2⟩ := areaV (L := L) g (by omega)
      obtain ⟨c1, c2⟩ := onV (L := L) g (by omega)
      obtain ⟨d1, d2⟩ := insideV (L := L) g (by omega)
      obtain ⟨f1, f2⟩ := convexV (L := L) g (by omega)
      obtain ⟨g1, g2⟩ := backV (L := L) g (by omega)
      obtain ⟨k, hk, h0, h1, h2⟩ := firstV (L := L) g (by omega)
      have bl := boxI_len l 81 (-40) 81 (-40)
      have bm : ∀ q ∈ boxI l 81 (-40) 81 (-40), In q ∧ 0 < wh l q := fun q hq => by
        obtain ⟨m1, m2, m3, m4, m5⟩ := boxI_mem hq
        exact ⟨by unfold In; omega, m5⟩
      have bp := boxI_pw l 81 (-40) 81 (-40)
      have fl := full_len l
      generalize boxI l 81 (-40) 81 (-40) = I at a1 a2 bl bm bp fl
      have z1 := zPegsV (L := L) (a := I) (by omega) (by omega)
      have z2 := zPegsV (L := L) (a := tour l 0 (-1) l.length) (by rw [tour_len]; omega) (by omega)
      have z3 := zPegsV (L := L) (a := tour l k (sg (area l)) l.length) (by rw [tour_len]; omega) (by omega)
      have pr := pick_rule g
      have rg := g.round_ge
      have ab := area_bd (a := l) (by omega) nr
      have za := zAbsV (L := L) (n := area l) (by omega)
      have l12 := ph_l12 (L := L) g hb hL hk h0 (l := I) (by omega) bm bp L 0 (by omega) (by omega)
      have cb : 0 ≤ cntI l ∧ cntI l ≤ 100000 := by omega
      simp only [a1, a2, b1, b2, c1, c2, d1, d2, f1, f2, g1, g2, h1, h2, Option.bind_some, beqb_eq, beq_self_eq_true, Bool.not_true, cond_false, z1]
      unfold laws_FnPickHolds_j0 laws_FnPickHolds_j1 laws_FnPickHolds_j2 laws_FnPickHolds_j3 laws_FnPickHolds_j4 laws_FnPickHolds_j5 laws_FnPickHolds_j6 laws_FnPickHolds_j7 laws_FnPickHolds_j8 laws_FnPickHolds_j9
      simp only [cond_false, cond_true, gbind_eq, Option.bind_some, z1, z2, z3, Bool.not_true, ieq_eq, decide_true, beqb_eq, beq_self_eq_true, p1, p2, ilen_mapep, ilt_eq, za, imul_eq, iadd_eq, isub_eq, fl]
      rw [wr_id (n := 2 * cntI l) (by omega), wr_id (n := 2 * cntI l + round l) (by omega), wr_id (n := 2 * cntI l + round l - 2) (by omega)]
      simp only [show ((area l).natAbs : Int) = 2 * cntI l + round l - 2 by omega, decide_true, Bool.not_true, cond_false, pr.2, decide_false, show ¬ (round l < (l.length : Int)) by omega]
      exact l12
    · simp only [g, decide_false] at p1 p2
      obtain ⟨⟨a1, a2⟩, ⟨b1, b2⟩, ⟨c1, c2⟩, ⟨d1, d2⟩, ⟨f1, f2⟩, ⟨g1, g2⟩, h1, h2⟩ := badV (L := L) g (by omega)
      have z1 := zPegsV (L := L) (a := []) (by simp) (by omega)
      simp only [a1, a2, b1, b2, c1, c2, d1, d2, f1, f2, g1, g2, h1, h2, Option.bind_some, beqb_eq, beq_self_eq_true, Bool.not_true, cond_false, z1]
      unfold laws_FnPickHolds_j0 laws_FnPickHolds_j1 laws_FnPickHolds_j2 laws_FnPickHolds_j3 laws_FnPickHolds_j4 laws_FnPickHolds_j5 laws_FnPickHolds_j6 laws_FnPickHolds_j7 laws_FnPickHolds_j8 laws_FnPickHolds_j9
      simp only [cond_false, cond_true, gbind_eq, Option.bind_some, z1, Bool.not_true, ieq_eq, decide_true, beqb_eq, beq_self_eq_true, p1, p2]
      exact ph_j10 hb (by omega)
theorem pickHolds_law (a b : List Int) (ha : By a) (hb : By b) : ∃ L, laws_FnPickHolds L a b = some true := ⟨300001, pickHolds_at a b ha hb (Nat.lt_succ_self _)⟩
end Go.AM
