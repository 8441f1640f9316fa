import Derived.Test.YtjedbgbiamndnaaGreatAmM0
set_option linter.unusedVariables false
set_option linter.unusedSimpArgs false
set_option linter.unnecessarySimpa false
set_option linter.deprecated false
set_option linter.unusedSectionVars false
namespace Go.AM
open Classical
theorem onL_cases {A B q : Pt} (hne : A ≠ B) (h : OnL A B q) : q = A ∨ q = B ∨ Bt A B q := by
  obtain ⟨hz, hx, hy⟩ := h
  rw [mul_le0] at hx hy
  by_cases eA : q = A
  · exact .inl eA
  by_cases eB : q = B
  · exact .inr (.inl eB)
  right; right
  have z : (B.x - A.x) * (q.y - A.y) = (B.y - A.y) * (q.x - A.x) := by unfold turn at hz; omega
  have nA := pt_ne eA
  have nB := pt_ne eB
  by_cases cx : A.x = B.x
  · have qx : q.x = A.x := by omega
    rcases Int.lt_or_le A.y B.y with c | c
    · exact ⟨q.y - A.y, B.y - q.y, by omega, by omega, by rw [← cx, qx]; grind, by grind⟩
    · exact ⟨A.y - q.y, q.y - B.y, by omega, by omega, by rw [← cx, qx]; grind, by grind⟩
  · have ex : q.x ≠ A.x := by
      intro e
      rw [e, Int.sub_self, Int.mul_zero] at z
      rcases Int.mul_eq_zero.1 z with c | c <;> omega
    have ex2 : q.x ≠ B.x := by
      intro e
      have : (B.x - A.x) * (q.y - B.y) = 0 := by rw [e] at z; grind
      rcases Int.mul_eq_zero.1 this with c | c <;> omega
    rcases Int.lt_or_gt_of_ne cx with c | c
    · exact ⟨q.x - A.x, B.x - q.x, by omega, by omega, by grind, by grind⟩
    · exact ⟨A.x - q.x, q.x - B.x, by omega, by omega, by grind, by grind⟩
theorem bt_ends {A B : Pt} (hne : A ≠ B) : ¬ Bt A B A ∧ ¬ Bt A B B := by
  constructor
  · rintro ⟨p, r, hp, hr, hx, hy⟩
    rw [Int.sub_self, Int.mul_zero] at hx hy
    have a := Int.mul_eq_zero.1 hx.symm
    have b := Int.mul_eq_zero.1 hy.symm
    have := pt_ne hne
    omega
  · rintro ⟨p, r, hp, hr, hx, hy⟩
    rw [Int.sub_self, Int.mul_zero] at hx hy
    have a := Int.mul_eq_zero.1 hx
    have b := Int.mul_eq_zero.1 hy
    have := pt_ne hne
    omega
section
variable {n : Int} {P : Int → Pt}
theorem SP.modn (h : SP n P) (x : Int) : P (x % n) = P x ∧ P (x % n + 1) = P (x + 1) := by
  have n3 := h.n3
  have e : ∀ x, P (x % n) = P x := fun x => by
    have up : ∀ (t : Nat) (x : Int), P (x + t * n) = P x := by
      intro t
      induction t with
      | zero => intro x; simp
      | succ t ih => intro x; rw [show x + ((t + 1 : Nat) : Int) * n = (x + t * n) + n by rw [Int.natCast_add, Int.add_mul]; simp; omega, h.per, ih]
    rcases Int.le_total 0 (x / n) with hq | hq
    · have := up (x / n).toNat (x % n)
      rw [Int.toNat_of_nonneg hq, Int.mul_comm, Int.emod_add_mul_ediv] at this
      exact this.symm
    · have := up (-(x / n)).toNat x
      rw [Int.toNat_of_nonneg (by omega), Int.neg_mul, Int.mul_comm] at this
      rw [← this]; congr 1
      have := Int.emod_add_mul_ediv x n
      omega
  refine ⟨e x, ?_⟩
  rw [← e (x % n + 1), ← e (x + 1)]
  congr 1
  rw [Int.add_emod, Int.emod_emod_of_dvd _ (Int.dvd_refl _), ← Int.add_emod]
theorem SP.line (h : SP n P) (j : Int) : P j ≠ P (j + 1) := h.ne (by omega) (by have := h.n3; omega)
theorem SP.no_corner (h : SP n P) (j i : Int) : ¬ Bt (P j) (P (j + 1)) (P i) := by
  have n3 := h.n3
  obtain ⟨t, t0, t1, e⟩ : ∃ t : Int, 0 ≤ t ∧ t < n ∧ P i = P (j + t) := ⟨(i - j) % n, Int.emod_nonneg _ (by omega), Int.emod_lt_of_pos _ (by omega), by
    rw [← (h.modn (j + (i - j) % n)).1, ← (h.modn i).1]
    congr 1
    rw [Int.add_emod, Int.emod_emod_of_dvd _ (Int.dvd_refl _), ← Int.add_emod]
    congr 1; omega⟩
  rw [e]
  intro hb
  by_cases c0 : t = 0
  · subst c0; rw [Int.add_zero] at hb; exact (bt_ends (h.line j)).1 hb
  by_cases c1 : t = 1
  · subst c1; exact (bt_ends (h.line j)).2 hb
  have on := hb.on
  by_cases c2 : t = 2
  · subst c2; exact h.bend j on.1
  by_cases c3 : t = n - 1
  · subst c3
    have bd := h.bend (j - 1)
    rw [show j - 1 + 1 = j by omega, show j - 1 + 2 = j + 1 by omega] at bd
    have e0 : P (j + (n - 1)) = P (j - 1) := by
      have := h.per (j - 1); rwa [show j - 1 + n = j + (n - 1) by omega] at this
    rw [e0] at on
    have := on.1
    apply bd
    rw [← this]; unfold turn; grind
  exact h.apart j (j + t) (by omega) (by omega) (.inl on)
theorem SP.next_no (h : SP n P) {j : Int} {q : Pt} (h1 : Bt (P j) (P (j + 1)) q) (h2 : Bt (P (j + 1)) (P (j + 2)) q) : False := by
  obtain ⟨p, r, hp, hr, hx, hy⟩ := h1
  have e := bt_aff hx hy (P (j + 1)) (P (j + 2))
  rw [h2.on.1, Int.mul_zero] at e
  have z : turn (P (j + 1)) (P (j + 2)) (P (j + 1)) = 0 := by unfold turn; grind
  rw [z, Int.mul_zero, Int.add_zero] at e
  have bd := h.bend j
  rcases Int.mul_eq_zero.1 e.symm with c | c
  · omega
  · apply bd; rw [← c]; unfold turn; grind
theorem SP.one_line (h : SP n P) {j k : Int} {q : Pt} (j0 : 0 ≤ j) (j1 : j < n) (k0 : 0 ≤ k) (k1 : k < n) (h1 : Bt (P j) (P (j + 1)) q) (h2 : Bt (P k) (P (k + 1)) q) : j = k := by
  have n3 := h.n3
  have key : ∀ j k : Int, 0 ≤ j → j < k → k < n → Bt (P j) (P (j + 1)) q → Bt (P k) (P (k + 1)) q → False := fun j k j0 jk k1 h1 h2 => by
    by_cases c1 : k = j + 1
    · subst c1
      rw [show j + 1 + 1 = j + 2 by omega] at h2
      exact h.next_no h1 h2
    · by_cases c2 : k = j + n - 1
      · have e1 : P (k + 1) = P j := by have := h.per j; rwa [show j + n = k + 1 by omega] at this
        have e2 : P (k + 2) = P (j + 1) := by have := h.per (j + 1); rwa [show j + 1 + n = k + 2 by omega] at this
        exact h.next_no (j := k) h2 (by rw [e1, e2]; exact h1)
      · exact h.apart j k (by omega) (by omega) (meet_common (h.line j) (h.line k) h1 h2.on)
  rcases Int.lt_trichotomy j k with c | c | c
  · exact (key j k j0 c k1 h1 h2).elim
  · exact c
  · exact (key k j k0 c j1 h2 h1).elim
def Off (P : Int → Pt) (q : Pt) : Prop := ∀ k, ¬ OnL (P k) (P (k + 1)) q
noncomputable def insd (n : Int) (P : Int → Pt) (q : Pt) : Int := if Off P q ∧ wnd n P q ≠ 0 then 1 else 0
theorem SP.point (h : SP n P) (q : Pt) : wnd n P q = (2 * kap n P 0 - 1) * insd n P q + sm (fun i => if q = P i then cw n P i else 0) n.toNat + sm (fun j => if Bt (P j) (P (j + 1)) q then kap n P 0 - pp (eg P j) else 0) n.toNat := by
  have n3 := h.n3
  by_cases off : Off P q
  · have s1 : sm (fun i => if q = P i then cw n P i else 0) n.toNat = 0 := sm_zero fun i _ _ => by
      refine if_neg fun e => off i ?_
      rw [e]; exact ⟨by unfold turn; grind, by simp, by simp⟩
    have s2 : sm (fun j => if Bt (P j) (P (j + 1)) q then kap n P 0 - pp (eg P j) else 0) n.toNat = 0 := sm_zero fun j _ _ => if_neg fun e => off j e.on
    rw [s1, s2]
    unfold insd
    rcases h.seen2 off with e | e
    · rw [if_neg (fun c => c.2 e), e]; omega
    · have sd := h.sides
      rw [if_pos ⟨off, by omega⟩, e]; omega
  · obtain ⟨k, hk⟩ : ∃ k, OnL (P k) (P (k + 1)) q := by
      unfold Off at off
      rcases Classical.not_forall.1 off with ⟨k, hk⟩
      exact ⟨k, Classical.not_not.1 hk⟩
    have i0 : insd n P q = 0 := if_neg fun c => off c.1
    rw [i0, Int.mul_zero, Int.zero_add]
    have corner : ∀ i : Int, q = P i → wnd n P q = sm (fun i => if q = P i then cw n P i else 0) n.toNat + sm (fun j => if Bt (P j) (P (j + 1)) q then kap n P 0 - pp (eg P j) else 0) n.toNat := fun i e => by
      have e' : q = P (i % n) := by rw [(h.modn i).1]; exact e
      have a0 := Int.emod_nonneg i (b := n) (by omega)
      have a1 := Int.emod_lt_of_pos i (show 0 < n by omega)
      rw [sm_zero (g := fun j => if Bt (P j) (P (j + 1)) q then kap n P 0 - pp (eg P j) else 0) fun j _ _ => if_neg fun hb => h.no_corner j i (e ▸ hb)]
      rw [sm_only (u := i % n) a0 (by omega) fun j j0 j1 ne => if_neg fun ej => by
        rw [e'] at ej
        rcases Int.lt_or_gt_of_ne ne with c | c
        · exact h.ne (i := j) (j := i % n) c (by omega) ej.symm
        · exact h.ne (i := i % n) (j := j) c (by omega) ej]
      simp only [← e', if_true]
      rw [e', h.wnd_corner]; omega
    rcases onL_cases (h.line k) hk with e | e | e
    · exact corner k e
    · exact corner (k + 1) e
    · obtain ⟨m1, m2⟩ := h.modn k
      have e' : Bt (P (k % n)) (P (k % n + 1)) q := by rw [m1, m2]; exact e
      have a0 := Int.emod_nonneg k (b := n) (by omega)
      have a1 := Int.emod_lt_of_pos k (show 0 < n by omega)
      rw [sm_zero (g := fun i => if q = P i then cw n P i else 0) fun i _ _ => if_neg fun (ei : q = P i) => h.no_corner k i (ei ▸ e)]
      rw [sm_only (u := k % n) a0 (by omega) fun j j0 j1 ne => if_neg fun hb => ne (h.one_line j0 (by omega) a0 a1 hb e')]
      rw [if_pos e', h.wnd_at e']; omega
theorem bt_points {A B : Pt} (hne : A ≠ B) : ∃ u v : Int, B.x - A.x = step A B * u ∧ B.y - A.y = step A B * v ∧ 0 < step A B ∧ (u ≠ 0 ∨ v ≠ 0) ∧ ∀ q, Bt A B q ↔ ∃ t : Int, 0 < t ∧ t < step A B ∧ q = ⟨A.x + t * u, A.y + t * v⟩ := by
  have s1 := step_one hne
  obtain ⟨u, v, hu, hv, g⟩ := prim (x := A.x - B.x) (y := A.y - B.y) rfl (by unfold step at s1; omega)
  have eu : A.x - B.x = step A B * u := hu
  have ev : A.y - B.y = step A B * v := hv
  have nz : -u ≠ 0 ∨ -v ≠ 0 := by
    rcases pt_ne hne with c | c
    · left; intro e; rw [show u = 0 by omega, Int.mul_zero] at eu; omega
    · right; intro e; rw [show v = 0 by omega, Int.mul_zero] at ev; omega
  refine ⟨-u, -v, by rw [Int.mul_neg]; omega, by rw [Int.mul_neg]; omega, by omega, nz, fun q => ?_⟩
  constructor
  · rintro ⟨p, r, hp, hr, hx, hy⟩
    have kx : (p + r) * (q.x - A.x) = p * (step A B * (-u)) := by rw [Int.mul_neg, ← eu]; grind
    have ky : (p + r) * (q.y - A.y) = p * (step A B * (-v)) := by rw [Int.mul_neg, ← ev]; grind
    have pr : 0 < p + r := by omega
    have par : u * (q.y - A.y) = v * (q.x - A.x) := by
      have : (p + r) * (u * (q.y - A.y) - v * (q.x - A.x)) = 0 := by
        have : (p + r) * (u * (q.y - A.y) - v * (q.x - A.x)) = u * ((p + r) * (q.y - A.y)) - v * ((p + r) * (q.x - A.x)) := by grind
        rw [this, kx, ky]; grind
      rcases Int.mul_eq_zero.1 this with c | c <;> omega
    have cop : Nat.Coprime u.natAbs v.natAbs := g
    obtain ⟨t, t1, t2⟩ : ∃ t : Int, q.x - A.x = u * t ∧ q.y - A.y = v * t := by
      by_cases u0 : u = 0
      · have v1 : v.natAbs = 1 := by rw [u0] at g; simpa using g
        have x0 : q.x - A.x = 0 := by
          rw [u0, Int.zero_mul] at par
          rcases Int.mul_eq_zero.1 par.symm with c | c <;> omega
        refine ⟨v * (q.y - A.y), by rw [u0, x0]; simp, ?_⟩
        rcases (show v = 1 ∨ v = -1 by omega) with c | c <;> rw [c] <;> omega
      · have d : u ∣ q.x - A.x := by
          rw [← Int.natAbs_dvd_natAbs]
          refine cop.dvd_of_dvd_mul_left ?_
          rw [← Int.natAbs_mul, Int.natAbs_dvd_natAbs]
          exact ⟨q.y - A.y, par.symm⟩
        obtain ⟨t, ht⟩ := d
        refine ⟨t, ht, ?_⟩
        rw [ht] at par
        have : u * (q.y - A.y - v * t) = 0 := by grind
        rcases Int.mul_eq_zero.1 this with c | c <;> omega
    have tt : (p + r) * (-t) = p * step A B := by
      rw [t1] at kx
      rw [t2] at ky
      rcases nz with c | c
      · have : u * ((p + r) * (-t) - p * step A B) = 0 := by grind
        rcases Int.mul_eq_zero.1 this with d | d <;> omega
      · have : v * ((p + r) * (-t) - p * step A B) = 0 := by grind
        rcases Int.mul_eq_zero.1 this with d | d <;> omega
    have m1 := Int.mul_pos hp (show 0 < step A B by omega)
    have m2 := Int.mul_pos hr (show 0 < step A B by omega)
    have tpos := sgn_mul pr tt
    have tlt := sgn_mul pr (show (p + r) * (step A B - -t) = r * step A B by rw [Int.mul_sub, tt]; grind)
    refine ⟨-t, by omega, by omega, ?_⟩
    cases q
    simp only [Pt.mk.injEq] at *
    constructor <;> grind
  · rintro ⟨t, t0, t1, rfl⟩
    refine ⟨t, step A B - t, t0, by omega, ?_, ?_⟩
    · simp only
      have : B.x = A.x + step A B * (-u) := by rw [Int.mul_neg, ← eu]; omega
      rw [this]; grind
    · simp only
      have : B.y = A.y + step A B * (-v) := by rw [Int.mul_neg, ← ev]; omega
      rw [this]; grind
theorem bs_bt {M : Nat} {A B : Pt} (hne : A ≠ B) (a0 : -(M : Int) ≤ A.x) (a1 : A.x ≤ M) (a2 : -(M : Int) ≤ A.y) (a3 : A.y ≤ M) (b0 : -(M : Int) ≤ B.x) (b1 : B.x ≤ M) (b2 : -(M : Int) ≤ B.y) (b3 : B.y ≤ M) (c : Int) :
    bs M (fun q => if Bt A B q then c else 0) = c * (step A B - 1) := by
  obtain ⟨u, v, hu, hv, s0, nz, hb⟩ := bt_points hne
  have pw' : bs M (fun q => if Bt A B q then c else 0) = bs M (fun q => sm (fun t => if q = ⟨A.x + (t + 1) * u, A.y + (t + 1) * v⟩ then c else 0) (step A B - 1).toNat) := bs_congr fun q _ _ _ _ => by
    by_cases h : Bt A B q
    · rw [if_pos h]
      obtain ⟨t, t0, t1, e⟩ := (hb q).1 h
      rw [sm_only (u := t - 1) (by omega) (by omega) fun i i0 i1 ne => if_neg fun e' => by
        rw [e] at e'
        simp only [Pt.mk.injEq] at e'
        apply ne
        rcases nz with k | k
        · have : (t - (i + 1)) * u = 0 := by have := e'.1; grind
          rcases Int.mul_eq_zero.1 this with d | d <;> omega
        · have : (t - (i + 1)) * v = 0 := by have := e'.2; grind
          rcases Int.mul_eq_zero.1 this with d | d <;> omega]
      rw [if_pos (by rw [show t - 1 + 1 = t by omega]; exact e)]
    · rw [if_neg h, sm_zero fun t t0 t1 => if_neg fun e => h ((hb q).2 ⟨t + 1, by omega, by omega, e⟩)]
  rw [pw', bs_sm]
  have each : sm (fun t => bs M (fun q => if q = ⟨A.x + (t + 1) * u, A.y + (t + 1) * v⟩ then c else 0)) (step A B - 1).toNat = sm (fun _ => c) (step A B - 1).toNat := sm_congr fun t t0 t1 => by
    have on := ((hb ⟨A.x + (t + 1) * u, A.y + (t + 1) * v⟩).2 ⟨t + 1, by omega, by omega, rfl⟩).on
    have ox := on.2.1
    have oy := on.2.2
    rw [mul_le0] at ox oy
    simp only at ox oy
    exact bs_one (v := ⟨A.x + (t + 1) * u, A.y + (t + 1) * v⟩) (by simp only; omega) (by simp only; omega) (by simp only; omega) (by simp only; omega) c
  rw [each, sm_const, Int.mul_comm]
  congr 1
  omega
theorem SP.pick (h : SP n P) {M : Nat} (box : ∀ i, (-(M : Int) ≤ (P i).x ∧ (P i).x ≤ M) ∧ (-(M : Int) ≤ (P i).y ∧ (P i).y ≤ M)) :
    sm (fun i => cross (P i) (P (i + 1))) n.toNat = (2 * kap n P 0 - 1) * (2 * bs M (insd n P) - 2 + sm (fun i => step (P i) (P (i + 1))) n.toNat) := by
  have n3 := h.n3
  have L1 : 2 * bs M (wnd n P) = sm (fun i => cross (P i) (P (i + 1))) n.toNat - sm (fun i => (2 * pp (eg P i) - 1) * step (P i) (P (i + 1))) n.toNat := by
    have e : bs M (wnd n P) = sm (fun i => bs M (fun q => dl (df q (P i)) (df q (P (i + 1))))) n.toNat := by
      rw [← bs_sm]
      refine bs_congr fun q _ _ _ _ => ?_
      unfold wnd pw
      exact sm_congr fun i _ _ => by rw [Int.zero_add]
    rw [e, ← sm_mul, ← sm_add]
    have tel := sm_round (f := fun i => 2 * M * (P i).x - (P i).x * (P i).y + (P i).y + (P i).x) (k := n.toNat) (by
      have : P ((n.toNat : Nat) : Int) = P 0 := by have := h.per 0; rwa [show (0 : Int) + n = (n.toNat : Int) by omega] at this
      simp only [this])
    have pt : sm (fun i => 2 * bs M (fun q => dl (df q (P i)) (df q (P (i + 1))))) n.toNat = sm (fun i => (cross (P i) (P (i + 1)) - (2 * pp (eg P i) - 1) * step (P i) (P (i + 1))) + ((2 * M * (P (i + 1)).x - (P (i + 1)).x * (P (i + 1)).y + (P (i + 1)).y + (P (i + 1)).x) - (2 * M * (P i).x - (P i).x * (P i).y + (P i).y + (P i).x))) n.toNat := sm_congr fun i _ _ => by
      obtain ⟨⟨x1, x2⟩, y1, y2⟩ := box i
      obtain ⟨⟨x3, x4⟩, y3, y4⟩ := box (i + 1)
      rw [edge_sum (h.line i) x1 x2 y1 y2 x3 x4 y3 y4]
      unfold eg cross
      grind
    rw [pt, sm_plus, sm_add, sm_add]
    omega
  have L2 : bs M (wnd n P) = (2 * kap n P 0 - 1) * bs M (insd n P) + sm (fun i => cw n P i) n.toNat + sm (fun j => (kap n P 0 - pp (eg P j)) * (step (P j) (P (j + 1)) - 1)) n.toNat := by
    have e : bs M (wnd n P) = bs M (fun q => (2 * kap n P 0 - 1) * insd n P q + sm (fun i => if q = P i then cw n P i else 0) n.toNat + sm (fun j => if Bt (P j) (P (j + 1)) q then kap n P 0 - pp (eg P j) else 0) n.toNat) := bs_congr fun q _ _ _ _ => h.point q
    rw [e, bs_plus, bs_plus, bs_mul, bs_sm, bs_sm]
    congr 1
    · congr 1
      exact sm_congr fun i _ _ => by
        obtain ⟨⟨x1, x2⟩, y1, y2⟩ := box i
        exact bs_one x1 x2 y1 y2 _
    · exact sm_congr fun i _ _ => by
        obtain ⟨⟨x1, x2⟩, y1, y2⟩ := box i
        obtain ⟨⟨x3, x4⟩, y3, y4⟩ := box (i + 1)
        exact bs_bt (h.line i) x1 x2 y1 y2 x3 x4 y3 y4 _
  have perE : ∀ j, eg P (j + n) = eg P j := fun j => by unfold eg; rw [show j + n + 1 = j + 1 + n by omega, h.per, h.per]
  have c1 := cyc_sum (n := n) (g := fun t => dl (eg P t) (eg P (t + 1))) (by omega) (fun i => by rw [show i + n + 1 = i + 1 + n by omega, perE, perE]) (-1)
  have c2 := cyc_sum (n := n) (g := fun t => pp (eg P t)) (by omega) (fun i => by rw [perE]) (-1)
  have L3 : sm (fun i => cw n P i) n.toNat = n * kap n P 0 - spin n P - sm (fun i => pp (eg P i)) n.toNat := by
    have e : sm (fun i => cw n P i) n.toNat = sm (fun i => (kap n P 0 - dl (eg P (-1 + i)) (eg P (-1 + i + 1))) - pp (eg P (-1 + i))) n.toNat := sm_congr fun i _ _ => by
      have := h.kap_all i
      unfold kap at this
      rw [show -1 + i + 1 = i by omega, show -1 + i = i - 1 by omega]
      unfold kap
      omega
    rw [e, sm_add, sm_add, sm_const, c1, c2]
    unfold spin
    rw [Int.toNat_of_nonneg (by omega)]
  have L4 : sm (fun i => (2 * pp (eg P i) - 1) * step (P i) (P (i + 1))) n.toNat + 2 * sm (fun j => (kap n P 0 - pp (eg P j)) * (step (P j) (P (j + 1)) - 1)) n.toNat = (2 * kap n P 0 - 1) * sm (fun i => step (P i) (P (i + 1))) n.toNat - 2 * (n * kap n P 0) + 2 * sm (fun i => pp (eg P i)) n.toNat := by
    have e : sm (fun i => (2 * pp (eg P i) - 1) * step (P i) (P (i + 1)) + 2 * ((kap n P 0 - pp (eg P i)) * (step (P i) (P (i + 1)) - 1))) n.toNat = sm (fun i => ((2 * kap n P 0 - 1) * step (P i) (P (i + 1)) - 2 * kap n P 0) + 2 * pp (eg P i)) n.toNat := sm_congr fun i _ _ => by grind
    rw [sm_plus, sm_mul] at e
    rw [e, sm_plus, sm_add, sm_mul, sm_mul 2 (fun i => pp (eg P i)), sm_const, Int.toNat_of_nonneg (by omega)]
    have : n * (2 * kap n P 0) = 2 * (n * kap n P 0) := by grind
    omega
  have sd := h.sides
  rw [Int.mul_add, Int.mul_sub]
  have m1 : (2 * kap n P 0 - 1) * (2 * bs M (insd n P)) = 2 * ((2 * kap n P 0 - 1) * bs M (insd n P)) := by grind
  rw [m1]
  rcases sd with ⟨k, s⟩ | ⟨k, s⟩ <;> rw [k] at L2 L3 L4 ⊢ <;> rw [s] at L3 <;> omega
end
end Go.AM
namespace Go.AM
def rt (v : Pt) : Pt := ⟨v.y, -v.x⟩
theorem turn_rt (A B C : Pt) : turn (rt A) (rt B) (rt C) = turn A B C := by unfold turn rt; grind
theorem onL_rt {A B C : Pt} : OnL (rt A) (rt B) (rt C) ↔ OnL A B C := by
  have e : (-A.x - -C.x) * (-B.x - -C.x) = (A.x - C.x) * (B.x - C.x) := by grind
  unfold OnL
  rw [turn_rt]
  unfold rt
  simp only
  rw [e]
  constructor
  · rintro ⟨a, b, c⟩; exact ⟨a, c, b⟩
  · rintro ⟨a, b, c⟩; exact ⟨a, c, b⟩
theorem meet_rt {A B C D : Pt} : Meet (rt A) (rt B) (rt C) (rt D) → Meet A B C D := by
  unfold Meet
  simp only [onL_rt, turn_rt]
  exact id
theorem step_rt (A B : Pt) : step (rt A) (rt B) = step A B := by
  unfold step rt
  simp only
  rw [show (-A.x - -B.x).natAbs = (A.x - B.x).natAbs by omega, Nat.gcd_comm]
theorem cross_rt (A B : Pt) : cross (rt A) (rt B) = cross A B := by unfold cross rt; simp only; grind
theorem Good_.nn {a : List Pt} (g : Good_ a) : a ≠ [] := fun e => by have := g.lo; subst e; simp at this
theorem Good_.all {a : List Pt} (g : Good_ a) (i : Int) : In (pt a i) := in_all g.isIn g.nn i
theorem pt_shift {a : List Pt} (i c : Int) : pt a (i % (a.length : Int) + c) = pt a (i + c) :=
  pt_congr (by rw [Int.add_emod, Int.emod_emod_of_dvd _ (Int.dvd_refl _), ← Int.add_emod])
def rc (a : List Pt) (i : Int) : Pt := rt (pt a i)
theorem Good_.sp {a : List Pt} (g : Good_ a) : SP a.length (rc a) where
  n3 := g.lo
  per i := by unfold rc; rw [pt_per]
  bend i := by
    unfold rc
    rw [turn_rt]
    have h := g.turn (i % (a.length : Int)) (Int.emod_nonneg _ (by have := g.lo; omega)) (Int.emod_lt_of_pos _ (by have := g.lo; omega))
    rwa [pt_mod, pt_shift, pt_shift] at h
  apart i k h1 h2 hm := g.apartAll h1 h2 (meet_rt hm)
theorem dl_tg (A B q : Pt) : dl (df (rt q) (rt A)) (df (rt q) (rt B)) % 2 = if tg A B q = true then 1 else 0 := by
  have e1 : cross (df (rt q) (rt A)) (df (rt q) (rt B)) = turn A B q := by unfold cross df rt turn; simp only; grind
  have b1 : B.y = q.y → turn A B q = (q.y - A.y) * (B.x - q.x) := fun e => by unfold turn; rw [e]; grind
  have a1 : A.y = q.y → turn A B q = (B.y - q.y) * (A.x - q.x) := fun e => by unfold turn; rw [e]; grind
  unfold dl tg
  rw [e1]
  unfold Pos Neg df rt
  simp only [decide_eq_true_eq]
  have up : (((A.y - q.y < 0 ∨ (A.y - q.y = 0 ∧ -A.x - -q.x < 0)) ∧ (0 < B.y - q.y ∨ (B.y - q.y = 0 ∧ 0 < -B.x - -q.x)) ∧ 0 < turn A B q)) ↔ (A.y ≤ q.y ∧ q.y < B.y ∧ 0 < turn A B q) := by
    constructor
    · rintro ⟨p, r, t⟩
      refine ⟨by omega, ?_, t⟩
      rcases r with r | ⟨r, r2⟩
      · omega
      · exfalso
        have := b1 (by omega)
        have := Int.mul_nonneg (show 0 ≤ q.y - A.y by omega) (show 0 ≤ -(B.x - q.x) by omega)
        rw [Int.mul_neg] at this
        omega
    · rintro ⟨p, r, t⟩
      refine ⟨?_, by omega, t⟩
      by_cases e : A.y = q.y
      · right
        refine ⟨by omega, ?_⟩
        have k := a1 e
        rcases Int.lt_or_le q.x A.x with c | c
        · omega
        · exfalso
          have := Int.mul_nonneg (show 0 ≤ B.y - q.y by omega) (show 0 ≤ -(A.x - q.x) by omega)
          rw [Int.mul_neg] at this
          omega
      · omega
  have dn : ((0 < A.y - q.y ∨ (A.y - q.y = 0 ∧ 0 < -A.x - -q.x)) ∧ (B.y - q.y < 0 ∨ (B.y - q.y = 0 ∧ -B.x - -q.x < 0)) ∧ turn A B q < 0) ↔ (B.y ≤ q.y ∧ q.y < A.y ∧ turn A B q < 0) := by
    constructor
    · rintro ⟨p, r, t⟩
      refine ⟨by omega, ?_, t⟩
      rcases p with p | ⟨p, p2⟩
      · omega
      · exfalso
        have := a1 (by omega)
        have := Int.mul_nonneg (show 0 ≤ -(B.y - q.y) by omega) (show 0 ≤ -(A.x - q.x) by omega)
        rw [Int.neg_mul, Int.mul_neg] at this
        omega
    · rintro ⟨p, r, t⟩
      refine ⟨by omega, ?_, t⟩
      by_cases e : B.y = q.y
      · right
        refine ⟨by omega, ?_⟩
        have k := b1 e
        rcases Int.lt_or_le q.x B.x with c | c
        · omega
        · exfalso
          have := Int.mul_nonneg (show 0 ≤ -(q.y - A.y) by omega) (show 0 ≤ -(B.x - q.x) by omega)
          rw [Int.neg_mul, Int.mul_neg] at this
          omega
      · omega
  simp only [up, dn]
  by_cases c1 : A.y ≤ q.y ∧ q.y < B.y ∧ 0 < turn A B q
  · rw [if_pos c1, if_pos (.inl c1)]; rfl
  · rw [if_neg c1]
    by_cases c2 : B.y ≤ q.y ∧ q.y < A.y ∧ turn A B q < 0
    · rw [if_pos c2, if_pos (.inr c2)]; rfl
    · rw [if_neg c2, if_neg (fun c => c.elim c1 c2)]; rfl
theorem xr_odd {f : Int → Int} {t : Int → Bool} (h : ∀ i, f i % 2 = if t i = true then 1 else 0) : ∀ k : Nat, sm f k % 2 = if xr t k = true then 1 else 0
  | 0 => rfl
  | k + 1 => by
    have ih := xr_odd h k
    have hk := h k
    show (sm f k + f k) % 2 = _
    have e : (xr t (k + 1) = true) ↔ ¬ (xr t k = true ↔ t k = true) := by
      show (xor (xr t k) (t k) = true) ↔ _
      by_cases h1 : xr t k = true <;> by_cases h2 : t k = true <;> simp [h1, h2]
    by_cases h1 : xr t k = true <;> by_cases h2 : t k = true
    · rw [if_pos h1] at ih; rw [if_pos h2] at hk; rw [if_neg (fun c => e.1 c ⟨fun _ => h2, fun _ => h1⟩)]; omega
    · rw [if_pos h1] at ih; rw [if_neg h2] at hk; rw [if_pos (e.2 fun c => h2 (c.1 h1))]; omega
    · rw [if_neg h1] at ih; rw [if_pos h2] at hk; rw [if_pos (e.2 fun c => h1 (c.2 h2))]; omega
    · rw [if_neg h1] at ih; rw [if_neg h2] at hk; rw [if_neg (fun c => e.1 c ⟨fun x => absurd x h1, fun x => absurd x h2⟩)]; omega
theorem wnd_par (a : List Pt) (q : Pt) : wnd a.length (rc a) (rt q) % 2 = if par a q 0 a.length = true then 1 else 0 := by
  rw [par_xr]
  unfold wnd pw rc
  rw [show (a.length : Int).toNat = a.length by omega]
  exact xr_odd (fun i => dl_tg _ _ _) _
theorem rim_off {a : List Pt} (g : Good_ a) (q : Pt) : Rim a q ↔ ¬ Off (rc a) (rt q) := by
  unfold Off
  constructor
  · rintro ⟨i, _, _, h⟩ c
    exact c i (onL_rt.2 h)
  · intro h
    rcases Classical.not_forall.1 h with ⟨k, hk⟩
    have hk := onL_rt.1 (Classical.not_not.1 hk)
    have lo := g.lo
    refine ⟨k % (a.length : Int), Int.emod_nonneg _ (by omega), Int.emod_lt_of_pos _ (by omega), ?_⟩
    rw [pt_mod, pt_shift]; exact hk
theorem wh_insd {a : List Pt} (g : Good_ a) (q : Pt) : insd a.length (rc a) (rt q) = if 0 < wh a q then 1 else 0 := by
  unfold insd wh
  by_cases hr : Rim a q
  · rw [if_neg (fun c => (rim_off g q).1 hr c.1), if_pos hr]; rfl
  · have off : Off (rc a) (rt q) := Classical.not_not.1 fun c => hr ((rim_off g q).2 c)
    have p := wnd_par a q
    have sd := g.sp.sides
    rw [if_neg hr]
    rcases g.sp.seen2 off with e | e
    · rw [e] at p
      have hp : par a q 0 a.length = false := by
        cases hc : par a q 0 a.length with
        | false => rfl
        | true => rw [hc] at p; simp at p
      rw [if_neg (fun c => c.2 e), hp]; rfl
    · have hp : par a q 0 a.length = true := by
        cases hc : par a q 0 a.length with
        | true => rfl
        | false =>
          rw [hc, e] at p
          rcases sd with ⟨k, _⟩ | ⟨k, _⟩ <;> rw [k] at p <;> simp at p
      rw [if_pos ⟨off, by omega⟩, hp]; rfl
theorem sm_swap (F : Int → Int → Int) (b : Nat) : ∀ a : Nat, sm (fun i => sm (fun j => F i j) b) a = sm (fun j => sm (fun i => F i j) a) b
  | 0 => (sm_zero fun j _ _ => rfl).symm
  | a + 1 => by
    have ih := sm_swap F b a
    show sm (fun i => sm (fun j => F i j) b) a + sm (fun j => F a j) b = sm (fun j => sm (fun i => F i j) a + F a j) b
    rw [ih, sm_plus]
theorem bs_rt (M : Nat) (f : Pt → Int) : bs M (fun p => f (rt p)) = bs M f := by
  unfold bs
  have e : sm (fun i => sm (fun j => f (rt ⟨i - M, j - M⟩)) (2 * M + 1)) (2 * M + 1) = sm (fun i => sm (fun j => f ⟨j - M, (((2 * M + 1 : Nat) : Int) - 1 - i) - M⟩) (2 * M + 1)) (2 * M + 1) := sm_congr fun i _ _ => sm_congr fun j _ _ => by
    unfold rt; simp only; congr 2; omega
  rw [e, sm_swap]
  exact sm_congr fun j _ _ => sm_revU (fun i => f ⟨j - M, i - M⟩) _
noncomputable def cntI (a : List Pt) : Int := bs 40 (fun q => if 0 < wh a q then 1 else 0)
theorem cntI_eq {a : List Pt} (g : Good_ a) : bs 40 (insd a.length (rc a)) = cntI a := by
  rw [← bs_rt]
  exact bs_congr fun q _ _ _ _ => wh_insd g q
theorem sm_ge {f : Int → Int} {c : Int} : ∀ {k : Nat}, (∀ i : Int, 0 ≤ i → i < k → c ≤ f i) → k * c ≤ sm f k
  | 0, _ => by simp [sm]
  | k + 1, h => by
    have ih := sm_ge (f := f) (c := c) (k := k) fun i h0 h1 => h i h0 (by omega)
    have := h k (by omega) (by omega)
    show _ ≤ sm f k + f k
    rw [Int.natCast_add, Int.add_mul]
    omega
theorem bs_nn {M : Nat} {f : Pt → Int} (h : ∀ p, 0 ≤ f p) : 0 ≤ bs M f := by
  unfold bs
  have := sm_ge (f := fun i => sm (fun j => f ⟨i - M, j - M⟩) (2 * M + 1)) (c := 0) (k := 2 * M + 1) fun i _ _ => by
    have := sm_ge (f := fun j => f ⟨i - M, j - M⟩) (c := 0) (k := 2 * M + 1) fun j _ _ => h _
    simpa using this
  simpa using this
theorem Good_.round_ge {a : List Pt} (g : Good_ a) : (a.length : Int) ≤ round a := by
  have := sm_ge (f := fun i => step (pt a i) (pt a (i + 1))) (c := 1) (k := a.length) fun i _ _ => step_one fun e => by
    have := g.sp.line i
    apply this
    unfold rc; rw [e]
  unfold round
  omega
theorem pick_rule {a : List Pt} (g : Good_ a) : (((area a).natAbs : Int) = 2 * cntI a - 2 + round a) ∧ area a ≠ 0 := by
  have p := g.sp.pick (M := 40) (fun i => by
    have := g.all i
    unfold In at this
    unfold rc rt
    simp only
    omega)
  have e1 : sm (fun i => cross (rc a i) (rc a (i + 1))) (a.length : Int).toNat = area a := by
    unfold area
    rw [show (a.length : Int).toNat = a.length by omega]
    exact sm_congr fun i _ _ => cross_rt _ _
  have e2 : sm (fun i => step (rc a i) (rc a (i + 1))) (a.length : Int).toNat = round a := by
    unfold round
    rw [show (a.length : Int).toNat = a.length by omega]
    exact sm_congr fun i _ _ => step_rt _ _
  rw [e1, e2, cntI_eq g] at p
  have rg := g.round_ge
  have lo := g.lo
  have nn : 0 ≤ cntI a := bs_nn fun q => by split <;> omega
  rcases g.sp.sides with ⟨k, _⟩ | ⟨k, _⟩ <;> rw [k] at p <;> omega
theorem inside_is {a : List Pt} (g : Good_ a) : inside a = cntI a := by
  have p := pick_rule g
  have ab := area_bd (a := a) (by have := g.hi; omega) (fun i => (g.all i).nr)
  have rg := g.round_ge
  have lo := g.lo
  have nn : 0 ≤ cntI a := bs_nn fun q => by split <;> omega
  unfold inside
  rw [wr_id (n := ((area a).natAbs : Int) + 2) (by omega), wr_id (n := ((area a).natAbs : Int) + 2 - round a) (by omega)]
  rw [show ((area a).natAbs : Int) + 2 - round a = 2 * cntI a by omega, Int.mul_tdiv_cancel_left _ (by decide), wr_id (by omega)]
end Go.AM
namespace Go.AM
theorem Good_.far {a : List Pt} (g : Good_ a) {q : Pt} (h : (∀ i, q.y < (pt a i).y) ∨ (∀ i, (pt a i).y < q.y) ∨ (∀ i, q.x < (pt a i).x) ∨ (∀ i, (pt a i).x < q.x)) : wh a q ≤ 0 := by
  have w := wh_insd g q
  by_cases c : 0 < wh a q
  · exfalso
    rw [if_pos c] at w
    unfold insd at w
    split at w
    case isFalse => omega
    rename_i k
    have k2 := k.2
    apply k2
    unfold wnd pw
    have zz : ∀ i : Int, rc a (0 + i) = rt (pt a i) := fun i => by rw [Int.zero_add]; rfl
    have zz1 : ∀ i : Int, rc a (0 + i + 1) = rt (pt a (i + 1)) := fun i => by rw [Int.zero_add]; rfl
    rcases h with h | h | h | h
    · refine sm_zero fun i _ _ => ?_
      rw [zz, zz1]
      have h1 := h i
      have h2 := h (i + 1)
      exact dl_pp (by unfold Pos df rt; simp only; omega) (by unfold Pos df rt; simp only; omega)
    · refine sm_zero fun i _ _ => ?_
      rw [zz, zz1]
      have h1 := h i
      have h2 := h (i + 1)
      exact dl_nn (by unfold Neg df rt; simp only; omega) (by unfold Neg df rt; simp only; omega)
    · -- to the left of all: each way up is taken back
      have e : sm (fun t => dl (df (rt q) (rc a (0 + t))) (df (rt q) (rc a (0 + t + 1)))) (a.length : Int).toNat = sm (fun i => pp (df (rt q) (rc a (i + 1))) - pp (df (rt q) (rc a i))) (a.length : Int).toNat := sm_congr fun i _ _ => by
        rw [Int.zero_add]
        have h1 := h i
        have h2 := h (i + 1)
        have y1 : (df (rt q) (rc a i)).y < 0 := by unfold df rc rt; simp only; omega
        have y2 : (df (rt q) (rc a (i + 1))).y < 0 := by unfold df rc rt; simp only; omega
        revert y1 y2
        generalize df (rt q) (rc a i) = u
        generalize df (rt q) (rc a (i + 1)) = v
        intro y1 y2
        have hu : u ≠ ⟨0, 0⟩ := fun e => by rw [e] at y1; simp at y1
        have hv : v ≠ ⟨0, 0⟩ := fun e => by rw [e] at y2; simp at y2
        unfold pp
        rcases pos_or_neg hu with a1 | a1 <;> rcases pos_or_neg hv with b1 | b1
        · rw [dl_pp a1 b1, if_pos a1, if_pos b1]; rfl
        · rw [dl_pn a1 b1, if_pos a1, if_neg (neg_not_pos b1), if_pos]; rfl
          unfold Pos at a1
          unfold Neg at b1
          have x1 := Int.mul_pos (show 0 < u.x by omega) (show 0 < -v.y by omega)
          have x2 := Int.mul_nonneg (show 0 ≤ -u.y by omega) (show 0 ≤ -v.x by omega)
          unfold cross
          grind
        · rw [dl_np a1 b1, if_neg (neg_not_pos a1), if_pos b1, if_pos]; rfl
          unfold Pos at b1
          unfold Neg at a1
          have x1 := Int.mul_pos (show 0 < v.x by omega) (show 0 < -u.y by omega)
          have x2 := Int.mul_nonneg (show 0 ≤ -v.y by omega) (show 0 ≤ -u.x by omega)
          unfold cross
          grind
        · rw [dl_nn a1 b1, if_neg (neg_not_pos a1), if_neg (neg_not_pos b1)]; rfl
      rw [e, sm_add]
      have := sm_round (f := fun i => pp (df (rt q) (rc a i))) (k := (a.length : Int).toNat) (by
        have : rc a (((a.length : Int).toNat : Nat) : Int) = rc a 0 := by
          have := g.sp.per 0
          rwa [show (0 : Int) + a.length = (((a.length : Int).toNat : Nat) : Int) by omega] at this
        simp only [this])
      omega
    · have e : sm (fun t => dl (df (rt q) (rc a (0 + t))) (df (rt q) (rc a (0 + t + 1)))) (a.length : Int).toNat = 0 := sm_zero fun i _ _ => by
        rw [Int.zero_add]
        have h1 := h i
        have h2 := h (i + 1)
        have y1 : 0 < (df (rt q) (rc a i)).y := by unfold df rc rt; simp only; omega
        have y2 : 0 < (df (rt q) (rc a (i + 1))).y := by unfold df rc rt; simp only; omega
        revert y1 y2
        generalize df (rt q) (rc a i) = u
        generalize df (rt q) (rc a (i + 1)) = v
        intro y1 y2
        unfold dl
        rw [if_neg, if_neg]
        · rintro ⟨a1, b1, c1⟩
          unfold Pos at a1
          unfold Neg at b1
          have x1 := Int.mul_nonneg (show 0 ≤ u.x by omega) (show 0 ≤ v.y by omega)
          have x2 := Int.mul_nonneg (show 0 ≤ u.y by omega) (show 0 ≤ -v.x by omega)
          unfold cross at c1
          grind
        · rintro ⟨a1, b1, c1⟩
          unfold Neg at a1
          unfold Pos at b1
          have x1 := Int.mul_nonneg (show 0 ≤ -u.x by omega) (show 0 ≤ v.y by omega)
          have x2 := Int.mul_nonneg (show 0 ≤ u.y by omega) (show 0 ≤ v.x by omega)
          unfold cross at c1
          grind
      exact e
  · omega
theorem box_l0 {L : Nat} {a : List Pt} (g : Good_ a) : ∀ (m i : Nat) (b0 b1 c0 c1 : Int), i ≤ a.length → a.length - i < m → (-40 ≤ b0 ∧ -40 ≤ b1 ∧ c0 ≤ 40 ∧ c1 ≤ 40) →
    ∃ lx ly hx hy, impl_box_l0 L a m i b0 b1 c0 c1 = some (lx, ly, hx, hy) ∧ (-40 ≤ lx ∧ hx ≤ 40 ∧ -40 ≤ ly ∧ hy ≤ 40) ∧ (lx ≤ b0 ∧ ly ≤ b1 ∧ c0 ≤ hx ∧ c1 ≤ hy) ∧
      ∀ j : Nat, i ≤ j → j < a.length → (lx ≤ (pt a j).x ∧ (pt a j).x ≤ hx) ∧ (ly ≤ (pt a j).y ∧ (pt a j).y ≤ hy) := by
  intro m
  induction m with
  | zero => intro i _ _ _ _ _ h; omega
  | succ m ih =>
    intro i b0 b1 c0 c1 hi hm hb
    have hh := g.hi
    rw [impl_box_l0]
    simp only [ilen_mapep, ilt_eq, iadd_eq]
    by_cases h : i < a.length
    · have wi : wr IntKind.i64 ((i : Int) + 1) = ((i + 1 : Nat) : Int) := by rw [wr_id (by omega)]; omega
      have hin := g.all (i : Int)
      unfold In at hin
      simp only [show (i : Int) < (a.length : Int) by omega, decide_true, cond_true, lget_pt (a := a) (i := (i : Int)) (by omega) (by omega), gbind_eq, Option.bind_some, wi, imin_eq, imax_eq]
      obtain ⟨lx, ly, hx, hy, e, k1, k2, k3⟩ := ih (i + 1) (if (pt a i).x < b0 then (pt a i).x else b0) (if (pt a i).y < b1 then (pt a i).y else b1) (if (pt a i).x > c0 then (pt a i).x else c0) (if (pt a i).y > c1 then (pt a i).y else c1) (by omega) (by omega) (by
        refine ⟨?_, ?_, ?_, ?_⟩ <;> split <;> omega)
      refine ⟨lx, ly, hx, hy, e, k1, ?_, fun j j0 j1 => ?_⟩
      · obtain ⟨q1, q2, q3, q4⟩ := k2
        refine ⟨?_, ?_, ?_, ?_⟩
        · split at q1 <;> omega
        · split at q2 <;> omega
        · split at q3 <;> omega
        · split at q4 <;> omega
      · rcases Nat.lt_or_ge i j with c | c
        · exact k3 j (by omega) j1
        · have ej : j = i := by omega
          subst ej
          obtain ⟨q1, q2, q3, q4⟩ := k2
          refine ⟨⟨?_, ?_⟩, ?_, ?_⟩
          · split at q1 <;> omega
          · split at q3 <;> omega
          · split at q2 <;> omega
          · split at q4 <;> omega
    · simp only [show ¬ ((i : Int) < (a.length : Int)) by omega, decide_false, cond_false]
      exact ⟨b0, b1, c0, c1, rfl, by omega, by omega, fun j j0 j1 => by omega⟩
end Go.AM
namespace Go.AM
open Classical
variable {n : Int} {P : Int → Pt}
theorem SP.point_on (h : SP n P) (q : Pt) : (if Off P q then (0 : Int) else 1) = sm (fun i => if q = P i then 1 else 0) n.toNat + sm (fun j => if Bt (P j) (P (j + 1)) q then 1 else 0) n.toNat := by
  have n3 := h.n3
  by_cases off : Off P q
  · have s1 : sm (fun i => if q = P i then (1 : Int) else 0) n.toNat = 0 := sm_zero fun i _ _ => by
      refine if_neg fun e => off i ?_
      rw [e]; exact ⟨by unfold turn; grind, by simp, by simp⟩
    have s2 : sm (fun j => if Bt (P j) (P (j + 1)) q then (1 : Int) else 0) n.toNat = 0 := sm_zero fun j _ _ => if_neg fun e => off j e.on
    rw [s1, s2, if_pos off]; rfl
  · obtain ⟨k, hk⟩ : ∃ k, OnL (P k) (P (k + 1)) q := by
      unfold Off at off
      rcases Classical.not_forall.1 off with ⟨k, hk⟩
      exact ⟨k, Classical.not_not.1 hk⟩
    rw [if_neg off]
    have corner : ∀ i : Int, q = P i → (1 : Int) = sm (fun i => if q = P i then 1 else 0) n.toNat + sm (fun j => if Bt (P j) (P (j + 1)) q then 1 else 0) n.toNat := fun i e => by
      have e' : q = P (i % n) := by rw [(h.modn i).1]; exact e
      have a0 := Int.emod_nonneg i (b := n) (by omega)
      have a1 := Int.emod_lt_of_pos i (show 0 < n by omega)
      rw [sm_zero (g := fun j => if Bt (P j) (P (j + 1)) q then (1 : Int) else 0) fun j _ _ => if_neg fun hb => h.no_corner j i (e ▸ hb)]
      rw [sm_only (u := i % n) a0 (by omega) fun j j0 j1 ne => if_neg fun ej => by
        rw [e'] at ej
        rcases Int.lt_or_gt_of_ne ne with c | c
        · exact h.ne (i := j) (j := i % n) c (by omega) ej.symm
        · exact h.ne (i := i % n) (j := j) c (by omega) ej]
      rw [if_pos e']; rfl
    rcases onL_cases (h.line k) hk with e | e | e
    · exact corner k e
    · exact corner (k + 1) e
    · obtain ⟨m1, m2⟩ := h.modn k
      have e' : Bt (P (k % n)) (P (k % n + 1)) q := by rw [m1, m2]; exact e
      have a0 := Int.emod_nonneg k (b := n) (by omega)
      have a1 := Int.emod_lt_of_pos k (show 0 < n by omega)
      rw [sm_zero (g := fun i => if q = P i then (1 : Int) else 0) fun i _ _ => if_neg fun (ei : q = P i) => h.no_corner k i (ei ▸ e)]
      rw [sm_only (u := k % n) a0 (by omega) fun j j0 j1 ne => if_neg fun hb => ne (h.one_line j0 (by omega) a0 a1 hb e')]
      rw [if_pos e']; rfl
theorem SP.on_cnt (h : SP n P) {M : Nat} (box : ∀ i, (-(M : Int) ≤ (P i).x ∧ (P i).x ≤ M) ∧ (-(M : Int) ≤ (P i).y ∧ (P i).y ≤ M)) :
    bs M (fun q => if Off P q then (0 : Int) else 1) = sm (fun i => step (P i) (P (i + 1))) n.toNat := by
  have e : bs M (fun q => if Off P q then (0 : Int) else 1) = bs M (fun q => sm (fun i => if q = P i then 1 else 0) n.toNat + sm (fun j => if Bt (P j) (P (j + 1)) q then 1 else 0) n.toNat) := bs_congr fun q _ _ _ _ => h.point_on q
  rw [e, bs_plus, bs_sm, bs_sm, ← sm_plus]
  exact sm_congr fun i _ _ => by
    obtain ⟨⟨x1, x2⟩, y1, y2⟩ := box i
    obtain ⟨⟨x3, x4⟩, y3, y4⟩ := box (i + 1)
    rw [bs_one x1 x2 y1 y2, bs_bt (h.line i) x1 x2 y1 y2 x3 x4 y3 y4]
    omega
theorem rim_cnt {a : List Pt} (g : Good_ a) : bs 40 (fun q => if wh a q = 0 then 1 else 0) = round a := by
  have p := g.sp.on_cnt (M := 40) (fun i => by
    have := g.all i
    unfold In at this
    unfold rc rt
    simp only
    omega)
  have e2 : sm (fun i => step (rc a i) (rc a (i + 1))) (a.length : Int).toNat = round a := by
    unfold round
    rw [show (a.length : Int).toNat = a.length by omega]
    exact sm_congr fun i _ _ => step_rt _ _
  rw [e2, ← bs_rt] at p
  rw [← p]
  refine bs_congr fun q _ _ _ _ => ?_
  by_cases hr : Rim a q
  · rw [if_neg ((rim_off g q).1 hr), if_pos (show wh a q = 0 by unfold wh; exact if_pos hr)]
  · rw [if_pos (Classical.not_not.1 fun c => hr ((rim_off g q).2 c)), if_neg]
    unfold wh
    rw [if_neg hr]
    split <;> omega
theorem all_cnt {a : List Pt} (g : Good_ a) : bs 40 (fun q => if 0 ≤ wh a q then 1 else 0) = cntI a + round a := by
  rw [← rim_cnt g]
  unfold cntI
  rw [← bs_plus]
  exact bs_congr fun q _ _ _ _ => by split <;> split <;> split <;> omega
end Go.AM
namespace Go.AM
noncomputable def colA (a : List Pt) (x : Int) : Nat → Int → List Pt
  | 0, _ => []
  | k + 1, y => (if 0 ≤ wh a ⟨x, y⟩ then [⟨x, y⟩] else []) ++ colA a x k (y + 1)
noncomputable def boxA (a : List Pt) (ky : Nat) (y0 : Int) : Nat → Int → List Pt
  | 0, _ => []
  | k + 1, x => colA a x ky y0 ++ boxA a ky y0 k (x + 1)
theorem colA_s (a : List Pt) (x : Int) (k : Nat) (y : Int) : colA a x (k + 1) y = (if 0 ≤ wh a ⟨x, y⟩ then [⟨x, y⟩] else []) ++ colA a x k (y + 1) := rfl
theorem boxA_s (a : List Pt) (ky : Nat) (y0 : Int) (k : Nat) (x : Int) : boxA a ky y0 (k + 1) x = colA a x ky y0 ++ boxA a ky y0 k (x + 1) := rfl
theorem colA_len (a : List Pt) (x : Int) : ∀ (k : Nat) (y : Int), (colA a x k y).length ≤ k
  | 0, _ => by simp [colA]
  | k + 1, y => by
    have := colA_len a x k (y + 1)
    unfold colA
    split <;> simp <;> omega
theorem colA_mem {a : List Pt} {x : Int} {q : Pt} : ∀ {k : Nat} {y : Int}, q ∈ colA a x k y → q.x = x ∧ y ≤ q.y ∧ q.y < y + k ∧ 0 ≤ wh a q
  | 0, _, h => by cases h
  | k + 1, y, h => by
    unfold colA at h
    rcases List.mem_append.1 h with h | h
    · split at h
      · rename_i c
        simp at h
        subst h
        exact ⟨rfl, by simp, by simp only; omega, c⟩
      · cases h
    · obtain ⟨h1, h2, h3, h4⟩ := colA_mem h
      exact ⟨h1, by omega, by omega, h4⟩
theorem boxA_mem {a : List Pt} {ky : Nat} {y0 : Int} {q : Pt} : ∀ {k : Nat} {x : Int}, q ∈ boxA a ky y0 k x → x ≤ q.x ∧ q.x < x + k ∧ y0 ≤ q.y ∧ q.y < y0 + ky ∧ 0 ≤ wh a q
  | 0, _, h => by cases h
  | k + 1, x, h => by
    unfold boxA at h
    rcases List.mem_append.1 h with h | h
    · obtain ⟨h1, h2, h3, h4⟩ := colA_mem h
      exact ⟨by omega, by omega, h2, h3, h4⟩
    · obtain ⟨h1, h2, h3⟩ := boxA_mem h
      exact ⟨by omega, by omega, h3⟩
theorem colA_app (a : List Pt) (x : Int) (l : Nat) : ∀ (k : Nat) (y : Int), colA a x (k + l) y = colA a x k y ++ colA a x l (y + k)
  | 0, y => by simp [colA]
  | k + 1, y => by
    rw [show k + 1 + l = (k + l) + 1 by omega, colA_s, colA_s]
    rw [colA_app a x l k (y + 1), List.append_assoc, show y + 1 + (k : Int) = y + ((k + 1 : Nat) : Int) by omega]
theorem boxA_app (a : List Pt) (ky : Nat) (y0 : Int) (l : Nat) : ∀ (k : Nat) (x : Int), boxA a ky y0 (k + l) x = boxA a ky y0 k x ++ boxA a ky y0 l (x + k)
  | 0, x => by simp [boxA]
  | k + 1, x => by
    rw [show k + 1 + l = (k + l) + 1 by omega, boxA_s, boxA_s]
    rw [boxA_app a ky y0 l k (x + 1), List.append_assoc, show x + 1 + (k : Int) = x + ((k + 1 : Nat) : Int) by omega]
theorem colA_nil {a : List Pt} {x : Int} : ∀ {k : Nat} {y : Int}, (∀ q : Pt, q.x = x → y ≤ q.y → q.y < y + k → wh a q < 0) → colA a x k y = []
  | 0, _, _ => rfl
  | k + 1, y, h => by
    unfold colA
    rw [if_neg (by have := h ⟨x, y⟩ rfl (by simp) (by simp only; omega); omega), colA_nil fun q h1 h2 h3 => h q h1 (by omega) (by omega)]
    rfl
theorem boxA_nil {a : List Pt} {ky : Nat} {y0 : Int} : ∀ {k : Nat} {x : Int}, (∀ q : Pt, x ≤ q.x → q.x < x + k → wh a q < 0) → boxA a ky y0 k x = []
  | 0, _, _ => rfl
  | k + 1, x, h => by
    unfold boxA
    rw [colA_nil fun q h1 _ _ => h q (by omega) (by omega), boxA_nil fun q h1 h2 => h q (by omega) (by omega)]
    rfl
theorem colA_sum (a : List Pt) (x : Int) : ∀ (k : Nat) (y : Int), ((colA a x k y).length : Int) = sm (fun j => if 0 ≤ wh a ⟨x, y + j⟩ then 1 else 0) k
  | 0, _ => rfl
  | k + 1, y => by
    rw [colA_app a x 1 k y]
    show _ = sm _ k + (if 0 ≤ wh a ⟨x, y + k⟩ then (1 : Int) else 0)
    rw [← colA_sum a x k y, List.length_append, colA_s]
    split <;> simp [colA]
theorem boxA_sum (a : List Pt) (ky : Nat) (y0 : Int) : ∀ (k : Nat) (x : Int), ((boxA a ky y0 k x).length : Int) = sm (fun i => sm (fun j => if 0 ≤ wh a ⟨x + i, y0 + j⟩ then 1 else 0) ky) k
  | 0, _ => rfl
  | k + 1, x => by
    rw [boxA_app a ky y0 1 k x]
    show _ = sm _ k + sm (fun j => if 0 ≤ wh a ⟨x + k, y0 + j⟩ then (1 : Int) else 0) ky
    rw [← boxA_sum a ky y0 k x, ← colA_sum, List.length_append, boxA_s]
    simp [boxA]
theorem full_lenA {a : List Pt} (g : Good_ a) : ((boxA a 81 (-40) 81 (-40)).length : Int) = cntI a + round a := by
  rw [← all_cnt g, boxA_sum]
  unfold bs
  exact sm_congr fun i _ _ => sm_congr fun j _ _ => by
    rw [show (-40 : Int) + i = i - ((40 : Nat) : Int) by omega, show (-40 : Int) + j = j - ((40 : Nat) : Int) by omega]
theorem Good_.farA {a : List Pt} (g : Good_ a) {q : Pt} (h : (∀ i, q.y < (pt a i).y) ∨ (∀ i, (pt a i).y < q.y) ∨ (∀ i, q.x < (pt a i).x) ∨ (∀ i, (pt a i).x < q.x)) : wh a q < 0 := by
  have f := g.far h
  have r : ¬ Rim a q := by
    rintro ⟨i, _, _, _, ox, oy⟩
    rw [mul_le0] at ox oy
    rcases h with h | h | h | h <;> (have h1 := h i; have h2 := h (i + 1); omega)
  have d : wh a q = 1 ∨ wh a q = -1 := by
    unfold wh
    rw [if_neg r]
    split
    · exact .inl rfl
    · exact .inr rfl
  omega
theorem box_fullA {a : List Pt} (g : Good_ a) {lx ly hx hy : Int} (b : -40 ≤ lx ∧ hx ≤ 40 ∧ -40 ≤ ly ∧ hy ≤ 40) (h : ∀ i, (lx ≤ (pt a i).x ∧ (pt a i).x ≤ hx) ∧ (ly ≤ (pt a i).y ∧ (pt a i).y ≤ hy)) :
    boxA a (hy + 1 - ly).toNat ly (hx + 1 - lx).toNat lx = boxA a 81 (-40) 81 (-40) := by
  have h0 := h 0
  have cols : ∀ x, colA a x 81 (-40) = colA a x (hy + 1 - ly).toNat ly := fun x => by
    have e : 81 = (ly + 40).toNat + ((hy + 1 - ly).toNat + (40 - hy).toNat) := by omega
    rw [e, colA_app, colA_app]
    rw [colA_nil (k := (ly + 40).toNat) fun q _ h1 h2 => g.farA (.inl fun i => by have := h i; omega), colA_nil (k := (40 - hy).toNat) fun q _ h1 h2 => g.farA (.inr (.inl fun i => by have := h i; omega))]
    rw [List.nil_append, List.append_nil]
    congr 1; omega
  have rows : ∀ (k : Nat) (x : Int), boxA a 81 (-40) k x = boxA a (hy + 1 - ly).toNat ly k x := by
    intro k
    induction k with
    | zero => intro x; rfl
    | succ k ih => intro x; rw [boxA_s, boxA_s, cols, ih]
  rw [rows]
  have e : 81 = (lx + 40).toNat + ((hx + 1 - lx).toNat + (40 - hx).toNat) := by omega
  rw [e, boxA_app, boxA_app]
  rw [boxA_nil (k := (lx + 40).toNat) fun q h1 h2 => g.farA (.inr (.inr (.inl fun i => by have := h i; omega))), boxA_nil (k := (40 - hx).toNat) fun q h1 h2 => g.farA (.inr (.inr (.inr fun i => by have := h i; omega)))]
  rw [List.nil_append, List.append_nil]
  congr 1; omega
end Go.AM
namespace Go.AM
theorem nodup_le {α : Type} [DecidableEq α] : ∀ {l m : List α}, l.Nodup → (∀ x ∈ l, x ∈ m) → l.length ≤ m.length
  | [], _, _, _ => Nat.zero_le _
  | x :: l, m, hn, h => by
    have hx := h x (by simp)
    obtain ⟨n1, n2⟩ := List.nodup_cons.1 hn
    have ih := nodup_le (l := l) (m := m.erase x) n2 fun y hy => (List.mem_erase_of_ne (fun (e : y = x) => n1 (e ▸ hy))).2 (h y (by simp [hy]))
    rw [List.length_erase_of_mem hx] at ih
    have := List.length_pos_of_mem hx
    rw [List.length_cons]
    omega
def bump (w : List Int) (i : Int) : List Int := w.set i.toNat (w.getD i.toNat 0 + 1)
def tally (f : Pt → Int) : List Pt → List Int → List Int
  | [], w => w
  | p :: l, w => tally f l (bump w (f p))
theorem bump_len (w : List Int) (i : Int) : (bump w i).length = w.length := by unfold bump; simp
theorem tally_len (f : Pt → Int) : ∀ (l : List Pt) (w : List Int), (tally f l w).length = w.length
  | [], _ => rfl
  | p :: l, w => by unfold tally; rw [tally_len f l, bump_len]
theorem tally_app (f : Pt → Int) : ∀ (l m : List Pt) (w : List Int), tally f (l ++ m) w = tally f m (tally f l w)
  | [], _, _ => rfl
  | p :: l, m, w => by
    show tally f (l ++ m) (bump w (f p)) = _
    rw [tally_app f l m]; rfl
theorem set_sum : ∀ (w : List Int) (k : Nat) (x : Int), k < w.length → (w.set k (w.getD k 0 + x)).sum = w.sum + x
  | [], _, _, h => by simp at h
  | y :: w, 0, x, _ => by simp; omega
  | y :: w, k + 1, x, h => by
    have := set_sum w k x (by simpa using h)
    simp at this ⊢
    omega
theorem bump_sum {w : List Int} {i : Int} (h0 : 0 ≤ i) (h : i < w.length) : (bump w i).sum = w.sum + 1 := set_sum w _ 1 (by omega)
theorem tally_sum {f : Pt → Int} : ∀ {l : List Pt} {w : List Int}, (∀ p ∈ l, 0 ≤ f p ∧ f p < w.length) → (tally f l w).sum = w.sum + l.length
  | [], w, _ => by simp [tally]
  | p :: l, w, h => by
    have hp := h p (by simp)
    unfold tally
    rw [tally_sum fun q hq => by rw [bump_len]; exact h q (by simp [hq]), bump_sum hp.1 hp.2, List.length_cons]
    omega
theorem bump_get {w : List Int} {i : Int} {k : Nat} (h0 : 0 ≤ i) (hk : k < w.length) : (bump w i).getD k 0 = w.getD k 0 + if i = k then 1 else 0 := by
  unfold bump
  by_cases e : i = k
  · subst e
    rw [if_pos rfl, Int.toNat_natCast]
    simp [List.getD, List.getElem?_set, hk]
  · rw [if_neg e]
    have : ¬ i.toNat = k := by omega
    simp [List.getD, List.getElem?_set, this]
theorem tally_get {f : Pt → Int} : ∀ {l : List Pt} {w : List Int} {k : Nat}, (∀ p ∈ l, 0 ≤ f p) → k < w.length → (tally f l w).getD k 0 = w.getD k 0 + ((l.filter fun p => decide (f p = k)).length : Int)
  | [], w, k, _, _ => by simp [tally]
  | p :: l, w, k, h, hk => by
    unfold tally
    rw [tally_get (fun q hq => h q (by simp [hq])) (by rw [bump_len]; exact hk), bump_get (h p (by simp)) hk, List.filter_cons]
    by_cases e : f p = k
    · simp [e]; omega
    · simp [e]
theorem tally_nn {f : Pt → Int} : ∀ {l : List Pt} {w : List Int}, (∀ x ∈ w, 0 ≤ x) → ∀ x ∈ tally f l w, 0 ≤ x
  | [], _, h => h
  | p :: l, w, h => by
    unfold tally
    refine tally_nn fun x hx => ?_
    unfold bump at hx
    rcases List.mem_or_eq_of_mem_set hx with e | e
    · exact h x e
    · rw [e]
      by_cases c : (f p).toNat < w.length
      · have := h _ (List.getElem_mem c)
        simp [List.getD, c]; omega
      · simp [List.getD, c]
theorem zeros_get (n k : Nat) : (List.replicate n (0 : Int)).getD k 0 = 0 := by
  simp [List.getD, List.getElem?_replicate]
  split <;> rfl
theorem zeros_sum (n : Nat) : (List.replicate n (0 : Int)).sum = 0 := by
  induction n with
  | zero => rfl
  | succ n ih => rw [List.replicate_succ, List.sum_cons, ih]; rfl
end Go.AM
namespace Go.AM
def dot (d v : Pt) : Int := d.x * v.x + d.y * v.y
theorem half_sign {d u v : Pt} (hu : 0 < dot d u) (hv : 0 < dot d v) (pu : Pos u) (nv : Neg v) : 0 < d.y * cross u v := by
  have e : d.y * cross u v = u.x * dot d v + (-v.x) * dot d u := by unfold dot cross; grind
  have ux : 0 ≤ u.x := by unfold Pos at pu; omega
  have vx : 0 ≤ -v.x := by unfold Neg at nv; omega
  rw [e]
  have h1 := Int.mul_nonneg ux (Int.le_of_lt hv)
  have h2 := Int.mul_nonneg vx (Int.le_of_lt hu)
  by_cases c1 : 0 < u.x
  · have := Int.mul_pos c1 hv; omega
  · by_cases c2 : 0 < -v.x
    · have := Int.mul_pos c2 hu; omega
    · exfalso
      have z1 : u.x = 0 := by omega
      have z2 : v.x = 0 := by omega
      have y1 : 0 < u.y := by unfold Pos at pu; omega
      have y2 : 0 < -v.y := by unfold Neg at nv; omega
      unfold dot at hu hv
      rw [z1, Int.mul_zero, Int.zero_add] at hu
      rw [z2, Int.mul_zero, Int.zero_add] at hv
      have d1 : 0 < d.y := by
        by_cases c : 0 < d.y
        · exact c
        · have := Int.mul_nonneg (show 0 ≤ -d.y by omega) (Int.le_of_lt y1)
          rw [Int.neg_mul] at this; omega
      have := Int.mul_pos d1 y2
      rw [Int.mul_neg] at this
      omega
theorem half_dl {d u v : Pt} (hu : 0 < dot d u) (hv : 0 < dot d v) : dl u v = if d.y < 0 then pp v - pp u else 0 := by
  have nz : ∀ w : Pt, 0 < dot d w → w ≠ ⟨0, 0⟩ := fun w h e => by rw [e] at h; unfold dot at h; simp at h
  have sgn : ∀ x : Int, 0 < d.y * x → (d.y < 0 → x < 0) ∧ (¬ d.y < 0 → 0 < x) := fun x h => by
    constructor
    · intro c
      by_cases k : x < 0
      · exact k
      · have := Int.mul_nonneg (show 0 ≤ -d.y by omega) (show 0 ≤ x by omega)
        rw [Int.neg_mul] at this; omega
    · intro c
      by_cases k : 0 < x
      · exact k
      · have := Int.mul_nonneg (show 0 ≤ d.y by omega) (show 0 ≤ -x by omega)
        rw [Int.mul_neg] at this; omega
  unfold pp
  rcases pos_or_neg (nz u hu) with a1 | a1 <;> rcases pos_or_neg (nz v hv) with b1 | b1
  · rw [dl_pp a1 b1, if_pos a1, if_pos b1]; split <;> rfl
  · obtain ⟨s1, s2⟩ := sgn _ (half_sign hu hv a1 b1)
    rw [dl_pn a1 b1, if_pos a1, if_neg (neg_not_pos b1)]
    by_cases c : d.y < 0
    · rw [if_pos c, if_pos (s1 c)]; rfl
    · rw [if_neg c, if_neg (by have := s2 c; omega)]
  · obtain ⟨s1, s2⟩ := sgn _ (half_sign hv hu b1 a1)
    have e : cross v u = - cross u v := by unfold cross; grind
    rw [dl_np a1 b1, if_neg (neg_not_pos a1), if_pos b1]
    by_cases c : d.y < 0
    · rw [if_pos c, if_pos (by have := s1 c; omega)]; rfl
    · rw [if_neg c, if_neg (by have := s2 c; omega)]
  · rw [dl_nn a1 b1, if_neg (neg_not_pos a1), if_neg (neg_not_pos b1)]; split <;> rfl
theorem Good_.off_half {a : List Pt} (g : Good_ a) {q d : Pt} (h : ∀ i, 0 < dot d (df (rt q) (rc a i))) : wh a q < 0 := by
  have off : Off (rc a) (rt q) := fun k hk => by
    have h1 := h k
    have h2 := h (k + 1)
    rcases onL_cases (g.sp.line k) hk with e | e | ⟨p, r, hp, hr, ex, ey⟩
    · rw [e] at h1; unfold dot df at h1; simp at h1
    · rw [e] at h2; unfold dot df at h2; simp at h2
    · have m1 := Int.mul_pos hr h1
      have m2 := Int.mul_pos hp h2
      have : r * dot d (df (rt q) (rc a k)) + p * dot d (df (rt q) (rc a (k + 1))) = 0 := by
        unfold dot df
        simp only
        have e1 : d.x * (r * ((rt q).x - (rc a k).x) - p * ((rc a (k + 1)).x - (rt q).x)) = 0 := by rw [ex, Int.sub_self, Int.mul_zero]
        have e2 : d.y * (r * ((rt q).y - (rc a k).y) - p * ((rc a (k + 1)).y - (rt q).y)) = 0 := by rw [ey, Int.sub_self, Int.mul_zero]
        grind
      omega
  have w0 : wnd a.length (rc a) (rt q) = 0 := by
    unfold wnd pw
    by_cases c : d.y < 0
    · have e : sm (fun t => dl (df (rt q) (rc a (0 + t))) (df (rt q) (rc a (0 + t + 1)))) (a.length : Int).toNat = sm (fun i => pp (df (rt q) (rc a (i + 1))) - pp (df (rt q) (rc a i))) (a.length : Int).toNat := sm_congr fun i _ _ => by
        rw [Int.zero_add, half_dl (h i) (h (i + 1)), if_pos c]
      rw [e, sm_add]
      have := sm_round (f := fun i => pp (df (rt q) (rc a i))) (k := (a.length : Int).toNat) (by
        have : rc a (((a.length : Int).toNat : Nat) : Int) = rc a 0 := by
          have := g.sp.per 0
          rwa [show (0 : Int) + a.length = (((a.length : Int).toNat : Nat) : Int) by omega] at this
        simp only [this])
      omega
    · exact sm_zero fun i _ _ => by rw [Int.zero_add, half_dl (h i) (h (i + 1)), if_neg c]
  have r : ¬ Rim a q := fun c => (rim_off g q).1 c off
  have w := wh_insd g q
  unfold insd at w
  rw [if_neg fun c => c.2 w0] at w
  have nd : ¬ 0 < wh a q := fun c => by rw [if_pos c] at w; omega
  have dd : wh a q = 1 ∨ wh a q = -1 := by
    unfold wh
    rw [if_neg r]
    split
    · exact .inl rfl
    · exact .inr rfl
  omega
theorem wh_val {a : List Pt} (g : Good_ a) {x y : Int} {q : Pt} (hq : 0 ≤ wh a q) : (rngOf x y a).1 ≤ val x y q ∧ val x y q ≤ (rngOf x y a).2 := by
  have eq : ∀ p : Pt, dot ⟨y, -x⟩ (df (rt q) (rt p)) = val x y p - val x y q := fun p => by unfold dot df rt val; simp only; grind
  have eq' : ∀ p : Pt, dot ⟨-y, x⟩ (df (rt q) (rt p)) = val x y q - val x y p := fun p => by unfold dot df rt val; simp only; grind
  have hn : a ≠ [] := g.nn
  obtain ⟨_, _, hr⟩ := rng_le (f := val x y) a (val x y (pt a 0)) (val x y (pt a 0))
  constructor
  · rcases Int.lt_or_le (val x y q) (rngOf x y a).1 with c | c
    · exfalso
      have := g.off_half (q := q) (d := ⟨y, -x⟩) fun i => by
        have h1 := (hr _ (pt_mem hn i)).1
        unfold rc
        rw [eq]
        unfold rngOf at c
        omega
      omega
    · exact c
  · rcases Int.lt_or_le (rngOf x y a).2 (val x y q) with c | c
    · exfalso
      have := g.off_half (q := q) (d := ⟨-y, x⟩) fun i => by
        have h1 := (hr _ (pt_mem hn i)).2
        unfold rc
        rw [eq']
        unfold rngOf at c
        omega
      omega
    · exact c
end Go.AM
namespace Go.AM
noncomputable def allP (a : List Pt) : List Pt := boxA a 81 (-40) 81 (-40)
noncomputable def lines (a : List Pt) (x y : Int) : List Int := tally (fun p => val x y p - (rngOf x y a).1) (allP a) (List.replicate ((wdth a x y) + 1).toNat 0)
noncomputable def supp (a : List Pt) (x y : Int) : List Pt := (isort a).filter fun p => decide (val x y p = (rngOf x y a).2)
theorem allP_mem {a : List Pt} (g : Good_ a) {q : Pt} : q ∈ allP a → In q ∧ 0 ≤ wh a q := fun h => by
  obtain ⟨m1, m2, m3, m4, m5⟩ := boxA_mem h
  exact ⟨by unfold In; omega, m5⟩
theorem colA_in {a : List Pt} {x : Int} {q : Pt} (hx : q.x = x) (hw : 0 ≤ wh a q) : ∀ {k : Nat} {y : Int}, y ≤ q.y → q.y < y + k → q ∈ colA a x k y
  | 0, y, h1, h2 => by omega
  | k + 1, y, h1, h2 => by
    unfold colA
    by_cases e : q.y = y
    · have : q = ⟨x, y⟩ := by obtain ⟨u, v⟩ := q; simp at hx e; rw [hx, e]
      rw [← this, if_pos hw]; simp
    · exact List.mem_append_right _ (colA_in hx hw (by omega) (by omega))
theorem boxA_in {a : List Pt} {ky : Nat} {y0 : Int} {q : Pt} (hw : 0 ≤ wh a q) (h3 : y0 ≤ q.y) (h4 : q.y < y0 + ky) : ∀ {k : Nat} {x : Int}, x ≤ q.x → q.x < x + k → q ∈ boxA a ky y0 k x
  | 0, x, h1, h2 => by omega
  | k + 1, x, h1, h2 => by
    unfold boxA
    by_cases e : q.x = x
    · exact List.mem_append_left _ (colA_in e hw h3 h4)
    · exact List.mem_append_right _ (boxA_in hw h3 h4 (by omega) (by omega))
theorem wh_corner {a : List Pt} (g : Good_ a) (i : Int) : wh a (pt a i) = 0 := by
  have lo := g.lo
  have hr : Rim a (pt a i) := by
    refine ⟨i % (a.length : Int), Int.emod_nonneg _ (by omega), Int.emod_lt_of_pos _ (by omega), ?_⟩
    rw [pt_mod]
    exact ⟨by unfold turn; grind, by simp, by simp⟩
  unfold wh
  rw [if_pos hr]
theorem corner_all {a : List Pt} (g : Good_ a) {p : Pt} (h : p ∈ a) : p ∈ allP a := by
  obtain ⟨i, _, _, e⟩ := mem_pt h
  have hin := g.all i
  rw [e] at hin
  unfold In at hin
  exact boxA_in (by rw [← e, wh_corner g]; omega) (by omega) (by omega) (by omega) (by omega)
theorem good_nodup {a : List Pt} (g : Good_ a) : a.Nodup := by
  refine List.pairwise_iff_getElem.2 fun i j hi hj hij e => ?_
  have lo := g.lo
  have e1 := pt_get (a := a) (i := (i : Int)) (by omega) (by omega)
  have e2 := pt_get (a := a) (i := (j : Int)) (by omega) (by omega)
  rw [Int.toNat_natCast, List.getElem?_eq_getElem (by omega)] at e1 e2
  have := g.sp.ne (i := i) (j := j) (by omega) (by omega)
  apply this
  unfold rc
  rw [← Option.some.inj e1, ← Option.some.inj e2, e]
theorem rng_at {f : Pt → Int} : ∀ (l : List Pt) (u v : Int), ((rng f l u v).1 = u ∨ ∃ p ∈ l, f p = (rng f l u v).1) ∧ ((rng f l u v).2 = v ∨ ∃ p ∈ l, f p = (rng f l u v).2)
  | [], _, _ => ⟨.inl rfl, .inl rfl⟩
  | p :: l, u, v => by
    unfold rng
    obtain ⟨h1, h2⟩ := rng_at (f := f) l (if u < f p then u else f p) (if f p < v then v else f p)
    constructor
    · rcases h1 with h1 | ⟨q, hq, e⟩
      · rw [h1]
        split
        · exact .inl rfl
        · exact .inr ⟨p, by simp, rfl⟩
      · exact .inr ⟨q, by simp [hq], e⟩
    · rcases h2 with h2 | ⟨q, hq, e⟩
      · rw [h2]
        split
        · exact .inl rfl
        · exact .inr ⟨p, by simp, rfl⟩
      · exact .inr ⟨q, by simp [hq], e⟩
theorem rng_hit {a : List Pt} (hn : a ≠ []) (x y : Int) : (∃ p ∈ a, val x y p = (rngOf x y a).1) ∧ ∃ p ∈ a, val x y p = (rngOf x y a).2 := by
  obtain ⟨h1, h2⟩ := rng_at (f := val x y) a (val x y (pt a 0)) (val x y (pt a 0))
  constructor
  · rcases h1 with h | h
    · exact ⟨pt a 0, pt_mem hn 0, h.symm⟩
    · exact h
  · rcases h2 with h | h
    · exact ⟨pt a 0, pt_mem hn 0, h.symm⟩
    · exact h
theorem wdth_nn {a : List Pt} (g : Good_ a) (x y : Int) : 0 ≤ wdth a x y := by
  have := wdth_ge (x := x) (y := y) 0 0 g.nn
  omega
section
variable {a : List Pt} {x y : Int}
theorem off_in (g : Good_ a) {p : Pt} (hp : p ∈ allP a) : 0 ≤ val x y p - (rngOf x y a).1 ∧ val x y p - (rngOf x y a).1 < wdth a x y + 1 := by
  have := wh_val g (x := x) (y := y) (allP_mem g hp).2
  unfold wdth
  omega
theorem lines_len (g : Good_ a) : ((lines a x y).length : Int) = wdth a x y + 1 := by
  have := wdth_nn g x y
  unfold lines
  rw [tally_len, List.length_replicate]
  omega
theorem lines_sum (g : Good_ a) : (lines a x y).sum = cntI a + round a := by
  have := wdth_nn g x y
  unfold lines
  rw [tally_sum fun p hp => by have := off_in g (x := x) (y := y) hp; rw [List.length_replicate]; omega, zeros_sum]
  have := full_lenA g
  unfold allP
  omega
theorem lines_nn : ∀ n ∈ lines a x y, 0 ≤ n := tally_nn fun z hz => by rw [(List.mem_replicate.1 hz).2]; omega
theorem lines_get (g : Good_ a) {k : Nat} (hk : (k : Int) < wdth a x y + 1) : (lines a x y).getD k 0 = (((allP a).filter fun p => decide (val x y p - (rngOf x y a).1 = k)).length : Int) := by
  unfold lines
  rw [tally_get (fun p hp => (off_in g hp).1) (by rw [List.length_replicate]; omega), zeros_get, Int.zero_add]
theorem supp_mem {p : Pt} : p ∈ supp a x y ↔ p ∈ a ∧ val x y p = (rngOf x y a).2 := by
  unfold supp
  rw [List.mem_filter, isort_mem, decide_eq_true_eq]
open Classical in
theorem lines_top (g : Good_ a) {k : Nat} (hk : (k : Int) = wdth a x y) : ((supp a x y).length : Int) ≤ (lines a x y).getD k 0 := by
  rw [lines_get g (by omega)]
  have : (supp a x y).length ≤ ((allP a).filter fun p => decide (val x y p - (rngOf x y a).1 = k)).length := by
    refine nodup_le (List.Pairwise.filter _ (isort_nodup (good_nodup g))) fun p hp => ?_
    have h := supp_mem.1 hp
    rw [List.mem_filter, decide_eq_true_eq]
    refine ⟨corner_all g h.1, ?_⟩
    unfold wdth at hk
    omega
  omega
theorem lines_low (g : Good_ a) : 1 ≤ (lines a x y).getD 0 0 := by
  have h0 := wdth_nn g x y
  rw [lines_get (k := 0) g (by omega)]
  obtain ⟨p, hp, e⟩ := (rng_hit g.nn x y).1
  have : p ∈ (allP a).filter fun p => decide (val x y p - (rngOf x y a).1 = ((0 : Nat) : Int)) := by
    rw [List.mem_filter, decide_eq_true_eq]
    exact ⟨corner_all g hp, by omega⟩
  have := List.length_pos_of_mem this
  omega
theorem supp_ne (g : Good_ a) : supp a x y ≠ [] := fun e => by
  obtain ⟨p, hp, h⟩ := (rng_hit g.nn x y).2
  have := supp_mem.2 ⟨hp, h⟩
  rw [e] at this
  simp at this
end
end Go.AM
namespace Go.AM
end Go.AM
namespace Go.AM
end Go.AM
namespace Go.AM
end Go.AM
namespace Go.AM
end Go.AM
namespace Go.AM
end Go.AM
namespace Go.AM
end Go.AM
namespace Go.AM
open Classical
end Go.AM
namespace Go.AM
end Go.AM
namespace Go.AM
end Go.AM
namespace Go.AM
end Go.AM
namespace Go.AM
end Go.AM
namespace Go.AM
end Go.AM
namespace Go.AM
end Go.AM
namespace Go.AM
def By (a : List Int) : Prop := ∀ x ∈ a, 0 ≤ x ∧ x ≤ 255
theorem ilen_eU (a : List Int) : ilen (List.map eU a) = (a.length : Int) := by rw [ilen_eq]; simp
theorem iand_bd {x : Int} : 0 ≤ iand IntKind.u64 x 255 ∧ iand IntKind.u64 x 255 ≤ 255 := by
  rw [iand_eq]
  have h : (BitVec.ofInt (IntKind.bits .u64) x &&& BitVec.ofInt (IntKind.bits .u64) 255).toNat ≤ 255 := by
    rw [BitVec.toNat_and]
    refine Nat.le_trans Nat.and_le_right ?_
    decide
  generalize (BitVec.ofInt (IntKind.bits .u64) x &&& BitVec.ofInt (IntKind.bits .u64) 255).toNat = n at *
  have e : IntKind.wrap .u64 (n : Int) = n := by
    simp only [IntKind.wrap, IntKind.signed, IntKind.bits]
    simp
    omega
  rw [e]; omega
theorem next_dr {L : Nat} {a : List Int} {t s : Int} (hb : By a) (ht : 0 ≤ t ∧ t ≤ 1000000) : ∃ r s', spec_l1Cur_next L a t s = some (r, t + 1, s') ∧ 0 ≤ r ∧ r ≤ 255 := by
  unfold spec_l1Cur_next
  have wt : wr IntKind.i64 (iadd t 1) = t + 1 := by rw [iadd_eq, wr_id (by omega)]
  have low : ∀ X : Int, 0 ≤ wr IntKind.i64 (iand IntKind.u64 X 255) ∧ wr IntKind.i64 (iand IntKind.u64 X 255) ≤ 255 := fun X => by
    have := iand_bd (x := X)
    rw [wr_id (by omega)]; exact this
  simp only [wt, ilen_eU, ilt_eq, ile_eq, gbind_eq, show ¬ (40 : Int) < 0 by omega, decide_false, cond_false]
  by_cases h : t < (a.length : Int)
  · have hlt : t.toNat < a.length := by omega
    have hg : lget a t = some a[t.toNat] := by rw [lget_eq, if_pos ht.1, List.getElem?_eq_getElem hlt]
    have hp := hb a[t.toNat] (List.getElem_mem hlt)
    simp only [h, decide_true, cond_true, hg, Option.bind_some]
    by_cases h2 : t + 1 ≤ (a.length : Int)
    · simp only [h2, decide_true, cond_true]
      exact ⟨_, _, rfl, by rw [wr_id (by omega)]; exact hp⟩
    · simp only [h2, decide_false, cond_false]
      exact ⟨_, _, rfl, low _⟩
  · simp only [h, decide_false, cond_false]
    by_cases h2 : t + 1 ≤ (a.length : Int)
    · simp only [h2, decide_true, cond_true]
      exact ⟨_, _, rfl, by omega, by omega⟩
    · simp only [h2, decide_false, cond_false]
      exact ⟨_, _, rfl, low _⟩
theorem pick_dr {L : Nat} {a : List Int} {t s n : Int} (hb : By a) (ht : 0 ≤ t ∧ t ≤ 900000) (hn : 1 ≤ n ∧ n ≤ 1000000) : ∃ r t' s', spec_l1Cur_pick L a t s n = some (r, t', s') ∧ (0 ≤ r ∧ r < n) ∧ t ≤ t' ∧ t' ≤ t + 2 := by
  unfold spec_l1Cur_pick
  simp only [ile_eq, ilt_eq, ieq_eq, gbind_eq]
  by_cases h1 : n ≤ 1
  · simp only [h1, decide_true, cond_true]
    exact ⟨0, t, s, rfl, by omega, by omega, by omega⟩
  · simp only [h1, decide_false, cond_false]
    obtain ⟨r, s1, e1, r0, r1⟩ := next_dr (L := L) (s := s) hb (t := t) (by omega)
    simp only [e1, Option.bind_some, show ¬ n = 0 by omega, decide_false, cond_false]
    have key : ∀ x : Int, 0 ≤ x → 0 ≤ irem x n ∧ irem x n < n := fun x hx => by
      rw [irem_eq, Int.tmod_eq_emod_of_nonneg hx]
      exact ⟨Int.emod_nonneg _ (by omega), Int.emod_lt_of_pos _ (by omega)⟩
    by_cases h2 : 200 < n
    · simp only [h2, decide_true, cond_true]
      obtain ⟨q, s2, e2, q0, q1⟩ := next_dr (L := L) (s := s1) hb (t := t + 1) (by omega)
      simp only [e2, Option.bind_some]
      refine ⟨_, _, _, rfl, key _ ?_, by omega, by omega⟩
      rw [imul_eq, iadd_eq, wr_id (n := r * 256) (by omega), wr_id (by omega)]; omega
    · simp only [h2, decide_false, cond_false]
      exact ⟨_, _, _, rfl, key r r0, by omega, by omega⟩
theorem one_dr {L : Nat} {a : List Int} {t s n : Int} (hb : By a) (ht : 0 ≤ t ∧ t ≤ 900000) (hn : 1 ≤ n ∧ n ≤ 1000000) : ∃ r t' s', spec_l1Cur_one L a t s n = some (r, t', s') ∧ t ≤ t' ∧ t' ≤ t + 2 := by
  obtain ⟨r, t', s', e, _, h1, h2⟩ := pick_dr (L := L) (s := s) hb ht hn
  unfold spec_l1Cur_one
  simp only [e, gbind_eq, Option.bind_some]
  exact ⟨_, _, _, rfl, h1, h2⟩
theorem among_dr {L : Nat} {a w : List Int} {t s : Int} (hb : By a) (ht : 0 ≤ t ∧ t ≤ 900000) (hw : 1 ≤ (w.length : Int) ∧ (w.length : Int) ≤ 1000) : ∃ r t' s', spec_l1Cur_among_v2 L a t s w = some (r, t', s', w) ∧ r ∈ w ∧ t ≤ t' ∧ t' ≤ t + 2 := by
  have hl : ilen (List.map eI w) = (w.length : Int) := by rw [ilen_eq]; simp
  obtain ⟨r, t', s', e, ⟨r0, r1⟩, h1, h2⟩ := pick_dr (L := L) (s := s) (n := (w.length : Int)) hb ht (by omega)
  unfold spec_l1Cur_among_v2
  have hlt : r.toNat < w.length := by omega
  have hg : lget w r = some w[r.toNat] := by rw [lget_eq, if_pos r0, List.getElem?_eq_getElem hlt]
  simp only [hl, e, gbind_eq, Option.bind_some, ile_eq, ilt_eq, r0, r1, decide_true, Bool.and_self, cond_true, hg]
  exact ⟨_, _, _, rfl, List.getElem_mem hlt, h1, h2⟩
theorem surePeg_dr {L : Nat} {a : List Int} {t s n : Int} (hb : By a) (ht : 0 ≤ t ∧ t ≤ 800000) (hn : 1 ≤ n ∧ n ≤ 20) : ∃ x y t' s', spec_l1Cur_surePeg L a t s n = some (x, y, t', s') ∧ In ⟨x, y⟩ ∧ t ≤ t' ∧ t' ≤ t + 4 := by
  have wn : wr IntKind.i64 (iadd (wr IntKind.i64 (imul 2 n)) 1) = 2 * n + 1 := by
    rw [imul_eq, iadd_eq, wr_id (n := 2 * n) (by omega), wr_id (by omega)]
  obtain ⟨r, t1, s1, e1, ⟨r0, r1⟩, h1, h2⟩ := pick_dr (L := L) (s := s) (n := 2 * n + 1) hb (t := t) (by omega) (by omega)
  obtain ⟨q, t2, s2, e2, ⟨q0, q1⟩, h3, h4⟩ := pick_dr (L := L) (s := s1) (n := 2 * n + 1) hb (t := t1) (by omega) (by omega)
  unfold spec_l1Cur_surePeg
  simp only [wn, e1, e2, gbind_eq, Option.bind_some, isub_eq]
  rw [wr_id (n := r - n) (by omega), wr_id (n := q - n) (by omega)]
  exact ⟨_, _, _, _, rfl, by unfold In; simp only; omega, by omega, by omega⟩
theorem peg_dr {L : Nat} {a : List Int} {t s : Int} (hb : By a) (ht : 0 ≤ t ∧ t ≤ 700000) : ∃ x y t' s', spec_l1Cur_peg L a t s = some (x, y, t', s') ∧ Wd ⟨x, y⟩ ∧ t ≤ t' ∧ t' ≤ t + 8 := by
  obtain ⟨b, t1, s1, e1, h1, h2⟩ := one_dr (L := L) (s := s) (n := 12) hb (t := t) (by omega) (by omega)
  unfold spec_l1Cur_peg
  simp only [e1, gbind_eq, Option.bind_some]
  cases b with
  | true =>
    obtain ⟨x, t2, s2, e2, m2, h3, h4⟩ := among_dr (L := L) (s := s1) (w := [0, 40, -40, 41, 4611686018427387904]) hb (t := t1) (by omega) (by simp)
    obtain ⟨y, t3, s3, e3, m3, h5, h6⟩ := among_dr (L := L) (s := s2) (w := [0, 1, 40, -41, -9223372036854775808]) hb (t := t2) (by omega) (by simp)
    simp only [cond_true, e2, e3, Option.bind_some]
    refine ⟨_, _, _, _, rfl, ?_, by omega, by omega⟩
    simp only [List.mem_cons, List.not_mem_nil, or_false] at m2 m3
    unfold Wd; simp only; omega
  | false =>
    obtain ⟨x, y, t2, s2, e2, m2, h3, h4⟩ := surePeg_dr (L := L) (s := s1) (n := 6) hb (t := t1) (by omega) (by omega)
    simp only [cond_false, e2, Option.bind_some]
    refine ⟨_, _, _, _, rfl, ?_, by omega, by omega⟩
    unfold In at m2; unfold Wd; simp only at *; omega
theorem pt_mem2 {a : List Pt} (hn : a ≠ []) (i : Int) : pt a i ∈ a := by
  have hl : 0 < (a.length : Int) := by have := List.length_pos_iff.2 hn; omega
  have := pt_get (a := a) (i := i % a.length) (Int.emod_nonneg _ (by omega)) (Int.emod_lt_of_pos _ hl)
  rw [pt_congr (Int.emod_emod_of_dvd _ (Int.dvd_refl _))] at this
  exact List.mem_of_getElem? this
structure Pl (w : List Pt) (n : Int) : Prop where
  len : (w.length : Int) ≤ n
  lo : 3 ≤ (w.length : Int)
  ins : ∀ p ∈ w, In p
theorem surePoly_l0 {L : Nat} {a : List Int} {n : Int} (hb : By a) (hn : 1 ≤ n ∧ n ≤ 20) (hL : 1000 < L) : ∀ (k m : Nat) (t s : Int) (w : List Pt), k < m → k ≤ 10 → (0 ≤ t ∧ t ≤ 500000 - 10 * k) → Pl w (30 - k) → w ≠ [] →
    ∃ r t' s', spec_l1Cur_surePolygon_l0 L a n m k t s w = some (r, t', s') ∧ Pl r 30 ∧ r ≠ [] ∧ t ≤ t' ∧ t' ≤ t + 10 * k + 2 := by
  intro k
  induction k with
  | zero =>
    intro m t s w hm _ ht hw hne
    obtain ⟨m, rfl⟩ : ∃ q, m = q + 1 := ⟨m - 1, by omega⟩
    obtain ⟨b, t1, s1, e1, h1, h2⟩ := one_dr (L := L) (s := s) (n := 3) hb (t := t) (by omega) (by omega)
    have hl := hw.len
    rw [spec_l1Cur_surePolygon_l0]
    simp only [ilt_eq, show ¬ (0 : Int) < ((0 : Nat) : Int) by omega, decide_false, cond_false, e1, gbind_eq, Option.bind_some]
    cases b with
    | true =>
      simp only [cond_true, spec_pgBack_eq (L := L) hne (show (w.length : Int) ≤ 900000 by omega) (by omega), Option.bind_some]
      refine ⟨_, _, _, rfl, ⟨by rw [tour_len]; omega, by rw [tour_len]; exact hw.lo, fun p hp => ?_⟩, fun e => hne (by have := congrArg List.length e; rw [tour_len] at this; exact List.eq_nil_of_length_eq_zero (by simpa using this)), by omega, by omega⟩
      unfold tour at hp
      obtain ⟨j, _, rfl⟩ := List.mem_map.1 hp
      exact hw.ins _ (pt_mem2 hne _)
    | false =>
      simp only [cond_false]
      exact ⟨_, _, _, rfl, ⟨by omega, hw.lo, hw.ins⟩, hne, by omega, by omega⟩
  | succ k ih =>
    intro m t s w hm hk ht hw hne
    obtain ⟨m, rfl⟩ : ∃ q, m = q + 1 := ⟨m - 1, by omega⟩
    have hl := hw.len
    have hpos : 0 < (w.length : Int) := by have := List.length_pos_iff.2 hne; omega
    obtain ⟨r, t1, s1, e1, ⟨r0, r1⟩, h1, h2⟩ := pick_dr (L := L) (s := s) (n := (w.length : Int)) hb (t := t) (by omega) (by omega)
    obtain ⟨x, y, t2, s2, e2, m2, h3, h4⟩ := surePeg_dr (L := L) (s := s1) (n := n) hb (t := t1) (by omega) hn
    have w1 : wr IntKind.i64 (iadd 1 r) = 1 + r := by rw [iadd_eq, wr_id (by omega)]
    have wk : wr IntKind.i64 (isub ((k + 1 : Nat) : Int) 1) = (k : Int) := by rw [isub_eq, wr_id (by omega)]; omega
    have hall : ∀ (u v : List AV), (u.length : Int) ≤ 100 → (v.length : Int) ≤ 100 → fits (iadd (ilen u) (ilen v)) 16 = true := fun u v hu hv => by
      rw [ilen_eq, ilen_eq, iadd_eq]; exact fits_s (by omega)
    rw [spec_l1Cur_surePolygon_l0]
    simp only [ilt_eq, show (0 : Int) < ((k + 1 : Nat) : Int) by omega, decide_true, cond_true, ilen_mapep, e1, e2, gbind_eq, Option.bind_some, w1, wk, ile_eq, show (0 : Int) ≤ 1 + r by omega, show 1 + r ≤ (w.length : Int) by omega, Bool.and_self]
    rw [hall _ _ (by simp) (by rw [lsub_eq]; simp; omega), cond_true, hall _ _ (by rw [lcat_eq, lsub_eq]; simp; omega) (by simp), cond_true, hall _ _ (by rw [lcat_eq, lcat_eq, lsub_eq]; simp; omega) (by rw [lsub_eq]; simp; omega), cond_true]
    simp only [spec_pgGood_eq (show 20 < L by omega), Option.bind_some]
    have hw' : Pl (lcat (lcat (lcat [] (lsub w 0 (iadd 0 (1 + r)))) [(⟨x, y⟩ : Pt)]) (lsub w (1 + r) (iadd (1 + r) (isub (w.length : Int) (1 + r))))) (30 - k) := by
      simp only [lcat_eq, lsub_eq, iadd_eq, isub_eq]
      have hlo := hw.lo
      refine ⟨by simp; omega, by simp; omega, fun p hp => ?_⟩
      simp only [List.nil_append, List.mem_append, List.mem_singleton] at hp
      rcases hp with (hp | hp) | hp
      · exact hw.ins p (List.mem_of_mem_drop (List.mem_of_mem_take hp))
      · rw [hp]; exact m2
      · exact hw.ins p (List.mem_of_mem_drop (List.mem_of_mem_take hp))
    have hne' : lcat (lcat (lcat [] (lsub w 0 (iadd 0 (1 + r)))) [(⟨x, y⟩ : Pt)]) (lsub w (1 + r) (iadd (1 + r) (isub (w.length : Int) (1 + r)))) ≠ [] := by
      simp [lcat_eq]
    generalize lcat (lcat (lcat [] (lsub w 0 (iadd 0 (1 + r)))) [(⟨x, y⟩ : Pt)]) (lsub w (1 + r) (iadd (1 + r) (isub (w.length : Int) (1 + r)))) = w' at *
    by_cases g : Good_ w'
    · simp only [g, decide_true, cond_true]
      obtain ⟨q, t3, s3, e3, g1, g2, g3, g4⟩ := ih m t2 s2 w' (by omega) (by omega) (by omega) hw' hne'
      exact ⟨q, t3, s3, e3, g1, g2, by omega, by omega⟩
    · simp only [g, decide_false, cond_false]
      obtain ⟨q, t3, s3, e3, g1, g2, g3, g4⟩ := ih m t2 s2 w (by omega) (by omega) (by omega) ⟨by omega, hw.lo, hw.ins⟩ hne
      exact ⟨q, t3, s3, e3, g1, g2, by omega, by omega⟩
theorem surePoly_dr {L : Nat} {a : List Int} {t s n c : Int} (hb : By a) (ht : 0 ≤ t ∧ t ≤ 400000) (hn : 1 ≤ n ∧ n ≤ 20) (hc : 2 ≤ c ∧ c ≤ 10) (hL : 1000 < L) : ∃ r t' s', spec_l1Cur_surePolygon L a t s n c = some (r, t', s') ∧ Pl r 30 ∧ r ≠ [] ∧ t ≤ t' ∧ t' ≤ t + 200 := by
  obtain ⟨x, t1, s1, e1, x0, h1, h2⟩ := pick_dr (L := L) (s := s) (n := n) hb (t := t) (by omega) (by omega)
  obtain ⟨y, t2, s2, e2, y0, h3, h4⟩ := pick_dr (L := L) (s := s1) (n := n + 1) hb (t := t1) (by omega) (by omega)
  obtain ⟨z, t3, s3, e3, z0, h5, h6⟩ := pick_dr (L := L) (s := s2) (n := n) hb (t := t2) (by omega) (by omega)
  obtain ⟨k, t4, s4, e4, k0, h7, h8⟩ := pick_dr (L := L) (s := s3) (n := c - 1) hb (t := t3) (by omega) (by omega)
  unfold spec_l1Cur_surePolygon
  have wn : wr IntKind.i64 (iadd n 1) = n + 1 := by rw [iadd_eq, wr_id (by omega)]
  have wc : wr IntKind.i64 (isub c 1) = c - 1 := by rw [isub_eq, wr_id (by omega)]
  have wx : wr IntKind.i64 (iadd 1 x) = 1 + x := by rw [iadd_eq, wr_id (by omega)]
  have wz : wr IntKind.i64 (iadd 1 z) = 1 + z := by rw [iadd_eq, wr_id (by omega)]
  simp only [e1, wn, e2, e3, wc, e4, gbind_eq, Option.bind_some, wx, wz]
  obtain ⟨q, t5, s5, e5, g1, g2, g3, g4⟩ := surePoly_l0 (L := L) hb hn hL k.toNat L t4 s4 [⟨0, 0⟩, ⟨1 + x, 0⟩, ⟨y, 1 + z⟩] (by omega) (by omega) (by omega)
    ⟨by simp; omega, by simp, fun p hp => by
      simp only [List.mem_cons, List.not_mem_nil, or_false] at hp
      rcases hp with rfl | rfl | rfl <;> unfold In <;> simp only <;> omega⟩ (by simp)
  rw [Int.toNat_of_nonneg k0.1] at e5
  exact ⟨q, t5, s5, e5, g1, g2, by omega, by omega⟩
theorem polygon_dr {L : Nat} {a : List Int} {t s n : Int} (hb : By a) (ht : 0 ≤ t ∧ t ≤ 300000) (hn : 1 ≤ n ∧ n ≤ 20) (hL : 1000 < L) : ∃ r t' s', spec_l1Cur_polygon L a t s n = some (r, t', s') ∧ (r.length : Int) ≤ 30 ∧ (∀ p ∈ r, Wd p) ∧ t ≤ t' ∧ t' ≤ t + 300 := by
  have inwd : ∀ p, In p → Wd p := fun p h => by unfold In at h; unfold Wd; omega
  obtain ⟨w, t1, s1, e1, hw, hne, h1, h2⟩ := surePoly_dr (L := L) (s := s) (n := n) (c := 8) hb (t := t) (by omega) hn (by omega) hL
  obtain ⟨k, t2, s2, e2, k0, h3, h4⟩ := pick_dr (L := L) (s := s1) (n := 16) hb (t := t1) (by omega) (by omega)
  have hpos : 0 < (w.length : Int) := by have := List.length_pos_iff.2 hne; omega
  have hl := hw.len
  unfold spec_l1Cur_polygon
  simp only [e1, e2, gbind_eq, Option.bind_some, ilen_mapep, ieq_eq]
  by_cases c0 : k = 0
  · obtain ⟨i, t3, s3, e3, i0, h5, h6⟩ := pick_dr (L := L) (s := s2) (n := (w.length : Int)) hb (t := t2) (by omega) (by omega)
    obtain ⟨x, y, t4, s4, e4, hp, h7, h8⟩ := peg_dr (L := L) (s := s3) hb (t := t3) (by omega)
    simp only [c0, decide_true, cond_true, e3, e4, Option.bind_some, ile_eq, ilt_eq, i0.1, i0.2, Bool.and_self, lget_pt i0.1 i0.2]
    refine ⟨_, _, _, rfl, by rw [lset_eq]; simp; omega, fun p hp' => ?_, by omega, by omega⟩
    rw [lset_eq] at hp'
    rcases List.mem_or_eq_of_mem_set hp' with h | h
    · exact inwd p (hw.ins p h)
    · rw [h]; exact hp
  · by_cases c1 : k = 1
    · obtain ⟨i, t3, s3, e3, i0, h5, h6⟩ := pick_dr (L := L) (s := s2) (n := 3) hb (t := t2) (by omega) (by omega)
      simp only [c0, c1, decide_true, decide_false, cond_true, cond_false, e3, Option.bind_some, ile_eq, i0.1, Bool.true_and]
      have hlo := hw.lo
      by_cases hi : i ≤ (w.length : Int)
      · simp only [hi, decide_true, cond_true]
        refine ⟨_, _, _, rfl, by rw [lsub_eq]; simp; omega, fun p hp' => ?_, by omega, by omega⟩
        rw [lsub_eq] at hp'
        exact inwd p (hw.ins p (List.mem_of_mem_drop (List.mem_of_mem_take hp')))
      · omega
    · by_cases c2 : k = 2
      · simp only [c0, c1, c2, decide_true, decide_false, cond_true, cond_false]
        refine ⟨_, _, _, rfl, by simp, fun p hp' => ?_, by omega, by omega⟩
        simp only [List.mem_cons, List.not_mem_nil, or_false] at hp'
        rcases hp' with rfl | rfl | rfl | rfl <;> unfold Wd <;> simp only <;> omega
      · simp only [c0, c1, c2, decide_false, cond_false]
        exact ⟨_, _, _, rfl, by omega, fun p hp => inwd p (hw.ins p hp), by omega, by omega⟩
end Go.AM
namespace Go.AM
end Go.AM
namespace Go.AM
end Go.AM
namespace Go.AM
end Go.AM
namespace Go.AM
end Go.AM
namespace Go.AM
open Classical
end Go.AM
namespace Go.AM
open Classical
end Go.AM
namespace Go.AM
theorem sup_l1 {L : Nat} {κ0 : Int → Int → Int → (List Pt) → (List Pt) → Int → Int → Option ((List Pt) × Bool)} {v1 v2 v9 v28 v29 : Int} {out v27 : List Pt} {p : Pt} (hO : Ord out) (hs : (out.length : Int) ≤ 100000) (hv : 0 ≤ v29 ∧ v29 ≤ 100000) :
    ∀ (m k : Nat), k ≤ out.length → (∀ j, k ≤ j → ∀ x, out[j]? = some x → Less p x) → k < m → spec_SupportOf_l1 L κ0 v1 v2 v9 out v27 v28 v29 p m k = κ0 v1 v2 v9 (insP p out) v27 v28 (v29 + 1) := by
  intro m
  induction m with
  | zero => intro k _ _ h; omega
  | succ m ih =>
    intro k hk h1 hm
    have l1 : ∀ n : Nat, n ≤ out.length → ilen (lsub (List.map ep out) 0 (n : Int)) = n := fun n hn => by rw [← map_lsub, ilen_mapep, (lsubk hn).1]; simp; omega
    have l2 : ∀ n : Nat, n ≤ out.length → ilen (lsub (List.map ep out) (n : Int) (out.length : Int)) = ((out.length - n : Nat) : Int) := fun n hn => by rw [← map_lsub, ilen_mapep, (lsubk hn).2]; simp
    have l3 : ∀ n : Nat, n ≤ out.length → ilen (lcat ([] : List AV) (lsub (List.map ep out) 0 (n : Int))) = n := fun n hn => by rw [lcat_eq, List.nil_append]; exact l1 n hn
    have l4 : ∀ n : Nat, n ≤ out.length → ilen (lcat (lcat ([] : List AV) (lsub (List.map ep out) 0 (n : Int))) [AV.agg [AV.int IntKind.i64 p.x, AV.int IntKind.i64 p.y]]) = n + 1 := fun n hn => by
      rw [lcat_eq, lcat_eq, List.nil_append, ilen_eq, List.length_append]; have := l1 n hn; rw [ilen_eq] at this; simp; simpa using this
    have l5 : ilen (lcat ([] : List AV) [AV.agg [AV.int IntKind.i64 p.x, AV.int IntKind.i64 p.y]]) = 1 := by rw [lcat_eq, ilen_eq]; rfl
    have fin : out.take k ++ p :: out.drop k = insP p out → κ0 v1 v2 v9 (lcat (lcat (lcat [] (lsub out 0 (k : Int))) (p :: [])) (lsub out (k : Int) (out.length : Int))) v27 v28 (wr IntKind.i64 (v29 + 1)) = κ0 v1 v2 v9 (insP p out) v27 v28 (v29 + 1) := fun e => by
      rw [wr_s (by omega), ← e, (lsubk (by omega)).1, (lsubk (by omega)).2]
      simp only [lcat_eq, List.nil_append, List.append_assoc, List.cons_append]
    have fin0 : (k : Int) = 0 → out.take k ++ p :: out.drop k = insP p out → κ0 v1 v2 v9 (lcat (lcat [] (p :: [])) (lsub out (k : Int) (out.length : Int))) v27 v28 (wr IntKind.i64 (v29 + 1)) = κ0 v1 v2 v9 (insP p out) v27 v28 (v29 + 1) := fun e0 e => by
      rw [← fin e]
      have : lsub out 0 (k : Int) = [] := by rw [(lsubk (by omega)).1, show k = 0 by omega]; rfl
      rw [this]
      simp only [lcat_eq, List.nil_append]
    rw [spec_SupportOf_l1]
    simp only [l5, ieq_eq, ilen_mapep, ilt_eq, iadd_eq, isub_eq, ile_eq, l1 k (by omega), l2 k (by omega), l3 k (by omega), l4 k (by omega), show ilen ([] : List AV) = 0 by rw [ilen_eq]; rfl, show ilen [AV.agg [AV.int IntKind.i64 p.x, AV.int IntKind.i64 p.y]] = 1 by rw [ilen_eq]; rfl]
    rw [fits_l (show ((0 : Int) + k) * (16 : Nat) ≤ 140737488355328 by omega), fits_l (show ((k : Int) + 1) * (16 : Nat) ≤ 140737488355328 by omega), fits_l (show ((k : Int) + 1 + ((out.length - k : Nat) : Int)) * (16 : Nat) ≤ 140737488355328 by omega)]
    rw [fits_l (show (0 : Int) * (16 : Nat) ≤ 140737488355328 by omega), fits_l (show ((0 : Int) + 1) * (16 : Nat) ≤ 140737488355328 by omega), fits_l (show ((1 : Int) + ((out.length - k : Nat) : Int)) * (16 : Nat) ≤ 140737488355328 by omega)]
    simp only [show (0 : Int) ≤ k by omega, show (k : Int) ≤ (out.length : Int) by omega, decide_true, Bool.and_self, cond_true]
    have both : out.take k ++ p :: out.drop k = insP p out → (bif decide ((k : Int) = 0) then κ0 v1 v2 v9 (lcat (lcat [] (p :: [])) (lsub out (k : Int) (out.length : Int))) v27 v28 (wr IntKind.i64 (v29 + 1)) else κ0 v1 v2 v9 (lcat (lcat (lcat [] (lsub out 0 (k : Int))) (p :: [])) (lsub out (k : Int) (out.length : Int))) v27 v28 (wr IntKind.i64 (v29 + 1))) = κ0 v1 v2 v9 (insP p out) v27 v28 (v29 + 1) := fun e => by
      by_cases e0 : (k : Int) = 0
      · simp only [e0, decide_true, cond_true]
        have := fin0 e0 e
        rwa [e0] at this
      · simp only [e0, decide_false, cond_false]
        exact fin e
    by_cases hkl : (0 : Int) < (k : Int)
    · have hk1 : (k : Int) - 1 < (out.length : Int) := by omega
      have hg : out[k - 1]? = some (pt out ((k : Int) - 1)) := by
        have := pt_get (a := out) (i := (k : Int) - 1) (by omega) hk1
        rwa [show ((k : Int) - 1).toNat = k - 1 by omega] at this
      simp only [hkl, decide_true, cond_true]
      rw [wr_s (i := (k : Int) - 1) (by omega)]
      simp only [lget_pt (show (0 : Int) ≤ (k : Int) - 1 by omega) hk1, gbind_eq, Option.bind_some, spec_pgLess_eq]
      by_cases hl : Less p (pt out ((k : Int) - 1))
      · simp only [hl, decide_true, cond_true]
        have := ih (k - 1) (by omega) (fun j hj x hx => by
          by_cases e : j = k - 1
          · subst e; rw [hg] at hx; rw [← Option.some.inj hx]; exact hl
          · exact h1 j (by omega) x hx) (by omega)
        rw [show ((k - 1 : Nat) : Int) = (k : Int) - 1 by omega] at this
        exact this
      · simp only [hl, decide_false, cond_false]
        refine both (insP_take hO hk h1 fun j hj x hx => ?_)
        rw [show j = k - 1 by omega, hg] at hx
        rw [← Option.some.inj hx]; exact hl
    · simp only [hkl, decide_false, cond_false]
      exact both (insP_take hO hk h1 fun j hj => by omega)
theorem sup_l0 {L : Nat} {a : List Pt} {b c t : Int} (hb : -100000 ≤ b ∧ b ≤ 100000) (hc : -100000 ≤ c ∧ c ≤ 100000) (hin : ∀ i, In (pt a i)) (hs : (a.length : Int) ≤ 1000) (hL : (a.length : Int) < L) : ∀ (m i : Nat) (out : List Pt), i ≤ a.length → out.length ≤ i → Ord out → a.length - i < m →
    spec_SupportOf_l0 L m b c t out a a.length i = some (((a.drop i).filter fun p => decide (val b c p = t)).foldl (fun out p => insP p out) out, true) := by
  intro m
  induction m with
  | zero => intro i out _ _ _ h; omega
  | succ m ih =>
    intro i out hi ho hO hm
    rw [spec_SupportOf_l0]
    simp only [ilt_eq]
    by_cases h : (i : Int) < (a.length : Int)
    · have hg : a[i]? = some (pt a i) := by have := pt_get (a := a) (i := (i : Int)) (by omega) h; rwa [Int.toNat_natCast] at this
      have hlt : i < a.length := by omega
      have wi : wr IntKind.i64 (iadd (i : Int) 1) = ((i + 1 : Nat) : Int) := by rw [iadd_eq, wr_s (by omega)]; omega
      rw [List.getElem?_eq_getElem hlt] at hg
      simp only [h, decide_true, cond_true, lget_pt (show (0 : Int) ≤ i by omega) h, gbind_eq, Option.bind_some, val_wr (p := pt a i) hb hc (hin i), wi, ieq_eq]
      rw [List.drop_eq_getElem_cons hlt, Option.some.inj hg]
      by_cases he : val b c (pt a i) = t
      · simp only [he, decide_true, Bool.not_true, cond_false]
        rw [List.filter_cons, if_pos (by simpa using he), List.foldl_cons, ilen_mapep]
        rw [sup_l1 (L := L) (κ0 := spec_SupportOf_l0 L m) (out := out) (p := pt a i) hO (by omega) (by omega) L out.length (Nat.le_refl _) (fun j hj x hx => by rw [List.getElem?_eq_none (by omega)] at hx; cases hx) (by omega)]
        have := ih (i + 1) (insP (pt a i) out) (by omega) (by rw [insP_len]; omega) (insP_ord hO) (by omega)
        rw [show ((i + 1 : Nat) : Int) = (i : Int) + 1 by omega] at this
        exact this
      · simp only [he, decide_false, Bool.not_false, cond_true]
        rw [List.filter_cons, if_neg (by simpa using he)]
        exact ih (i + 1) out (by omega) (by omega) hO (by omega)
    · simp only [h, decide_false, cond_false]
      rw [List.drop_of_length_le (by omega)]
      rfl
theorem isup_l0 {L : Nat} {S : List Pt} {b c : Int} {r1 : Int × Int} (hb : -100000 ≤ b ∧ b ≤ 100000) (hc : -100000 ≤ c ∧ c ≤ 100000) (hin : ∀ i, In (pt S i)) (hs : (S.length : Int) ≤ 1000) : ∀ (m i : Nat) (out : List Pt), i ≤ S.length → out.length ≤ i → S.length - i < m →
    impl_SupportOf_l0 L b c r1 S m i out = some (out ++ (S.drop i).filter (fun p => decide (val b c p = r1.2)), true) := by
  intro m
  induction m with
  | zero => intro i out _ _ h; omega
  | succ m ih =>
    intro i out hi ho hm
    rw [impl_SupportOf_l0]
    simp only [ilt_eq, ilen_mapep]
    by_cases h : (i : Int) < (S.length : Int)
    · have hg : S[i]? = some (pt S i) := by have := pt_get (a := S) (i := (i : Int)) (by omega) h; rwa [Int.toNat_natCast] at this
      have hlt : i < S.length := by omega
      have wi : wr IntKind.i64 (iadd (i : Int) 1) = ((i + 1 : Nat) : Int) := by rw [iadd_eq, wr_s (by omega)]; omega
      rw [List.getElem?_eq_getElem hlt] at hg
      unfold impl_value
      simp only [h, show (0 : Int) ≤ i by omega, ile_eq, decide_true, Bool.and_self, cond_true, lget_pt (show (0 : Int) ≤ i by omega) h, gbind_eq, Option.bind_some, val_wr (p := pt S i) hb hc (hin i), wi, ieq_eq]
      rw [List.drop_eq_getElem_cons hlt, Option.some.inj hg]
      by_cases he : val b c (pt S i) = r1.2
      · simp only [he, decide_true, cond_true, show ilen [AV.agg [AV.int IntKind.i64 (pt S i).x, AV.int IntKind.i64 (pt S i).y]] = 1 by rw [ilen_eq]; rfl, iadd_eq]
        rw [fits_l (by omega), cond_true, List.filter_cons, if_pos (by simpa using he)]
        rw [ih (i + 1) _ (by omega) (by rw [lcat_eq]; simp; omega) (by omega)]
        simp only [lcat_eq, List.append_assoc, List.singleton_append]
      · simp only [he, decide_false, cond_false]
        rw [List.filter_cons, if_neg (by simpa using he)]
        exact ih (i + 1) out (by omega) (by omega) (by omega)
    · simp only [h, decide_false, cond_false]
      rw [List.drop_of_length_le (by omega)]
      simp
end Go.AM
namespace Go.AM
theorem dir_S {a : List Pt} (g : Good_ a) : isort (dirL a (axW a)) ≠ [] := fun e => axW_ne g (by have := isort_len (dirL a (axW a)); rw [e] at this; exact List.eq_nil_of_length_eq_zero this.symm)
theorem told_bd {a : List Pt} {p : Pt} {t : Int} (g : Good_ a) (ht : 0 ≤ t ∧ t ≤ 100) (hp : p ∈ dirL a t) : (-100000 ≤ p.x ∧ p.x ≤ 100000) ∧ (-100000 ≤ p.y ∧ p.y ≤ 100000) := by
  have h := vw_of g ht
  unfold dirL at hp
  rw [allD_mem] at hp
  obtain ⟨s, s0, s1, u, u0, u1, e⟩ := hp
  have i0 := h.isIn 0
  have i1 := h.isIn 1
  have i2 := h.isIn 2
  unfold In at i0 i1 i2
  unfold dirOf at e
  split at e
  · cases e
    have m1 := mul_bd (x := s) (y := (pt a 2).y - (pt a 0).y) (A := 100) (B := 80) (by omega) (by omega)
    have m2 := mul_bd (x := u) (y := (pt a 1).y - (pt a 0).y) (A := 100) (B := 80) (by omega) (by omega)
    have m3 := mul_bd (x := u) (y := (pt a 1).x - (pt a 0).x) (A := 100) (B := 80) (by omega) (by omega)
    have m4 := mul_bd (x := s) (y := (pt a 2).x - (pt a 0).x) (A := 100) (B := 80) (by omega) (by omega)
    have b1 := tdiv_bd (a := s * ((pt a 2).y - (pt a 0).y) - u * ((pt a 1).y - (pt a 0).y)) (b := turn (pt a 0) (pt a 1) (pt a 2)) (A := 100000) (by omega)
    have b2 := tdiv_bd (a := u * ((pt a 1).x - (pt a 0).x) - s * ((pt a 2).x - (pt a 0).x)) (b := turn (pt a 0) (pt a 1) (pt a 2)) (A := 100000) (by omega)
    exact ⟨b1, b2⟩
  · cases e
theorem wiLeast_eq {L : Nat} {a : List Pt} (g : Good_ a) (hL : 200000 < L) : spec_wiLeast L a = some (leastW a, (isort (dirL a (leastW a))).map row) := by
  obtain ⟨h1, h2, h3⟩ := leastW_spec g
  unfold spec_wiLeast
  exact wiLeast_l0 g hL (by omega) h2 h3 ((leastW a).toNat - 1) L 1 (by omega) (by omega) (by omega)
end Go.AM
namespace Go.AM
noncomputable def okW (a : List Pt) (n : Int) (p : Pt) : Bool := decide (wdth a p.x p.y ≤ n)
theorem drop_pt {S : List Pt} {i : Nat} (h : i < S.length) : S.drop i = pt S i :: S.drop (i + 1) := by
  have hg := pt_get (a := S) (i := (i : Int)) (by omega) (by omega)
  rw [Int.toNat_natCast, List.getElem?_eq_getElem h] at hg
  rw [List.drop_eq_getElem_cons h, Option.some.inj hg]
theorem take_pt {S : List Pt} {i : Nat} (h : i < S.length) : S.take (i + 1) = S.take i ++ [pt S i] := by
  have hg := pt_get (a := S) (i := (i : Int)) (by omega) (by omega)
  rw [Int.toNat_natCast] at hg
  rw [List.take_add_one, hg]; rfl
theorem idx_val {L : Nat} {a S : List Pt} {n : Int} (g : Good_ a) (hS : ∀ p ∈ S, (-100000 ≤ p.x ∧ p.x ≤ 100000) ∧ (-100000 ≤ p.y ∧ p.y ≤ 100000)) (hl : (S.length : Int) ≤ 100000) (hL : 200000 < L) :
    ∀ (m i : Nat), i ≤ S.length → S.length - i < m → (∀ p ∈ S.take i, okW a n p = true) → ∃ r : Int, slices_IndexFunc_impl_Peg_impl_Peg_impl_least_1_l0 L S a n m i = some r ∧
      ((r = -1 ∧ ∀ p ∈ S, okW a n p = true) ∨ (0 ≤ r ∧ r < S.length ∧ (∀ p ∈ S.take r.toNat, okW a n p = true) ∧ okW a n (pt S r) = false)) := by
  intro m
  induction m with
  | zero => intro i _ h; omega
  | succ m ih =>
    intro i hi hm hp0
    rw [slices_IndexFunc_impl_Peg_impl_Peg_impl_least_1_l0]
    by_cases h : (i : Int) < (S.length : Int)
    · have hlt : i < S.length := by omega
      have wi : wr IntKind.i64 (iadd (i : Int) 1) = ((i + 1 : Nat) : Int) := by rw [iadd_eq, wr_s (by omega)]; omega
      have hp := hS (pt S i) (pt_mem (by intro e; subst e; simp at hlt) i)
      simp only [ilen_mapep, ilt_eq, h, decide_true, cond_true, lget_pt (show (0 : Int) ≤ i by omega) h, gbind_eq, Option.bind_some, pred_eq g hp.1 hp.2 hL, wi]
      by_cases hq : n < wdth a (pt S i).x (pt S i).y
      · simp only [hq, decide_true, cond_true]
        exact ⟨_, rfl, .inr ⟨by omega, by omega, by rw [Int.toNat_natCast]; exact hp0, by unfold okW; exact decide_eq_false (by omega)⟩⟩
      · simp only [hq, decide_false, cond_false]
        refine ih (i + 1) (by omega) (by omega) fun p hp => ?_
        rw [take_pt hlt] at hp
        rcases List.mem_append.1 hp with hp | hp
        · exact hp0 p hp
        · rw [List.mem_singleton.1 hp]; unfold okW; exact decide_eq_true (by omega)
    · simp only [ilen_mapep, ilt_eq, h, decide_false, cond_false]
      exact ⟨_, rfl, .inl ⟨rfl, by rwa [List.take_of_length_le (by omega)] at hp0⟩⟩
theorem del_val {L : Nat} {a : List Pt} {n : Int} {F : List Pt} (g : Good_ a) (hL : 200000 < L) :
    ∀ (m : Nat) (u v : Nat) (w : List Pt), u ≤ v → v ≤ w.length → (w.length : Int) ≤ 100000 → (∀ p ∈ w, (-100000 ≤ p.x ∧ p.x ≤ 100000) ∧ (-100000 ≤ p.y ∧ p.y ≤ 100000)) → w.length - v < m →
      w.take u ++ (w.drop v).filter (okW a n) = F →
      ∃ r, slices_DeleteFunc_impl_Peg_impl_Peg_least_l0 L a n m u v w = some r ∧ lsub r.2 0 (iadd 0 r.1) = F := by
  intro m
  induction m with
  | zero => intro u v w h1 h2 _ _ h; omega
  | succ m ih =>
    intro u v w h1 h2 hl hS hm hF
    rw [slices_DeleteFunc_impl_Peg_impl_Peg_least_l0]
    by_cases h : (v : Int) < (w.length : Int)
    · have wv : wr IntKind.i64 (iadd (v : Int) 1) = ((v + 1 : Nat) : Int) := by rw [iadd_eq, wr_s (by omega)]; omega
      have wu : wr IntKind.i64 (iadd (u : Int) 1) = ((u + 1 : Nat) : Int) := by rw [iadd_eq, wr_s (by omega)]; omega
      have hne : w ≠ [] := by intro e; subst e; simp at h; omega
      have hp := hS (pt w v) (pt_mem hne v)
      rw [drop_pt (by omega)] at hF
      simp only [ilen_mapep, ilt_eq, ile_eq, h, show (0 : Int) ≤ (v : Int) by omega, show (0 : Int) ≤ (u : Int) by omega, show (u : Int) < (w.length : Int) by omega, decide_true, Bool.and_self, cond_true, lget_pt (show (0 : Int) ≤ (v : Int) by omega) h, lget_pt (show (0 : Int) ≤ (u : Int) by omega) (show (u : Int) < (w.length : Int) by omega), gbind_eq, Option.bind_some, pred_eq g hp.1 hp.2 hL, wv, wu]
      by_cases hq : n < wdth a (pt w v).x (pt w v).y
      · simp only [hq, decide_true, Bool.not_true, cond_false]
        refine ih u (v + 1) w (by omega) (by omega) hl hS (by omega) ?_
        have hk : okW a n (pt w v) = false := by unfold okW; exact decide_eq_false (by omega)
        rwa [List.filter_cons_of_neg (by rw [hk]; simp)] at hF
      · simp only [hq, decide_false, Bool.not_false, cond_true, lset_eq, Int.toNat_natCast]
        refine ih (u + 1) (v + 1) _ (by omega) (by simp; omega) (by simpa using hl) (fun p hp' => ?_) (by simp; omega) ?_
        · rcases List.mem_or_eq_of_mem_set hp' with h | h
          · exact hS p h
          · rw [h]; exact hp
        · have hk : okW a n (pt w v) = true := by unfold okW; exact decide_eq_true (by omega)
          rw [List.filter_cons_of_pos hk] at hF
          rw [← hF, List.drop_set_of_lt (by omega), List.take_add_one, List.take_set_of_le (Nat.le_refl _), List.getElem?_set_self (by omega)]
          simp
    · have lu : (lsub (List.map ep w) 0 (u : Int)).length = u := by rw [lsub_eq]; simp; omega
      have hb : (u : Int) ≤ ilen (lcat (lcat (lsub (List.map ep w) 0 (u : Int)) (lrep (isub (w.length : Int) u) (AV.agg [AV.int IntKind.i64 0, AV.int IntKind.i64 0]))) (lsub (List.map ep w) (iadd u (isub (w.length : Int) u)) (w.length : Int))) := by
        rw [ilen_eq, lcat_eq, lcat_eq, List.length_append, List.length_append, lu]; omega
      simp only [ilen_mapep, ilt_eq, ile_eq, h, show (0 : Int) ≤ (u : Int) by omega, show (u : Int) ≤ (w.length : Int) by omega, hb, decide_true, decide_false, Bool.and_self, cond_true, cond_false]
      refine ⟨_, rfl, ?_⟩
      rw [List.drop_of_length_le (by omega)] at hF
      simp only [List.filter_nil, List.append_nil] at hF
      rw [← hF]
      simp only [lcat_eq, lsub_eq, iadd_eq, isub_eq]
      rw [show (0 : Int).toNat = 0 from rfl, List.drop_zero, List.drop_zero, List.append_assoc, show (0 + (u : Int) - 0).toNat = u by omega, show ((u : Int) - 0).toNat = u by omega, List.take_append_of_le_length (by simp; omega), List.take_take, Nat.min_self]
theorem del_full {L : Nat} {a S : List Pt} {n : Int} (g : Good_ a) (hS : ∀ p ∈ S, (-100000 ≤ p.x ∧ p.x ≤ 100000) ∧ (-100000 ≤ p.y ∧ p.y ≤ 100000)) (hl : (S.length : Int) ≤ 100000) (hL : 200000 < L) :
    ∃ r, slices_DeleteFunc_impl_Peg_impl_Peg_least L a n S = some r ∧ lsub r.2 0 (iadd 0 r.1) = S.filter (okW a n) := by
  obtain ⟨i, e, hi⟩ := idx_val (n := n) g hS hl hL L 0 (by omega) (by omega) (by simp)
  unfold slices_DeleteFunc_impl_Peg_impl_Peg_least slices_IndexFunc_impl_Peg_impl_Peg_impl_least_1
  rw [show ((0 : Nat) : Int) = 0 by rfl] at e
  simp only [e, gbind_eq, Option.bind_some, ieq_eq]
  rcases hi with ⟨h, hall⟩ | ⟨i0, i1, hpre, hno⟩
  · simp only [h, decide_true, cond_true]
    refine ⟨_, rfl, ?_⟩
    rw [List.filter_eq_self.2 hall, lsub_eq, iadd_eq, ilen_mapep]
    simp
  · simp only [show ¬ i = -1 by omega, decide_false, cond_false, iadd_eq]
    rw [wr_s (by omega)]
    have hlt : i.toNat < S.length := by omega
    have hv : S.take i.toNat ++ (S.drop (i.toNat + 1)).filter (okW a n) = S.filter (okW a n) := by
      have h1 : S.filter (okW a n) = (S.take i.toNat).filter (okW a n) ++ (S.drop i.toNat).filter (okW a n) := by rw [← List.filter_append, List.take_append_drop]
      rw [h1, List.filter_eq_self.2 hpre, drop_pt hlt]
      have e2 : pt S (i.toNat : Int) = pt S i := by rw [Int.toNat_of_nonneg i0]
      rw [e2, List.filter_cons_of_neg (by rw [hno]; simp)]
    obtain ⟨r, r1, r2⟩ := del_val (L := L) (n := n) g hL L i.toNat (i.toNat + 1) S (by omega) (by omega) hl hS (by omega) hv
    rw [Int.toNat_of_nonneg i0, show ((i.toNat + 1 : Nat) : Int) = i + 1 by omega] at r1
    exact ⟨r, r1, by rw [← r2, iadd_eq]⟩
theorem col_nodup {f : Int → Option Pt} (hi : ∀ u v p, f u = some p → f v = some p → u = v) : ∀ (n : Nat) (u : Int), (col f n u).Nodup
  | 0, _ => by simp [col]
  | n + 1, u => by
    rw [col, List.nodup_append]
    refine ⟨?_, col_nodup hi n _, fun p hp q hq => ?_⟩
    · cases f u <;> simp
    · intro e; subst e
      obtain ⟨v, v0, _, hv⟩ := col_mem.1 hq
      have hu : f u = some p := by simpa [Option.mem_toList] using hp
      have := hi u v p hu hv
      omega
theorem allD_nodup {f : Int → Int → Option Pt} {N : Nat} {u0 : Int} (hi : ∀ s u s' u' p, f s u = some p → f s' u' = some p → s = s' ∧ u = u') : ∀ (n : Nat) (s : Int), (allD f N u0 n s).Nodup
  | 0, _ => by simp [allD]
  | n + 1, s => by
    rw [allD, List.nodup_append]
    refine ⟨col_nodup (fun u v p h1 h2 => (hi s u s v p h1 h2).2) _ _, allD_nodup hi n _, fun p hp q hq => ?_⟩
    intro e; subst e
    obtain ⟨u, _, _, hu⟩ := col_mem.1 hp
    obtain ⟨s', s0, _, u', _, _, hu'⟩ := allD_mem.1 hq
    have := (hi s u s' u' p hu hu').1
    omega
theorem dirL_nodup {a : List Pt} {t : Int} (g : Good_ a) (ht : 0 ≤ t ∧ t ≤ 100) : (dirL a t).Nodup := by
  have h := vw_of g ht
  unfold dirL
  refine allD_nodup (fun s u s' u' p h1 h2 => ?_) _ _
  have hd := h.d
  have key : ∀ s u : Int, dirOf a ((pt a 1).x - (pt a 0).x) ((pt a 1).y - (pt a 0).y) ((pt a 2).x - (pt a 0).x) ((pt a 2).y - (pt a 0).y) (turn (pt a 0) (pt a 1) (pt a 2)) t s u = some p →
      p.x * ((pt a 1).x - (pt a 0).x) + p.y * ((pt a 1).y - (pt a 0).y) = s ∧ p.x * ((pt a 2).x - (pt a 0).x) + p.y * ((pt a 2).y - (pt a 0).y) = u := by
    intro s u e
    unfold dirOf at e
    split at e
    · rename_i c
      obtain ⟨c1, c2, _⟩ := c
      cases e
      have m1 := Int.tdiv_mul_cancel (Int.dvd_of_tmod_eq_zero c1)
      have m2 := Int.tdiv_mul_cancel (Int.dvd_of_tmod_eq_zero c2)
      have hD : turn (pt a 0) (pt a 1) (pt a 2) = ((pt a 1).x - (pt a 0).x) * ((pt a 2).y - (pt a 0).y) - ((pt a 1).y - (pt a 0).y) * ((pt a 2).x - (pt a 0).x) := rfl
      generalize (s * ((pt a 2).y - (pt a 0).y) - u * ((pt a 1).y - (pt a 0).y)).tdiv (turn (pt a 0) (pt a 1) (pt a 2)) = X at *
      generalize (u * ((pt a 1).x - (pt a 0).x) - s * ((pt a 2).x - (pt a 0).x)).tdiv (turn (pt a 0) (pt a 1) (pt a 2)) = Y at *
      generalize turn (pt a 0) (pt a 1) (pt a 2) = D at *
      generalize (pt a 1).x - (pt a 0).x = vx at *
      generalize (pt a 1).y - (pt a 0).y = vy at *
      generalize (pt a 2).x - (pt a 0).x = wx at *
      generalize (pt a 2).y - (pt a 0).y = wy at *
      simp only
      constructor
      · refine Int.eq_of_mul_eq_mul_right hd ?_
        have : (X * vx + Y * vy) * D = (X * D) * vx + (Y * D) * vy := by grind
        rw [this, m1, m2, hD]; grind
      · refine Int.eq_of_mul_eq_mul_right hd ?_
        have : (X * wx + Y * wy) * D = (X * D) * wx + (Y * D) * wy := by grind
        rw [this, m1, m2, hD]; grind
    · cases e
  obtain ⟨k1, k2⟩ := key s u h1
  obtain ⟨k3, k4⟩ := key s' u' h2
  exact ⟨by omega, by omega⟩
theorem filter_dir {a : List Pt} (g : Good_ a) : (isort (dirL a (axW a))).filter (okW a (leastW a)) = isort (dirL a (leastW a)) := by
  have hb := axW_bd g
  obtain ⟨h1, h2, h3⟩ := leastW_spec g
  have hle : leastW a ≤ axW a := by
    rcases Int.lt_or_le (axW a) (leastW a) with h | h
    · exact absurd (h3 (axW a) (by omega) h) (axW_ne g)
    · exact h
  rw [isort_filter]
  refine ord_one (isort_ord _) (isort_ord _) ((isort_perm _).trans (List.Perm.trans ?_ (isort_perm _).symm))
  refine (List.perm_ext_iff_of_nodup ((dirL_nodup g (by omega)).filter _) (dirL_nodup g (by omega))).2 fun p => ?_
  rw [List.mem_filter, dirL_mem g (by omega), dirL_mem g (by omega)]
  unfold okW
  simp only [decide_eq_true_eq]
  constructor
  · rintro ⟨⟨q1, q2⟩, q3⟩; exact ⟨q1, q3⟩
  · rintro ⟨q1, q3⟩; exact ⟨⟨q1, by omega⟩, q3⟩
theorem least_l0' {L : Nat} {a S : List Pt} (g : Good_ a) (hS : ∀ p ∈ S, (-100000 ≤ p.x ∧ p.x ≤ 100000) ∧ (-100000 ≤ p.y ∧ p.y ≤ 100000)) (hl : (S.length : Int) ≤ 100000) (hL : 200000 < L) :
    ∀ (m i : Nat) (b : Int), i ≤ S.length → S.length - i < m → impl_least_l0 L a S m i b = some (S.filter (okW a (minF (fun p => wdth a p.x p.y) (S.drop i) b)), minF (fun p => wdth a p.x p.y) (S.drop i) b) := by
  intro m
  induction m with
  | zero => intro i b _ h; omega
  | succ m ih =>
    intro i b hi hm
    rw [impl_least_l0]
    by_cases h : (i : Int) < (S.length : Int)
    · have hlt : i < S.length := by omega
      have wi : wr IntKind.i64 (iadd (i : Int) 1) = ((i + 1 : Nat) : Int) := by rw [iadd_eq, wr_s (by omega)]; omega
      have hp := hS (pt S i) (pt_mem (by intro e; subst e; simp at hlt) i)
      have hg := lget_pt (show (0 : Int) ≤ i by omega) h
      simp only [ilen_mapep, ilt_eq, ile_eq, h, show (0 : Int) ≤ i by omega, decide_true, Bool.and_self, cond_true, hg, gbind_eq, Option.bind_some, wd_eq g hp.1 hp.2 hL, wi]
      have e1 : imin b (wdth a (pt S i).x (pt S i).y) = if wdth a (pt S i).x (pt S i).y < b then wdth a (pt S i).x (pt S i).y else b := by rw [imin_eq]
      rw [ih (i + 1) (imin b (wdth a (pt S i).x (pt S i).y)) (by omega) (by omega), e1, drop_pt hlt, minF]
    · obtain ⟨r, hr, hf⟩ := del_full (n := b) g hS hl hL
      simp only [ilen_mapep, ilt_eq, h, decide_false, cond_false, hr, gbind_eq, Option.bind_some, osame_same rfl, hf]
      rw [List.drop_of_length_le (by omega), minF]
theorem impl_least_val {L : Nat} {a : List Pt} (g : Good_ a) (hL : 200000 < L) : impl_least L a = some (isort (dirL a (leastW a)), leastW a) := by
  have hb := axW_bd g
  have hS := dir_S g
  have hSb : ∀ p ∈ isort (dirL a (axW a)), (-100000 ≤ p.x ∧ p.x ≤ 100000) ∧ (-100000 ≤ p.y ∧ p.y ≤ 100000) := fun p hp => told_bd g (by omega) (isort_mem.1 hp)
  have hl := dirL_len (a := a) (t := axW a) (by omega)
  have hll : ((isort (dirL a (axW a))).length : Int) ≤ 100000 := by rw [isort_len]; exact hl
  have hlp := List.length_pos_iff.2 hS
  have p0 := hSb _ (pt_mem hS 0)
  have hR := least_l0' (L := L) g hSb hll hL L 0 (wdth a (pt (isort (dirL a (axW a))) 0).x (pt (isort (dirL a (axW a))) 0).y) (by omega) (by omega)
  unfold impl_least
  simp only [wd_eq (x := 1) (y := 0) g (by omega) (by omega) hL, wd_eq (x := 0) (y := 1) g (by omega) (by omega) hL, gbind_eq, Option.bind_some]
  rw [show imin (wdth a 1 0) (wdth a 0 1) = axW a from rfl, (all_eq g (by omega) hL).2, impl_sorted_any (by omega)]
  simp only [gbind_eq, Option.bind_some, ilen_mapep, ile_eq, ilt_eq, Int.le_refl, show (0 : Int) < ((isort (dirL a (axW a))).length : Int) by omega, decide_true, Bool.and_self, cond_true, lget_pt (Int.le_refl 0) (show (0 : Int) < ((isort (dirL a (axW a))).length : Int) by omega), wd_eq g p0.1 p0.2 hL]
  have e : minF (fun p => wdth a p.x p.y) (isort (dirL a (axW a))) (wdth a (pt (isort (dirL a (axW a))) 0).x (pt (isort (dirL a (axW a))) 0).y) = leastW a := rfl
  rw [show ((0 : Nat) : Int) = 0 by rfl, List.drop_zero, e, filter_dir g] at hR
  exact hR
end Go.AM
namespace Go.AM
set_option maxRecDepth 100000
theorem bump_bd {w : List Int} {i M : Int} (h : ∀ z ∈ w, 0 ≤ z ∧ z ≤ M) (hM : 0 ≤ M) : ∀ z ∈ bump w i, 0 ≤ z ∧ z ≤ M + 1 := fun z hz => by
  unfold bump at hz
  rcases List.mem_or_eq_of_mem_set hz with e | e
  · have := h z e; omega
  · rw [e]
    by_cases c : i.toNat < w.length
    · have := h _ (List.getElem_mem c)
      simp [List.getD, c]; omega
    · simp [List.getD, c]; omega
theorem tally_bd {f : Pt → Int} : ∀ {l : List Pt} {w : List Int} {M : Int}, (∀ z ∈ w, 0 ≤ z ∧ z ≤ M) → 0 ≤ M → ∀ z ∈ tally f l w, 0 ≤ z ∧ z ≤ M + l.length
  | [], w, M, h, _ => by simpa [tally] using h
  | p :: l, w, M, h, hM => fun z hz => by
    unfold tally at hz
    have := tally_bd (f := f) (l := l) (bump_bd (i := f p) h hM) (by omega) z hz
    rw [List.length_cons]
    omega
theorem bump_step {w : List Int} {i : Int} (h0 : 0 ≤ i) (h1 : i < w.length) : lget w i = some (w.getD i.toNat 0) ∧ lset w i (w.getD i.toNat 0 + 1) = bump w i ∧ w.getD i.toNat 0 ∈ w := by
  have h : i.toNat < w.length := by omega
  refine ⟨?_, ?_, ?_⟩
  · rw [lget_eq, if_pos h0]
    simp [List.getD, h]
  · rw [lset_eq]; rfl
  · simp only [List.getD, List.getElem?_eq_getElem h, Option.getD_some]
    exact List.getElem_mem h
theorem ilen_eI (w : List Int) : ilen (List.map eI w) = (w.length : Int) := by rw [ilen_eq]; simp
noncomputable def off (a : List Pt) (b c : Int) (p : Pt) : Int := val b c p - (rngOf b c a).1
theorem vw_rng {a : List Pt} {b c : Int} (g : Good_ a) (hb : -100000 ≤ b ∧ b ≤ 100000) (hc : -100000 ≤ c ∧ c ≤ 100000) : (-8000000 ≤ (rngOf b c a).1 ∧ (rngOf b c a).1 ≤ 8000000) ∧ (-8000000 ≤ (rngOf b c a).2 ∧ (rngOf b c a).2 ≤ 8000000) := by
  have h0 := val_bd hb hc (g.all 0)
  exact rng_bd a _ _ h0 h0 fun p hp => by
    obtain ⟨i, _, _, e⟩ := mem_pt hp
    rw [← e]; exact val_bd hb hc (g.all i)
section
variable {L : Nat} {a : List Pt} {b c : Int}
theorem off_at (g : Good_ a) {x y : Int} (hw : 0 ≤ wh a ⟨x, y⟩) : 0 ≤ off a b c ⟨x, y⟩ ∧ off a b c ⟨x, y⟩ < wdth a b c + 1 := by
  have := wh_val g (x := b) (y := c) hw
  unfold off wdth
  omega
theorem spec_lines_col (g : Good_ a) (hb : -100000 ≤ b ∧ b ≤ 100000) (hc : -100000 ≤ c ∧ c ≤ 100000) (hL : 5000 < L) {κ : (List Pt) → Int → Int → Int → Int → (List Int) → Option ((List Int))} {x : Int} (hx : -40 ≤ x ∧ x ≤ 40) :
    ∀ (m k : Nat) (y : Int) (w : List Int) (M : Int), -40 ≤ y → y + k = 41 → k < m → (w.length : Int) = wdth a b c + 1 → (∀ z ∈ w, 0 ≤ z ∧ z ≤ M) → 0 ≤ M → M + k ≤ 1000000 →
    spec_wiLines_l1 L κ a b c (rngOf b c a).1 x m y w = κ a b c (rngOf b c a).1 (x + 1) (tally (off a b c) (colA a x k y) w) := by
  have hh := g.hi
  intro m
  induction m with
  | zero => intro k y w M _ _ h; omega
  | succ m ih =>
    intro k y w M hy hk hm hw hz hM hMk
    rw [spec_wiLines_l1]
    cases k with
    | zero =>
      simp only [ile_eq, iadd_eq, show ¬ (y ≤ 40) by omega, decide_false, cond_false, colA, tally]
      rw [wr_id (by omega)]
    | succ k =>
      have wv := (where_val (L := L) (a := a) (q := ⟨x, y⟩) g.nn (by omega) (fun i => (g.all i).nr) (by unfold Nr; simp only; omega) (by omega)).1
      simp only at wv
      have wy : wr IntKind.i64 (iadd y 1) = y + 1 := by rw [iadd_eq, wr_id (by omega)]
      have vw := val_wr (b := b) (c := c) (p := ⟨x, y⟩) hb hc (by unfold In; simp only; omega)
      simp only at vw
      simp only [ile_eq, show y ≤ 40 by omega, decide_true, cond_true, wv, gbind_eq, Option.bind_some, wy, vw]
      rw [colA_s]
      by_cases d : 0 ≤ wh a ⟨x, y⟩
      · obtain ⟨o1, o2⟩ := off_at (b := b) (c := c) g d
        have vb := val_bd (b := b) (c := c) (p := ⟨x, y⟩) hb hc (by unfold In; simp only; omega)
        have i0 := vw_rng (b := b) (c := c) g hb hc
        have ow : wr IntKind.i64 (isub (val b c ⟨x, y⟩) (rngOf b c a).1) = off a b c ⟨x, y⟩ := by rw [isub_eq, wr_id (by omega)]; rfl
        obtain ⟨s1, s2, s3⟩ := bump_step (w := w) o1 (by omega)
        have zb := hz _ s3
        have wp : wr IntKind.i64 (iadd (w.getD (off a b c ⟨x, y⟩).toNat 0) 1) = w.getD (off a b c ⟨x, y⟩).toNat 0 + 1 := by rw [iadd_eq, wr_id (by omega)]
        simp only [d, decide_true, cond_true, if_true, ow, ilen_eI, ilt_eq, o1, show off a b c ⟨x, y⟩ < (w.length : Int) by omega, Bool.and_self, s1, Option.bind_some, wp, s2]
        rw [ih k (y + 1) _ (M + 1) (by omega) (by omega) (by omega) (by rw [bump_len]; exact hw) (bump_bd hz hM) (by omega) (by omega)]
        rfl
      · simp only [d, decide_false, cond_false, if_false, List.nil_append]
        exact ih k (y + 1) w M (by omega) (by omega) (by omega) hw hz hM (by omega)
theorem spec_lines_rows (g : Good_ a) (hb : -100000 ≤ b ∧ b ≤ 100000) (hc : -100000 ≤ c ∧ c ≤ 100000) (hL : 5000 < L) : ∀ (m k : Nat) (x : Int) (w : List Int) (M : Int), -40 ≤ x → x + k = 41 → k < m → (w.length : Int) = wdth a b c + 1 → (∀ z ∈ w, 0 ≤ z ∧ z ≤ M) → 0 ≤ M → M + 81 * k ≤ 900000 →
    spec_wiLines_l0 L m a b c (rngOf b c a).1 x w = some (tally (off a b c) (boxA a 81 (-40) k x) w) := by
  intro m
  induction m with
  | zero => intro k x w M _ _ h; omega
  | succ m ih =>
    intro k x w M hx hk hm hw hz hM hMk
    rw [spec_wiLines_l0]
    cases k with
    | zero => simp only [ile_eq, show ¬ (x ≤ 40) by omega, decide_false, cond_false, boxA, tally]
    | succ k =>
      have cl := colA_len a x 81 (-40)
      simp only [ile_eq, show x ≤ 40 by omega, decide_true, cond_true]
      rw [spec_lines_col g hb hc hL (by omega) L 81 (-40) w M (by omega) (by omega) (by omega) hw hz hM (by omega)]
      have tb := tally_bd (f := off a b c) (l := colA a x 81 (-40)) hz hM
      rw [ih k (x + 1) _ (M + 81) (by omega) (by omega) (by omega) (by rw [tally_len]; exact hw) (fun z hz' => by have := tb z hz'; omega) (by omega) (by omega)]
      rw [boxA_s, tally_app]
theorem impl_lines_col (g : Good_ a) (hb : -100000 ≤ b ∧ b ≤ 100000) (hc : -100000 ≤ c ∧ c ≤ 100000) (hL : 5000 < L) {κ : (List Pt) → Int → Int → Int → Int → (List Int) → Int → Int → Int → Int → Option ((List Int) × Bool)} {x lx ly hx hy : Int} (hx' : -40 ≤ x ∧ x ≤ 40) (hhy : hy ≤ 40) :
    ∀ (m k : Nat) (y : Int) (w : List Int) (M : Int), -40 ≤ y → y + k = hy + 1 → k < m → (w.length : Int) = wdth a b c + 1 → (∀ z ∈ w, 0 ≤ z ∧ z ≤ M) → 0 ≤ M → M + k ≤ 1000000 →
    impl_PegsPerLine_l1 L κ a (rngOf b c a).1 x b c lx ly hx hy m y w = κ a (rngOf b c a).1 (x + 1) b c (tally (off a b c) (colA a x k y) w) lx ly hx hy := by
  have hh := g.hi
  intro m
  induction m with
  | zero => intro k y w M _ _ h; omega
  | succ m ih =>
    intro k y w M hyy hk hm hw hz hM hMk
    rw [impl_PegsPerLine_l1]
    cases k with
    | zero =>
      simp only [ile_eq, iadd_eq, show ¬ (y ≤ hy) by omega, decide_false, cond_false, colA, tally]
      rw [wr_id (by omega)]
    | succ k =>
      have wv := (where_val (L := L) (a := a) (q := ⟨x, y⟩) g.nn (by omega) (fun i => (g.all i).nr) (by unfold Nr; simp only; omega) (by omega)).2
      simp only at wv
      have wy : wr IntKind.i64 (iadd y 1) = y + 1 := by rw [iadd_eq, wr_id (by omega)]
      have vw : impl_value L b c x y = some (val b c ⟨x, y⟩) := by
        unfold impl_value
        rw [val_wr (b := b) (c := c) (p := ⟨x, y⟩) hb hc (by unfold In; simp only; omega)]
      simp only [ile_eq, show y ≤ hy by omega, decide_true, cond_true, wv, gbind_eq, Option.bind_some, wy, vw]
      rw [colA_s]
      by_cases d : 0 ≤ wh a ⟨x, y⟩
      · obtain ⟨o1, o2⟩ := off_at (b := b) (c := c) g d
        have vb := val_bd (b := b) (c := c) (p := ⟨x, y⟩) hb hc (by unfold In; simp only; omega)
        have i0 := vw_rng (b := b) (c := c) g hb hc
        have ow : wr IntKind.i64 (isub (val b c ⟨x, y⟩) (rngOf b c a).1) = off a b c ⟨x, y⟩ := by rw [isub_eq, wr_id (by omega)]; rfl
        obtain ⟨s1, s2, s3⟩ := bump_step (w := w) o1 (by omega)
        have zb := hz _ s3
        have wp : wr IntKind.i64 (iadd (w.getD (off a b c ⟨x, y⟩).toNat 0) 1) = w.getD (off a b c ⟨x, y⟩).toNat 0 + 1 := by rw [iadd_eq, wr_id (by omega)]
        simp only [d, decide_true, cond_true, if_true, ow, ilen_eI, ilt_eq, o1, show off a b c ⟨x, y⟩ < (w.length : Int) by omega, Bool.and_self, s1, Option.bind_some, wp, s2]
        rw [ih k (y + 1) _ (M + 1) (by omega) (by omega) (by omega) (by rw [bump_len]; exact hw) (bump_bd hz hM) (by omega) (by omega)]
        rfl
      · simp only [d, decide_false, cond_false, if_false, List.nil_append]
        exact ih k (y + 1) w M (by omega) (by omega) (by omega) hw hz hM (by omega)
theorem impl_lines_rows (g : Good_ a) (hb : -100000 ≤ b ∧ b ≤ 100000) (hc : -100000 ≤ c ∧ c ≤ 100000) (hL : 5000 < L) {lx ly hx hy : Int} (hbx : -40 ≤ ly ∧ ly ≤ hy ∧ hy ≤ 40 ∧ hx ≤ 40) : ∀ (m k : Nat) (x : Int) (w : List Int) (M : Int), -40 ≤ x → x + k = hx + 1 → k < m → (w.length : Int) = wdth a b c + 1 → (∀ z ∈ w, 0 ≤ z ∧ z ≤ M) → 0 ≤ M → M + 81 * k ≤ 900000 →
    impl_PegsPerLine_l0 L m a (rngOf b c a).1 x b c w lx ly hx hy = some (tally (off a b c) (boxA a (hy + 1 - ly).toNat ly k x) w, true) := by
  intro m
  induction m with
  | zero => intro k x w M _ _ h; omega
  | succ m ih =>
    intro k x w M hxx hk hm hw hz hM hMk
    rw [impl_PegsPerLine_l0]
    cases k with
    | zero => simp only [ile_eq, show ¬ (x ≤ hx) by omega, decide_false, cond_false, boxA, tally]
    | succ k =>
      have cl := colA_len a x (hy + 1 - ly).toNat ly
      simp only [ile_eq, show x ≤ hx by omega, decide_true, cond_true]
      rw [impl_lines_col g hb hc hL (by omega) (by omega) L (hy + 1 - ly).toNat ly w M (by omega) (by omega) (by omega) hw hz hM (by omega)]
      have tb := tally_bd (f := off a b c) (l := colA a x (hy + 1 - ly).toNat ly) hz hM
      rw [ih k (x + 1) _ (M + 81) (by omega) (by omega) (by omega) (by rw [tally_len]; exact hw) (fun z hz' => by have := tb z hz'; omega) (by omega) (by omega)]
      rw [boxA_s, tally_app]
theorem zeros_at (n : Nat) : ∀ z ∈ List.replicate n (0 : Int), 0 ≤ z ∧ z ≤ 0 := fun z hz => by rw [(List.mem_replicate.1 hz).2]; omega
theorem pegsPerLineV (g : Good_ a) (d : Dir b c) (hL : 5000 < L) : impl_PegsPerLine L a b c = some (lines a b c, true) ∧ spec_PegsPerLine L a b c = some (lines a b c, true) := by
  have hh := g.hi
  have lo := g.lo
  have hb : -100000 ≤ b ∧ b ≤ 100000 := by have := d.1; omega
  have hc : -100000 ≤ c ∧ c ≤ 100000 := by have := d.2.1; omega
  have hin : ∀ i, In (pt a i) := g.all
  obtain ⟨r1, r2⟩ := range_eq (L := L) (a := a) hb hc g.nn (by omega) hin (by omega)
  have rb := vw_rng (b := b) (c := c) g hb hc
  have wn := wdth_nn g b c
  have wd : (rngOf b c a).2 - (rngOf b c a).1 = wdth a b c := rfl
  have wn1 : wr IntKind.i64 (iadd (wr IntKind.i64 (isub (rngOf b c a).2 (rngOf b c a).1)) 1) = wdth a b c + 1 := by
    rw [isub_eq, wr_id (n := (rngOf b c a).2 - (rngOf b c a).1) (by omega), wd, iadd_eq, wr_id (by omega)]
  have hf : fits (wdth a b c + 1) 8 = true := by rw [fits_eq]; exact decide_eq_true (by omega)
  have zl : ((List.replicate (wdth a b c + 1).toNat (0 : Int)).length : Int) = wdth a b c + 1 := by rw [List.length_replicate]; omega
  constructor
  · unfold impl_PegsPerLine impl_isWide impl_box
    rw [impl_IsPolygon_eq (by omega)]
    obtain ⟨lx, ly, hx, hy, e, k1, k2, k3⟩ := box_l0 (L := L) g L 0 (pt a 0).x (pt a 0).y (pt a 0).x (pt a 0).y (by omega) (by omega) (by have := hin 0; unfold In at this; omega)
    rw [show ((0 : Nat) : Int) = 0 from rfl] at e
    have k3' : ∀ i, (lx ≤ (pt a i).x ∧ (pt a i).x ≤ hx) ∧ (ly ≤ (pt a i).y ∧ (pt a i).y ≤ hy) := fun i => by
      have n0 := Int.emod_nonneg i (b := (a.length : Int)) (by omega)
      have n1 := Int.emod_lt_of_pos i (show 0 < (a.length : Int) by omega)
      have := k3 (i % (a.length : Int)).toNat (by omega) (by omega)
      rwa [Int.toNat_of_nonneg n0, pt_mod] at this
    simp only [g, decide_true, cond_true, impl_isDirection_eq (L := L) (b := b) (c := c) (by omega), d, gbind_eq, Option.bind_some, Bool.not_true, cond_false, r2, wn1, ile_eq, show 0 ≤ wdth a b c + 1 by omega, Int.le_refl, Bool.and_self, hf, lget_pt (a := a) (i := 0) (by omega) (by omega), e, lrep_eq]
    rw [impl_lines_rows g hb hc hL (by omega) L (hx + 1 - lx).toNat lx _ 0 (by omega) (by omega) (by omega) zl (zeros_at _) (by omega) (by omega), box_fullA g k1 k3']
    rfl
  · unfold spec_PegsPerLine spec_wiAsked spec_wiLines
    rw [spec_pgGood_eq (by omega)]
    simp only [g, decide_true, cond_true, spec_wiDirection_eq (L := L) (b := b) (c := c) (by omega), d, gbind_eq, Option.bind_some, Bool.not_true, cond_false, r1, wn1, ile_eq, show 0 ≤ wdth a b c + 1 by omega, Int.le_refl, Bool.and_self, hf, lrep_eq]
    rw [spec_lines_rows g hb hc hL L 81 (-40) _ 0 (by omega) (by omega) (by omega) zl (zeros_at _) (by omega) (by omega)]
    rfl
end
end Go.AM
namespace Go.AM
set_option maxRecDepth 100000
def topN : List Int → Int → Int
  | [], v => v
  | x :: l, v => topN l (if v < x then x else v)
theorem topN_tail {x : Int} {l : List Int} (h : 0 ≤ x) : topN (x :: l) 0 = topN l x := by
  show topN l (if 0 < x then x else 0) = topN l x
  congr 1
  split <;> omega
section
variable {L : Nat}
theorem max_l0 {w : List Int} (hs : (w.length : Int) ≤ 1000000) : ∀ (m i : Nat) (v : Int), i ≤ w.length → w.length - i < m → slices_Max_int_int_l0 L w m v (i : Int) = some (topN (w.drop i) v) := by
  intro m
  induction m with
  | zero => intro i _ _ h; omega
  | succ m ih =>
    intro i v hi hm
    rw [slices_Max_int_int_l0]
    by_cases h : i < w.length
    · have wi : wr IntKind.i64 (iadd (i : Int) 1) = ((i + 1 : Nat) : Int) := by rw [iadd_eq, wr_id (by omega)]; omega
      have lg : lget w (i : Int) = some w[i] := by rw [lget_eq, if_pos (by omega), Int.toNat_natCast, List.getElem?_eq_getElem h]
      simp only [ilen_eI, ilt_eq, show (i : Int) < (w.length : Int) by omega, decide_true, cond_true, lg, gbind_eq, Option.bind_some, wi]
      rw [ih (i + 1) _ (by omega) (by omega), List.drop_eq_getElem_cons h, topN]
      have im : imax v w[i] = if v < w[i] then w[i] else v := by rw [imax_eq]
      rw [im]
    · simp only [ilen_eI, ilt_eq, show ¬ ((i : Int) < (w.length : Int)) by omega, decide_false, cond_false]
      rw [List.drop_of_length_le (by omega)]; rfl
theorem most_l0 {w : List Int} (hs : (w.length : Int) ≤ 1000000) : ∀ (m i : Nat) (v : Int), i ≤ w.length → w.length - i < m → spec_MostOnLine_l0 L w m v (i : Int) = some (topN (w.drop i) v, true) := by
  intro m
  induction m with
  | zero => intro i _ _ h; omega
  | succ m ih =>
    intro i v hi hm
    rw [spec_MostOnLine_l0]
    by_cases h : i < w.length
    · have wi : wr IntKind.i64 (iadd (i : Int) 1) = ((i + 1 : Nat) : Int) := by rw [iadd_eq, wr_id (by omega)]; omega
      have lg : lget w (i : Int) = some w[i] := by rw [lget_eq, if_pos (by omega), Int.toNat_natCast, List.getElem?_eq_getElem h]
      have lm : spec_l1Most L v w[i] = some (if v < w[i] then w[i] else v) := by
        unfold spec_l1Most
        rw [ilt_eq]
        by_cases c : w[i] < v
        · rw [decide_eq_true c, cond_true, if_neg (by omega)]
        · rw [decide_eq_false c, cond_false]
          split
          · rfl
          · congr 1; omega
      simp only [ilen_eI, ilt_eq, ile_eq, show (0 : Int) ≤ (i : Int) by omega, show (i : Int) < (w.length : Int) by omega, decide_true, Bool.and_self, cond_true, lg, gbind_eq, Option.bind_some, lm, wi]
      rw [ih (i + 1) _ (by omega) (by omega), List.drop_eq_getElem_cons h, topN]
    · simp only [ilen_eI, ilt_eq, show ¬ ((i : Int) < (w.length : Int)) by omega, decide_false, cond_false]
      rw [List.drop_of_length_le (by omega)]; rfl
variable {a : List Pt} {b c : Int}
theorem wdth_le (g : Good_ a) (d : Dir b c) : wdth a b c ≤ 200000 := by
  have v0 : ∀ p, In p → -16000 ≤ val b c p ∧ val b c p ≤ 16000 := fun p hp => by
    have h1 := mul_bd (A := 200) (B := 40) (x := b) (y := p.x) (by have := d.1; omega) hp.1
    have h2 := mul_bd (A := 200) (B := 40) (x := c) (y := p.y) (by have := d.2.1; omega) hp.2
    unfold val; omega
  have := rng_bd (f := val b c) (A := -16000) (B := 16000) a _ _ (v0 _ (g.all 0)) (v0 _ (g.all 0)) fun p hp => by
    obtain ⟨i, _, _, e⟩ := mem_pt hp
    rw [← e]; exact v0 _ (g.all i)
  unfold wdth rngOf
  omega
theorem mostV (g : Good_ a) (d : Dir b c) (hL : 300000 < L) : impl_MostOnLine L a b c = some (topN (lines a b c) 0, true) ∧ spec_MostOnLine L a b c = some (topN (lines a b c) 0, true) := by
  obtain ⟨p1, p2⟩ := pegsPerLineV (L := L) g d (by omega)
  have ll := lines_len (x := b) (y := c) g
  have wn := wdth_nn g b c
  have wl := wdth_le g d
  constructor
  · unfold impl_MostOnLine slices_Max_int_int
    have hpos : 0 < (lines a b c).length := by omega
    have e0 := max_l0 (L := L) (w := lines a b c) (by omega) L 1 ((lines a b c)[0]) (by omega) (by omega)
    have lg : lget (lines a b c) 0 = some ((lines a b c)[0]) := by rw [lget_eq, if_pos (by omega)]; simp [hpos]
    simp only [p1, gbind_eq, Option.bind_some, Bool.not_true, cond_false, ilen_eI, ilt_eq, show ¬ (((lines a b c).length : Int) < 1) by omega, decide_false, lg]
    rw [show ((1 : Nat) : Int) = 1 from rfl] at e0
    rw [e0]
    simp only [Option.bind_some]
    have nn := lines_nn (a := a) (x := b) (y := c) _ (List.getElem_mem hpos)
    rw [← topN_tail nn, ← List.drop_eq_getElem_cons hpos, List.drop_zero]
  · have asked : spec_wiAsked L a b c = some true := by
      unfold spec_wiAsked
      rw [spec_pgGood_eq (by omega)]
      simp only [g, decide_true, cond_true, spec_wiDirection_eq (L := L) (b := b) (c := c) (by omega), d, gbind_eq, Option.bind_some]
    have e : spec_wiLines L a b c = some (lines a b c) := by
      unfold spec_PegsPerLine at p2
      simp only [asked, gbind_eq, Option.bind_some, Bool.not_true, cond_false] at p2
      revert p2
      cases spec_wiLines L a b c with
      | none => intro p2; simp at p2
      | some r => intro p2; simp at p2; rw [p2]
    unfold spec_MostOnLine
    simp only [asked, e, gbind_eq, Option.bind_some, Bool.not_true, cond_false]
    have := most_l0 (L := L) (w := lines a b c) (by omega) L 0 0 (by omega) (by omega)
    rw [List.drop_zero] at this
    exact this
theorem widthV (g : Good_ a) (d : Dir b c) (hL : 300000 < L) : impl_WidthIn L a b c = some (wdth a b c, true) ∧ spec_WidthIn L a b c = some (wdth a b c, true) := by
  have hh := g.hi
  have hb : -100000 ≤ b ∧ b ≤ 100000 := by have := d.1; omega
  have hc : -100000 ≤ c ∧ c ≤ 100000 := by have := d.2.1; omega
  have we := width_eq (L := L) (a := a) hb hc g.nn (by omega) g.all (by omega)
  unfold impl_WidthIn impl_isWide spec_WidthIn spec_wiAsked
  rw [impl_IsPolygon_eq (by omega), spec_pgGood_eq (by omega)]
  simp only [g, decide_true, cond_true, impl_isDirection_eq (L := L) (b := b) (c := c) (by omega), spec_wiDirection_eq (L := L) (b := b) (c := c) (by omega), d, gbind_eq, Option.bind_some, Bool.not_true, cond_false, we.1, we.2, and_self]
theorem supportV (g : Good_ a) (d : Dir b c) (hL : 300000 < L) : impl_SupportOf L a b c = some (supp a b c, true) ∧ spec_SupportOf L a b c = some (supp a b c, true) := by
  have hn : a ≠ [] := g.nn
  have hi := g.hi
  have hin := g.all
  have hb : -100000 ≤ b ∧ b ≤ 100000 := by have := d.1; omega
  have hc : -100000 ≤ c ∧ c ≤ 100000 := by have := d.2.1; omega
  obtain ⟨r1, r2⟩ := range_eq (L := L) (a := a) hb hc hn (by omega) hin (by omega)
  have hS : ∀ i, In (pt (isort a) i) := fun i => by
    have hne : isort a ≠ [] := by intro e; have := isort_len a; rw [e] at this; simp only [List.length_nil] at this; exact hn (List.eq_nil_of_length_eq_zero this.symm)
    have := pt_mem hne i
    rw [isort_mem] at this
    obtain ⟨j, _, _, e⟩ := mem_pt this
    rw [← e]; exact hin j
  unfold spec_SupportOf impl_SupportOf spec_wiAsked impl_isWide
  rw [spec_pgGood_eq (by omega), impl_IsPolygon_eq (by omega)]
  simp only [gbind_eq, Option.bind_some, g, decide_true, cond_true, spec_wiDirection_eq (L := L) (b := b) (c := c) (by omega), impl_isDirection_eq (L := L) (b := b) (c := c) (by omega), d, Bool.not_true, cond_false, r1, r2, ilen_mapep, impl_sorted_eq (L := L) hn (show (a.length : Int) ≤ 1000000 by omega)]
  constructor
  · have := isup_l0 (L := L) (S := isort a) (r1 := rngOf b c a) hb hc hS (by rw [isort_len]; omega) L 0 [] (by omega) (by simp) (by rw [isort_len]; omega)
    rw [show ((0 : Nat) : Int) = 0 by rfl, List.drop_zero, List.nil_append] at this
    exact this
  · have := sup_l0 (L := L) (t := (rngOf b c a).2) hb hc hin (by omega) (by omega) L 0 [] (by omega) (by simp) .nil (by omega)
    rw [show ((0 : Nat) : Int) = 0 by rfl, List.drop_zero] at this
    rw [this]
    unfold supp
    rw [isort_filter]; rfl
theorem wideNo (h : ¬ (Good_ a ∧ Dir b c)) (hL : 300000 < L) : (impl_PegsPerLine L a b c = some ([], false) ∧ spec_PegsPerLine L a b c = some ([], false)) ∧ (impl_MostOnLine L a b c = some (0, false) ∧ spec_MostOnLine L a b c = some (0, false)) ∧
    (impl_SupportOf L a b c = some ([], false) ∧ spec_SupportOf L a b c = some ([], false)) ∧ (impl_WidthIn L a b c = some (0, false) ∧ spec_WidthIn L a b c = some (0, false)) := by
  have e1 : impl_isWide L a b c = some false := by
    unfold impl_isWide
    rw [impl_IsPolygon_eq (by omega)]
    by_cases g : Good_ a
    · have d : ¬ Dir b c := fun d => h ⟨g, d⟩
      simp only [g, decide_true, cond_true, impl_isDirection_eq (L := L) (b := b) (c := c) (by omega), d, decide_false, gbind_eq, Option.bind_some]
    · simp only [g, decide_false, cond_false, gbind_eq, Option.bind_some]
  have e2 : spec_wiAsked L a b c = some false := by
    unfold spec_wiAsked
    rw [spec_pgGood_eq (by omega)]
    by_cases g : Good_ a
    · have d : ¬ Dir b c := fun d => h ⟨g, d⟩
      simp only [g, decide_true, cond_true, spec_wiDirection_eq (L := L) (b := b) (c := c) (by omega), d, decide_false, gbind_eq, Option.bind_some]
    · simp only [g, decide_false, cond_false, gbind_eq, Option.bind_some]
  unfold impl_MostOnLine impl_PegsPerLine spec_PegsPerLine spec_MostOnLine impl_SupportOf spec_SupportOf impl_WidthIn spec_WidthIn
  simp only [e1, e2, gbind_eq, Option.bind_some, Bool.not_false, cond_true, and_self]
open Classical in
theorem countV (hL : 300000 < L) : impl_CountDirections L a b = some (if Good_ a ∧ 0 ≤ b ∧ b ≤ 60 then (((dirL a b).length : Int), true) else (0, false)) ∧ spec_CountDirections L a b = some (if Good_ a ∧ 0 ≤ b ∧ b ≤ 60 then (((dirL a b).length : Int), true) else (0, false)) := by
  unfold spec_CountDirections impl_CountDirections
  rw [spec_pgGood_eq (by omega), impl_IsPolygon_eq (by omega)]
  simp only [gbind_eq, Option.bind_some, spec_l1In_eq, impl_within_eq]
  by_cases g : Good_ a
  · simp only [g, decide_true, Bool.not_true, cond_false, true_and]
    by_cases hb : 0 ≤ b ∧ b ≤ 60
    · obtain ⟨e1, e2⟩ := all_eq (L := L) g (show 0 ≤ b ∧ b ≤ 100 by omega) (by omega)
      have hl := dirL_len (a := a) (t := b) (by omega)
      simp only [hb, and_self, decide_true, Bool.not_true, cond_false, e1, e2, impl_sorted_any (L := L) (show ((dirL a b).length : Int) ≤ 1000000 by omega), Option.bind_some, ilen_li, ilen_mapep, List.length_map, isort_len, if_true]
    · simp only [hb, decide_false, Bool.not_false, cond_true, if_false, and_self]
  · simp only [g, decide_false, Bool.not_false, cond_true, false_and, if_false, and_self]
theorem dirsOf_l0 {L : Nat} {S : List Pt} {k : Int} (hs : (S.length : Int) ≤ 200000) : ∀ (m i : Nat), i ≤ S.length → S.length - i < m → impl_DirectionsOfWidth_l0 L (S, k) m (i : Int) ((S.take i).map row) = some (S.map row, true) := by
  intro m
  induction m with
  | zero => intro i _ h; omega
  | succ m ih =>
    intro i hi hm
    rw [impl_DirectionsOfWidth_l0]
    by_cases h : (i : Int) < (S.length : Int)
    · have hlt : i < S.length := by omega
      have wi : wr IntKind.i64 (iadd (i : Int) 1) = ((i + 1 : Nat) : Int) := by rw [iadd_eq, wr_id (by omega)]; omega
      have ff : fits (iadd (ilen (List.map eLI ((S.take i).map row))) (ilen [AV.lst false false 1 [AV.int IntKind.i64 (pt S i).x, AV.int IntKind.i64 (pt S i).y]])) 24 = true := by
        rw [fits_eq]
        simp only [iadd_eq, ilen_eq, List.length_map, List.length_take, List.length_cons, List.length_nil]
        exact decide_eq_true (by omega)
      simp only [ilen_mapep, ilt_eq, ile_eq, h, show (0 : Int) ≤ (i : Int) by omega, decide_true, Bool.and_self, cond_true, lget_pt (show (0 : Int) ≤ i by omega) h, gbind_eq, Option.bind_some, ff, wi, lcat_eq]
      have e : (S.take i).map row ++ [[(pt S i).x, (pt S i).y]] = (S.take (i + 1)).map row := by
        rw [take_pt hlt, List.map_append]; rfl
      rw [e]
      exact ih (i + 1) (by omega) (by omega)
    · simp only [ilen_mapep, ilt_eq, h, decide_false, cond_false]
      rw [List.take_of_length_le (by omega)]
noncomputable def dirsW (a : List Pt) : List Pt := isort (dirL a (leastW a))
theorem dirsW_len (g : Good_ a) : ((dirsW a).length : Int) ≤ 100000 ∧ 1 ≤ ((dirsW a).length : Int) := by
  obtain ⟨h1, h2, h3⟩ := leastW_spec g
  have hl := dirL_len (a := a) (t := leastW a) (by omega)
  unfold dirsW
  rw [isort_len]
  have := List.length_pos_iff.2 h2
  omega
theorem leastV (g : Good_ a) (hL : 300000 < L) : (impl_LeastWidth L a = some (leastW a, true) ∧ spec_LeastWidth L a = some (leastW a, true)) ∧ impl_DirectionsOfWidth L a = some ((dirsW a).map row, true) ∧ (impl_IsThin L a = some (decide (leastW a = 1), true) ∧ spec_IsThin L a = some (decide (leastW a = 1), true)) := by
  have dl := dirsW_len g
  unfold impl_IsThin spec_IsThin impl_LeastWidth spec_LeastWidth impl_DirectionsOfWidth
  rw [spec_pgGood_eq (by omega), impl_IsPolygon_eq (by omega)]
  simp only [g, decide_true, Bool.not_true, cond_false, gbind_eq, Option.bind_some, impl_least_val g (show 200000 < L by omega), wiLeast_eq g (show 200000 < L by omega), (all_eq g (show (0 : Int) ≤ 1 ∧ (1 : Int) ≤ 100 by omega) (show 200000 < L by omega)).1, ilen_li, List.length_map, isort_len, ilt_eq, ieq_eq, and_self, true_and]
  refine ⟨dirsOf_l0 (L := L) (S := dirsW a) (k := leastW a) (by omega) L 0 (by omega) (by omega), ?_⟩
  have h := leastW_iff1 g
  have h0 : (0 < ((dirL a 1).length : Int)) ↔ dirL a 1 ≠ [] := by rw [← List.length_pos_iff]; omega
  congr 2
  rw [decide_eq_decide, h0, h]
theorem inAllV (g : Good_ a) (hL : 300000 < L) : impl_PegsInAll L a = some (cntI a + round a, true) ∧ spec_PegsInAll L a = some (cntI a + round a, true) := by
  have hh := g.hi
  have lo := g.lo
  have pr := pick_rule g
  have rg := g.round_ge
  have ab := area_bd (a := a) (by omega) (fun i => (g.all i).nr)
  have nn : 0 ≤ cntI a := bs_nn fun q => by split <;> omega
  obtain ⟨e1, e2⟩ := inner_eq (L := L) (a := a) (by omega) (by omega) (by omega) (fun i => (g.all i).nr)
  rw [inside_is g] at e1 e2
  unfold impl_PegsInAll spec_PegsInAll
  rw [impl_IsPolygon_eq (by omega), spec_pgGood_eq (by omega)]
  have w : wr IntKind.i64 (iadd (cntI a) (round a)) = cntI a + round a := by rw [iadd_eq, wr_id (by omega)]
  simp only [g, decide_true, Bool.not_true, cond_false, gbind_eq, Option.bind_some, e1, e2, impl_around_eq g.nn (show (a.length : Int) ≤ 1000 by omega) (show 3000 < L by omega) (fun i => (g.all i).nr), spec_pgRound_eq g.nn (show (a.length : Int) ≤ 1000 by omega) (show 3000 < L by omega) (fun i => (g.all i).nr), w, and_self]
theorem noV (g : ¬ Good_ a) (hL : 300000 < L) : (impl_LeastWidth L a = some (0, false) ∧ spec_LeastWidth L a = some (0, false)) ∧ impl_DirectionsOfWidth L a = some ([], false) ∧ (impl_IsThin L a = some (false, false) ∧ spec_IsThin L a = some (false, false)) ∧ (impl_PegsInAll L a = some (0, false) ∧ spec_PegsInAll L a = some (0, false)) := by
  unfold impl_IsThin spec_IsThin impl_LeastWidth spec_LeastWidth impl_DirectionsOfWidth impl_PegsInAll spec_PegsInAll
  rw [spec_pgGood_eq (by omega), impl_IsPolygon_eq (by omega)]
  simp only [g, decide_false, Bool.not_false, cond_true, gbind_eq, Option.bind_some, ieq_eq, and_self]
  simp
end
end Go.AM
namespace Go.AM
theorem three_l0 {L : Nat} {r3 r4 r5 : Int × Int × Int × Int} {r6 : Bool × Int × Int} : ∀ (k m : Nat) (M : Int) (w : List Pt), w.length = 3 → k ≤ 3 → k < m → 2 ^ k * M ≤ 1000000 → 0 ≤ M → (∀ p ∈ w, (-M ≤ p.x ∧ p.x ≤ M) ∧ (-M ≤ p.y ∧ p.y ≤ M)) →
    ∃ w', spec_l1Cur_three_l0 L r3 r4 r5 r6 m (3 - k) w = some (w', r6.2.1, r6.2.2) ∧ w'.length = 3 ∧ ∀ p ∈ w', Wd p := by
  intro k
  induction k with
  | zero =>
    intro m M w hw _ hm hM h0 hp
    obtain ⟨m, rfl⟩ : ∃ q, m = q + 1 := ⟨m - 1, by omega⟩
    have hlen : ilen [AV.agg [AV.int IntKind.i64 r3.1, AV.int IntKind.i64 r3.2.1], AV.agg [AV.int IntKind.i64 r4.1, AV.int IntKind.i64 r4.2.1], AV.agg [AV.int IntKind.i64 r5.1, AV.int IntKind.i64 r5.2.1]] = 3 := by rw [ilen_eq]; rfl
    rw [spec_l1Cur_three_l0]
    simp only [hlen, ilt_eq, show ¬ (3 : Int) - ((0 : Nat) : Int) < 3 by omega, decide_false, cond_false]
    refine ⟨w, rfl, hw, fun p h => ?_⟩
    have := hp p h
    simp at hM
    unfold Wd; omega
  | succ k ih =>
    intro m M w hw hk hm hM h0 hp
    obtain ⟨m, rfl⟩ : ∃ q, m = q + 1 := ⟨m - 1, by omega⟩
    have hlen : ilen [AV.agg [AV.int IntKind.i64 r3.1, AV.int IntKind.i64 r3.2.1], AV.agg [AV.int IntKind.i64 r4.1, AV.int IntKind.i64 r4.2.1], AV.agg [AV.int IntKind.i64 r5.1, AV.int IntKind.i64 r5.2.1]] = 3 := by rw [ilen_eq]; rfl
    have hM' : 2 ^ k * (2 * M) ≤ 1000000 := by
      have : (2 : Int) ^ (k + 1) * M = 2 ^ k * (2 * M) := by rw [Int.pow_succ]; grind
      rwa [this] at hM
    have hMs : M ≤ 1000000 := by
      have hp' : (1 : Int) ≤ 2 ^ (k + 1) := by
        have : (0 : Int) < 2 ^ (k + 1) := Int.pow_pos (by omega)
        omega
      have := Int.mul_le_mul_of_nonneg_right hp' h0
      omega
    have i0 : (0 : Int) ≤ 3 - ((k + 1 : Nat) : Int) := by omega
    have i1 : (3 : Int) - ((k + 1 : Nat) : Int) < (w.length : Int) := by omega
    have hne : w ≠ [] := by intro e; subst e; simp at hw
    have hq := hp _ (pt_mem2 hne (3 - ((k + 1 : Nat) : Int)))
    have w1 : wr IntKind.i64 (iadd (3 - ((k + 1 : Nat) : Int)) 1) = 3 - (k : Int) := by rw [iadd_eq, wr_id (by omega)]; omega
    rw [spec_l1Cur_three_l0]
    simp only [hlen, ilt_eq, ile_eq, ilen_mapep, show (3 : Int) - ((k + 1 : Nat) : Int) < 3 by omega, i0, i1, decide_true, Bool.and_self, cond_true, lget_pt i0 i1, gbind_eq, Option.bind_some, w1, imul_eq]
    rw [wr_id (n := 2 * (pt w (3 - ((k + 1 : Nat) : Int))).x) (by omega), wr_id (n := 2 * (pt w (3 - ((k + 1 : Nat) : Int))).y) (by omega)]
    refine ih m (2 * M) _ (by rw [lset_eq]; simpa using hw) (by omega) (by omega) hM' (by omega) fun p hp' => ?_
    rw [lset_eq] at hp'
    rcases List.mem_or_eq_of_mem_set hp' with h | h
    · have := hp p h; omega
    · rw [h]; simp only; omega
theorem three_dr {L : Nat} {a : List Int} {t s n : Int} (hb : By a) (ht : 0 ≤ t ∧ t ≤ 200000) (hn : 1 ≤ n ∧ n ≤ 20) (hL : 1000 < L) : ∃ r t' s', spec_l1Cur_three L a t s n = some (r, t', s') ∧ (r.length : Int) ≤ 30 ∧ (∀ p ∈ r, Wd p) ∧ t ≤ t' ∧ t' ≤ t + 400 := by
  have inwd : ∀ p, In p → Wd p := fun p h => by unfold In at h; unfold Wd; omega
  obtain ⟨k, t1, s1, e1, k0, h1, h2⟩ := pick_dr (L := L) (s := s) (n := 12) hb (t := t) (by omega) (by omega)
  unfold spec_l1Cur_three
  simp only [e1, gbind_eq, Option.bind_some, ieq_eq]
  by_cases c0 : k = 0
  · obtain ⟨r, t2, s2, e2, q1, q2, q3, q4⟩ := polygon_dr (L := L) (s := s1) (n := 4) hb (t := t1) (by omega) (by omega) hL
    simp only [c0, decide_true, cond_true, e2, Option.bind_some]
    exact ⟨_, _, _, rfl, q1, q2, by omega, by omega⟩
  · by_cases c1 : k = 1
    · obtain ⟨x, t2, s2, e2, x0, h3, h4⟩ := pick_dr (L := L) (s := s1) (n := 3) hb (t := t1) (by omega) (by omega)
      simp only [c0, c1, decide_true, decide_false, cond_true, cond_false, e2, Option.bind_some]
      refine ⟨_, _, _, rfl, by simp, fun p hp => ?_, by omega, by omega⟩
      simp only [List.mem_cons, List.not_mem_nil, or_false] at hp
      have wx : wr IntKind.i64 (isub x 1) = x - 1 := by rw [isub_eq, wr_id (by omega)]
      rcases hp with rfl | rfl | rfl <;> unfold Wd <;> simp only [wx] <;> omega
    · obtain ⟨x1, y1, t2, s2, e2, m2, h3, h4⟩ := surePeg_dr (L := L) (s := s1) (n := n) hb (t := t1) (by omega) hn
      obtain ⟨x2, y2, t3, s3, e3, m3, h5, h6⟩ := surePeg_dr (L := L) (s := s2) (n := n) hb (t := t2) (by omega) hn
      obtain ⟨x3, y3, t4, s4, e4, m4, h7, h8⟩ := surePeg_dr (L := L) (s := s3) (n := n) hb (t := t3) (by omega) hn
      obtain ⟨b, t5, s5, e5, h9, h10⟩ := one_dr (L := L) (s := s4) (n := 3) hb (t := t4) (by omega) (by omega)
      simp only [c0, c1, decide_false, cond_false, e2, e3, e4, e5, Option.bind_some]
      cases b with
      | true =>
        obtain ⟨w', e6, l6, p6⟩ := three_l0 (L := L) (r3 := (x1, y1, t2, s2)) (r4 := (x2, y2, t3, s3)) (r5 := (x3, y3, t4, s4)) (r6 := (true, t5, s5)) 3 L 40 [⟨x1, y1⟩, ⟨x2, y2⟩, ⟨x3, y3⟩] rfl (by omega) (by omega) (by decide) (by omega) (fun p hp => by
          simp only [List.mem_cons, List.not_mem_nil, or_false] at hp
          unfold In at m2 m3 m4
          rcases hp with rfl | rfl | rfl <;> simp only at * <;> omega)
        rw [show (3 : Int) - ((3 : Nat) : Int) = 0 by omega] at e6
        simp only [cond_true, e6]
        exact ⟨_, _, _, rfl, by omega, p6, by omega, by omega⟩
      | false =>
        simp only [cond_false]
        refine ⟨_, _, _, rfl, by simp, fun p hp => ?_, by omega, by omega⟩
        simp only [List.mem_cons, List.not_mem_nil, or_false] at hp
        rcases hp with rfl | rfl | rfl
        · exact inwd _ m2
        · exact inwd _ m3
        · exact inwd _ m4
theorem zPegs_l0 {L : Nat} {a : List Pt} (hs : (a.length : Int) ≤ 100000) : ∀ (m i : Nat), i ≤ a.length → a.length - i < m → laws_zPegs_l0 L a a m i = some true := by
  intro m
  induction m with
  | zero => intro i _ h; omega
  | succ m ih =>
    intro i hi hm
    rw [laws_zPegs_l0]
    by_cases h : (i : Int) < (a.length : Int)
    · have wi : wr IntKind.i64 (iadd (i : Int) 1) = ((i + 1 : Nat) : Int) := by rw [iadd_eq, wr_s (by omega)]; omega
      simp only [ilen_mapep, ilt_eq, h, decide_true, cond_true, lget_pt (show (0 : Int) ≤ i by omega) h, gbind_eq, Option.bind_some, ieq_eq, Bool.and_self, Bool.not_true, cond_false, wi]
      exact ih (i + 1) (by omega) (by omega)
    · simp only [ilen_mapep, ilt_eq, h, decide_false, cond_false]
theorem zPegs_eq {L : Nat} {a : List Pt} (hs : (a.length : Int) ≤ 100000) (hL : (a.length : Int) < L) : laws_zPegs L a a = some true := by
  unfold laws_zPegs
  simp only [ieq_eq, decide_true, Bool.not_true, cond_false]
  exact zPegs_l0 hs L 0 (by omega) (by omega)
theorem big_eq {L : Nat} {a b : List Int} : ∃ r, laws_big L a b = some r := by
  unfold laws_big
  by_cases h : ilt 1048576 (ilen (List.map eU a)) = true
  · rw [h]; exact ⟨_, rfl⟩
  · simp only [Bool.not_eq_true] at h
    rw [h]; exact ⟨_, rfl⟩
end Go.AM
namespace Go.AM
set_option maxRecDepth 100000
section
variable {L : Nat}
theorem ptx {p q : Pt} (h : p.x = q.x ∧ p.y = q.y) : p = q := by
  cases p; cases q
  simp only at h
  rw [h.1, h.2]
theorem drawLeast_dr {a : List Int} (hb : By a) (hL : 1000 < L) : ∃ r, spec_DrawLeastWidth L a = some r := by
  obtain ⟨b, t1, s1, e1, h1, h2⟩ := one_dr (L := L) (s := 0) (n := 3) hb (t := 0) (by omega) (by omega)
  unfold spec_DrawLeastWidth
  simp only [e1, gbind_eq, Option.bind_some]
  cases b with
  | true =>
    obtain ⟨r, t2, s2, e2, _⟩ := three_dr (L := L) (a := a) (t := t1) (s := s1) (n := 6) hb (by omega) (by omega) hL
    simp only [cond_true, e2, Option.bind_some]
    exact ⟨_, rfl⟩
  | false =>
    obtain ⟨r, t2, s2, e2, _⟩ := polygon_dr (L := L) (a := a) (t := t1) (s := s1) (n := 5) hb (by omega) (by omega) hL
    simp only [cond_false, e2, Option.bind_some]
    exact ⟨_, rfl⟩
theorem direction_dr {a : List Int} {t s : Int} (hb : By a) (ht : 0 ≤ t ∧ t ≤ 800000) (hL : 1000 < L) : ∃ x y t' s', spec_l1Cur_direction L a t s = some (x, y, t', s') := by
  obtain ⟨b, t1, s1, e1, h1, h2⟩ := one_dr (L := L) (s := s) (n := 8) hb (t := t) (by omega) (by omega)
  unfold spec_l1Cur_direction
  simp only [e1, gbind_eq, Option.bind_some]
  cases b with
  | true =>
    obtain ⟨u, t2, s2, e2, _, h3, h4⟩ := among_dr (L := L) (a := a) (w := [0, 2, 200, 201, -9223372036854775808]) (t := t1) (s := s1) hb (by omega) (by simp)
    obtain ⟨v, t3, s3, e3, _⟩ := among_dr (L := L) (a := a) (w := [0, 1, 4, -200, 4611686018427387904]) (t := t2) (s := s2) hb (by omega) (by simp)
    simp only [cond_true, e2, e3, Option.bind_some]
    exact ⟨_, _, _, _, rfl⟩
  | false =>
    obtain ⟨u, t2, s2, e2, u1, h3, h4⟩ := pick_dr (L := L) (a := a) (n := 7) (t := t1) (s := s1) hb (by omega) (by omega)
    obtain ⟨v, t3, s3, e3, v1, h5, h6⟩ := pick_dr (L := L) (a := a) (n := 7) (t := t2) (s := s2) hb (by omega) (by omega)
    have w1 : wr IntKind.i64 (isub u 3) = u - 3 := by rw [isub_eq, wr_id (by omega)]
    have w2 : wr IntKind.i64 (isub v 3) = v - 3 := by rw [isub_eq, wr_id (by omega)]
    have ce := common_eq (L := L) (b := u - 3) (c := v - 3) (by omega) (by omega) (by omega)
    simp only [cond_false, e2, e3, Option.bind_some, w1, w2, ce, ilt_eq, ieq_eq]
    by_cases g1 : (1 : Int) < (Nat.gcd (u - 3).natAbs (v - 3).natAbs : Int)
    · simp only [g1, decide_true, cond_true, show ¬ ((Nat.gcd (u - 3).natAbs (v - 3).natAbs : Int) = 0) by omega, decide_false, cond_false]
      exact ⟨_, _, _, _, rfl⟩
    · simp only [g1, decide_false, cond_false]
      exact ⟨_, _, _, _, rfl⟩
theorem drawWide_dr {a : List Int} (hb : By a) (hL : 1000 < L) : ∃ q u v, spec_DrawPegsPerLine L a = some (q, u, v) := by
  obtain ⟨r, t1, s1, e1, _, _, h1, h2⟩ := polygon_dr (L := L) (a := a) (t := 0) (s := 0) (n := 5) hb (by omega) (by omega) hL
  obtain ⟨x, y, t2, s2, e2⟩ := direction_dr (L := L) (a := a) (t := t1) (s := s1) hb (by omega) hL
  unfold spec_DrawPegsPerLine spec_DrawWidthIn
  simp only [e1, e2, gbind_eq, Option.bind_some]
  exact ⟨_, _, _, rfl⟩
theorem drawCount_dr {a : List Int} (hb : By a) (hL : 1000 < L) : ∃ q n, spec_DrawCountDirections L a = some (q, n) := by
  obtain ⟨r, e1⟩ := drawLeast_dr (L := L) (a := a) hb hL
  obtain ⟨v, t3, s3, e3, _⟩ := among_dr (L := L) (a := a) (w := [0, 1, 2, 3, 5, 20, 61, -1]) (t := 0) (s := 0) hb (by omega) (by simp)
  unfold spec_DrawCountDirections
  simp only [e1, e3, gbind_eq, Option.bind_some]
  exact ⟨_, _, rfl⟩
theorem zSame_l0 {a : List Int} (hs : (a.length : Int) ≤ 1000000) : ∀ (m i : Nat), i ≤ a.length → a.length - i < m → laws_zSame_l0 L a a m i = some true := by
  intro m
  induction m with
  | zero => intro i _ h; omega
  | succ m ih =>
    intro i hi hm
    rw [laws_zSame_l0]
    by_cases h : i < a.length
    · have wi : wr IntKind.i64 (iadd (i : Int) 1) = ((i + 1 : Nat) : Int) := by rw [iadd_eq, wr_id (by omega)]; omega
      have lg : lget a (i : Int) = some a[i] := by rw [lget_eq, if_pos (by omega), Int.toNat_natCast, List.getElem?_eq_getElem h]
      simp only [ilen_eI, ilt_eq, show (i : Int) < (a.length : Int) by omega, decide_true, cond_true, lg, gbind_eq, Option.bind_some, ieq_eq, Bool.not_true, cond_false, wi]
      exact ih (i + 1) (by omega) (by omega)
    · simp only [ilen_eI, ilt_eq, show ¬ ((i : Int) < (a.length : Int)) by omega, decide_false, cond_false]
theorem zSameV {a : List Int} (hs : (a.length : Int) ≤ 1000000) (hL : a.length < L) : laws_zSame L a a = some true := by
  unfold laws_zSame
  simp only [ieq_eq, decide_true, Bool.not_true, cond_false]
  exact zSame_l0 hs L 0 (by omega) (by omega)
theorem zRows_l0 {S : List Pt} (hs : (S.length : Int) ≤ 1000000) (hL : 10 < L) : ∀ (m i : Nat), i ≤ S.length → S.length - i < m → laws_zRows_l0 L (S.map row) (S.map row) m i = some true := by
  intro m
  induction m with
  | zero => intro i _ h; omega
  | succ m ih =>
    intro i hi hm
    rw [laws_zRows_l0]
    by_cases h : i < S.length
    · have wi : wr IntKind.i64 (iadd (i : Int) 1) = ((i + 1 : Nat) : Int) := by rw [iadd_eq, wr_id (by omega)]; omega
      have zs : laws_zSame L (row (pt S (i : Int))) (row (pt S (i : Int))) = some true := zSameV (by unfold row; simp) (by unfold row; simp; omega)
      simp only [ilen_li, List.length_map, ilt_eq, show (i : Int) < (S.length : Int) by omega, decide_true, cond_true, lget_row (out := S) (i := (i : Int)) (by omega) (by omega), gbind_eq, Option.bind_some, zs, Bool.not_true, cond_false, wi]
      exact ih (i + 1) (by omega) (by omega)
    · simp only [ilen_li, List.length_map, ilt_eq, show ¬ ((i : Int) < (S.length : Int)) by omega, decide_false, cond_false]
theorem zRowsV {S : List Pt} (hs : (S.length : Int) ≤ 1000000) (hL : S.length + 10 < L) : laws_zRows L (S.map row) (S.map row) = some true := by
  unfold laws_zRows
  simp only [ieq_eq, decide_true, Bool.not_true, cond_false]
  exact zRows_l0 hs (by omega) L 0 (by omega) (by omega)
variable {q : List Pt} {u v : Int}
theorem wl_l14 (d : Dir u v) {κ : Int → Int → Int → Int → Int → (List Pt) → (List Pt) → Option Bool} {i : Nat} {w : List Pt} {p : Pt} {T : Int} (hw : (w.length : Int) ≤ 1000) (hp : In p) (hT : val u v p ≤ T) (hiff : val u v p = T ↔ p ∈ w) (hi : (i : Int) ≤ 1000) :
    ∀ (m j : Nat) (f : Bool), j ≤ w.length → w.length - j < m → (f = true → p ∈ w) → (∀ k : Nat, k < j → w[k]? = some p → f = true) →
    laws_FnWidthsLeast_l14 L κ u v T (q.length : Int) (i : Int) w q p m f (j : Int) = κ u v T (q.length : Int) ((i : Int) + 1) w q := by
  intro m
  induction m with
  | zero => intro j _ _ h; omega
  | succ m ih =>
    intro j f hj hm h1 h2
    have hu : -100000 ≤ u ∧ u ≤ 100000 := by have := d.1; omega
    have hv : -100000 ≤ v ∧ v ≤ 100000 := by have := d.2.1; omega
    have vw := val_wr (b := u) (c := v) (p := p) hu hv hp
    rw [laws_FnWidthsLeast_l14]
    by_cases h : j < w.length
    · have wi : wr IntKind.i64 (iadd (j : Int) 1) = ((j + 1 : Nat) : Int) := by rw [iadd_eq, wr_id (by omega)]; omega
      have lg := lget_pt (a := w) (i := (j : Int)) (by omega) (by omega)
      have gp : w[j]? = some (pt w (j : Int)) := by have := pt_get (a := w) (i := (j : Int)) (by omega) (by omega); rwa [Int.toNat_natCast] at this
      simp only [ilen_mapep, ilt_eq, ile_eq, show (j : Int) < (w.length : Int) by omega, show (0 : Int) ≤ (j : Int) by omega, decide_true, Bool.and_self, cond_true, lg, gbind_eq, Option.bind_some, wi, ieq_eq]
      cases f with
      | true =>
        simp only [cond_true]
        exact ih (j + 1) true (by omega) (by omega) h1 (fun k _ _ => rfl)
      | false =>
        simp only [cond_false]
        refine ih (j + 1) _ (by omega) (by omega) (fun hf => ?_) (fun k hk e => ?_)
        · have hf' : (pt w (j : Int)).x = p.x ∧ (pt w (j : Int)).y = p.y := by simpa using hf
          have e : pt w (j : Int) = p := ptx hf'
          rw [e] at gp
          exact List.mem_of_getElem? gp
        · rcases Nat.lt_or_ge k j with c | c
          · have := h2 k c e; cases this
          · have ek : k = j := by omega
            subst ek
            rw [gp] at e
            have e' := Option.some.inj e
            rw [e']
            simp
    · have ej : j = w.length := by omega
      have fin : f = decide (val u v p = T) := by
        cases f with
        | true => exact (decide_eq_true (hiff.2 (h1 rfl))).symm
        | false =>
          refine (decide_eq_false fun e => ?_).symm
          obtain ⟨k, hk, ek⟩ := List.mem_iff_getElem.1 (hiff.1 e)
          have := h2 k (by omega) (by rw [List.getElem?_eq_getElem hk, ek])
          cases this
      have wi : wr IntKind.i64 (iadd (i : Int) 1) = (i : Int) + 1 := by rw [iadd_eq, wr_id (by omega)]
      simp only [ilen_mapep, ilt_eq, show ¬ ((j : Int) < (w.length : Int)) by omega, decide_false, cond_false, vw, show ¬ (T < val u v p) by omega, ieq_eq, fin, beqb_eq, beq_self_eq_true, Bool.not_true, wi]
theorem wl_l13 (g : Good_ q) (d : Dir u v) (hL : 5000 < L) : ∀ (m i : Nat), i ≤ q.length → q.length - i < m → laws_FnWidthsLeast_l13 L m u v (rngOf u v q).2 (q.length : Int) (i : Int) (supp q u v) q = some true := by
  have hh := g.hi
  have sl : ((supp q u v).length : Int) ≤ 10 := by
    have := List.length_filter_le (fun p => decide (val u v p = (rngOf u v q).2)) (isort q)
    rw [isort_len] at this
    unfold supp
    omega
  intro m
  induction m with
  | zero => intro i _ h; omega
  | succ m ih =>
    intro i hi hm
    rw [laws_FnWidthsLeast_l13]
    by_cases h : i < q.length
    · have hr := (rng_le (f := val u v) q (val u v (pt q 0)) (val u v (pt q 0))).2.2 _ (pt_mem g.nn (i : Int))
      simp only [ilt_eq, ile_eq, ilen_mapep, show (i : Int) < (q.length : Int) by omega, show (0 : Int) ≤ (i : Int) by omega, decide_true, Bool.and_self, cond_true, lget_pt (a := q) (i := (i : Int)) (by omega) (by omega), gbind_eq, Option.bind_some]
      have := wl_l14 (L := L) (q := q) d (κ := laws_FnWidthsLeast_l13 L m) (i := i) (w := supp q u v) (p := pt q (i : Int)) (T := (rngOf u v q).2) (by omega) (g.all _) hr.2 (by rw [supp_mem]; exact ⟨fun e => ⟨pt_mem g.nn _, e⟩, fun e => e.2⟩) (by omega) L 0 false (by omega) (by omega) (fun e => by cases e) (fun k hk _ => by omega)
      rw [show ((0 : Nat) : Int) = 0 from rfl] at this
      rw [this, show (i : Int) + 1 = ((i + 1 : Nat) : Int) by omega]
      exact ih (i + 1) (by omega) (by omega)
    · simp only [ilt_eq, show ¬ ((i : Int) < (q.length : Int)) by omega, decide_false, cond_false]
theorem wl_j12 (g : Good_ q) (d : Dir u v) (hL : 5000 < L) : laws_FnWidthsLeast_j12 L (q, u, v) (lines q u v, true) (supp q u v, true) (wdth q u v, true) false = some true := by
  have ll := lines_len (x := u) (y := v) g
  have wn := wdth_nn g u v
  have top := lines_top (x := u) (y := v) g (k := (wdth q u v).toNat) (by omega)
  have low := lines_low (x := u) (y := v) g
  have sp : 0 < ((supp q u v).length : Int) := by have := List.length_pos_iff.2 (supp_ne (x := u) (y := v) g); omega
  have l1 : lget (lines q u v) (wdth q u v) = some ((lines q u v).getD (wdth q u v).toNat 0) := (bump_step wn (by omega)).1
  have l2 : lget (lines q u v) 0 = some ((lines q u v).getD 0 0) := (bump_step (i := 0) (by omega) (by omega)).1
  have hu : -100000 ≤ u ∧ u ≤ 100000 := by have := d.1; omega
  have hv : -100000 ≤ v ∧ v ≤ 100000 := by have := d.2.1; omega
  have sm0 := supp_mem.1 (pt_mem (supp_ne (x := u) (y := v) g) 0)
  have ip : In (pt (supp q u v) 0) := by
    obtain ⟨j, _, _, e⟩ := mem_pt sm0.1
    rw [← e]; exact g.all j
  have vw := val_wr (b := u) (c := v) (p := pt (supp q u v) 0) hu hv ip
  rw [sm0.2] at vw
  have l13 := wl_l13 (L := L) g d hL L 0 (by omega) (by have := g.hi; omega)
  rw [show ((0 : Nat) : Int) = 0 from rfl] at l13
  unfold laws_FnWidthsLeast_j12
  simp only [cond_false, cond_true, ile_eq, ilt_eq, ilen_eI, ilen_mapep, wn, show wdth q u v < ((lines q u v).length : Int) by omega, decide_true, Bool.and_self, l1, l2, gbind_eq, Option.bind_some,
    show ¬ ((lines q u v).getD (wdth q u v).toNat 0 < ((supp q u v).length : Int)) by omega, decide_false, Int.le_refl, show (0 : Int) < ((lines q u v).length : Int) by omega, show ¬ ((lines q u v).getD 0 0 < 1) by omega, sp, lget_pt (Int.le_refl 0) sp, vw, l13]
theorem wl_l10 (g : Good_ q) (d : Dir u v) (hL : 300000 < L) : ∀ (m i : Nat) (s t : Int), i ≤ (lines q u v).length → (lines q u v).length - i < m → 0 ≤ s → s + ((lines q u v).drop i).sum = cntI q + round q → topN ((lines q u v).drop i) t = topN (lines q u v) 0 →
    laws_FnWidthsLeast_l10 L (q, u, v) (lines q u v, true) (topN (lines q u v) 0, true) (supp q u v, true) (wdth q u v, true) m s t (i : Int) = some true := by
  have ll := lines_len (x := u) (y := v) g
  have wn := wdth_nn g u v
  have wl := wdth_le g d
  have hh := g.hi
  have lo := g.lo
  have pr := pick_rule g
  have rg := g.round_ge
  have ab := area_bd (a := q) (by omega) (fun i => (g.all i).nr)
  have nn : 0 ≤ cntI q := bs_nn fun q => by split <;> omega
  have sp : 0 < ((supp q u v).length : Int) := by have := List.length_pos_iff.2 (supp_ne (x := u) (y := v) g); omega
  have j12 := wl_j12 (L := L) g d (by omega)
  intro m
  induction m with
  | zero => intro i _ _ _ h; omega
  | succ m ih =>
    intro i s t hi hm h0 hs ht
    rw [laws_FnWidthsLeast_l10]
    by_cases h : i < (lines q u v).length
    · have wi : wr IntKind.i64 (iadd (i : Int) 1) = ((i + 1 : Nat) : Int) := by rw [iadd_eq, wr_id (by omega)]; omega
      have lg : lget (lines q u v) (i : Int) = some (lines q u v)[i] := by rw [lget_eq, if_pos (by omega), Int.toNat_natCast, List.getElem?_eq_getElem h]
      have en := lines_nn (a := q) (x := u) (y := v) _ (List.getElem_mem h)
      rw [List.drop_eq_getElem_cons h, List.sum_cons] at hs
      rw [List.drop_eq_getElem_cons h, topN] at ht
      have rest : 0 ≤ ((lines q u v).drop (i + 1)).sum := by
        have : ∀ l : List Int, (∀ x ∈ l, 0 ≤ x) → 0 ≤ l.sum := by
          intro l
          induction l with
          | nil => intro _; simp
          | cons x l ih => intro hx; have := ih (fun y hy => hx y (by simp [hy])); have := hx x (by simp); rw [List.sum_cons]; omega
        exact this _ fun x hx => lines_nn (a := q) (x := u) (y := v) _ (List.mem_of_mem_drop hx)
      have ws : wr IntKind.i64 (iadd s (lines q u v)[i]) = s + (lines q u v)[i] := by rw [iadd_eq, wr_id (by omega)]
      simp only [ilen_eI, ilt_eq, ile_eq, show (0 : Int) ≤ (i : Int) by omega, show (i : Int) < ((lines q u v).length : Int) by omega, decide_true, Bool.and_self, cond_true, lg, gbind_eq, Option.bind_some, ws, wi]
      by_cases c : t < (lines q u v)[i]
      · simp only [c, decide_true, cond_true]
        rw [if_pos c] at ht
        exact ih (i + 1) _ _ (by omega) (by omega) (by omega) (by omega) ht
      · simp only [c, decide_false, cond_false]
        rw [if_neg c] at ht
        exact ih (i + 1) _ _ (by omega) (by omega) (by omega) (by omega) ht
    · rw [List.drop_of_length_le (by omega)] at hs ht
      rw [List.sum_nil] at hs
      have et : t = topN (lines q u v) 0 := ht
      have es : s = cntI q + round q := by omega
      have w1 : wr IntKind.i64 (iadd (wdth q u v) 1) = wdth q u v + 1 := by rw [iadd_eq, wr_id (by omega)]
      simp only [ilen_eI, ilt_eq, show ¬ ((i : Int) < wdth q u v + 1) by omega, decide_false, cond_false, (inAllV (L := L) g hL).1, gbind_eq, Option.bind_some, w1, ll, ieq_eq, decide_true, Bool.not_true, es]
      unfold laws_FnWidthsLeast_j11
      simp only [cond_false, et, ieq_eq, decide_true, Bool.not_true, ilen_mapep, ilt_eq, show ¬ (((supp q u v).length : Int) < 1) by omega, decide_false, j12]
theorem wl_j4 {b : List Int} (hb : By b) (hL : 300000 < L) : laws_FnWidthsLeast_j4 L b = some true := by
  obtain ⟨q, u, v, e1⟩ := drawWide_dr (L := L) hb (by omega)
  obtain ⟨r, n, e2⟩ := drawCount_dr (L := L) hb (by omega)
  obtain ⟨c1, c2⟩ := countV (L := L) (a := r) (b := n) hL
  unfold laws_FnWidthsLeast_j4
  simp only [e1, e2, c1, c2, gbind_eq, Option.bind_some]
  by_cases h : Good_ q ∧ Dir u v
  · obtain ⟨g, d⟩ := h
    obtain ⟨p1, p2⟩ := pegsPerLineV (L := L) g d (by omega)
    obtain ⟨m1, m2⟩ := mostV (L := L) g d hL
    obtain ⟨s1, s2⟩ := supportV (L := L) g d hL
    obtain ⟨w1, w2⟩ := widthV (L := L) g d hL
    have ll := lines_len (x := u) (y := v) g
    have wl := wdth_le g d
    have sl : ((supp q u v).length : Int) ≤ 10 := by
      have := List.length_filter_le (fun p => decide (val u v p = (rngOf u v q).2)) (isort q)
      rw [isort_len] at this
      have := g.hi
      unfold supp
      omega
    have z1 := zSameV (L := L) (a := lines q u v) (by omega) (by omega)
    have z2 := zPegs_eq (L := L) (a := supp q u v) (by omega) (by omega)
    have l10 := wl_l10 (L := L) g d hL L 0 0 0 (by omega) (by omega) (by omega) (by rw [List.drop_zero, Int.zero_add]; exact lines_sum g) (by rw [List.drop_zero])
    rw [show ((0 : Nat) : Int) = 0 from rfl] at l10
    simp only [p1, p2, m1, m2, s1, s2, w1, w2, Option.bind_some, beqb_eq, beq_self_eq_true, Bool.not_true, cond_false, z1]
    unfold laws_FnWidthsLeast_j5 laws_FnWidthsLeast_j6 laws_FnWidthsLeast_j7 laws_FnWidthsLeast_j8 laws_FnWidthsLeast_j9
    simp only [cond_false, cond_true, gbind_eq, Option.bind_some, beqb_eq, beq_self_eq_true, Bool.not_true, ieq_eq, decide_true, z2, l10]
  · obtain ⟨⟨p1, p2⟩, ⟨m1, m2⟩, ⟨s1, s2⟩, w1, w2⟩ := wideNo (L := L) h hL
    have z1 := zSameV (L := L) (a := []) (by simp) (by simp; omega)
    have z2 := zPegs_eq (L := L) (a := []) (by simp) (by simp; omega)
    simp only [p1, p2, m1, m2, s1, s2, w1, w2, Option.bind_some, beqb_eq, beq_self_eq_true, Bool.not_true, cond_false, z1]
    unfold laws_FnWidthsLeast_j5 laws_FnWidthsLeast_j6 laws_FnWidthsLeast_j7 laws_FnWidthsLeast_j8 laws_FnWidthsLeast_j9
    simp only [cond_false, cond_true, gbind_eq, Option.bind_some, beqb_eq, beq_self_eq_true, Bool.not_true, ieq_eq, decide_true, z2]
variable {a : List Pt}
theorem dirsW_mem (g : Good_ a) {p : Pt} (h : p ∈ dirsW a) : ToldD p ∧ wdth a p.x p.y = leastW a := by
  obtain ⟨h1, h2, h3⟩ := leastW_spec g
  unfold dirsW at h
  rw [isort_mem, dirL_mem g (by omega)] at h
  refine ⟨h.1, ?_⟩
  have hp := wdth_pos g h.1
  rcases Int.lt_or_le (wdth a p.x p.y) (leastW a) with c | c
  · exfalso
    have := h.1.le (t := wdth a p.x p.y) g (by omega) (Int.le_refl _)
    rw [h3 _ hp c] at this
    simp at this
  · have := h.2; omega
theorem least_le (g : Good_ a) {p : Pt} (h : ToldD p) : leastW a ≤ wdth a p.x p.y := by
  obtain ⟨h1, h2, h3⟩ := leastW_spec g
  have hp := wdth_pos g h
  rcases Int.lt_or_le (wdth a p.x p.y) (leastW a) with c | c
  · exfalso
    have := h.le (t := wdth a p.x p.y) g (by omega) (Int.le_refl _)
    rw [h3 _ hp c] at this
    simp at this
  · exact c
theorem dirsW_less (g : Good_ a) {i : Int} (h0 : 0 < i) (h1 : i < (dirsW a).length) : Less (pt (dirsW a) (i - 1)) (pt (dirsW a) i) := by
  obtain ⟨k1, k2, k3⟩ := leastW_spec g
  have ord := List.pairwise_iff_getElem.1 (isort_ord (dirL a (leastW a))) (i - 1).toNat i.toNat (by unfold dirsW at h1; omega) (by unfold dirsW at h1; omega) (by omega)
  have nd := List.pairwise_iff_getElem.1 (isort_nodup (dirL_nodup g (t := leastW a) (by omega))) (i - 1).toNat i.toNat (by unfold dirsW at h1; omega) (by unfold dirsW at h1; omega) (by omega)
  have e1 := pt_get (a := dirsW a) (i := i - 1) (by omega) (by omega)
  have e2 := pt_get (a := dirsW a) (i := i) (by omega) h1
  rw [List.getElem?_eq_getElem (by omega)] at e1 e2
  rw [← Option.some.inj e1, ← Option.some.inj e2]
  by_cases c : Less (dirsW a)[(i - 1).toNat] (dirsW a)[i.toNat]
  · exact c
  · exact absurd (not_less_eq c ord) nd
theorem wl_l18 {b : List Int} (g : Good_ a) (hb : By b) (hL : 300000 < L) : ∀ (m i : Nat), i ≤ (dirsW a).length → (dirsW a).length - i < m →
    laws_FnWidthsLeast_l18 L b a (leastW a, true) ((dirsW a).map row, true) m (i : Int) = some true := by
  obtain ⟨k1, k2, k3⟩ := leastW_spec g
  have dl := dirsW_len g
  have dn : dirsW a ≠ [] := fun e => by rw [e] at dl; simp at dl
  have j4 := wl_j4 (L := L) hb hL
  intro m
  induction m with
  | zero => intro i _ h; omega
  | succ m ih =>
    intro i hi hm
    rw [laws_FnWidthsLeast_l18]
    by_cases h : i < (dirsW a).length
    · have wi : wr IntKind.i64 (iadd (i : Int) 1) = ((i + 1 : Nat) : Int) := by rw [iadd_eq, wr_id (by omega)]; omega
      have wj : wr IntKind.i64 (isub (i : Int) 1) = (i : Int) - 1 := by rw [isub_eq, wr_id (by omega)]
      have ih' := ih (i + 1) (by omega) (by omega)
      obtain ⟨td, wd⟩ := dirsW_mem g (pt_mem dn (i : Int))
      have lg := lget_row (out := dirsW a) (i := (i : Int)) (by omega) (by omega)
      have h0 : ¬ ((pt (dirsW a) (i : Int)).x < 0) := by have := td.2; omega
      have h1 : (pt (dirsW a) (i : Int)).x = 0 → (pt (dirsW a) (i : Int)).y = 1 := fun e => by
        have := td.1
        rw [e] at this
        simp at this
        have := td.2
        omega
      obtain ⟨n, t, ew, hw⟩ : ∃ n t, impl_WidthIn L a (pt (dirsW a) (i : Int)).x (pt (dirsW a) (i : Int)).y = some (n, t) ∧ (t = true → n = leastW a) := by
        by_cases d : Dir (pt (dirsW a) (i : Int)).x (pt (dirsW a) (i : Int)).y
        · exact ⟨_, _, (widthV (L := L) g d hL).1, fun _ => wd⟩
        · exact ⟨0, false, (wideNo (L := L) (a := a) (fun c => d c.2) hL).2.2.2.1, fun e => by cases e⟩
      have hne : t = true → (!decide (n = leastW a)) = false := fun e => by rw [hw e]; simp
      simp only [ilen_li, List.length_map, ilt_eq, ile_eq, ieq_eq, show (0 : Int) ≤ (i : Int) by omega, show (i : Int) < ((dirsW a).length : Int) by omega, decide_true, Bool.and_self, cond_true, lg, gbind_eq, Option.bind_some, row_get0, row_get1, h0, decide_false, cond_false, wi, wj, ew]
      have tail : (bif t then (bif !decide (n = leastW a) then some false else laws_FnWidthsLeast_l18 L b a (leastW a, true) ((dirsW a).map row, true) m ((i + 1 : Nat) : Int)) else laws_FnWidthsLeast_l18 L b a (leastW a, true) ((dirsW a).map row, true) m ((i + 1 : Nat) : Int)) = some true := by
        cases t with
        | true => simp only [cond_true, hne rfl, cond_false, ih']
        | false => simp only [cond_false, ih']
      by_cases hi0 : (0 : Int) < (i : Int)
      · have ls := dirsW_less g hi0 (by omega)
        have lg1 := lget_row (out := dirsW a) (i := (i : Int) - 1) (by omega) (by omega)
        have q0 : ¬ ((pt (dirsW a) (i : Int)).x < (pt (dirsW a) ((i : Int) - 1)).x) := by unfold Less at ls; omega
        by_cases ce : (pt (dirsW a) ((i : Int) - 1)).x = (pt (dirsW a) (i : Int)).x
        · have q1 : ¬ ((pt (dirsW a) (i : Int)).y ≤ (pt (dirsW a) ((i : Int) - 1)).y) := by unfold Less at ls; omega
          by_cases c0 : (pt (dirsW a) (i : Int)).x = 0
          · simp only [eq_true c0, eq_true (h1 c0), hi0, decide_true, Bool.not_true, cond_true, cond_false, show (0 : Int) ≤ (i : Int) - 1 by omega, show (i : Int) - 1 < ((dirsW a).length : Int) by omega, Bool.and_self, lg1, Option.bind_some, row_get0, row_get1, q0, q1, eq_true ce, decide_false, tail]
          · simp only [c0, hi0, decide_true, Bool.not_true, cond_true, cond_false, show (0 : Int) ≤ (i : Int) - 1 by omega, show (i : Int) - 1 < ((dirsW a).length : Int) by omega, Bool.and_self, lg1, Option.bind_some, row_get0, row_get1, q0, q1, eq_true ce, decide_false, tail]
        · by_cases c0 : (pt (dirsW a) (i : Int)).x = 0
          · simp only [eq_true c0, eq_true (h1 c0), hi0, decide_true, Bool.not_true, cond_true, cond_false, show (0 : Int) ≤ (i : Int) - 1 by omega, show (i : Int) - 1 < ((dirsW a).length : Int) by omega, Bool.and_self, lg1, Option.bind_some, row_get0, row_get1, q0, ce, decide_false, tail]
          · simp only [c0, hi0, decide_true, Bool.not_true, cond_true, cond_false, show (0 : Int) ≤ (i : Int) - 1 by omega, show (i : Int) - 1 < ((dirsW a).length : Int) by omega, Bool.and_self, lg1, Option.bind_some, row_get0, row_get1, q0, ce, decide_false, tail]
      · by_cases c0 : (pt (dirsW a) (i : Int)).x = 0
        · simp only [eq_true c0, eq_true (h1 c0), hi0, decide_true, Bool.not_true, cond_true, cond_false, decide_false, tail]
        · simp only [c0, hi0, decide_true, Bool.not_true, cond_true, cond_false, decide_false, tail]
    · have wl : wr IntKind.i64 (isub (leastW a) 1) = leastW a - 1 := by rw [isub_eq, wr_id (by omega)]
      simp only [ilen_li, List.length_map, ilt_eq, ile_eq, show ¬ ((i : Int) < ((dirsW a).length : Int)) by omega, decide_false, cond_false, wl]
      by_cases c : leastW a ≤ 60
      · have c1 := (countV (L := L) (a := a) (b := leastW a) hL).1
        have c2 := (countV (L := L) (a := a) (b := leastW a - 1) hL).1
        rw [if_pos ⟨g, by omega, c⟩] at c1
        rw [if_pos ⟨g, by omega, by omega⟩] at c2
        have z : dirL a (leastW a - 1) = [] := by
          rcases Int.lt_or_le 1 (leastW a) with k | k
          · exact k3 _ (by omega) (by omega)
          · have e : leastW a - 1 = 0 := by omega
            rw [e]
            cases hd : dirL a 0 with
            | nil => rfl
            | cons p l =>
              exfalso
              have hm : p ∈ dirL a 0 := by rw [hd]; simp
              have := (dirL_mem g (by omega)).1 hm
              have := wdth_pos g this.1
              omega
        have el : ((dirL a (leastW a)).length : Int) = ((dirsW a).length : Int) := by unfold dirsW; rw [isort_len]
        rw [z] at c2
        simp only [c, decide_true, cond_true, c1, c2, gbind_eq, Option.bind_some, Bool.not_true, cond_false, el, ieq_eq]
        unfold laws_FnWidthsLeast_j19
        simp only [cond_false, ieq_eq, List.length_nil, Int.natCast_zero, decide_true, Bool.not_true, j4]
        try rfl
      · simp only [c, decide_false, cond_false, j4]
theorem dir10' : Dir 1 0 := by unfold Dir; decide
theorem dir01' : Dir 0 1 := by unfold Dir; decide
theorem dir11' : Dir 1 (-1) := by unfold Dir; decide
theorem told11 : ToldD ⟨1, -1⟩ := ⟨by decide, .inl (by decide)⟩
theorem widthsLeast_at (a b : List Int) (ha : By a) (hb : By b) (hL : 300000 < L) : laws_FnWidthsLeast L a b = some true := by
  have j4 := wl_j4 (L := L) hb hL
  unfold laws_FnWidthsLeast
  obtain ⟨r, hr⟩ := big_eq (L := L) (a := a) (b := b)
  simp only [hr, gbind_eq, Option.bind_some]
  cases r with
  | true => rfl
  | false =>
    obtain ⟨p, d1⟩ := drawLeast_dr (L := L) ha (by omega)
    simp only [cond_false, d1, Option.bind_some]
    by_cases g : Good_ p
    · obtain ⟨⟨a1, a2⟩, a3, a4, a5⟩ := leastV (L := L) g hL
      obtain ⟨b1, b2⟩ := inAllV (L := L) g hL
      have sd : spec_DirectionsOfWidth L p = some ((dirsW p).map row, true) := by
        unfold spec_DirectionsOfWidth
        rw [spec_pgGood_eq (by omega)]
        simp only [g, decide_true, Bool.not_true, cond_false, gbind_eq, Option.bind_some, wiLeast_eq g (show 200000 < L by omega)]
        rfl
      have dl := dirsW_len g
      have zr := zRowsV (L := L) (S := dirsW p) (by omega) (by omega)
      have w1 := (widthV (L := L) g dir10' hL).1
      have w2 := (widthV (L := L) g dir01' hL).1
      have w3 := (widthV (L := L) g dir11' hL).1
      have x1 := least_le g told10
      have x2 := least_le g told01
      have x3 := least_le g told11
      simp only at x1 x2 x3
      have k1 := (leastW_spec g).1
      have l18 := wl_l18 (L := L) g hb hL L 0 (by omega) (by omega)
      rw [show ((0 : Nat) : Int) = 0 from rfl] at l18
      simp only [a1, a2, a3, a4, a5, b1, b2, sd, Option.bind_some, beqb_eq, beq_self_eq_true, Bool.not_true, cond_false, ieq_eq, decide_true]
      unfold laws_FnWidthsLeast_j0 laws_FnWidthsLeast_j1 laws_FnWidthsLeast_j2 laws_FnWidthsLeast_j3
      simp only [cond_false, cond_true, gbind_eq, Option.bind_some, zr, beqb_eq, beq_self_eq_true, Bool.not_true, ieq_eq, decide_true, w1, w2, w3, ilt_eq, show ¬ (wdth p 1 0 < leastW p) by omega, decide_false]
      unfold laws_FnWidthsLeast_j15 laws_FnWidthsLeast_j16 laws_FnWidthsLeast_j17
      simp only [cond_false, ilt_eq, show ¬ (wdth p 0 1 < leastW p) by omega, show ¬ (wdth p 1 (-1) < leastW p) by omega, show ¬ (leastW p < 1) by omega, decide_false, Bool.not_true, beqb_eq, ieq_eq, beq_self_eq_true, ilen_li, List.length_map, show ¬ (((dirsW p).length : Int) < 1) by omega, l18]
    · obtain ⟨⟨a1, a2⟩, a3, ⟨a4, a5⟩, b1, b2⟩ := noV (L := L) g hL
      have sd : spec_DirectionsOfWidth L p = some ([], false) := by
        unfold spec_DirectionsOfWidth
        rw [spec_pgGood_eq (by omega)]
        simp only [g, decide_false, Bool.not_false, cond_true, gbind_eq, Option.bind_some]
      have zr := zRowsV (L := L) (S := []) (by simp) (by simp; omega)
      rw [List.map_nil] at zr
      simp only [a1, a2, a3, a4, a5, b1, b2, sd, Option.bind_some, beqb_eq, beq_self_eq_true, Bool.not_true, cond_false, ieq_eq, decide_true]
      unfold laws_FnWidthsLeast_j0 laws_FnWidthsLeast_j1 laws_FnWidthsLeast_j2 laws_FnWidthsLeast_j3
      simp only [cond_false, cond_true, gbind_eq, Option.bind_some, zr, beqb_eq, beq_self_eq_true, Bool.not_true, ieq_eq, decide_true, j4]
end
theorem widthsLeast_law (a b : List Int) (ha : By a) (hb : By b) : ∃ L, laws_FnWidthsLeast L a b = some true := ⟨300001, widthsLeast_at a b ha hb (Nat.lt_succ_self _)⟩
end Go.AM
