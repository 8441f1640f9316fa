import Derived.Test.YtokhceheoccfhaaAmM0
set_option linter.unusedVariables false
set_option linter.unusedSimpArgs false
set_option linter.unnecessarySimpa false
set_option linter.deprecated false
set_option linter.unusedSectionVars false
namespace Go.AM
set_option linter.unusedVariables false

def sm2 (t : List Pt) (i : Int) : Pt := ⟨(pt t (i + 1)).x + (pt t (i + 2)).x, (pt t (i + 1)).y + (pt t (i + 2)).y⟩
def md2 (t : List Pt) (i : Int) : Pt := ⟨(sm2 t i).x.tdiv 2, (sm2 t i).y.tdiv 2⟩
def Ev2 (t : List Pt) (i : Int) : Prop := (sm2 t i).x.tmod 2 = 0 ∧ (sm2 t i).y.tmod 2 = 0
instance (t : List Pt) (i : Int) : Decidable (Ev2 t i) := by unfold Ev2; infer_instance

theorem mid_step {L : Nat} {t : List Pt} (h : Tri t) {m : Nat} {i : Int} {w : List Pt} (h0 : 0 ≤ i) (h3 : i < 3) (hw : (w.length : Int) ≤ 10) :
    spec_MiddleThree_l0 L t (m + 1) i w = (if Ev2 t i then spec_MiddleThree_l0 L t m (i + 1) (w ++ [md2 t i]) else some ([], false)) ∧
    impl_MiddleThree_l0 L t (m + 1) i w = (if Ev2 t i then impl_MiddleThree_l0 L t m (i + 1) (w ++ [md2 t i]) else some ([], false)) := by
  have b := h.tb
  have hln := b.ln
  have hin := (vwl h.good).1
  have q1 := hin (i + 1); have q2 := hin (i + 2)
  have w1 : wr IntKind.i64 (iadd i 1) = i + 1 := by rw [iadd_eq, wr_s (by omega)]
  have w2 : wr IntKind.i64 (iadd i 2) = i + 2 := by rw [iadd_eq, wr_s (by omega)]
  have g1 : lget t (irem (i + 1) 3) = some (pt t (i + 1)) := by
    rw [irem_nn (by omega), lget_pt (Int.emod_nonneg _ (by omega)) (by rw [hln]; exact Int.emod_lt_of_pos _ (by omega))]
    rw [show (3 : Int) = (t.length : Int) from hln.symm, pt_mod]
  have g2 : lget t (irem (i + 2) 3) = some (pt t (i + 2)) := by
    rw [irem_nn (by omega), lget_pt (Int.emod_nonneg _ (by omega)) (by rw [hln]; exact Int.emod_lt_of_pos _ (by omega))]
    rw [show (3 : Int) = (t.length : Int) from hln.symm, pt_mod]
  rw [irem_eq] at g1 g2
  unfold In at q1 q2
  have wx : wr IntKind.i64 (iadd (pt t (i + 1)).x (pt t (i + 2)).x) = (sm2 t i).x := by rw [iadd_eq, wr_s (by omega)]; rfl
  have wy : wr IntKind.i64 (iadd (pt t (i + 1)).y (pt t (i + 2)).y) = (sm2 t i).y := by rw [iadd_eq, wr_s (by omega)]; rfl
  have bx : -80 ≤ (sm2 t i).x ∧ (sm2 t i).x ≤ 80 := by unfold sm2; simp only; omega
  have by' : -80 ≤ (sm2 t i).y ∧ (sm2 t i).y ≤ 80 := by unfold sm2; simp only; omega
  have dx : wr IntKind.i64 (iquo (sm2 t i).x 2) = (sm2 t i).x.tdiv 2 := by
    have := tdiv_bd (a := (sm2 t i).x) (b := 2) (A := 80) bx
    rw [iquo_eq, wr_s (by omega)]
  have dy : wr IntKind.i64 (iquo (sm2 t i).y 2) = (sm2 t i).y.tdiv 2 := by
    have := tdiv_bd (a := (sm2 t i).y) (b := 2) (A := 80) by'
    rw [iquo_eq, wr_s (by omega)]
  have hf : ∀ x : AV, fits (iadd (w.length : Int) (ilen [x])) 16 = true := fun x => by
    rw [ilen_eq, iadd_eq]; exact fits_s (by simp; omega)
  rw [spec_MiddleThree_l0, impl_MiddleThree_l0]
  unfold impl_Peg_plus
  simp only [ilen_mapep, hln, ilt_eq, h3, decide_true, cond_true, ieq_eq, show ¬ (3 : Int) = 0 by omega, show ¬ (2 : Int) = 0 by omega, decide_false, cond_false, w1, w2, g1, g2, impl_at_eq b.nn (show (t.length : Int) ≤ 1000000000 by omega), gbind_eq, Option.bind_some, wx, wy, irem_eq, dx, dy, hf, lcat_eq]
  by_cases c1 : (sm2 t i).x.tmod 2 = 0
  · by_cases c2 : (sm2 t i).y.tmod 2 = 0
    · have he : Ev2 t i := ⟨c1, c2⟩
      simp only [c1, c2, decide_true, Bool.not_true, cond_false, if_pos he]
      exact ⟨rfl, rfl⟩
    · have he : ¬ Ev2 t i := fun e => c2 e.2
      simp only [c1, c2, decide_true, decide_false, Bool.not_true, Bool.not_false, cond_false, cond_true, if_neg he, and_self]
  · have he : ¬ Ev2 t i := fun e => c1 e.1
    simp only [c1, decide_false, Bool.not_false, cond_true, if_neg he, and_self]

theorem middle_eq {L : Nat} {t : List Pt} (hL : 20 < L) : ∃ r, spec_MiddleThree L t = some r ∧ impl_MiddleThree L t = some r ∧ (r.1.length : Int) ≤ 3 ∧ (r.2 = true → Tri t ∧ (Ev2 t 0 ∧ Ev2 t 1 ∧ Ev2 t 2) ∧ r.1 = [md2 t 0, md2 t 1, md2 t 2]) := by
  obtain ⟨e1, e2⟩ := threes_eq (L := L) (t := t) hL
  unfold spec_MiddleThree impl_MiddleThree
  simp only [e1, e2, gbind_eq, Option.bind_some]
  by_cases h : Tri t
  · have b := h.tb
    have hln := b.ln
    obtain ⟨m, rfl⟩ : ∃ m, L = m + 4 := ⟨L - 4, by omega⟩
    obtain ⟨a1, a2⟩ := mid_step (L := m + 4) h (m := m + 3) (i := 0) (w := []) (by omega) (by omega) (by simp)
    obtain ⟨b1, b2⟩ := mid_step (L := m + 4) h (m := m + 2) (i := 1) (w := [md2 t 0]) (by omega) (by omega) (by simp)
    obtain ⟨c1, c2⟩ := mid_step (L := m + 4) h (m := m + 1) (i := 2) (w := [md2 t 0, md2 t 1]) (by omega) (by omega) (by simp)
    have d1 : spec_MiddleThree_l0 (m + 4) t (m + 1) 3 [md2 t 0, md2 t 1, md2 t 2] = some ([md2 t 0, md2 t 1, md2 t 2], true) := by
      rw [spec_MiddleThree_l0]
      simp only [ilen_mapep, hln, ilt_eq, Int.lt_irrefl, decide_false, cond_false]
    have d2 : impl_MiddleThree_l0 (m + 4) t (m + 1) 3 [md2 t 0, md2 t 1, md2 t 2] = some ([md2 t 0, md2 t 1, md2 t 2], true) := by
      rw [impl_MiddleThree_l0]
      simp only [ilen_mapep, hln, ilt_eq, Int.lt_irrefl, decide_false, cond_false]
    simp only [h, decide_true, Bool.not_true, cond_false]
    by_cases v0 : Ev2 t 0
    · by_cases v1 : Ev2 t 1
      · by_cases v2 : Ev2 t 2
        · refine ⟨([md2 t 0, md2 t 1, md2 t 2], true), ?_, ?_, by simp, fun _ => ⟨trivial, ⟨v0, v1, v2⟩, rfl⟩⟩
          · rw [show m + 4 = (m + 3) + 1 by omega] at a1 ⊢
            rw [a1, if_pos v0, show m + 3 + 1 = m + 4 by omega, show (0 : Int) + 1 = 1 by omega, List.nil_append, b1, if_pos v1, show (1 : Int) + 1 = 2 by omega, List.singleton_append, c1, if_pos v2]
            exact d1
          · rw [show m + 4 = (m + 3) + 1 by omega] at a2 ⊢
            rw [a2, if_pos v0, show m + 3 + 1 = m + 4 by omega, show (0 : Int) + 1 = 1 by omega, List.nil_append, b2, if_pos v1, show (1 : Int) + 1 = 2 by omega, List.singleton_append, c2, if_pos v2]
            exact d2
        · refine ⟨([], false), ?_, ?_, by simp, fun e => by cases e⟩
          · rw [show m + 4 = (m + 3) + 1 by omega] at a1 ⊢
            rw [a1, if_pos v0, show m + 3 + 1 = m + 4 by omega, show (0 : Int) + 1 = 1 by omega, List.nil_append, b1, if_pos v1, show (1 : Int) + 1 = 2 by omega, List.singleton_append, c1, if_neg v2]
          · rw [show m + 4 = (m + 3) + 1 by omega] at a2 ⊢
            rw [a2, if_pos v0, show m + 3 + 1 = m + 4 by omega, show (0 : Int) + 1 = 1 by omega, List.nil_append, b2, if_pos v1, show (1 : Int) + 1 = 2 by omega, List.singleton_append, c2, if_neg v2]
      · refine ⟨([], false), ?_, ?_, by simp, fun e => by cases e⟩
        · rw [show m + 4 = (m + 3) + 1 by omega] at a1 ⊢
          rw [a1, if_pos v0, show m + 3 + 1 = m + 4 by omega, show (0 : Int) + 1 = 1 by omega, List.nil_append, b1, if_neg v1]
        · rw [show m + 4 = (m + 3) + 1 by omega] at a2 ⊢
          rw [a2, if_pos v0, show m + 3 + 1 = m + 4 by omega, show (0 : Int) + 1 = 1 by omega, List.nil_append, b2, if_neg v1]
    · refine ⟨([], false), ?_, ?_, by simp, fun e => by cases e⟩
      · rw [show m + 4 = (m + 3) + 1 by omega] at a1 ⊢
        rw [a1, if_neg v0]
      · rw [show m + 4 = (m + 3) + 1 by omega] at a2 ⊢
        rw [a2, if_neg v0]
  · simp only [h, decide_false, Bool.not_false, cond_true]
    exact ⟨([], false), rfl, rfl, by simp, fun e => by cases e⟩

/-- the triangle of the middles is a quarter -/
theorem middle_area {L : Nat} {t : List Pt} (h : Tri t) (he : Ev2 t 0 ∧ Ev2 t 1 ∧ Ev2 t 2) (hL : 20 < L) : ∃ q, impl_TwiceArea L [md2 t 0, md2 t 1, md2 t 2] = some (q, true) ∧ 4 * q = area t := by
  have b := h.tb
  have hz := tri_ne h
  have hA := tri_area h.len
  have hin := (vwl h.good).1
  have m3 : pt t (1 + 2) = pt t 0 := by rw [show (1 : Int) + 2 = 0 + (t.length : Int) by have := b.ln; omega, pt_per]
  have m4 : pt t (2 + 1) = pt t 0 := by rw [show (2 : Int) + 1 = 0 + (t.length : Int) by have := b.ln; omega, pt_per]
  have m5 : pt t (2 + 2) = pt t 1 := by rw [show (2 : Int) + 2 = 1 + (t.length : Int) by have := b.ln; omega, pt_per]
  have dbl : ∀ i, Ev2 t i → (md2 t i).x * 2 = (sm2 t i).x ∧ (md2 t i).y * 2 = (sm2 t i).y := fun i hi =>
    ⟨Int.tdiv_mul_cancel (Int.dvd_of_tmod_eq_zero hi.1), Int.tdiv_mul_cancel (Int.dvd_of_tmod_eq_zero hi.2)⟩
  have inn : ∀ i, Ev2 t i → In (md2 t i) := fun i hi => by
    have q1 := hin (i + 1); have q2 := hin (i + 2)
    obtain ⟨d1, d2⟩ := dbl i hi
    unfold In at q1 q2 ⊢
    unfold sm2 at d1 d2
    simp only at d1 d2
    omega
  obtain ⟨x0, y0⟩ := dbl 0 he.1
  obtain ⟨x1, y1⟩ := dbl 1 he.2.1
  obtain ⟨x2, y2⟩ := dbl 2 he.2.2
  unfold sm2 at x0 y0 x1 y1 x2 y2
  rw [m3] at x1 y1
  rw [m4, m5] at x2 y2
  rw [show (0 : Int) + 1 = 1 by omega, show (0 : Int) + 2 = 2 by omega] at x0 y0
  rw [show (1 : Int) + 1 = 2 by omega] at x1 y1
  simp only at x0 y0 x1 y1 x2 y2
  have hq : 4 * turn (md2 t 0) (md2 t 1) (md2 t 2) = area t := by
    rw [hA]
    have : 4 * turn (md2 t 0) (md2 t 1) (md2 t 2) = ((md2 t 1).x * 2 - (md2 t 0).x * 2) * ((md2 t 2).y * 2 - (md2 t 0).y * 2) - ((md2 t 1).y * 2 - (md2 t 0).y * 2) * ((md2 t 2).x * 2 - (md2 t 0).x * 2) := by unfold turn; grind
    rw [this, x0, y0, x1, y1, x2, y2]
    unfold turn; grind
  exact ⟨_, twice_tri (inn 0 he.1) (inn 1 he.2.1) (inn 2 he.2.2) (fun e => hz (by rw [← hq, e]; rfl)) hL, hq⟩
end Go.AM

namespace Go.AM
set_option linter.unusedVariables false

def sq2 (p : Pt) : Int := p.x * p.x + p.y * p.y
/-- the middle of the circle, times twice the double area -/
def ccx (a b c : Pt) : Int := sq2 a * (b.y - c.y) + sq2 b * (c.y - a.y) + sq2 c * (a.y - b.y)
def ccy (a b c : Pt) : Int := -(sq2 a * (b.x - c.x) + sq2 b * (c.x - a.x) + sq2 c * (a.x - b.x))

noncomputable def cgc (X Y D : Int) : Int := (Nat.gcd (Nat.gcd X.natAbs Y.natAbs) D.natAbs : Int)

theorem cgc_dvd {X Y D : Int} : cgc X Y D ∣ X ∧ cgc X Y D ∣ Y ∧ cgc X Y D ∣ D := by
  unfold cgc
  have h1 : Nat.gcd (Nat.gcd X.natAbs Y.natAbs) D.natAbs ∣ Nat.gcd X.natAbs Y.natAbs := Nat.gcd_dvd_left _ _
  exact ⟨Int.ofNat_dvd_left.2 (Nat.dvd_trans h1 (Nat.gcd_dvd_left _ _)), Int.ofNat_dvd_left.2 (Nat.dvd_trans h1 (Nat.gcd_dvd_right _ _)), Int.ofNat_dvd_left.2 (Nat.gcd_dvd_right _ _)⟩

theorem cgc_pos {X Y D : Int} (h : D ≠ 0) : 0 < cgc X Y D := by
  unfold cgc
  have := Nat.gcd_pos_of_pos_right (Nat.gcd X.natAbs Y.natAbs) (show 0 < D.natAbs by omega)
  omega

theorem cgc_le {X Y D : Int} (h : D ≠ 0) : cgc X Y D ≤ (D.natAbs : Int) := by
  unfold cgc
  have := Nat.gcd_le_right (Nat.gcd X.natAbs Y.natAbs) (show 0 < D.natAbs by omega)
  omega

theorem gcds {L : Nat} {X Y D : Int} (hX : -1000000000 ≤ X ∧ X ≤ 1000000000) (hY : -4000000 ≤ Y ∧ Y ≤ 4000000) (hD : -30000 ≤ D ∧ D ≤ 30000) (hD0 : D ≠ 0) (hL : 10000000 < L) :
    (∃ g1, spec_pgCommon L X Y = some g1 ∧ spec_pgCommon L g1 D = some (cgc X Y D)) ∧ (∃ g1, impl_divisor L X Y = some g1 ∧ impl_divisor L g1 D = some (cgc X Y D)) := by
  obtain ⟨a1, a2⟩ := gcd_both (L := L) hX (show -1000000000 ≤ Y ∧ Y ≤ 1000000000 by omega) (by omega)
  have hb : (-1000000000 : Int) ≤ (Nat.gcd X.natAbs Y.natAbs : Int) ∧ (Nat.gcd X.natAbs Y.natAbs : Int) ≤ 1000000000 := by
    by_cases h : Y = 0
    · subst h; simp; omega
    · have := Nat.gcd_le_right X.natAbs (show 0 < Y.natAbs by omega)
      omega
  obtain ⟨b1, b2⟩ := gcd_both (L := L) hb (show -1000000000 ≤ D ∧ D ≤ 1000000000 by omega) (by omega)
  have e : ((Nat.gcd ((Nat.gcd X.natAbs Y.natAbs : Nat) : Int).natAbs D.natAbs : Nat) : Int) = cgc X Y D := by unfold cgc; simp
  rw [e] at b1 b2
  exact ⟨⟨_, a1, b1⟩, ⟨_, a2, b2⟩⟩

theorem cgc_neg (X Y D : Int) : cgc (-X) (-Y) (-D) = cgc X Y D := by unfold cgc; simp

theorem circ_spec {L : Nat} {t : List Pt} (h : Tri t) (hL : 10000000 < L) : ∃ X Y D d : Int, X = ccx (pt t 0) (pt t 1) (pt t 2) ∧ Y = ccy (pt t 0) (pt t 1) (pt t 2) ∧ D = 2 * area t ∧ d = cgc X Y D * sg D ∧
    (-4000000 ≤ X ∧ X ≤ 4000000) ∧ (-4000000 ≤ Y ∧ Y ≤ 4000000) ∧ spec_CircleOfThree L t = some (X.tdiv d, Y.tdiv d, D.tdiv d, true) := by
  have b := h.tb
  have hz := tri_ne h
  have hAr := tri_area h.len
  have i0 := b.i0; have i1 := b.i1; have i2 := b.i2
  unfold In at i0 i1 i2
  unfold spec_CircleOfThree
  simp only [(threes_eq (L := L) (t := t) (by omega)).1, h, decide_true, Bool.not_true, cond_false, b.l0, b.l1, b.l2, gbind_eq, Option.bind_some]
  have hcx : ccx (pt t 0) (pt t 1) (pt t 2) = ((pt t 2).y - (pt t 0).y) * (((pt t 1).x - (pt t 0).x) * ((pt t 1).x - (pt t 0).x) + ((pt t 1).y - (pt t 0).y) * ((pt t 1).y - (pt t 0).y)) - ((pt t 1).y - (pt t 0).y) * (((pt t 2).x - (pt t 0).x) * ((pt t 2).x - (pt t 0).x) + ((pt t 2).y - (pt t 0).y) * ((pt t 2).y - (pt t 0).y)) + (pt t 0).x * (2 * area t) := by
    rw [hAr]; unfold ccx sq2 turn; grind
  have hcy : ccy (pt t 0) (pt t 1) (pt t 2) = ((pt t 1).x - (pt t 0).x) * (((pt t 2).x - (pt t 0).x) * ((pt t 2).x - (pt t 0).x) + ((pt t 2).y - (pt t 0).y) * ((pt t 2).y - (pt t 0).y)) - ((pt t 2).x - (pt t 0).x) * (((pt t 1).x - (pt t 0).x) * ((pt t 1).x - (pt t 0).x) + ((pt t 1).y - (pt t 0).y) * ((pt t 1).y - (pt t 0).y)) + (pt t 0).y * (2 * area t) := by
    rw [hAr]; unfold ccy sq2 turn; grind
  have hA : area t = ((pt t 1).x - (pt t 0).x) * ((pt t 2).y - (pt t 0).y) - ((pt t 1).y - (pt t 0).y) * ((pt t 2).x - (pt t 0).x) := hAr
  have ax := i0.1; have ay := i0.2
  have w1 : wr IntKind.i64 (isub (pt t 1).x (pt t 0).x) = (pt t 1).x - (pt t 0).x := by rw [isub_eq, wr_s (by omega)]
  have w2 : wr IntKind.i64 (isub (pt t 1).y (pt t 0).y) = (pt t 1).y - (pt t 0).y := by rw [isub_eq, wr_s (by omega)]
  have w3 : wr IntKind.i64 (isub (pt t 2).x (pt t 0).x) = (pt t 2).x - (pt t 0).x := by rw [isub_eq, wr_s (by omega)]
  have w4 : wr IntKind.i64 (isub (pt t 2).y (pt t 0).y) = (pt t 2).y - (pt t 0).y := by rw [isub_eq, wr_s (by omega)]
  simp only [w1, w2, w3, w4]
  have bb1 : -80 ≤ (pt t 1).x - (pt t 0).x ∧ (pt t 1).x - (pt t 0).x ≤ 80 := by omega
  have bb2 : -80 ≤ (pt t 1).y - (pt t 0).y ∧ (pt t 1).y - (pt t 0).y ≤ 80 := by omega
  have bb3 : -80 ≤ (pt t 2).x - (pt t 0).x ∧ (pt t 2).x - (pt t 0).x ≤ 80 := by omega
  have bb4 : -80 ≤ (pt t 2).y - (pt t 0).y ∧ (pt t 2).y - (pt t 0).y ≤ 80 := by omega
  clear w1 w2 w3 w4 i0 i1 i2 hAr
  generalize (pt t 1).x - (pt t 0).x = bx at *
  generalize (pt t 1).y - (pt t 0).y = by' at *
  generalize (pt t 2).x - (pt t 0).x = cx at *
  generalize (pt t 2).y - (pt t 0).y = cy at *
  generalize (pt t 0).x = ox at *
  generalize (pt t 0).y = oy at *
  generalize area t = A at *
  have p1 := mul_bd (x := bx) (y := cy) (A := 80) (B := 80) bb1 bb4
  have p2 := mul_bd (x := by') (y := cx) (A := 80) (B := 80) bb2 bb3
  have s1 := mul_bd (x := bx) (y := bx) (A := 80) (B := 80) bb1 bb1
  have s2 := mul_bd (x := by') (y := by') (A := 80) (B := 80) bb2 bb2
  have s3 := mul_bd (x := cx) (y := cx) (A := 80) (B := 80) bb3 bb3
  have s4 := mul_bd (x := cy) (y := cy) (A := 80) (B := 80) bb4 bb4
  have eA : wr IntKind.i64 (isub (wr IntKind.i64 (imul bx cy)) (wr IntKind.i64 (imul by' cx))) = A := by
    rw [imul_eq, imul_eq, isub_eq, wr_s (i := bx * cy) (by omega), wr_s (i := by' * cx) (by omega), wr_s (by omega), hA]
  have eP : wr IntKind.i64 (iadd (wr IntKind.i64 (imul bx bx)) (wr IntKind.i64 (imul by' by'))) = bx * bx + by' * by' := by
    rw [imul_eq, imul_eq, iadd_eq, wr_s (i := bx * bx) (by omega), wr_s (i := by' * by') (by omega), wr_s (by omega)]
  have eQ : wr IntKind.i64 (iadd (wr IntKind.i64 (imul cx cx)) (wr IntKind.i64 (imul cy cy))) = cx * cx + cy * cy := by
    rw [imul_eq, imul_eq, iadd_eq, wr_s (i := cx * cx) (by omega), wr_s (i := cy * cy) (by omega), wr_s (by omega)]
  have bA : -12800 ≤ A ∧ A ≤ 12800 := by omega
  have eD : wr IntKind.i64 (imul 2 A) = 2 * A := by rw [imul_eq, wr_s (by omega)]
  simp only [eA, eP, eQ, eD]
  have bP : -12800 ≤ bx * bx + by' * by' ∧ bx * bx + by' * by' ≤ 12800 := by omega
  have bQ : -12800 ≤ cx * cx + cy * cy ∧ cx * cx + cy * cy ≤ 12800 := by omega
  clear eP eQ eA s1 s2 s3 s4 p1 p2 hA
  generalize bx * bx + by' * by' = P at *
  generalize cx * cx + cy * cy = Q at *
  have m1 := mul_bd (x := cy) (y := P) (A := 80) (B := 12800) bb4 bP
  have m2 := mul_bd (x := by') (y := Q) (A := 80) (B := 12800) bb2 bQ
  have m3 := mul_bd (x := ox) (y := 2 * A) (A := 40) (B := 25600) ax (by omega)
  have m4 := mul_bd (x := bx) (y := Q) (A := 80) (B := 12800) bb1 bQ
  have m5 := mul_bd (x := cx) (y := P) (A := 80) (B := 12800) bb3 bP
  have m6 := mul_bd (x := oy) (y := 2 * A) (A := 40) (B := 25600) ay (by omega)
  have eX : wr IntKind.i64 (iadd (wr IntKind.i64 (isub (wr IntKind.i64 (imul cy P)) (wr IntKind.i64 (imul by' Q)))) (wr IntKind.i64 (imul ox (2 * A)))) = cy * P - by' * Q + ox * (2 * A) := by
    rw [imul_eq, imul_eq, imul_eq, isub_eq, iadd_eq, wr_id (n := cy * P) (by omega), wr_id (n := by' * Q) (by omega), wr_id (n := ox * (2 * A)) (by omega), wr_id (n := cy * P - by' * Q) (by omega), wr_id (by omega)]
  have eY : wr IntKind.i64 (iadd (wr IntKind.i64 (isub (wr IntKind.i64 (imul bx Q)) (wr IntKind.i64 (imul cx P)))) (wr IntKind.i64 (imul oy (2 * A)))) = bx * Q - cx * P + oy * (2 * A) := by
    rw [imul_eq, imul_eq, imul_eq, isub_eq, iadd_eq, wr_id (n := bx * Q) (by omega), wr_id (n := cx * P) (by omega), wr_id (n := oy * (2 * A)) (by omega), wr_id (n := bx * Q - cx * P) (by omega), wr_id (by omega)]
  simp only [eX, eY]
  have bX : -4000000 ≤ cy * P - by' * Q + ox * (2 * A) ∧ cy * P - by' * Q + ox * (2 * A) ≤ 4000000 := by omega
  have bY : -4000000 ≤ bx * Q - cx * P + oy * (2 * A) ∧ bx * Q - cx * P + oy * (2 * A) ≤ 4000000 := by omega
  rw [hcx, hcy]
  clear m1 m2 m3 m4 m5 m6 eX eY hcx hcy
  generalize cy * P - by' * Q + ox * (2 * A) = X at *
  generalize bx * Q - cx * P + oy * (2 * A) = Y at *
  refine ⟨X, Y, 2 * A, cgc X Y (2 * A) * sg (2 * A), rfl, rfl, rfl, rfl, bX, bY, ?_⟩
  have hD0 : 2 * A ≠ 0 := by omega
  have hgp := cgc_pos (X := X) (Y := Y) hD0
  have hgl := cgc_le (X := X) (Y := Y) hD0
  have nX : wr IntKind.i64 (isub 0 X) = -X := by rw [isub_eq, wr_id (by omega)]; omega
  have nY : wr IntKind.i64 (isub 0 Y) = -Y := by rw [isub_eq, wr_id (by omega)]; omega
  have nD : wr IntKind.i64 (isub 0 (2 * A)) = -(2 * A) := by rw [isub_eq, wr_id (by omega)]; omega
  have qw : ∀ x g : Int, (-4000000 ≤ x ∧ x ≤ 4000000) → wr IntKind.i64 (iquo x g) = x.tdiv g := fun x g hx => by
    have := tdiv_bd (a := x) (b := g) (A := 4000000) hx
    rw [iquo_eq, wr_id (by omega)]
  by_cases hneg : 2 * A < 0
  · obtain ⟨⟨g1, k1, k2⟩, _⟩ := gcds (L := L) (X := -X) (Y := -Y) (D := -(2 * A)) (by omega) (by omega) (by omega) (by omega) hL
    rw [cgc_neg] at k2
    have hs : sg (2 * A) = -1 := by unfold sg; rw [if_neg (by omega), if_pos hneg]
    simp only [ilt_eq, hneg, decide_true, cond_true, nX, nY, nD, k1, k2, Option.bind_some, ieq_eq, show ¬ cgc X Y (2 * A) = 0 by omega, decide_false, cond_false, qw _ _ (show -4000000 ≤ -X ∧ -X ≤ 4000000 by omega), qw _ _ (show -4000000 ≤ -Y ∧ -Y ≤ 4000000 by omega), qw _ _ (show -4000000 ≤ -(2 * A) ∧ -(2 * A) ≤ 4000000 by omega), hs]
    rw [show cgc X Y (2 * A) * -1 = -cgc X Y (2 * A) by omega, Int.tdiv_neg, Int.tdiv_neg, Int.tdiv_neg, Int.neg_tdiv, Int.neg_tdiv, Int.neg_tdiv]
  · obtain ⟨⟨g1, k1, k2⟩, _⟩ := gcds (L := L) (X := X) (Y := Y) (D := 2 * A) (by omega) (by omega) (by omega) (by omega) hL
    have hs : sg (2 * A) = 1 := by unfold sg; rw [if_pos (by omega)]
    simp only [ilt_eq, hneg, decide_false, cond_false, k1, k2, Option.bind_some, ieq_eq, show ¬ cgc X Y (2 * A) = 0 by omega, qw _ _ (show -4000000 ≤ X ∧ X ≤ 4000000 by omega), qw _ _ (show -4000000 ≤ Y ∧ Y ≤ 4000000 by omega), qw _ _ (show -4000000 ≤ 2 * A ∧ 2 * A ≤ 4000000 by omega), hs, Int.mul_one]
end Go.AM

namespace Go.AM
set_option linter.unusedVariables false

theorem pt_cyc {t : List Pt} (h : t.length = 3) : pt t 3 = pt t 0 ∧ pt t 4 = pt t 1 := by
  have e : (t.length : Int) = 3 := by omega
  have a := pt_mod (a := t) (i := 3)
  have b := pt_mod (a := t) (i := 4)
  rw [e] at a b
  exact ⟨a.symm, b.symm⟩

theorem sg_cases {D : Int} (h : D ≠ 0) : sg D = 1 ∨ sg D = -1 := by
  unfold sg
  by_cases h1 : 0 < D
  · left; rw [if_pos h1]
  · right; rw [if_neg h1, if_pos (by omega)]

theorem sq2_bd {p : Pt} (h : In p) : 0 ≤ sq2 p ∧ sq2 p ≤ 3200 := by
  unfold In at h
  have a := mul_self_nn p.x
  have b := mul_self_nn p.y
  have c := mul_bd (x := p.x) (y := p.x) (A := 40) (B := 40) (by omega) (by omega)
  have d := mul_bd (x := p.y) (y := p.y) (A := 40) (B := 40) (by omega) (by omega)
  unfold sq2; omega

theorem circ_step {L : Nat} {t : List Pt} (h : Tri t) {r1 : Int} {m : Nat} {X Y i : Int} (h0 : 0 ≤ i) (h3 : i < 3) (hX : -4000000 ≤ X ∧ X ≤ 4000000) (hY : -4000000 ≤ Y ∧ Y ≤ 4000000) :
    impl_CircleOfThree_l0 L t r1 (m + 1) X Y i = impl_CircleOfThree_l0 L t r1 m (X + sq2 (pt t i) * ((pt t (i + 1)).y - (pt t (i + 2)).y)) (Y - sq2 (pt t i) * ((pt t (i + 1)).x - (pt t (i + 2)).x)) (i + 1) := by
  have b := h.tb
  have hln := b.ln
  have hin := (vwl h.good).1
  have q0 := hin i; have q1 := hin (i + 1); have q2 := hin (i + 2)
  have s := sq2_bd q0
  have w1 : wr IntKind.i64 (iadd i 1) = i + 1 := by rw [iadd_eq, wr_s (by omega)]
  have w2 : wr IntKind.i64 (iadd i 2) = i + 2 := by rw [iadd_eq, wr_s (by omega)]
  have hs : impl_Peg_square L (pt t i).x (pt t i).y = some (sq2 (pt t i)) := by
    unfold In at q0
    have a := mul_self_nn (pt t i).x
    have b := mul_self_nn (pt t i).y
    unfold sq2 at s
    unfold impl_Peg_square
    rw [imul_eq, imul_eq, iadd_eq, wr_s (i := (pt t i).x * (pt t i).x) (by omega), wr_s (i := (pt t i).y * (pt t i).y) (by omega), wr_s (by omega)]
    rfl
  rw [impl_CircleOfThree_l0]
  simp only [ilen_mapep, hln, ilt_eq, h3, decide_true, cond_true, lget_pt h0 (show i < (t.length : Int) by omega), gbind_eq, Option.bind_some, w1, w2, impl_at_eq b.nn (show (t.length : Int) ≤ 1000000000 by omega), less_eq (b.nr (i + 1)) (b.nr (i + 2)), hs]
  unfold In at q1 q2
  have m1 := mul_bd (x := sq2 (pt t i)) (y := (pt t (i + 1)).y - (pt t (i + 2)).y) (A := 3200) (B := 80) (by omega) (by omega)
  have m2 := mul_bd (x := sq2 (pt t i)) (y := (pt t (i + 1)).x - (pt t (i + 2)).x) (A := 3200) (B := 80) (by omega) (by omega)
  have e1 : wr IntKind.i64 (iadd X (wr IntKind.i64 (imul (sq2 (pt t i)) ((pt t (i + 1)).y - (pt t (i + 2)).y)))) = X + sq2 (pt t i) * ((pt t (i + 1)).y - (pt t (i + 2)).y) := by
    rw [imul_eq, iadd_eq, wr_id (n := sq2 (pt t i) * ((pt t (i + 1)).y - (pt t (i + 2)).y)) (by omega), wr_id (by omega)]
  have e2 : wr IntKind.i64 (isub Y (wr IntKind.i64 (imul (sq2 (pt t i)) ((pt t (i + 1)).x - (pt t (i + 2)).x)))) = Y - sq2 (pt t i) * ((pt t (i + 1)).x - (pt t (i + 2)).x) := by
    rw [imul_eq, isub_eq, wr_id (n := sq2 (pt t i) * ((pt t (i + 1)).x - (pt t (i + 2)).x)) (by omega), wr_id (by omega)]
  rw [e1, e2]

theorem circ_impl {L : Nat} {t : List Pt} (h : Tri t) (hL : 10000000 < L) {X Y D d : Int} (eX : X = ccx (pt t 0) (pt t 1) (pt t 2)) (eY : Y = ccy (pt t 0) (pt t 1) (pt t 2)) (eD : D = 2 * area t) (ed : d = cgc X Y D * sg D)
    (bX : -4000000 ≤ X ∧ X ≤ 4000000) (bY : -4000000 ≤ Y ∧ Y ≤ 4000000) : impl_CircleOfThree L t = some (X.tdiv d, Y.tdiv d, D.tdiv d, true) := by
  have b := h.tb
  have hln := b.ln
  have hz := tri_ne h
  have hA := area_in h
  obtain ⟨c3, c4⟩ := pt_cyc h.len
  have i0 := b.i0; have i1 := b.i1; have i2 := b.i2
  have s0 := sq2_bd i0; have s1 := sq2_bd i1; have s2 := sq2_bd i2
  unfold In at i0 i1 i2
  unfold impl_CircleOfThree
  simp only [(threes_eq (L := L) (t := t) (by omega)).2, h, decide_true, Bool.not_true, cond_false, gbind_eq, Option.bind_some, impl_twice_eq (L := L) b.nn (show (t.length : Int) ≤ 1000 by omega) (show (t.length : Int) < L by omega) b.nr]
  have hD : wr IntKind.i64 (imul 2 (area t)) = D := by rw [imul_eq, wr_s (by omega), eD]
  have D0 : D ≠ 0 := by omega
  have gp := cgc_pos (X := X) (Y := Y) D0
  have gl := cgc_le (X := X) (Y := Y) D0
  have hd : -30000 ≤ d ∧ d ≤ 30000 ∧ d ≠ 0 := by
    rcases sg_cases D0 with e | e <;> rw [ed, e] <;> omega
  obtain ⟨_, g1, k1, k2⟩ := gcds (L := L) (X := X) (Y := Y) (D := D) (by omega) bY (by omega) D0 hL
  have m0 := mul_bd (x := sq2 (pt t 0)) (y := (pt t 1).y - (pt t 2).y) (A := 3200) (B := 80) (by omega) (by omega)
  have m1 := mul_bd (x := sq2 (pt t 1)) (y := (pt t 2).y - (pt t 0).y) (A := 3200) (B := 80) (by omega) (by omega)
  have n0 := mul_bd (x := sq2 (pt t 0)) (y := (pt t 1).x - (pt t 2).x) (A := 3200) (B := 80) (by omega) (by omega)
  have n1 := mul_bd (x := sq2 (pt t 1)) (y := (pt t 2).x - (pt t 0).x) (A := 3200) (B := 80) (by omega) (by omega)
  obtain ⟨n, rfl⟩ : ∃ n, L = n + 4 := ⟨L - 4, by omega⟩
  rw [circ_step (m := n + 3) h (by omega) (by omega) (by omega) (by omega)]
  simp only [Int.zero_add, show (0 : Int) - sq2 (pt t 0) * ((pt t 1).x - (pt t 2).x) = -(sq2 (pt t 0) * ((pt t 1).x - (pt t 2).x)) by omega]
  rw [circ_step (m := n + 2) h (by omega) (by omega) (by omega) (by omega)]
  simp only [show (1 : Int) + 1 = 2 from rfl, show (1 : Int) + 2 = 3 from rfl, c3]
  rw [circ_step (m := n + 1) h (by omega) (by omega) (by omega) (by omega)]
  simp only [show (2 : Int) + 1 = 3 from rfl, show (2 : Int) + 2 = 4 from rfl, c3, c4]
  rw [show sq2 (pt t 0) * ((pt t 1).y - (pt t 2).y) + sq2 (pt t 1) * ((pt t 2).y - (pt t 0).y) + sq2 (pt t 2) * ((pt t 0).y - (pt t 1).y) = X by rw [eX]; rfl]
  rw [show -(sq2 (pt t 0) * ((pt t 1).x - (pt t 2).x)) - sq2 (pt t 1) * ((pt t 2).x - (pt t 0).x) - sq2 (pt t 2) * ((pt t 0).x - (pt t 1).x) = Y by rw [eY]; unfold ccy; omega]
  rw [impl_CircleOfThree_l0]
  have wd : wr IntKind.i64 (imul (cgc X Y D) (sg D)) = d := by rw [imul_eq, ← ed, wr_s (by omega)]
  have qw : ∀ x g : Int, (-4000000 ≤ x ∧ x ≤ 4000000) → wr IntKind.i64 (iquo x g) = x.tdiv g := fun x g hx => by
    have := tdiv_bd (a := x) (b := g) (A := 4000000) hx
    rw [iquo_eq, wr_id (by omega)]
  simp only [ilen_mapep, hln, ilt_eq, Int.lt_irrefl, decide_false, cond_false, hD, gbind_eq, k1, k2, Option.bind_some, impl_sign_eq, wd, ieq_eq, hd.2.2, qw X d bX, qw Y d bY, qw D d (by omega)]

theorem circ_eq {L : Nat} {t : List Pt} (hL : 10000000 < L) : ∃ r, spec_CircleOfThree L t = some r ∧ impl_CircleOfThree L t = some r ∧ (¬ Tri t → r = (0, 0, 0, false)) ∧
    (Tri t → ∃ X Y D d : Int, X = ccx (pt t 0) (pt t 1) (pt t 2) ∧ Y = ccy (pt t 0) (pt t 1) (pt t 2) ∧ D = 2 * area t ∧ d = cgc X Y D * sg D ∧ (-4000000 ≤ X ∧ X ≤ 4000000) ∧ (-4000000 ≤ Y ∧ Y ≤ 4000000) ∧ r = (X.tdiv d, Y.tdiv d, D.tdiv d, true)) := by
  by_cases h : Tri t
  · obtain ⟨X, Y, D, d, eX, eY, eD, ed, bX, bY, e⟩ := circ_spec (L := L) h hL
    exact ⟨_, e, circ_impl h hL eX eY eD ed bX bY, fun q => absurd h q, fun _ => ⟨X, Y, D, d, eX, eY, eD, ed, bX, bY, rfl⟩⟩
  · obtain ⟨e1, e2⟩ := threes_eq (L := L) (t := t) (by omega)
    unfold spec_CircleOfThree impl_CircleOfThree
    simp only [e1, e2, h, decide_false, gbind_eq, Option.bind_some, Bool.not_false, cond_true]
    exact ⟨_, rfl, rfl, fun _ => rfl, fun q => q.elim⟩
end Go.AM

namespace Go.AM
set_option linter.unusedVariables false

def qd (p b : Pt) : Int := (p.x - b.x) * (p.x - b.x) + (p.y - b.y) * (p.y - b.y)
def cr (p q b : Pt) : Int := (p.x - b.x) * (q.y - b.y) - (p.y - b.y) * (q.x - b.x)
def incS (t : List Pt) (b : Pt) : Int := qd (pt t 0) b * cr (pt t 1) (pt t 2) b + qd (pt t 1) b * cr (pt t 2) (pt t 0) b + qd (pt t 2) b * cr (pt t 0) (pt t 1) b

theorem inc_poly (p q r b : Pt) : (sq2 p - sq2 b) * turn p q r - ccx p q r * (p.x - b.x) - ccy p q r * (p.y - b.y) = qd p b * cr q r b + qd q b * cr r p b + qd r b * cr p q b := by
  obtain ⟨px, py⟩ := p
  obtain ⟨qx, qy⟩ := q
  obtain ⟨rx, ry⟩ := r
  obtain ⟨bx, by'⟩ := b
  simp only [qd, cr, sq2, ccx, ccy, turn]
  grind

theorem Q_bd {p b : Pt} (h1 : In p) (h2 : In b) : 0 ≤ qd p b ∧ qd p b ≤ 12800 := by
  unfold In at h1 h2
  have a := mul_self_nn (p.x - b.x)
  have b' := mul_self_nn (p.y - b.y)
  have c := mul_bd (x := p.x - b.x) (y := p.x - b.x) (A := 80) (B := 80) (by omega) (by omega)
  have d := mul_bd (x := p.y - b.y) (y := p.y - b.y) (A := 80) (B := 80) (by omega) (by omega)
  unfold qd; omega

theorem C_bd {p q b : Pt} (h1 : In p) (h2 : In q) (h3 : In b) : -12800 ≤ cr p q b ∧ cr p q b ≤ 12800 := by
  unfold In at h1 h2 h3
  have c := mul_bd (x := p.x - b.x) (y := q.y - b.y) (A := 80) (B := 80) (by omega) (by omega)
  have d := mul_bd (x := p.y - b.y) (y := q.x - b.x) (A := 80) (B := 80) (by omega) (by omega)
  unfold cr; omega

theorem inc_step {L : Nat} {t : List Pt} (h : Tri t) {q : Pt} (hq : In q) {m : Nat} {S i : Int} (h0 : 0 ≤ i) (h3 : i < 3) (hS : -1000000000 ≤ S ∧ S ≤ 1000000000) :
    impl_InCircle_l0 L t q.x q.y (m + 1) S i = impl_InCircle_l0 L t q.x q.y m (S + qd (pt t i) q * cr (pt t (i + 1)) (pt t (i + 2)) q) (i + 1) := by
  have b := h.tb
  have hln := b.ln
  have hin := (vwl h.good).1
  have q0 := hin i; have q1 := hin (i + 1); have q2 := hin (i + 2)
  have bQ := Q_bd q0 hq
  have bC := C_bd q1 q2 hq
  have bC2 := mul_bd (x := qd (pt t i) q) (y := cr (pt t (i + 1)) (pt t (i + 2)) q) (A := 12800) (B := 12800) (by omega) bC
  have w1 : wr IntKind.i64 (iadd i 1) = i + 1 := by rw [iadd_eq, wr_s (by omega)]
  have w2 : wr IntKind.i64 (iadd i 2) = i + 2 := by rw [iadd_eq, wr_s (by omega)]
  have hs : impl_Peg_square L ((pt t i).x - q.x) ((pt t i).y - q.y) = some (qd (pt t i) q) := by
    unfold In at q0 hq
    have a := mul_self_nn ((pt t i).x - q.x)
    have b := mul_self_nn ((pt t i).y - q.y)
    unfold qd at bQ
    unfold impl_Peg_square
    rw [imul_eq, imul_eq, iadd_eq, wr_s (i := ((pt t i).x - q.x) * ((pt t i).x - q.x)) (by omega), wr_s (i := ((pt t i).y - q.y) * ((pt t i).y - q.y)) (by omega), wr_s (by omega)]
    rfl
  have hc : impl_cross L ((pt t (i + 1)).x - q.x) ((pt t (i + 1)).y - q.y) ((pt t (i + 2)).x - q.x) ((pt t (i + 2)).y - q.y) = some (cr (pt t (i + 1)) (pt t (i + 2)) q) := by
    unfold In at q1 q2 hq
    have c := mul_bd (x := (pt t (i + 1)).x - q.x) (y := (pt t (i + 2)).y - q.y) (A := 80) (B := 80) (by omega) (by omega)
    have d := mul_bd (x := (pt t (i + 1)).y - q.y) (y := (pt t (i + 2)).x - q.x) (A := 80) (B := 80) (by omega) (by omega)
    unfold impl_cross
    rw [imul_eq, imul_eq, isub_eq, wr_s (i := ((pt t (i + 1)).x - q.x) * ((pt t (i + 2)).y - q.y)) (by omega), wr_s (i := ((pt t (i + 1)).y - q.y) * ((pt t (i + 2)).x - q.x)) (by omega), wr_s (by omega)]
    rfl
  rw [impl_InCircle_l0]
  simp only [ilen_mapep, hln, ilt_eq, h3, decide_true, cond_true, lget_pt h0 (show i < (t.length : Int) by omega), gbind_eq, Option.bind_some, w1, w2, impl_at_eq b.nn (show (t.length : Int) ≤ 1000000000 by omega), less_eq (b.nr i) hq.nr, less_eq (b.nr (i + 1)) hq.nr, less_eq (b.nr (i + 2)) hq.nr, hs, hc]
  have e1 : wr IntKind.i64 (iadd S (wr IntKind.i64 (imul (qd (pt t i) q) (cr (pt t (i + 1)) (pt t (i + 2)) q)))) = S + qd (pt t i) q * cr (pt t (i + 1)) (pt t (i + 2)) q := by
    rw [imul_eq, iadd_eq, wr_id (n := qd (pt t i) q * cr (pt t (i + 1)) (pt t (i + 2)) q) (by omega), wr_id (by omega)]
  rw [e1]

theorem sg_in (n : Int) : -1 ≤ sg n ∧ sg n ≤ 1 := by
  unfold sg
  by_cases h : 0 < n
  · rw [if_pos h]; omega
  · rw [if_neg h]
    by_cases h2 : n < 0
    · rw [if_pos h2]; omega
    · rw [if_neg h2]; omega

theorem inc_impl {L : Nat} {t : List Pt} (h : Tri t) {q : Pt} (hq : In q) (hL : 100 < L) : impl_InCircle L t q.x q.y = some (sg (incS t q) * sg (area t), true) := by
  have b := h.tb
  have hln := b.ln
  obtain ⟨c3, c4⟩ := pt_cyc h.len
  have m0 := mul_bd (x := qd (pt t 0) q) (y := cr (pt t 1) (pt t 2) q) (A := 12800) (B := 12800) (by have := Q_bd b.i0 hq; omega) (C_bd b.i1 b.i2 hq)
  have m1 := mul_bd (x := qd (pt t 1) q) (y := cr (pt t 2) (pt t 0) q) (A := 12800) (B := 12800) (by have := Q_bd b.i1 hq; omega) (C_bd b.i2 b.i0 hq)
  unfold impl_InCircle
  simp only [(threes_eq (L := L) (t := t) (by omega)).2, h, decide_true, Bool.not_true, cond_false, gbind_eq, Option.bind_some, impl_IsPeg_eq.1 hq]
  obtain ⟨n, rfl⟩ : ∃ n, L = n + 4 := ⟨L - 4, by omega⟩
  rw [inc_step (m := n + 3) h hq (by omega) (by omega) (by omega)]
  simp only [Int.zero_add]
  rw [inc_step (m := n + 2) h hq (by omega) (by omega) (by omega)]
  simp only [show (1 : Int) + 1 = 2 from rfl, show (1 : Int) + 2 = 3 from rfl, c3]
  rw [inc_step (m := n + 1) h hq (by omega) (by omega) (by omega)]
  simp only [show (2 : Int) + 1 = 3 from rfl, show (2 : Int) + 2 = 4 from rfl, c3, c4]
  rw [show qd (pt t 0) q * cr (pt t 1) (pt t 2) q + qd (pt t 1) q * cr (pt t 2) (pt t 0) q + qd (pt t 2) q * cr (pt t 0) (pt t 1) q = incS t q from rfl]
  rw [impl_InCircle_l0]
  have hz := tri_ne h
  have ws : wr IntKind.i64 (imul (sg (incS t q)) (sg (area t))) = sg (incS t q) * sg (area t) := by
    have e := sg_in (incS t q)
    rcases sg_cases hz with e' | e' <;> rw [e', imul_eq, wr_s (by omega)]
  simp only [ilen_mapep, hln, ilt_eq, Int.lt_irrefl, decide_false, cond_false, gbind_eq, impl_sign_eq, Option.bind_some, impl_twice_eq (L := n + 4) b.nn (show (t.length : Int) ≤ 1000 by omega) (show (t.length : Int) < ((n + 4 : Nat) : Int) by omega) b.nr, ws]


theorem sg_mul' (a b : Int) : sg (a * b) = sg a * sg b := by
  rcases Int.lt_trichotomy a 0 with ha | ha | ha <;> rcases Int.lt_trichotomy b 0 with hb | hb | hb
  · have := Int.mul_pos_of_neg_of_neg ha hb
    unfold sg; rw [if_pos this, if_neg (by omega), if_pos ha, if_neg (by omega), if_pos hb]; rfl
  · subst hb; simp [sg]
  · have := Int.mul_neg_of_neg_of_pos ha hb
    unfold sg; rw [if_neg (by omega), if_pos this, if_neg (by omega), if_pos ha, if_pos hb]; rfl
  · subst ha; simp [sg]
  · subst ha; simp [sg]
  · subst ha; simp [sg]
  · have := Int.mul_neg_of_pos_of_neg ha hb
    unfold sg; rw [if_neg (by omega), if_pos this, if_pos ha, if_neg (by omega), if_pos hb]; rfl
  · subst hb; simp [sg]
  · have := Int.mul_pos ha hb
    unfold sg; rw [if_pos this, if_pos ha, if_pos hb]; rfl

/-- far from the middle, times the denominator, squared -/
def nr2 (p : Pt) (X Y D : Int) : Int := (p.x * D - X) * (p.x * D - X) + (p.y * D - Y) * (p.y * D - Y)

theorem nr2_scale (p : Pt) (X Y D d : Int) : nr2 p (X * d) (Y * d) (D * d) = d * d * nr2 p X Y D := by
  unfold nr2; grind

theorem nr2_poly (p q r b : Pt) : nr2 p (ccx p q r) (ccy p q r) (2 * turn p q r) - nr2 b (ccx p q r) (ccy p q r) (2 * turn p q r) = 4 * turn p q r * (qd p b * cr q r b + qd q b * cr r p b + qd r b * cr p q b) := by
  rw [← inc_poly]
  generalize ccx p q r = X
  generalize ccy p q r = Y
  generalize turn p q r = A
  unfold nr2 sq2
  grind

structure CC (t : List Pt) (x y w : Int) : Prop where
  bx : -4000000 ≤ x ∧ x ≤ 4000000
  by' : -4000000 ≤ y ∧ y ≤ 4000000
  bw : 1 ≤ w ∧ w ≤ 30000
  far : ∀ b : Pt, sg (nr2 (pt t 0) x y w - nr2 b x y w) = sg (incS t b) * sg (area t)

theorem circ_cc {t : List Pt} (h : Tri t) {X Y D d : Int} (eX : X = ccx (pt t 0) (pt t 1) (pt t 2)) (eY : Y = ccy (pt t 0) (pt t 1) (pt t 2)) (eD : D = 2 * area t) (ed : d = cgc X Y D * sg D) (bX : -4000000 ≤ X ∧ X ≤ 4000000) (bY : -4000000 ≤ Y ∧ Y ≤ 4000000) : CC t (X.tdiv d) (Y.tdiv d) (D.tdiv d) := by
  have hz := tri_ne h
  have hA := area_in h
  have D0 : D ≠ 0 := by omega
  obtain ⟨v1, v2, v3⟩ := cgc_dvd (X := X) (Y := Y) (D := D)
  have gp := cgc_pos (X := X) (Y := Y) D0
  have dv : d ∣ cgc X Y D := by
    rcases sg_cases D0 with e | e <;> rw [ed, e]
    · rw [Int.mul_one]; exact Int.dvd_refl _
    · exact ⟨-1, by omega⟩
  have d0 : d ≠ 0 := by rcases sg_cases D0 with e | e <;> rw [ed, e] <;> omega
  have kX : X.tdiv d * d = X := Int.tdiv_mul_cancel (Int.dvd_trans dv v1)
  have kY : Y.tdiv d * d = Y := Int.tdiv_mul_cancel (Int.dvd_trans dv v2)
  have kD : D.tdiv d * d = D := Int.tdiv_mul_cancel (Int.dvd_trans dv v3)
  have bD := tdiv_bd (a := D) (b := d) (A := 30000) (by omega)
  have pD : 0 < D.tdiv d := by
    rcases Int.lt_trichotomy (D.tdiv d) 0 with q | q | q
    · exfalso
      rcases Int.lt_trichotomy D 0 with p | p | p
      · have e : sg D = -1 := by unfold sg; rw [if_neg (by omega), if_pos p]
        have : d < 0 := by rw [ed, e]; omega
        have := Int.mul_pos_of_neg_of_neg q this
        omega
      · exact D0 p
      · have e : sg D = 1 := by unfold sg; rw [if_pos p]
        have : 0 < d := by rw [ed, e]; omega
        have := Int.mul_neg_of_neg_of_pos q this
        omega
    · rw [q] at kD; omega
    · exact q
  refine ⟨tdiv_bd bX, tdiv_bd bY, by omega, fun b => ?_⟩
  have hp := nr2_poly (pt t 0) (pt t 1) (pt t 2) b
  rw [← eX, ← eY, ← tri_area h.len, ← eD, ← kX, ← kY, ← kD, nr2_scale, nr2_scale] at hp
  have hdd : 0 < d * d := by
    rcases Int.lt_trichotomy d 0 with p | p | p
    · exact Int.mul_pos_of_neg_of_neg p p
    · exact absurd p d0
    · exact Int.mul_pos p p
  have e1 : sg (d * d * (nr2 (pt t 0) (X.tdiv d) (Y.tdiv d) (D.tdiv d) - nr2 b (X.tdiv d) (Y.tdiv d) (D.tdiv d))) = sg (nr2 (pt t 0) (X.tdiv d) (Y.tdiv d) (D.tdiv d) - nr2 b (X.tdiv d) (Y.tdiv d) (D.tdiv d)) := by
    rw [sg_mul', show sg (d * d) = 1 by unfold sg; rw [if_pos hdd], Int.one_mul]
  rw [← e1, Int.mul_sub, hp]
  show sg (4 * area t * incS t b) = _
  rw [sg_mul', sg_mul', show sg 4 = 1 from rfl, Int.one_mul, Int.mul_comm]

theorem inc_spec {L : Nat} {t : List Pt} (h : Tri t) {q : Pt} (hq : In q) {x y w : Int} (hr : spec_CircleOfThree L t = some (x, y, w, true)) (c : CC t x y w) (hL : 100 < L) : spec_InCircle L t q.x q.y = some (sg (incS t q) * sg (area t), true) := by
  have b := h.tb
  unfold spec_InCircle
  simp only [(threes_eq (L := L) (t := t) (by omega)).1, h, decide_true, Bool.not_true, cond_false, gbind_eq, Option.bind_some, spec_pgIs_eq.1 hq, hr, b.l0, spec_l1Sign_eq]
  rw [← c.far q]
  have cx := c.bx; have cy := c.by'; have cw := c.bw
  have far : ∀ p : Pt, In p → wr IntKind.i64 (iadd (wr IntKind.i64 (imul (wr IntKind.i64 (isub (wr IntKind.i64 (imul p.x w)) x)) (wr IntKind.i64 (isub (wr IntKind.i64 (imul p.x w)) x)))) (wr IntKind.i64 (imul (wr IntKind.i64 (isub (wr IntKind.i64 (imul p.y w)) y)) (wr IntKind.i64 (isub (wr IntKind.i64 (imul p.y w)) y))))) = nr2 p x y w ∧ (0 ≤ nr2 p x y w ∧ nr2 p x y w ≤ 100000000000000) := by
    intro p hp
    unfold In at hp
    have m1 := mul_bd (x := p.x) (y := w) (A := 40) (B := 30000) (by omega) (by omega)
    have m2 := mul_bd (x := p.y) (y := w) (A := 40) (B := 30000) (by omega) (by omega)
    have m3 := mul_bd (x := p.x * w - x) (y := p.x * w - x) (A := 6000000) (B := 6000000) (by omega) (by omega)
    have m4 := mul_bd (x := p.y * w - y) (y := p.y * w - y) (A := 6000000) (B := 6000000) (by omega) (by omega)
    have n3 := mul_self_nn (p.x * w - x)
    have n4 := mul_self_nn (p.y * w - y)
    unfold nr2
    simp only [iadd_eq, isub_eq, imul_eq]
    rw [wr_id (n := p.x * w) (by omega), wr_id (n := p.y * w) (by omega), wr_id (n := p.x * w - x) (by omega), wr_id (n := p.y * w - y) (by omega), wr_id (n := (p.x * w - x) * (p.x * w - x)) (by omega), wr_id (n := (p.y * w - y) * (p.y * w - y)) (by omega), wr_id (by omega)]
    exact ⟨rfl, by omega⟩
  obtain ⟨f1, g1⟩ := far (pt t 0) b.i0
  obtain ⟨f2, g2⟩ := far q hq
  rw [f1, f2, isub_eq, wr_id (by omega)]

/-- the corners lie on their circle -/
theorem corner_on {t : List Pt} {i : Int} (hi : i = 0 ∨ i = 1 ∨ i = 2) : incS t (pt t i) = 0 := by
  rcases hi with e | e | e <;> subst e <;> unfold incS qd cr <;> grind

theorem corner_far {t : List Pt} {x y w : Int} (c : CC t x y w) {i : Int} (hi : i = 0 ∨ i = 1 ∨ i = 2) : nr2 (pt t i) x y w = nr2 (pt t 0) x y w := by
  have h := c.far (pt t i)
  rw [corner_on hi] at h
  have : sg (nr2 (pt t 0) x y w - nr2 (pt t i) x y w) = 0 := by rw [h]; simp [sg]
  unfold sg at this
  by_cases h1 : 0 < nr2 (pt t 0) x y w - nr2 (pt t i) x y w
  · rw [if_pos h1] at this; omega
  · rw [if_neg h1] at this
    by_cases h2 : nr2 (pt t 0) x y w - nr2 (pt t i) x y w < 0
    · rw [if_pos h2] at this; omega
    · omega

theorem circle_eq {L : Nat} {t : List Pt} (hL : 10000000 < L) : ∃ r, spec_CircleOfThree L t = some r ∧ impl_CircleOfThree L t = some r ∧ (¬ Tri t → r = (0, 0, 0, false)) ∧ (Tri t → r.2.2.2 = true ∧ CC t r.1 r.2.1 r.2.2.1) := by
  obtain ⟨r, a, b, c, d⟩ := circ_eq (L := L) (t := t) hL
  refine ⟨r, a, b, c, fun h => ?_⟩
  obtain ⟨X, Y, D, k, e1, e2, e3, e4, e5, e6, e⟩ := d h
  rw [e]
  exact ⟨rfl, circ_cc h e1 e2 e3 e4 e5 e6⟩

theorem inCircle_eq {L : Nat} {t : List Pt} {q : Pt} (hL : 10000000 < L) : ∃ r, spec_InCircle L t q.x q.y = some r ∧ impl_InCircle L t q.x q.y = some r ∧ (Tri t → In q → r = (sg (incS t q) * sg (area t), true)) := by
  by_cases h : Tri t
  · by_cases hq : In q
    · obtain ⟨r, a, b, c, d⟩ := circle_eq (L := L) (t := t) hL
      obtain ⟨d1, d2⟩ := d h
      refine ⟨_, inc_spec h hq (x := r.1) (y := r.2.1) (w := r.2.2.1) (by rw [a, ← d1]) d2 (by omega), inc_impl h hq (by omega), fun _ _ => rfl⟩
    · obtain ⟨e1, e2⟩ := threes_eq (L := L) (t := t) (by omega)
      unfold spec_InCircle impl_InCircle
      simp only [e1, e2, h, decide_true, gbind_eq, Option.bind_some, Bool.not_true, cond_false, spec_pgIs_eq.2 hq, impl_IsPeg_eq.2 hq, Bool.not_false, cond_true]
      exact ⟨_, rfl, rfl, fun _ k => absurd k hq⟩
  · obtain ⟨e1, e2⟩ := threes_eq (L := L) (t := t) (by omega)
    unfold spec_InCircle impl_InCircle
    simp only [e1, e2, h, decide_false, gbind_eq, Option.bind_some, Bool.not_false, cond_true]
    exact ⟨_, rfl, rfl, fun k => k.elim⟩
end Go.AM

namespace Go.AM
set_option linter.unusedVariables false

/-- a point, grown from a corner -/
def gw (o : Pt) (k : Int) (p : Pt) : Pt := ⟨k * p.x + (1 - k) * o.x, k * p.y + (1 - k) * o.y⟩

theorem gw_bd {o p : Pt} {k : Int} (ho : In o) (hp : In p) (hk : 1 ≤ k ∧ k ≤ 20) : (-800 ≤ k * p.x ∧ k * p.x ≤ 800) ∧ (-800 ≤ k * p.y ∧ k * p.y ≤ 800) ∧ (-760 ≤ (1 - k) * o.x ∧ (1 - k) * o.x ≤ 760) ∧ (-760 ≤ (1 - k) * o.y ∧ (1 - k) * o.y ≤ 760) := by
  unfold In at ho hp
  have m1 := mul_bd (x := k) (y := p.x) (A := 20) (B := 40) (by omega) (by omega)
  have m2 := mul_bd (x := k) (y := p.y) (A := 20) (B := 40) (by omega) (by omega)
  have m3 := mul_bd (x := 1 - k) (y := o.x) (A := 19) (B := 40) (by omega) (by omega)
  have m4 := mul_bd (x := 1 - k) (y := o.y) (A := 19) (B := 40) (by omega) (by omega)
  omega

theorem gw_wr {o p : Pt} {k : Int} (ho : In o) (hp : In p) (hk : 1 ≤ k ∧ k ≤ 20) :
    wr IntKind.i64 (iadd (wr IntKind.i64 (iadd (wr IntKind.i64 (imul k p.x)) (wr IntKind.i64 (imul 0 p.y)))) ((1 - k) * o.x)) = (gw o k p).x ∧ wr IntKind.i64 (iadd (wr IntKind.i64 (iadd (wr IntKind.i64 (imul 0 p.x)) (wr IntKind.i64 (imul k p.y)))) ((1 - k) * o.y)) = (gw o k p).y := by
  obtain ⟨b1, b2, b3, b4⟩ := gw_bd ho hp hk
  unfold In at hp
  unfold gw
  simp only [iadd_eq, imul_eq, Int.zero_mul]
  rw [wr_s (i := k * p.x) (by omega), wr_s (i := k * p.y) (by omega), wr_s (i := 0) (by omega), Int.add_zero, Int.zero_add, wr_s (i := k * p.x) (by omega), wr_s (i := k * p.y) (by omega), wr_s (by omega), wr_s (by omega)]
  exact ⟨rfl, rfl⟩

theorem grow_l0 {L : Nat} {a : List Pt} {o : Pt} {k : Int} (ho : In o) (hk : 1 ≤ k ∧ k ≤ 20) (hin : ∀ i, In (pt a i)) (hs : (a.length : Int) ≤ 1000) : ∀ (m i : Nat), i ≤ a.length → a.length - i < m →
    ((∃ j : Int, (i : Int) ≤ j ∧ j < a.length ∧ ¬ In (gw o k (pt a j))) → spec_pgMap_l0 L a k 0 0 k ((1 - k) * o.x) ((1 - k) * o.y) m i ((a.take i).map (gw o k)) = some ([], false)) ∧
    ((∀ j : Int, (i : Int) ≤ j → j < a.length → In (gw o k (pt a j))) → spec_pgMap_l0 L a k 0 0 k ((1 - k) * o.x) ((1 - k) * o.y) m i ((a.take i).map (gw o k)) = some (a.map (gw o k), true)) := by
  intro m
  induction m with
  | zero => intro i _ h; omega
  | succ m ih =>
    intro i hi hm'
    rw [spec_pgMap_l0]
    by_cases h : (i : Int) < (a.length : Int)
    · have hlt : i < a.length := by omega
      have wi : wr IntKind.i64 (iadd (i : Int) 1) = ((i + 1 : Nat) : Int) := by rw [iadd_eq, wr_s (by omega)]; omega
      obtain ⟨e1, e2⟩ := gw_wr ho (hin i) hk
      obtain ⟨k1, k2⟩ := ih (i + 1) (by omega) (by omega)
      rw [take_pt hlt, List.map_append] at k1 k2
      simp only [ilen_mapep, ilt_eq, h, decide_true, cond_true, lget_pt (show (0 : Int) ≤ i by omega) h, gbind_eq, Option.bind_some, e1, e2]
      by_cases hI : In (gw o k (pt a i))
      · rw [spec_pgIs_eq.1 hI]
        have hf : fits (iadd ((List.map (gw o k) (List.take i a)).length : Int) (ilen [AV.agg [AV.int IntKind.i64 (gw o k (pt a i)).x, AV.int IntKind.i64 (gw o k (pt a i)).y]])) 16 = true := by
          rw [ilen_eq, iadd_eq]; exact fits_s (by simp; omega)
        simp only [Option.bind_some, Bool.not_true, cond_false, hf, cond_true, wi, lcat_eq]
        refine ⟨fun ⟨j, j0, j1, j2⟩ => k1 ⟨j, ?_, j1, j2⟩, fun hh => k2 fun j j0 j1 => hh j (by omega) j1⟩
        by_cases e : j = i
        · subst e; exact absurd hI j2
        · omega
      · rw [spec_pgIs_eq.2 hI]
        simp only [Option.bind_some, Bool.not_false, cond_true]
        exact ⟨fun _ => trivial, fun hh => absurd (hh i (Int.le_refl _) h) hI⟩
    · simp only [ilen_mapep, ilt_eq, h, decide_false, cond_false]
      refine ⟨fun ⟨j, j0, j1, _⟩ => by omega, fun _ => ?_⟩
      rw [List.take_of_length_le (by omega)]

theorem gw1 {L : Nat} {a : List Pt} {k : Int} (h0 : lget a 0 = some (pt a 0)) {p : Pt} (ho : In (pt a 0)) (hp : In p) (hk : 1 ≤ k ∧ k ≤ 20) : impl_GrowThree_1_v2 L p.x p.y a k = some ((gw (pt a 0) k p).x, (gw (pt a 0) k p).y) := by
  unfold impl_GrowThree_1_v2 impl_Peg_plus
  have hb := ho; have hc := hp
  unfold In at hb hc
  have m1 := mul_bd (x := k) (y := p.x - (pt a 0).x) (A := 20) (B := 80) (by omega) (by omega)
  have m2 := mul_bd (x := k) (y := p.y - (pt a 0).y) (A := 20) (B := 80) (by omega) (by omega)
  simp only [h0, gbind_eq, Option.bind_some, less_eq hp.nr ho.nr, imul_eq, iadd_eq, wr_s (i := k * (p.x - (pt a 0).x)) (by omega), wr_s (i := k * (p.y - (pt a 0).y)) (by omega), wr_s (i := (pt a 0).x + k * (p.x - (pt a 0).x)) (by omega), wr_s (i := (pt a 0).y + k * (p.y - (pt a 0).y)) (by omega)]
  have e1 : (pt a 0).x + k * (p.x - (pt a 0).x) = (gw (pt a 0) k p).x := by unfold gw; grind
  have e2 : (pt a 0).y + k * (p.y - (pt a 0).y) = (gw (pt a 0) k p).y := by unfold gw; grind
  rw [e1, e2]

theorem grow_both {L : Nat} {a : List Pt} {k : Int} (h : Tri a) (hk : 1 ≤ k ∧ k ≤ 20) (hL : 5000 < L) :
    ∃ r, spec_GrowThree L a k = some r ∧ impl_GrowThree L a k = some r ∧ (r.1.length : Int) ≤ 10 ∧ (r.2 = true → r.1 = a.map (gw (pt a 0) k) ∧ ∀ i, In (gw (pt a 0) k (pt a i))) := by
  have g := h.good
  have b := h.tb
  have ho := b.i0
  obtain ⟨h_isIn, h_nn, h_len, hlo⟩ := vwl g
  have hi := g.hi
  obtain ⟨k1, k2⟩ := grow_l0 (L := L) ho hk h_isIn (by omega) L 0 (by omega) (by omega)
  unfold spec_GrowThree impl_GrowThree spec_pgMap impl_changed_impl_GrowThree_1
  rw [impl_IsPolygon_eq (by omega)]
  have := idxLoop (f := impl_changed_impl_GrowThree_1_l0 L a a k) (H := fun i => gw (pt a 0) k (pt a i)) (n := a.length) (K := fun w => (impl_arePegs L w).bind fun r2 => bif !r2 then some ([], false) else some (w, true)) (fun m w => by
    simp only [impl_changed_impl_GrowThree_1_l0, ilt_eq, ilen_mapep, Int.lt_irrefl, decide_false, cond_false, gbind_eq]) (fun m v w h0 h1 hw => by
    have hb := gw1 (L := L) (a := a) (k := k) b.l0 ho (h_isIn v) hk
    simp only [impl_changed_impl_GrowThree_1_l0, ilt_eq, ilen_mapep, h1, decide_true, cond_true, gbind_eq, lget_pt h0 h1, Option.bind_some, hb, iadd_eq, wr_s (i := v + 1) (by omega), lcat_eq]
    simp only [ilen_eq, List.length_cons, List.length_nil, fits_s (n := (w.length : Int) + ((0 + 1 : Nat) : Int)) (b := 16) (by omega), cond_true]) L 0 (by omega) (by omega)
  have this' : impl_changed_impl_GrowThree_1_l0 L a a k L 0 [] = (impl_arePegs L ((List.range a.length).map fun (j : Nat) => gw (pt a 0) k (pt a j))).bind fun r2 => bif !r2 then some ([], false) else some (((List.range a.length).map fun (j : Nat) => gw (pt a 0) k (pt a j)), true) := this
  rw [map_pt (gw (pt a 0) k)] at this'
  obtain ⟨t1, t2⟩ := threes_eq (L := L) (t := a) (by omega)
  unfold In at ho
  have x1 := mul_bd (x := 1 - k) (y := (pt a 0).x) (A := 19) (B := 40) (by omega) (by omega)
  have x2 := mul_bd (x := 1 - k) (y := (pt a 0).y) (A := 19) (B := 40) (by omega) (by omega)
  have f1 : wr IntKind.i64 (imul (wr IntKind.i64 (isub 1 k)) (pt a 0).x) = (1 - k) * (pt a 0).x := by rw [isub_eq, imul_eq, wr_s (i := 1 - k) (by omega), wr_s (by omega)]
  have f2 : wr IntKind.i64 (imul (wr IntKind.i64 (isub 1 k)) (pt a 0).y) = (1 - k) * (pt a 0).y := by rw [isub_eq, imul_eq, wr_s (i := 1 - k) (by omega), wr_s (by omega)]
  simp only [t1, t2, h, g, decide_true, gbind_eq, Option.bind_some, Bool.not_true, cond_false, this', spec_l1In_eq, impl_within_eq, hk, and_self, b.l0, f1, f2]
  have hpm : ∀ i, pt (a.map (gw (pt a 0) k)) i = gw (pt a 0) k (pt a i) := fun i => by
    have hl0 : 0 < (a.length : Int) := by omega
    have h0 := Int.emod_nonneg i (show (a.length : Int) ≠ 0 by omega)
    have h1 := Int.emod_lt_of_pos i hl0
    have h2 : (i % (a.length : Int)).toNat < a.length := by omega
    show ((a.map (gw (pt a 0) k)).getD _ _) = gw (pt a 0) k (a.getD _ _)
    simp [h2]
  obtain ⟨p1, p2⟩ := arePegs_eq (L := L) (a := a.map (gw (pt a 0) k)) (by simp; omega) (by simp; omega)
  by_cases hI : ∃ i : Int, 0 ≤ i ∧ i < (a.length : Int) ∧ ¬ In (gw (pt a 0) k (pt a i))
  · rw [p1 (by obtain ⟨i, i0, i1, i2⟩ := hI; exact ⟨i, i0, by simpa using i1, by rw [hpm]; exact i2⟩)]
    obtain ⟨i, i0, i1, i2⟩ := hI
    have q := k1 ⟨i, by omega, i1, i2⟩
    have q' : spec_pgMap_l0 L a k 0 0 k ((1 - k) * (pt a 0).x) ((1 - k) * (pt a 0).y) L 0 [] = some ([], false) := q
    simp only [q', Option.bind_some, Bool.not_false, cond_true]
    exact ⟨_, rfl, rfl, by simp, fun h => by cases h⟩
  · have hI' : ∀ i : Int, 0 ≤ i → i < (a.length : Int) → In (gw (pt a 0) k (pt a i)) := fun i i0 i1 => Classical.byContradiction fun e => hI ⟨i, i0, i1, e⟩
    rw [p2 (fun i i0 i1 => by rw [hpm]; exact hI' i i0 (by simpa using i1))]
    have q := k2 fun j j0 j1 => hI' j (by omega) j1
    have q' : spec_pgMap_l0 L a k 0 0 k ((1 - k) * (pt a 0).x) ((1 - k) * (pt a 0).y) L 0 [] = some (a.map (gw (pt a 0) k), true) := q
    simp only [q', Option.bind_some, Bool.not_true, cond_false]
    refine ⟨_, rfl, rfl, by simp; omega, fun _ => ⟨rfl, fun i => ?_⟩⟩
    have := hI' (i % a.length) (Int.emod_nonneg _ (by omega)) (Int.emod_lt_of_pos _ (by omega))
    rwa [pt_mod] at this
end Go.AM

namespace Go.AM
set_option linter.unusedVariables false

theorem tri_list {t : List Pt} (h : t.length = 3) : t = [pt t 0, pt t 1, pt t 2] := by
  match t, h with
  | [a, b, c], _ => rfl

theorem tri_round {t : List Pt} (h : t.length = 3) : round t = step (pt t 0) (pt t 1) + step (pt t 1) (pt t 2) + step (pt t 2) (pt t 0) := by
  have e3 : pt t ((2 : Nat) + 1) = pt t 0 := by rw [show (((2 : Nat) : Int) + 1) = 0 + (t.length : Int) by omega, pt_per]
  unfold round
  rw [h]
  simp only [sm]
  rw [e3]
  show 0 + step (pt t 0) (pt t (0 + 1)) + step (pt t 1) (pt t (1 + 1)) + step (pt t 2) (pt t 0) = _
  rw [show (0 : Int) + 1 = 1 by omega, show (1 : Int) + 1 = 2 by omega]; omega

theorem gw_step {o p q : Pt} {k : Int} (hk : 0 ≤ k) : step (gw o k p) (gw o k q) = k * step p q := by
  unfold step gw
  simp only
  rw [show k * p.x + (1 - k) * o.x - (k * q.x + (1 - k) * o.x) = k * (p.x - q.x) by grind, show k * p.y + (1 - k) * o.y - (k * q.y + (1 - k) * o.y) = k * (p.y - q.y) by grind, Int.natAbs_mul, Int.natAbs_mul, Nat.gcd_mul_left, Int.natCast_mul, Int.natAbs_of_nonneg hk]

theorem gw_turn {o p q r : Pt} {k : Int} : turn (gw o k p) (gw o k q) (gw o k r) = k * k * turn p q r := by
  unfold turn gw
  grind

theorem gw_fix {o : Pt} {k : Int} : gw o k o = o := by
  obtain ⟨x, y⟩ := o
  unfold gw
  simp only [Pt.mk.injEq]
  constructor <;> grind

theorem step_in {p q : Pt} (hp : In p) (hq : In q) : 0 ≤ step p q ∧ step p q ≤ 4000 := by
  have := step_bd hp.nr hq.nr
  unfold step at this ⊢
  omega

/-- the number of points of a triangle, grown -/
def pgr (t : List Pt) (k : Int) : Int := (k * k * ((area t).natAbs : Int) + k * round t + 2).tdiv 2

theorem pegsGrown_eq {L : Nat} {t : List Pt} {k : Int} (h : Tri t) (hk : 0 ≤ k ∧ k ≤ 20) (hL : 5000 < L) : spec_PegsOfGrown L t k = some (pgr t k, true) ∧ impl_PegsOfGrown L t k = some (pgr t k, true) := by
  have b := h.tb
  have hln := b.ln
  obtain ⟨e1, e2⟩ := threes_eq (L := L) (t := t) (by omega)
  have hA := area_in h
  have s0 := step_in b.i0 b.i1; have s1 := step_in b.i1 b.i2; have s2 := step_in b.i2 b.i0
  have hR := tri_round h.len
  have hR2 : 0 ≤ round t ∧ round t ≤ 12000 := by omega
  have m1 := mul_bd (x := k) (y := k) (A := 20) (B := 20) (by omega) (by omega)
  have m2 := mul_bd (x := k * k) (y := ((area t).natAbs : Int)) (A := 400) (B := 13000) (by omega) (by omega)
  have m3 := mul_bd (x := k) (y := round t) (A := 20) (B := 12000) (by omega) (by omega)
  have q := tdiv_bd (a := k * k * ((area t).natAbs : Int) + k * round t + 2) (b := 2) (A := 10000000) (by omega)
  have e : wr IntKind.i64 (iquo (wr IntKind.i64 (iadd (wr IntKind.i64 (iadd (wr IntKind.i64 (imul (wr IntKind.i64 (imul k k)) ((area t).natAbs : Int))) (wr IntKind.i64 (imul k (round t))))) 2)) 2) = pgr t k := by
    simp only [iquo_eq, iadd_eq, imul_eq]
    rw [wr_id (n := k * k) (by omega), wr_id (n := k * k * ((area t).natAbs : Int)) (by omega), wr_id (n := k * round t) (by omega), wr_id (n := k * k * ((area t).natAbs : Int) + k * round t) (by omega), wr_id (n := k * k * ((area t).natAbs : Int) + k * round t + 2) (by omega), wr_id (by omega)]
    rfl
  unfold spec_PegsOfGrown impl_PegsOfGrown
  simp only [e1, e2, h, decide_true, gbind_eq, Option.bind_some, Bool.not_true, cond_false, spec_l1In_eq, impl_within_eq, hk, and_self, spec_pgArea_eq (L := L) (show 2 ≤ (t.length : Int) by omega) (show (t.length : Int) ≤ 1000 by omega) (show (t.length : Int) < L by omega) b.nr, impl_twice_eq (L := L) b.nn (show (t.length : Int) ≤ 1000 by omega) (show (t.length : Int) < L by omega) b.nr, spec_l1Abs_eq (L := L) (n := area t) (by omega), impl_size_eq (L := L) (n := area t) (by omega), spec_pgRound_eq (L := L) b.nn (show (t.length : Int) ≤ 1000 by omega) (by omega) b.nr, impl_around_eq (L := L) b.nn (show (t.length : Int) ≤ 1000 by omega) (by omega) b.nr, ieq_eq, show ¬ (2 : Int) = 0 by omega, decide_false, e]

theorem grown_all {L : Nat} {t : List Pt} {k : Int} (h : Tri t) (hk : 1 ≤ k ∧ k ≤ 20) (hin : ∀ i, In (gw (pt t 0) k (pt t i))) (hL : 5000 < L) : impl_PegsInAll L (t.map (gw (pt t 0) k)) = some (pgr t k, true) := by
  have b := h.tb
  have hz := tri_ne h
  have hA := tri_area h.len
  have el : t.map (gw (pt t 0) k) = [gw (pt t 0) k (pt t 0), gw (pt t 0) k (pt t 1), gw (pt t 0) k (pt t 2)] := by
    have e := congrArg (List.map (gw (pt t 0) k)) (tri_list h.len)
    exact e
  have hk2 : 0 < k * k := Int.mul_pos (by omega) (by omega)
  have ht : turn (gw (pt t 0) k (pt t 0)) (gw (pt t 0) k (pt t 1)) (gw (pt t 0) k (pt t 2)) ≠ 0 := by
    rw [gw_turn, ← hA]
    exact Int.mul_ne_zero (by omega) hz
  rw [el]
  have h2 := tri_good (hin 0) (hin 1) (hin 2) ht
  have b2 := h2.tb
  have hln2 := b2.ln
  have hA2 : area [gw (pt t 0) k (pt t 0), gw (pt t 0) k (pt t 1), gw (pt t 0) k (pt t 2)] = k * k * area t := by
    rw [tri_area h2.len, hA]
    exact gw_turn
  have hR2 : round [gw (pt t 0) k (pt t 0), gw (pt t 0) k (pt t 1), gw (pt t 0) k (pt t 2)] = k * round t := by
    rw [tri_round h2.len, tri_round h.len]
    show step (gw (pt t 0) k (pt t 0)) (gw (pt t 0) k (pt t 1)) + step (gw (pt t 0) k (pt t 1)) (gw (pt t 0) k (pt t 2)) + step (gw (pt t 0) k (pt t 2)) (gw (pt t 0) k (pt t 0)) = _
    rw [gw_step (by omega), gw_step (by omega), gw_step (by omega), Int.mul_add, Int.mul_add]
  obtain ⟨p1, p2, p3, _⟩ := tri_pick h2
  have hb := area_in h2
  have sA : ((area [gw (pt t 0) k (pt t 0), gw (pt t 0) k (pt t 1), gw (pt t 0) k (pt t 2)]).natAbs : Int) = k * k * ((area t).natAbs : Int) := by
    rw [hA2, Int.natAbs_mul, Int.natCast_mul, Int.natAbs_of_nonneg (by omega)]
  have s0 := step_in b2.i0 b2.i1; have s1 := step_in b2.i1 b2.i2; have s2 := step_in b2.i2 b2.i0
  have hR3 := tri_round h2.len
  unfold impl_PegsInAll
  rw [impl_IsPolygon_eq (by omega)]
  simp only [h2.good, decide_true, gbind_eq, Option.bind_some, Bool.not_true, cond_false, (inner_eq (L := L) (a := [gw (pt t 0) k (pt t 0), gw (pt t 0) k (pt t 1), gw (pt t 0) k (pt t 2)]) (by omega) (by omega) (by omega) b2.nr).2, impl_around_eq (L := L) b2.nn (by omega) (by omega) b2.nr]
  rw [p1, sA, hR2]
  rw [hR2] at p2 p3 hR3
  have hAk : (area [gw (pt t 0) k (pt t 0), gw (pt t 0) k (pt t 1), gw (pt t 0) k (pt t 2)]).natAbs = (k * k * ((area t).natAbs : Int)).natAbs := by omega
  have pk : (k * k * ((area t).natAbs : Int) + k * round t) % 2 = 0 := by omega
  have bk : 0 ≤ k * k * ((area t).natAbs : Int) ∧ k * k * ((area t).natAbs : Int) ≤ 13000 := by omega
  unfold pgr
  generalize k * k * ((area t).natAbs : Int) = A at *
  generalize k * round t = R at *
  have : (A + 2 - R).tdiv 2 + R = (A + R + 2).tdiv 2 := by
    obtain ⟨u, hu⟩ : ∃ u, A + R = 2 * u := ⟨(A + R) / 2, by omega⟩
    rw [show A + 2 - R = (u + 1 - R) * 2 by omega, show A + R + 2 = (u + 1) * 2 by omega, Int.mul_tdiv_cancel _ (by omega), Int.mul_tdiv_cancel _ (by omega)]
    omega
  have q := tdiv_bd (a := A + 2 - R) (b := 2) (A := 30000) (by omega)
  rw [iadd_eq, wr_s (by omega), this]
end Go.AM

namespace Go.AM
set_option linter.unusedVariables false

theorem growT_eq {L : Nat} {a : List Pt} {k : Int} (hL : 5000 < L) :
    ∃ r, spec_GrowThree L a k = some r ∧ impl_GrowThree L a k = some r ∧ (r.1.length : Int) ≤ 10 ∧ (r.2 = true → Tri a ∧ (1 ≤ k ∧ k ≤ 20) ∧ r.1 = a.map (gw (pt a 0) k) ∧ ∀ i, In (gw (pt a 0) k (pt a i))) := by
  by_cases h : Tri a
  · by_cases hk : 1 ≤ k ∧ k ≤ 20
    · obtain ⟨r, e1, e2, e3, e4⟩ := grow_both (L := L) h hk hL
      exact ⟨r, e1, e2, e3, fun q => ⟨h, hk, (e4 q).1, (e4 q).2⟩⟩
    · obtain ⟨e1, e2⟩ := threes_eq (L := L) (t := a) (by omega)
      unfold spec_GrowThree impl_GrowThree
      simp only [e1, e2, h, decide_true, gbind_eq, Option.bind_some, Bool.not_true, cond_false, spec_l1In_eq, impl_within_eq, hk, decide_false, Bool.not_false, cond_true]
      exact ⟨_, rfl, rfl, by simp, fun q => by cases q⟩
  · obtain ⟨e1, e2⟩ := threes_eq (L := L) (t := a) (by omega)
    unfold spec_GrowThree impl_GrowThree
    simp only [e1, e2, h, decide_false, gbind_eq, Option.bind_some, Bool.not_false, cond_true]
    exact ⟨_, rfl, rfl, by simp, fun q => by cases q⟩

theorem pegsT_eq {L : Nat} {a : List Pt} {k : Int} (hL : 5000 < L) :
    ∃ r, spec_PegsOfGrown L a k = some r ∧ impl_PegsOfGrown L a k = some r ∧ (Tri a → 0 ≤ k ∧ k ≤ 20 → r = (pgr a k, true)) := by
  by_cases h : Tri a
  · by_cases hk : 0 ≤ k ∧ k ≤ 20
    · obtain ⟨e1, e2⟩ := pegsGrown_eq (L := L) h hk hL
      exact ⟨_, e1, e2, fun _ _ => rfl⟩
    · obtain ⟨e1, e2⟩ := threes_eq (L := L) (t := a) (by omega)
      unfold spec_PegsOfGrown impl_PegsOfGrown
      simp only [e1, e2, h, decide_true, gbind_eq, Option.bind_some, Bool.not_true, cond_false, spec_l1In_eq, impl_within_eq, hk, decide_false, Bool.not_false, cond_true]
      exact ⟨_, rfl, rfl, fun _ q => q.elim⟩
  · obtain ⟨e1, e2⟩ := threes_eq (L := L) (t := a) (by omega)
    unfold spec_PegsOfGrown impl_PegsOfGrown
    simp only [e1, e2, h, decide_false, gbind_eq, Option.bind_some, Bool.not_false, cond_true]
    exact ⟨_, rfl, rfl, fun q => q.elim⟩

theorem drawGrow_dr {L : Nat} {a : List Int} (hb : By a) (hL : 1000 < L) : ∃ r k, spec_DrawGrowThree L a = some (r, k) ∧ (r.length : Int) ≤ 30 := by
  unfold spec_DrawGrowThree
  obtain ⟨r, t', s', e, e1, _, e2, e3⟩ := three_dr (L := L) (a := a) (t := 0) (s := 0) (n := 4) hb (by omega) (by omega) hL
  obtain ⟨k, t2, s2, f, _⟩ := among_dr (L := L) (a := a) (w := [1, 2, 3, 5, 20, 21, 0, -1]) (t := t') (s := s') hb (by omega) (by simp)
  simp only [gbind_eq, e, Option.bind_some, f]
  exact ⟨_, _, rfl, e1⟩

theorem drawInC_dr {L : Nat} {a : List Int} (hb : By a) (hL : 1000 < L) : ∃ r x y, spec_DrawInCircle L a = some (r, x, y) ∧ (r.length : Int) ≤ 30 := by
  obtain ⟨r, x, y, e, h⟩ := partsOf_dr (L := L) hb hL
  unfold spec_DrawPartsOfPeg at e
  cases hd : spec_DrawInCircle L a with
  | none => rw [hd, gbind_eq] at e; cases e
  | some q =>
    obtain ⟨c, x', y'⟩ := q
    rw [hd, gbind_eq] at e
    simp only [Option.bind_some, Option.some.injEq, Prod.mk.injEq] at e
    exact ⟨c, x', y', rfl, by rw [e.1]; exact h⟩

theorem drawSides_dr {L : Nat} {a : List Int} (hb : By a) (hL : 1000 < L) : ∃ r, spec_DrawSidesOfThree L a = some r ∧ (r.length : Int) ≤ 30 := by
  unfold spec_DrawSidesOfThree
  obtain ⟨r, t', s', e, e1, _⟩ := three_dr (L := L) (a := a) (t := 0) (s := 0) (n := 5) hb (by omega) (by omega) hL
  simp only [gbind_eq, e, Option.bind_some]
  exact ⟨_, rfl, e1⟩

theorem meas_j2 {L : Nat} {g : List Pt} {k : Int} {r19 : List Pt × Bool} {r21 : Int × Bool} (hL : 5000 < L)
    (h : r19.2 = true → Tri g ∧ (1 ≤ k ∧ k ≤ 20) ∧ r19.1 = g.map (gw (pt g 0) k) ∧ ∀ i, In (gw (pt g 0) k (pt g i))) (hp : Tri g → 0 ≤ k ∧ k ≤ 20 → r21 = (pgr g k, true)) : laws_FnThreesMeasured_j2 L (g, k) r19 r21 = some true := by
  unfold laws_FnThreesMeasured_j2
  obtain ⟨l, c⟩ := r19
  cases c with
  | false => simp only [cond_false]
  | true =>
    obtain ⟨ht, hk, e, hin⟩ := h rfl
    simp only at e
    subst e
    have b := ht.tb
    have hln := b.ln
    rw [hp ht (by omega)]
    have hl : ((g.map (gw (pt g 0) k)).length : Int) = 3 := by have := ht.len; simp; omega
    have h0 : lget (g.map (gw (pt g 0) k)) 0 = some (pt g 0) := by
      have e := congrArg (List.map (gw (pt g 0) k)) (tri_list ht.len)
      rw [e, List.map_cons, gw_fix, lget_eq, if_pos (by simp)]
      rfl
    simp only [cond_true, grown_all ht hk hin hL, gbind_eq, Option.bind_some, ieq_eq, decide_true, ile_eq, ilt_eq, ilen_mapep, hl, hln, Int.le_refl, show (0 : Int) < 3 by omega, Bool.and_self, h0, b.l0]

theorem meas_j1 {L : Nat} {b : List Int} (hb : By b) (hL : 10000000 < L) : laws_FnThreesMeasured_j1 L b = some true := by
  unfold laws_FnThreesMeasured_j1
  obtain ⟨g, k, e, hg⟩ := drawGrow_dr (L := L) hb (by omega)
  obtain ⟨c, x, y, f, hc⟩ := drawInC_dr (L := L) hb (by omega)
  obtain ⟨r, g1, g2, g3, g4⟩ := growT_eq (L := L) (a := g) (k := k) (by omega)
  obtain ⟨p, p1, p2, p3⟩ := pegsT_eq (L := L) (a := g) (k := k) (by omega)
  obtain ⟨i, i1, i2, _⟩ := inCircle_eq (L := L) (t := c) (q := ⟨x, y⟩) hL
  have z := zPegs_eq (L := L) (a := r.1) (by omega) (by omega)
  simp only [e, f, g1, g2, p1, p2, i1, i2, z, gbind_eq, Option.bind_some, beqb_eq, BEq.rfl, Bool.not_true, cond_false, ieq_eq, decide_true]
  unfold laws_FnThreesMeasured_j3
  have j := meas_j2 (L := L) (g := g) (k := k) (r19 := r) (r21 := p) (by omega) g4 p3
  simp only [cond_false, ieq_eq, decide_true, Bool.not_true, j]
  by_cases hr : r.2 = true
  · obtain ⟨ht, hk, _⟩ := g4 hr
    simp only [hr, cond_true, p3 ht (by omega), Bool.not_true, cond_false]
  · have hr' : r.2 = false := by simpa using hr
    simp only [hr', cond_false]
end Go.AM

namespace Go.AM
set_option linter.unusedVariables false

theorem nr2_wr {p : Pt} {x y w : Int} (hp : In p) (cx : -4000000 ≤ x ∧ x ≤ 4000000) (cy : -4000000 ≤ y ∧ y ≤ 4000000) (cw : 1 ≤ w ∧ w ≤ 30000) : wr IntKind.i64 (iadd (wr IntKind.i64 (imul (wr IntKind.i64 (isub (wr IntKind.i64 (imul p.x w)) x)) (wr IntKind.i64 (isub (wr IntKind.i64 (imul p.x w)) x)))) (wr IntKind.i64 (imul (wr IntKind.i64 (isub (wr IntKind.i64 (imul p.y w)) y)) (wr IntKind.i64 (isub (wr IntKind.i64 (imul p.y w)) y))))) = nr2 p x y w := by
  unfold In at hp
  have m1 := mul_bd (x := p.x) (y := w) (A := 40) (B := 30000) (by omega) (by omega)
  have m2 := mul_bd (x := p.y) (y := w) (A := 40) (B := 30000) (by omega) (by omega)
  have m3 := mul_bd (x := p.x * w - x) (y := p.x * w - x) (A := 6000000) (B := 6000000) (by omega) (by omega)
  have m4 := mul_bd (x := p.y * w - y) (y := p.y * w - y) (A := 6000000) (B := 6000000) (by omega) (by omega)
  unfold nr2
  simp only [iadd_eq, isub_eq, imul_eq]
  rw [wr_id (n := p.x * w) (by omega), wr_id (n := p.y * w) (by omega), wr_id (n := p.x * w - x) (by omega), wr_id (n := p.y * w - y) (by omega), wr_id (n := (p.x * w - x) * (p.x * w - x)) (by omega), wr_id (n := (p.y * w - y) * (p.y * w - y)) (by omega), wr_id (by omega)]

theorem bx_in {t : List Pt} {i : Int} (hi : i = 0 ∨ i = 1 ∨ i = 2) : (bx t).1 ≤ (pt t i).x ∧ (pt t i).x ≤ (bx t).2.2.1 ∧ (bx t).2.1 ≤ (pt t i).y ∧ (pt t i).y ≤ (bx t).2.2.2 := by
  unfold bx
  simp only
  rcases hi with e | e | e <;> subst e <;> omega

theorem meas_l6 {L : Nat} {b : List Int} {t : List Pt} {x y w : Int} {r14 : List Pt × Bool} (hb : By b) (h : Tri t) (c : CC t x y w) (hm : r14.2 = true → (Ev2 t 0 ∧ Ev2 t 1 ∧ Ev2 t 2) ∧ r14.1 = [md2 t 0, md2 t 1, md2 t 2]) (hL : 10000000 < L) : ∀ (m i : Nat), i ≤ 3 → 3 - i < m →
    laws_FnThreesMeasured_l6 L b t (x, y, w, true) r14 ((bx t).1, (bx t).2.1, (bx t).2.2.1, (bx t).2.2.2, true) (area t, true) (pt t 0) (pt t 0) (pt t 0) (pt t 0) m i = some true := by
  have tb := h.tb
  have hln := tb.ln
  intro m
  induction m with
  | zero => intro i _ h; omega
  | succ m ih =>
    intro i hi hm'
    rw [laws_FnThreesMeasured_l6]
    by_cases hlt : (i : Int) < 3
    · have wi : wr IntKind.i64 (iadd (i : Int) 1) = ((i + 1 : Nat) : Int) := by rw [iadd_eq, wr_s (by omega)]; omega
      have hc : (i : Int) = 0 ∨ (i : Int) = 1 ∨ (i : Int) = 2 := by omega
      obtain ⟨x1, x2, x3, x4⟩ := bx_in (t := t) hc
      have hI := (vwl h.good).1 i
      have e0 := inc_impl (L := L) h hI (by omega)
      rw [corner_on hc, show sg 0 * sg (area t) = 0 by simp [sg]] at e0
      have f1 := nr2_wr hI c.bx c.by' c.bw
      have f0 := nr2_wr tb.i0 c.bx c.by' c.bw
      rw [corner_far c hc] at f1
      simp only [ilen_mapep, hln, ilt_eq, ile_eq, hlt, show (0 : Int) ≤ (i : Int) by omega, decide_true, Bool.and_self, cond_true, lget_pt (show (0 : Int) ≤ i by omega) (show (i : Int) < (t.length : Int) by omega), gbind_eq, Option.bind_some, e0, f0, f1, ieq_eq, Bool.not_true, cond_false, show ¬ (pt t i).x < (bx t).1 by omega, show ¬ (bx t).2.2.1 < (pt t i).x by omega, show ¬ (pt t i).y < (bx t).2.1 by omega, show ¬ (bx t).2.2.2 < (pt t i).y by omega, decide_false, wi]
      exact ih (i + 1) (by omega) (by omega)
    · simp only [ilen_mapep, hln, ilt_eq, hlt, decide_false, cond_false, meas_j1 hb hL]
      by_cases h14 : r14.2 = true
      · obtain ⟨m1, m2⟩ := hm h14
        obtain ⟨q, q1, q2⟩ := middle_area (L := L) h m1 (by omega)
        have hA := area_in h
        have wq : wr IntKind.i64 (imul 4 q) = area t := by rw [imul_eq, wr_s (by omega), q2]
        simp only [h14, cond_true, m2, q1, gbind_eq, Option.bind_some, Bool.not_true, cond_false, wq, ieq_eq, decide_true]
      · have : r14.2 = false := by simpa using h14
        simp only [this, cond_false]

theorem hgt_law {A s : Int} (hs : 1 ≤ s) : (A * A).tdiv (Nat.gcd (A * A).natAbs s.natAbs : Int) * s = A * A * s.tdiv (Nat.gcd (A * A).natAbs s.natAbs : Int) := by
  have g1 : (Nat.gcd (A * A).natAbs s.natAbs : Int) ∣ A * A := Int.ofNat_dvd_left.2 (Nat.gcd_dvd_left _ _)
  have g2 : (Nat.gcd (A * A).natAbs s.natAbs : Int) ∣ s := Int.ofNat_dvd_left.2 (Nat.gcd_dvd_right _ _)
  have e1 := Int.tdiv_mul_cancel g1
  have e2 := Int.tdiv_mul_cancel g2
  generalize (Nat.gcd (A * A).natAbs s.natAbs : Int) = g at *
  generalize (A * A).tdiv g = u at *
  generalize s.tdiv g = v at *
  rw [← e1, ← e2, Int.mul_assoc, Int.mul_comm g v]

theorem l5_step {L : Nat} {b : List Int} {t : List Pt} {r6 : Int × Bool} {r8 : Int × Int × Int × Bool} {r14 : List Pt × Bool} {r16 : Int × Int × Int × Int × Bool} (h : Tri t) {m : Nat} {v i s : Int} (h0 : 0 ≤ i) (h3 : i < 3) (hs : lget (sds t) i = some s) (hh : lget (hgts t) i = some (hgt (area t) s)) (bs : 1 ≤ s ∧ s ≤ 12800) :
    laws_FnThreesMeasured_l5 L b t (sds t, true) (hgts t, true) r6 r8 r14 r16 (area t, true) (m + 1) v i = laws_FnThreesMeasured_l5 L b t (sds t, true) (hgts t, true) r6 r8 r14 r16 (area t, true) m (if v < s then s else v) (i + 1) := by
  have wi : wr IntKind.i64 (iadd i 1) = i + 1 := by rw [iadd_eq, wr_s (by omega)]
  have l1 : ilen (List.map eI (sds t)) = 3 := by rw [ilen_eq]; simp [sds]
  have l2 : ilen (List.map eLI (hgts t)) = 3 := by rw [ilen_eq]; simp [hgts, sds]
  have l3 : ilen (List.map eI (hgt (area t) s)) = 2 := by rw [ilen_eq]; simp [hgt]
  have g0 : lget (hgt (area t) s) 0 = some ((area t * area t).tdiv (Nat.gcd (area t * area t).natAbs s.natAbs : Int)) := by rw [lget_eq, if_pos (by simp)]; rfl
  have g1 : lget (hgt (area t) s) 1 = some (s.tdiv (Nat.gcd (area t * area t).natAbs s.natAbs : Int)) := by rw [lget_eq, if_pos (by simp)]; rfl
  have hA := area_in h
  have m1 := mul_bd (x := area t) (y := area t) (A := 13000) (B := 13000) hA hA
  have hl := hgt_law (A := area t) bs.1
  have q1 := tdiv_bd (a := area t * area t) (b := (Nat.gcd (area t * area t).natAbs s.natAbs : Int)) (A := 1000000000) (by omega)
  have q2 := tdiv_bd (a := s) (b := (Nat.gcd (area t * area t).natAbs s.natAbs : Int)) (A := 1000000) (by omega)
  have n1 := mul_bd (x := (area t * area t).tdiv (Nat.gcd (area t * area t).natAbs s.natAbs : Int)) (y := s) (A := 1000000000) (B := 1000000) q1 (by omega)
  have w1 : wr IntKind.i64 (imul ((area t * area t).tdiv (Nat.gcd (area t * area t).natAbs s.natAbs : Int)) s) = (area t * area t).tdiv (Nat.gcd (area t * area t).natAbs s.natAbs : Int) * s := by rw [imul_eq, wr_id (by omega)]
  have w2 : wr IntKind.i64 (imul (area t) (area t)) = area t * area t := by rw [imul_eq, wr_id (by omega)]
  have w3 : wr IntKind.i64 (imul (area t * area t) (s.tdiv (Nat.gcd (area t * area t).natAbs s.natAbs : Int))) = (area t * area t).tdiv (Nat.gcd (area t * area t).natAbs s.natAbs : Int) * s := by rw [imul_eq, ← hl, wr_id (by omega)]
  rw [laws_FnThreesMeasured_l5]
  simp only [l1, l2, l3, ilt_eq, ile_eq, h3, h0, decide_true, Bool.and_self, cond_true, hs, hh, g0, g1, gbind_eq, Option.bind_some, ieq_eq, Bool.not_true, cond_false, wi, w1, w2, w3]
  by_cases hv : v < s
  · simp only [hv, decide_true, cond_true, if_true]
  · simp only [hv, decide_false, cond_false, if_false]

theorem sg_gt (n : Int) : decide (0 < sg n) = decide (0 < n) := by
  have := sg_in n
  rw [decide_eq_decide]
  unfold sg
  by_cases h : 0 < n
  · rw [if_pos h]; omega
  · rw [if_neg h]
    by_cases h2 : n < 0
    · rw [if_pos h2]; omega
    · rw [if_neg h2]; omega
theorem sg_lt (n : Int) : decide (sg n < 0) = decide (n < 0) := by
  rw [decide_eq_decide]
  unfold sg
  by_cases h : 0 < n
  · rw [if_pos h]; omega
  · rw [if_neg h]
    by_cases h2 : n < 0
    · rw [if_pos h2]; omega
    · rw [if_neg h2]; omega

theorem great3 {a b c : Int} (ha : 1 ≤ a) (hb : 1 ≤ b) (hc : 1 ≤ c) : (if (if (if (0 : Int) < a then a else 0) < b then b else (if (0 : Int) < a then a else 0)) < c then c else (if (if (0 : Int) < a then a else 0) < b then b else (if (0 : Int) < a then a else 0))) = max (max a b) c := by
  rw [if_pos (show (0 : Int) < a by omega)]
  by_cases h : a < b
  · rw [if_pos h]
    by_cases h2 : b < c
    · rw [if_pos h2]; omega
    · rw [if_neg h2]; omega
  · rw [if_neg h]
    by_cases h2 : a < c
    · rw [if_pos h2]; omega
    · rw [if_neg h2]; omega

theorem meas_l5 {L : Nat} {b : List Int} {t : List Pt} {x y w : Int} {r14 : List Pt × Bool} (hb : By b) (h : Tri t) (c : CC t x y w) (hm : r14.2 = true → (Ev2 t 0 ∧ Ev2 t 1 ∧ Ev2 t 2) ∧ r14.1 = [md2 t 0, md2 t 1, md2 t 2]) (hL : 10000000 < L) :
    laws_FnThreesMeasured_l5 L b t (sds t, true) (hgts t, true) (sg (rst t), true) (x, y, w, true) r14 ((bx t).1, (bx t).2.1, (bx t).2.2.1, (bx t).2.2.2, true) (area t, true) L 0 0 = some true := by
  have tb := h.tb
  have hln := tb.ln
  have bs := sds_bd h
  have s0 : lget (sds t) 0 = some (dd (pt t 1) (pt t 2)) := by rw [lget_eq, if_pos (by simp [sds])]; rfl
  have s1 : lget (sds t) 1 = some (dd (pt t 2) (pt t 0)) := by rw [lget_eq, if_pos (by simp [sds])]; rfl
  have s2 : lget (sds t) 2 = some (dd (pt t 0) (pt t 1)) := by rw [lget_eq, if_pos (by simp [sds])]; rfl
  have h0 : lget (hgts t) 0 = some (hgt (area t) (dd (pt t 1) (pt t 2))) := by rw [lget_eq, if_pos (by simp [hgts, sds])]; rfl
  have h1 : lget (hgts t) 1 = some (hgt (area t) (dd (pt t 2) (pt t 0))) := by rw [lget_eq, if_pos (by simp [hgts, sds])]; rfl
  have h2 : lget (hgts t) 2 = some (hgt (area t) (dd (pt t 0) (pt t 1))) := by rw [lget_eq, if_pos (by simp [hgts, sds])]; rfl
  have b0 := bs (dd (pt t 1) (pt t 2)) (by simp [sds])
  have b1 := bs (dd (pt t 2) (pt t 0)) (by simp [sds])
  have b2 := bs (dd (pt t 0) (pt t 1)) (by simp [sds])
  have k6 := meas_l6 (L := L) (r14 := r14) hb h c hm hL L 0 (by omega) (by omega)
  have l1 : ilen (List.map eI (sds t)) = 3 := by rw [ilen_eq]; simp [sds]
  have er : wr IntKind.i64 (isub (wr IntKind.i64 (iadd (wr IntKind.i64 (iadd (dd (pt t 1) (pt t 2)) (dd (pt t 2) (pt t 0)))) (dd (pt t 0) (pt t 1)))) (wr IntKind.i64 (imul 2 (max (max (dd (pt t 1) (pt t 2)) (dd (pt t 2) (pt t 0))) (dd (pt t 0) (pt t 1)))))) = rst t :=
    (ang_wr (by omega) (by omega) (by omega)).2
  obtain ⟨n, hn⟩ : ∃ n, L = n + 4 := ⟨L - 4, by omega⟩
  have key : laws_FnThreesMeasured_l5 L b t (sds t, true) (hgts t, true) (sg (rst t), true) (x, y, w, true) r14 ((bx t).1, (bx t).2.1, (bx t).2.2.1, (bx t).2.2.2, true) (area t, true) (n + 4) 0 0 = some true := by
    rw [l5_step (m := n + 3) h (by omega) (by omega) s0 h0 (by omega)]
    simp only [Int.zero_add]
    rw [l5_step (m := n + 2) h (by omega) (by omega) s1 h1 (by omega)]
    simp only [show (1 : Int) + 1 = 2 from rfl]
    rw [l5_step (m := n + 1) h (by omega) (by omega) s2 h2 (by omega)]
    simp only [show (2 : Int) + 1 = 3 from rfl]
    rw [great3 b0.1 b1.1 b2.1, laws_FnThreesMeasured_l5]
    simp only [l1, ilt_eq, ile_eq, Int.lt_irrefl, decide_false, cond_false, Int.le_refl, show (0 : Int) < 3 by omega, show (1 : Int) < 3 by omega, show (2 : Int) < 3 by omega, show (0 : Int) ≤ 1 by omega, show (0 : Int) ≤ 2 by omega, decide_true, Bool.and_self, cond_true, s0, s1, s2, gbind_eq, Option.bind_some, er, beqb_eq, sg_gt, sg_lt, BEq.rfl, Bool.not_true, ilen_mapep, hln, tb.l0]
    exact k6
  rw [← hn] at key
  exact key
end Go.AM

namespace Go.AM
set_option linter.unusedVariables false

theorem zRows_l0 {L : Nat} {a : List (List Int)} (hs : (a.length : Int) ≤ 1000) (hl : ∀ l ∈ a, (l.length : Int) ≤ 10) (hL : 1000 < L) : ∀ (m i : Nat), i ≤ a.length → a.length - i < m → laws_zRows_l0 L a a m i = some true := by
  intro m
  induction m with
  | zero => intro i _ h; omega
  | succ m ih =>
    intro i hi hm
    rw [laws_zRows_l0]
    have hlen : ilen (List.map eLI a) = (a.length : Int) := by rw [ilen_eq]; simp
    by_cases h : (i : Int) < (a.length : Int)
    · have hlt : i < a.length := by omega
      have wi : wr IntKind.i64 (iadd (i : Int) 1) = ((i + 1 : Nat) : Int) := by rw [iadd_eq, wr_s (by omega)]; omega
      have hg : lget a (i : Int) = some a[i] := by rw [lget_eq, if_pos (by omega), Int.toNat_natCast, List.getElem?_eq_getElem hlt]
      have hb := hl a[i] (List.getElem_mem hlt)
      simp only [hlen, ilt_eq, h, decide_true, cond_true, hg, gbind_eq, Option.bind_some, zSame_eq (L := L) (a := a[i]) (by omega) (by omega), Bool.not_true, cond_false, wi]
      exact ih (i + 1) (by omega) (by omega)
    · simp only [hlen, ilt_eq, h, decide_false, cond_false]

theorem zRows_eq {L : Nat} {a : List (List Int)} (hs : (a.length : Int) ≤ 1000) (hl : ∀ l ∈ a, (l.length : Int) ≤ 10) (hL : 1000 < L) : laws_zRows L a a = some true := by
  unfold laws_zRows
  simp only [ieq_eq, decide_true, Bool.not_true, cond_false]
  exact zRows_l0 hs hl hL L 0 (by omega) (by omega)

theorem twice_eq' {L : Nat} {t : List Pt} (h : Tri t) (hL : 20 < L) : impl_TwiceArea L t = some (area t, true) := by
  have tb := h.tb
  have hln := tb.ln
  unfold impl_TwiceArea
  rw [impl_IsPolygon_eq (by omega)]
  simp only [h.good, decide_true, Bool.not_true, cond_false, gbind_eq, Option.bind_some, impl_twice_eq (L := L) tb.nn (show (t.length : Int) ≤ 1000 by omega) (show (t.length : Int) < L by omega) tb.nr]

theorem meas_j0 {L : Nat} {b : List Int} {t : List Pt} {x y w : Int} {r14 : List Pt × Bool} (hb : By b) (h : Tri t) (c : CC t x y w) (hm : r14.2 = true → (Ev2 t 0 ∧ Ev2 t 1 ∧ Ev2 t 2) ∧ r14.1 = [md2 t 0, md2 t 1, md2 t 2]) (hL : 10000000 < L) :
    laws_FnThreesMeasured_j0 L b t (sds t, true) (hgts t, true) (sg (rst t), true) (x, y, w, true) ((cen t).x, (cen t).y, true) (decide ((cen t).x.tmod 3 = 0) && decide ((cen t).y.tmod 3 = 0), true) r14 ((bx t).1, (bx t).2.1, (bx t).2.2.1, (bx t).2.2.2, true) = some true := by
  have k := meas_l5 (L := L) hb h c hm hL
  have cw := c.bw
  have l1 : ilen (List.map eI (sds t)) = 3 := by rw [ilen_eq]; simp [sds]
  have l2 : ilen (List.map eLI (hgts t)) = 3 := by rw [ilen_eq]; simp [hgts, sds]
  unfold laws_FnThreesMeasured_j0 laws_FnThreesMeasured_j4
  simp only [cond_true, twice_eq' h (show 20 < L by omega), gbind_eq, Option.bind_some, Bool.not_true, cond_false, l1, l2, ieq_eq, decide_true, ilt_eq, show ¬ w < 1 by omega, show ¬ (3 : Int) = 0 by omega, decide_false, irem_eq, beqb_eq]
  by_cases e1 : (cen t).x.tmod 3 = 0
  · simp only [e1, decide_true, cond_true, Bool.true_and, BEq.rfl, Bool.not_true, cond_false, k]
  · simp only [e1, decide_false, cond_false, Bool.false_and, BEq.rfl, Bool.not_true, k]

theorem threesMeasured_law (a b : List Int) (ha : By a) (hb : By b) : ∃ L, laws_FnThreesMeasured L a b = some true := by
  refine ⟨1000000000000, ?_⟩
  generalize hLL : (1000000000000 : Nat) = L
  have hL : 10000000 < L := by omega
  clear hLL
  unfold laws_FnThreesMeasured
  obtain ⟨r, hr⟩ := big_eq (L := L) (a := a) (b := b)
  simp only [hr, gbind_eq, Option.bind_some]
  cases r with
  | true => rfl
  | false =>
    obtain ⟨t, d1, l1⟩ := drawSides_dr (L := L) ha (by omega)
    obtain ⟨p2, s2, i2, b2, t2, n2⟩ := sidesOf_eq (L := L) (t := t) (by omega)
    obtain ⟨p4, s4, i4, b4, c4, t4, n4⟩ := heightsOf_eq (L := L) (t := t) (by omega)
    obtain ⟨p6, s6, i6, t6, n6⟩ := angle_eq (L := L) (t := t) (by omega)
    obtain ⟨p8, s8, i8, n8, t8⟩ := circle_eq (L := L) (t := t) hL
    obtain ⟨p10, s10, i10, t10, n10⟩ := thrice_eq (L := L) (t := t) (by omega)
    obtain ⟨p12, s12, i12, t12, n12⟩ := hasCentre_eq (L := L) (t := t) (by omega)
    obtain ⟨p14, s14, i14, b14, m14⟩ := middle_eq (L := L) (t := t) (by omega)
    obtain ⟨p16, s16, i16, t16, n16⟩ := boxOf_eq (L := L) (t := t) (by omega)
    have z2 := zSame_eq (L := L) (a := p2.1) (by omega) (by omega)
    have z4 := zRows_eq (L := L) (a := p4.1) (by omega) (fun l hl => by have := c4 l hl; omega) (by omega)
    have z14 := zPegs_eq (L := L) (a := p14.1) (by omega) (by omega)
    simp only [cond_false, d1, s2, i2, s4, i4, s6, i6, s8, i8, s10, i10, s12, i12, s14, i14, s16, i16, z2, z4, Option.bind_some, beqb_eq, BEq.rfl, Bool.not_true]
    unfold laws_FnThreesMeasured_j7
    simp only [cond_false, ieq_eq, decide_true, Bool.not_true, beqb_eq, BEq.rfl]
    unfold laws_FnThreesMeasured_j8
    simp only [cond_false, ieq_eq, decide_true, Bool.not_true, beqb_eq, BEq.rfl]
    unfold laws_FnThreesMeasured_j9
    simp only [cond_false, ieq_eq, decide_true, Bool.not_true, beqb_eq, BEq.rfl, z14, gbind_eq, Option.bind_some]
    unfold laws_FnThreesMeasured_j10
    simp only [cond_false, ieq_eq, decide_true, Bool.not_true, beqb_eq, BEq.rfl, Bool.and_self]
    by_cases h : Tri t
    · obtain ⟨e8, c8⟩ := t8 h
      obtain ⟨x, y, w, f⟩ := p8
      simp only at e8 c8
      subst e8
      have k := meas_j0 (L := L) (r14 := p14) hb h c8 (fun q => (m14 q).2) hL
      rw [t2 h, t4 h, t6 h, t10 h, t12 h, t16 h]
      unfold laws_FnThreesMeasured_j11
      simp only [cond_false, Bool.not_true, beqb_eq, BEq.rfl]
      unfold laws_FnThreesMeasured_j12
      simp only [cond_false, Bool.not_true, beqb_eq, BEq.rfl, k]
      cases p14.2 <;> rfl
    · have k := meas_j1 (L := L) hb hL
      have e14 : p14.2 = false := by
        cases hq : p14.2 with
        | false => rfl
        | true => exact absurd (m14 hq).1 h
      rw [n2 h, n4 h, n6 h, n8 h, n10 h, n12 h, n16 h]
      unfold laws_FnThreesMeasured_j11
      simp only [cond_false, Bool.not_true, beqb_eq, BEq.rfl]
      unfold laws_FnThreesMeasured_j12
      simp only [cond_false, Bool.not_true, beqb_eq, BEq.rfl, e14]
      unfold laws_FnThreesMeasured_j0
      simp only [cond_false, k]
end Go.AM

