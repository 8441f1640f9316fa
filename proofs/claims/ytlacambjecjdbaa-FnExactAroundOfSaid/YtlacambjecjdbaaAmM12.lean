import Derived.Test.YtlacambjecjdbaaAmM11
set_option linter.unusedVariables false
set_option linter.unusedSimpArgs false
set_option linter.unnecessarySimpa false
/-! The law's own functions. -/
namespace Go.AM
set_option linter.unusedVariables false

theorem eqPegS_l0 {L : Nat} {a : List Pt} (hs : (a.length : Int) ≤ 1100000) : ∀ (m : Nat) (v : Int), 0 ≤ v → v ≤ a.length → (a.length : Int) - v < m → laws_eqPegS_l0 L a a m v = some true
  | 0, _, _, _, h => by omega
  | m + 1, v, h0, hv, hm => by
    by_cases h : v < (a.length : Int)
    · simp only [laws_eqPegS_l0, laws_eqPeg, ilt_eq, ilen_mapep, h, decide_true, cond_true, gbind_eq, lget_pt h0 h, Option.bind_some, ieq_eq, Bool.not_true, cond_false, iadd_eq, wr_id (n := v + 1) (by omega)]
      exact eqPegS_l0 hs m (v + 1) (by omega) (by omega) (by omega)
    · simp only [laws_eqPegS_l0, ilt_eq, ilen_mapep, h, decide_false, cond_false]

theorem eqPegS_eq {L : Nat} {a : List Pt} (hs : (a.length : Int) ≤ 1100000) (hL : (a.length : Int) < L) : laws_eqPegS L a a = some true := by
  unfold laws_eqPegS
  simp only [ieq_eq, decide_true, Bool.not_true, cond_false]
  exact eqPegS_l0 hs L 0 (Int.le_refl _) (by omega) (by omega)

def mkd (n : Nat) : List Pt := (List.range n).map fun (j : Nat) => ⟨1 + 2 * (j : Int), 2 + 2 * (j : Int)⟩
theorem mkd_len (n : Nat) : (mkd n).length = n := by simp [mkd]
theorem mkd_succ (n : Nat) : mkd (n + 1) = mkd n ++ [⟨1 + 2 * (n : Int), 2 + 2 * (n : Int)⟩] := by simp [mkd, List.range_succ]

theorem set_mid {pre rest : List Pt} {i : Nat} {p x : Pt} (h : pre.length = i) : (pre ++ p :: rest).set i x = pre ++ x :: rest := by
  subst h; simp

theorem mark_l0 {L : Nat} {a : List Pt} (hs : (a.length : Int) ≤ 1100000) : ∀ (m i : Nat), i ≤ a.length → (a.length : Int) - i < m → laws_markPegS_l0 L m (1 + 2 * (i : Int)) i (mkd i ++ a.drop i) = some (1 + 2 * (a.length : Int), mkd a.length)
  | 0, _, _, h => by omega
  | m + 1, i, hi, hm => by
    have hl : ((mkd i ++ a.drop i).length : Int) = a.length := by simp [mkd_len]; omega
    by_cases h : i < a.length
    · obtain ⟨p, hp⟩ : ∃ p, a.drop i = p :: a.drop (i + 1) := ⟨a[i], List.drop_eq_getElem_cons h⟩
      have g1 : lget (mkd i ++ p :: a.drop (i + 1)) (i : Int) = some p := by
        rw [lget_eq, if_pos (by omega), Int.toNat_natCast, List.getElem?_append_right (by rw [mkd_len]; omega), mkd_len]; simp
      have s1 : ∀ x, lset (mkd i ++ p :: a.drop (i + 1)) (i : Int) x = mkd i ++ x :: a.drop (i + 1) := fun x => by
        rw [lset_eq, Int.toNat_natCast, set_mid (mkd_len i)]
      have g2 : ∀ x, lget (mkd i ++ x :: a.drop (i + 1)) (i : Int) = some x := fun x => by
        rw [lget_eq, if_pos (by omega), Int.toNat_natCast, List.getElem?_append_right (by rw [mkd_len]; omega), mkd_len]; simp
      have s2 : ∀ x y, lset (mkd i ++ x :: a.drop (i + 1)) (i : Int) y = mkd i ++ y :: a.drop (i + 1) := fun x y => by
        rw [lset_eq, Int.toNat_natCast, set_mid (mkd_len i)]
      rw [hp] at hl
      have hlt : (i : Int) < (a.length : Int) := by omega
      rw [hp]
      have hsl : ∀ v : AV, ilen (lset (List.map ep (mkd i ++ p :: a.drop (i + 1))) (i : Int) v) = (a.length : Int) := fun v => by
        rw [ilen_eq, lset_eq, List.length_set, List.length_map, hl]
      simp only [laws_markPegS_l0, ilt_eq, ile_eq, ilen_mapep, hl, hsl, hlt, show 0 ≤ (i : Int) by omega, decide_true, Bool.and_self, cond_true, gbind_eq, g1, s1, g2, s2, Option.bind_some, iadd_eq, wr_id (n := 1 + 2 * (i : Int) + 1) (by omega), wr_id (n := 1 + 2 * (i : Int) + 1 + 1) (by omega), wr_id (n := (i : Int) + 1) (by omega)]
      have e : mkd i ++ { x := 1 + 2 * (i : Int), y := 1 + 2 * (i : Int) + 1 } :: a.drop (i + 1) = mkd (i + 1) ++ a.drop (i + 1) := by
        rw [mkd_succ, List.append_assoc]
        simp
        omega
      rw [e]
      have := mark_l0 (L := L) hs m (i + 1) (by omega) (by omega)
      rw [show (1 + 2 * (i : Int) + 1 + 1) = 1 + 2 * ((i + 1 : Nat) : Int) by omega]
      exact this
    · have e : i = a.length := by omega
      subst e
      simp only [laws_markPegS_l0, ilt_eq, ilen_mapep, hl, Int.lt_irrefl, decide_false, cond_false]
      simp

theorem mark_eq {L : Nat} {a : List Pt} (hs : (a.length : Int) ≤ 1100000) (hL : (a.length : Int) < L) : laws_markPegS L a 1 = some (1 + 2 * (a.length : Int), mkd a.length) := by
  have := mark_l0 (L := L) hs L 0 (by omega) (by omega)
  simpa [mkd, laws_markPegS] using this

theorem held_l0 {L : Nat} {n : Nat} (hs : (n : Int) ≤ 1100000) : ∀ (m i : Nat), i ≤ n → (n : Int) - i < m → laws_heldPegS_l0 L (mkd n) m (1 + 2 * (i : Int)) i = some (1 + 2 * (n : Int))
  | 0, _, _, h => by omega
  | m + 1, i, hi, hm => by
    by_cases h : (i : Int) < (n : Int)
    · have g1 : lget (mkd n) (i : Int) = some ⟨1 + 2 * (i : Int), 2 + 2 * (i : Int)⟩ := by
        have hin : i < n := by omega
        rw [lget_eq, if_pos (by omega), Int.toNat_natCast]; simp [mkd, hin]
      simp only [laws_heldPegS_l0, ilt_eq, ieq_eq, ilen_mapep, mkd_len, h, g1, decide_true, Bool.not_true, cond_true, cond_false, gbind_eq, Option.bind_some, iadd_eq, wr_id (n := 1 + 2 * (i : Int) + 1) (by omega), wr_id (n := 1 + 2 * (i : Int) + 1 + 1) (by omega), wr_id (n := (i : Int) + 1) (by omega),
        show (2 + 2 * (i : Int) = 1 + 2 * (i : Int) + 1) = True from eq_true (by omega)]
      have := held_l0 (L := L) hs m (i + 1) (by omega) (by omega)
      rw [show (1 + 2 * (i : Int) + 1 + 1) = 1 + 2 * ((i + 1 : Nat) : Int) by omega]
      exact this
    · have e : i = n := by omega
      subst e
      simp only [laws_heldPegS_l0, ilt_eq, ilen_mapep, mkd_len, h, decide_false, cond_false]

theorem held_eq {L n : Nat} (hs : (n : Int) ≤ 1100000) (hL : (n : Int) < L) : laws_heldPegS L (mkd n) 1 = some (1 + 2 * (n : Int)) := by
  have := held_l0 (L := L) hs L 0 (by omega) (by omega)
  simpa [laws_heldPegS] using this

theorem toPegS_l0 {L : Nat} {a : List Pt} (hs : (a.length : Int) ≤ 1100000) : ∀ (m i : Nat) (w : List Pt), i ≤ a.length → w.length = a.length → (a.length : Int) - i < m → w.take i = a.take i → laws_toPegS_l0 L a m i w = some a
  | 0, _, _, _, _, h, _ => by omega
  | m + 1, i, w, hi, hw, hm, ht => by
    by_cases h : (i : Int) < (a.length : Int)
    · have hwl : (w.length : Int) = a.length := by omega
      have gw : ∃ x, lget w (i : Int) = some x := ⟨w[i]'(by omega), by rw [lget_eq, if_pos (by omega), Int.toNat_natCast]; exact List.getElem?_eq_getElem _⟩
      obtain ⟨x, gw⟩ := gw
      simp only [laws_toPegS_l0, laws_toPeg, ilt_eq, ile_eq, ilen_mapep, hwl, h, show 0 ≤ (i : Int) by omega, decide_true, Bool.and_self, cond_true, gbind_eq, lget_pt (show 0 ≤ (i : Int) by omega) h, gw, Option.bind_some, iadd_eq, wr_id (n := (i : Int) + 1) (by omega)]
      refine toPegS_l0 hs m (i + 1) _ (by omega) (by rw [lset_eq]; simp [hw]) (by omega) ?_
      have hp := pt_get (a := a) (i := (i : Int)) (by omega) h
      rw [Int.toNat_natCast] at hp
      rw [lset_eq, Int.toNat_natCast, List.take_add_one, List.take_add_one, List.take_set_of_le (by omega), ht, hp, List.getElem?_set, if_pos rfl, if_pos (by omega)]
    · have e : i = a.length := by omega
      subst e
      simp only [laws_toPegS_l0, ilt_eq, ilen_mapep, h, decide_false, cond_false]
      rw [List.take_of_length_le (by omega), List.take_of_length_le (by omega)] at ht
      rw [ht]

theorem toPegS_eq {L : Nat} {a : List Pt} (hs : (a.length : Int) ≤ 1100000) (hL : (a.length : Int) < L) : laws_toPegS L a = some a := by
  unfold laws_toPegS
  simp only [ile_eq, ilen_mapep, Int.le_refl, show 0 ≤ (a.length : Int) by omega, decide_true, Bool.and_self, fits_s (n := (a.length : Int)) (b := 16) (by omega), cond_true]
  exact toPegS_l0 (L := L) hs L 0 _ (by omega) (by rw [lrep_eq]; simp) (by omega) (by simp)

theorem aroundOf_law (a : List Pt) (hmax : (a.length : Int) ≤ 9223372036854775807) : ∃ L, laws_FnExactAroundOf L a = some true := by
  refine ⟨2000000, ?_⟩
  unfold laws_FnExactAroundOf laws_szPegS
  simp only [ilen_mapep, isub_eq, ilt_eq]
  by_cases hl : (a.length : Int) ≤ 1048576
  · rw [wr_id (by omega)]
    have h1 : ¬ (1048576 - (a.length : Int) < 0) := by omega
    obtain ⟨r, r1, r2, r3⟩ := aroundOf_eq (L := 2000000) (a := a) (by omega)
    simp only [h1, decide_false, cond_false, gbind_eq, Option.bind_some, toPegS_eq (L := 2000000) (a := a) (by omega) (by omega), r1, r2, eqPegS_eq (L := 2000000) (a := r.1) (by omega) (by omega), eqPegS_eq (L := 2000000) (a := a) (by omega) (by omega),
      mark_eq (L := 2000000) (a := a) (by omega) (by omega), mark_eq (L := 2000000) (a := r.1) (by omega) (by omega), held_eq (L := 2000000) (n := r.1.length) (by omega) (by omega), beqb_eq, beq_self_eq_true, Bool.not_true, ieq_eq, decide_true,
      show ¬ (1 + 2 * (a.length : Int) < 0) by omega, show ¬ (1 + 2 * (r.1.length : Int) < 0) by omega]
  · have hw : wr .i64 (1048576 - (a.length : Int)) < 0 := by
      rw [wr_id (by omega)]; omega
    simp only [hw, decide_true, cond_true, gbind_eq, Option.bind_some]
    rfl
end Go.AM
