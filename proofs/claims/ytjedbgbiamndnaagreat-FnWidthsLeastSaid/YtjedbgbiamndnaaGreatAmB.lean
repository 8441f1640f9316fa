import Derived.Laws.Rows
import Derived.Orders
import Derived.Test.YtjedbgbiamndnaaGreatAmA
set_option linter.unusedVariables false
set_option linter.unusedSimpArgs false
set_option linter.unnecessarySimpa false
set_option linter.deprecated false
set_option linter.unusedSectionVars false
namespace Go.AM
section
variable {P : Program} {T : TypeId → Option TI} {o : Oper} {tm : List AV} {hp : List Blk} {κ : AV → List Blk → R} {r : AV × List Blk}
theorem good_nil {g : G} {H : List Blk} {w : World} {τ E : Nat} {m : Mode} {xs : List AV} (hg : Good g H w) (hd : g.dom τ) (hb : H[τ]? = some (.rows m E xs)) (hm : m ≠ .dead) (hρ : g.ρ τ = none) : xs = [] := by
  obtain ⟨blk, h1, h2⟩ := hg.tok τ hd
  rw [hb] at h1
  cases h1
  cases m with
  | dead => exact absurd rfl hm
  | live =>
    rcases h2 with ⟨_, h⟩ | ⟨b, o, h, _⟩
    · exact h
    · rw [hρ] at h; cases h
  | frozen =>
    rcases h2 with ⟨_, h⟩ | ⟨b, o, h, _⟩
    · exact h
    · rw [hρ] at h; cases h
theorem own_slice {g : G} {H : List Blk} {w : World} {t e : TypeId} {τ E : Nat} (hu : (Go.underlying t).run P w = .ok (.slice e) w) (hs : (Go.sizeOf e).run P w = .ok E w)
    {rr : Option (Int × Int)} {c c' : Bool} {v : Value} {m : Mode} {xs : List AV}
    (hg : Good g H w) (h : V1 g H w (.own τ E rr c) v) (hb : H[τ]? = some (.rows m E xs)) (hm : m ≠ .dead) {lo hi mx : Option Int} {lv hv mv : Option Value} (h1 : OptRel lo lv) (h2 : OptRel hi hv) (h3 : OptRel mx mv) {L Hh : Nat}
    (hL : (lo = none ∧ L = 0) ∨ (lo = some (L : Int))) (hH : (hi = none ∧ mx = none ∧ (Hh : Int) = (rngD rr xs).2) ∨ hi = some (Hh : Int)) (hle : (rngD rr xs).1 + Hh ≤ xs.length) (hLH : L ≤ Hh)
    (hc : (mx = none ∧ ((c' = c ∧ hi = none) ∨ (c' = false ∧ (c = false ∨ rr = none)))) ∨ (mx = some (Hh : Int) ∧ c' = true ∧ hi = some (Hh : Int) ∧ (c = false ∨ rr = none))) :
    ∃ vv, (Instr.sliceAt t v lv hv mv).run P w = .ok vv w ∧ V3 g H w (.own τ E (some ((rngD rr xs).1 + L, (Hh : Int) - L)) c') vv := by
  obtain ⟨hd, h⟩ := own_shape h hb hm
  rcases h with ⟨hρ, ⟨A, rfl⟩, hr⟩ | ⟨b, base, k, cap, oN, lN, hρ, rfl, hk, hlc, hcc, hcap, hun, hr, hol⟩
  · rw [hr] at hH hle ⊢
    simp only at hH hle ⊢
    have hx := good_nil hg hd hb hm hρ
    subst hx
    have hh0 : Hh = 0 := by simp at hle; omega
    subst hh0
    have hl0 : L = 0 := by omega
    subst hl0
    have hrun := slice_run (A := A) (len := 0) (cap := 0) hu hs h1 h2 h3 (M := 0) (H := 0) (L := 0) (by
      rcases hc with ⟨h, _⟩ | ⟨h, _⟩
      · exact .inl ⟨h, rfl⟩
      · exact .inr ⟨h, Nat.le_refl _⟩) (by
      rcases hH with ⟨h, h', e⟩ | h
      · exact .inl ⟨h, h', rfl⟩
      · exact .inr ⟨h, Nat.le_refl _⟩) (hL.imp id fun h => ⟨h, Nat.le_refl _⟩)
    refine ⟨_, hrun, hd, ?_⟩
    rw [hρ]
    exact ⟨⟨A, by simp⟩, by simp, by simp⟩
  · rw [hr] at hH hle ⊢
    simp only at hH hle ⊢
    have hHM : ∃ M, Hh ≤ M ∧ ((mx = none ∧ M = cap) ∨ (mx = some (M : Int) ∧ M ≤ cap)) ∧ (c' = true → M = Hh) ∧ (c' = false → xs.length ≤ oN + M) ∧ M ≤ cap := by
      rcases hc with ⟨rfl, hc⟩ | ⟨rfl, rfl, rfl, hc⟩
      · refine ⟨cap, ?_, .inl ⟨rfl, rfl⟩, ?_, ?_, Nat.le_refl _⟩
        · rcases hc with ⟨_, rfl⟩ | ⟨_, hc⟩
          · rcases hH with ⟨_, _, e⟩ | h
            · omega
            · cases h
          · have := hcap hc; omega
        · intro e
          rcases hc with ⟨rfl, rfl⟩ | ⟨rfl, hc⟩
          · rcases hH with ⟨_, _, e'⟩ | h
            · have := hcc e; omega
            · cases h
          · cases e
        · intro e
          rcases hc with ⟨rfl, rfl⟩ | ⟨_, hc⟩
          · exact hcap (.inl e)
          · exact hcap hc
      · have := hcap hc
        exact ⟨Hh, Nat.le_refl _, .inr ⟨rfl, by omega⟩, fun _ => rfl, fun e => by (cases e), by omega⟩
    obtain ⟨M, hHM, hM, hct, hcf, hMc⟩ := hHM
    have hrun := slice_run (A := some ⟨b, k, none⟩) (len := lN) (cap := cap) hu hs h1 h2 h3 (M := M) (H := Hh) (L := L) hM (by
      rcases hH with ⟨h, h', e⟩ | h
      · exact .inl ⟨h, h', by omega⟩
      · exact .inr ⟨h, hHM⟩) (hL.imp id fun h => ⟨h, hLH⟩)
    refine ⟨_, hrun, hd, ?_⟩
    rw [hρ]
    have haddr : (if M = L then some ⟨b, k, none⟩ else offA (some ⟨b, k, none⟩) (L * E)) = some (⟨b, if M = L then k else k + L * E, none⟩ : Addr) := by
      split <;> simp [offA, addr_add]
    rw [haddr]
    refine ⟨_, oN + L, Hh - L, M - L, rfl, ?_, by omega, fun e => by rw [hct e], fun e m' E' ys hy hm' => ?_, ?_, by omega, by omega, fun m' E' ys hy hm' => ?_⟩
    · by_cases hml : M = L
      · right; omega
      · left
        have hk := hk.resolve_right (by omega)
        rw [if_neg hml, hk, Nat.add_mul, Nat.add_assoc]
    · rw [hb] at hy; cases hy
      have := hcf e; omega
    · refine hun.le ?_
      have : oN + L + (M - L) ≤ oN + cap := by omega
      have := Nat.mul_le_mul_right E this
      omega
    · rw [hb] at hy; cases hy
      omega
theorem str_slice {w : World} {t : TypeId} (hu : (Go.underlying t).run P w = .ok .string w) {l : List UInt8} {lo hi : Option Int} {lv hv : Option Value} (h1 : OptRel lo lv) (h2 : OptRel hi hv) {L Hh : Nat}
    (hL : (lo = none ∧ L = 0) ∨ (lo = some (L : Int))) (hH : (hi = none ∧ Hh = l.length) ∨ hi = some (Hh : Int)) (hLH : L ≤ Hh) (hle : Hh ≤ l.length) :
    (Instr.sliceAt t (.string ⟨⟨l⟩⟩) lv hv none).run P w = .ok (.string ⟨⟨lsub l L Hh⟩⟩) w := by
  have hsz : (⟨⟨l⟩⟩ : ByteArray).size = l.length := rfl
  have hb := sliceBounds_run (P := P) (w := w) (isS := false) (len := l.length) (cap := l.length) h1 h2 (mx := none) (mv := none) (.inl ⟨rfl, rfl⟩) (M := l.length) (H := Hh) (L := L) (.inl ⟨rfl, rfl⟩)
    (hH.imp (fun h => ⟨h.1, rfl, h.2⟩) fun h => ⟨h, hle⟩) (hL.imp id fun h => ⟨h, hLH⟩)
  have e : (⟨⟨l⟩⟩ : ByteArray).extract L Hh = ⟨⟨lsub l L Hh⟩⟩ := by
    apply ByteArray.ext
    rw [ByteArray.data_extract]
    apply Array.ext'
    simp only [lsub_eq, List.extract_toArray, List.extract_eq_take_drop]
    congr 1
    omega
  simp [Instr.sliceAt, hu, Instr.slice, hsz, hb, e]
theorem nil_slice {w : World} {t e : TypeId} {E : Nat} (hu : (Go.underlying t).run P w = .ok (.slice e) w) (hs : (Go.sizeOf e).run P w = .ok E w) {A : Option Addr} {lo hi mx : Option Int} {lv hv mv : Option Value}
    (h1 : OptRel lo lv) (h2 : OptRel hi hv) (h3 : OptRel mx mv) (hL : lo = none ∨ lo = some 0) (hH : (hi = none ∧ mx = none) ∨ hi = some 0) (hM : mx = none ∨ mx = some 0) :
    (Instr.sliceAt t (.slice A 0 0) lv hv mv).run P w = .ok (.slice A 0 0) w := by
  have := slice_run (A := A) (len := 0) (cap := 0) hu hs h1 h2 h3 (M := 0) (H := 0) (L := 0) (hM.imp (fun h => ⟨h, rfl⟩) fun h => ⟨h, Nat.le_refl _⟩)
    (hH.imp (fun h => ⟨h.1, h.2, rfl⟩) fun h => ⟨h, Nat.le_refl _⟩) (hL.imp (fun h => ⟨h, rfl⟩) fun h => ⟨h, Nat.le_refl _⟩)
  simpa using this
theorem lst_slice' {g : G} {H : List Blk} {w : World} {t e : TypeId} {E : Nat} (hu : (Go.underlying t).run P w = .ok (.slice e) w) (hs : (Go.sizeOf e).run P w = .ok E w)
    {oo c c' : Bool} {v : Value} {xs : List AV} (h : V3 g H w (.lst oo c E xs) v) {lo hi mx : Option Int} {lv hv mv : Option Value} (h1 : OptRel lo lv) (h2 : OptRel hi hv) (h3 : OptRel mx mv) {L Hh : Nat}
    (hL : (lo = none ∧ L = 0) ∨ (lo = some (L : Int))) (hH : (hi = none ∧ mx = none ∧ Hh = xs.length) ∨ hi = some (Hh : Int)) (hle : Hh ≤ xs.length) (hLH : L ≤ Hh)
    (hc : (mx = none ∧ ((c' = c ∧ hi = none) ∨ c' = false)) ∨ (mx = some (Hh : Int) ∧ hi = some (Hh : Int))) :
    ∃ vv, (Instr.sliceAt t v lv hv mv).run P w = .ok vv w ∧ V3 g H w (.lst oo c' E (lsub xs L Hh)) vv := by
  have h' := h
  simp only [V3, V2, V1, PCell] at h'
  obtain ⟨A, cap, rfl, hcap, hcc, _⟩ := h'
  have hM : ∃ M, ((mx = none ∧ M = cap) ∨ (mx = some (M : Int) ∧ M ≤ cap)) ∧ Hh ≤ M ∧ (c' = true → M = Hh) := by
    rcases hc with ⟨rfl, hc⟩ | ⟨rfl, rfl⟩
    · refine ⟨cap, .inl ⟨rfl, rfl⟩, by omega, fun e => ?_⟩
      rcases hc with ⟨rfl, rfl⟩ | rfl
      · rcases hH with ⟨_, _, h⟩ | h
        · rw [h, hcc e]
        · cases h
      · cases e
    · exact ⟨Hh, .inr ⟨rfl, by omega⟩, Nat.le_refl _, fun _ => rfl⟩
  obtain ⟨M, hM, hHM, hct⟩ := hM
  exact ⟨_, slice_run hu hs h1 h2 h3 hM (hH.imp id fun h => ⟨h, hHM⟩) (hL.imp id fun h => ⟨h, hLH⟩), lst_slice h hLH hHM hle hct⟩
theorem sliceK_nil {E : Nat} {lo hi mx : Option Int} {κ : AV → R} (h : sliceK hp .nil E lo hi mx κ = some r) :
    κ .nil = some r ∧ (lo = none ∨ lo = some 0) ∧ ((hi = none ∧ mx = none) ∨ hi = some 0) ∧ (mx = none ∨ mx = some 0) := by
  simp only [sliceK] at h
  split at h
  · exact ⟨h, .inl rfl, .inl ⟨rfl, rfl⟩, .inl rfl⟩
  · obtain ⟨hc, h2⟩ := cond_none h
    clear h
    simp only [ieq_eq, decide_eq_true_eq] at hc; subst hc
    exact ⟨h2, .inr rfl, .inl ⟨rfl, rfl⟩, .inl rfl⟩
  · obtain ⟨hc, h2⟩ := cond_none h
    clear h
    simp only [ieq_eq, decide_eq_true_eq] at hc; subst hc
    exact ⟨h2, .inl rfl, .inr rfl, .inl rfl⟩
  · obtain ⟨hc, h2⟩ := cond_none h
    clear h
    simp only [ieq_eq, Bool.and_eq_true, decide_eq_true_eq] at hc
    obtain ⟨rfl, rfl⟩ := hc
    exact ⟨h2, .inr rfl, .inr rfl, .inl rfl⟩
  · obtain ⟨hc, h2⟩ := cond_none h
    clear h
    simp only [ieq_eq, Bool.and_eq_true, decide_eq_true_eq] at hc
    obtain ⟨rfl, rfl⟩ := hc
    exact ⟨h2, .inl rfl, .inr rfl, .inr rfl⟩
  · cases h
theorem sliceK_lst {E E' : Nat} {oo c : Bool} {xs : List AV} {lo hi mx : Option Int} {κ : AV → R} (h : sliceK hp (.lst oo c E' xs) E lo hi mx κ = some r) : E = E' ∧
    ∃ (c' : Bool) (L Hh : Nat), κ (.lst oo c' E (lsub xs L Hh)) = some r ∧ ((lo = none ∧ L = 0) ∨ (lo = some (L : Int))) ∧ ((hi = none ∧ mx = none ∧ Hh = xs.length) ∨ hi = some (Hh : Int)) ∧ Hh ≤ xs.length ∧ L ≤ Hh ∧
      ((mx = none ∧ ((c' = c ∧ hi = none) ∨ c' = false)) ∨ (mx = some (Hh : Int) ∧ hi = some (Hh : Int))) := by
  simp only [sliceK] at h
  obtain ⟨rfl, h0⟩ := beqE_some h
  clear h
  refine ⟨rfl, ?_⟩
  split at h0
  · refine ⟨c, 0, xs.length, ?_, .inl ⟨rfl, rfl⟩, .inl ⟨rfl, rfl, rfl⟩, Nat.le_refl _, Nat.zero_le _, .inl ⟨rfl, .inl ⟨rfl, rfl⟩⟩⟩
    rw [← h0]; simp [lsub_eq]
  · rename_i a
    obtain ⟨hc, h⟩ := cond_none h0
    simp only [Bool.and_eq_true, ile_eq, ilen_eq, decide_eq_true_eq] at hc
    refine ⟨c, a.toNat, xs.length, ?_, .inr ?_, .inl ⟨rfl, rfl, rfl⟩, Nat.le_refl _, by omega, .inl ⟨rfl, .inl ⟨rfl, rfl⟩⟩⟩
    · rw [← h, ilen_eq, Int.toNat_of_nonneg hc.1]
    · rw [Int.toNat_of_nonneg hc.1]
  · rename_i b
    obtain ⟨hc, h⟩ := cond_none h0
    simp only [Bool.and_eq_true, ile_eq, ilen_eq, decide_eq_true_eq] at hc
    refine ⟨false, 0, b.toNat, ?_, .inl ⟨rfl, rfl⟩, .inr ?_, by omega, Nat.zero_le _, .inl ⟨rfl, .inr rfl⟩⟩
    · rw [← h, Int.toNat_of_nonneg hc.1]; rfl
    · rw [Int.toNat_of_nonneg hc.1]
  · rename_i a b
    obtain ⟨hc, h⟩ := cond_none h0
    simp only [Bool.and_eq_true, ile_eq, ilen_eq, decide_eq_true_eq] at hc
    refine ⟨false, a.toNat, b.toNat, ?_, .inr ?_, .inr ?_, by omega, by omega, .inl ⟨rfl, .inr rfl⟩⟩
    · rw [← h, Int.toNat_of_nonneg hc.1.1, Int.toNat_of_nonneg (by omega)]
    · rw [Int.toNat_of_nonneg hc.1.1]
    · rw [Int.toNat_of_nonneg (by omega)]
  · rename_i b m
    obtain ⟨hc, h⟩ := cond_none h0
    simp only [Bool.and_eq_true, ile_eq, ieq_eq, ilen_eq, decide_eq_true_eq] at hc
    obtain ⟨⟨hc1, rfl⟩, hc2⟩ := hc
    refine ⟨true, 0, b.toNat, ?_, .inl ⟨rfl, rfl⟩, .inr ?_, by omega, Nat.zero_le _, .inr ⟨?_, ?_⟩⟩
    · rw [← h, Int.toNat_of_nonneg hc1]; rfl
    · rw [Int.toNat_of_nonneg hc1]
    · rw [Int.toNat_of_nonneg hc1]
    · rw [Int.toNat_of_nonneg hc1]
  · cases h0
theorem sliceK_own {E E' τ : Nat} {rr : Option (Int × Int)} {c : Bool} {lo hi mx : Option Int} {κ : AV → R} (h : sliceK hp (.own τ E' rr c) E lo hi mx κ = some r) : E = E' ∧
    ∃ (m : Mode) (xs : List AV), hp[τ]? = some (.rows m E xs) ∧ m ≠ .dead ∧ ((κ (.own τ E rr c) = some r ∧ lo = none ∧ hi = none ∧ mx = none) ∨
      ∃ (c' : Bool) (L Hh : Nat), κ (.own τ E (some ((rngD rr xs).1 + L, (Hh : Int) - L)) c') = some r ∧ ((lo = none ∧ L = 0) ∨ (lo = some (L : Int))) ∧ ((hi = none ∧ mx = none ∧ (Hh : Int) = (rngD rr xs).2) ∨ hi = some (Hh : Int)) ∧
        ((hi = none → (rngD rr xs).1 + (rngD rr xs).2 ≤ xs.length) → (rngD rr xs).1 + Hh ≤ xs.length) ∧ L ≤ Hh ∧
        ((mx = none ∧ ((c' = c ∧ hi = none) ∨ (c' = false ∧ (c = false ∨ rr = none)))) ∨ (mx = some (Hh : Int) ∧ c' = true ∧ hi = some (Hh : Int) ∧ (c = false ∨ rr = none)))) := by
  simp only [sliceK] at h
  obtain ⟨rfl, h0⟩ := beqE_some h
  clear h
  refine ⟨rfl, ?_⟩
  obtain ⟨blk, hb, h1⟩ := getK_some h0
  clear h0
  split at h1
  case h_2 => cases h1
  rename_i m E'' xs
  obtain ⟨rfl, h2⟩ := beqE_some h1
  clear h1
  split at h2
  · cases h2
  rename_i hm
  have hm : m ≠ .dead := fun e => hm e
  refine ⟨m, xs, hb, hm, ?_⟩
  clear hb hm
  split at h2
  · split at h2
    · exact .inl ⟨h2, rfl, rfl, rfl⟩
    · rename_i a
      obtain ⟨hc, h⟩ := cond_none h2
      simp only [Bool.and_eq_true, ile_eq, ilen_eq, isub_eq, decide_eq_true_eq] at hc h
      refine .inr ⟨c, a.toNat, xs.length, ?_, .inr ?_, .inl ⟨rfl, rfl, by simp [rngD, ilen_eq]⟩, fun _ => by simp [rngD], by omega, .inl ⟨rfl, .inl ⟨rfl, rfl⟩⟩⟩
      · rw [← h, Int.toNat_of_nonneg hc.1]; simp [rngD]
      · rw [Int.toNat_of_nonneg hc.1]
    · rename_i b
      obtain ⟨hc, h⟩ := cond_none h2
      simp only [Bool.and_eq_true, ile_eq, ilen_eq, decide_eq_true_eq] at hc
      refine .inr ⟨false, 0, b.toNat, ?_, .inl ⟨rfl, rfl⟩, .inr ?_, fun _ => by simp [rngD]; omega, Nat.zero_le _, .inl ⟨rfl, .inr ⟨rfl, .inr rfl⟩⟩⟩
      · rw [← h, Int.toNat_of_nonneg hc.1]; simp [rngD]
      · rw [Int.toNat_of_nonneg hc.1]
    · rename_i a b
      obtain ⟨hc, h⟩ := cond_none h2
      simp only [Bool.and_eq_true, ile_eq, ilen_eq, isub_eq, decide_eq_true_eq] at hc h
      refine .inr ⟨false, a.toNat, b.toNat, ?_, .inr ?_, .inr ?_, fun _ => by simp [rngD]; omega, by omega, .inl ⟨rfl, .inr ⟨rfl, .inr rfl⟩⟩⟩
      · rw [← h, Int.toNat_of_nonneg hc.1.1, Int.toNat_of_nonneg (by omega)]; simp [rngD]
      · rw [Int.toNat_of_nonneg hc.1.1]
      · rw [Int.toNat_of_nonneg (by omega)]
    · rename_i b m
      obtain ⟨hc, h⟩ := cond_none h2
      simp only [Bool.and_eq_true, ile_eq, ieq_eq, ilen_eq, decide_eq_true_eq] at hc
      obtain ⟨⟨hc1, rfl⟩, hc2⟩ := hc
      refine .inr ⟨true, 0, b.toNat, ?_, .inl ⟨rfl, rfl⟩, .inr ?_, fun _ => by simp [rngD]; omega, Nat.zero_le _, .inr ⟨?_, rfl, ?_, .inr rfl⟩⟩
      · rw [← h, Int.toNat_of_nonneg hc1]; simp [rngD]
      · rw [Int.toNat_of_nonneg hc1]
      · rw [Int.toNat_of_nonneg hc1]
      · rw [Int.toNat_of_nonneg hc1]
    · cases h2
  · rename_i o l
    split at h2
    · exact .inl ⟨h2, rfl, rfl, rfl⟩
    · rename_i a
      obtain ⟨hc, h⟩ := cond_none h2
      simp only [Bool.and_eq_true, ile_eq, isub_eq, iadd_eq, decide_eq_true_eq] at hc h
      refine .inr ⟨c, a.toNat, l.toNat, ?_, .inr ?_, .inl ⟨rfl, rfl, ?_⟩, fun e => ?_, by omega, .inl ⟨rfl, .inl ⟨rfl, rfl⟩⟩⟩
      · rw [← h, Int.toNat_of_nonneg hc.1, Int.toNat_of_nonneg (by omega)]; rfl
      · rw [Int.toNat_of_nonneg hc.1]
      · simp only [rngD]; omega
      · have := e rfl; simp only [rngD] at this ⊢; omega
    · rename_i b
      obtain ⟨hc, h⟩ := cond_none h2
      simp only [Bool.and_eq_true, ile_eq, ilen_eq, iadd_eq, Bool.not_eq_true', decide_eq_true_eq] at hc
      refine .inr ⟨false, 0, b.toNat, ?_, .inl ⟨rfl, rfl⟩, .inr ?_, fun _ => by simp only [rngD]; omega, Nat.zero_le _, .inl ⟨rfl, .inr ⟨rfl, .inl hc.1.1⟩⟩⟩
      · rw [← h, Int.toNat_of_nonneg hc.1.2]; simp [rngD]
      · rw [Int.toNat_of_nonneg hc.1.2]
    · rename_i a b
      obtain ⟨hc, h⟩ := cond_none h2
      simp only [Bool.and_eq_true, ile_eq, ilen_eq, isub_eq, iadd_eq, Bool.not_eq_true', decide_eq_true_eq] at hc h
      refine .inr ⟨false, a.toNat, b.toNat, ?_, .inr ?_, .inr ?_, fun _ => by simp only [rngD]; omega, by omega, .inl ⟨rfl, .inr ⟨rfl, .inl hc.1.1.1⟩⟩⟩
      · rw [← h, Int.toNat_of_nonneg hc.1.1.2, Int.toNat_of_nonneg (by omega)]; rfl
      · rw [Int.toNat_of_nonneg hc.1.1.2]
      · rw [Int.toNat_of_nonneg (by omega)]
    · rename_i b m
      obtain ⟨hc, h⟩ := cond_none h2
      simp only [Bool.and_eq_true, ile_eq, ieq_eq, ilen_eq, iadd_eq, Bool.not_eq_true', decide_eq_true_eq] at hc
      obtain ⟨⟨⟨hc0, hc1⟩, rfl⟩, hc2⟩ := hc
      refine .inr ⟨true, 0, b.toNat, ?_, .inl ⟨rfl, rfl⟩, .inr ?_, fun _ => by simp only [rngD]; omega, Nat.zero_le _, .inr ⟨?_, rfl, ?_, .inl hc0⟩⟩
      · rw [← h, Int.toNat_of_nonneg hc1]; simp [rngD]
      · rw [Int.toNat_of_nonneg hc1]
      · rw [Int.toNat_of_nonneg hc1]
      · rw [Int.toNat_of_nonneg hc1]
    · cases h2
def Indep (P : Program) {α : Type} (s : Sem α) : Prop := ∀ w v w', s.run P w = .ok v w' → ∀ w2, s.run P w2 = .ok v w2
def Never (P : Program) {α : Type} (s : Sem α) : Prop := ∀ w v w', s.run P w ≠ .ok v w'
theorem Never.indep {α : Type} {s : Sem α} (h : Never P s) : Indep P s := fun w v w' hr => absurd hr (h w v w')
theorem Indep.pure {α : Type} (a : α) : Indep P (Pure.pure a : Sem α) := fun w v w' h w2 => by
  simp only [Sem.run_pure] at h ⊢
  cases h; rfl
theorem Indep.bind {α β : Type} {s : Sem α} {f : α → Sem β} (h : Indep P s) (hf : ∀ a, Indep P (f a)) : Indep P (s >>= f) := fun w v w' hr w2 => by
  simp only [Sem.run_bind] at hr ⊢
  cases hs : s.run P w with
  | ok x w1 =>
    rw [hs] at hr
    rw [h w x w1 hs w2]
    simp only [Result.andThen_ok] at hr ⊢
    exact hf x _ _ _ hr w2
  | halt h' w1 => rw [hs] at hr; cases hr
theorem Never.bind {α β : Type} {s : Sem α} {f : α → Sem β} (hf : ∀ a, Never P (f a)) : Never P (s >>= f) := fun w v w' hr => by
  simp only [Sem.run_bind] at hr
  cases hs : s.run P w with
  | ok x w1 => rw [hs] at hr; simp only [Result.andThen_ok] at hr; exact hf x _ _ _ hr
  | halt h' w1 => rw [hs] at hr; cases hr
theorem Never.halt {α : Type} (h : Halt) : Never P (Sem.halt h : Sem α) := fun w v w' hr => by cases hr
theorem Indep.program : Indep P program := fun w v w' h w2 => by
  rw [run_program] at h ⊢
  cases h; rfl
theorem Indep.underlying (t : TypeId) : Indep P (Go.underlying t) := by
  unfold Go.underlying
  refine Indep.program.bind fun p => ?_
  split
  · exact Indep.pure _
  · exact (Never.halt _).indep
theorem Indep.typeInfo (t : TypeId) : Indep P (Go.typeInfo t) := by
  unfold Go.typeInfo
  refine Indep.program.bind fun p => ?_
  split
  · exact Indep.pure _
  · exact (Never.halt _).indep
theorem Indep.sizeOf (t : TypeId) : Indep P (Go.sizeOf t) := by
  unfold Go.sizeOf
  exact (Indep.typeInfo t).bind fun _ => Indep.pure _
theorem Indep.asIntOf (x : Value) : Indep P (Go.asIntOf x) := by
  unfold Go.asIntOf
  split
  · exact Indep.pure _
  · exact (Never.halt _).indep
  · exact (Never.halt _).indep
theorem Never.boundsPanic {α : Type} (k : IntKind) (x y : Int) (c : BoundsCode) : Never P (Go.boundsPanic k x y c : Sem α) := by
  have h : ∀ b : Bool, Never P (runtimePanic (.bounds (IntKind.i64.wrap x) y b c) : Sem α) := fun b => by
    unfold runtimePanic
    exact Never.bind fun p => Never.halt _
  unfold Go.boundsPanic
  dsimp only
  split
  · exact Never.bind fun b => h b
  · exact Never.bind fun b => h b
theorem Never.stuck {α : Type} (h : String) : Never P (Go.stuck h : Sem α) := Never.halt _
theorem Indep.sliceBound (x : Value) (y : Nat) (c : BoundsCode) : Indep P (Instr.sliceBound x y c) := by
  unfold Instr.sliceBound
  (repeat' (first | dsimp only | (with_reducible exact Indep.asIntOf _) | (with_reducible exact Indep.underlying _) | (with_reducible exact Indep.sizeOf _) | (with_reducible exact (Never.boundsPanic _ _ _ _).indep) | (with_reducible exact (Never.stuck _).indep) | (with_reducible exact Indep.pure _) | (with_reducible refine Indep.bind ?_ fun _ => ?_) | split))
theorem Indep.sliceBounds (s : Bool) (l c : Nat) (lo hi mx : Option Value) : Indep P (Instr.sliceBounds s l c lo hi mx) := by
  unfold Instr.sliceBounds
  (repeat' (first | dsimp only | (with_reducible exact Indep.sliceBound _ _ _) | (with_reducible exact Indep.asIntOf _) | (with_reducible exact Indep.underlying _) | (with_reducible exact Indep.sizeOf _) | (with_reducible exact (Never.boundsPanic _ _ _ _).indep) | (with_reducible exact (Never.stuck _).indep) | (with_reducible exact Indep.pure _) | (with_reducible refine Indep.bind ?_ fun _ => ?_) | split))
theorem Indep.sureAddr (x : Value) : Indep P (Instr.sureAddr x) := by
  unfold Instr.sureAddr
  split
  · exact Indep.pure _
  · exact (Never.stuck _).indep
theorem Indep.asAddr (x : Value) : Indep P (Go.asAddr x) := by
  unfold Go.asAddr runtimePanic
  split
  · exact Indep.pure _
  · exact Never.indep (Never.bind fun p => Never.halt _)
  · exact (Never.halt _).indep
theorem Indep.sliceAt (t : TypeId) (x : Value) (lo hi mx : Option Value) : Indep P (Instr.sliceAt t x lo hi mx) := by
  unfold Instr.sliceAt
  refine (Indep.underlying t).bind fun u => ?_
  split
  · (repeat' (first | dsimp only | (with_reducible exact Indep.asAddr _) | (with_reducible exact Indep.sureAddr _) | (with_reducible exact Indep.sliceBounds _ _ _ _ _ _) | (with_reducible exact Indep.sliceBound _ _ _) | (with_reducible exact Indep.asIntOf _) | (with_reducible exact Indep.underlying _) | (with_reducible exact Indep.sizeOf _) | (with_reducible exact (Never.boundsPanic _ _ _ _).indep) | (with_reducible exact (Never.stuck _).indep) | (with_reducible exact Indep.pure _) | (with_reducible refine Indep.bind ?_ fun _ => ?_) | split))
  · unfold Instr.slice
    refine (Indep.underlying t).bind fun u => ?_
    split
    all_goals (repeat' (first | dsimp only | (with_reducible exact Indep.asAddr _) | (with_reducible exact Indep.sureAddr _) | (with_reducible exact Indep.sliceBounds _ _ _ _ _ _) | (with_reducible exact Indep.sliceBound _ _ _) | (with_reducible exact Indep.asIntOf _) | (with_reducible exact Indep.underlying _) | (with_reducible exact Indep.sizeOf _) | (with_reducible exact (Never.boundsPanic _ _ _ _).indep) | (with_reducible exact (Never.stuck _).indep) | (with_reducible exact Indep.pure _) | (with_reducible refine Indep.bind ?_ fun _ => ?_) | split))
theorem slice_stepE (hT : TOk P T) {t : TypeId} {x : Operand} {lo hi mx' : Option Operand} (ho : o.op = .slice t x lo hi mx') (h : (tyK T t fun _ _ _ _ d => evK tm x fun x => optK tm lo fun lo => optK tm hi fun hi' => optK tm mx' fun mx => match (generalizing := false) d with
    | .slice e => tyK T e fun E _ _ _ _ => bif isSl x then bif isZ hi && isZ mx' && lo.isNone then κ .nil hp else sliceK hp x E lo hi' mx fun v => κ v hp else none
    | .str => match (generalizing := false) x with
      | .str l => sliceK hp (.str l) 0 lo hi' mx fun v => κ v hp
      | _ => none
    | _ => none) = some r) : StepE P none o tm hp κ r := by
  obtain ⟨s1, a1, b1, z1, d1, hs, h2⟩ := tyK_some h
  clear h
  obtain ⟨v, hv, h3⟩ := evK_some h2
  clear h2
  obtain ⟨n1, h4, ho1⟩ := opt_relE h3
  clear h3
  obtain ⟨n2, h5, ho2⟩ := opt_relE h4
  clear h4
  obtain ⟨n3, h, ho3⟩ := opt_relE h5
  clear h5
  have hO : ∀ (a : Act) (g : G) (H : List Blk) (w : World), (∀ x ∈ o.op.operands, ∀ u, evD tm x = some u → V3 g H w u (a.eval x)) →
      OptRel n1 (lo.map a.eval) ∧ OptRel n2 (hi.map a.eval) ∧ OptRel n3 (mx'.map a.eval) := fun a g H w hh =>
    ⟨ho1 a g H w fun y hy => hh y (by rw [ho]; simp [Op.operands, hy]), ho2 a g H w fun y hy => hh y (by rw [ho]; simp [Op.operands, hy]), ho3 a g H w fun y hy => hh y (by rw [ho]; simp [Op.operands, hy])⟩
  have fin : ∀ (u : AV), κ u hp = some r → (∀ (a : Act) (w : World) (g : G) (H : List Blk), hp <+: H → Good g H w → V3 g H w v (a.eval x) → OptRel n1 (lo.map a.eval) → OptRel n2 (hi.map a.eval) → OptRel n3 (mx'.map a.eval) →
      (mx' = none → mx'.map a.eval = none) → ∃ vv, (Instr.sliceAt t (a.eval x) (lo.map a.eval) (hi.map a.eval) (mx'.map a.eval)).run P w = .ok vv w ∧ V3 g H w u vv) → StepE P none o tm hp κ r := by
    intro u hu hall
    refine ⟨u, hu, fun a w g H hH hh hg => ?_⟩
    obtain ⟨q1, q2, q3⟩ := hO a g H w hh
    obtain ⟨vv, hr, hv'⟩ := hall a w g H hH hg (hh x (by simp [ho, Op.operands]) _ hv) q1 q2 q3 (fun h => by rw [h]; rfl)
    exact ⟨vv, fun w2 _ => by simp only [execOp, ho, Sem.run_bind, Indep.sliceAt _ _ _ _ _ _ _ _ hr w2, Result.andThen_ok, Sem.run_pure], hv'⟩
  split at h
  · rename_i e
    obtain ⟨E, a2, b2, z2, d2, he, h⟩ := tyK_some h
    obtain ⟨hsl, h⟩ := cond_none h
    have hu : ∀ w : World, (Go.underlying t).run P w = .ok (.slice e) w := fun w => by
      obtain ⟨u, hu, _, hr⟩ := (hT _ _ _ _ _ _ hs).underlying (w := w)
      simp only [DRel] at hr
      subst hr
      exact hu
    have hsz : ∀ w : World, (Go.sizeOf e).run P w = .ok E w := fun w => (hT _ _ _ _ _ _ he).sizeOf
    rcases cond_some h with ⟨hz, h⟩ | ⟨_, h⟩
    · simp only [Bool.and_eq_true] at hz
      refine fin _ h fun a w g H hH hg hx q1 q2 q3 _ => ?_
      have hzero : ∀ (y : Option Operand) (n : Option Int), isZ y = true → OptRel n (y.map a.eval) → n = some 0 := by
        intro y n hy hr
        unfold isZ at hy
        split at hy
        · rename_i k i
          have hi : i = 0 := of_decide_eq_true hy
          subst hi
          rcases hr with ⟨_, hr⟩ | ⟨i', k', rfl, hr⟩
          · simp at hr
          · simp [Act.eval] at hr; rw [hr.2]
        · cases hy
      have e2 := hzero _ _ hz.1.1 q2
      have e3 := hzero _ _ hz.1.2 q3
      have e1 : n1 = none := by simpa using hz.2
      subst e1; subst e2; subst e3
      have hA : ∃ A l c, a.eval x = .slice A l c := by
        cases v with
        | nil => simp only [V3, V2, V1, PCell] at hx; obtain ⟨A, hx⟩ := hx; exact ⟨A, 0, 0, hx⟩
        | lst _ _ _ _ => simp only [V3, V2, V1, PCell] at hx; obtain ⟨A, c, hx, _⟩ := hx; exact ⟨A, _, c, hx⟩
        | own τ E' rr c' =>
          obtain ⟨_, hx⟩ := hx
          cases hρ : g.ρ τ with
          | none => simp only [hρ] at hx; obtain ⟨⟨A, hx⟩, _⟩ := hx; exact ⟨A, 0, 0, hx⟩
          | some p => simp only [hρ] at hx; obtain ⟨k, o, l, cap, hx, _⟩ := hx; exact ⟨_, l, cap, hx⟩
        | _ => simp [isSl] at hsl
      obtain ⟨A, l, c, hA⟩ := hA
      refine ⟨_, by rw [hA]; exact slice_run (hu w) (hsz w) q1 q2 q3 (M := 0) (H := 0) (L := 0) (.inr ⟨rfl, Nat.zero_le _⟩) (.inr ⟨rfl, Nat.le_refl _⟩) (.inl ⟨rfl, rfl⟩), ?_⟩
      simp [V3, V2, V1, PCell]
    · cases v with
      | nil =>
        obtain ⟨hk, h1, h2, h3⟩ := sliceK_nil h
        refine fin _ hk fun a w g H hH hg hx q1 q2 q3 _ => ?_
        simp only [V3, V2, V1, PCell] at hx
        obtain ⟨A, hx⟩ := hx
        rw [hx]
        exact ⟨_, nil_slice (hu w) (hsz w) q1 q2 q3 h1 h2 h3, A, rfl⟩
      | lst oo c E' xs =>
        obtain ⟨rfl, c', L, Hh, hk, h1, h2, h3, h4, h5⟩ := sliceK_lst h
        exact fin _ hk fun a w g H hH hg hx q1 q2 q3 _ => lst_slice' (hu w) (hsz w) hx q1 q2 q3 h1 h2 h3 h4 h5
      | own τ E' rr c =>
        obtain ⟨rfl, m, xs, hb, hm, hor⟩ := sliceK_own h
        rcases hor with ⟨hk, rfl, rfl, rfl⟩ | ⟨c', L, Hh, hk, h1, h2, h3, h4, h5⟩
        · refine fin _ hk fun a w g H hH hg hx q1 q2 q3 _ => ⟨a.eval x, ?_, hx⟩
          have hA : ∃ A l c, a.eval x = .slice A l c ∧ (c = 0 ∨ ∀ b, A = some b → b = ⟨b.block, b.off, none⟩) := by
            obtain ⟨_, hx⟩ := hx
            cases hρ : g.ρ τ with
            | none =>
              simp only [hρ] at hx
              obtain ⟨⟨A, hx⟩, _⟩ := hx
              exact ⟨A, 0, 0, hx, .inl rfl⟩
            | some p => simp only [hρ] at hx; obtain ⟨k, o, l, cap, hx, _⟩ := hx; exact ⟨_, l, cap, hx, .inr fun b e => by cases e; rfl⟩
          obtain ⟨A, l, c, hA, hb'⟩ := hA
          rw [hA]
          have := slice_run (A := A) (len := l) (cap := c) (hu w) (hsz w) q1 q2 q3 (M := c) (H := l) (L := 0) (.inl ⟨rfl, rfl⟩) (.inl ⟨rfl, rfl, rfl⟩) (.inl ⟨rfl, rfl⟩)
          rw [this]
          rcases hb' with rfl | hb'
          · simp
          · have e : offA A (0 * E) = A := by
              cases A with
              | none => rfl
              | some b => rw [hb' b rfl]; simp [offA, addr_add]
            rw [e]; simp
        · refine fin _ hk fun a w g H hH hg hx q1 q2 q3 _ => own_slice (hu w) (hsz w) hg hx (prefix_get hH hb) hm q1 q2 q3 h1 h2 (h3 fun _ => ?_) h4 h5
          obtain ⟨_, hs⟩ := own_shape hx (prefix_get hH hb) hm
          rcases hs with ⟨_, _, e⟩ | ⟨_, _, _, _, _, _, _, _, _, _, _, _, _, e, e2⟩
          · rw [e]; simp
          · rw [e]; simp only; omega
      | _ => simp [isSl] at hsl
  · split at h
    · rename_i l
      have hu : ∀ w : World, (Go.underlying t).run P w = .ok .string w := fun w => by
        obtain ⟨u, hu, _, hr⟩ := (hT _ _ _ _ _ _ hs).underlying (w := w)
        simp only [DRel] at hr
        subst hr
        exact hu
      have fin2 : ∀ (u : List UInt8), κ (.str u) hp = some r → ∀ L Hh : Nat, u = lsub l L Hh → ((n1 = none ∧ L = 0) ∨ (n1 = some (L : Int))) → ((n2 = none ∧ Hh = l.length) ∨ n2 = some (Hh : Int)) → L ≤ Hh → Hh ≤ l.length → n3 = none → StepE P none o tm hp κ r := by
        intro u hu' L Hh e h1 h2 h3 h4 h5
        refine fin _ hu' fun a w g H hH hg hx q1 q2 q3 _ => ?_
        rw [V3_str.1 hx]
        have : mx'.map a.eval = none := by
          subst h5
          rcases q3 with ⟨_, q⟩ | ⟨_, _, q, _⟩
          · exact q
          · cases q
        rw [this]
        exact ⟨_, str_slice (hu w) q1 q2 h1 h2 h3 h4, V3_str.2 (by rw [e])⟩
      simp only [sliceK] at h
      split at h
      · refine fin2 _ h 0 l.length ?_ (.inl ⟨rfl, rfl⟩) (.inl ⟨rfl, rfl⟩) (Nat.zero_le _) (Nat.le_refl _) rfl
        simp [lsub_eq]
      · rename_i a
        obtain ⟨hc, h⟩ := cond_none h
        simp only [Bool.and_eq_true, ile_eq, ilen_eq, decide_eq_true_eq] at hc
        refine fin2 _ h a.toNat l.length ?_ (.inr ?_) (.inl ⟨rfl, rfl⟩) (by omega) (Nat.le_refl _) rfl
        · rw [ilen_eq, Int.toNat_of_nonneg hc.1]
        · rw [Int.toNat_of_nonneg hc.1]
      · rename_i b
        obtain ⟨hc, h⟩ := cond_none h
        simp only [Bool.and_eq_true, ile_eq, ilen_eq, decide_eq_true_eq] at hc
        refine fin2 _ h 0 b.toNat ?_ (.inl ⟨rfl, rfl⟩) (.inr ?_) (Nat.zero_le _) (by omega) rfl
        · rw [Int.toNat_of_nonneg hc.1]; rfl
        · rw [Int.toNat_of_nonneg hc.1]
      · rename_i a b
        obtain ⟨hc, h⟩ := cond_none h
        simp only [Bool.and_eq_true, ile_eq, ilen_eq, decide_eq_true_eq] at hc
        refine fin2 _ h a.toNat b.toNat ?_ (.inr ?_) (.inr ?_) (by omega) (by omega) rfl
        · rw [Int.toNat_of_nonneg hc.1.1, Int.toNat_of_nonneg (by omega)]
        · rw [Int.toNat_of_nonneg hc.1.1]
        · rw [Int.toNat_of_nonneg (by omega)]
      · cases h
    · cases h
  · cases h
theorem slice_step (hT : TOk P T) {t : TypeId} {x : Operand} {lo hi mx' : Option Operand} (ho : o.op = .slice t x lo hi mx') (h : (tyK T t fun _ _ _ _ d => evK tm x fun x => optK tm lo fun lo => optK tm hi fun hi' => optK tm mx' fun mx => match (generalizing := false) d with
    | .slice e => tyK T e fun E _ _ _ _ => bif isSl x then bif isZ hi && isZ mx' && lo.isNone then κ .nil hp else sliceK hp x E lo hi' mx fun v => κ v hp else none
    | .str => match (generalizing := false) x with
      | .str l => sliceK hp (.str l) 0 lo hi' mx fun v => κ v hp
      | _ => none
    | _ => none) = some r) : StepN P o tm hp κ r :=
  (slice_stepE hT ho h).toN
end
end Go.AM
namespace Go.AM
section
variable {P : Program} {T : TypeId → Option TI} {o : Oper} {tm : List AV} {hp : List Blk} {κ : AV → List Blk → R} {r : AV × List Blk}
theorem eqNil_run {w : World} {t e : TypeId} {b : Addr} {l c : Nat} (hu : P.underlying t = some (.slice e)) : (Op.equal t (.slice (some b) l c) (.slice none 0 0)).run P w = .ok false w := by
  have h : ∀ d, (Op.equalIn (d + 1) t (.slice (some b) l c) (.slice none 0 0)).run P w = .ok false w := fun d => by
    simp only [Op.equalIn, Sem.run_bind, run_underlying hu, Result.andThen_ok, Sem.run_pure]
  exact h 9999
theorem eqNil_any {w : World} {t e : TypeId} {A : Option Addr} {l c : Nat} (hu : P.underlying t = some (.slice e)) : ∃ bb, (Op.equal t (.slice A l c) (.slice none 0 0)).run P w = .ok bb w := by
  cases A with
  | some b => exact ⟨false, eqNil_run hu⟩
  | none =>
    have h : ∀ d, ∃ bb, (Op.equalIn (d + 1) t (.slice none l c) (.slice none 0 0)).run P w = .ok bb w := fun d => by
      simp only [Op.equalIn, Sem.run_bind, run_underlying hu, Result.andThen_ok, Sem.run_pure]
      exact ⟨_, rfl⟩
    exact h 9999
theorem isNilC_eq {y : Operand} (h : isNilC y = true) : y = .const (.slice none 0 0) := by
  unfold isNilC at h
  split at h
  · rfl
  · cases h
theorem nil_step {op : BinOp} {t ty : TypeId} {x y : Operand} (hT : TOk P T) (ho : o.op = .binOp op t x y ty) {X : AV} (hx : evD tm x = some X)
    (h : (bif isNilC y then tyK T t fun _ _ _ _ d => match (generalizing := false) d with
      | .slice _ => nilK op hp X fun v => κ v hp
      | _ => none
      else none) = some r) : StepN P o tm hp κ r := by
  obtain ⟨hy, h1⟩ := cond_none h
  clear h
  have hy := isNilC_eq hy
  obtain ⟨s1, a1, b1, z1, d1, hs, h⟩ := tyK_some h1
  clear h1
  split at h
  case h_2 => cases h
  rename_i e
  obtain ⟨u, hu, _, hr⟩ := (hT _ _ _ _ _ _ hs).under
  simp only [DRel] at hr
  subst hr
  have go : ∀ (κ0 : R) (κ' : Bool → R), nilK.go hp X κ0 κ' = some r → (κ0 = some r ∧ ∀ (a : Act) (w : World) (g : G) (H : List Blk), V3 g H w X (a.eval x) → ∃ A l c, a.eval x = .slice A l c) ∨ (κ' false = some r ∧ ∀ (a : Act) (w : World) (g : G) (H : List Blk), hp <+: H → Good g H w → V3 g H w X (a.eval x) → ∃ b l c, a.eval x = .slice (some b) l c) := by
    intro κ0 κ' h
    cases X with
    | lst oo c E xs =>
      simp only [nilK.go] at h
      rcases cond_some h with ⟨_, h⟩ | ⟨h0, h⟩
      · refine .inl ⟨h, fun a w g H hv => ?_⟩
        simp only [V3, V2, V1, PCell] at hv
        obtain ⟨A, cap, e1, _⟩ := hv
        exact ⟨_, _, _, e1⟩
      refine .inr ⟨h, fun a w g H hH hg hv => ?_⟩
      simp only [V3, V2, V1, PCell] at hv
      obtain ⟨A, cap, e1, _, _, hx⟩ := hv
      rcases hx with rfl | ⟨b, off, rfl, _⟩
      · simp [ieq_eq, ilen_eq] at h0
      · exact ⟨_, _, _, e1⟩
    | own τ E rr c =>
      cases rr with
      | some p => simp only [nilK.go] at h; cases h
      | none =>
      simp only [nilK.go] at h
      obtain ⟨blk, hb, h2⟩ := getK_some h
      clear h
      have key : ∀ m E' xs, blk = .rows m E' xs → m ≠ .dead → (bif ieq (ilen xs) 0 then none else κ' false) = some r → κ' false = some r ∧ ∀ (a : Act) (w : World) (g : G) (H : List Blk), hp <+: H → Good g H w → V3 g H w (.own τ E none c) (a.eval x) → ∃ b l c, a.eval x = .slice (some b) l c := by
        intro m E' xs e1 hm h
        subst e1
        rcases cond_some h with ⟨_, h⟩ | ⟨h0, h⟩
        · cases h
        refine ⟨h, fun a w g H hH hg hv => ?_⟩
        obtain ⟨hd, hv⟩ := hv
        cases hρ : g.ρ τ with
        | none =>
          have := good_nil hg hd (prefix_get hH hb) hm hρ
          subst this
          simp [ieq_eq, ilen_eq] at h0
        | some p =>
          simp only [hρ] at hv
          obtain ⟨k, o, l, cap, e1, _⟩ := hv
          exact ⟨_, _, _, e1⟩
      split at h2
      · cases h2
      · rename_i m E' xs hm
        exact .inr (key m E' xs rfl (fun e => hm (by rw [e])) h2)
      · cases h2
    | _ => simp only [nilK.go] at h; cases h
  have fin : ∀ (κ' : Bool → R) (v : AV), nilK.go hp X (κ .anyb hp) κ' = some r → (∀ (w : World) (A : Option Addr) (l c : Nat), ∃ bb, (binOp op t (.slice A l c) (.slice none 0 0)).run P w = .ok (.bool bb) w) → (κ' false = κ v hp) → (∀ (w : World) (b : Addr) (l c : Nat), ∃ bb, v = .bool bb ∧ (binOp op t (.slice (some b) l c) (.slice none 0 0)).run P w = .ok (.bool bb) w) → StepN P o tm hp κ r := by
    intro κ' v h hany hk hv
    rcases go _ κ' h with ⟨h1, h2⟩ | ⟨h1, h2⟩
    · refine ⟨.anyb, hp, h1, opN_pure fun a w g H hH _ hh hg => ?_⟩
      obtain ⟨A, l, c, e1⟩ := h2 a w g H (hh x (by simp [ho, Op.operands]) _ hx)
      have e2 : a.eval y = .slice none 0 0 := by rw [hy]; rfl
      obtain ⟨bb, h3⟩ := hany w A l c
      exact ⟨.bool bb, binOp_run ho (eqGuard_plain (.inr (.inr (.inr ⟨_, _, _, e1⟩)))) (by rw [e1, e2]; exact h3), ⟨bb, rfl⟩⟩
    refine ⟨v, hp, by rw [← hk]; exact h1, opN_pure fun a w g H hH _ hh hg => ?_⟩
    obtain ⟨b, l, c, e1⟩ := h2 a w g H hH hg (hh x (by simp [ho, Op.operands]) _ hx)
    have e2 : a.eval y = .slice none 0 0 := by rw [hy]; rfl
    obtain ⟨bb, rfl, h3⟩ := hv w b l c
    exact ⟨.bool bb, binOp_run ho (eqGuard_plain (.inr (.inr (.inr ⟨_, _, _, e1⟩)))) (by rw [e1, e2]; exact h3), V3_bool.2 rfl⟩
  cases op <;> simp only [nilK] at h <;> try (cases h; done)
  · exact fin _ _ h (fun w A l c => by obtain ⟨bb, hb⟩ := eqNil_any (P := P) (w := w) (A := A) (l := l) (c := c) hu; exact ⟨bb, by simp only [binOp, Sem.run_bind, hb, Result.andThen_ok, Sem.run_pure]⟩) rfl fun w b l c => ⟨false, rfl, by simp only [binOp, Sem.run_bind, eqNil_run hu, Result.andThen_ok, Sem.run_pure]⟩
  · exact fin _ _ h (fun w A l c => by obtain ⟨bb, hb⟩ := eqNil_any (P := P) (w := w) (A := A) (l := l) (c := c) hu; exact ⟨!bb, by simp only [binOp, Sem.run_bind, hb, Result.andThen_ok, Sem.run_pure]⟩) rfl fun w b l c => ⟨true, rfl, by simp only [binOp, Sem.run_bind, eqNil_run hu, Result.andThen_ok, Sem.run_pure]; rfl⟩
theorem eqCells_some : ∀ {a b : List AV} {κ : Bool → R}, eqCells a b κ = some r → ∃ xs ys : List Int, a = xs.map (.int .i64) ∧ b = ys.map (.int .i64) ∧ xs.length = ys.length ∧ κ (decide (xs = ys)) = some r
  | [], [], κ, h => ⟨[], [], rfl, rfl, rfl, by simpa [eqCells] using h⟩
  | [.int .i64 a], [.int .i64 b], κ, h => ⟨[a], [b], rfl, rfl, rfl, by simpa [eqCells, ieq_eq] using h⟩
  | x :: x' :: l, y :: m, κ, h => by
    cases x <;> try (simp [eqCells] at h; done)
    rename_i k a
    cases k <;> try (simp [eqCells] at h; done)
    cases y <;> try (simp [eqCells] at h; done)
    rename_i k b
    cases k <;> try (simp [eqCells] at h; done)
    have h' : eqCells (x' :: l) m (fun t => κ (ieq a b && t)) = some r := by
      cases m <;> simpa [eqCells] using h
    obtain ⟨xs, ys, e1, e2, e3, h2⟩ := eqCells_some h'
    refine ⟨a :: xs, b :: ys, by rw [e1]; rfl, by rw [e2]; rfl, by simp [e3], ?_⟩
    rw [ieq_eq] at h2
    have e4 : decide (a :: xs = b :: ys) = (decide (a = b) && decide (xs = ys)) := by simp
    rw [e4]; exact h2
  | [x], [y], κ, h => by
    cases x <;> try (simp [eqCells] at h; done)
    rename_i k a
    cases k <;> try (simp [eqCells] at h; done)
    cases y <;> try (simp [eqCells] at h; done)
    rename_i k b
    cases k <;> try (simp [eqCells] at h; done)
    exact ⟨[a], [b], rfl, rfl, rfl, by simpa [eqCells, ieq_eq] using h⟩
  | [x], y :: y' :: m, κ, h => by
    cases x <;> try (simp [eqCells] at h; done)
    rename_i k a
    cases k <;> try (simp [eqCells] at h; done)
    cases y <;> try (simp [eqCells] at h; done)
    rename_i k b
    cases k <;> simp [eqCells] at h
  | [], _ :: _, κ, h => by simp [eqCells] at h
  | x :: l, [], κ, h => by
    cases x <;> try (simp [eqCells] at h; done)
theorem ints_of {g : G} {H : List Blk} {w : World} : ∀ {xs : List Int} {vs : List Value}, All2 (V1 g H w) (xs.map (.int .i64)) vs → vs = xs.map (.int .i64)
  | [], [], _ => rfl
  | x :: xs, v :: vs, h => by
    rw [ints_of h.2]
    have h1 := h.1
    simp only [V1, PCell] at h1
    rw [h1]; rfl
  | [], _ :: _, h => h.elim
  | _ :: _, [], h => h.elim
theorem eqGuardType_run {w : World} {op : BinOp} {t : TypeId} {x y : Operand} {a b : Array Value} (h : P.eqGuardType P.depth t = false) : (eqGuard op t x y (.agg a) (.agg b)).run P w = .ok () w := by
  cases op <;> simp [eqGuard, h]
theorem aggEq_step {op : BinOp} {t ty : TypeId} {x y : Operand} (hT : TOk P T) (ho : o.op = .binOp op t x y ty) {a b : List AV} (hx : evD tm x = some (.agg a)) (hy : evD tm y = some (.agg b))
    (h : (tyK T t fun sz _ _ _ d => match (generalizing := false) d with
      | .struct _ true => lenK a 0 fun n => bif Nat.beq n sz then binAggK op a b fun v => κ v hp else none
      | _ => none) = some r) : StepN P o tm hp κ r := by
  obtain ⟨sz, a1, b1, z1, d1, hs, h1⟩ := tyK_some h
  clear h
  split at h1
  case h_2 => cases h1
  rename_i fs
  rw [lenK_eq, Nat.zero_add] at h1
  obtain ⟨hl, h2⟩ := beqE_some h1
  clear h1
  have fin : ∀ (κ' : Bool → R) (f : Bool → Bool), eqCells a b κ' = some r → (∀ b, κ' b = κ (.bool (f b)) hp) → (∀ (w : World) (p q : Array Value) (bb : Bool), (Op.equal t (.agg p) (.agg q)).run P w = .ok bb w → (binOp op t (.agg p) (.agg q)).run P w = .ok (.bool (f bb)) w) → StepN P o tm hp κ r := by
    intro κ' f h hk hv
    obtain ⟨xs, ys, e1, e2, e3, h3⟩ := eqCells_some h
    rw [hk] at h3
    refine ⟨_, hp, h3, opN_pure fun ac w g H hH _ hh hg => ?_⟩
    obtain ⟨vs, e4, h4⟩ := hh x (by simp [ho, Op.operands]) _ hx
    obtain ⟨us, e5, h5⟩ := hh y (by simp [ho, Op.operands]) _ hy
    rw [e1] at h4; rw [e2] at h5
    have h4 := ints_of h4
    have h5 := ints_of h5
    subst h4; subst h5
    have hxl : xs.length = sz := by rw [← hl, e1]; simp
    obtain ⟨h6, h7⟩ := (hT _ _ _ _ _ _ hs).eq fs rfl xs ys hxl (by omega) w
    exact ⟨_, binOp_run ho (by rw [e4, e5]; exact eqGuardType_run h7) (by rw [e4, e5]; exact hv w _ _ _ h6), V3_bool.2 rfl⟩
  cases op <;> simp only [binAggK] at h2 <;> try (cases h2; done)
  · exact fin _ id h2 (fun _ => rfl) fun w p q bb h => by simp only [binOp, Sem.run_bind, h, Result.andThen_ok, Sem.run_pure]; rfl
  · exact fin _ (!·) h2 (fun _ => rfl) fun w p q bb h => by simp only [binOp, Sem.run_bind, h, Result.andThen_ok, Sem.run_pure]
theorem binOp_step {op : BinOp} {t ty : TypeId} {x y' : Operand} (hT : TOk P T) (ho : o.op = .binOp op t x y' ty) (h : (evK tm x fun x => evK tm y' fun y => match (generalizing := false) x, y with
    | x, .nil => bif isNilC y' then tyK T t fun _ _ _ _ d => match (generalizing := false) d with
      | .slice _ => nilK op hp x fun v => κ v hp
      | _ => none
      else none
    | .agg a, .agg b => tyK T t fun sz _ _ _ d => match (generalizing := false) d with
      | .struct _ true => lenK a 0 fun n => bif Nat.beq n sz then binAggK op a b fun v => κ v hp else none
      | _ => none
    | .bool a, .bool b => tyK T t fun _ _ _ _ d => match (generalizing := false) d with
      | .bool => binBoolK op a b fun v => κ v hp
      | _ => none
    | x, y => binK op x y fun v => κ v hp) = some r) : StepN P o tm hp κ r := by
  obtain ⟨X, hx, h1⟩ := evK_some h
  clear h
  obtain ⟨Y, hy, h⟩ := evK_some h1
  clear h1
  split at h
  · exact nil_step hT ho hx h
  · exact aggEq_step hT ho hx hy h
  · obtain ⟨s1, a1, b1, z1, d1, hs, h1⟩ := tyK_some h
    split at h1
    · obtain ⟨u, hu, _, hr⟩ := (hT _ _ _ _ _ _ hs).under
      simp only [DRel] at hr
      subst hr
      obtain ⟨v, h2, h3⟩ := binBool_ok ho hx hy hu h1
      exact ⟨v, hp, h2, h3⟩
    · cases h1
  · obtain ⟨v, h2, h3⟩ := binK_ok ho hx hy h
    exact ⟨v, hp, h2, h3⟩
end
end Go.AM
namespace Go.AM
section
variable {P : Program} {T : TypeId → Option TI} {o : Oper} {tm : List AV} {hp : List Blk} {κ : AV → List Blk → R} {r : AV × List Blk}
structure Upd (w : World) (b : Nat) (w' : World) : Prop where
  size : w'.heap.size = w.heap.size
  other : ∀ x, x ≠ b → w'.heap[x]? = w.heap[x]?
  shape : Shape w w'
  env : Env w w'
theorem Upd.refl (w : World) (b : Nat) : Upd w b w := ⟨rfl, fun _ _ => rfl, .refl w, .refl w⟩
theorem storeCells_upd {w : World} {b k : Nat} {vs : List Value} (hu : Unf w b 0) (h1 : ∀ v ∈ vs, v.oneCell' = true) (hc : vs ≠ [] → ∃ v, w.cell? ⟨b, k + (vs.length - 1), none⟩ = some v) :
    ∃ w', (storeCells ⟨b, k, none⟩ vs).run P w = .ok () w' ∧ Upd w b w' ∧ (∀ (j : Nat) v, vs[j]? = some v → w'.cell? ⟨b, k + j, none⟩ = some v) ∧
      ∀ j, (j < k ∨ k + vs.length ≤ j) → w'.cell? ⟨b, j, none⟩ = w.cell? ⟨b, j, none⟩ := by
  by_cases h0 : vs = []
  · subst h0
    exact ⟨w, by simp [storeCells], .refl w b, fun j v h => by simp at h, fun _ _ => rfl⟩
  · obtain ⟨cs, el, hb, _⟩ := hu
    obtain ⟨v, hv⟩ := hc h0
    have hpos : 0 < vs.length := List.length_pos_iff.2 h0
    have hfit : k + 0 + vs.length ≤ cs.size := by
      rw [cell_of_row w b _ cs el (0, 0) hb] at hv
      have := (Array.getElem?_eq_some_iff.1 hv).1
      omega
    have hr := run_storeCells_at P b k el vs 0 cs w hb hfit h1
    simp only [Nat.add_zero] at hr
    refine ⟨_, hr, ⟨by simp, fun x hx => setRow_other w b x _ hx, fun x cs' el' fr hx => ?_, ⟨rfl, rfl, rfl, Nat.le_refl _⟩⟩, fun j u hj => ?_, fun j hj => ?_⟩
    · by_cases hxb : x = b
      · subst hxb
        rw [hb] at hx
        cases hx
        exact ⟨_, setRow_heap w x cs _ el _ hb, by simp at hfit ⊢; omega⟩
      · exact ⟨cs', by rw [setRow_other w b x _ hxb]; exact hx, rfl⟩
    · rw [cell_of_row _ b _ _ el (0, 0) (setRow_heap w b cs _ el _ hb)]
      have hj' := (List.getElem?_eq_some_iff.1 hj).1
      have hlk : (List.take k cs.toList).length = k := by simp; omega
      simp only [List.getElem?_toArray, List.append_assoc]
      rw [List.getElem?_append_right (by omega), List.getElem?_append_left (by omega), hlk]
      rw [show k + j - k = j by omega]
      exact hj
    · rw [cell_of_row _ b _ _ el (0, 0) (setRow_heap w b cs _ el _ hb), cell_of_row w b _ cs el (0, 0) hb]
      have hlk : (List.take k cs.toList).length = k := by simp; omega
      simp only [List.getElem?_toArray, List.append_assoc]
      rcases hj with hj | hj
      · rw [List.getElem?_append_left (by omega), List.getElem?_take_of_lt hj]
        simp
      · rw [List.getElem?_append_right (by omega), List.getElem?_append_right (by omega), hlk, List.getElem?_drop]
        rw [show k + vs.length + (j - k - vs.length) = j by omega]
        simp
section upd
variable {g : G} {H : List Blk} {w w' : World} {τ b base : Nat} {blk blk' : Blk}
theorem Trans.upd (hd : g.dom τ) (hρ : g.ρ τ = some (b, base)) (hb : H[τ]? = some blk) (ho : blk.owned) (hl : ∀ m E xs', blk' = .rows m E xs' → m ≠ .dead → ∃ m0 xs, blk = .rows m0 E xs ∧ m0 ≠ .dead ∧ xs.length = xs'.length)
    (hx : ∀ y', blk' = .box y' → ∃ y, blk = .box y) (hu : Upd w b w') : Trans g H w g (H.set τ blk') w' where
  dom _ h := h
  ρ _ _ := rfl
  S _ h := h
  Sl _ h := h
  newS _ h := .inl h
  newSl _ h := .inl h
  size := by rw [hu.size]; exact Nat.le_refl _
  shape := hu.shape
  env := hu.env
  prot x hx hn := hu.other x fun e => hn ⟨τ, base, hd, by rw [hρ, e], blk, hb, ho⟩
  own x h := by
    obtain ⟨y, o, h1, h2, bk, h3, h4⟩ := h
    rcases get_set h3 with ⟨rfl, _, _⟩ | ⟨_, h3⟩
    · exact .inr ⟨y, o, h1, h2, blk, hb, ho⟩
    · exact .inr ⟨y, o, h1, h2, bk, h3, h4⟩
  len y hy m E xs h hm := by
    rcases get_set h with ⟨rfl, h1, _⟩ | ⟨_, h3⟩
    · obtain ⟨m0, xs0, h2, h3, h4⟩ := hl m E xs h1.symm hm
      exact ⟨m0, xs0, by rw [hb, h2], h3, h4⟩
    · exact ⟨m, xs, h3, hm, rfl⟩
  box y hy z h := by
    rcases get_set h with ⟨rfl, h1, _⟩ | ⟨_, h3⟩
    · obtain ⟨y0, h2⟩ := hx z h1.symm
      exact ⟨y0, by rw [hb, h2]⟩
    · exact ⟨z, h3⟩
theorem Good.upd (hg : Good g H w) (hd : g.dom τ) (hρ : g.ρ τ = some (b, base)) (hb : H[τ]? = some blk) (ho : blk.owned) (ht : Trans g H w g (H.set τ blk') w') (hu : Upd w b w')
    (hr : BlkRel g (H.set τ blk') w' τ blk') : Good g (H.set τ blk') w' where
  sub := hg.sub
  lt x h := by rw [hu.size]; exact hg.lt x h
  tok x hx := by
    by_cases e : x = τ
    · subst e; exact ⟨_, get_set_eq hb, hr⟩
    · obtain ⟨bk, h1, h2⟩ := hg.tok x hx
      refine ⟨bk, by rw [get_set_ne e]; exact h1, BlkRel.trans ht hg hx (fun c o hρ' ho' => ⟨hu.other c fun ec => ?_, Own.notS hg ⟨x, o, hx, hρ', owned_of h1 ho'⟩⟩) h2⟩
      subst ec
      exact e (hg.inj x τ c o base hx hd hρ' hρ (owned_of h1 ho') ⟨blk, hb, ho⟩)
  inj x y c o o' hx hy h1 h2 h3 h4 := by
    have key : ∀ z, owned (H.set τ blk') z → owned H z := by
      rintro z ⟨bk, h5, h6⟩
      rcases get_set h5 with ⟨rfl, rfl, _⟩ | ⟨hne, h7⟩
      · exact ⟨blk, hb, ho⟩
      · exact ⟨bk, h7, h6⟩
    exact hg.inj x y c o o' hx hy h1 h2 (key x h3) (key y h4)
end upd
theorem lay_some {sz off : Nat} {x v : AV} {κ : AV → R} (h : layK sz x off v κ = some r) : ∃ x', κ x' = some r ∧ (∀ g H w u, V3 g H w v u → V2 g H w v u) ∧ sz = (cells v).length ∧
    ((cells v) = [] ∨ off + (cells v).length ≤ (cells x).length) ∧ cells x' = splice (cells x) off (cells v) := by
  unfold layK at h
  split at h
  · rename_i cs vs
    obtain ⟨h1, h2⟩ := beqE_some h
    obtain ⟨_, h3, h4⟩ := spliceK_some h2
    refine ⟨_, h4, fun _ _ _ _ h => h, h1, h3, ?_⟩
    simp only [cells]
    split
    · rename_i e; rw [e, splice_nil]
    · rfl
  · cases h
  · cases h
  · cases h
  · cases h
  · cases h
  · rename_i cs n1 n2 na n3 n4 n5
    obtain ⟨h1, h2⟩ := beqE_some h
    obtain ⟨_, h3, h4⟩ := spliceK_some h2
    have hc : cells v = [v] := by
      cases v <;> first
        | rfl
        | exact absurd rfl (n1 _)
    refine ⟨_, h4, fun g H w u hh => ?_, by rw [hc]; exact h1, by rw [hc]; exact h3, by rw [hc]; simp [cells]⟩
    cases v <;> first
      | exact hh
      | exact absurd rfl n2
      | exact absurd rfl na
      | exact absurd rfl (n3 _)
      | exact absurd rfl (n4 _ _ _)
      | exact absurd rfl (n5 _ _)
  · cases h
  · cases h
  · cases h
  · cases h
  · cases h
  · cases h
  · cases h
  · cases h
  · cases h
  · cases h
  · rename_i m0 m1 m2 m3 mA m4 m5 m6 mB m7 m8 m9 n1 n2 nC n3 n4 n5
    obtain ⟨h1, h2⟩ := cond_none h
    simp only [Bool.and_eq_true] at h1
    have e1 := beq_eq h1.1
    have e2 := beq_eq h1.2
    have hc : cells v = [v] := by
      cases v <;> first
        | rfl
        | exact absurd rfl (m5 _)
    have hcx : cells x = [x] := by
      cases x <;> first
        | rfl
        | exact absurd rfl (m1 _)
    refine ⟨_, h2, fun g H w u hh => ?_, by rw [hc]; exact e2, .inr (by rw [hc, hcx, e1]; simp), by rw [hc, hcx, e1]; simp [splice]⟩
    cases v <;> first
      | exact hh
      | exact absurd rfl (m5 _)
      | exact absurd rfl m6
      | exact absurd rfl mB
      | exact absurd rfl (m7 _)
      | exact absurd rfl (m8 _ _ _)
      | exact absurd rfl (m9 _ _)
theorem splice_get {α : Type} {cs vs : List α} {off i : Nat} (h : off + vs.length ≤ cs.length) :
    (splice cs off vs)[i]? = if i < off then cs[i]? else if i < off + vs.length then vs[i - off]? else cs[i]? := by
  unfold splice
  have hl : (cs.take off).length = off := by simp; omega
  by_cases h1 : i < off
  · rw [if_pos h1, List.append_assoc, List.getElem?_append_left (by omega), List.getElem?_take_of_lt h1]
  · rw [if_neg h1, List.append_assoc, List.getElem?_append_right (by omega), hl]
    by_cases h2 : i < off + vs.length
    · rw [if_pos h2, List.getElem?_append_left (by omega)]
    · rw [if_neg h2, List.getElem?_append_right (by omega), List.getElem?_drop]
      congr 1
      omega
theorem V1s_of {g : G} {H : List Blk} {w : World} : ∀ {cs : List AV} {b k : Nat}, (∀ (i : Nat) c, cs[i]? = some c → ∃ v, w.cell? ⟨b, k + i, none⟩ = some v ∧ V1 g H w c v) → V1s g H w cs b k
  | [], _, _, _ => trivial
  | c :: cs, b, k, h => ⟨by simpa using h 0 c rfl, V1s_of fun i c hi => by
      have := h (i + 1) c (by simpa using hi)
      rwa [show k + (i + 1) = k + 1 + i by omega] at this⟩
theorem PCells_get {S Sl : Nat → Prop} {w : World} : ∀ {cs : List AV} {b k i : Nat} {x : AV}, PCells S Sl w cs b k → cs[i]? = some x → ∃ v, w.cell? ⟨b, k + i, none⟩ = some v ∧ PCell S Sl w x v
  | [], _, _, _, _, _, h => by simp at h
  | y :: cs, b, k, 0, x, h, hx => by
    simp only [PCells] at h
    simp at hx; subst hx; simpa using h.1
  | y :: cs, b, k, i + 1, x, h, hx => by
    simp only [PCells] at h
    have := PCells_get (i := i) h.2 (by simpa using hx)
    rwa [show k + (i + 1) = k + 1 + i by omega]
theorem PCells_of' {S Sl : Nat → Prop} {w : World} : ∀ {cs : List AV} {b k : Nat}, (∀ (i : Nat) c, cs[i]? = some c → ∃ v, w.cell? ⟨b, k + i, none⟩ = some v ∧ PCell S Sl w c v) → PCells S Sl w cs b k
  | [], _, _, _ => by simp [PCells]
  | c :: cs, b, k, h => by
    simp only [PCells]
    exact ⟨by simpa using h 0 c rfl, PCells_of' fun i c hi => by
      have := h (i + 1) c (by simpa using hi)
      rwa [show k + (i + 1) = k + 1 + i by omega] at this⟩
theorem PRows_of {S Sl : Nat → Prop} {w : World} {E : Nat} : ∀ {xs : List AV} {b k : Nat}, (∀ (i : Nat) x, xs[i]? = some x → PElem F0 Sl w E x b (k + i * E)) → PRows S Sl w E xs b k
  | [], _, _, _ => PRows_nil
  | x :: xs, b, k, h => PRows_cons.2 ⟨by simpa using h 0 x rfl, PRows_of fun i y hi => by
      have := h (i + 1) y (by simpa using hi)
      rwa [show k + (i + 1) * E = k + E + i * E by rw [Nat.succ_mul]; omega] at this⟩
theorem All2_get' {R : AV → Value → Prop} : ∀ {xs : List AV} {vs : List Value} {i : Nat} {v : Value}, All2 R xs vs → vs[i]? = some v → ∃ x, xs[i]? = some x ∧ R x v
  | _, [], _, _, _, h => by simp at h
  | [], _ :: _, _, _, h, _ => h.elim
  | x :: xs, v :: vs, 0, y, h, hx => by simp at hx; subst hx; exact ⟨x, rfl, h.1⟩
  | x :: xs, v :: vs, i + 1, y, h, hx => by simpa using All2_get' (i := i) h.2 (by simpa using hx)
theorem V1_ones {g : G} {H : List Blk} {w : World} {xs : List AV} {vs : List Value} (h : All2 (V1 g H w) xs vs) : ∀ v ∈ vs, v.oneCell' = true := by
  intro v hv
  obtain ⟨i, hi⟩ := List.mem_iff_getElem?.1 hv
  obtain ⟨x, _, hx⟩ := All2_get' h hi
  exact (V1_one hx).2
theorem storeVar_run {w w' : World} {t : TypeId} {sz b k : Nat} {v : Value} (hs : (Go.sizeOf t).run P w = .ok sz w) (hv : v.cells.size = sz) (h : (storeCells ⟨b, k, none⟩ v.cells.toList).run P w = .ok () w') :
    (storeVar t ⟨b, k, none⟩ v).run P w = .ok () w' := by
  simp only [storeVar, Sem.run_bind, hs, Result.andThen_ok]
  rw [if_neg (by omega)]
  exact h
theorem store_step (hT : TOk P T) {t : TypeId} {x y : Operand} (ho : o.op = .store t x y) (h : (tyK T t fun sz _ _ _ _ => evK tm x fun
    | .ptr τ idx off E => evK tm y fun v => getK hp τ fun
      | .box x => layK sz x off v fun x => setK hp τ (.box x) fun hp => κ .top hp
      | .rows _ _ _ => purK hp v fun v hp => getK hp τ fun
        | .rows .live E' xs => bif Nat.beq E E' then gbind (lget xs idx) fun x => layK sz x off v fun x => setK hp τ (.rows .live E (lset xs idx x)) fun hp => κ .top hp else none
        | _ => none
    | _ => none) = some r) : StepM P o tm hp κ r := by
  obtain ⟨sz, a1, b1, z1, d1, hs, h1⟩ := tyK_some h
  clear h
  obtain ⟨vx, hvx, h2⟩ := evK_some h1
  clear h1
  split at h2
  case h_2 => cases h2
  rename_i τ idx off E
  obtain ⟨vy, hvy, h3⟩ := evK_some h2
  clear h2
  obtain ⟨blk, hb, h4⟩ := getK_some h3
  clear h3
  have hrun : ∀ (a : Act) (w w' : World) (b k : Nat), a.eval x = .pointer (some ⟨b, k, none⟩) → (a.eval y).cells.size = sz → (storeCells ⟨b, k, none⟩ (a.eval y).cells.toList).run P w = .ok () w' → (execOp a.eval o).run P w = .ok .skip w' := by
    intro a w w' b k he hsz hst
    have := storeVar_run (P := P) (t := t) ((hT _ _ _ _ _ _ hs).sizeOf (w := w)) hsz hst
    simp only [execOp, ho, he, Instr.storeAt, Instr.sureAddr, Sem.run_bind, Sem.run_pure, Result.andThen_ok, this]
  split at h4
  · rename_i bx
    obtain ⟨x', h5, hV, hsz, hle, hcells⟩ := lay_some h4
    clear h4
    rw [setK_eq] at h5
    refine ⟨_, _, h5, fun Q a w g N hd hh hg hN => ?_⟩
    obtain ⟨hdom, hz, b, base, n, hρ, hidx, he⟩ := hh x (by simp [ho, Op.operands]) _ hvx
    have h0 := hz _ hb
    have hn0 : n = 0 := by omega
    subst hn0
    obtain ⟨bk, q1, q2⟩ := hg.tok τ hdom
    rw [hb] at q1
    cases q1
    obtain ⟨b', o', hρ', hS, hu, hcs⟩ := q2
    rw [hρ] at hρ'
    cases hρ'
    have hvv := V2_cells (hV _ _ _ _ (hh y (by simp [ho, Op.operands]) _ hvy))
    have hlen := All2_len hvv
    obtain ⟨w', hst, hup, hnew, hold⟩ := storeCells_upd (P := P) (k := base + off) hu (V1_ones hvv) (by
      intro hne
      have hpos : 0 < (cells vy).length := by rw [hlen]; exact List.length_pos_iff.2 hne
      have hle := hle.resolve_left (fun e => by rw [e] at hpos; simp at hpos)
      obtain ⟨c, hc⟩ : ∃ c, (cells bx)[off + ((a.eval y).cells.toList.length - 1)]? = some c := ⟨_, List.getElem?_eq_getElem (by omega)⟩
      obtain ⟨v, hv, _⟩ := V1s_get hcs hc
      exact ⟨v, by rw [Nat.add_assoc]; exact hv⟩)
    have hr := hrun a w w' b (base + off) (by simpa using he) (by rw [hsz, hlen]; simp) hst
    have ht : Trans g hp w g (hp.set τ (.box x')) w' := Trans.upd hdom hρ hb trivial (by simp) (fun _ _ => ⟨bx, rfl⟩) hup
    have hbr : BlkRel g (hp.set τ (.box x')) w' τ (.box x') := by
      refine ⟨b, base, hρ, hS, hu.mono ht.shape, V1s_of fun i c hi => ?_⟩
      rw [hcells] at hi
      by_cases hnil : cells vy = []
      · rw [hnil, splice_nil] at hi
        obtain ⟨v, hv, hv2⟩ := V1s_get hcs hi
        exact ⟨v, by rw [hold _ (by rw [← hlen, hnil]; simp; omega)]; exact hv, hv2.trans ht hg⟩
      · have hle := hle.resolve_left hnil
        rw [splice_get hle] at hi
        split at hi
        · obtain ⟨v, hv, hv2⟩ := V1s_get hcs hi
          exact ⟨v, by rw [hold _ (.inl (by omega))]; exact hv, hv2.trans ht hg⟩
        · split at hi
          · obtain ⟨v, hv, hv2⟩ := All2_get hvv hi
            have := hnew _ _ hv
            exact ⟨v, by rw [show base + i = base + off + (i - off) by omega]; exact this, hv2.trans ht hg⟩
          · obtain ⟨v, hv, hv2⟩ := V1s_get hcs hi
            exact ⟨v, by rw [hold _ (.inr (by omega))]; exact hv, hv2.trans ht hg⟩
    simp only [Oper.wp, hr, Oper.upon]
    exact hN _ _ g ht (Good.upd hg hdom hρ hb trivial ht hup hbr) (fun x => by rw [hd]; simp) trivial (fun c hc hn => hup.other c fun e => hn (by unfold wrB; rw [ho]; exact ⟨_, by rw [e]; simpa using he⟩))
  · rename_i m0 E0 xs0
    obtain ⟨vy', hp1, h5, hcl, hV, hlen1, hf⟩ := pur_ok h4
    clear h4
    obtain ⟨blk1, hb1, h6⟩ := getK_some h5
    clear h5
    split at h6
    case h_2 => cases h6
    rename_i E' xs
    obtain ⟨rfl, h7⟩ := beqE_some h6
    clear h6
    obtain ⟨ex, hex, h8⟩ := gbind_some h7
    clear h7
    obtain ⟨x', h9, hV', hsz, hle, hcells⟩ := lay_some h8
    clear h8
    obtain ⟨hi0, hil, hix⟩ := lget_some hex
    rw [setK_eq, lset_eq] at h9
    refine ⟨_, _, h9, fun Q a w g N hd hh hg hN => ?_⟩
    obtain ⟨g1, ht1, hg1, hd1, hpe⟩ := hf g w (a.eval y) hg (hV _ _ _ _ (hh y (by simp [ho, Op.operands]) _ hvy))
    obtain ⟨hdom, hz, b, base, n, hρ, hidx, he⟩ := (hh x (by simp [ho, Op.operands]) _ hvx).trans ht1 hg
    have hin : idx.toNat = n := by omega
    rw [hin] at hix hil hN
    obtain ⟨bk, q1, q2⟩ := hg1.tok τ hdom
    rw [hb1] at q1
    cases q1
    rcases q2 with ⟨q2, _⟩ | ⟨b', o', hρ', hS, hu, hR⟩
    · rw [hρ] at q2; cases q2
    rw [hρ] at hρ'
    cases hρ'
    have hlen := All2_len hpe
    obtain ⟨hE, hpc⟩ := PRows_get hR hix
    obtain ⟨w', hst, hup, hnew, hold⟩ := storeCells_upd (P := P) (k := base + n * E + off) hu (V1_ones (hpe.imp fun _ _ h => V1_of_PCell (H := []) (PC.weak h))) (by
      intro hne
      have hpos : 0 < (cells vy').length := by rw [hlen]; exact List.length_pos_iff.2 hne
      have hle := hle.resolve_left (fun e => by rw [e] at hpos; simp at hpos)
      obtain ⟨c, hc⟩ : ∃ c, (cells ex)[off + ((a.eval y).cells.toList.length - 1)]? = some c := ⟨_, List.getElem?_eq_getElem (by omega)⟩
      obtain ⟨v, hv, _⟩ := PCells_get hpc hc
      exact ⟨v, by rw [Nat.add_assoc]; exact hv⟩)
    have hr := hrun a w w' b (base + n * E + off) he (by rw [hsz, hlen]; simp) hst
    have ht : Trans g1 hp1 w g1 (hp1.set τ (.rows .live E (xs.set n x'))) w' := Trans.upd hdom hρ hb1 trivial (by
      intro m E2 ys e hm; cases e; exact ⟨_, _, rfl, by simp, by simp⟩) (by simp) hup
    have hlx : (cells x').length = E := by
      rw [hcells]
      rcases hle with hle | hle
      · rw [hle, splice_nil]; exact hE
      · rw [splice_len hle]; exact hE
    have hbr : BlkRel g1 (hp1.set τ (.rows .live E (xs.set n x'))) w' τ (.rows .live E (xs.set n x')) := by
      refine .inr ⟨b, base, hρ, hS, hu.mono ht.shape, PRows_of fun i z hi => ?_⟩
      rcases get_set hi with ⟨rfl, rfl, _⟩ | ⟨hne, hi⟩
      · refine ⟨hlx, PCells_of' fun j c hj => ?_⟩
        rw [hcells] at hj
        by_cases hnil : cells vy' = []
        · rw [hnil, splice_nil] at hj
          obtain ⟨v, hv, hv2⟩ := PCells_get hpc hj
          exact ⟨v, by rw [hold _ (by rw [← hlen, hnil]; simp; omega)]; exact hv, PC.trans ht hg1 hv2⟩
        · have hle := hle.resolve_left hnil
          rw [splice_get hle] at hj
          split at hj
          · obtain ⟨v, hv, hv2⟩ := PCells_get hpc hj
            exact ⟨v, by rw [hold _ (.inl (by omega))]; exact hv, PC.trans ht hg1 hv2⟩
          · split at hj
            · obtain ⟨v, hv, hv2⟩ := All2_get hpe hj
              have := hnew _ _ hv
              exact ⟨v, by rw [show base + i * E + j = base + i * E + off + (j - off) by omega]; exact this, PC.trans ht hg1 hv2⟩
            · obtain ⟨v, hv, hv2⟩ := PCells_get hpc hj
              exact ⟨v, by rw [hold _ (.inr (by omega))]; exact hv, PC.trans ht hg1 hv2⟩
      · obtain ⟨hE', hpc'⟩ := PRows_get hR hi
        refine ⟨hE', PCells_of' fun j c hj => ?_⟩
        obtain ⟨v, hv, hv2⟩ := PCells_get hpc' hj
        have hjl : j < E := by rw [← hE']; exact (List.getElem?_eq_some_iff.1 hj).1
        refine ⟨v, ?_, PC.trans ht hg1 hv2⟩
        rw [hold _ ?_]
        · exact hv
        · have hoff : (a.eval y).cells.toList.length = 0 ∨ off + (a.eval y).cells.toList.length ≤ E := by
            rw [← hlen, ← hE]
            exact hle.imp (fun e => by rw [e]; rfl) id
          rcases Nat.lt_or_gt_of_ne hne with hlt | hgt
          · left
            have : (i + 1) * E ≤ n * E := Nat.mul_le_mul_right _ hlt
            rw [Nat.succ_mul] at this
            omega
          · have : (n + 1) * E ≤ i * E := Nat.mul_le_mul_right _ hgt
            rw [Nat.succ_mul] at this
            rcases hoff with hoff | hoff
            · by_cases hc : base + i * E + j < base + n * E + off
              · exact .inl hc
              · right; omega
            · right; omega
    simp only [Oper.wp, hr, Oper.upon]
    exact hN _ _ g1 (ht1.trans ht) (Good.upd hg1 hdom hρ hb1 trivial ht hup hbr) (fun x => by rw [hd1, hd]; simp [hlen1]) trivial (fun c hc hn => hup.other c fun e => hn (by unfold wrB; rw [ho]; exact ⟨_, by rw [e]; exact he⟩))
end
end Go.AM
namespace Go.AM
section
variable {P : Program} {T : TypeId → Option TI} {o : Oper} {tm : List AV} {hp : List Blk} {κ : AV → List Blk → R} {r : AV × List Blk}
theorem append_runs {w : World} {ta tb ty e eb : TypeId} {i : TypeInfo} {z : Value} (ht : P.underlying ta = some (.slice e)) (htb : P.underlying tb = some (.slice eb)) (hi : P.info? e = some i) (hz : i.zero = some z)
    {A B : Option Addr} {sLen sCap n c : Nat} {olds news : List Value} (hnew : ∀ w1 : World, w1.heap = w.heap → (Builtin.firstCells i.size n (.slice B n c)).run P w1 = .ok news.toArray w1)
    (hold : ∀ w1 : World, w1.heap = w.heap → (Builtin.firstCells i.size sLen (.slice A sLen sCap)).run P w1 = .ok olds.toArray w1) (hby : 0 < i.bytes) (hfit : (sLen + n) * i.bytes ≤ 140737488355328) :
    (sLen + n ≤ sCap → A = none → (Builtin.append_ #[ta, tb] ty #[.slice A sLen sCap, .slice B n c]).run P w = .ok (.slice none (sLen + n) sCap) w) ∧
    (sLen + n ≤ sCap → ∀ a w', A = some a → (storeCells (a.add (sLen * i.size)) news).run P w = .ok () w' → (Builtin.append_ #[ta, tb] ty #[.slice A sLen sCap, .slice B n c]).run P w = .ok (.slice A (sLen + n) sCap) w') ∧
    (sCap < sLen + n → ∃ cap rest, sLen + n ≤ cap ∧ rest.length = (cap - (sLen + n)) * z.cells.size ∧
      (Builtin.append_ #[ta, tb] ty #[.slice A sLen sCap, .slice B n c]).run P w = .ok (.slice (some ⟨w.heap.size, 0, none⟩) (sLen + n) cap) (w.drew.alloc (.cells (olds ++ news ++ rest).toArray e))) := by
  have hf := hnew w rfl
  refine ⟨fun h hA => ?_, fun h a w' hA hs => ?_, fun h => ?_⟩
  · subst hA
    simp [Builtin.append_, run_underlying ht, run_underlying htb, sizeOf, typeInfo, hi, Builtin.lenOf, h, hf]
  · subst hA
    simp [Builtin.append_, run_underlying ht, run_underlying htb, sizeOf, typeInfo, hi, Builtin.lenOf, h, hf, hs]
  · have hn : ¬ (sLen + n ≤ sCap) := by omega
    have h1 : sLen + n ≤ 140737488355328 := Nat.le_trans (Nat.le_mul_of_pos_right _ hby) hfit
    have h63' : ¬ (9223372036854775807 < ((sLen : Int) + (n : Int))) := by omega
    have hg := growslice_fits (need := sLen + n) (old := sCap) (bytes := i.bytes) (by omega) hfit
    have h48' : ¬ (281474976710656 < Builtin.nextslicecap (sLen + n) sCap * i.bytes) := by omega
    have hf' := hnew w.drew rfl
    have hfo := hold w.drew rfl
    refine ⟨grownCap w (sLen + n) sCap e, (Builtin.zeroCells z.cells (grownCap w (sLen + n) sCap e - (sLen + n))).toList, by simp [grownCap, Question.cut], by simp [Builtin.zeroCells], ?_⟩
    simp [Builtin.append_, run_underlying ht, run_underlying htb, sizeOf, typeInfo, zeroValue, hi, hz, Builtin.lenOf, hn, h63', h48', Question.forced, hf', hfo, newRow, grownCap]
    congr 2
    apply Array.ext'
    simp [List.append_assoc]
theorem vals_of {g : G} {w : World} {E : Nat} {rows : List AV} {A : Option Addr} {cap : Nat} (hor : rows = [] ∨ ∃ b off, A = some ⟨b, off, none⟩ ∧ PRows g.S g.Sl w E rows b off) :
    ∃ vs, PFlat g w E rows vs ∧ ∀ w1 : World, w1.heap = w.heap → (Builtin.firstCells E rows.length (.slice A rows.length cap)).run P w1 = .ok vs.toArray w1 := by
  rcases hor with rfl | ⟨b, off, rfl, hR⟩
  · refine ⟨[], rfl, fun w1 _ => ?_⟩
    cases A <;> simp [Builtin.firstCells, loadCells, loadCellsFrom]
  · obtain ⟨vs, h1, h2⟩ := PFlat_of hR
    refine ⟨vs, h1, fun w1 hw => run_firstCells_some w1 E rows.length ⟨b, off, none⟩ rows.length cap vs h1.len fun j v hj => ?_⟩
    rw [addr_add]
    have := h2 j v hj
    simpa [World.cell?, hw] using this
theorem lst_rows {g : G} {H : List Blk} {w : World} {oo c : Bool} {E : Nat} {xs : List AV} {v : Value} (h : V3 g H w (.lst oo c E xs) v) : ∃ A cap, v = .slice A xs.length cap ∧ xs.length ≤ cap ∧ (c = true → cap = xs.length) ∧
    (xs = [] ∨ ∃ b off, A = some ⟨b, off, none⟩ ∧ PRows g.S g.Sl w E xs b off) := by
  simp only [V3, V2, V1, PCell] at h
  obtain ⟨A, cap, e, h1, h2, h3⟩ := h
  exact ⟨A, cap, e, h1, h2, h3.imp id fun ⟨b, off, h4, _, h5⟩ => ⟨b, off, h4, h5⟩⟩
theorem own_rows' {g : G} {H : List Blk} {w : World} {τ E : Nat} {rr : Option (Int × Int)} {c : Bool} {v : Value} {m : Mode} {xs : List AV} (hg : Good g H w)
    (h : V3 g H w (.own τ E rr c) v) (hb : H[τ]? = some (.rows m E xs)) (hm : m ≠ .dead) :
    ∃ A cap, v = .slice A (rowsD rr xs).length cap ∧ (rowsD rr xs).length ≤ cap ∧ (c = true → cap = (rowsD rr xs).length) ∧ (rowsD rr xs = [] ∨ ∃ b off, A = some ⟨b, off, none⟩ ∧ PRows g.S g.Sl w E (rowsD rr xs) b off) := by
  obtain ⟨blk, h1, h2⟩ := hg.tok τ h.1
  rw [hb] at h1
  cases h1
  have h3 := own_rows (S := g.S) (Sl := g.Sl) h hb hm (by
    cases m with
    | dead => exact absurd rfl hm
    | live =>
      rcases h2 with h2 | ⟨b, o, h3, h4, h5, h6⟩
      · exact .inl h2
      · exact .inr ⟨b, o, h3, h6⟩
    | frozen =>
      rcases h2 with h2 | ⟨b, o, h3, h4, h5, h6⟩
      · exact .inl h2
      · exact .inr ⟨b, o, h3, h6⟩)
  obtain ⟨A, cap, e1, e2, e3, e4⟩ := h3
  exact ⟨A, cap, e1, e2, e3, e4.imp id fun ⟨b, off, base, h4, _, h5⟩ => ⟨b, off, h4, h5⟩⟩
theorem src_ok {x : AV} {E : Nat} {κ : List AV → R} (h : srcK hp x E κ = some r) : ∃ news, κ news = some r ∧ ∀ (g : G) (w : World) (v : Value), Good g hp w → V3 g hp w x v →
    ∃ A cap vs, v = .slice A news.length cap ∧ PFlat g w E news vs ∧ ∀ w1 : World, w1.heap = w.heap → (Builtin.firstCells E news.length (.slice A news.length cap)).run P w1 = .ok vs.toArray w1 := by
  cases x <;> simp only [srcK] at h <;> try (cases h; done)
  case nil =>
    refine ⟨[], h, fun g w v hg hv => ?_⟩
    simp only [V3, V2, V1, PCell] at hv
    obtain ⟨A, rfl⟩ := hv
    obtain ⟨vs, h1, h2⟩ := vals_of (P := P) (g := g) (w := w) (E := E) (A := A) (cap := 0) (rows := []) (.inl rfl)
    exact ⟨A, 0, vs, rfl, h1, h2⟩
  case lst oo c E' xs =>
    obtain ⟨rfl, h'⟩ := beqE_some h
    refine ⟨xs, h', fun g w v hg hv => ?_⟩
    obtain ⟨A, cap, e, _, _, h3⟩ := lst_rows hv
    obtain ⟨vs, h1, h2⟩ := vals_of (P := P) (cap := cap) h3
    exact ⟨A, cap, vs, e, h1, h2⟩
  case own τ E' rr c =>
    obtain ⟨rfl, h'⟩ := beqE_some h
    clear h
    obtain ⟨blk, hb, h1⟩ := getK_some h'
    clear h'
    have key : ∀ m xs, blk = .rows m E xs → m ≠ .dead → rowsOf rr xs κ = some r → ∃ news, κ news = some r ∧ ∀ (g : G) (w : World) (v : Value), Good g hp w → V3 g hp w (.own τ E rr c) v →
        ∃ A cap vs, v = .slice A news.length cap ∧ PFlat g w E news vs ∧ ∀ w1 : World, w1.heap = w.heap → (Builtin.firstCells E news.length (.slice A news.length cap)).run P w1 = .ok vs.toArray w1 := by
      intro m xs e hm h
      subst e
      rw [rowsOf_eq] at h
      refine ⟨_, h, fun g w v hg hv => ?_⟩
      obtain ⟨A, cap, e, _, _, h3⟩ := own_rows' hg hv hb hm
      obtain ⟨vs, h1, h2⟩ := vals_of (P := P) (cap := cap) h3
      exact ⟨A, cap, vs, e, h1, h2⟩
    split at h1
    · obtain ⟨rfl, h2⟩ := beqE_some h1
      exact key _ _ rfl (by simp) h2
    · obtain ⟨rfl, h2⟩ := beqE_some h1
      exact key _ _ rfl (by simp) h2
    · cases h1
section dead
variable {g : G} {H : List Blk} {w : World} {τ E : Nat} {xs : List AV}
theorem Trans.dead : Trans g H w g (H.set τ (.rows .dead E xs)) w where
  dom _ h := h
  ρ _ _ := rfl
  S _ h := h
  Sl _ h := h
  newS _ h := .inl h
  newSl _ h := .inl h
  size := Nat.le_refl _
  shape := .refl w
  env := .refl w
  prot _ _ _ := rfl
  own b h := by
    obtain ⟨x, o, h1, h2, blk, h3, h4⟩ := h
    rcases get_set h3 with ⟨rfl, rfl, _⟩ | ⟨hne, h3⟩
    · exact h4.elim
    · exact .inr ⟨x, o, h1, h2, blk, h3, h4⟩
  len x hx m E' ys h hm := by
    rcases get_set h with ⟨rfl, h1, _⟩ | ⟨hne, h3⟩
    · cases h1; exact absurd rfl hm
    · exact ⟨m, ys, h3, hm, rfl⟩
  box x hx y h := by
    rcases get_set h with ⟨rfl, h1, _⟩ | ⟨hne, h3⟩
    · cases h1
    · exact ⟨y, h3⟩
theorem Good.dead (hg : Good g H w) {blk : Blk} (hb : H[τ]? = some blk) : Good g (H.set τ (.rows .dead E xs)) w where
  sub := hg.sub
  lt := hg.lt
  tok x hx := by
    obtain ⟨bk, h1, h2⟩ := hg.tok x hx
    by_cases e : x = τ
    · subst e
      exact ⟨_, get_set_eq hb, trivial⟩
    · exact ⟨bk, by rw [get_set_ne e]; exact h1, BlkRel.trans Trans.dead hg hx (fun b o hρ ho => ⟨rfl, Own.notS hg ⟨x, o, hx, hρ, owned_of h1 ho⟩⟩) h2⟩
  inj x y b o o' hx hy h1 h2 h3 h4 := by
    have key : ∀ z, owned (H.set τ (.rows .dead E xs)) z → owned H z := by
      rintro z ⟨bk, h5, h6⟩
      rcases get_set h5 with ⟨rfl, rfl, _⟩ | ⟨hne, h7⟩
      · exact h6.elim
      · exact ⟨bk, h7, h6⟩
    exact hg.inj x y b o o' hx hy h1 h2 (key x h3) (key y h4)
end dead
theorem grow_fin {g : G} {H : List Blk} {w w1 : World} {E : Nat} {xs : List AV} {cs rest : List Value} {e : TypeId} {cap : Nat} (hg : Good g H w) (hd : ∀ τ, g.dom τ ↔ τ < H.length) (hf : PFlat g w E xs cs)
    (hw : w1.heap = w.heap.push (.cells (cs ++ rest).toArray e)) (he : Env w w1) (hc : xs.length ≤ cap) (hr : rest.length = (cap - xs.length) * E) :
    ∃ g', Trans g H w g' (H ++ [.rows .live E xs]) w1 ∧ Good g' (H ++ [.rows .live E xs]) w1 ∧ (∀ τ, g'.dom τ ↔ τ < (H ++ [Blk.rows .live E xs]).length) ∧
      V3 g' (H ++ [.rows .live E xs]) w1 (.own H.length E none false) (.slice (some ⟨w.heap.size, 0, none⟩) xs.length cap) := by
  have hpre : H <+: H ++ [.rows .live E xs] := List.prefix_append _ _
  have hdd : ∀ τ, g.dom τ → τ < H.length := fun τ h => (hd τ).1 h
  have hg2 := hg.ext hpre hdd
  have hτ : ¬ g.dom H.length := fun h => by have := hdd _ h; omega
  have ht := (Trans.ext (w := w) hpre hdd).trans (Trans.push hg2 hτ hw he)
  have h7 := hf.trans ht hg
  have hsz : (cs ++ rest).toArray.size = cap * E := by
    simp only [List.size_toArray, List.length_append, hf.len, hr, ← Nat.add_mul]
    congr 1
    omega
  have hb : BlkRel (g.add H.length (some (w.heap.size, 0))) (H ++ [.rows .live E xs]) w1 H.length (.rows .live E xs) := by
    refine .inr ⟨w.heap.size, 0, G.add_ρ, fun h => ?_, unf_push hw (Nat.zero_le _), h7.rows fun j v hj => ?_⟩
    · have := hg.lt _ h; omega
    · rw [Nat.zero_add, cell_push hw, List.getElem?_toArray, List.getElem?_append_left (List.getElem?_eq_some_iff.1 hj).1]; exact hj
  refine ⟨_, ht, Good.push hg2 hτ hw he (prefix_last (List.prefix_refl _)) hb, fun τ => ?_, own_new (List.prefix_refl _) G.add_dom G.add_ρ hc (by simp) (unf_push hw (by omega))⟩
  simp only [G.add, hd, List.length_append, List.length_singleton]
  omega
theorem null_fin {g : G} {H : List Blk} {w : World} {E : Nat} {A : Option Addr} (hg : Good g H w) (hd : ∀ τ, g.dom τ ↔ τ < H.length) :
    ∃ g', Trans g H w g' (H ++ [.rows .live E []]) w ∧ Good g' (H ++ [.rows .live E []]) w ∧ (∀ τ, g'.dom τ ↔ τ < (H ++ [Blk.rows .live E []]).length) ∧
      V3 g' (H ++ [.rows .live E []]) w (.own H.length E none false) (.slice A 0 0) := by
  have hpre : H <+: H ++ [.rows .live E []] := List.prefix_append _ _
  have hdd : ∀ τ, g.dom τ → τ < H.length := fun τ h => (hd τ).1 h
  have hg2 := hg.ext hpre hdd
  have hτ : ¬ g.dom H.length := fun h => by have := hdd _ h; omega
  refine ⟨_, (Trans.ext (w := w) hpre hdd).trans (Trans.null hτ), Good.null hg2 hτ (prefix_last (List.prefix_refl _)), fun τ => ?_, own_null (List.prefix_refl _) G.add_dom G.add_ρ⟩
  simp only [G.add, hd, List.length_append, List.length_singleton]
  omega
section move
variable {g : G} {H : List Blk} {w w' : World} {τ E b base base' : Nat} {xs ys : List AV}
theorem Trans.move (hd : ∀ τ, g.dom τ ↔ τ < H.length) (hdt : g.dom τ) (hρ : g.ρ τ = some (b, base)) (hb : H[τ]? = some (.rows .live E xs)) (hu : Upd w b w') :
    Trans g H w (g.add H.length (some (b, base'))) (H.set τ (.rows .dead E xs) ++ [.rows .live E ys]) w' where
  dom _ h := .inl h
  ρ x h := by have : x ≠ H.length := fun e => by have := (hd x).1 h; omega
              simp [G.add, this]
  S _ h := h
  Sl _ h := h
  newS _ h := .inl h
  newSl _ h := .inl h
  size := by rw [hu.size]; exact Nat.le_refl _
  shape := hu.shape
  env := hu.env
  prot x hx hn := hu.other x fun e => hn ⟨τ, base, hdt, by rw [hρ, e], _, hb, trivial⟩
  own x h := by
    obtain ⟨y, o, h1, h2, bk, h3, h4⟩ := h
    by_cases hy : y = H.length
    · subst hy
      simp [G.add] at h2
      exact .inr ⟨τ, base, hdt, by rw [hρ, h2.1], _, hb, trivial⟩
    · have h1 := h1.resolve_right hy
      have hlt := (hd y).1 h1
      rw [List.getElem?_append_left (by simpa using hlt)] at h3
      simp [G.add, hy] at h2
      rcases get_set h3 with ⟨rfl, rfl, _⟩ | ⟨_, h3⟩
      · exact h4.elim
      · exact .inr ⟨y, o, h1, h2, bk, h3, h4⟩
  len y hy m E' zs h hm := by
    have hlt := (hd y).1 hy
    rw [List.getElem?_append_left (by simpa using hlt)] at h
    rcases get_set h with ⟨rfl, h1, _⟩ | ⟨_, h3⟩
    · cases h1; exact absurd rfl hm
    · exact ⟨m, zs, h3, hm, rfl⟩
  box y hy z h := by
    have hlt := (hd y).1 hy
    rw [List.getElem?_append_left (by simpa using hlt)] at h
    rcases get_set h with ⟨rfl, h1, _⟩ | ⟨_, h3⟩
    · cases h1
    · exact ⟨z, h3⟩
theorem Good.move (hg : Good g H w) (hd : ∀ τ, g.dom τ ↔ τ < H.length) (hdt : g.dom τ) (hρ : g.ρ τ = some (b, base)) (hb : H[τ]? = some (.rows .live E xs)) (hu : Upd w b w')
    (hr : PRows (g.add H.length (some (b, base'))).S (g.add H.length (some (b, base'))).Sl w' E ys b base') (hun : Unf w b 0) :
    Good (g.add H.length (some (b, base'))) (H.set τ (.rows .dead E xs) ++ [.rows .live E ys]) w' where
  sub := hg.sub
  lt x h := by rw [hu.size]; exact hg.lt x h
  tok x hx := by
    have hO : Own g H b := ⟨τ, base, hdt, hρ, _, hb, trivial⟩
    by_cases e : x = H.length
    · subst e
      refine ⟨.rows .live E ys, by simp, .inr ⟨b, base', G.add_ρ, hO.notS hg, hun.mono hu.shape, hr⟩⟩
    · have hx' := hx.resolve_right e
      have hlt := (hd x).1 hx'
      by_cases e' : x = τ
      · subst e'
        exact ⟨.rows .dead E xs, by rw [List.getElem?_append_left (by simpa using hlt)]; exact get_set_eq hb, trivial⟩
      · obtain ⟨bk, h1, h2⟩ := hg.tok x hx'
        refine ⟨bk, by rw [List.getElem?_append_left (by simpa using hlt), get_set_ne e']; exact h1, BlkRel.trans (Trans.move hd hdt hρ hb hu) hg hx' (fun c o hρ' ho' => ⟨hu.other c fun ec => ?_, Own.notS hg ⟨x, o, hx', hρ', owned_of h1 ho'⟩⟩) h2⟩
        subst ec
        exact e' (hg.inj x τ c o base hx' hdt hρ' hρ (owned_of h1 ho') ⟨_, hb, trivial⟩)
  inj x y c o o' hx hy h1 h2 h3 h4 := by
    have key : ∀ z, z ≠ H.length → g.dom z → owned (H.set τ (.rows .dead E xs) ++ [.rows .live E ys]) z → z ≠ τ ∧ owned H z := by
      rintro z hz hdz ⟨bk, h5, h6⟩
      have hlt := (hd z).1 hdz
      rw [List.getElem?_append_left (by simpa using hlt)] at h5
      rcases get_set h5 with ⟨rfl, rfl, _⟩ | ⟨hne, h7⟩
      · exact h6.elim
      · exact ⟨hne, bk, h7, h6⟩
    by_cases ex : x = H.length
    · by_cases ey : y = H.length
      · rw [ex, ey]
      · subst ex
        simp [G.add] at h1
        simp [G.add, ey] at h2
        obtain ⟨k1, k2⟩ := key y ey (hy.resolve_right ey) h4
        obtain ⟨rfl, _⟩ := h1
        exact absurd (hg.inj y τ b o' base (hy.resolve_right ey) hdt h2 hρ k2 ⟨_, hb, trivial⟩) k1
    · obtain ⟨k1, k2⟩ := key x ex (hx.resolve_right ex) h3
      simp [G.add, ex] at h1
      by_cases ey : y = H.length
      · subst ey
        simp [G.add] at h2
        obtain ⟨rfl, _⟩ := h2
        exact absurd (hg.inj x τ b o base (hx.resolve_right ex) hdt h1 hρ k2 ⟨_, hb, trivial⟩) k1
      · simp [G.add, ey] at h2
        exact hg.inj x y c o o' (hx.resolve_right ex) (hy.resolve_right ey) h1 h2 k2 (key y ey (hy.resolve_right ey) h4).2
end move
end
end Go.AM
namespace Go.AM
section
variable {P : Program} {T : TypeId → Option TI} {o : Oper} {tm : List AV} {hp : List Blk} {κ : AV → List Blk → R} {r : AV × List Blk}
structure ApT (P : Program) (E by_ : Nat) (ta tb e eb : TypeId) (i : TypeInfo) (z : Value) : Prop where
  ht : P.underlying ta = some (.slice e)
  htb : P.underlying tb = some (.slice eb)
  hi : P.info? e = some i
  hz : i.zero = some z
  hs : i.size = E
  hzs : z.cells.size = E
  hb : i.bytes = by_
  pos : 0 < by_
def ApOk (P : Program) (hp : List Blk) (s : AV) (E by_ : Nat) (news : List AV) (v : AV) (hp' : List Blk) : Prop :=
  ∀ (ta tb ty e eb : TypeId) (i : TypeInfo) (z : Value) (g : G) (w : World) (val : Value) (B : Option Addr) (c : Nat) (vs : List Value), ApT P E by_ ta tb e eb i z → Good g hp w → (∀ τ, g.dom τ ↔ τ < hp.length) → V3 g hp w s val →
    PFlat g w E news vs → (∀ w1 : World, w1.heap = w.heap → (Builtin.firstCells E news.length (.slice B news.length c)).run P w1 = .ok vs.toArray w1) →
    ∃ vv w' g', (Builtin.append_ #[ta, tb] ty #[val, .slice B news.length c]).run P w = .ok vv w' ∧ Trans g hp w g' hp' w' ∧ Good g' hp' w' ∧ (∀ τ, g'.dom τ ↔ τ < hp'.length) ∧ V3 g' hp' w' v vv ∧ (∀ b', b' < w.heap.size → (∀ k' l' c', 0 < c' → (val : Value) ≠ .slice (some ⟨b', k', none⟩) l' c') → w'.heap[b']? = w.heap[b']?)
theorem fits_nat {a b c : Nat} (h : fits (iadd a b) c = true) : (a + b) * c ≤ 140737488355328 := by
  rw [fits_eq, iadd_eq] at h
  have h := of_decide_eq_true h
  have h2 : (((a + b) * c : Nat) : Int) ≤ 140737488355328 := by rw [Int.natCast_mul, Int.natCast_add]; exact h
  omega
section
variable {E by_ : Nat} {ta tb ty e eb : TypeId} {i : TypeInfo} {z : Value} {g : G} {w : World} {A B : Option Addr} {c cap : Nat} {vs olds : List Value} {xs news : List AV} {H : List Blk}
theorem ap_grow (hT : ApT P E by_ ta tb e eb i z) (hg : Good g H w) (hd : ∀ τ, g.dom τ ↔ τ < H.length) (hx : PFlat g w E xs olds) (hold : ∀ w1 : World, w1.heap = w.heap → (Builtin.firstCells E xs.length (.slice A xs.length cap)).run P w1 = .ok olds.toArray w1)
    (hn : PFlat g w E news vs) (hnew : ∀ w1 : World, w1.heap = w.heap → (Builtin.firstCells E news.length (.slice B news.length c)).run P w1 = .ok vs.toArray w1) (hfit : (xs.length + news.length) * by_ ≤ 140737488355328) (hc : cap < xs.length + news.length) :
    ∃ vv w' g', (Builtin.append_ #[ta, tb] ty #[.slice A xs.length cap, .slice B news.length c]).run P w = .ok vv w' ∧ Trans g H w g' (H ++ [.rows .live E (xs ++ news)]) w' ∧ Good g' (H ++ [.rows .live E (xs ++ news)]) w' ∧
      (∀ τ, g'.dom τ ↔ τ < (H ++ [Blk.rows .live E (xs ++ news)]).length) ∧ V3 g' (H ++ [.rows .live E (xs ++ news)]) w' (.own H.length E none false) vv ∧ (∀ b', b' < w.heap.size → (∀ k' l' c', 0 < c' → (.slice A xs.length cap : Value) ≠ .slice (some ⟨b', k', none⟩) l' c') → w'.heap[b']? = w.heap[b']?) := by
  obtain ⟨ht, htb, hi, hz, rfl, hzs, rfl, hpos⟩ := hT
  obtain ⟨cap', rest, h1, h2, h3⟩ := (append_runs (ty := ty) ht htb hi hz hnew hold hpos hfit).2.2 hc
  obtain ⟨g', k1, k2, k3, k4⟩ := grow_fin (w1 := w.drew.alloc (.cells (olds ++ vs ++ rest).toArray e)) (cap := cap') (rest := rest) (e := e) hg hd (hx.append hn) rfl ⟨rfl, rfl, rfl, Nat.le_succ _⟩ (by simpa using h1) (by rw [h2, hzs]; simp)
  refine ⟨_, _, g', h3, k1, k2, k3, ?_, fun b' hb' _ => ?_⟩
  · rw [List.length_append] at k4
    exact k4
  · show (w.heap.push _)[b']? = w.heap[b']?
    rw [Array.getElem?_push_lt hb', Array.getElem?_eq_getElem hb']
theorem ap_null (hT : ApT P E by_ ta tb e eb i z) (hg : Good g H w) (hd : ∀ τ, g.dom τ ↔ τ < H.length) (hx : xs = []) (hn : news = []) (hv : vs = []) (hold : ∀ w1 : World, w1.heap = w.heap → (Builtin.firstCells E xs.length (.slice A xs.length cap)).run P w1 = .ok olds.toArray w1)
    (hnew : ∀ w1 : World, w1.heap = w.heap → (Builtin.firstCells E news.length (.slice B news.length c)).run P w1 = .ok vs.toArray w1) (hcap : cap = 0) :
    ∃ vv w' g', (Builtin.append_ #[ta, tb] ty #[.slice A xs.length cap, .slice B news.length c]).run P w = .ok vv w' ∧ Trans g H w g' (H ++ [.rows .live E (xs ++ news)]) w' ∧ Good g' (H ++ [.rows .live E (xs ++ news)]) w' ∧
      (∀ τ, g'.dom τ ↔ τ < (H ++ [Blk.rows .live E (xs ++ news)]).length) ∧ V3 g' (H ++ [.rows .live E (xs ++ news)]) w' (.own H.length E none false) vv ∧ (∀ b', b' < w.heap.size → (∀ k' l' c', 0 < c' → (.slice A xs.length cap : Value) ≠ .slice (some ⟨b', k', none⟩) l' c') → w'.heap[b']? = w.heap[b']?) := by
  obtain ⟨ht, htb, hi, hz, rfl, hzs, rfl, hpos⟩ := hT
  subst hx; subst hn; subst hv; subst hcap
  obtain ⟨r1, r2, _⟩ := append_runs (ty := ty) ht htb hi hz hnew hold hpos (by simp)
  have hr : (Builtin.append_ #[ta, tb] ty #[.slice A ([] : List AV).length 0, .slice B ([] : List AV).length c]).run P w = .ok (.slice A 0 0) w := by
    cases A with
    | none => exact r1 (by simp) rfl
    | some a => exact r2 (by simp) a w rfl (by simp [storeCells])
  obtain ⟨g', k1, k2, k3, k4⟩ := null_fin (E := i.size) (A := A) hg hd
  exact ⟨_, _, g', hr, k1, k2, k3, k4, fun _ _ _ => rfl⟩
end
theorem ap_same {P : Program} {E by_ : Nat} {ta tb ty e eb : TypeId} {i : TypeInfo} {z : Value} {g : G} {w : World} {A B : Option Addr} {c cap n : Nat} {vs olds : List Value} {H : List Blk} {v : AV}
    (hT : ApT P E by_ ta tb e eb i z) (hg : Good g H w) (hd : ∀ τ, g.dom τ ↔ τ < H.length) (hn : PFlat g w E [] vs) (hold : ∀ w1 : World, w1.heap = w.heap → (Builtin.firstCells E n (.slice A n cap)).run P w1 = .ok olds.toArray w1)
    (hnew : ∀ w1 : World, w1.heap = w.heap → (Builtin.firstCells E 0 (.slice B 0 c)).run P w1 = .ok vs.toArray w1) (hfit : n * by_ ≤ 140737488355328) (hc : n ≤ cap) (hv : V3 g H w v (.slice A n cap)) :
    ∃ vv w' g', (Builtin.append_ #[ta, tb] ty #[.slice A n cap, .slice B ([] : List AV).length c]).run P w = .ok vv w' ∧ Trans g H w g' H w' ∧ Good g' H w' ∧ (∀ τ, g'.dom τ ↔ τ < H.length) ∧ V3 g' H w' v vv ∧ (∀ b', b' < w.heap.size → (∀ k' l' c', 0 < c' → (.slice A n cap : Value) ≠ .slice (some ⟨b', k', none⟩) l' c') → w'.heap[b']? = w.heap[b']?) := by
  obtain ⟨ht, htb, hi, hz, rfl, hzs, rfl, hpos⟩ := hT
  have hv0 : vs = [] := by simpa [PFlat] using hn
  subst hv0
  obtain ⟨r1, r2, _⟩ := append_runs (ty := ty) ht htb hi hz hnew hold hpos (by simpa using hfit)
  have hr : (Builtin.append_ #[ta, tb] ty #[.slice A n cap, .slice B ([] : List AV).length c]).run P w = .ok (.slice A n cap) w := by
    cases A with
    | none => exact r1 (by simpa using hc) rfl
    | some a => exact r2 (by simpa using hc) a w rfl (by simp [storeCells])
  exact ⟨_, _, g, hr, .refl _ _ _, hg, hd, hv, fun _ _ _ => rfl⟩
noncomputable def lenD (rr : Option (Int × Int)) (xs : List AV) : Int := (rngD rr xs).2
theorem lenOf_eq (rr : Option (Int × Int)) (xs : List AV) (κ : Int → R) : lenOf rr xs κ = κ (lenD rr xs) := by
  cases rr <;> rfl
theorem PFlat.drop {g : G} {w : World} {E : Nat} : ∀ {n : Nat} {xs : List AV} {vs : List Value}, PFlat g w E xs vs → PFlat g w E (xs.drop n) (vs.drop (n * E))
  | 0, xs, vs, h => by simpa using h
  | n + 1, [], vs, h => by simp only [PFlat] at h; subst h; simp [PFlat]
  | n + 1, x :: xs, vs, ⟨r, vs', e, h1, h2, h3⟩ => by
    subst e
    have hr : r.length = E := by rw [← All2_len h2, h1]
    rw [show (n + 1) * E = r.length + n * E by rw [hr, Nat.succ_mul]; omega, List.drop_length_add_append]
    exact h3.drop
theorem ap_move {E by_ : Nat} {ta tb ty e eb : TypeId} {i : TypeInfo} {z : Value} {g : G} {w : World} {B : Option Addr} {c cap k b base base' : Nat} {vs olds : List Value} {xs ys news : List AV} {H : List Blk} {τ : Nat}
    (hT : ApT P E by_ ta tb e eb i z) (hg : Good g H w) (hd : ∀ τ, g.dom τ ↔ τ < H.length) (hdt : g.dom τ) (hρ : g.ρ τ = some (b, base)) (hb : H[τ]? = some (.rows .live E xs))
    (hR : PRows g.S g.Sl w E ys b base') (hk : k = base' ∨ cap = 0) (hu : Unf w b (base' + cap * E)) (hold : ∀ w1 : World, w1.heap = w.heap → (Builtin.firstCells E ys.length (.slice (some ⟨b, k, none⟩) ys.length cap)).run P w1 = .ok olds.toArray w1)
    (hn : PFlat g w E news vs) (hnew : ∀ w1 : World, w1.heap = w.heap → (Builtin.firstCells E news.length (.slice B news.length c)).run P w1 = .ok vs.toArray w1) (hfit : (ys.length + news.length) * by_ ≤ 140737488355328) (hc : ys.length + news.length ≤ cap) :
    ∃ vv w' g', (Builtin.append_ #[ta, tb] ty #[.slice (some ⟨b, k, none⟩) ys.length cap, .slice B news.length c]).run P w = .ok vv w' ∧ Trans g H w g' (H.set τ (.rows .dead E xs) ++ [.rows .live E (ys ++ news)]) w' ∧ Good g' (H.set τ (.rows .dead E xs) ++ [.rows .live E (ys ++ news)]) w' ∧
      (∀ τ', g'.dom τ' ↔ τ' < (H.set τ (.rows .dead E xs) ++ [Blk.rows .live E (ys ++ news)]).length) ∧ V3 g' (H.set τ (.rows .dead E xs) ++ [.rows .live E (ys ++ news)]) w' (.own H.length E none false) vv ∧ (∀ b', b' < w.heap.size → (∀ k' l' c', 0 < c' → (.slice (some ⟨b, k, none⟩) ys.length cap : Value) ≠ .slice (some ⟨b', k', none⟩) l' c') → w'.heap[b']? = w.heap[b']?) := by
  obtain ⟨ht, htb, hi, hz, rfl, hzs, rfl, hpos⟩ := hT
  obtain ⟨us, hys, hus⟩ := PFlat_of hR
  have hun : Unf w b 0 := hu.le (Nat.zero_le _)
  obtain ⟨w', hst, hup, hnc, hoc⟩ := storeCells_upd (P := P) (k := k + ys.length * i.size) (vs := vs) hun hn.oneCell (by
    intro hne
    have hpos : 0 < vs.length := List.length_pos_iff.2 hne
    have hlen := hn.len
    have hk := hk.resolve_right (fun e => by
      have : news.length = 0 := by omega
      rw [this, Nat.zero_mul] at hlen; omega)
    subst hk
    refine hu.cell ?_
    have := Nat.mul_le_mul_right i.size hc
    rw [Nat.add_mul] at this
    omega)
  have hr := (append_runs (ty := ty) ht htb hi hz hnew hold hpos hfit).2.1 hc ⟨b, k, none⟩ w' rfl (by rw [addr_add]; exact hst)
  have htr : Trans g H w (g.add H.length (some (b, base'))) (H.set τ (.rows .dead i.size xs) ++ [.rows .live i.size (ys ++ news)]) w' := Trans.move hd hdt hρ hb hup
  have hRows : PRows (g.add H.length (some (b, base'))).S (g.add H.length (some (b, base'))).Sl w' i.size (ys ++ news) b base' := by
    refine PFlat.rows (vs := us ++ vs) ((hys.append hn).trans htr hg) fun j v hj => ?_
    by_cases hj1 : j < us.length
    · rw [List.getElem?_append_left hj1] at hj
      rw [hoc _ ?_]
      · exact hus j v hj
      · left
        rw [hys.len] at hj1
        rcases hk with rfl | hk
        · omega
        · have : ys.length = 0 := by omega
          rw [this] at hj1; simp at hj1
    · rw [List.getElem?_append_right (by omega)] at hj
      have := hnc _ _ hj
      have hjl := (List.getElem?_eq_some_iff.1 hj).1
      have hk := hk.resolve_right (fun e => by
        have h0 : news.length = 0 := by omega
        have := hn.len
        rw [h0, Nat.zero_mul] at this; omega)
      subst hk
      rw [show k + j = k + ys.length * i.size + (j - us.length) by rw [← hys.len]; omega]
      exact this
  refine ⟨_, _, _, hr, htr, Good.move hg hd hdt hρ hb hup hRows hun, fun x => ?_, ?_, fun b' hb' hne => ?_⟩
  · simp only [G.add, hd, List.length_append, List.length_singleton, List.length_set]; omega
  · refine ⟨G.add_dom, ?_⟩
    rw [G.add_ρ]
    have hl : (H.set τ (.rows .dead i.size xs) ++ [Blk.rows .live i.size (ys ++ news)])[H.length]? = some (.rows .live i.size (ys ++ news)) := by
      rw [List.getElem?_append_right (by simp)]; simp
    refine ⟨k, 0, ys.length + news.length, cap, rfl, by simpa using hk, hc, by simp, fun _ m' E' zs hh _ => ?_, ?_, rfl, fun m' E' zs hh _ => ?_⟩
    · rw [hl] at hh; cases hh; simp; omega
    · have := hu.mono hup.shape; simpa using this
    · rw [hl] at hh; cases hh; simp
  · rcases Nat.eq_zero_or_pos cap with h0 | h0
    · have hv0 : vs = [] := by
        apply List.eq_nil_of_length_eq_zero
        have hnl : news.length = 0 := by omega
        rw [hn.len, hnl, Nat.zero_mul]
      subst hv0
      simp [storeCells] at hst
      rw [hst]
    · refine hup.other b' fun e => ?_
      subst e
      exact hne _ _ _ h0 rfl
theorem ap_over {E by_ : Nat} {ta tb ty e eb : TypeId} {i : TypeInfo} {z : Value} {g : G} {w : World} {B : Option Addr} {c cap b base oN lN : Nat} {vs olds : List Value} {xs news : List AV} {H : List Blk} {τ : Nat}
    (hT : ApT P E by_ ta tb e eb i z) (hg : Good g H w) (hd : ∀ τ, g.dom τ ↔ τ < H.length) (hdt : g.dom τ) (hρ : g.ρ τ = some (b, base)) (hb : H[τ]? = some (.rows .live E xs))
    (hcap : xs.length ≤ oN + cap) (hu : Unf w b (base + (oN + cap) * E)) (hold : ∀ w1 : World, w1.heap = w.heap → (Builtin.firstCells E lN (.slice (some ⟨b, base + oN * E, none⟩) lN cap)).run P w1 = .ok olds.toArray w1)
    (hn : PFlat g w E news vs) (hnew : ∀ w1 : World, w1.heap = w.heap → (Builtin.firstCells E news.length (.slice B news.length c)).run P w1 = .ok vs.toArray w1) (hfit : (lN + news.length) * by_ ≤ 140737488355328) (hle : oN + lN + news.length ≤ xs.length) :
    ∃ vv w' g', (Builtin.append_ #[ta, tb] ty #[.slice (some ⟨b, base + oN * E, none⟩) lN cap, .slice B news.length c]).run P w = .ok vv w' ∧ Trans g H w g' (H.set τ (.rows .live E (xs.take (oN + lN) ++ news ++ xs.drop (oN + lN + news.length)))) w' ∧
      Good g' (H.set τ (.rows .live E (xs.take (oN + lN) ++ news ++ xs.drop (oN + lN + news.length)))) w' ∧
      (∀ τ', g'.dom τ' ↔ τ' < (H.set τ (.rows .live E (xs.take (oN + lN) ++ news ++ xs.drop (oN + lN + news.length)))).length) ∧
      V3 g' (H.set τ (.rows .live E (xs.take (oN + lN) ++ news ++ xs.drop (oN + lN + news.length)))) w' (.own τ E (some ((oN : Int), ((lN + news.length : Nat) : Int))) false) vv ∧ (∀ b', b' < w.heap.size → (∀ k' l' c', 0 < c' → (.slice (some ⟨b, base + oN * E, none⟩) lN cap : Value) ≠ .slice (some ⟨b', k', none⟩) l' c') → w'.heap[b']? = w.heap[b']?) := by
  obtain ⟨ht, htb, hi, hz, rfl, hzs, rfl, hpos⟩ := hT
  obtain ⟨bk, q1, q2⟩ := hg.tok τ hdt
  rw [hb] at q1
  cases q1
  rcases q2 with ⟨q2, _⟩ | ⟨b', o', hρ', hS, hun, hR⟩
  · rw [hρ] at q2; cases q2
  rw [hρ] at hρ'
  cases hρ'
  obtain ⟨us, hxs, hus⟩ := PFlat_of hR
  have hm1 := Nat.mul_le_mul_right i.size hle
  have hm2 := Nat.mul_le_mul_right i.size hcap
  rw [Nat.add_mul, Nat.add_mul] at hm1
  rw [Nat.add_mul] at hm2
  rw [Nat.add_mul] at hu
  have hvl := hn.len
  have hul := hxs.len
  obtain ⟨w', hst, hup, hnc, hoc⟩ := storeCells_upd (P := P) (k := base + oN * i.size + lN * i.size) (vs := vs) hun hn.oneCell (fun hne => hu.cell (by
    have := List.length_pos_iff.2 hne
    omega))
  have hr := (append_runs (ty := ty) ht htb hi hz hnew hold hpos hfit).2.1 (by omega) ⟨b, base + oN * i.size, none⟩ w' rfl (by rw [addr_add]; exact hst)
  generalize hzz : xs.take (oN + lN) ++ news ++ xs.drop (oN + lN + news.length) = zs
  have hzl : zs.length = xs.length := by rw [← hzz]; simp; omega
  have htr : Trans g H w g (H.set τ (.rows .live i.size zs)) w' := Trans.upd hdt hρ hb trivial (fun m E2 ys e _ => by cases e; exact ⟨_, _, rfl, by simp, hzl.symm⟩) (by simp) hup
  have hfl : PFlat g w i.size zs (us.take ((oN + lN) * i.size) ++ vs ++ us.drop ((oN + lN + news.length) * i.size)) := by
    rw [← hzz]
    exact (hxs.take.append hn).append hxs.drop
  have hRows : PRows g.S g.Sl w' i.size zs b base := by
    refine PFlat.rows (hfl.trans htr hg) fun j v hj => ?_
    have htl : (us.take ((oN + lN) * i.size)).length = (oN + lN) * i.size := by
      rw [List.length_take, hul, Nat.add_mul]; omega
    rw [List.append_assoc] at hj
    have hml : (oN + lN) * i.size = oN * i.size + lN * i.size := Nat.add_mul _ _ _
    by_cases hj1 : j < (oN + lN) * i.size
    · rw [List.getElem?_append_left (by omega), List.getElem?_take_of_lt hj1] at hj
      rw [hoc _ (.inl (by omega))]
      exact hus j v hj
    · rw [List.getElem?_append_right (by omega)] at hj
      by_cases hj2 : j < (oN + lN) * i.size + vs.length
      · rw [List.getElem?_append_left (by omega)] at hj
        have := hnc _ _ hj
        rw [htl] at this
        rw [show base + j = base + oN * i.size + lN * i.size + (j - (oN + lN) * i.size) by omega]
        exact this
      · rw [List.getElem?_append_right (by omega), List.getElem?_drop, htl] at hj
        rw [hoc _ (.inr (by omega))]
        refine hus j v ?_
        rw [← hj]
        congr 1
        rw [Nat.add_mul (oN + lN)]
        omega
  have hbr : BlkRel g (H.set τ (.rows .live i.size zs)) w' τ (.rows .live i.size zs) := .inr ⟨b, base, hρ, hS, hun.mono htr.shape, hRows⟩
  refine ⟨_, _, g, hr, htr, Good.upd hg hdt hρ hb trivial htr hup hbr, fun x => by rw [hd]; simp, ⟨hdt, ?_⟩, fun b' hb' hne => by
    rcases Nat.eq_zero_or_pos cap with h0 | h0
    · have hv0 : vs = [] := by
        apply List.eq_nil_of_length_eq_zero
        have hnl : news.length = 0 := by omega
        rw [hvl, hnl, Nat.zero_mul]
      subst hv0
      simp [storeCells] at hst
      rw [hst]
    · refine hup.other b' fun e => ?_
      subst e
      exact hne _ _ _ h0 rfl⟩
  rw [hρ]
  have hl : (H.set τ (Blk.rows .live i.size zs))[τ]? = some (.rows .live i.size zs) := get_set_eq hb
  refine ⟨_, oN, lN + news.length, cap, rfl, .inl rfl, by omega, by simp, fun _ m' E' ys hh _ => ?_, ?_, rfl, rfl, fun m' E' ys hh _ => ?_⟩
  · rw [hl] at hh; cases hh; omega
  · rw [Nat.add_mul]; exact hu.mono hup.shape
  · rw [hl] at hh; cases hh; omega
theorem set_len {l : List Blk} {n : Nat} {x : Blk} : (l.set n x).length = l.length := by simp
theorem apRows_ok {s : AV} {E by_ : Nat} {news : List AV} (hby : 0 < by_) (h : apRowsK hp s E by_ news κ = some r) : ∃ v hp', κ v hp' = some r ∧ ApOk P hp s E by_ news v hp' := by
  cases s with
  | nil =>
    simp only [apRowsK] at h
    obtain ⟨hf, h1⟩ := cond_none h
    clear h
    rw [snocK_eq, Nat.zero_add] at h1
    rw [ilen_eq] at hf
    refine ⟨_, _, h1, fun ta tb ty e eb i z g w val B c vs hT hg hd hs hn hnew => ?_⟩
    simp only [V3, V2, V1, PCell] at hs
    obtain ⟨A, rfl⟩ := hs
    obtain ⟨olds, q1, q2⟩ := vals_of (P := P) (g := g) (w := w) (E := E) (A := A) (cap := 0) (rows := []) (.inl rfl)
    have hf' := fits_nat (a := 0) (b := news.length) (c := by_) (by rw [iadd_eq, Int.ofNat_zero, Int.zero_add]; exact hf)
    by_cases h0 : news = []
    · have hv : vs = [] := by subst h0; exact hn
      have := ap_null (ty := ty) (xs := []) hT hg hd rfl h0 hv q2 hnew rfl
      exact this
    · exact ap_grow (ty := ty) (xs := []) hT hg hd q1 q2 hn hnew hf' (by have := List.length_pos_iff.2 h0; simp; omega)
  | lst oo cc E' xs =>
    cases cc with
    | false => simp [apRowsK] at h
    | true =>
      simp only [apRowsK] at h
      obtain ⟨rfl, h1⟩ := beqE_some h
      clear h
      cases news with
      | nil =>
        simp only at h1
        obtain ⟨hf, h2⟩ := cond_none h1
        clear h1
        refine ⟨_, _, h2, fun ta tb ty e eb i z g w val B c vs hT hg hd hs hn hnew => ?_⟩
        obtain ⟨A, cap, e1, h3, h4, h5⟩ := lst_rows hs
        obtain ⟨olds, q1, q2⟩ := vals_of (P := P) (cap := cap) h5
        subst e1
        have hf' := fits_nat (a := xs.length) (b := 0) (c := by_) (by rw [iadd_eq, Int.ofNat_zero, Int.add_zero, ← ilen_eq]; exact hf)
        exact ap_same (ty := ty) hT hg hd hn q2 hnew hf' h3 hs
      | cons x news =>
        simp only at h1
        obtain ⟨hf, h2⟩ := cond_none h1
        clear h1
        rw [snocK_eq, Nat.zero_add, lcat_eq] at h2
        rw [ilen_eq, ilen_eq] at hf
        refine ⟨_, _, h2, fun ta tb ty e eb i z g w val B c vs hT hg hd hs hn hnew => ?_⟩
        obtain ⟨A, cap, e1, h3, h4, h5⟩ := lst_rows hs
        obtain ⟨olds, q1, q2⟩ := vals_of (P := P) (cap := cap) h5
        subst e1
        exact ap_grow (ty := ty) hT hg hd q1 q2 hn hnew (fits_nat hf) (by rw [h4 rfl]; simp)
  | own τ E' rr cc =>
    simp only [apRowsK] at h
    obtain ⟨rfl, h1⟩ := beqE_some h
    clear h
    obtain ⟨blk, hb, h2⟩ := getK_some h1
    clear h1
    split at h2
    case h_2 => cases h2
    rename_i m E'' xs
    obtain ⟨rfl, h3⟩ := beqE_some h2
    clear h2
    rw [lenOf_eq] at h3
    obtain ⟨hf, h4⟩ := cond_none h3
    clear h3
    have hlen : ∀ (g : G) (w : World) (val : Value), m ≠ .dead → Good g hp w → V3 g hp w (.own τ E rr cc) val → lenD rr xs = (rowsD rr xs).length := by
      intro g w val hm hg hs
      obtain ⟨_, hs'⟩ := own_shape hs hb hm
      unfold lenD
      rcases hs' with ⟨hρ, _, e⟩ | ⟨_, _, _, _, oN, lN, _, _, _, _, _, _, _, e, hle⟩
      · have := good_nil hg hs.1 hb hm hρ
        subst this
        rw [e]
        cases rr <;> simp [rowsD, lsub_eq]
      · cases rr with
        | none => simp [rngD, rowsD, ilen_eq]
        | some p =>
          simp only [rngD] at e
          subst e
          simp only [rngD, rowsD, lsub_eq, iadd_eq]
          rw [show ((oN : Int)).toNat = oN by omega, show ((oN : Int) + lN - oN).toNat = lN by omega]
          simp
          omega
    cases cc with
    | true =>
      have hmd : m ≠ .dead := fun e => by subst e; simp at h4
      cases news with
      | nil =>
        have h4 : κ (.own τ E rr true) hp = some r := by
          cases m with
          | dead => exact absurd rfl hmd
          | live => exact h4
          | frozen => exact h4
        refine ⟨_, _, h4, fun ta tb ty e eb i z g w val B c vs hT hg hd hs hn hnew => ?_⟩
        obtain ⟨A, cap, e1, h5, h6, h7⟩ := own_rows' hg hs hb hmd
        obtain ⟨olds, q1, q2⟩ := vals_of (P := P) (cap := cap) h7
        rw [hlen g w val hmd hg hs, ilen_eq] at hf
        subst e1
        exact ap_same (ty := ty) hT hg hd hn q2 hnew (by simpa using fits_nat hf) h5 hs
      | cons x news' =>
        have h4 : (rowsOf rr xs fun ys => snocK hp (.rows .live E (lcat ys (x :: news'))) 0 fun n hp => κ (.own n E none false) hp) = some r := by
          cases m with
          | dead => exact absurd rfl hmd
          | live => exact h4
          | frozen => exact h4
        rw [rowsOf_eq, snocK_eq, Nat.zero_add, lcat_eq] at h4
        refine ⟨_, _, h4, fun ta tb ty e eb i z g w val B c vs hT hg hd hs hn hnew => ?_⟩
        obtain ⟨A, cap, e1, h5, h6, h7⟩ := own_rows' hg hs hb hmd
        obtain ⟨olds, q1, q2⟩ := vals_of (P := P) (cap := cap) h7
        rw [hlen g w val hmd hg hs, ilen_eq] at hf
        subst e1
        exact ap_grow (ty := ty) hT hg hd q1 q2 hn hnew (fits_nat hf) (by rw [h6 rfl]; simp)
    | false =>
      simp only at h4
      split at h4
      case h_2 => cases h4
      have fin : ∀ (ys : List AV), (∀ (g : G) (w : World) (val : Value), Good g hp w → V3 g hp w (.own τ E rr false) val → ys = rowsD rr xs ∧ (∀ oN lN : Nat, rngD rr xs = ((oN : Int), (lN : Int)) → oN + lN = xs.length)) →
          κ (.own (hp.set τ (.rows .dead E xs)).length E none false) (hp.set τ (.rows .dead E xs) ++ [.rows .live E (ys ++ news)]) = some r → ∃ v hp', κ v hp' = some r ∧ ApOk P hp (.own τ E rr false) E by_ news v hp' := by
        intro ys hys h
        refine ⟨_, _, h, fun ta tb ty e eb i z g w val B c vs hT hg hd hs hn hnew => ?_⟩
        obtain ⟨rfl, hall⟩ := hys g w val hg hs
        have hmd : Mode.live ≠ .dead := by simp
        rw [hlen g w val hmd hg hs, ilen_eq] at hf
        have hf := fits_nat hf
        obtain ⟨A, cap, e1, h5, _, h7⟩ := own_rows' hg hs hb hmd
        obtain ⟨olds, q1, q2⟩ := vals_of (P := P) (cap := cap) h7
        have hgd := hg.dead (E := E) (xs := xs) hb
        have htd : Trans g hp w g (hp.set τ (.rows .dead E xs)) w := Trans.dead
        by_cases hc : cap < (rowsD rr xs).length + news.length
        · subst e1
          obtain ⟨vv, w', g', k1, k2, k3, k4, k5⟩ := ap_grow (ty := ty) hT hgd (fun x => by rw [hd]; simp) (q1.trans htd hg) q2 (hn.trans htd hg) hnew hf hc
          exact ⟨vv, w', g', k1, htd.trans k2, k3, k4, k5⟩
        · obtain ⟨hdt, hsh⟩ := own_shape hs hb hmd
          rcases hsh with ⟨hρ, ⟨A', e2⟩, e3⟩ | ⟨b, base, k, cap', oN, lN, hρ, e2, hk, _, _, hcp, hun, e3, hle⟩
          · have hx := good_nil hg hdt hb hmd hρ
            rw [e2] at e1
            obtain ⟨hA, hl0, hc0⟩ := Value.slice.inj e1
            subst hA
            subst hc0
            have hr0 : rowsD rr xs = [] := by
              apply List.eq_nil_of_length_eq_zero; omega
            have hn0 : news = [] := by
              apply List.eq_nil_of_length_eq_zero; omega
            have hv0 : vs = [] := by rw [hn0] at hn; exact hn
            subst e2
            have := ap_null (ty := ty) (xs := rowsD rr xs) hT hgd (fun x => by rw [hd]; simp) hr0 hn0 hv0 q2 hnew rfl
            obtain ⟨vv, w', g', k1, k2, k3, k4, k5⟩ := this
            refine ⟨vv, w', g', ?_, htd.trans k2, k3, k4, k5.1, fun b' hb' hne => k5.2 b' hb' fun k' l' c' h0 e => ?_⟩
            · rw [hr0] at k1
              exact k1
            · cases e; omega
          · rw [e2] at e1
            obtain ⟨hA, hlN, hcc⟩ := Value.slice.inj e1
            subst hA
            subst hcc
            have hR : PRows g.S g.Sl w E (rowsD rr xs) b (base + oN * E) := by
              obtain ⟨bk, p1, p2⟩ := hg.tok τ hdt
              rw [hb] at p1
              cases p1
              rcases p2 with ⟨p2, _⟩ | ⟨b', o', hρ', hS, _, hR⟩
              · rw [hρ] at p2; cases p2
              rw [hρ] at hρ'
              cases hρ'
              cases rr with
              | none =>
                simp only [rngD] at e3
                have : oN = 0 := by have := congrArg Prod.fst e3; simp at this; omega
                subst this
                simpa [rowsD] using hR
              | some p =>
                simp only [rngD] at e3
                subst e3
                simp only [rowsD, lsub_eq]
                exact PRows_take (PRows_drop hR)
            have hl := hall oN lN e3
            rw [e2, hlN]
            exact ap_move (ty := ty) hT hg hd hdt hρ hb hR hk (by rw [Nat.add_mul] at hun; rw [Nat.add_assoc]; exact hun) q2 hn hnew hf (by omega) |> fun ⟨vv, w', g', k1, k2, k3, k4, k5⟩ => ⟨vv, w', g', k1, k2, k3, k4, by rw [set_len]; exact k5⟩
      split at h4
      · rw [setK_eq, snocK_eq, Nat.zero_add, lcat_eq] at h4
        exact fin xs (fun g w val hg hs => ⟨rfl, fun oN lN e => by simp only [rngD, ilen_eq] at e; have h1 := congrArg Prod.fst e; have h2 := congrArg Prod.snd e; simp at h1 h2; omega⟩) h4
      · rename_i o1 l1
        rcases cond_some h4 with ⟨hc, h5⟩ | ⟨hc, h5⟩
        · rw [setK_eq, snocK_eq, Nat.zero_add, lcat_eq] at h5
          refine fin (lsub xs o1 (iadd o1 l1)) (fun g w val hg hs => ⟨rfl, fun oN lN e => ?_⟩) h5
          simp only [rngD] at e
          cases e
          rw [ieq_eq, iadd_eq, ilen_eq] at hc
          have hc := of_decide_eq_true hc
          omega
        · obtain ⟨hc2, h6⟩ := cond_none h5
          rw [setK_eq] at h6
          rw [ile_eq, iadd_eq, iadd_eq, ilen_eq, ilen_eq] at hc2
          have hc2 := of_decide_eq_true hc2
          rw [ieq_eq, iadd_eq, ilen_eq] at hc
          have hc := of_decide_eq_false hc
          refine ⟨_, _, h6, fun ta tb ty e eb i z g w val B c vs hT hg hd hs hn hnew => ?_⟩
          have hmd : Mode.live ≠ .dead := by simp
          have hs1 : V1 g hp w (.own τ E (some (o1, l1)) false) val := hs
          obtain ⟨hdt, hsh⟩ := own_shape hs1 hb hmd
          rcases hsh with ⟨hρ, ⟨A', e2⟩, e3⟩ | ⟨b, base, k, cap, oN, lN, hρ, e2, hk, _, _, hcp, hun, e3, hle⟩
          · have hx := good_nil hg hdt hb hmd hρ
            simp only [rngD] at e3
            cases e3
            subst hx
            simp at hc
          · simp only [rngD] at e3
            cases e3
            have hcp := hcp (.inl rfl)
            have hk := hk.resolve_right (by omega)
            subst hk
            rw [hlen g w val hmd hg hs, ilen_eq] at hf
            have hf := fits_nat hf
            obtain ⟨A, cap2, e4, _, _, h7⟩ := own_rows' hg hs hb hmd
            rw [e2] at e4
            obtain ⟨olds, q1, q2⟩ := vals_of (P := P) (cap := cap2) h7
            have hll : (rowsD (some ((oN : Int), (lN : Int))) xs).length = lN := (Value.slice.inj e4).2.1.symm
            rw [hll] at q2 hf e4
            obtain ⟨hA, _, hcc⟩ := Value.slice.inj e4
            subst hA
            subst hcc
            have := ap_over (ty := ty) hT hg hd hdt hρ hb hcp hun q2 hn hnew hf (by omega)
            have e5 : lcat (lcat (lsub xs 0 (iadd oN lN)) news) (lsub xs (iadd (iadd oN lN) (ilen news)) (ilen xs)) = xs.take (oN + lN) ++ news ++ xs.drop (oN + lN + news.length) := by
              simp only [lcat_eq, lsub_eq, iadd_eq, ilen_eq]
              rw [show (0 : Int).toNat = 0 by rfl, List.drop_zero, show ((oN : Int) + lN - 0).toNat = oN + lN by omega, show ((oN : Int) + lN + news.length).toNat = oN + lN + news.length by omega]
              congr 1
              rw [List.take_of_length_le]
              simp
              omega
            have e6 : iadd (lN : Int) (ilen news) = ((lN + news.length : Nat) : Int) := by rw [iadd_eq, ilen_eq]; simp
            rw [e5, e6, e2]
            exact this
  | _ => simp [apRowsK] at h
theorem evs_two {us : List AV} {l : List Operand} {s x : AV} (h : evsD tm l = some us) (e : us = [s, x]) : ∃ p q, l = [p, q] ∧ evD tm p = some s ∧ evD tm q = some x := by
  subst e
  match l, h with
  | [], h => simp [evsD] at h
  | [p], h =>
    simp only [evsD] at h
    obtain ⟨v, hv, h⟩ := Option.bind_eq_some_iff.mp h
    simp at h
  | [p, q], h =>
    simp only [evsD] at h
    obtain ⟨v, hv, h⟩ := Option.bind_eq_some_iff.mp h
    obtain ⟨vs, hvs, h⟩ := Option.bind_eq_some_iff.mp h
    obtain ⟨v', hv', h'⟩ := Option.bind_eq_some_iff.mp hvs
    simp at h' h
    obtain ⟨rfl, rfl⟩ := h
    simp at h'
    subst h'
    exact ⟨p, q, rfl, hv, hv'⟩
  | p :: q :: t :: l, h =>
    simp only [evsD] at h
    obtain ⟨v, hv, h⟩ := Option.bind_eq_some_iff.mp h
    obtain ⟨vs, hvs, h⟩ := Option.bind_eq_some_iff.mp h
    obtain ⟨v', hv', h'⟩ := Option.bind_eq_some_iff.mp hvs
    obtain ⟨vs', hvs', h'⟩ := Option.bind_eq_some_iff.mp h'
    obtain ⟨v'', hv'', h''⟩ := Option.bind_eq_some_iff.mp hvs'
    obtain ⟨vs'', hvs'', h''⟩ := Option.bind_eq_some_iff.mp h''
    simp at h h' h''
    subst h''
    subst h'
    simp at h
theorem append_zeros {w : World} {ta tb ty e : TypeId} {k : IntKind} {i : TypeInfo} {z : Value} (ht : P.underlying ta = some (.slice e)) (htb : P.underlying tb = some (.int k)) (hi : P.info? e = some i) (hz : i.zero = some z)
    {A : Option Addr} {n : Nat} (hn : 0 < n) (hs : z.cells.size = i.size) (hby : 0 < i.bytes) (hfit : n * i.bytes ≤ 140737488355328) :
    ∃ cap rest, n ≤ cap ∧ rest.length = (cap - n) * z.cells.size ∧
      (Builtin.append_ #[ta, tb] ty #[.slice A 0 0, .int .i64 n]).run P w = .ok (.slice (some ⟨w.heap.size, 0, none⟩) n cap) (w.drew.alloc (.cells ((List.replicate n z.cells.toList).flatten ++ rest).toArray e)) := by
  have h1 : n ≤ 140737488355328 := Nat.le_trans (Nat.le_mul_of_pos_right _ hby) hfit
  have hw : IntKind.i64.wrap (n : Int) = n := by simp [IntKind.wrap, IntKind.signed, IntKind.bits]; omega
  have hneg : ¬ ((n : Int) < 0) := by omega
  have hbig : ¬ (281474976710656 < (n : Int) * (i.bytes : Int)) := by
    have h2 : ((n * i.bytes : Nat) : Int) ≤ 140737488355328 := by omega
    rw [Int.natCast_mul] at h2
    omega
  have hnn : ¬ n ≤ 0 := by omega
  have h63 : ¬ (9223372036854775807 < (n : Int)) := by omega
  have hg := growslice_fits (need := n) (old := 0) (bytes := i.bytes) (by omega) hfit
  have h48 : ¬ (281474976710656 < Builtin.nextslicecap n 0 * i.bytes) := by omega
  have hzc : (Builtin.zeroCells z.cells n).toList = (List.replicate n z.cells.toList).flatten := by
    unfold Builtin.zeroCells
    by_cases h0 : z.cells.size = 0
    · have : z.cells.toList = [] := List.eq_nil_of_length_eq_zero (by simpa using h0)
      rw [this, h0]; simp
    · exact flat_rep (.inl (Nat.pos_of_ne_zero h0))
  have hap : ∀ w1 : World, (if n * i.size = 0 then pure #[] else do pure (Builtin.zeroCells (← zeroValue e).cells n) : Sem (Array Value)).run P w1 = .ok (Builtin.zeroCells z.cells n) w1 := fun w1 => by
    by_cases h0 : n * i.size = 0
    · rw [if_pos h0]
      have : z.cells.size = 0 := by rw [hs]; rcases Nat.mul_eq_zero.1 h0 with h | h <;> omega
      simp [Builtin.zeroCells, this]
    · rw [if_neg h0]
      simp [zeroValue, typeInfo, hi, hz]
  refine ⟨grownCap w n 0 e, (Builtin.zeroCells z.cells (grownCap w n 0 e - n)).toList, by simp [grownCap, Question.cut], by simp [Builtin.zeroCells], ?_⟩
  have hap' := hap w.drew
  rw [← hzc]
  simp [Builtin.append_, run_underlying ht, run_underlying htb, sizeOf, typeInfo, hi, asInt, asIntOf, hw, hneg, hbig, hnn, h63, h48, Question.forced, newRow, grownCap, Builtin.firstCells]
  rw [if_neg (show ¬ n = 0 by omega)]
  have hzv : ∀ w1 : World, (zeroValue e).run P w1 = .ok z w1 := fun w1 => by simp [zeroValue, typeInfo, hi, hz]
  have hA : (match Value.slice A 0 0 with
            | Value.slice (some a) _ _ => loadCells a 0
            | Value.slice none _ _ => pure #[]
            | Value.string _ => pure #[]
            | _ => stuck "slice or string expected" : Sem (Array Value)).run P w.drew = .ok #[] w.drew := by
    cases A with
    | none => simp
    | some a => simp [loadCells, loadCellsFrom]
  have hA2 := hA
  have hn0 : n ≠ 0 := by omega
  by_cases h0 : i.size = 0
  · have hz0 : z.cells.size = 0 := by omega
    have hzz : ∀ m, Builtin.zeroCells z.cells m = #[] := fun m => by simp [Builtin.zeroCells, hz0]
    cases A with
    | none => simp [h0, hzv, hzz]
    | some a => simp [h0, hzv, hzz, loadCells, loadCellsFrom]
  · cases A with
    | none =>
      simp [h0, hn0, hzv, ← Array.append_assoc]
      rw [if_neg (Nat.mul_ne_zero hn0 h0)]
      congr 3
      apply Array.ext'
      simp
    | some a =>
      simp [h0, hn0, hzv, loadCells, loadCellsFrom, ← Array.append_assoc]
      rw [if_neg (Nat.mul_ne_zero hn0 h0)]
      congr 3
      apply Array.ext'
      simp
theorem zeros_step (hT : TOk P T) {c : Call} (ho : o.op = .call c) (hc : c.callee = .builtin .append) {ta tb e : TypeId} {k : IntKind} (hcat : c.argTypes = #[ta, tb]) (hu1 : P.underlying ta = some (.slice e)) (hu2 : P.underlying tb = some (.int k))
    (h : (tyK T e fun E _ by_ z _ => bif Nat.beq by_ 0 then none else evsK tm c.args.toList fun
          | [.nil, .int .i64 n] => bif ilt 0 n && fits n by_ then purK [] z fun z _ => snocK hp (.rows .live E (lrep n z)) 0 fun m hp => κ (.own m E none false) hp else none
          | _ => none) = some r) : StepM P o tm hp κ r := by
  obtain ⟨E, a3, by_, z3, d3, hs3, h3⟩ := tyK_some h
  rcases cond_some h3 with ⟨_, h4⟩ | ⟨hb0, h4⟩
  · cases h4
  have hby : 0 < by_ := Nat.pos_of_ne_zero fun e => by subst e; simp at hb0
  obtain ⟨us, hus, h5⟩ := evsK_some h4
  split at h5
  case h_2 => cases h5
  rename_i n
  obtain ⟨hcond, h6⟩ := cond_none h5
  simp only [Bool.and_eq_true, ilt_eq, fits_eq, decide_eq_true_eq] at hcond
  obtain ⟨z', h7, hzl, hz, hpe⟩ := purz_ok h6
  rw [snocK_eq, Nat.zero_add, lrep_eq] at h7
  obtain ⟨p, q, hargs, hp1, hq1⟩ := evs_two hus rfl
  have hca : c.args = #[p, q] := by rw [← Array.toList_inj]; exact hargs
  refine ⟨_, _, h7, fun Q a w g N hd hh hg hN => ?_⟩
  have hps := hh p (by rw [ho]; simp [Op.operands, Call.operands, hca]) _ hp1
  have hqs := V3_int.1 (hh q (by rw [ho]; simp [Op.operands, Call.operands, hca]) _ hq1)
  simp only [V3, V2, V1, PCell] at hps
  obtain ⟨A, hpA⟩ := hps
  obtain ⟨i, hi, hi1, hi2, hi3⟩ := (hT _ _ _ _ _ _ hs3).info
  obtain ⟨zv, hzv, hzc, hzr⟩ := hi3.resolve_left hz
  obtain ⟨nN, rfl⟩ : ∃ nN : Nat, n = nN := ⟨n.toNat, by omega⟩
  subst hi1; subst hi2
  have hfit : nN * i.bytes ≤ 140737488355328 := by
    have := hcond.2
    rw [← Int.natCast_mul] at this
    omega
  obtain ⟨cap, rest, c1, c2, c3⟩ := append_zeros (P := P) (w := w) (ty := o.type) (A := A) hu1 hu2 hi hzv (n := nN) (by omega) hzc hby hfit
  have hpl : PFlat g w i.size (List.replicate nN z') (List.replicate nN zv.cells.toList).flatten := by
    refine PFlat.rep ?_ (hpe _ hp _ zv (hzr _ _ _)) _
    have := All2_len (V2_cells (hzr g hp w))
    rw [hzl, this]; simpa using hzc
  obtain ⟨g', k1, k2, k3, k4⟩ := grow_fin (w1 := w.drew.alloc (.cells ((List.replicate nN zv.cells.toList).flatten ++ rest).toArray e)) (cap := cap) (rest := rest) (e := e) hg hd hpl rfl ⟨rfl, rfl, rfl, Nat.le_succ _⟩ (by simpa using c1) (by rw [c2, hzc]; simp)
  have hrun : (execOp a.eval o).run P w = .ok (.value (.slice (some ⟨w.heap.size, 0, none⟩) nN cap)) (w.drew.alloc (.cells ((List.replicate nN zv.cells.toList).flatten ++ rest).toArray e)) := by
    refine builtin_run ho hc ?_
    rw [hca, hcat]
    simp only [builtin, List.map_toArray, List.map_cons, List.map_nil, hpA, hqs, Sem.run_bind, c3, Result.andThen_ok, Sem.run_pure]
  simp only [Oper.wp, hrun, Oper.upon]
  rw [Int.toNat_natCast] at *
  refine hN _ _ g' k1 k2 k3 (by simpa using k4) (fun b hb _ => ?_)
  show (w.heap.push _)[b]? = w.heap[b]?
  rw [Array.getElem?_push_lt hb, Array.getElem?_eq_getElem hb]
theorem append_step (hT : TOk P T) {c : Call} (ho : o.op = .call c) (hc : c.callee = .builtin .append) (h : (match c.argTypes.toList with
      | [ta, tb] => tyK T ta fun _ _ _ _ d => tyK T tb fun _ _ _ _ db => match (generalizing := false) d, db with
        | .slice e, .slice _ => tyK T e fun E _ by_ z _ => bif Nat.beq by_ 0 || isTop z then none else evsK tm c.args.toList fun
          | [s, x] => srcK hp x E fun news => apRowsK hp s E by_ news κ
          | _ => none
        | .slice e, .int _ => tyK T e fun E _ by_ z _ => bif Nat.beq by_ 0 then none else evsK tm c.args.toList fun
          | [.nil, .int .i64 n] => bif ilt 0 n && fits n by_ then purK [] z fun z _ => snocK hp (.rows .live E (lrep n z)) 0 fun m hp => κ (.own m E none false) hp else none
          | _ => none
        | _, _ => none
      | _ => none) = some r) : StepM P o tm hp κ r := by
  split at h
  case h_2 => cases h
  rename_i ta tb hat
  obtain ⟨s1, a1, b1, z1, d1, hs, h1⟩ := tyK_some h
  clear h
  obtain ⟨s2, a2, b2, z2, d2, hs2, h2⟩ := tyK_some h1
  clear h1
  split at h2
  case h_3 => cases h2
  case h_2 =>
    rename_i e k
    have hcat : c.argTypes = #[ta, tb] := by rw [← Array.toList_inj]; exact hat
    obtain ⟨u1, hu1, _, hr1⟩ := (hT _ _ _ _ _ _ hs).under
    obtain ⟨u2, hu2, _, hr2⟩ := (hT _ _ _ _ _ _ hs2).under
    simp only [DRel] at hr1 hr2
    subst hr1; subst hr2
    exact zeros_step hT ho hc hcat hu1 hu2 h2
  rename_i e eb
  obtain ⟨E, a3, by_, z3, d3, hs3, h3⟩ := tyK_some h2
  clear h2
  rcases cond_some h3 with ⟨_, h4⟩ | ⟨hb, h4⟩
  · cases h4
  clear h3
  simp only [Bool.or_eq_false_iff] at hb
  have hby : 0 < by_ := Nat.pos_of_ne_zero fun e => by subst e; simp at hb
  have hz : z3 ≠ .top := fun e => by subst e; simp [isTop] at hb
  obtain ⟨us, hus, h5⟩ := evsK_some h4
  clear h4
  split at h5
  case h_2 => cases h5
  rename_i sv xv
  obtain ⟨p, q, hargs, hp1, hq1⟩ := evs_two hus rfl
  obtain ⟨news, h6, hsrc⟩ := src_ok (P := P) h5
  obtain ⟨v, hp', h7, hap⟩ := apRows_ok (P := P) hby h6
  have hca : c.args = #[p, q] := by rw [← Array.toList_inj]; exact hargs
  have hcat : c.argTypes = #[ta, tb] := by rw [← Array.toList_inj]; exact hat
  refine ⟨v, hp', h7, fun Q a w g N hd hh hg hN => ?_⟩
  have hps := hh p (by rw [ho]; simp [Op.operands, Call.operands, hca]) _ hp1
  have hqs := hh q (by rw [ho]; simp [Op.operands, Call.operands, hca]) _ hq1
  obtain ⟨B, cc, vs, e1, hn, hnew⟩ := hsrc g w _ hg hqs
  obtain ⟨u1, hu1, _, hr1⟩ := (hT _ _ _ _ _ _ hs).under
  obtain ⟨u2, hu2, _, hr2⟩ := (hT _ _ _ _ _ _ hs2).under
  simp only [DRel] at hr1 hr2
  subst hr1; subst hr2
  obtain ⟨i, hi, hi1, hi2, hi3⟩ := (hT _ _ _ _ _ _ hs3).info
  obtain ⟨zv, hzv, hzc, _⟩ := hi3.resolve_left hz
  obtain ⟨vv, w', g', hr, k1, k2, k3, k4, k5⟩ := hap ta tb o.type e eb i zv g w (a.eval p) B cc vs ⟨hu1, hu2, hi, hzv, hi1, hzc, hi2, hby⟩ hg hd hps hn hnew
  have hrun : (execOp a.eval o).run P w = .ok (.value vv) w' := by
    refine builtin_run ho hc ?_
    rw [hca, hcat]
    simp only [builtin, List.map_toArray, List.map_cons, List.map_nil, e1, Sem.run_bind, hr, Result.andThen_ok, Sem.run_pure]
  simp only [Oper.wp, hrun, Oper.upon]
  exact hN vv w' g' k1 k2 k3 k4 (fun b hb hn => k5 b hb fun k' l' c' h0 e => hn (by unfold wrB; simp only [ho, hc]; exact ⟨p, by simp [hca], k', l', c', e, h0⟩))
end
end Go.AM
namespace Go.AM
section
variable {P : Program} {T : TypeId → Option TI} {o : Oper} {tm : List AV} {hp : List Blk} {κ : AV → List Blk → R} {r : AV × List Blk}
theorem clear_run {w : World} {t e : TypeId} {i : TypeInfo} {z : Value} (ht : P.underlying t = some (.slice e)) (hi : P.info? e = some i) (hz : i.zero = some z) {ty : TypeId} {A : Option Addr} {n cap : Nat} {w' : World}
    (h : (n = 0 ∧ w' = w) ∨ ∃ a, A = some a ∧ 0 < n ∧ (storeCells a (List.replicate n z.cells.toList).flatten).run P w = .ok () w') :
    (Builtin.clear_ #[t] ty #[.slice A n cap]).run P w = .ok (.tuple #[]) w' := by
  rcases h with ⟨rfl, rfl⟩ | ⟨a, rfl, hn, hs⟩
  · cases A <;> simp [Builtin.clear_, run_underlying ht]
  · have hzc : (Builtin.zeroCells z.cells n).toList = (List.replicate n z.cells.toList).flatten := by
      unfold Builtin.zeroCells
      by_cases h0 : z.cells.size = 0
      · have : z.cells.toList = [] := List.eq_nil_of_length_eq_zero (by simpa using h0)
        rw [this, h0]; simp
      · exact flat_rep (.inl (Nat.pos_of_ne_zero h0))
    obtain ⟨m, rfl⟩ : ∃ m, n = m + 1 := ⟨n - 1, by omega⟩
    simp [Builtin.clear_, run_underlying ht, zeroValue, typeInfo, hi, hz, hzc, hs]
theorem clear_step (hT : TOk P T) {c : Call} (ho : o.op = .call c) (hc : c.callee = .builtin .clear) (h : (match c.argTypes.toList with
      | [t] => tyK T t fun _ _ _ _ d => match (generalizing := false) d with
        | .slice e => tyK T e fun E _ _ z _ => evsK tm c.args.toList fun
          | [.own τ E' r _] => bif Nat.beq E E' then getK hp τ fun
            | .rows .live E'' xs => bif Nat.beq E E'' then purK [] z fun z _ => match r with
              | none => setK hp τ (.rows .live E (lrep (ilen xs) z)) fun hp => κ (.tup []) hp
              | some (o, l) => setK hp τ (.rows .live E (lcat (lcat (lsub xs 0 o) (lrep l z)) (lsub xs (iadd o l) (ilen xs)))) fun hp => κ (.tup []) hp
              else none
            | _ => none
            else none
          | _ => none
        | _ => none
      | _ => none) = some r) : StepM P o tm hp κ r := by
  split at h
  case h_2 => cases h
  rename_i t hat0
  obtain ⟨s1, a1, b1, z1, d1, hs, h1⟩ := tyK_some h
  clear h
  split at h1
  case h_2 => cases h1
  rename_i e
  obtain ⟨E, a2, b2, z, d2, he, h2⟩ := tyK_some h1
  clear h1
  obtain ⟨us, hus, h3⟩ := evsK_some h2
  clear h2
  split at h3
  case h_2 => cases h3
  rename_i τ E' rr cc
  obtain ⟨rfl, h4⟩ := beqE_some h3
  clear h3
  obtain ⟨blk, hb, h5⟩ := getK_some h4
  clear h4
  split at h5
  case h_2 => cases h5
  rename_i E'' xs
  obtain ⟨rfl, h6⟩ := beqE_some h5
  clear h5
  obtain ⟨z', h, hzl, hz, hpe⟩ := purz_ok h6
  clear h6
  have hat : c.argTypes = #[t] := by rw [← Array.toList_inj]; exact hat0
  have key : ∃ zs : List AV, κ (.tup []) (hp.set τ (.rows .live E zs)) = some r ∧ ∀ oN lN : Nat, rngD rr xs = ((oN : Int), (lN : Int)) → oN + lN ≤ xs.length → zs = xs.take oN ++ List.replicate lN z' ++ xs.drop (oN + lN) := by
    cases rr with
    | none =>
      simp only at h
      rw [setK_eq] at h
      refine ⟨_, h, fun oN lN e1 _ => ?_⟩
      simp only [rngD, ilen_eq, Prod.mk.injEq] at e1
      obtain ⟨e2, e3⟩ := e1
      obtain rfl : oN = 0 := by omega
      obtain rfl : lN = xs.length := by omega
      rw [lrep_eq, ilen_eq]
      simp
    | some p =>
      obtain ⟨o1, l1⟩ := p
      simp only at h
      rw [setK_eq] at h
      refine ⟨_, h, fun oN lN e1 hle => ?_⟩
      simp only [rngD, Prod.mk.injEq] at e1
      obtain ⟨rfl, rfl⟩ := e1
      simp only [lcat_eq, lsub_eq, lrep_eq, iadd_eq, ilen_eq]
      rw [show (0 : Int).toNat = 0 by rfl, List.drop_zero, show ((oN : Int) - 0).toNat = oN by omega, show ((oN : Int) + lN).toNat = oN + lN by omega, Int.toNat_natCast]
      congr 1
      rw [List.take_of_length_le]
      simp
      omega
  obtain ⟨zs, hk, hzs⟩ := key
  clear h
  refine ⟨_, _, hk, fun Q a w g N hd hh hg hN => ?_⟩
  obtain ⟨v, hv, h1⟩ := All2_one (args_rel ho hus hh)
  have hv' : c.args.map a.eval = #[v] := by rw [← Array.toList_inj]; exact hv
  obtain ⟨u1, hu1, _, hr1⟩ := (hT _ _ _ _ _ _ hs).under
  simp only [DRel] at hr1
  subst hr1
  obtain ⟨i, hi, hi1, hi2, hi3⟩ := (hT _ _ _ _ _ _ he).info
  obtain ⟨zv, hzv, hzc, hzr⟩ := hi3.resolve_left hz
  subst hi1
  have hmd : Mode.live ≠ .dead := by simp
  have fin : ∀ (w' : World) (g' : G), (Builtin.clear_ #[t] o.type #[v]).run P w = .ok (.tuple #[]) w' → Trans g hp w g' (hp.set τ (.rows .live i.size zs)) w' → Good g' (hp.set τ (.rows .live i.size zs)) w' → (∀ τ', g'.dom τ' ↔ τ' < (hp.set τ (Blk.rows .live i.size zs)).length) → o.wp P a w N Q := by
    intro w' g' hr k1 k2 k3
    have hrun : (execOp a.eval o).run P w = .ok (.value (.tuple #[])) w' := by
      refine builtin_run ho hc ?_
      rw [hv', hat]
      simp only [builtin, Sem.run_bind, hr, Result.andThen_ok, Sem.run_pure]
    simp only [Oper.wp, hrun, Oper.upon]
    exact hN _ w' g' k1 k2 k3 ⟨[], rfl, trivial⟩ (fun b _ hn => absurd (by unfold wrB; simp only [ho, hc]) hn)
  obtain ⟨hdt, hsh⟩ := own_shape h1 hb hmd
  have self : ∀ oN lN : Nat, rngD rr xs = ((oN : Int), (lN : Int)) → oN + lN ≤ xs.length → lN = 0 → hp.set τ (.rows .live i.size zs) = hp := by
    intro oN lN e1 hle h0
    have := hzs oN lN e1 hle
    subst h0
    simp at this
    rw [this]
    apply List.ext_getElem?
    intro j
    by_cases hj : τ = j
    · subst hj; rw [get_set_eq hb, hb]
    · rw [get_set_ne (Ne.symm hj)]
  rcases hsh with ⟨hρ, ⟨A, e2⟩, e3⟩ | ⟨b, base, k, cap, oN, lN, hρ, e2, hkk, hlc, _, hcp, hun, e3, hle⟩
  · subst e2
    have hx := good_nil hg hdt hb hmd hρ
    have hs0 := self 0 0 (by rw [e3]; rfl) (by omega) rfl
    refine fin w g (clear_run hu1 hi hzv (.inl ⟨rfl, rfl⟩)) ?_ ?_ ?_ <;> rw [hs0]
    · exact .refl _ _ _
    · exact hg
    · exact hd
  · subst e2
    rcases Nat.eq_zero_or_pos lN with h0 | h0
    · subst h0
      have hs0 := self oN 0 e3 hle rfl
      refine fin w g (clear_run hu1 hi hzv (.inl ⟨rfl, rfl⟩)) ?_ ?_ ?_ <;> rw [hs0]
      · exact .refl _ _ _
      · exact hg
      · exact hd
    · have hk' := hkk.resolve_right (by omega)
      subst hk'
      have hz1 := hzs oN lN e3 hle
      have hn : PFlat g w i.size (List.replicate lN z') (List.replicate lN zv.cells.toList).flatten := by
        refine PFlat.rep ?_ (hpe _ hp _ zv (hzr _ _ _)) _
        have := All2_len (V2_cells (hzr g hp w))
        rw [hzl, this]; simpa using hzc
      obtain ⟨bk, q1, q2⟩ := hg.tok τ hdt
      rw [hb] at q1
      cases q1
      rcases q2 with ⟨q2, _⟩ | ⟨b', o', hρ', hS, hun0, hR⟩
      · rw [hρ] at q2; cases q2
      rw [hρ] at hρ'
      cases hρ'
      obtain ⟨us, hxs, hus⟩ := PFlat_of hR
      have hvl := hn.len
      have hul := hxs.len
      rw [List.length_replicate] at hvl
      have hm1 := Nat.mul_le_mul_right i.size hle
      have hm2 := Nat.mul_le_mul_right i.size hlc
      rw [Nat.add_mul] at hm1
      rw [Nat.add_mul] at hun
      obtain ⟨w', hst, hup, hnc, hoc⟩ := storeCells_upd (P := P) (k := base + oN * i.size) (vs := (List.replicate lN zv.cells.toList).flatten) hun0 hn.oneCell (fun hne => hun.cell (by
        have := List.length_pos_iff.2 hne
        omega))
      have hzl2 : zs.length = xs.length := by rw [hz1]; simp; omega
      have htr : Trans g hp w g (hp.set τ (.rows .live i.size zs)) w' := Trans.upd hdt hρ hb trivial (fun m E2 ys e _ => by cases e; exact ⟨_, _, rfl, by simp, hzl2.symm⟩) (by simp) hup
      have hfl : PFlat g w i.size zs (us.take (oN * i.size) ++ (List.replicate lN zv.cells.toList).flatten ++ us.drop ((oN + lN) * i.size)) := by
        rw [hz1]
        exact (hxs.take.append hn).append hxs.drop
      have hRows : PRows g.S g.Sl w' i.size zs b base := by
        refine PFlat.rows (hfl.trans htr hg) fun j v hj => ?_
        have htl : (us.take (oN * i.size)).length = oN * i.size := by
          rw [List.length_take, hul]; omega
        rw [List.append_assoc] at hj
        have hml : (oN + lN) * i.size = oN * i.size + lN * i.size := Nat.add_mul _ _ _
        by_cases hj1 : j < oN * i.size
        · rw [List.getElem?_append_left (by omega), List.getElem?_take_of_lt hj1] at hj
          rw [hoc _ (.inl (by omega))]
          exact hus j v hj
        · rw [List.getElem?_append_right (by omega)] at hj
          by_cases hj2 : j < oN * i.size + (List.replicate lN zv.cells.toList).flatten.length
          · rw [List.getElem?_append_left (by omega)] at hj
            have := hnc _ _ hj
            rw [htl] at this
            rw [show base + j = base + oN * i.size + (j - oN * i.size) by omega]
            exact this
          · rw [List.getElem?_append_right (by omega), List.getElem?_drop, htl] at hj
            rw [hoc _ (.inr (by omega))]
            refine hus j v ?_
            rw [← hj]
            congr 1
            omega
      have hbr : BlkRel g (hp.set τ (.rows .live i.size zs)) w' τ (.rows .live i.size zs) := .inr ⟨b, base, hρ, hS, hun0.mono htr.shape, hRows⟩
      exact fin w' g (clear_run hu1 hi hzv (.inr ⟨_, rfl, h0, hst⟩)) htr (Good.upd hg hdt hρ hb trivial htr hup hbr) (fun x => by rw [hd]; simp)
end
end Go.AM
namespace Go.AM
section
variable {P : Program} {T : TypeId → Option TI} {o : Oper} {tm : List AV} {hp : List Blk} {κ : AV → List Blk → R} {r : AV × List Blk}
def ad1 (hp : List Blk) (v : AV) : AV × List Blk :=
  match v with
  | .frs E xs => (.own hp.length E none false, hp ++ [.rows .live E xs])
  | v => (v, hp)
def ads (hp : List Blk) : List AV → List AV × List Blk
  | [] => ([], hp)
  | v :: l => ((ad1 hp v).1 :: (ads (ad1 hp v).2 l).1, (ads (ad1 hp v).2 l).2)
def ad2 (hp : List Blk) (v : AV) : AV × List Blk :=
  match v with
  | .agg cs => (.agg (ads hp cs).1, (ads hp cs).2)
  | v => ad1 hp v
def ads2 (hp : List Blk) : List AV → List AV × List Blk
  | [] => ([], hp)
  | v :: l => ((ad2 hp v).1 :: (ads2 (ad2 hp v).2 l).1, (ads2 (ad2 hp v).2 l).2)
def ad3 (hp : List Blk) (v : AV) : AV × List Blk :=
  match v with
  | .tup vs => (.tup (ads2 hp vs).1, (ads2 hp vs).2)
  | v => ad2 hp v
theorem adopt1K_eq (hp : List Blk) (v : AV) (κ : AV → List Blk → R) : adopt1K hp v κ = κ (ad1 hp v).1 (ad1 hp v).2 := by
  cases v <;> simp [adopt1K, ad1, snocK_eq]
theorem adoptsK_eq : ∀ (hp : List Blk) (l : List AV) (κ : List AV → List Blk → R), adoptsK hp l κ = κ (ads hp l).1 (ads hp l).2
  | hp, [], κ => rfl
  | hp, v :: l, κ => by simp only [adoptsK, adopt1K_eq, adoptsK_eq, ads]
theorem adopt2K_eq (hp : List Blk) (v : AV) (κ : AV → List Blk → R) : adopt2K hp v κ = κ (ad2 hp v).1 (ad2 hp v).2 := by
  cases v <;> simp [adopt2K, ad2, adopt1K_eq, adoptsK_eq]
theorem adopts2K_eq : ∀ (hp : List Blk) (l : List AV) (κ : List AV → List Blk → R), adopts2K hp l κ = κ (ads2 hp l).1 (ads2 hp l).2
  | hp, [], κ => rfl
  | hp, v :: l, κ => by simp only [adopts2K, adopt2K_eq, adopts2K_eq, ads2]
theorem adoptK_eq (hp : List Blk) (v : AV) (κ : AV → List Blk → R) : adoptK hp v κ = κ (ad3 hp v).1 (ad3 hp v).2 := by
  cases v <;> simp [adoptK, ad3, adopt2K_eq, adopts2K_eq]
theorem ad1_pre (hp : List Blk) (v : AV) : hp <+: (ad1 hp v).2 := by
  cases v <;> simp [ad1]
theorem ads_pre : ∀ (hp : List Blk) (l : List AV), hp <+: (ads hp l).2
  | hp, [] => List.prefix_refl _
  | hp, v :: l => (ad1_pre hp v).trans (ads_pre _ l)
theorem ad2_pre (hp : List Blk) (v : AV) : hp <+: (ad2 hp v).2 := by
  cases v <;> first
    | exact ads_pre _ _
    | exact ad1_pre _ _
theorem ads2_pre : ∀ (hp : List Blk) (l : List AV), hp <+: (ads2 hp l).2
  | hp, [] => List.prefix_refl _
  | hp, v :: l => (ad2_pre hp v).trans (ads2_pre _ l)
theorem ad3_pre (hp : List Blk) (v : AV) : hp <+: (ad3 hp v).2 := by
  cases v <;> first
    | exact ads2_pre _ _
    | exact ad2_pre _ _
def Enters (P : Program) (f : FuncId) : Prop := ∃ fn, P.funcs[f]? = some fn ∧ (fn.name == "runtime.NumGoroutine") = false ∧ fn.body.isNone = false
def CSound (P : Program) (C : CF) : Prop := ∀ f args hp res hp', C f args hp = some (res, hp') → Enters P f ∧
  ∀ (g : G) (w : World) (vs : List Value), Good g hp w → (∀ τ, g.dom τ ↔ τ < hp.length) → All2 (V3 g hp w) args vs →
    Calls P f vs.toArray w fun e w' => ∃ vv g', e = .returned vv ∧ Trans g hp w g' (ad3 hp' res).2 w' ∧ Good g' (ad3 hp' res).2 w' ∧
      (∀ τ, g'.dom τ ↔ τ < (ad3 hp' res).2.length) ∧ V3 g' (ad3 hp' res).2 w' (ad3 hp' res).1 vv
def G.lent (g : G) (w : World) (b : Bool) : G := { dom := fun _ => False, ρ := fun _ => none, S := fun x => g.S x ∨ (b = true ∧ x < w.heap.size), Sl := g.Sl }
theorem Good.lent {g : G} {H : List Blk} {w : World} (hg : Good g H w) (b : Bool) : Good (g.lent w b) [] w where
  sub x h := .inl (hg.sub x h)
  lt x h := h.elim (hg.lt x) fun h => h.2
  tok _ h := h.elim
  inj _ _ _ _ _ h := h.elim
section lend
variable {g : G} {H : List Blk} {w : World} {B : Bool}
theorem PCell_lent {x : AV} {v : Value} (h : PCell g.S g.Sl w x v) (hs : ∀ b, g.Sl b → g.S b) : PCell (g.lent w B).S (g.lent w B).Sl w x v :=
  h.mono (fun b hb => .inl hb) (fun b hb => hb) (fun _ _ => rfl) hs
theorem PCells_lent {cs : List AV} {b k : Nat} (h : PCells g.S g.Sl w cs b k) (hs : ∀ b, g.Sl b → g.S b) : PCells (g.lent w B).S (g.lent w B).Sl w cs b k :=
  h.mono (fun b hb => .inl hb) (fun b hb => hb) (fun _ _ => rfl) hs _ _ _ rfl
theorem lend1_ok {v : AV} {κ : AV → Bool → R} (h : lend1K hp v κ = some r) : ∃ v' b, κ v' b = some r ∧ (∀ (g : G) (H : List Blk) (w : World) (B : Bool) (val : Value), hp <+: H → Good g H w → (b = true → B = true) → V1 g H w v val →
    V1 (g.lent w B) [] w v' val ∧ (v' = v ∨ PCell (g.lent w B).S (g.lent w B).Sl w v' val)) ∧ (∀ g H w val, V3 g H w v val → V1 g H w v val) ∧ cells v' = [v'] := by
  cases v with
  | own τ E rr c =>
    simp only [lend1K] at h
    obtain ⟨blk, hb, h1⟩ := getK_some h
    clear h
    split at h1
    · rename_i E' xs
      obtain ⟨rfl, h2⟩ := beqE_some h1
      rw [rowsOf_eq] at h2
      refine ⟨_, _, h2, fun g H w B val hH hg hB hv => ?_, fun _ _ _ _ h => h, rfl⟩
      have hbH := prefix_get hH hb
      obtain ⟨A, cap, e1, e2, e3, e4⟩ := own_rows' hg hv hbH (by simp)
      have hp : PCell (g.lent w B).S (g.lent w B).Sl w (.lst true c E (rowsD rr xs)) val := by
        refine ⟨A, cap, e1, e2, e3, ?_⟩
        by_cases h0 : rowsD rr xs = []
        · exact .inl h0
        obtain ⟨b, off, e5, e6⟩ := e4.resolve_left h0
        refine .inr ⟨b, off, e5, ?_, e6⟩
        simp only [if_true]
        refine .inr ⟨hB rfl, ?_⟩
        obtain ⟨hd, hs⟩ := own_shape hv hbH (by simp)
        rcases hs with ⟨_, ⟨A', e7⟩, _⟩ | ⟨b', base, k, cap', oN, lN, _, e7, _, _, _, _, hu, _⟩
        · rw [e7] at e1
          exact absurd (List.eq_nil_of_length_eq_zero (Value.slice.inj e1).2.1.symm) h0
        · rw [e7] at e1
          have := (Value.slice.inj e1).1
          rw [e5] at this
          cases this
          exact hu.lt
      exact ⟨hp, .inr hp⟩
    · rename_i E' xs
      obtain ⟨rfl, h2⟩ := beqE_some h1
      rw [rowsOf_eq] at h2
      refine ⟨_, _, h2, fun g H w B val hH hg hB hv => ?_, fun _ _ _ _ h => h, rfl⟩
      have hbH := prefix_get hH hb
      obtain ⟨blk, q1, q2⟩ := hg.tok τ hv.1
      rw [hbH] at q1
      cases q1
      have h3 := own_rows (S := g.S) (Sl := g.Sl) hv hbH (by simp) (by
        rcases q2 with h2 | ⟨b, o, h3, h4, h5, h6⟩
        · exact .inl h2
        · exact .inr ⟨b, o, h3, h6⟩)
      obtain ⟨A, cap, e1, e2, e3, e4⟩ := h3
      have hp : PCell (g.lent w B).S (g.lent w B).Sl w (.lst false c E (rowsD rr xs)) val := by
        refine ⟨A, cap, e1, e2, e3, ?_⟩
        rcases e4 with e4 | ⟨b, off, base, e5, e6, e7⟩
        · exact .inl e4
        · rcases q2 with ⟨h0, _⟩ | ⟨b', o', h6, h7, _⟩
          · rw [e6] at h0; cases h0
          · rw [e6] at h6; cases h6
            exact .inr ⟨b, off, e5, h7, e7⟩
      exact ⟨hp, .inr hp⟩
    · cases h1
  | «at» x off =>
    simp only [lend1K] at h
    refine ⟨_, _, h, fun g H w B val hH hg hB hv => ⟨?_, .inl rfl⟩, fun _ _ _ _ h => h, rfl⟩
    obtain ⟨b, k, e, h1, h2⟩ := hv
    exact ⟨b, k, e, .inl h1, h2.1, PCells_lent h2.2 hg.sub⟩
  | int _ _ | bool _ | str _ | nil | iface0 | lst _ _ _ _ =>
    simp only [lend1K] at h
    refine ⟨_, _, h, fun g H w B val hH hg hB hv => ?_, fun _ _ _ _ h => h, rfl⟩
    have hp : PCell (g.lent w B).S (g.lent w B).Sl w _ val := PCell_lent (by simpa only [V1] using hv) hg.sub
    exact ⟨hp, .inl rfl⟩
  | _ => simp only [lend1K] at h; cases h
theorem lends_ok : ∀ {l : List AV} {κ : List AV → Bool → R}, lendsK hp l κ = some r → ∃ l' b, κ l' b = some r ∧ l'.length = l.length ∧ (∀ (g : G) (H : List Blk) (w : World) (B : Bool), hp <+: H → Good g H w → (b = true → B = true) →
    (∀ vs : List Value, All2 (V1 g H w) l vs → All2 (V1 (g.lent w B) [] w) l' vs) ∧ (∀ (i : Nat) x' x val, l'[i]? = some x' → l[i]? = some x → V1 g H w x val → V1 (g.lent w B) [] w x' val ∧ (x' = x ∨ PCell (g.lent w B).S (g.lent w B).Sl w x' val)))
  | [], κ, h => ⟨[], false, h, rfl, fun g H w B hH hg hB => ⟨fun vs hv => by cases vs <;> simp_all [All2], fun i x' x val h => by simp at h⟩⟩
  | v :: l, κ, h => by
    simp only [lendsK] at h
    obtain ⟨v', b1, h1, hv, _⟩ := lend1_ok h
    obtain ⟨l', b2, h2, hlen, hl⟩ := lends_ok h1
    refine ⟨v' :: l', b1 || b2, h2, by simp [hlen], fun g H w B hH hg hB => ?_⟩
    have hB1 : b1 = true → B = true := fun e => hB (by simp [e])
    have hB2 : b2 = true → B = true := fun e => hB (by simp [e])
    obtain ⟨k1, k2⟩ := hl g H w B hH hg hB2
    refine ⟨fun vs hvs => ?_, fun i x' x val hx' hx hval => ?_⟩
    · cases vs with
      | nil => exact hvs.elim
      | cons u us => exact ⟨(hv g H w B u hH hg hB1 hvs.1).1, k1 us hvs.2⟩
    · cases i with
      | zero => simp at hx' hx; subst hx'; subst hx; exact hv g H w B val hH hg hB1 hval
      | succ i => exact k2 i x' x val (by simpa using hx') (by simpa using hx) hval
theorem lent_cell {x : AV} {v : Value} (hn : noAt x = true) (ht : ∀ τ E r c, x ≠ .own τ E r c) (ht2 : ∀ τ i o E, x ≠ .ptr τ i o E) (h : V1 g H w x v) : PCell g.S g.Sl w x v := by
  cases x <;> first
    | exact h
    | exact absurd rfl (ht _ _ _ _)
    | exact absurd rfl (ht2 _ _ _ _)
    | (simp [noAt] at hn)
theorem lent_cell' {x : AV} {v : Value} (hn : noAt x = true) (h : V1 (g.lent w B) [] w x v) : PCell (g.lent w B).S (g.lent w B).Sl w x v :=
  lent_cell hn (fun τ E r c e => by subst e; exact h.1.elim) (fun τ i o E e => by subst e; exact h.1.elim) h
theorem noAts_mem : ∀ {l : List AV}, noAts l = true → ∀ x ∈ l, noAt x = true
  | [], _, x, hx => by cases hx
  | y :: l, h, x, hx => by
    simp only [noAts, Bool.and_eq_true] at h
    cases hx with
    | head => exact h.1
    | tail _ hx => exact noAts_mem h.2 x hx
theorem V1s_lent {l l' : List AV} (hl : l'.length = l.length) (hh : ∀ (i : Nat) x' x val, l'[i]? = some x' → l[i]? = some x → V1 g H w x val → V1 (g.lent w B) [] w x' val)
    (hp : noAts l' = true) {b k : Nat} (h : V1s g H w l b k) : PCells (g.lent w B).S (g.lent w B).Sl w l' b k := by
  refine PCells_of' fun i c hi => ?_
  have hil : i < l.length := by rw [← hl]; exact (List.getElem?_eq_some_iff.1 hi).1
  obtain ⟨v, hv, hv2⟩ := V1s_get h (List.getElem?_eq_getElem hil)
  exact ⟨v, hv, lent_cell' (noAts_mem hp c (List.mem_of_getElem? hi)) (hh i c _ v hi (List.getElem?_eq_getElem hil) hv2)⟩
theorem lend2_ok {v : AV} {κ : AV → Bool → R} (h : lend2K hp v κ = some r) : ∃ v' b, κ v' b = some r ∧ ∀ (g : G) (H : List Blk) (w : World) (B : Bool) (val : Value), hp <+: H → Good g H w → (b = true → B = true) → V3 g H w v val →
    V2 g H w v val ∧ V2 (g.lent w B) [] w v' val := by
  unfold lend2K at h
  split at h
  · rename_i cs
    obtain ⟨l', b, h1, hlen, hl⟩ := lends_ok h
    refine ⟨_, b, h1, fun g H w B val hH hg hB hv => ⟨hv, ?_⟩⟩
    obtain ⟨vs, e, hvs⟩ := hv
    exact ⟨vs, e, (hl g H w B hH hg hB).1 vs hvs⟩
  · rename_i τ idx off E
    obtain ⟨blk, hb, h1⟩ := getK_some h
    clear h
    have hbox : ∀ (y : AV) (l' : List AV) (y' : AV), blk = .box y → cells y' = l' → l'.length = (cells y).length → noAts l' = true → (∀ (g : G) (H : List Blk) (w : World) (B : Bool), hp <+: H → Good g H w → B = true → ∀ (i : Nat) x' x val, l'[i]? = some x' → (cells y)[i]? = some x → V1 g H w x val → V1 (g.lent w B) [] w x' val) →
        κ (.at y' off) true = some r → ∃ v' b, κ v' b = some r ∧ ∀ (g : G) (H : List Blk) (w : World) (B : Bool) (val : Value), hp <+: H → Good g H w → (b = true → B = true) → V3 g H w (.ptr τ idx off E) val →
          V2 g H w (.ptr τ idx off E) val ∧ V2 (g.lent w B) [] w v' val := by
      intro y l' y' e1 e2 e3 e4 e5 e6
      subst e1
      refine ⟨_, _, e6, fun g H w B val hH hg hB hv => ⟨hv, ?_⟩⟩
      obtain ⟨hd, hz, b, base, n, hρ, hidx, he⟩ := hv
      have hbH := prefix_get hH hb
      obtain ⟨bk, q1, q2⟩ := hg.tok τ hd
      rw [hbH] at q1
      cases q1
      obtain ⟨b', o', hρ', hS, hu, hcs⟩ := q2
      rw [hρ] at hρ'
      cases hρ'
      have h0 := hz _ hbH
      have hn : n = 0 := by omega
      subst hn
      refine ⟨b, base, by simpa using he, .inr ⟨hB rfl, hu.lt⟩, by rw [e2], ?_⟩
      rw [e2]
      exact V1s_lent e3 (e5 g H w B hH hg (hB rfl)) e4 hcs
    split at h1
    · rename_i cs
      obtain ⟨l', b, h2, hlen, hl⟩ := lends_ok h1
      obtain ⟨hna, h3⟩ := cond_none h2
      exact hbox (.agg cs) l' (.agg l') rfl rfl hlen hna (fun g H w B hH hg hB i x' x val h1 h2 h3 => ((hl g H w B hH hg (fun _ => hB)).2 i x' x val h1 h2 h3).1) h3
    · rename_i y hny
      obtain ⟨v', b, h2, hv, hV, hc⟩ := lend1_ok h1
      obtain ⟨hna, h3⟩ := cond_none h2
      have hcy : cells y = [y] := by
        cases y <;> first
          | rfl
          | exact absurd rfl (hny _)
      refine hbox y [v'] v' rfl hc (by rw [hcy]; rfl) (by simp [noAts, hna]) (fun g H w B hH hg hB i x' x val h1 h2 h3 => ?_) h3
      rw [hcy] at h2
      cases i with
      | zero => simp at h1 h2; subst h1; subst h2; exact (hv g H w B val hH hg (fun _ => hB) h3).1
      | succ i => simp at h1
    · cases h1
    · rename_i m E' xs hm
      obtain ⟨rfl, h2⟩ := beqE_some h1
      obtain ⟨x, hx, h3⟩ := gbind_some h2
      refine ⟨_, _, h3, fun g H w B val hH hg hB hv => ⟨hv, ?_⟩⟩
      obtain ⟨hd, hz, b, base, n, hρ, hidx, he⟩ := hv
      have hbH := prefix_get hH hb
      have hmd : m ≠ .dead := fun e => by subst e; simp at hm
      obtain ⟨bk, q1, q2⟩ := hg.tok τ hd
      rw [hbH] at q1
      cases q1
      obtain ⟨hi0, hil, hix⟩ := lget_some hx
      have hin : idx.toNat = n := by omega
      rw [hin] at hix
      have hRu : PRows g.S g.Sl w E xs b base ∧ Unf w b 0 := by
        cases m with
        | dead => exact absurd rfl hmd
        | live =>
          rcases q2 with ⟨h0, _⟩ | ⟨b', o', h6, _, h7, h8⟩
          · rw [hρ] at h0; cases h0
          · rw [hρ] at h6; cases h6; exact ⟨h8, h7⟩
        | frozen =>
          rcases q2 with ⟨h0, _⟩ | ⟨b', o', h6, _, h7, h8⟩
          · rw [hρ] at h0; cases h0
          · rw [hρ] at h6; cases h6; exact ⟨h8, h7⟩
      have hel := PRows_get hRu.1 hix
      exact ⟨b, base + n * E, by rw [he], .inr ⟨hB rfl, hRu.2.lt⟩, rfl, hel.2.weak⟩
  · rename_i n1 n2
    obtain ⟨v', b, h1, hv, hV, hc⟩ := lend1_ok h
    refine ⟨v', b, h1, fun g H w B val hH hg hB hval => ?_⟩
    have hv1 := hV g H w val hval
    refine ⟨?_, ?_⟩
    · cases v <;> first
        | exact hv1
        | exact absurd rfl (n1 _)
    · have := (hv g H w B val hH hg hB hv1).1
      cases v' <;> first
        | exact this
        | (simp [V1, PCell] at this)
end lend
end
end Go.AM
namespace Go.AM
section
variable {P : Program} {T : TypeId → Option TI} {o : Oper} {tm : List AV} {hp : List Blk} {κ : AV → List Blk → R} {r : AV × List Blk}
theorem lends2_ok : ∀ {l : List AV} {κ : List AV → Bool → R}, lends2K hp l κ = some r → ∃ l' b, κ l' b = some r ∧ ∀ (g : G) (H : List Blk) (w : World) (B : Bool), hp <+: H → Good g H w → (b = true → B = true) →
    ∀ vs : List Value, All2 (V2 g H w) l vs → All2 (V2 (g.lent w B) [] w) l' vs
  | [], κ, h => ⟨[], false, h, fun g H w B hH hg hB vs hv => by cases vs <;> simp_all [All2]⟩
  | v :: l, κ, h => by
    simp only [lends2K] at h
    obtain ⟨v', b1, h1, hv⟩ := lend2_ok h
    obtain ⟨l', b2, h2, hl⟩ := lends2_ok h1
    refine ⟨v' :: l', b1 || b2, h2, fun g H w B hH hg hB vs hvs => ?_⟩
    cases vs with
    | nil => exact hvs.elim
    | cons u us => exact ⟨(hv g H w B u hH hg (fun e => hB (by simp [e])) (V3_of_V2 hvs.1)).2, hl g H w B hH hg (fun e => hB (by simp [e])) us hvs.2⟩
theorem lend3_ok {v : AV} {κ : AV → Bool → R} (h : lend3K hp v κ = some r) : ∃ v' b, κ v' b = some r ∧ ∀ (g : G) (H : List Blk) (w : World) (B : Bool) (val : Value), hp <+: H → Good g H w → (b = true → B = true) → V3 g H w v val →
    V3 (g.lent w B) [] w v' val := by
  unfold lend3K at h
  split at h
  · rename_i f a c
    obtain ⟨a', b1, h1, ha⟩ := lends2_ok h
    obtain ⟨c', b2, h2, hc⟩ := lends2_ok h1
    refine ⟨_, _, h2, fun g H w B val hH hg hB hv => ?_⟩
    obtain ⟨av, cv, e, k1, k2⟩ := hv
    exact ⟨av, cv, e, ha g H w B hH hg (fun e => hB (by simp [e])) av k1, hc g H w B hH hg (fun e => hB (by simp [e])) cv k2⟩
  · obtain ⟨v', b, h1, hv⟩ := lend2_ok h
    exact ⟨v', b, h1, fun g H w B val hH hg hB hval => V3_of_V2 (hv g H w B val hH hg hB hval).2⟩
theorem lends3_ok : ∀ {l : List AV} {κ : List AV → Bool → R}, lends3K hp l κ = some r → ∃ l' b, κ l' b = some r ∧ ∀ (g : G) (H : List Blk) (w : World) (B : Bool), hp <+: H → Good g H w → (b = true → B = true) →
    ∀ vs : List Value, All2 (V3 g H w) l vs → All2 (V3 (g.lent w B) [] w) l' vs
  | [], κ, h => ⟨[], false, h, fun g H w B hH hg hB vs hv => by cases vs <;> simp_all [All2]⟩
  | v :: l, κ, h => by
    simp only [lends3K] at h
    obtain ⟨v', b1, h1, hv⟩ := lend3_ok h
    obtain ⟨l', b2, h2, hl⟩ := lends3_ok h1
    refine ⟨v' :: l', b1 || b2, h2, fun g H w B hH hg hB vs hvs => ?_⟩
    cases vs with
    | nil => exact hvs.elim
    | cons u us => exact ⟨hv g H w B u hH hg (fun e => hB (by simp [e])) hvs.1, hl g H w B hH hg (fun e => hB (by simp [e])) us hvs.2⟩
theorem call_vals {c : Call} {f : Operand} (ho : o.op = .call c) (hc : c.callee = .value f) {gf : FuncId} {fs cs args : List AV} (hf : evD tm f = some (.fn gf fs cs)) (ha : evsD tm c.args.toList = some args) :
    ∀ (g : G) (H : List Blk) (w : World) (a : Act), (∀ x ∈ o.op.operands, ∀ u, evD tm x = some u → V3 g H w u (a.eval x)) → ∃ vs : List Value, All2 (V3 g H w) (fs ++ (args ++ cs)) vs ∧
      (Enters P gf → (execOp a.eval o).run P w = .ok (.enter gf vs.toArray) w) := by
  intro g H w a hh
  have h1 := hh f (by rw [ho]; simp [Op.operands, Call.operands, hc]) _ hf
  have h2 := args_rel ho ha hh
  obtain ⟨av, cv, e, k1, k2⟩ := h1
  refine ⟨av ++ ((c.args.map a.eval).toList ++ cv), (k1.imp fun _ _ h => V3_of_V2 h).append (h2.append (k2.imp fun _ _ h => V3_of_V2 h)), ?_⟩
  rintro ⟨fn, e1, e2, e3⟩
  have e4 : (av ++ ((c.args.map a.eval).toList ++ cv)).toArray = (⟨av⟩ : Array Value) ++ c.args.map a.eval ++ ⟨cv⟩ := by
    apply Array.ext'
    simp
  simp only [execOp, ho, resolve, hc, e, Deferred.ofValue, Sem.run_bind, Sem.run_pure, Result.andThen_ok, invoke, callFunc]
  have e2' : ¬ fn.name = "runtime.NumGoroutine" := by simpa using e2
  have e3' : ¬ fn.body = none := fun h => by simp [h] at e3
  simp [e1, e2', e3']
theorem okRs_mem : ∀ {l : List AV}, okRs l = true → ∀ x ∈ l, okR1 x = true
  | [], _, x, hx => by cases hx
  | y :: l, h, x, hx => by
    simp only [okRs, Bool.and_eq_true] at h
    cases hx with
    | head => exact h.1
    | tail _ hx => exact okRs_mem h.2 x hx
section back
variable {g g1 g2 : G} {H hc : List Blk} {w w' : World} {n : Nat}
structure Back (g g1 g2 : G) (hc H : List Blk) (n : Nat) (B : Bool) (w : World) : Prop where
  dom : ∀ τ, g1.dom τ → g2.dom (n + τ)
  ρ : ∀ τ, g1.dom τ → g2.ρ (n + τ) = g1.ρ τ
  blk : ∀ τ b, hc[τ]? = some b → H[n + τ]? = some b
  lt : ∀ τ, g1.dom τ → τ < hc.length
  Sl : ∀ b, g1.Sl b → g2.Sl b
  S : B = false → ∀ b, g1.S b → g2.S b
theorem Back.blk' {B : Bool} (hb : Back g g1 g2 hc H n B w) {τ : Nat} {b : Blk} (hd : g1.dom τ) (h : H[n + τ]? = some b) : hc[τ]? = some b := by
  have := hb.lt τ hd
  obtain ⟨c, hcc⟩ : ∃ c, hc[τ]? = some c := ⟨_, List.getElem?_eq_getElem this⟩
  have := hb.blk τ c hcc
  rw [h] at this
  cases this
  exact hcc
theorem PCell.back {B : Bool} (hb : Back g g1 g2 hc H n B w) {x : AV} {v : Value} (hf : B = false ∨ far1 x = false) (h : PCell g1.S g1.Sl w' x v) : PCell g2.S g2.Sl w' x v := by
  cases x with
  | lst o c E xs =>
    simp only [PCell] at h ⊢
    obtain ⟨A, cap, e, h1, h2, h3⟩ := h
    refine ⟨A, cap, e, h1, h2, h3.imp id ?_⟩
    rintro ⟨b, off, h4, h5, h6⟩
    refine ⟨b, off, h4, ?_, h6.mono' hb.Sl (fun _ _ => rfl) rfl⟩
    cases o with
    | false => exact hb.Sl b h5
    | true =>
      rcases hf with hf | hf
      · exact hb.S hf b h5
      · simp [far1] at hf
  | _ => simpa [PCell] using h
theorem PCells.back {B : Bool} (hb : Back g g1 g2 hc H n B w) (hB : B = false) : ∀ {cs : List AV} {b k : Nat}, PCells g1.S g1.Sl w' cs b k → PCells g2.S g2.Sl w' cs b k
  | [], _, _, _ => by simp [PCells]
  | c :: cs, b, k, h => by
    simp only [PCells] at h ⊢
    obtain ⟨⟨v, hv, hp⟩, hr⟩ := h
    exact ⟨⟨v, hv, PCell.back hb (.inl hB) hp⟩, PCells.back hb hB hr⟩
theorem ad1_back {B : Bool} (hb : Back g g1 g2 hc H n B w) {x : AV} {v : Value} (ho : okR1 x = true) (hf : B = false ∨ far1 x = false) {hk h0 : List Blk} (hkl : h0.length = n + hk.length) (h : V1 g1 hc w' (ad1 hk x).1 v) :
    V1 g2 H w' (ad1 h0 x).1 v ∧ (ad1 h0 x).2.length = n + (ad1 hk x).2.length := by
  cases x with
  | frs E xs =>
    simp only [ad1] at h ⊢
    refine ⟨?_, by simp [hkl, Nat.add_assoc]⟩
    obtain ⟨hd, h⟩ := h
    rw [hkl]
    refine ⟨hb.dom _ hd, ?_⟩
    rw [hb.ρ _ hd]
    cases hρ : g1.ρ hk.length with
    | none =>
      rw [hρ] at h
      refine ⟨h.1, fun m E' ys hy hm => h.2 m E' ys (hb.blk' hd hy) hm⟩
    | some p =>
      rw [hρ] at h
      obtain ⟨k, o, l, cap, e, h1, h2, h3, h4, h5, h6, h7⟩ := h
      exact ⟨k, o, l, cap, e, h1, h2, h3, fun e m E' ys hy hm => h4 e m E' ys (hb.blk' hd hy) hm, h5, h6, fun m E' ys hy hm => h7 m E' ys (hb.blk' hd hy) hm⟩
  | «at» x off =>
    refine ⟨?_, hkl⟩
    rcases hf with hB | hf
    · obtain ⟨b, k, e, h1, h2⟩ := h
      exact ⟨b, k, e, hb.S hB b h1, h2.1, PCells.back hb hB h2.2⟩
    · simp [far1] at hf
  | own _ _ _ _ | ptr _ _ _ _ | fn _ _ _ | tup _ | agg _ | top | anyb => simp [okR1] at ho
  | int _ _ | bool _ | str _ | nil | iface0 | lst _ _ _ _ =>
    refine ⟨?_, hkl⟩
    simp only [ad1, V1] at h ⊢
    exact PCell.back hb hf h
theorem ads_back {B : Bool} (hb : Back g g1 g2 hc H n B w) : ∀ {l : List AV} {vs : List Value} {hk h0 : List Blk}, okRs l = true → (B = false ∨ fars l = false) → h0.length = n + hk.length → All2 (V1 g1 hc w') (ads hk l).1 vs →
    All2 (V1 g2 H w') (ads h0 l).1 vs ∧ (ads h0 l).2.length = n + (ads hk l).2.length
  | [], vs, hk, h0, _, _, hl, h => ⟨by cases vs <;> simp_all [ads, All2], hl⟩
  | x :: l, vs, hk, h0, ho, hf, hl, h => by
    simp only [okRs, Bool.and_eq_true] at ho
    have hf1 : B = false ∨ far1 x = false := hf.imp id fun h => by simp only [fars, Bool.or_eq_false_iff] at h; exact h.1
    have hf2 : B = false ∨ fars l = false := hf.imp id fun h => by simp only [fars, Bool.or_eq_false_iff] at h; exact h.2
    cases vs with
    | nil => exact h.elim
    | cons v vs =>
      obtain ⟨k1, k2⟩ := ad1_back hb ho.1 hf1 hl h.1
      obtain ⟨k3, k4⟩ := ads_back hb ho.2 hf2 k2 h.2
      exact ⟨⟨k1, k3⟩, k4⟩
theorem ad2_back {B : Bool} (hb : Back g g1 g2 hc H n B w) {x : AV} {v : Value} (ho : okR2 x = true) (hf : B = false ∨ far2 x = false) {hk h0 : List Blk} (hkl : h0.length = n + hk.length) (h : V2 g1 hc w' (ad2 hk x).1 v) :
    V2 g2 H w' (ad2 h0 x).1 v ∧ (ad2 h0 x).2.length = n + (ad2 hk x).2.length := by
  cases x with
  | agg cs =>
    obtain ⟨vs, e, h⟩ := h
    obtain ⟨k1, k2⟩ := ads_back hb ho hf hkl h
    exact ⟨⟨vs, e, k1⟩, k2⟩
  | own _ _ _ _ | ptr _ _ _ _ | fn _ _ _ | tup _ | top | anyb => simp [okR2, okR1] at ho
  | frs E xs => exact ad1_back (x := .frs E xs) (w' := w') hb ho hf hkl h
  | int k m => exact ad1_back (x := .int k m) (w' := w') hb ho hf hkl h
  | bool b => exact ad1_back (x := .bool b) (w' := w') hb ho hf hkl h
  | str l => exact ad1_back (x := .str l) (w' := w') hb ho hf hkl h
  | nil => exact ad1_back (x := .nil) (w' := w') hb ho hf hkl h
  | iface0 => exact ad1_back (x := .iface0) (w' := w') hb ho hf hkl h
  | lst o c E xs => exact ad1_back (x := .lst o c E xs) (w' := w') hb ho hf hkl h
  | «at» x off => exact ad1_back (x := .at x off) (w' := w') hb ho hf hkl h
theorem ads2_back {B : Bool} (hb : Back g g1 g2 hc H n B w) : ∀ {l : List AV} {vs : List Value} {hk h0 : List Blk}, okRs2 l = true → (B = false ∨ fars2 l = false) → h0.length = n + hk.length → All2 (V2 g1 hc w') (ads2 hk l).1 vs →
    All2 (V2 g2 H w') (ads2 h0 l).1 vs ∧ (ads2 h0 l).2.length = n + (ads2 hk l).2.length
  | [], vs, hk, h0, _, _, hl, h => ⟨by cases vs <;> simp_all [ads2, All2], hl⟩
  | x :: l, vs, hk, h0, ho, hf, hl, h => by
    simp only [okRs2, Bool.and_eq_true] at ho
    have hf1 : B = false ∨ far2 x = false := hf.imp id fun h => by simp only [fars2, Bool.or_eq_false_iff] at h; exact h.1
    have hf2 : B = false ∨ fars2 l = false := hf.imp id fun h => by simp only [fars2, Bool.or_eq_false_iff] at h; exact h.2
    cases vs with
    | nil => exact h.elim
    | cons v vs =>
      obtain ⟨k1, k2⟩ := ad2_back hb ho.1 hf1 hl h.1
      obtain ⟨k3, k4⟩ := ads2_back hb ho.2 hf2 k2 h.2
      exact ⟨⟨k1, k3⟩, k4⟩
theorem ad3_back {B : Bool} (hb : Back g g1 g2 hc H n B w) {x : AV} {v : Value} (ho : okR3 x = true) (hf : B = false ∨ far x = false) {hk h0 : List Blk} (hkl : h0.length = n + hk.length) (h : V3 g1 hc w' (ad3 hk x).1 v) :
    V3 g2 H w' (ad3 h0 x).1 v ∧ (ad3 h0 x).2.length = n + (ad3 hk x).2.length := by
  cases x with
  | tup vs =>
    obtain ⟨ws, e, h⟩ := h
    obtain ⟨k1, k2⟩ := ads2_back hb ho hf hkl h
    exact ⟨⟨ws, e, k1⟩, k2⟩
  | own _ _ _ _ | ptr _ _ _ _ | fn _ _ _ | top | anyb => simp [okR3, okR2, okR1] at ho
  | frs E xs => exact ad2_back (x := .frs E xs) (w' := w') hb ho hf hkl h
  | int k m => exact ad2_back (x := .int k m) (w' := w') hb ho hf hkl h
  | bool b => exact ad2_back (x := .bool b) (w' := w') hb ho hf hkl h
  | str l => exact ad2_back (x := .str l) (w' := w') hb ho hf hkl h
  | nil => exact ad2_back (x := .nil) (w' := w') hb ho hf hkl h
  | iface0 => exact ad2_back (x := .iface0) (w' := w') hb ho hf hkl h
  | lst o c E xs => exact ad2_back (x := .lst o c E xs) (w' := w') hb ho hf hkl h
  | «at» x off => exact ad2_back (x := .at x off) (w' := w') hb ho hf hkl h
  | agg cs => exact ad2_back (x := .agg cs) (w' := w') hb ho hf hkl h
end back
def liveB : Blk → Prop
  | .rows .live _ _ => True
  | _ => False
theorem ad1_app (h0 hk : List Blk) (x : AV) : (ad1 (h0 ++ hk) x).2 = h0 ++ (ad1 hk x).2 := by cases x <;> simp [ad1]
theorem ads_app (h0 : List Blk) : ∀ (hk : List Blk) (l : List AV), (ads (h0 ++ hk) l).2 = h0 ++ (ads hk l).2
  | hk, [] => rfl
  | hk, x :: l => by simp only [ads, ad1_app, ads_app]
theorem ad2_app (h0 hk : List Blk) (x : AV) : (ad2 (h0 ++ hk) x).2 = h0 ++ (ad2 hk x).2 := by
  cases x <;> first
    | exact ads_app _ _ _
    | exact ad1_app _ _ _
theorem ads2_app (h0 : List Blk) : ∀ (hk : List Blk) (l : List AV), (ads2 (h0 ++ hk) l).2 = h0 ++ (ads2 hk l).2
  | hk, [] => rfl
  | hk, x :: l => by simp only [ads2, ad2_app, ads2_app]
theorem ad3_app (h0 hk : List Blk) (x : AV) : (ad3 (h0 ++ hk) x).2 = h0 ++ (ad3 hk x).2 := by
  cases x <;> first
    | exact ads2_app _ _ _
    | exact ad2_app _ _ _
theorem ad3_app0 (h0 : List Blk) (x : AV) : (ad3 h0 x).2 = h0 ++ (ad3 [] x).2 := by
  have := ad3_app h0 [] x
  simpa using this
theorem ad1_live {hk : List Blk} {x : AV} (h : ∀ b ∈ hk, liveB b) : ∀ b ∈ (ad1 hk x).2, liveB b := by
  cases x <;> first
    | exact h
    | (intro b hb
       simp only [ad1, List.mem_append, List.mem_singleton] at hb
       rcases hb with hb | rfl
       · exact h b hb
       · trivial)
theorem ads_live : ∀ {hk : List Blk} {l : List AV}, (∀ b ∈ hk, liveB b) → ∀ b ∈ (ads hk l).2, liveB b
  | hk, [], h => h
  | hk, x :: l, h => show ∀ b ∈ (ads (ad1 hk x).2 l).2, liveB b from ads_live (hk := (ad1 hk x).2) (l := l) (ad1_live (x := x) h)
theorem ad2_live {hk : List Blk} {x : AV} (h : ∀ b ∈ hk, liveB b) : ∀ b ∈ (ad2 hk x).2, liveB b := by
  cases x <;> first
    | exact ads_live h
    | exact ad1_live h
theorem ads2_live : ∀ {hk : List Blk} {l : List AV}, (∀ b ∈ hk, liveB b) → ∀ b ∈ (ads2 hk l).2, liveB b
  | hk, [], h => h
  | hk, x :: l, h => show ∀ b ∈ (ads2 (ad2 hk x).2 l).2, liveB b from ads2_live (hk := (ad2 hk x).2) (l := l) (ad2_live (x := x) h)
theorem ad3_live {hk : List Blk} {x : AV} (h : ∀ b ∈ hk, liveB b) : ∀ b ∈ (ad3 hk x).2, liveB b := by
  cases x <;> first
    | exact ads2_live h
    | exact ad2_live h
def G.back (g g1 : G) (w : World) (n m : Nat) : G where
  dom τ := g.dom τ ∨ (n ≤ τ ∧ τ < n + m)
  ρ τ := if n ≤ τ ∧ τ < n + m then g1.ρ (τ - n) else g.ρ τ
  S b := g.S b ∨ (g1.S b ∧ w.heap.size ≤ b)
  Sl b := g.Sl b ∨ (g1.Sl b ∧ w.heap.size ≤ b)
section pcall
variable {g g1 : G} {H hp hpc : List Blk} {w w' : World} {B : Bool}
theorem pcall_back (hd : ∀ τ, g.dom τ → τ < hp.length ∨ hp.length + hpc.length ≤ τ) (hH : hp ++ hpc <+: H) (hg : Good g H w) (ht : Trans (g.lent w B) [] w g1 hpc w') (hg1 : Good g1 hpc w') (hd1 : ∀ τ, g1.dom τ ↔ τ < hpc.length) (hlive : ∀ b ∈ hpc, liveB b) :
    (∀ b, b < w.heap.size → w'.heap[b]? = w.heap[b]?) ∧ Trans g H w (g.back g1 w hp.length hpc.length) H w' ∧ Good (g.back g1 w hp.length hpc.length) H w' ∧ Back g g1 (g.back g1 w hp.length hpc.length) hpc H hp.length B w := by
  have hnoOwn : ∀ b, ¬ Own (g.lent w B) [] b := fun b ⟨_, _, h, _⟩ => h
  have hprot : ∀ b, b < w.heap.size → w'.heap[b]? = w.heap[b]? := fun b hb => ht.prot b hb (hnoOwn b)
  have hblk : ∀ τ b, hpc[τ]? = some b → H[hp.length + τ]? = some b := fun τ b h => prefix_get hH (by rw [List.getElem?_append_right (by omega)]; simpa using h)
  have hold : ∀ τ, g.dom τ → ¬ (hp.length ≤ τ ∧ τ < hp.length + hpc.length) := fun τ h h' => by have := hd τ h; omega
  have hown1 : ∀ b, Own g1 hpc b → w.heap.size ≤ b := fun b h => (ht.own b h).resolve_right (hnoOwn b)
  have hSl1 : ∀ b, g1.Sl b → (g.back g1 w hp.length hpc.length).Sl b := fun b h => by
    rcases ht.newSl b h with h1 | h1 | h1
    · exact .inl h1
    · exact .inr ⟨h, h1⟩
    · exact absurd h1 (hnoOwn b)
  have hown2 : ∀ τ b o, hp.length ≤ τ → τ < hp.length + hpc.length → (g.back g1 w hp.length hpc.length).ρ τ = some (b, o) → owned H τ → g1.dom (τ - hp.length) ∧ g1.ρ (τ - hp.length) = some (b, o) ∧ owned hpc (τ - hp.length) ∧ w.heap.size ≤ b := by
    intro τ b o h1 h2 h3 h4
    simp only [G.back, h1, h2, and_self, if_true] at h3
    have hlt : τ - hp.length < hpc.length := by omega
    obtain ⟨bk, h5, h6⟩ := h4
    have h7 := hblk (τ - hp.length) _ (List.getElem?_eq_getElem hlt)
    rw [show hp.length + (τ - hp.length) = τ by omega, h5] at h7
    cases h7
    have ho : owned hpc (τ - hp.length) := ⟨_, List.getElem?_eq_getElem hlt, h6⟩
    exact ⟨(hd1 _).2 hlt, h3, ho, hown1 b ⟨τ - hp.length, o, (hd1 _).2 hlt, h3, ho⟩⟩
  have hT : Trans g H w (g.back g1 w hp.length hpc.length) H w' := {
    dom := fun τ h => .inl h
    ρ := fun τ h => by simp only [G.back, if_neg (hold τ h)]
    S := fun b h => .inl h
    Sl := fun b h => .inl h
    newS := fun b h => h.imp id fun h => .inl h.2
    newSl := fun b h => h.imp id fun h => .inl h.2
    size := ht.size
    shape := ht.shape
    env := ht.env
    prot := fun b hb _ => hprot b hb
    own := fun b h => by
      obtain ⟨τ, o, h1, h2, h3⟩ := h
      by_cases hr : hp.length ≤ τ ∧ τ < hp.length + hpc.length
      · exact .inl (hown2 τ b o hr.1 hr.2 h2 h3).2.2.2
      · simp only [G.back, if_neg hr] at h2
        exact .inr ⟨τ, o, h1.resolve_right hr, h2, h3⟩
    len := fun τ _ m E xs h hm => ⟨m, xs, h, hm, rfl⟩
    box := fun τ _ y h => ⟨y, h⟩ }
  refine ⟨hprot, hT, ?_, ?_⟩
  · refine ⟨fun b h => ?_, fun b h => ?_, fun τ hτ => ?_, fun x y b o o' hx hy h1 h2 h3 h4 => ?_⟩
    · exact h.imp (hg.sub b) fun h => ⟨hg1.sub b h.1, h.2⟩
    · rcases h with h | h
      · have := hg.lt b h; have := ht.size; omega
      · exact hg1.lt b h.1
    · by_cases hr : hp.length ≤ τ ∧ τ < hp.length + hpc.length
      · have hlt : τ - hp.length < hpc.length := by omega
        obtain ⟨bk, h1, h2⟩ := hg1.tok (τ - hp.length) ((hd1 _).2 hlt)
        have h3 := hblk _ _ h1
        rw [show hp.length + (τ - hp.length) = τ by omega] at h3
        refine ⟨bk, h3, ?_⟩
        have hl := hlive bk (List.mem_of_getElem? h1)
        match bk, hl with
        | .rows .live E xs, _ =>
          have hρ' : (g.back g1 w hp.length hpc.length).ρ τ = g1.ρ (τ - hp.length) := by simp only [G.back, if_pos hr]
          rcases h2 with ⟨h2, h4⟩ | ⟨b, o, h4, h5, h6, h7⟩
          · exact .inl ⟨by rw [hρ']; exact h2, h4⟩
          · refine .inr ⟨b, o, by rw [hρ']; exact h4, ?_, h6, h7.mono' hSl1 (fun _ _ => rfl) rfl⟩
            have hb := hown1 b ⟨_, o, (hd1 _).2 hlt, h4, _, h1, trivial⟩
            rintro (h | h)
            · have := hg.lt b h; omega
            · exact h5 h.1
      · have hτ := hτ.resolve_right hr
        obtain ⟨bk, h1, h2⟩ := hg.tok τ hτ
        refine ⟨bk, h1, BlkRel.trans hT hg hτ (fun b o hρ ho => ?_) h2⟩
        have hO : Own g H b := ⟨τ, o, hτ, hρ, owned_of h1 ho⟩
        have hlt := hO.lt hg
        refine ⟨hprot b hlt, ?_⟩
        rintro (h | h)
        · exact hO.notS hg h
        · omega
    · have hx' : ¬ (hp.length ≤ x ∧ x < hp.length + hpc.length) → g.dom x ∧ g.ρ x = some (b, o) ∧ b < w.heap.size := fun hr => by
        simp only [G.back, if_neg hr] at h1
        have hx := hx.resolve_right hr
        exact ⟨hx, h1, Own.lt hg ⟨x, o, hx, h1, h3⟩⟩
      have hy' : ¬ (hp.length ≤ y ∧ y < hp.length + hpc.length) → g.dom y ∧ g.ρ y = some (b, o') ∧ b < w.heap.size := fun hr => by
        simp only [G.back, if_neg hr] at h2
        have hy := hy.resolve_right hr
        exact ⟨hy, h2, Own.lt hg ⟨y, o', hy, h2, h4⟩⟩
      by_cases rx : hp.length ≤ x ∧ x < hp.length + hpc.length
      · obtain ⟨q1, q2, q3, q4⟩ := hown2 x b o rx.1 rx.2 h1 h3
        by_cases ry : hp.length ≤ y ∧ y < hp.length + hpc.length
        · obtain ⟨p1, p2, p3, p4⟩ := hown2 y b o' ry.1 ry.2 h2 h4
          have := hg1.inj _ _ b o o' q1 p1 q2 p2 q3 p3
          omega
        · have := (hy' ry).2.2; omega
      · obtain ⟨q1, q2, q3⟩ := hx' rx
        by_cases ry : hp.length ≤ y ∧ y < hp.length + hpc.length
        · have := (hown2 y b o' ry.1 ry.2 h2 h4).2.2.2; omega
        · obtain ⟨p1, p2, p3⟩ := hy' ry
          exact hg.inj x y b o o' q1 p1 q2 p2 h3 h4
  · refine ⟨fun τ h => .inr ⟨by omega, by have := (hd1 τ).1 h; omega⟩, fun τ h => ?_, hblk, fun τ h => (hd1 τ).1 h, hSl1, fun hB b h => ?_⟩
    · have := (hd1 τ).1 h
      simp only [G.back]
      rw [if_pos ⟨by omega, by omega⟩]
      congr 1
      omega
    · rcases ht.newS b h with h1 | h1 | h1
      · rcases h1 with h1 | h1
        · exact .inl h1
        · rw [hB] at h1; exact absurd h1.1 (by simp)
      · exact .inr ⟨h, h1⟩
      · exact absurd h1 (hnoOwn b)
end pcall
theorem isNl_eq {α : Type} {l : List α} (h : isNl l = true) : l = [] := by cases l <;> first | rfl | (simp [isNl] at h)
theorem pcall_step {C : CF} (hC : CSound P C) {c : Call} {f : Operand} (ho : o.op = .call c) (hc : c.callee = .value f) {gf : FuncId} {fs cs args : List AV} (hf : evD tm f = some (.fn gf fs cs)) (ha : evsD tm c.args.toList = some args)
    (h : (lends3K hp (fs ++ (args ++ cs)) fun args b => gbind (C gf args []) fun r => bif okR3 r.1 && isNl r.2 then bif b && far r.1 then none else adoptK hp r.1 κ else none) = some r) : StepN P o tm hp κ r := by
  obtain ⟨l', b, h1, hl⟩ := lends3_ok h
  clear h
  obtain ⟨⟨res, hpr⟩, hCr, h2⟩ := gbind_some h1
  clear h1
  obtain ⟨hok, h3⟩ := cond_none h2
  clear h2
  simp only [Bool.and_eq_true] at hok
  obtain ⟨hok1, hok2⟩ := hok
  have hnil := isNl_eq hok2
  subst hnil
  rcases cond_some h3 with ⟨_, h4⟩ | ⟨hfar, h4⟩
  · cases h4
  clear h3
  rw [adoptK_eq] at h4
  have hfar : b = false ∨ far res = false := by
    cases b
    · exact .inl rfl
    · right; simpa using hfar
  obtain ⟨hen, hcs⟩ := hC gf l' [] res [] hCr
  refine ⟨_, _, h4, ad3_pre hp res, fun Q a w g H N hH hd hx hg hN => ?_⟩
  obtain ⟨vs, hvs, hrun⟩ := call_vals (P := P) ho hc hf ha g H w a hx
  have happ := ad3_app0 hp res
  have hH' := hH
  rw [happ] at hH'
  have hpre : hp <+: H := (ad3_pre hp res).trans hH
  have hlent := hl g H w b hpre hg (fun e => e) vs hvs
  have hcall := hcs (g.lent w b) w vs (hg.lent b) (fun τ => ⟨fun h => h.elim, fun h => by simp at h⟩) hlent
  simp only [Oper.wp, hrun hen, Oper.upon_enter]
  refine hcall.mono fun e w' he => ?_
  obtain ⟨vv, g1, rfl, ht, hg1, hd1, hv⟩ := he
  obtain ⟨k1, k2, k3, k4⟩ := pcall_back (B := b) (fun τ h => by
    have := hd τ h
    rw [happ, List.length_append] at this
    exact this) hH' hg ht hg1 hd1 (ad3_live (fun _ h => by cases h))
  refine hN vv w' _ k1 k2 k3 (fun τ => ?_) ?_ ?_
  · rw [happ, List.length_append]
    exact Iff.rfl
  · exact (ad3_back (w' := w') k4 hok1 hfar (by simp) hv).1
  · intro τ h1 h2 b o hρ
    rw [happ, List.length_append] at h2
    simp only [G.back, if_pos (show hp.length ≤ τ ∧ τ < hp.length + (ad3 [] res).2.length from ⟨h1, h2⟩)] at hρ
    have hlt : τ - hp.length < (ad3 [] res).2.length := by omega
    obtain ⟨bk, q1, q2⟩ := hg1.tok _ ((hd1 _).2 hlt)
    have hlv := ad3_live (hk := []) (x := res) (fun _ h => by cases h) bk (List.mem_of_getElem? q1)
    have how : owned (ad3 [] res).2 (τ - hp.length) := ⟨bk, q1, by cases bk with
      | box y => trivial
      | rows m E xs => cases m <;> first | trivial | exact hlv.elim⟩
    exact (ht.own b ⟨_, o, (hd1 _).2 hlt, hρ, how⟩).resolve_right fun ⟨_, _, h, _⟩ => h
end
end Go.AM
namespace Go.AM
section
variable {P : Program} {T : TypeId → Option TI} {o : Oper} {tm : List AV} {hp : List Blk} {r : AV × List Blk}
def rn1 (φ : Nat → Nat) : AV → AV
  | .own τ E r c => .own (φ τ) E r c
  | .ptr τ i o E => .ptr (φ τ) i o E
  | v => v
def tk1 (D : Nat → Prop) : AV → Prop
  | .own τ _ _ _ => D τ
  | .ptr τ _ _ _ => D τ
  | .fn _ _ _ => False
  | .tup _ => False
  | .agg _ => False
  | _ => True
structure Ren (φ : Nat → Nat) (D : Nat → Prop) (g1 : G) (H1 : List Blk) (g2 : G) (H2 : List Blk) : Prop where
  dom : ∀ τ, D τ → g1.dom τ → g2.dom (φ τ)
  ρ : ∀ τ, D τ → g1.dom τ → g2.ρ (φ τ) = g1.ρ τ
  rows : ∀ τ, D τ → g1.dom τ → ∀ m E xs, H2[φ τ]? = some (.rows m E xs) → H1[τ]? = some (.rows m E xs)
  box : ∀ τ, D τ → g1.dom τ → ∀ y, H2[φ τ]? = some (.box y) → ∃ y', H1[τ]? = some (.box y')
  S : ∀ b, g1.S b → g2.S b
  Sl : ∀ b, g1.Sl b → g2.Sl b
section ren
variable {φ : Nat → Nat} {D : Nat → Prop} {g1 g2 : G} {H1 H2 : List Blk} {w : World}
theorem PCell.sub {S Sl S' Sl' : Nat → Prop} (h1 : ∀ b, S b → S' b) (h2 : ∀ b, Sl b → Sl' b) {x : AV} {v : Value} (h : PCell S Sl w x v) : PCell S' Sl' w x v := by
  cases x with
  | lst o c E xs =>
    simp only [PCell] at h ⊢
    obtain ⟨A, cap, e, k1, k2, k3⟩ := h
    refine ⟨A, cap, e, k1, k2, k3.imp id ?_⟩
    rintro ⟨b, off, h4, h5, h6⟩
    refine ⟨b, off, h4, ?_, h6.mono' h2 (fun _ _ => rfl) rfl⟩
    cases o with
    | false => exact h2 b h5
    | true => exact h1 b h5
  | _ => simpa [PCell] using h
theorem PCells.sub {S Sl S' Sl' : Nat → Prop} (h1 : ∀ b, S b → S' b) (h2 : ∀ b, Sl b → Sl' b) : ∀ {cs : List AV} {b k : Nat}, PCells S Sl w cs b k → PCells S' Sl' w cs b k
  | [], _, _, _ => by simp [PCells]
  | c :: cs, b, k, h => by
    simp only [PCells] at h ⊢
    obtain ⟨⟨v, hv, hp⟩, hr⟩ := h
    exact ⟨⟨v, hv, hp.sub h1 h2⟩, hr.sub h1 h2⟩
theorem V1.ren (hR : Ren φ D g1 H1 g2 H2) {x : AV} {v : Value} (hD : tk1 D x) (h : V1 g1 H1 w x v) : V1 g2 H2 w (rn1 φ x) v := by
  cases x with
  | own τ E r c =>
    obtain ⟨hd, h⟩ := h
    simp only [tk1] at hD
    refine ⟨hR.dom τ hD hd, ?_⟩
    rw [hR.ρ τ hD hd]
    cases hρ : g1.ρ τ with
    | none =>
      rw [hρ] at h
      refine ⟨h.1, ?_⟩
      cases r with
      | none => exact fun m E' ys hy hm => h.2 m E' ys (hR.rows τ hD hd _ _ _ hy) hm
      | some p => exact h.2
    | some p =>
      rw [hρ] at h
      obtain ⟨k, o, l, cap, e, k1, k2, k3, k4, k5, k6⟩ := h
      refine ⟨k, o, l, cap, e, k1, k2, k3, fun e m E' ys hy hm => k4 e m E' ys (hR.rows τ hD hd _ _ _ hy) hm, k5, ?_⟩
      cases r with
      | none => exact ⟨k6.1, fun m E' ys hy hm => k6.2 m E' ys (hR.rows τ hD hd _ _ _ hy) hm⟩
      | some p => exact ⟨k6.1, k6.2.1, fun m E' ys hy hm => k6.2.2 m E' ys (hR.rows τ hD hd _ _ _ hy) hm⟩
  | ptr τ i o E =>
    obtain ⟨hd, hz, b, base, n, k1, k2, k3⟩ := h
    simp only [tk1] at hD
    exact ⟨hR.dom τ hD hd, fun y hy => (hR.box τ hD hd y hy).elim fun y' h => hz y' h, b, base, n, (hR.ρ τ hD hd).trans k1, k2, k3⟩
  | «at» x off =>
    obtain ⟨b, k, e, k1, k2⟩ := h
    exact ⟨b, k, e, hR.S b k1, k2.1, k2.2.sub hR.S hR.Sl⟩
  | _ => simp only [V1, rn1] at h ⊢; exact PCell.sub hR.S hR.Sl h
theorem All2_map {R R' : AV → Value → Prop} {f : AV → AV} : ∀ {xs : List AV} {vs : List Value}, (∀ x ∈ xs, ∀ v, R x v → R' (f x) v) → All2 R xs vs → All2 R' (xs.map f) vs
  | [], [], _, _ => trivial
  | x :: xs, v :: vs, h, hh => ⟨h x (by simp) v hh.1, All2_map (fun y hy => h y (by simp [hy])) hh.2⟩
  | [], _ :: _, _, hh => hh.elim
  | _ :: _, [], _, hh => hh.elim
theorem V1s.ren (hR : Ren φ D g1 H1 g2 H2) : ∀ {cs : List AV} {b k : Nat}, (∀ x ∈ cs, tk1 D x) → V1s g1 H1 w cs b k → V1s g2 H2 w (cs.map (rn1 φ)) b k
  | [], _, _, _, _ => trivial
  | c :: cs, b, k, hD, h => ⟨h.1.imp fun v hv => ⟨hv.1, hv.2.ren hR (hD c (by simp))⟩, h.2.ren hR fun x hx => hD x (by simp [hx])⟩
end ren
def RV (φ : Nat → Nat) (D : Nat → Prop) (x x' : AV) : Prop :=
  ∀ (g1 g2 : G) (H1 H2 : List Blk) (w : World), Ren φ D g1 H1 g2 H2 → (∀ v, V3 g1 H1 w x v → V3 g2 H2 w x' v) ∧ (∀ v, V2 g1 H1 w x v → V2 g2 H2 w x' v) ∧
    ∀ b k, V1s g1 H1 w (cells x) b k → V1s g2 H2 w (cells x') b k
theorem RV.one {φ : Nat → Nat} {D : Nat → Prop} {x : AV} (hD : tk1 D x) : RV φ D x (rn1 φ x) := by
  intro g1 g2 H1 H2 w hR
  have hc : cells x = [x] ∧ cells (rn1 φ x) = [rn1 φ x] := by
    cases x <;> first
      | exact ⟨rfl, rfl⟩
      | exact hD.elim
  have h2 : ∀ g H v, V2 g H w x v ↔ V1 g H w x v := fun g H v => by
    cases x <;> first
      | exact Iff.rfl
      | exact hD.elim
  have h2' : ∀ g H v, V2 g H w (rn1 φ x) v ↔ V1 g H w (rn1 φ x) v := fun g H v => by
    cases x <;> first
      | exact Iff.rfl
      | exact hD.elim
  refine ⟨fun v hv => ?_, fun v hv => (h2' _ _ v).2 (((h2 _ _ v).1 hv).ren hR hD), fun b k h => ?_⟩
  · cases x <;> first
      | trivial
      | exact hD.elim
      | exact V1.ren (w := w) hR hD hv
  · rw [hc.1] at h
    rw [hc.2]
    exact V1s.ren hR (by simpa using hD) h
theorem RV.agg {φ : Nat → Nat} {D : Nat → Prop} {cs : List AV} (hD : ∀ x ∈ cs, tk1 D x) : RV φ D (.agg cs) (.agg (cs.map (rn1 φ))) := by
  intro g1 g2 H1 H2 w hR
  have key : ∀ v, V2 g1 H1 w (.agg cs) v → V2 g2 H2 w (.agg (cs.map (rn1 φ))) v := by
    rintro v ⟨vs, e, h⟩
    exact ⟨vs, e, All2_map (fun x hx v hv => V1.ren hR (hD x hx) hv) h⟩
  exact ⟨key, key, fun b k h => V1s.ren hR hD h⟩
theorem RV.tup {φ : Nat → Nat} {D : Nat → Prop} {cs cs' : List AV} (h : cs'.length = cs.length ∧ ∀ (i : Nat) x x', cs[i]? = some x → cs'[i]? = some x' → RV φ D x x') : RV φ D (.tup cs) (.tup cs') := by
  intro g1 g2 H1 H2 w hR
  refine ⟨?_, fun v hv => by simp [V2, V1, PCell] at hv, fun b k hh => by obtain ⟨⟨v, _, hv⟩, _⟩ := hh; simp [V1, PCell] at hv⟩
  rintro v ⟨ws, e, hw⟩
  refine ⟨ws, e, ?_⟩
  clear e
  obtain ⟨hl, hx⟩ := h
  induction cs generalizing cs' ws with
  | nil =>
    cases cs' with
    | nil => cases ws <;> first | trivial | exact hw.elim
    | cons _ _ => simp at hl
  | cons c cs ih =>
    cases cs' with
    | nil => simp at hl
    | cons c' cs' =>
      cases ws with
      | nil => exact hw.elim
      | cons u us =>
        exact ⟨(hx 0 c c' rfl rfl g1 g2 H1 H2 w hR).2.1 u hw.1, ih (cs' := cs') us hw.2 (by simpa using hl) fun i x x' h1 h2 => hx (i + 1) x x' (by simpa using h1) (by simpa using h2)⟩
theorem RV.fn {φ : Nat → Nat} {D : Nat → Prop} {f : FuncId} {a c a' c' : List AV} (ha : a'.length = a.length ∧ ∀ (i : Nat) x x', a[i]? = some x → a'[i]? = some x' → RV φ D x x') (hc : c'.length = c.length ∧ ∀ (i : Nat) x x', c[i]? = some x → c'[i]? = some x' → RV φ D x x') :
    RV φ D (.fn f a c) (.fn f a' c') := by
  intro g1 g2 H1 H2 w hR
  refine ⟨?_, fun v hv => by simp [V2, V1, PCell] at hv, fun b k hh => by obtain ⟨⟨v, _, hv⟩, _⟩ := hh; simp [V1, PCell] at hv⟩
  have key : ∀ (l l' : List AV) (ws : List Value), (l'.length = l.length ∧ ∀ (i : Nat) x x', l[i]? = some x → l'[i]? = some x' → RV φ D x x') → All2 (V2 g1 H1 w) l ws → All2 (V2 g2 H2 w) l' ws := by
    intro l
    induction l with
    | nil =>
      intro l' ws h hw
      cases l' with
      | nil => cases ws <;> first | trivial | exact hw.elim
      | cons _ _ => simp at h
    | cons x l ih =>
      intro l' ws h hw
      cases l' with
      | nil => simp at h
      | cons x' l' =>
        cases ws with
        | nil => exact hw.elim
        | cons u us => exact ⟨(h.2 0 x x' rfl rfl g1 g2 H1 H2 w hR).2.1 u hw.1, ih l' us ⟨by simpa using h.1, fun i y y' h1 h2 => h.2 (i + 1) y y' (by simpa using h1) (by simpa using h2)⟩ hw.2⟩
  rintro v ⟨av, cv, e, k1, k2⟩
  exact ⟨av, cv, e, key _ _ _ ha k1, key _ _ _ hc k2⟩
def RVs (φ : Nat → Nat) (D : Nat → Prop) (l l' : List AV) : Prop := l'.length = l.length ∧ ∀ (i : Nat) x x', l[i]? = some x → l'[i]? = some x' → RV φ D x x'
theorem RVs.cons {φ : Nat → Nat} {D : Nat → Prop} {x x' : AV} {l l' : List AV} (h : RV φ D x x') (hl : RVs φ D l l') : RVs φ D (x :: l) (x' :: l') := by
  refine ⟨by simp [hl.1], fun i y y' h1 h2 => ?_⟩
  cases i with
  | zero => simp at h1 h2; subst h1; subst h2; exact h
  | succ i => exact hl.2 i y y' (by simpa using h1) (by simpa using h2)
theorem RVs.nil {φ : Nat → Nat} {D : Nat → Prop} : RVs φ D [] [] := ⟨rfl, fun i x x' h => by simp at h⟩
theorem RVs.all2 {φ : Nat → Nat} {D : Nat → Prop} {g1 g2 : G} {H1 H2 : List Blk} {w : World} (hR : Ren φ D g1 H1 g2 H2) : ∀ {l l' : List AV} {vs : List Value}, RVs φ D l l' → All2 (V3 g1 H1 w) l vs → All2 (V3 g2 H2 w) l' vs
  | [], [], [], _, _ => trivial
  | x :: l, x' :: l', v :: vs, h, hv => ⟨(h.2 0 x x' rfl rfl g1 g2 H1 H2 w hR).1 v hv.1, RVs.all2 hR ⟨by simpa using h.1, fun i y y' h1 h2 => h.2 (i + 1) y y' (by simpa using h1) (by simpa using h2)⟩ hv.2⟩
  | [], _ :: _, _, h, _ => by simp [RVs] at h
  | _ :: _, [], _, h, _ => by simp [RVs] at h
  | [], [], _ :: _, _, h => h.elim
  | _ :: _, _ :: _, [], _, h => h.elim
def RB (φ : Nat → Nat) (D : Nat → Prop) (b b' : Blk) : Prop :=
  match b with
  | .rows m E xs => b' = .rows m E xs
  | .box y => ∃ y', b' = .box y' ∧ RV φ D y y'
def rnF (b0 : Nat) (ids : List Nat) (τ : Nat) : Nat := if b0 ≤ τ then b0 + ids.idxOf τ else τ
def rnD (b0 : Nat) (ids : List Nat) (τ : Nat) : Prop := τ < b0 ∨ τ ∈ ids
theorem idxN_ok {κ : Nat → R} : ∀ {ids : List Nat} {n m : Nat}, idxN ids n m κ = some r → n ∈ ids ∧ κ (m + ids.idxOf n) = some r
  | [], n, m, h => by simp [idxN] at h
  | a :: l, n, m, h => by
    simp only [idxN] at h
    rcases cond_some h with ⟨he, h⟩ | ⟨he, h⟩
    · have e := beq_eq he
      subst e
      rw [natK_eq] at h
      simpa using h
    · have hne : a ≠ n := fun e => by subst e; simp at he
      obtain ⟨h1, h2⟩ := idxN_ok h
      refine ⟨by simp [h1], ?_⟩
      rw [List.idxOf_cons]
      have : (a == n) = false := by simpa using hne
      rw [this]
      simpa [Nat.add_assoc, Nat.add_comm 1] using h2
theorem ren1_ok {b0 : Nat} {ids : List Nat} {v : AV} {κ : AV → R} (h : ren1K b0 ids v κ = some r) : κ (rn1 (rnF b0 ids) v) = some r ∧ tk1 (rnD b0 ids) v := by
  cases v <;> simp only [ren1K] at h <;> try (cases h; done)
  case own τ E rr c =>
    rcases cond_some h with ⟨he, h⟩ | ⟨he, h⟩
    · have he := Nat.le_of_ble_eq_true he
      obtain ⟨h1, h2⟩ := idxN_ok h
      simp only [rn1, rnF, if_pos he]
      exact ⟨h2, .inr h1⟩
    · have he : ¬ b0 ≤ τ := fun hh => by rw [Nat.ble_eq_true_of_le hh] at he; cases he
      simp only [rn1, rnF, if_neg he]
      exact ⟨h, .inl (by omega)⟩
  case ptr τ i o E =>
    rcases cond_some h with ⟨he, h⟩ | ⟨he, h⟩
    · have he := Nat.le_of_ble_eq_true he
      obtain ⟨h1, h2⟩ := idxN_ok h
      simp only [rn1, rnF, if_pos he]
      exact ⟨h2, .inr h1⟩
    · have he : ¬ b0 ≤ τ := fun hh => by rw [Nat.ble_eq_true_of_le hh] at he; cases he
      simp only [rn1, rnF, if_neg he]
      exact ⟨h, .inl (by omega)⟩
  all_goals exact ⟨h, trivial⟩
theorem rens_ok {b0 : Nat} {ids : List Nat} : ∀ {l : List AV} {κ : List AV → R}, rensK b0 ids l κ = some r → κ (l.map (rn1 (rnF b0 ids))) = some r ∧ ∀ x ∈ l, tk1 (rnD b0 ids) x
  | [], κ, h => ⟨h, fun x hx => by cases hx⟩
  | v :: l, κ, h => by
    simp only [rensK] at h
    obtain ⟨h1, h2⟩ := ren1_ok h
    obtain ⟨h3, h4⟩ := rens_ok h1
    refine ⟨h3, fun x hx => ?_⟩
    cases hx with
    | head => exact h2
    | tail _ hx => exact h4 x hx
theorem ren2_ok {b0 : Nat} {ids : List Nat} {v : AV} {κ : AV → R} (h : ren2K b0 ids v κ = some r) : ∃ v', κ v' = some r ∧ RV (rnF b0 ids) (rnD b0 ids) v v' := by
  unfold ren2K at h
  split at h
  · obtain ⟨h1, h2⟩ := rens_ok h
    exact ⟨_, h1, RV.agg h2⟩
  · rename_i cs
    obtain ⟨h1, h2⟩ := rens_ok h
    refine ⟨_, h1, RV.tup ⟨by simp, fun i x x' hx hx' => ?_⟩⟩
    rw [List.getElem?_map, hx] at hx'
    cases hx'
    exact RV.one (h2 x (List.mem_of_getElem? hx))
  · obtain ⟨h1, h2⟩ := ren1_ok h
    exact ⟨_, h1, RV.one h2⟩
theorem rens2_ok {b0 : Nat} {ids : List Nat} : ∀ {l : List AV} {κ : List AV → R}, rens2K b0 ids l κ = some r → ∃ l', κ l' = some r ∧ RVs (rnF b0 ids) (rnD b0 ids) l l'
  | [], κ, h => ⟨[], h, RVs.nil⟩
  | v :: l, κ, h => by
    simp only [rens2K] at h
    obtain ⟨v', h1, h2⟩ := ren2_ok h
    obtain ⟨l', h3, h4⟩ := rens2_ok h1
    exact ⟨v' :: l', h3, RVs.cons h2 h4⟩
theorem ren3_ok {b0 : Nat} {ids : List Nat} {v : AV} {κ : AV → R} (h : ren3K b0 ids v κ = some r) : ∃ v', κ v' = some r ∧ RV (rnF b0 ids) (rnD b0 ids) v v' := by
  unfold ren3K at h
  split at h
  · obtain ⟨a', h1, h2⟩ := rens2_ok h
    obtain ⟨c', h3, h4⟩ := rens2_ok h1
    exact ⟨_, h3, RV.fn h2 h4⟩
  · exact ren2_ok h
theorem rens3_ok {b0 : Nat} {ids : List Nat} : ∀ {l : List AV} {κ : List AV → R}, rens3K b0 ids l κ = some r → ∃ l', κ l' = some r ∧ RVs (rnF b0 ids) (rnD b0 ids) l l'
  | [], κ, h => ⟨[], h, RVs.nil⟩
  | v :: l, κ, h => by
    simp only [rens3K] at h
    obtain ⟨v', h1, h2⟩ := ren3_ok h
    obtain ⟨l', h3, h4⟩ := rens3_ok h1
    exact ⟨v' :: l', h3, RVs.cons h2 h4⟩
theorem renB_ok {b0 : Nat} {ids : List Nat} {b : Blk} {κ : Blk → R} (h : renBK b0 ids b κ = some r) : ∃ b', κ b' = some r ∧ RB (rnF b0 ids) (rnD b0 ids) b b' := by
  unfold renBK at h
  split at h
  · obtain ⟨v', h1, h2⟩ := ren3_ok h
    exact ⟨_, h1, v', rfl, h2⟩
  · exact ⟨_, h, rfl⟩
theorem rensB_ok {b0 : Nat} {ids : List Nat} : ∀ {l : List Blk} {κ : List Blk → R}, rensB b0 ids l κ = some r → ∃ l', κ l' = some r ∧ l'.length = l.length ∧ ∀ (i : Nat) b b', l[i]? = some b → l'[i]? = some b' → RB (rnF b0 ids) (rnD b0 ids) b b'
  | [], κ, h => ⟨[], h, rfl, fun i b b' hb => by simp at hb⟩
  | b :: l, κ, h => by
    simp only [rensB] at h
    obtain ⟨b', h1, h2⟩ := renB_ok h
    obtain ⟨l', h3, h4, h5⟩ := rensB_ok h1
    refine ⟨b' :: l', h3, by simp [h4], fun i c c' hc hc' => ?_⟩
    cases i with
    | zero => simp at hc hc'; subst hc; subst hc'; exact h2
    | succ i => exact h5 i c c' (by simpa using hc) (by simpa using hc')
theorem pickB_ok {b0 : Nat} {ids : List Nat} : ∀ {l : List Nat} {κ : List Blk → R}, pickB b0 ids hp l κ = some r → ∃ bs, κ bs = some r ∧ bs.length = l.length ∧
    ∀ (i : Nat) τ, l[i]? = some τ → ∃ b b', hp[τ]? = some b ∧ bs[i]? = some b' ∧ RB (rnF b0 ids) (rnD b0 ids) b b'
  | [], κ, h => ⟨[], h, rfl, fun i τ hb => by simp at hb⟩
  | τ :: l, κ, h => by
    simp only [pickB] at h
    obtain ⟨b, hb, h1⟩ := getK_some h
    obtain ⟨b', h2, h3⟩ := renB_ok h1
    obtain ⟨bs, h4, h5, h6⟩ := pickB_ok h2
    refine ⟨b' :: bs, h4, by simp [h5], fun i σ hσ => ?_⟩
    cases i with
    | zero => simp at hσ; subst hσ; exact ⟨b, b', hb, rfl, h3⟩
    | succ i => simpa using h6 i σ (by simpa using hσ)
end
end Go.AM
namespace Go.AM
section
variable {P : Program} {T : TypeId → Option TI} {o : Oper} {tm : List AV} {hp : List Blk} {r : AV × List Blk}
section good
variable {φ : Nat → Nat} {D : Nat → Prop} {g g' g0 : G} {H H' H0 : List Blk} {w w0 : World}
theorem RB.owned {b b' : Blk} (h : RB φ D b b') : b'.owned ↔ b.owned := by
  cases b with
  | rows m E xs => rw [show b' = .rows m E xs from h]
  | box y => obtain ⟨y', rfl, _⟩ := h; exact Iff.rfl
theorem Good.ren (hg : Good g H w) (hR : Ren φ D g H g' H') (hS : g'.S = g.S) (hSl : g'.Sl = g.Sl)
    (hpre : ∀ τ', g'.dom τ' → ∃ τ b b', φ τ = τ' ∧ D τ ∧ g.dom τ ∧ H[τ]? = some b ∧ H'[τ']? = some b' ∧ RB φ D b b') : Good g' H' w where
  sub b h := by rw [hSl] at h; rw [hS]; exact hg.sub b h
  lt b h := by rw [hS] at h; exact hg.lt b h
  tok τ' hτ' := by
    obtain ⟨τ, b, b', rfl, hD, hd, h1, h2, h3⟩ := hpre τ' hτ'
    refine ⟨b', h2, ?_⟩
    obtain ⟨bk, q1, q2⟩ := hg.tok τ hd
    rw [h1] at q1
    cases q1
    have hρ := hR.ρ τ hD hd
    cases b with
    | box y =>
      obtain ⟨y', rfl, hv⟩ := h3
      obtain ⟨bb, oo, k1, k2, k3, k4⟩ := q2
      exact ⟨bb, oo, hρ.trans k1, by rw [hS]; exact k2, k3, (hv g g' H H' w hR).2.2 _ _ k4⟩
    | rows m E xs =>
      obtain rfl : b' = .rows m E xs := h3
      cases m with
      | live =>
        rcases q2 with ⟨k1, k2⟩ | ⟨bb, oo, k1, k2, k3, k4⟩
        · exact .inl ⟨hρ.trans k1, k2⟩
        · exact .inr ⟨bb, oo, hρ.trans k1, by rw [hS]; exact k2, k3, by rw [hS, hSl]; exact k4⟩
      | frozen =>
        rcases q2 with ⟨k1, k2⟩ | ⟨bb, oo, k1, k2, k3, k4⟩
        · exact .inl ⟨hρ.trans k1, k2⟩
        · exact .inr ⟨bb, oo, hρ.trans k1, by rw [hSl]; exact k2, k3, by rw [hS, hSl]; exact k4⟩
      | dead => trivial
  inj x y b o o' hx hy h1 h2 h3 h4 := by
    obtain ⟨τ, bk, bk', rfl, hD, hd, q1, q2, q3⟩ := hpre x hx
    obtain ⟨σ, ck, ck', rfl, hD', hd', p1, p2, p3⟩ := hpre y hy
    rw [hR.ρ τ hD hd] at h1
    rw [hR.ρ σ hD' hd'] at h2
    have ho : owned H τ := by
      obtain ⟨z, hz, hz2⟩ := h3
      rw [q2] at hz
      cases hz
      exact ⟨bk, q1, q3.owned.1 hz2⟩
    have ho' : owned H σ := by
      obtain ⟨z, hz, hz2⟩ := h4
      rw [p2] at hz
      cases hz
      exact ⟨ck, p1, p3.owned.1 hz2⟩
    rw [hg.inj τ σ b o o' hd hd' h1 h2 ho ho']
theorem Trans.canon (ht : Trans g0 H0 w0 g H w) (h0 : ∀ τ, g0.dom τ → D τ ∧ φ τ = τ) (hR : Ren φ D g H g' H') (hS : g'.S = g.S) (hSl : g'.Sl = g.Sl)
    (hpre : ∀ τ', g'.dom τ' → ∃ τ b b', φ τ = τ' ∧ D τ ∧ g.dom τ ∧ H[τ]? = some b ∧ H'[τ']? = some b' ∧ RB φ D b b') : Trans g0 H0 w0 g' H' w where
  dom τ h := by have := hR.dom τ (h0 τ h).1 (ht.dom τ h); rwa [(h0 τ h).2] at this
  ρ τ h := by have := hR.ρ τ (h0 τ h).1 (ht.dom τ h); rw [(h0 τ h).2] at this; exact this.trans (ht.ρ τ h)
  S b h := by rw [hS]; exact ht.S b h
  Sl b h := by rw [hSl]; exact ht.Sl b h
  newS b h := by rw [hS] at h; exact ht.newS b h
  newSl b h := by rw [hSl] at h; exact ht.newSl b h
  size := ht.size
  shape := ht.shape
  env := ht.env
  prot := ht.prot
  own b h := by
    obtain ⟨τ', oo, h1, h2, z, h3, h4⟩ := h
    obtain ⟨τ, bk, bk', rfl, hD, hd, q1, q2, q3⟩ := hpre τ' h1
    rw [h3] at q2
    cases q2
    exact ht.own b ⟨τ, oo, hd, (hR.ρ τ hD hd).symm.trans h2, bk, q1, q3.owned.1 h4⟩
  len τ h m E xs hx hm := by
    have h1 := hR.rows τ (h0 τ h).1 (ht.dom τ h) m E xs (by rw [(h0 τ h).2]; exact hx)
    exact ht.len τ h m E xs h1 hm
  box τ h y hy := by
    obtain ⟨y', h1⟩ := hR.box τ (h0 τ h).1 (ht.dom τ h) y (by rw [(h0 τ h).2]; exact hy)
    exact ht.box τ h y' h1
end good
theorem flagN_ok {κ : Nat → R} {d : R} : ∀ {ks : List (Tmp × Nat)} {n : Nat}, flagN ks n κ d = some r → d = some r ∨ ∃ f, κ f = some r
  | [], n, h => .inl h
  | (t, f) :: ks, n, h => by
    simp only [flagN] at h
    rcases cond_some h with ⟨_, h⟩ | ⟨_, h⟩
    · exact .inr ⟨f, h⟩
    · exact flagN_ok h
def Gh (hp hp' : List Blk) (R : G → World → Prop) (R' : G → World → Prop) : Prop :=
  hp'.length = hp.length ∧ ∀ (g : G) (w : World), Good g hp w → R g w → ∃ g', Trans g hp w g' hp' w ∧ Good g' hp' w ∧ g'.dom = g.dom ∧ R' g' w
theorem keep1_ok {f : Nat} {v : AV} {κ : AV → List Blk → R} (h : keep1K f v hp κ = some r) : ∃ v' hp', κ v' hp' = some r ∧ hp'.length = hp.length ∧ ∀ (g : G) (w : World) (val : Value), Good g hp w → V3 g hp w v val →
    ∃ g', Trans g hp w g' hp' w ∧ Good g' hp' w ∧ g'.dom = g.dom ∧ V3 g' hp' w v' val := by
  unfold keep1K at h
  split at h
  · rename_i τ E c
    obtain ⟨blk, hb, h1⟩ := getK_some h
    have key : ∀ m E' xs, blk = .rows m E' xs → m ≠ .dead → κ (.own τ E (some (0, ilen xs)) c) hp = some r → ∃ v' hp', κ v' hp' = some r ∧ hp'.length = hp.length ∧ ∀ (g : G) (w : World) (val : Value), Good g hp w → V3 g hp w (.own τ E none c) val →
        ∃ g', Trans g hp w g' hp' w ∧ Good g' hp' w ∧ g'.dom = g.dom ∧ V3 g' hp' w v' val := by
      intro m E' xs e hm h
      subst e
      refine ⟨_, _, h, rfl, fun g w val hg hv => ⟨g, Trans.refl g hp w, hg, rfl, ?_⟩⟩
      obtain ⟨hd, hv⟩ := hv
      refine ⟨hd, ?_⟩
      cases hρ : g.ρ τ with
      | none =>
        rw [hρ] at hv
        have := hv.2 m E' xs hb hm
        exact ⟨hv.1, rfl, by rw [ilen_eq]; omega⟩
      | some p =>
        rw [hρ] at hv
        obtain ⟨k, o, l, cap, e, k1, k2, k3, k4, k5, rfl, k7⟩ := hv
        have := k7 m E' xs hb hm
        refine ⟨k, 0, l, cap, e, k1, k2, k3, k4, k5, rfl, by rw [ilen_eq]; omega, fun m' E'' ys hy hm' => ?_⟩
        have := k7 m' E'' ys hy hm'
        omega
    split at h1
    · cases h1
    · rename_i m E' xs hm
      exact key m E' xs rfl (fun e => hm (by rw [e])) h1
    · cases h1
  · obtain ⟨v', hp', h1, _, h2, h3⟩ := pur1_ok h
    refine ⟨v', hp', h1, h2, fun g w val hg hv => ?_⟩
    have hv1 : V1 g hp w v val := by
      cases v <;> first
        | exact hv
        | (simp [pur1K] at h)
    obtain ⟨g', k1, k2, k3, k4⟩ := h3 g w val hg hv1
    exact ⟨g', k1, k2, k3, V3_of_V1 (V1_of_PCell k4.weak)⟩
  · have forget : ∀ {g : G} {w : World} {val : Value} {o cc E xs}, PCell g.S g.Sl w (.lst o cc E xs) val → PCell g.S g.Sl w (.lst o false E xs) val := fun {g w val o cc E xs} hv => by
      simp only [PCell] at hv ⊢
      obtain ⟨A, cap, e, k1, k2, k3⟩ := hv
      exact ⟨A, cap, e, k1, fun e => (by cases e), k3⟩
    have forgetT : ∀ {g : G} {hp : List Blk} {w : World} {val : Value} {o cc E xs}, Good g hp w → PCell g.S g.Sl w (.lst o cc E xs) val → PCell g.S g.Sl w (.lst true false E xs) val := fun {g hp w val o cc E xs} hg hv => by
      simp only [PCell] at hv ⊢
      obtain ⟨A, cap, e, k1, k2, k3⟩ := hv
      refine ⟨A, cap, e, k1, fun e => (by cases e), ?_⟩
      rcases k3 with k3 | ⟨b, off, e1, e2, e3⟩
      · exact .inl k3
      · refine .inr ⟨b, off, e1, ?_, e3⟩
        cases o
        · simpa using hg.sub b (by simpa using e2)
        · simpa using e2
    split at h
    · refine ⟨_, hp, h, rfl, fun g w val hg hv => ⟨g, Trans.refl g hp w, hg, rfl, ?_⟩⟩
      simp only [V3, V2, V1, PCell] at hv ⊢
      obtain ⟨A, e⟩ := hv
      exact ⟨A, 0, e, Nat.le_refl _, fun _ => rfl, .inl trivial⟩
    · rename_i n _ o _ E xs
      cases hn : Nat.ble 100 n <;> rw [hn] at h
      · refine ⟨_, hp, h, rfl, fun g w val hg hv => ⟨g, Trans.refl g hp w, hg, rfl, ?_⟩⟩
        simp only [V3, V2, V1] at hv ⊢
        exact forget hv
      · refine ⟨_, hp, h, rfl, fun g w val hg hv => ⟨g, Trans.refl g hp w, hg, rfl, ?_⟩⟩
        simp only [V3, V2, V1] at hv ⊢
        exact forgetT hg hv
    · obtain ⟨v', hp', h1, _, h2, h3⟩ := pur1_ok h
      split at h1
      · rw [Bool.cond_eq_ite] at h1
        split at h1
        · refine ⟨_, hp', h1, h2, fun g w val hg hv => ?_⟩
          have hv1 : V1 g hp w v val := by
            cases v <;> first
              | exact hv
              | (simp [pur1K] at h)
          obtain ⟨g', k1, k2, k3, k4⟩ := h3 g w val hg hv1
          exact ⟨g', k1, k2, k3, V3_of_V1 (V1_of_PCell (forgetT k2 k4.weak))⟩
        · refine ⟨_, hp', h1, h2, fun g w val hg hv => ?_⟩
          have hv1 : V1 g hp w v val := by
            cases v <;> first
              | exact hv
              | (simp [pur1K] at h)
          obtain ⟨g', k1, k2, k3, k4⟩ := h3 g w val hg hv1
          exact ⟨g', k1, k2, k3, V3_of_V1 (V1_of_PCell (forget k4.weak))⟩
      · refine ⟨_, hp', h1, h2, fun g w val hg hv => ?_⟩
        have hv1 : V1 g hp w v val := by
          cases v <;> first
            | exact hv
            | (simp [pur1K] at h)
        obtain ⟨g', k1, k2, k3, k4⟩ := h3 g w val hg hv1
        exact ⟨g', k1, k2, k3, V3_of_V1 (V1_of_PCell k4.weak)⟩
  · exact ⟨v, hp, h, rfl, fun g w val hg hv => ⟨g, Trans.refl g hp w, hg, rfl, hv⟩⟩
theorem keepTm_ok {ks : List (Tmp × Nat)} : ∀ {l : List AV} {n : Nat} {hp : List Blk} {κ : List AV → List Blk → R}, keepTm ks l n hp κ = some r → ∃ l' hp', κ l' hp' = some r ∧ hp'.length = hp.length ∧
    ∀ (g : G) (w : World) (vs : List Value), Good g hp w → All2 (V3 g hp w) l vs → ∃ g', Trans g hp w g' hp' w ∧ Good g' hp' w ∧ g'.dom = g.dom ∧ All2 (V3 g' hp' w) l' vs
  | [], n, hp, κ, h => ⟨[], hp, h, rfl, fun g w vs hg hv => ⟨g, Trans.refl g hp w, hg, rfl, by cases vs <;> first | trivial | exact hv.elim⟩⟩
  | v :: l, n, hp, κ, h => by
    simp only [keepTm] at h
    rcases flagN_ok h with h | ⟨f, h⟩
    · obtain ⟨l', hp', h1, h2, h3⟩ := keepTm_ok h
      refine ⟨.top :: l', hp', h1, h2, fun g w vs hg hv => ?_⟩
      cases vs with
      | nil => exact hv.elim
      | cons u us =>
        obtain ⟨g', k1, k2, k3, k4⟩ := h3 g w us hg hv.2
        exact ⟨g', k1, k2, k3, trivial, k4⟩
    · obtain ⟨v', hp1, h1, h2, h3⟩ := keep1_ok h
      obtain ⟨l', hp2, h4, h5, h6⟩ := keepTm_ok h1
      refine ⟨v' :: l', hp2, h4, by omega, fun g w vs hg hv => ?_⟩
      cases vs with
      | nil => exact hv.elim
      | cons u us =>
        obtain ⟨g1, k1, k2, k3, k4⟩ := h3 g w u hg hv.1
        obtain ⟨g2, p1, p2, p3, p4⟩ := h6 g1 w us k2 (hv.2.imp fun _ _ h => h.trans k1 hg)
        exact ⟨g2, k1.trans p1, p2, p3.trans k3, k4.trans p1 k2, p4⟩
theorem ren_heap {b0 : Nat} {ids : List Nat} {h0 h1 : List Blk} (hb : b0 ≤ hp.length) (h0l : h0.length = b0) (h1l : h1.length = ids.length)
    (hh0 : ∀ (i : Nat) b b', (hp.take b0)[i]? = some b → h0[i]? = some b' → RB (rnF b0 ids) (rnD b0 ids) b b')
    (hh1 : ∀ (i : Nat) τ, ids[i]? = some τ → ∃ b b', hp[τ]? = some b ∧ h1[i]? = some b' ∧ RB (rnF b0 ids) (rnD b0 ids) b b') (hge : ∀ τ ∈ ids, b0 ≤ τ) (hnd : ids.Nodup)
    {g : G} {w : World} (hg : Good g hp w) (hd : ∀ τ, g.dom τ ↔ τ < hp.length) :
    ∃ g', Ren (rnF b0 ids) (rnD b0 ids) g hp g' (h0 ++ h1) ∧ g'.S = g.S ∧ g'.Sl = g.Sl ∧ (∀ τ, g'.dom τ ↔ τ < (h0 ++ h1).length) ∧
      (∀ τ', g'.dom τ' → ∃ τ b b', rnF b0 ids τ = τ' ∧ rnD b0 ids τ ∧ g.dom τ ∧ hp[τ]? = some b ∧ (h0 ++ h1)[τ']? = some b' ∧ RB (rnF b0 ids) (rnD b0 ids) b b') := by
  have hφ : ∀ i τ, ids[i]? = some τ → rnF b0 ids τ = b0 + i := by
    intro i τ h
    have hm := List.mem_of_getElem? h
    have hi := (List.getElem?_eq_some_iff.1 h).1
    simp only [rnF, if_pos (hge τ hm)]
    congr 1
    have h1 := (List.getElem?_eq_some_iff.1 h).2
    have := hnd.idxOf_getElem i hi
    rw [h1] at this
    exact this
  have hpre : ∀ τ', τ' < (h0 ++ h1).length → ∃ τ b b', rnF b0 ids τ = τ' ∧ rnD b0 ids τ ∧ g.dom τ ∧ hp[τ]? = some b ∧ (h0 ++ h1)[τ']? = some b' ∧ RB (rnF b0 ids) (rnD b0 ids) b b' := by
    intro τ' hτ'
    by_cases hlt : τ' < b0
    · have e1 : hp[τ']? = some (hp[τ']'(by omega)) := List.getElem?_eq_getElem _
      have e2 : h0[τ']? = some (h0[τ']'(by omega)) := List.getElem?_eq_getElem _
      refine ⟨τ', _, _, by simp [rnF]; omega, .inl hlt, (hd τ').2 (by omega), e1, by rw [List.getElem?_append_left (by omega)]; exact e2, hh0 τ' _ _ ?_ e2⟩
      rw [List.getElem?_take_of_lt hlt]; exact e1
    · simp only [List.length_append] at hτ'
      obtain ⟨τ, hτ⟩ : ∃ τ, ids[τ' - b0]? = some τ := ⟨_, List.getElem?_eq_getElem (by omega)⟩
      obtain ⟨b, b', q1, q2, q3⟩ := hh1 _ _ hτ
      refine ⟨τ, b, b', by rw [hφ _ _ hτ]; omega, .inr (List.mem_of_getElem? hτ), (hd τ).2 (List.getElem?_eq_some_iff.1 q1).1, q1, ?_, q3⟩
      rw [List.getElem?_append_right (by omega), h0l]; exact q2
  have hinv : ∀ τ, rnD b0 ids τ → g.dom τ → rnF b0 ids τ < (h0 ++ h1).length ∧ ∃ b b', hp[τ]? = some b ∧ (h0 ++ h1)[rnF b0 ids τ]? = some b' ∧ RB (rnF b0 ids) (rnD b0 ids) b b' := by
    intro τ hD hdt
    have hlt := (hd τ).1 hdt
    by_cases h : τ < b0
    · have e : rnF b0 ids τ = τ := by simp [rnF]; omega
      rw [e]
      have e1 : hp[τ]? = some (hp[τ]'(by omega)) := List.getElem?_eq_getElem _
      have e2 : h0[τ]? = some (h0[τ]'(by omega)) := List.getElem?_eq_getElem _
      refine ⟨by simp; omega, _, _, e1, by rw [List.getElem?_append_left (by omega)]; exact e2, hh0 τ _ _ ?_ e2⟩
      rw [List.getElem?_take_of_lt h]; exact e1
    · have hm := hD.resolve_left h
      obtain ⟨i, hi⟩ := List.mem_iff_getElem?.1 hm
      obtain ⟨b, b', q1, q2, q3⟩ := hh1 _ _ hi
      have hil := (List.getElem?_eq_some_iff.1 hi).1
      rw [hφ _ _ hi]
      refine ⟨by simp; omega, b, b', q1, ?_, q3⟩
      rw [List.getElem?_append_right (by omega), h0l, Nat.add_sub_cancel_left]
      exact q2
  refine ⟨{ dom := fun τ => τ < (h0 ++ h1).length, ρ := fun τ' => if τ' < b0 then g.ρ τ' else g.ρ (ids.getD (τ' - b0) 0), S := g.S, Sl := g.Sl }, ?_, rfl, rfl, fun τ => Iff.rfl, hpre⟩
  refine ⟨fun τ hD hdt => (hinv τ hD hdt).1, fun τ hD hdt => ?_, fun τ hD hdt m E xs hx => ?_, fun τ hD hdt y hy => ?_, fun b h => h, fun b h => h⟩
  · by_cases h : τ < b0
    · have e : rnF b0 ids τ = τ := by simp [rnF]; omega
      simp only [e, h, if_true]
    · have hm := hD.resolve_left h
      obtain ⟨i, hi⟩ := List.mem_iff_getElem?.1 hm
      rw [hφ _ _ hi]
      simp only [if_neg (show ¬ b0 + i < b0 by omega), Nat.add_sub_cancel_left]
      rw [List.getD_eq_getElem?_getD, hi]; rfl
  · obtain ⟨_, b, b', q1, q2, q3⟩ := hinv τ hD hdt
    rw [hx] at q2
    cases q2
    cases b with
    | rows m' E' xs' => have e : Blk.rows m E xs = .rows m' E' xs' := q3; rw [q1, e]
    | box y => obtain ⟨y', e, _⟩ := q3; cases e
  · obtain ⟨_, b, b', q1, q2, q3⟩ := hinv τ hD hdt
    rw [hy] at q2
    cases q2
    cases b with
    | rows m' E' xs' => have e : Blk.box y = .rows m' E' xs' := q3; cases e
    | box y' => exact ⟨y', q1⟩
end
end Go.AM
namespace Go.AM
section
variable {P : Program} {T : TypeId → Option TI} {o : Oper} {tm : List AV} {hp : List Blk} {r : AV × List Blk}
def OkIds (b0 : Nat) (l : List Nat) : Prop := l.Nodup ∧ ∀ τ ∈ l, b0 ≤ τ
theorem memN_eq : ∀ {l : List Nat} {n : Nat}, memN l n = true ↔ n ∈ l
  | [], n => by simp [memN]
  | a :: l, n => by
    simp only [memN, List.mem_cons]
    cases h : Nat.beq a n with
    | true => have := beq_eq h; subst this; simp
    | false =>
      have : ¬ n = a := fun e => by subst e; simp at h
      simp [this, memN_eq]
theorem snocN_eq : ∀ (l : List Nat) (n : Nat), snocN l n = l ++ [n]
  | [], n => rfl
  | a :: l, n => by simp [snocN, snocN_eq l n]
theorem OkIds.nil {b0 : Nat} : OkIds b0 [] := ⟨List.nodup_nil, fun _ h => by cases h⟩
theorem OkIds.put {b0 τ : Nat} {acc : List Nat} (h : OkIds b0 acc) : OkIds b0 (bif Nat.ble b0 τ then bif memN acc τ then acc else snocN acc τ else acc) := by
  cases h1 : Nat.ble b0 τ with
  | false => exact h
  | true =>
    cases h2 : memN acc τ with
    | true => simpa [h1, h2] using h
    | false =>
      simp only [cond_true, cond_false, snocN_eq]
      have hn : τ ∉ acc := fun hm => by rw [memN_eq.2 hm] at h2; cases h2
      refine ⟨?_, fun x hx => ?_⟩
      · rw [List.nodup_append]
        refine ⟨h.1, by simp, fun a ha b hb => ?_⟩
        simp at hb
        subst hb
        exact fun e => hn (e ▸ ha)
      · rcases List.mem_append.1 hx with hx | hx
        · exact h.2 x hx
        · simp at hx; subst hx; exact Nat.le_of_ble_eq_true h1
theorem tok1_okI {b0 : Nat} {acc : List Nat} (h : OkIds b0 acc) (v : AV) : OkIds b0 (tok1 b0 acc v) := by
  cases v <;> first
    | exact h.put
    | exact h
theorem toks_okI {b0 : Nat} : ∀ {acc : List Nat} (_ : OkIds b0 acc) (l : List AV), OkIds b0 (toks b0 acc l)
  | _, h, [] => h
  | _, h, v :: l => toks_okI (tok1_okI h v) l
theorem tok2_okI {b0 : Nat} {acc : List Nat} (h : OkIds b0 acc) (v : AV) : OkIds b0 (tok2 b0 acc v) := by
  unfold tok2
  split <;> first
    | exact toks_okI h _
    | exact tok1_okI h _
theorem toks2_okI {b0 : Nat} : ∀ {acc : List Nat} (_ : OkIds b0 acc) (l : List AV), OkIds b0 (toks2 b0 acc l)
  | _, h, [] => h
  | _, h, v :: l => toks2_okI (tok2_okI h v) l
theorem tok3_okI {b0 : Nat} {acc : List Nat} (h : OkIds b0 acc) (v : AV) : OkIds b0 (tok3 b0 acc v) := by
  unfold tok3
  split <;> first
    | exact toks2_okI (toks2_okI h _) _
    | exact tok2_okI h _
theorem snocNK_eq {κ : List Nat → R} : ∀ {l : List Nat} {n : Nat} {κ : List Nat → R}, snocNK l n κ = κ (snocN l n)
  | [], _, _ => rfl
  | a :: l, n, κ => by simp only [snocNK, snocN]; exact snocNK_eq (κ := κ)
theorem tok1K_eq {b0 : Nat} {acc : List Nat} {v : AV} {κ : List Nat → R} : tok1K b0 acc v κ = κ (tok1 b0 acc v) := by
  have key : ∀ τ, addNK b0 acc τ κ = κ (bif Nat.ble b0 τ then bif memN acc τ then acc else snocN acc τ else acc) := fun τ => by
    unfold addNK
    cases Nat.ble b0 τ <;> cases memN acc τ <;> simp [snocNK_eq (κ := κ)]
  cases v <;> simp only [tok1K, tok1, key]
theorem toksK_eq {b0 : Nat} : ∀ {l : List AV} {acc : List Nat} {κ : List Nat → R}, toksK b0 acc l κ = κ (toks b0 acc l)
  | [], _, _ => rfl
  | v :: l, acc, κ => by simp only [toksK, toks, tok1K_eq]; exact toksK_eq
theorem tok2K_eq {b0 : Nat} {acc : List Nat} {v : AV} {κ : List Nat → R} : tok2K b0 acc v κ = κ (tok2 b0 acc v) := by
  cases v <;> simp only [tok2K, tok2, toksK_eq, tok1K_eq]
theorem toks2K_eq {b0 : Nat} : ∀ {l : List AV} {acc : List Nat} {κ : List Nat → R}, toks2K b0 acc l κ = κ (toks2 b0 acc l)
  | [], _, _ => rfl
  | v :: l, acc, κ => by simp only [toks2K, toks2, tok2K_eq]; exact toks2K_eq
theorem tok3K_eq {b0 : Nat} {acc : List Nat} {v : AV} {κ : List Nat → R} : tok3K b0 acc v κ = κ (tok3 b0 acc v) := by
  cases v <;> simp only [tok3K, tok3, toks2K_eq, tok2K_eq]
theorem toks3K_eq {b0 : Nat} : ∀ {l : List AV} {acc : List Nat} {κ : List Nat → R}, toks3K b0 acc l κ = κ (toks3 b0 acc l)
  | [], _, _ => rfl
  | v :: l, acc, κ => by simp only [toks3K, toks3, tok3K_eq]; exact toks3K_eq
theorem boxTokK_eq {b0 : Nat} {hp : List Blk} {acc : List Nat} {τ : Nat} {κ : List Nat → R} : boxTokK b0 hp acc τ κ = κ (boxTok b0 hp acc τ) := by
  unfold boxTokK boxTok
  dsimp only
  generalize hp[τ]? = x
  cases x with
  | none => rfl
  | some b => cases b <;> simp only [tok2K_eq]
theorem boxToksK_eq {b0 : Nat} {hp : List Blk} : ∀ {l : List Nat} {acc : List Nat} {κ : List Nat → R}, boxToksK b0 hp acc l κ = κ (boxToks b0 hp acc l)
  | [], _, _ => rfl
  | τ :: l, acc, κ => by simp only [boxToksK, boxToks, boxTokK_eq]; exact boxToksK_eq
theorem oldToksK_eq {b0 : Nat} : ∀ {l : List Blk} {acc : List Nat} {κ : List Nat → R}, oldToksK b0 acc l κ = κ (oldToks b0 acc l)
  | [], _, _ => rfl
  | .box v :: l, acc, κ => by simp only [oldToksK, oldToks, tok2K_eq]; exact oldToksK_eq
  | .rows _ _ _ :: l, acc, κ => by simp only [oldToksK, oldToks]; exact oldToksK_eq
theorem toks3_okI {b0 : Nat} : ∀ {acc : List Nat} (_ : OkIds b0 acc) (l : List AV), OkIds b0 (toks3 b0 acc l)
  | _, h, [] => h
  | _, h, v :: l => toks3_okI (tok3_okI h v) l
theorem boxToks_okI {b0 : Nat} {hp : List Blk} : ∀ {acc : List Nat} (_ : OkIds b0 acc) (l : List Nat), OkIds b0 (boxToks b0 hp acc l)
  | _, h, [] => h
  | acc, h, τ :: l => by
    refine boxToks_okI ?_ l
    dsimp only [boxTok]
    split
    · exact tok2_okI h _
    · exact h
theorem oldToks_okI {b0 : Nat} : ∀ {acc : List Nat} (_ : OkIds b0 acc) (l : List Blk), OkIds b0 (oldToks b0 acc l)
  | _, h, [] => h
  | _, h, .box v :: l => oldToks_okI (tok2_okI h v) l
  | _, h, .rows _ _ _ :: l => oldToks_okI h l
theorem canon_ok {b0 : Nat} {ks : List (Tmp × Nat)} {κ : List AV → List Blk → R} (h : canonK b0 ks tm hp κ = some r) : ∃ tm' hp', κ tm' hp' = some r ∧
    ∀ (g0 : G) (H0 : List Blk) (w0 : World) (g : G) (w : World) (vs : List Value), (∀ τ, g0.dom τ → τ < b0) → Trans g0 H0 w0 g hp w → Good g hp w → (∀ τ, g.dom τ ↔ τ < hp.length) → All2 (V3 g hp w) tm vs →
      ∃ g', Trans g0 H0 w0 g' hp' w ∧ Good g' hp' w ∧ (∀ τ, g'.dom τ ↔ τ < hp'.length) ∧ All2 (V3 g' hp' w) tm' vs := by
  unfold canonK at h
  obtain ⟨tm1, hp1, h1, hl1, hk⟩ := keepTm_ok h
  clear h
  obtain ⟨hb, h2⟩ := headB_some h1
  clear h1
  rw [toks3K_eq, oldToksK_eq, boxToksK_eq] at h2
  have hok : OkIds b0 (boxToks b0 hp1 (oldToks b0 (toks3 b0 [] tm1) (hp1.take b0)) (oldToks b0 (toks3 b0 [] tm1) (hp1.take b0))) := boxToks_okI (oldToks_okI (toks3_okI OkIds.nil _) _) _
  revert h2 hok
  generalize boxToks b0 hp1 (oldToks b0 (toks3 b0 [] tm1) (hp1.take b0)) (oldToks b0 (toks3 b0 [] tm1) (hp1.take b0)) = ids
  intro h2 hok
  obtain ⟨tm2, h3, hrv⟩ := rens3_ok h2
  obtain ⟨h0, h4, h0l, hr0⟩ := rensB_ok h3
  obtain ⟨h1', h5, h1l, hr1⟩ := pickB_ok h4
  rw [apndB_eq] at h5
  refine ⟨tm2, h0 ++ h1', h5, fun g0 H0 w0 g w vs hg0 ht hg hd hv => ?_⟩
  obtain ⟨g1, k1, k2, k3, k4⟩ := hk g w vs hg hv
  have hd1 : ∀ τ, g1.dom τ ↔ τ < hp1.length := fun τ => by rw [k3, hd, hl1]
  obtain ⟨g2, q1, q2, q3, q4, q5⟩ := ren_heap hb (by rw [h0l]; simp; omega) h1l hr0 hr1 hok.2 hok.1 k2 hd1
  refine ⟨g2, Trans.canon (ht.trans k1) (fun τ h => ⟨.inl (hg0 τ h), ?_⟩) q1 q2 q3 q5, Good.ren k2 q1 q2 q3 q5, q4, RVs.all2 q1 hrv k4⟩
  have := hg0 τ h
  simp [rnF]
  omega
section bak
variable {φ : Nat → Nat} {ids : List Nat} {N : Nat}
theorem bak1_ok (hφ : ∀ (i : Nat) τ, ids[i]? = some τ → φ i = τ) {v : AV} {κ : AV → R} (h : bak1K ids v κ = some r) : κ (rn1 φ v) = some r ∧ tk1 (· < ids.length) v := by
  cases v <;> simp only [bak1K] at h <;> try (cases h; done)
  case own τ E rr c =>
    obtain ⟨σ, h1, h2⟩ := getK_some h
    simp only [rn1, hφ _ _ h1]
    exact ⟨h2, (List.getElem?_eq_some_iff.1 h1).1⟩
  case ptr τ i o E =>
    obtain ⟨σ, h1, h2⟩ := getK_some h
    simp only [rn1, hφ _ _ h1]
    exact ⟨h2, (List.getElem?_eq_some_iff.1 h1).1⟩
  all_goals exact ⟨h, trivial⟩
theorem baks_ok (hφ : ∀ (i : Nat) τ, ids[i]? = some τ → φ i = τ) : ∀ {l : List AV} {κ : List AV → R}, baksK ids l κ = some r → κ (l.map (rn1 φ)) = some r ∧ ∀ x ∈ l, tk1 (· < ids.length) x
  | [], κ, h => ⟨h, fun x hx => by cases hx⟩
  | v :: l, κ, h => by
    simp only [baksK] at h
    obtain ⟨h1, h2⟩ := bak1_ok hφ h
    obtain ⟨h3, h4⟩ := baks_ok hφ h1
    refine ⟨h3, fun x hx => ?_⟩
    cases hx with
    | head => exact h2
    | tail _ hx => exact h4 x hx
def bk2 (φ : Nat → Nat) : AV → AV
  | .agg cs => .agg (cs.map (rn1 φ))
  | v => rn1 φ v
def tk2 (D : Nat → Prop) : AV → Prop
  | .agg cs => ∀ x ∈ cs, tk1 D x
  | v => tk1 D v
theorem bak2_ok (hφ : ∀ (i : Nat) τ, ids[i]? = some τ → φ i = τ) {v : AV} {κ : AV → R} (h : bak2K ids v κ = some r) : κ (bk2 φ v) = some r ∧ tk2 (· < ids.length) v := by
  unfold bak2K at h
  split at h
  · obtain ⟨h1, h2⟩ := baks_ok hφ h
    exact ⟨h1, h2⟩
  · rename_i hne
    obtain ⟨h1, h2⟩ := bak1_ok hφ h
    cases v <;> first
      | exact ⟨h1, h2⟩
      | exact absurd rfl (hne _)
theorem baks2_ok (hφ : ∀ (i : Nat) τ, ids[i]? = some τ → φ i = τ) : ∀ {l : List AV} {κ : List AV → R}, baks2K ids l κ = some r → κ (l.map (bk2 φ)) = some r ∧ ∀ x ∈ l, tk2 (· < ids.length) x
  | [], κ, h => ⟨h, fun x hx => by cases hx⟩
  | v :: l, κ, h => by
    simp only [baks2K] at h
    obtain ⟨h1, h2⟩ := bak2_ok hφ h
    obtain ⟨h3, h4⟩ := baks2_ok hφ h1
    refine ⟨h3, fun x hx => ?_⟩
    cases hx with
    | head => exact h2
    | tail _ hx => exact h4 x hx
def bk3 (φ : Nat → Nat) : AV → AV
  | .tup vs => .tup (vs.map (bk2 φ))
  | v => bk2 φ v
def tk3 (D : Nat → Prop) : AV → Prop
  | .tup vs => ∀ x ∈ vs, tk2 D x
  | v => tk2 D v
theorem bak3_ok (hφ : ∀ (i : Nat) τ, ids[i]? = some τ → φ i = τ) {v : AV} {κ : AV → R} (h : bak3K ids v κ = some r) : κ (bk3 φ v) = some r ∧ tk3 (· < ids.length) v := by
  unfold bak3K at h
  split at h
  · obtain ⟨h1, h2⟩ := baks2_ok hφ h
    exact ⟨h1, h2⟩
  · rename_i hne
    obtain ⟨h1, h2⟩ := bak2_ok hφ h
    cases v <;> first
      | exact ⟨h1, h2⟩
      | exact absurd rfl (hne _)
theorem RV.two {D : Nat → Prop} {x : AV} (h : tk2 D x) : RV φ D x (bk2 φ x) := by
  cases x <;> first
    | exact RV.agg h
    | exact RV.one h
theorem bakB_ok (hφ : ∀ (i : Nat) τ, ids[i]? = some τ → φ i = τ) {b : Blk} {κ : Blk → R} (h : bakB ids b κ = some r) : ∃ b', κ b' = some r ∧ RB φ (· < ids.length) b b' := by
  unfold bakB at h
  split at h
  · obtain ⟨h1, h2⟩ := bak2_ok hφ h
    exact ⟨_, h1, _, rfl, RV.two h2⟩
  · exact ⟨_, h, rfl⟩
theorem tk1_mono {D D' : Nat → Prop} (h : ∀ τ, D τ → D' τ) {x : AV} (hx : tk1 D x) : tk1 D' x := by
  cases x <;> first
    | exact h _ hx
    | exact hx
theorem ad1_rn {D : Nat → Prop} {M : Nat} {hk h0 : List Blk} (hφ : φ hk.length = h0.length) {x : AV} (hx : tk1 (· < M) x) (hM : ∀ τ, τ < M → D τ) (hN : ∀ τ, hk.length ≤ τ → τ < (ad1 hk x).2.length → D τ) :
    (ad1 h0 (rn1 φ x)).1 = rn1 φ (ad1 hk x).1 ∧ tk1 D (ad1 hk x).1 ∧ ∃ bl, (ad1 hk x).2 = hk ++ bl ∧ (ad1 h0 (rn1 φ x)).2 = h0 ++ bl := by
  cases x with
  | frs E xs =>
    simp only [ad1, rn1, List.length_append, List.length_singleton] at hN ⊢
    exact ⟨by rw [hφ], hN _ (Nat.le_refl _) (by omega), _, rfl, rfl⟩
  | fn _ _ _ => exact hx.elim
  | tup _ => exact hx.elim
  | agg _ => exact hx.elim
  | _ => exact ⟨rfl, tk1_mono hM hx, [], by simp [ad1], by simp [ad1, rn1]⟩
variable {n m : Nat}
def Tail (φ : Nat → Nat) (n m : Nat) : Prop := ∀ i, m ≤ i → φ i = n + (i - m)
theorem ads_rn {D : Nat → Prop} (ht : Tail φ n m) {M : Nat} (hM : ∀ τ, τ < M → D τ) : ∀ {l : List AV} {hk h0 : List Blk}, m ≤ hk.length → h0.length = n + (hk.length - m) → (∀ x ∈ l, tk1 (· < M) x) → (∀ τ, m ≤ τ → τ < (ads hk l).2.length → D τ) →
    (ads h0 (l.map (rn1 φ))).1 = (ads hk l).1.map (rn1 φ) ∧ (∀ x ∈ (ads hk l).1, tk1 D x) ∧ ∃ bl, (ads hk l).2 = hk ++ bl ∧ (ads h0 (l.map (rn1 φ))).2 = h0 ++ bl
  | [], hk, h0, _, _, _, _ => ⟨rfl, fun x hx => by simp [ads] at hx, [], by simp [ads], by simp [ads]⟩
  | x :: l, hk, h0, hm, hl, hx, hN => by
    have hN1 : ∀ τ, hk.length ≤ τ → τ < (ad1 hk x).2.length → D τ := fun τ h1 h2 => hN τ (by omega) (Nat.lt_of_lt_of_le h2 (ads_pre (ad1 hk x).2 l).length_le)
    obtain ⟨k1, k2, bl, k3, k4⟩ := ad1_rn (φ := φ) (h0 := h0) (by rw [ht _ hm, hl]) (hx x (by simp)) hM hN1
    have hlen : (ad1 h0 (rn1 φ x)).2.length = n + ((ad1 hk x).2.length - m) := by rw [k3, k4]; simp; omega
    obtain ⟨p1, p2, bl', p3, p4⟩ := ads_rn ht hM (l := l) (hk := (ad1 hk x).2) (h0 := (ad1 h0 (rn1 φ x)).2) (by rw [k3]; simp; omega) hlen (fun y hy => hx y (by simp [hy])) hN
    refine ⟨by simp only [ads, List.map_cons, k1, p1], fun y hy => ?_, bl ++ bl', ?_, ?_⟩
    · simp only [ads, List.mem_cons] at hy
      rcases hy with rfl | hy
      · exact k2
      · exact p2 y hy
    · simp only [ads, p3]; rw [k3]; simp
    · simp only [ads, List.map_cons, p4]; rw [k4]; simp
theorem ad2_rn {D : Nat → Prop} (ht : Tail φ n m) {M : Nat} (hM : ∀ τ, τ < M → D τ) {x : AV} {hk h0 : List Blk} (hm : m ≤ hk.length) (hl : h0.length = n + (hk.length - m)) (hx : tk2 (· < M) x) (hN : ∀ τ, m ≤ τ → τ < (ad2 hk x).2.length → D τ) :
    (ad2 h0 (bk2 φ x)).1 = bk2 φ (ad2 hk x).1 ∧ tk2 D (ad2 hk x).1 ∧ ∃ bl, (ad2 hk x).2 = hk ++ bl ∧ (ad2 h0 (bk2 φ x)).2 = h0 ++ bl := by
  have one : tk1 (· < M) x → (ad2 hk x) = ad1 hk x → (ad2 h0 (bk2 φ x)) = ad1 h0 (rn1 φ x) → bk2 φ (ad1 hk x).1 = rn1 φ (ad1 hk x).1 → (tk1 D (ad1 hk x).1 → tk2 D (ad1 hk x).1) →
      (ad2 h0 (bk2 φ x)).1 = bk2 φ (ad2 hk x).1 ∧ tk2 D (ad2 hk x).1 ∧ ∃ bl, (ad2 hk x).2 = hk ++ bl ∧ (ad2 h0 (bk2 φ x)).2 = h0 ++ bl := by
    intro h1 h2 h3 h4 h5
    rw [h2] at hN
    obtain ⟨k1, k2, k3⟩ := ad1_rn (φ := φ) (h0 := h0) (by rw [ht _ hm, hl]) h1 hM (fun τ h1 h2 => hN τ (by omega) h2)
    rw [h2, h3, h4]
    exact ⟨k1, h5 k2, k3⟩
  cases x with
  | agg cs =>
    obtain ⟨k1, k2, k3⟩ := ads_rn ht hM hm hl hx hN
    exact ⟨by simp only [ad2, bk2, k1], k2, k3⟩
  | fn _ _ _ => exact hx.elim
  | tup _ => exact hx.elim
  | _ => exact one hx rfl rfl rfl id
theorem ads2_rn {D : Nat → Prop} (ht : Tail φ n m) {M : Nat} (hM : ∀ τ, τ < M → D τ) : ∀ {l : List AV} {hk h0 : List Blk}, m ≤ hk.length → h0.length = n + (hk.length - m) → (∀ x ∈ l, tk2 (· < M) x) → (∀ τ, m ≤ τ → τ < (ads2 hk l).2.length → D τ) →
    (ads2 h0 (l.map (bk2 φ))).1 = (ads2 hk l).1.map (bk2 φ) ∧ (∀ x ∈ (ads2 hk l).1, tk2 D x) ∧ ∃ bl, (ads2 hk l).2 = hk ++ bl ∧ (ads2 h0 (l.map (bk2 φ))).2 = h0 ++ bl
  | [], hk, h0, _, _, _, _ => ⟨rfl, fun x hx => by simp [ads2] at hx, [], by simp [ads2], by simp [ads2]⟩
  | x :: l, hk, h0, hm, hl, hx, hN => by
    have hN1 : ∀ τ, m ≤ τ → τ < (ad2 hk x).2.length → D τ := fun τ h1 h2 => hN τ h1 (Nat.lt_of_lt_of_le h2 (ads2_pre (ad2 hk x).2 l).length_le)
    obtain ⟨k1, k2, bl, k3, k4⟩ := ad2_rn ht hM hm hl (hx x (by simp)) hN1
    have hlen : (ad2 h0 (bk2 φ x)).2.length = n + ((ad2 hk x).2.length - m) := by rw [k3, k4]; simp; omega
    obtain ⟨p1, p2, bl', p3, p4⟩ := ads2_rn ht hM (l := l) (hk := (ad2 hk x).2) (h0 := (ad2 h0 (bk2 φ x)).2) (by rw [k3]; simp; omega) hlen (fun y hy => hx y (by simp [hy])) hN
    refine ⟨by simp only [ads2, List.map_cons, k1, p1], fun y hy => ?_, bl ++ bl', ?_, ?_⟩
    · simp only [ads2, List.mem_cons] at hy
      rcases hy with rfl | hy
      · exact k2
      · exact p2 y hy
    · simp only [ads2, p3]; rw [k3]; simp
    · simp only [ads2, List.map_cons, p4]; rw [k4]; simp
theorem ad3_rn {D : Nat → Prop} (ht : Tail φ n m) {M : Nat} (hM : ∀ τ, τ < M → D τ) {x : AV} {hk h0 : List Blk} (hm : m ≤ hk.length) (hl : h0.length = n + (hk.length - m)) (hx : tk3 (· < M) x) (hN : ∀ τ, m ≤ τ → τ < (ad3 hk x).2.length → D τ) :
    RV φ D (ad3 hk x).1 (ad3 h0 (bk3 φ x)).1 ∧ ∃ bl, (ad3 hk x).2 = hk ++ bl ∧ (ad3 h0 (bk3 φ x)).2 = h0 ++ bl := by
  have two : tk2 (· < M) x → ad3 hk x = ad2 hk x → ad3 h0 (bk3 φ x) = ad2 h0 (bk2 φ x) → RV φ D (ad3 hk x).1 (ad3 h0 (bk3 φ x)).1 ∧ ∃ bl, (ad3 hk x).2 = hk ++ bl ∧ (ad3 h0 (bk3 φ x)).2 = h0 ++ bl := by
    intro h1 h2 h3
    rw [h2] at hN
    obtain ⟨k1, k2, k3⟩ := ad2_rn ht hM hm hl h1 hN
    rw [h2, h3, k1]
    exact ⟨RV.two k2, k3⟩
  cases x with
  | tup vs =>
    obtain ⟨k1, k2, k3⟩ := ads2_rn ht hM hm hl hx hN
    refine ⟨?_, k3⟩
    simp only [ad3, bk3, k1]
    refine RV.tup ⟨by simp, fun i y y' hy hy' => ?_⟩
    rw [List.getElem?_map, hy] at hy'
    cases hy'
    exact RV.two (k2 y (List.mem_of_getElem? hy))
  | fn _ _ _ => exact hx.elim
  | _ => exact two hx rfl rfl
end bak
end
end Go.AM
namespace Go.AM
section
variable {P : Program} {T : TypeId → Option TI} {o : Oper} {tm : List AV} {hp : List Blk} {κ : AV → List Blk → R} {r : AV × List Blk}
theorem moreN_ok {κ : List Nat → R} : ∀ {ids : List Nat} {bs : List Blk} {n : Nat}, moreN ids bs n κ = some r → ids.length ≤ bs.length ∧ κ (ids ++ List.range' n (bs.length - ids.length)) = some r
  | [], [], n, h => ⟨Nat.le_refl _, by simpa [moreN] using h⟩
  | [], b :: bs, n, h => by
    simp only [moreN, natK_eq] at h
    obtain ⟨_, h2⟩ := moreN_ok (ids := []) h
    refine ⟨by simp, ?_⟩
    simpa [List.range'_succ] using h2
  | _ :: _, [], n, h => by simp [moreN] at h
  | τ :: l, b :: bs, n, h => by
    simp only [moreN] at h
    obtain ⟨h1, h2⟩ := moreN_ok h
    exact ⟨by simp; omega, by simpa using h2⟩
section lay
variable {φ : Nat → Nat} {ids' : List Nat}
theorem layB_ok (hφ : ∀ (i : Nat) τ, ids'[i]? = some τ → φ i = τ) {κ : List Blk → R} : ∀ {l : List Nat} {bs : List Blk} {hp : List Blk}, layB ids' l bs hp κ = some r → l.Nodup → (∀ τ ∈ l, τ < hp.length) →
    ∃ hp2, κ hp2 = some r ∧ hp2.length = hp.length + (bs.length - l.length) ∧ l.length ≤ bs.length ∧ (∀ τ, τ < hp.length → τ ∉ l → hp2[τ]? = hp[τ]?) ∧
      (∀ (i : Nat) τ, l[i]? = some τ → ∃ b b', bs[i]? = some b ∧ hp2[τ]? = some b' ∧ RB φ (· < ids'.length) b b') ∧
      (∀ (i : Nat) b, l.length ≤ i → bs[i]? = some b → ∃ b', hp2[hp.length + (i - l.length)]? = some b' ∧ RB φ (· < ids'.length) b b')
  | [], [], hp, h, _, _ => by
    refine ⟨hp, h, by simp, Nat.le_refl _, fun _ _ _ => rfl, fun i τ hτ => by simp at hτ, fun i b _ hb => by simp at hb⟩
  | [], b :: bs, hp, h, _, _ => by
    simp only [layB] at h
    obtain ⟨b', h1, h2⟩ := bakB_ok hφ h
    rw [snocK_eq] at h1
    obtain ⟨hp2, k1, k2, k3, k4, k5, k6⟩ := layB_ok hφ (l := []) h1 List.nodup_nil (fun τ h => by cases h)
    have h0 : hp2[hp.length]? = some b' := by rw [k4 hp.length (by simp) (by simp)]; simp
    refine ⟨hp2, k1, by rw [k2]; simp; omega, by simp, fun τ hτ _ => ?_, fun i τ hτ => by simp at hτ, fun i c hi hc => ?_⟩
    · rw [k4 τ (by simp; omega) (by simp), List.getElem?_append_left hτ]
    · cases i with
      | zero => simp at hc; subst hc; exact ⟨b', by simpa using h0, h2⟩
      | succ i =>
        obtain ⟨c', q1, q2⟩ := k6 i c (by simp) (by simpa using hc)
        refine ⟨c', ?_, q2⟩
        rw [← q1]
        congr 1
        simp
        omega
  | _ :: _, [], hp, h, _, _ => by simp [layB] at h
  | τ :: l, b :: bs, hp, h, hn, hl => by
    simp only [layB] at h
    obtain ⟨b', h1, h2⟩ := bakB_ok hφ h
    rw [setK_eq] at h1
    rw [List.nodup_cons] at hn
    obtain ⟨hp2, k1, k2, k3, k4, k5, k6⟩ := layB_ok hφ h1 hn.2 (fun σ hσ => by simp; exact hl σ (by simp [hσ]))
    have h0 : hp2[τ]? = some b' := by
      have := hl τ (by simp)
      rw [k4 τ (by simpa using this) hn.1]
      simp [this]
    refine ⟨hp2, k1, by rw [k2]; simp, by simp; omega, fun σ hσ hσn => ?_, fun i σ hσ => ?_, fun i c hi hc => ?_⟩
    · simp only [List.mem_cons, not_or] at hσn
      rw [k4 σ (by simpa using hσ) hσn.2, get_set_ne hσn.1]
    · cases i with
      | zero => simp at hσ; subst hσ; exact ⟨b, b', rfl, h0, h2⟩
      | succ i => simpa using k5 i σ (by simpa using hσ)
    · cases i with
      | zero => simp at hi
      | succ i =>
        obtain ⟨c', q1, q2⟩ := k6 i c (by simpa using hi) (by simpa using hc)
        refine ⟨c', ?_, q2⟩
        rw [← q1]
        congr 1
        simp
end lay
theorem Ren.mono {φ : Nat → Nat} {D D' : Nat → Prop} {g1 g2 : G} {H1 H2 : List Blk} (h : ∀ τ, D τ → D' τ) (hR : Ren φ D' g1 H1 g2 H2) : Ren φ D g1 H1 g2 H2 where
  dom τ hd := hR.dom τ (h τ hd)
  ρ τ hd := hR.ρ τ (h τ hd)
  rows τ hd := hR.rows τ (h τ hd)
  box τ hd := hR.box τ (h τ hd)
  S := hR.S
  Sl := hR.Sl
theorem RV.mono {φ : Nat → Nat} {D D' : Nat → Prop} (h : ∀ τ, D τ → D' τ) {x x' : AV} (hv : RV φ D x x') : RV φ D' x x' := fun g1 g2 H1 H2 w hR => hv g1 g2 H1 H2 w (hR.mono h)
theorem RB.mono {φ : Nat → Nat} {D D' : Nat → Prop} (h : ∀ τ, D τ → D' τ) {b b' : Blk} (hv : RB φ D b b') : RB φ D' b b' := by
  cases b with
  | rows m E xs => exact hv
  | box y => obtain ⟨y', e, hv⟩ := hv; exact ⟨y', e, hv.mono h⟩
section merge
variable {g gc g1 : G} {hp hs hpc hp3 : List Blk} {w w' : World} {ids : List Nat}
def tailF (ids : List Nat) (n : Nat) (i : Nat) : Nat := if i < ids.length then ids.getD i 0 else n + (i - ids.length)
theorem merge (hg : Good g hp w) (hd : ∀ τ, g.dom τ ↔ τ < hp.length) (hnd : ids.Nodup) (hlt : ∀ τ ∈ ids, τ < hp.length)
    (hcd : ∀ i, gc.dom i ↔ i < ids.length) (hcρ : ∀ (i : Nat) τ, ids[i]? = some τ → gc.ρ i = g.ρ τ) (hcS : gc.S = g.S) (hcSl : gc.Sl = g.Sl)
    (hcb : ∀ (i : Nat) τ, ids[i]? = some τ → ∃ b b', hp[τ]? = some b ∧ hs[i]? = some b' ∧ RB (rnF 0 ids) (rnD 0 ids) b b')
    (ht : Trans gc hs w g1 hpc w') (hg1 : Good g1 hpc w') (hd1 : ∀ i, g1.dom i ↔ i < hpc.length) (hle : ids.length ≤ hpc.length)
    (h3l : hp3.length = hp.length + (hpc.length - ids.length)) (h3o : ∀ τ, τ < hp.length → τ ∉ ids → hp3[τ]? = hp[τ]?)
    (h3 : ∀ (i : Nat) b, hpc[i]? = some b → ∃ b', hp3[tailF ids hp.length i]? = some b' ∧ RB (tailF ids hp.length) (· < hpc.length) b b') :
    ∃ g2, Trans g hp w g2 hp3 w' ∧ Good g2 hp3 w' ∧ (∀ τ, g2.dom τ ↔ τ < hp3.length) ∧ Ren (tailF ids hp.length) (· < hpc.length) g1 hpc g2 hp3 := by
  have hφ1 : ∀ (i : Nat) τ, ids[i]? = some τ → tailF ids hp.length i = τ := fun i τ h => by
    have := (List.getElem?_eq_some_iff.1 h).1
    simp only [tailF, if_pos this, List.getD_eq_getElem?_getD, h, Option.getD_some]
  have hφlt : ∀ i : Nat, i < hpc.length → tailF ids hp.length i < hp3.length := fun i hi => by
    by_cases h : i < ids.length
    · obtain ⟨τ, hτ⟩ : ∃ τ, ids[i]? = some τ := ⟨_, List.getElem?_eq_getElem h⟩
      rw [hφ1 i τ hτ, h3l]
      have := hlt τ (List.mem_of_getElem? hτ)
      omega
    · simp only [tailF, if_neg h]; omega
  have hφinj : ∀ i j : Nat, i < hpc.length → j < hpc.length → tailF ids hp.length i = tailF ids hp.length j → i = j := by
    intro i j hi hj he
    by_cases h : i < ids.length
    · obtain ⟨τ, hτ⟩ : ∃ τ, ids[i]? = some τ := ⟨_, List.getElem?_eq_getElem h⟩
      have h1 := hlt τ (List.mem_of_getElem? hτ)
      by_cases h' : j < ids.length
      · obtain ⟨σ, hσ⟩ : ∃ σ, ids[j]? = some σ := ⟨_, List.getElem?_eq_getElem h'⟩
        rw [hφ1 i τ hτ, hφ1 j σ hσ] at he
        subst he
        exact (List.getElem?_inj h hnd).1 (hτ.trans hσ.symm)
      · rw [hφ1 i τ hτ] at he; simp only [tailF, if_neg h'] at he; omega
    · by_cases h' : j < ids.length
      · obtain ⟨σ, hσ⟩ : ∃ σ, ids[j]? = some σ := ⟨_, List.getElem?_eq_getElem h'⟩
        have h1 := hlt σ (List.mem_of_getElem? hσ)
        rw [hφ1 j σ hσ] at he; simp only [tailF, if_neg h] at he; omega
      · simp only [tailF, if_neg h, if_neg h'] at he; omega
  have hcase : ∀ τ, τ < hp3.length → (∃ i, i < hpc.length ∧ tailF ids hp.length i = τ) ∨ (τ < hp.length ∧ τ ∉ ids ∧ ∀ i, i < hpc.length → tailF ids hp.length i ≠ τ) := by
    intro τ hτ
    by_cases h : τ < hp.length
    · by_cases hm : τ ∈ ids
      · obtain ⟨i, hi⟩ := List.mem_iff_getElem?.1 hm
        exact .inl ⟨i, by have := (List.getElem?_eq_some_iff.1 hi).1; omega, hφ1 i τ hi⟩
      · refine .inr ⟨h, hm, fun i hi e => ?_⟩
        by_cases hil : i < ids.length
        · obtain ⟨σ, hσ⟩ : ∃ σ, ids[i]? = some σ := ⟨_, List.getElem?_eq_getElem hil⟩
          rw [hφ1 i σ hσ] at e
          subst e
          exact hm (List.mem_of_getElem? hσ)
        · simp only [tailF, if_neg hil] at e; omega
    · left
      refine ⟨ids.length + (τ - hp.length), by omega, ?_⟩
      simp only [tailF, if_neg (show ¬ ids.length + (τ - hp.length) < ids.length by omega)]
      omega
  have hownc : ∀ b, Own gc hs b → Own g hp b ∧ ∃ (i : Nat) (τ : Nat) (o : Nat), ids[i]? = some τ ∧ g.ρ τ = some (b, o) ∧ owned hp τ := by
    rintro b ⟨i, o, h1, h2, z, h4, h5⟩
    obtain ⟨τ, hτ⟩ : ∃ τ, ids[i]? = some τ := ⟨_, List.getElem?_eq_getElem ((hcd i).1 h1)⟩
    obtain ⟨bk, bk', q1, q2, q3⟩ := hcb i τ hτ
    rw [h4] at q2
    cases q2
    rw [hcρ i τ hτ] at h2
    have ho : owned hp τ := ⟨bk, q1, q3.owned.1 h5⟩
    exact ⟨⟨τ, o, (hd τ).2 (hlt τ (List.mem_of_getElem? hτ)), h2, ho⟩, i, τ, o, hτ, h2, ho⟩
  have hex : ∀ τ, ∃ v : Option (Nat × Nat), (∀ i, i < hpc.length → tailF ids hp.length i = τ → v = g1.ρ i) ∧ ((∀ i, i < hpc.length → tailF ids hp.length i ≠ τ) → v = g.ρ τ) := by
    intro τ
    by_cases h : ∃ i, i < hpc.length ∧ tailF ids hp.length i = τ
    · obtain ⟨i, hi, e⟩ := h
      exact ⟨g1.ρ i, fun j hj e' => by rw [hφinj j i hj hi (e'.trans e.symm)], fun hn => absurd e (hn i hi)⟩
    · exact ⟨g.ρ τ, fun i hi e => absurd ⟨i, hi, e⟩ h, fun _ => rfl⟩
  obtain ⟨ρ2, hρ0⟩ := Classical.skolem.1 hex
  let g2 : G := { dom := fun τ => τ < hp3.length, ρ := ρ2, S := g1.S, Sl := g1.Sl }
  have hρ1 : ∀ i, i < hpc.length → g2.ρ (tailF ids hp.length i) = g1.ρ i := fun i hi => (hρ0 _).1 i hi rfl
  have hρ2 : ∀ τ, (∀ i, i < hpc.length → tailF ids hp.length i ≠ τ) → g2.ρ τ = g.ρ τ := fun τ h => (hρ0 τ).2 h
  have hR : Ren (tailF ids hp.length) (· < hpc.length) g1 hpc g2 hp3 := by
    refine ⟨fun i hi _ => hφlt i hi, fun i hi _ => hρ1 i hi, fun i hi _ m E xs hx => ?_, fun i hi _ y hy => ?_, fun b h => h, fun b h => h⟩
    · obtain ⟨b', q1, q2⟩ := h3 i _ (List.getElem?_eq_getElem hi)
      rw [hx] at q1
      cases q1
      cases hb : hpc[i] with
      | rows m' E' xs' => rw [hb] at q2; have e : Blk.rows m E xs = .rows m' E' xs' := q2; rw [List.getElem?_eq_getElem hi, hb, e]
      | box y => rw [hb] at q2; obtain ⟨y', e, _⟩ := q2; cases e
    · obtain ⟨b', q1, q2⟩ := h3 i _ (List.getElem?_eq_getElem hi)
      rw [hy] at q1
      cases q1
      cases hb : hpc[i] with
      | rows m' E' xs' => rw [hb] at q2; have e : Blk.box y = .rows m' E' xs' := q2; cases e
      | box y' => exact ⟨y', by rw [List.getElem?_eq_getElem hi, hb]⟩
  have hold : ∀ τ, g.dom τ → (∃ i : Nat, ids[i]? = some τ) ∨ (τ ∉ ids ∧ ∀ i, i < hpc.length → tailF ids hp.length i ≠ τ) := by
    intro τ h
    have hl := (hd τ).1 h
    by_cases hm : τ ∈ ids
    · exact .inl (List.mem_iff_getElem?.1 hm)
    · rcases hcase τ (by omega) with ⟨i, hi, e⟩ | ⟨_, h1, h2⟩
      · by_cases hil : i < ids.length
        · obtain ⟨σ, hσ⟩ : ∃ σ, ids[i]? = some σ := ⟨_, List.getElem?_eq_getElem hil⟩
          rw [hφ1 i σ hσ] at e
          subst e
          exact absurd (List.mem_of_getElem? hσ) hm
        · simp only [tailF, if_neg hil] at e; omega
      · exact .inr ⟨h1, h2⟩
  have hownr : ∀ i b o, i < hpc.length → g2.ρ (tailF ids hp.length i) = some (b, o) → owned hp3 (tailF ids hp.length i) → g1.ρ i = some (b, o) ∧ owned hpc i := by
    intro i b o hi h1 h2
    rw [hρ1 i hi] at h1
    obtain ⟨b', q1, q2⟩ := h3 i _ (List.getElem?_eq_getElem hi)
    obtain ⟨z, h4, h5⟩ := h2
    rw [h4] at q1
    cases q1
    exact ⟨h1, _, List.getElem?_eq_getElem hi, q2.owned.1 h5⟩
  have hT : Trans g hp w g2 hp3 w' := {
    dom := fun τ h => by have := (hd τ).1 h; show τ < hp3.length; omega
    ρ := fun τ h => by
      rcases hold τ h with ⟨i, hi⟩ | ⟨_, h2⟩
      · have hil := (List.getElem?_eq_some_iff.1 hi).1
        have := hρ1 i (by omega)
        rw [hφ1 i τ hi] at this
        rw [this, ht.ρ i ((hcd i).2 hil), hcρ i τ hi]
      · exact hρ2 τ h2
    S := fun b h => ht.S b (by rw [hcS]; exact h)
    Sl := fun b h => ht.Sl b (by rw [hcSl]; exact h)
    newS := fun b h => by
      rcases ht.newS b h with h1 | h1 | h1
      · rw [hcS] at h1; exact .inl h1
      · exact .inr (.inl h1)
      · exact .inr (.inr (hownc b h1).1)
    newSl := fun b h => by
      rcases ht.newSl b h with h1 | h1 | h1
      · rw [hcSl] at h1; exact .inl h1
      · exact .inr (.inl h1)
      · exact .inr (.inr (hownc b h1).1)
    size := ht.size
    shape := ht.shape
    env := ht.env
    prot := fun b hb hn => ht.prot b hb fun h => hn (hownc b h).1
    own := fun b h => by
      obtain ⟨τ, oo, h1, h2, h4⟩ := h
      rcases hcase τ h1 with ⟨i, hi, rfl⟩ | ⟨hlt', hm, hne⟩
      · obtain ⟨k1, k2⟩ := hownr i b oo hi h2 h4
        rcases ht.own b ⟨i, oo, (hd1 i).2 hi, k1, k2⟩ with h5 | h5
        · exact .inl h5
        · exact .inr (hownc b h5).1
      · rw [hρ2 τ hne] at h2
        obtain ⟨z, h5, h6⟩ := h4
        rw [h3o τ hlt' hm] at h5
        exact .inr ⟨τ, oo, (hd τ).2 hlt', h2, z, h5, h6⟩
    len := fun τ h m E xs hx hm => by
      rcases hold τ h with ⟨i, hi⟩ | ⟨hn, h2⟩
      · have hil := (List.getElem?_eq_some_iff.1 hi).1
        have hx' := hR.rows i (show i < hpc.length by omega) ((hd1 i).2 (by omega)) m E xs (by rw [hφ1 i τ hi]; exact hx)
        obtain ⟨m0, xs0, k1, k2, k3⟩ := ht.len i ((hcd i).2 hil) m E xs hx' hm
        obtain ⟨bk, bk', q1, q2, q3⟩ := hcb i τ hi
        rw [k1] at q2
        cases q2
        cases bk with
        | rows m' E' xs' => have e : Blk.rows m0 E xs0 = .rows m' E' xs' := q3; exact ⟨m0, xs0, by rw [q1, e], k2, k3⟩
        | box y => obtain ⟨y', e, _⟩ := q3; cases e
      · rw [h3o τ ((hd τ).1 h) hn] at hx
        exact ⟨m, xs, hx, hm, rfl⟩
    box := fun τ h y hy => by
      rcases hold τ h with ⟨i, hi⟩ | ⟨hn, h2⟩
      · have hil := (List.getElem?_eq_some_iff.1 hi).1
        obtain ⟨y', hy'⟩ := hR.box i (show i < hpc.length by omega) ((hd1 i).2 (by omega)) y (by rw [hφ1 i τ hi]; exact hy)
        obtain ⟨y0, k1⟩ := ht.box i ((hcd i).2 hil) y' hy'
        obtain ⟨bk, bk', q1, q2, q3⟩ := hcb i τ hi
        rw [k1] at q2
        cases q2
        cases bk with
        | rows m' E' xs' => have e : Blk.box y0 = .rows m' E' xs' := q3; cases e
        | box z => exact ⟨z, q1⟩
      · rw [h3o τ ((hd τ).1 h) hn] at hy
        exact ⟨y, hy⟩ }
  have hfar : ∀ τ b o, g.dom τ → τ ∉ ids → g.ρ τ = some (b, o) → owned hp τ → ¬ Own gc hs b := by
    intro τ b o h1 h2 h4 h5 h6
    obtain ⟨_, i, σ, o', h7, h8, h9⟩ := hownc b h6
    have := hg.inj τ σ b o o' h1 ((hd σ).2 (hlt σ (List.mem_of_getElem? h7))) h4 h8 h5 h9
    subst this
    exact h2 (List.mem_of_getElem? h7)
  refine ⟨g2, hT, ?_, fun τ => Iff.rfl, hR⟩
  refine ⟨hg1.sub, hg1.lt, fun τ hτ => ?_, fun x y b o o' hx hy h1 h2 h4 h5 => ?_⟩
  · rcases hcase τ hτ with ⟨i, hi, rfl⟩ | ⟨hlt', hm, hne⟩
    · obtain ⟨b', q1, q2⟩ := h3 i _ (List.getElem?_eq_getElem hi)
      refine ⟨b', q1, ?_⟩
      obtain ⟨bk, p1, p2⟩ := hg1.tok i ((hd1 i).2 hi)
      rw [List.getElem?_eq_getElem hi] at p1
      cases p1
      have hρ := hρ1 i hi
      revert q2 p2
      generalize hpc[i] = bk
      intro q2 p2
      cases bk with
      | box y =>
        obtain ⟨y', rfl, hv⟩ := q2
        obtain ⟨bb, oo, k1, k2, k3, k4⟩ := p2
        exact ⟨bb, oo, hρ.trans k1, k2, k3, (hv g1 g2 hpc hp3 w' hR).2.2 _ _ k4⟩
      | rows m E xs =>
        obtain rfl : b' = .rows m E xs := q2
        cases m with
        | live =>
          rcases p2 with ⟨k1, k2⟩ | ⟨bb, oo, k1, k2, k3, k4⟩
          · exact .inl ⟨hρ.trans k1, k2⟩
          · exact .inr ⟨bb, oo, hρ.trans k1, k2, k3, k4⟩
        | frozen =>
          rcases p2 with ⟨k1, k2⟩ | ⟨bb, oo, k1, k2, k3, k4⟩
          · exact .inl ⟨hρ.trans k1, k2⟩
          · exact .inr ⟨bb, oo, hρ.trans k1, k2, k3, k4⟩
        | dead => trivial
    · have hdt := (hd τ).2 hlt'
      obtain ⟨bk, q1, q2⟩ := hg.tok τ hdt
      refine ⟨bk, by rw [h3o τ hlt' hm]; exact q1, BlkRel.trans hT hg hdt (fun b o hρ ho => ?_) q2⟩
      have hO : Own g hp b := ⟨τ, o, hdt, hρ, owned_of q1 ho⟩
      have hlt2 := hO.lt hg
      have hnc := hfar τ b o hdt hm hρ (owned_of q1 ho)
      refine ⟨ht.prot b hlt2 hnc, fun hS => ?_⟩
      rcases ht.newS b hS with k | k | k
      · rw [hcS] at k; exact hO.notS hg k
      · omega
      · exact hnc k
  · -- the callee's blocks are new, or of tokens that were handed in
    have hmix : ∀ i τ o o', i < hpc.length → g1.ρ i = some (b, o) → owned hpc i → τ < hp.length → τ ∉ ids → g.ρ τ = some (b, o') → owned hp τ → False := by
      intro i τ o o' hi k1 k2 k3 k4 k5 k6
      have hdt := (hd τ).2 k3
      rcases ht.own b ⟨i, o, (hd1 i).2 hi, k1, k2⟩ with h | h
      · have := Own.lt hg (b := b) ⟨τ, o', hdt, k5, k6⟩
        omega
      · exact hfar τ b o' hdt k4 k5 k6 h
    have hown3 : ∀ τ, τ < hp.length → τ ∉ ids → owned hp3 τ → owned hp τ := by
      rintro τ k1 k2 ⟨z, k3, k4⟩
      rw [h3o τ k1 k2] at k3
      exact ⟨z, k3, k4⟩
    rcases hcase x hx with ⟨i, hi, rfl⟩ | ⟨hxl, hxm, hxn⟩
    · obtain ⟨k1, k2⟩ := hownr i b o hi h1 h4
      rcases hcase y hy with ⟨j, hj, rfl⟩ | ⟨hyl, hym, hyn⟩
      · obtain ⟨k3, k4⟩ := hownr j b o' hj h2 h5
        rw [hg1.inj i j b o o' ((hd1 i).2 hi) ((hd1 j).2 hj) k1 k3 k2 k4]
      · rw [hρ2 y hyn] at h2
        exact (hmix i y o o' hi k1 k2 hyl hym h2 (hown3 y hyl hym h5)).elim
    · rw [hρ2 x hxn] at h1
      rcases hcase y hy with ⟨j, hj, rfl⟩ | ⟨hyl, hym, hyn⟩
      · obtain ⟨k3, k4⟩ := hownr j b o' hj h2 h5
        exact (hmix j x o' o hj k3 k4 hxl hxm h1 (hown3 x hxl hxm h4)).elim
      · rw [hρ2 y hyn] at h2
        exact hg.inj x y b o o' ((hd x).2 hxl) ((hd y).2 hyl) h1 h2 (hown3 x hxl hxm h4) (hown3 y hyl hym h5)
end merge
theorem scall_step {C : CF} (hC : CSound P C) {c : Call} {f : Operand} (ho : o.op = .call c) (hc : c.callee = .value f) {gf : FuncId} {fs cs args : List AV} (hf : evD tm f = some (.fn gf fs cs)) (ha : evsD tm c.args.toList = some args)
    {ids : List Nat} (hok : OkIds 0 ids)
    (h : (rens3K 0 ids (fs ++ (args ++ cs)) fun args => pickB 0 ids hp ids fun hs => gbind (C gf args hs) fun r =>
      lenK hp 0 fun n => moreN ids r.2 n fun ids' => layB ids' ids r.2 hp fun hp => bak3K ids' r.1 fun v => adoptK hp v κ) = some r) : StepM P o tm hp κ r := by
  obtain ⟨l', h1, hrv⟩ := rens3_ok h
  clear h
  obtain ⟨hs, h2, hsl, hpk⟩ := pickB_ok h1
  clear h1
  obtain ⟨⟨res, hp1⟩, hCr, h3⟩ := gbind_some h2
  clear h2
  rw [lenK_eq, Nat.zero_add] at h3
  obtain ⟨hle, h4⟩ := moreN_ok h3
  clear h3
  simp only at hle h4
  have hltI : ∀ τ ∈ ids, τ < hp.length := fun τ hτ => by
    obtain ⟨i, hi⟩ := List.mem_iff_getElem?.1 hτ
    obtain ⟨b, _, hb, _⟩ := hpk i τ hi
    exact (List.getElem?_eq_some_iff.1 hb).1
  have hidl : (ids ++ List.range' hp.length (hp1.length - ids.length)).length = hp1.length := by simp; omega
  have hφ : ∀ (i : Nat) τ, (ids ++ List.range' hp.length (hp1.length - ids.length))[i]? = some τ → tailF ids hp.length i = τ := by
    intro i τ hi
    by_cases hil : i < ids.length
    · rw [List.getElem?_append_left hil] at hi
      simp only [tailF, if_pos hil, List.getD_eq_getElem?_getD, hi, Option.getD_some]
    · rw [List.getElem?_append_right (by omega)] at hi
      have hb := (List.getElem?_eq_some_iff.1 hi).1
      simp only [List.length_range'] at hb
      rw [List.getElem?_range' hb] at hi
      cases hi
      simp only [tailF, if_neg hil]
      omega
  obtain ⟨hp2, h5, h2l, _, h2o, h2a, h2b⟩ := layB_ok hφ h4 hok.1 hltI
  clear h4
  obtain ⟨h6, htk⟩ := bak3_ok hφ h5
  clear h5
  rw [adoptK_eq] at h6
  rw [hidl] at htk h2a h2b
  obtain ⟨hen, hcs⟩ := hC gf l' hs res hp1 hCr
  have htail : Tail (tailF ids hp.length) hp.length ids.length := fun i hi => by simp only [tailF, if_neg (show ¬ i < ids.length by omega)]
  obtain ⟨hRV, bl, hbl1, hbl2⟩ := ad3_rn (D := (· < (ad3 hp1 res).2.length)) htail (M := hp1.length) (fun τ hτ => Nat.lt_of_lt_of_le hτ (ad3_pre hp1 res).length_le) (x := res) (hk := hp1) (h0 := hp2) hle h2l htk (fun τ _ h => h)
  refine ⟨_, _, h6, fun Q a w g N hd hh hg hN => ?_⟩
  obtain ⟨vs, hvs, hrun⟩ := call_vals (P := P) ho hc hf ha g hp w a hh
  obtain ⟨gc, q1, q2, q3, q4, q5⟩ := ren_heap (h0 := []) (Nat.zero_le _) rfl hsl (fun i b b' hb => by simp at hb) hpk (fun _ _ => Nat.zero_le _) hok.1 hg hd
  simp only [List.nil_append] at q1 q4 q5
  have hgc := Good.ren hg q1 q2 q3 q5
  have hcall := hcs gc w vs hgc q4 (RVs.all2 q1 hrv hvs)
  simp only [Oper.wp, hrun hen, Oper.upon_enter]
  refine hcall.mono fun e w' he => ?_
  obtain ⟨vv, g1, rfl, ht, hg1, hd1, hv⟩ := he
  have hidx : ∀ (i : Nat) τ, ids[i]? = some τ → rnF 0 ids τ = i := fun i τ hi => by
    have hil := (List.getElem?_eq_some_iff.1 hi).1
    simp only [rnF, Nat.zero_le, if_true, Nat.zero_add]
    have h1 := (List.getElem?_eq_some_iff.1 hi).2
    have := hok.1.idxOf_getElem i hil
    rw [h1] at this
    exact this
  have hblk : ∀ (i : Nat) b, (ad3 hp1 res).2[i]? = some b → ∃ b', (ad3 hp2 (bk3 (tailF ids hp.length) res)).2[tailF ids hp.length i]? = some b' ∧ RB (tailF ids hp.length) (· < (ad3 hp1 res).2.length) b b' := by
    intro i b hb
    have hil := (List.getElem?_eq_some_iff.1 hb).1
    by_cases h1 : i < hp1.length
    · have hb1 : hp1[i]? = some b := by rw [hbl1, List.getElem?_append_left h1] at hb; exact hb
      by_cases h7 : i < ids.length
      · obtain ⟨τ, hτ⟩ : ∃ τ, ids[i]? = some τ := ⟨_, List.getElem?_eq_getElem h7⟩
        obtain ⟨c0, c', p1, p2, p3⟩ := h2a i τ hτ
        rw [hb1] at p1
        cases p1
        have e : tailF ids hp.length i = τ := hφ i τ (by rw [List.getElem?_append_left h7]; exact hτ)
        refine ⟨c', ?_, p3.mono fun j (hj : j < hp1.length) => by show j < (ad3 hp1 res).2.length; rw [hbl1, List.length_append]; omega⟩
        rw [e, hbl2, List.getElem?_append_left (by have := hltI τ (List.mem_of_getElem? hτ); omega)]
        exact p2
      · obtain ⟨c', p2, p3⟩ := h2b i b (by omega) hb1
        refine ⟨c', ?_, p3.mono fun j (hj : j < hp1.length) => by show j < (ad3 hp1 res).2.length; rw [hbl1, List.length_append]; omega⟩
        rw [htail i (by omega), hbl2, List.getElem?_append_left (by omega)]
        exact p2
    · rw [hbl1, List.getElem?_append_right (by omega)] at hb
      have hlv : liveB b := by
        have h8 := ad3_live (hk := []) (x := res) (fun _ h => by cases h)
        have h9 := ad3_app0 hp1 res
        rw [hbl1] at h9
        have h10 := List.append_cancel_left h9
        rw [← h10] at h8
        exact h8 b (List.mem_of_getElem? hb)
      match b, hlv with
      | .rows .live E xs, _ =>
        refine ⟨.rows .live E xs, ?_, rfl⟩
        rw [htail i (by omega), hbl2, List.getElem?_append_right (by omega)]
        rw [← hb]
        congr 1
        omega
  obtain ⟨g2, k1, k2, k3, k4⟩ := merge (hp3 := (ad3 hp2 (bk3 (tailF ids hp.length) res)).2) hg hd hok.1 hltI (fun i => by rw [q4, hsl]) (fun i τ hi => by
      have hm := List.mem_of_getElem? hi
      have := q1.ρ τ (.inr hm) ((hd τ).2 (hltI τ hm))
      rw [hidx i τ hi] at this
      exact this) q2 q3 hpk ht hg1 hd1 (by rw [hbl1]; simp; omega) (by rw [hbl1, hbl2]; simp; omega) (fun τ h1 h2 => by
      rw [hbl2, List.getElem?_append_left (by omega)]
      exact h2o τ h1 h2) hblk
  exact hN vv w' g2 k1 k2 k3 ((hRV g1 g2 _ _ w' k4).1 vv hv) (fun b _ hn => absurd (by unfold wrB; simp only [ho, hc]) hn)
end
end Go.AM
namespace Go.AM
section
variable {P : Program} {T : TypeId → Option TI} {C : CF} {sh : FuncId → Bool} {o : Oper} {tm : List AV} {hp : List Blk} {κ : AV → List Blk → R} {r : AV × List Blk}
theorem frz_ok : ∀ {l : List AV} {hp : List Blk} {κ : List Blk → R}, frzK l hp κ = some r → ∃ hp', κ hp' = some r ∧ hp'.length = hp.length ∧
    ∀ (g : G) (w : World) (vs : List Value), Good g hp w → All2 (V3 g hp w) l vs → ∃ g', Trans g hp w g' hp' w ∧ Good g' hp' w ∧ g'.dom = g.dom
  | [], hp, κ, h => ⟨hp, h, rfl, fun g w vs hg _ => ⟨g, Trans.refl g hp w, hg, rfl⟩⟩
  | x :: l, hp, κ, h => by
    have skip : frzK l hp κ = some r → ∃ hp', κ hp' = some r ∧ hp'.length = hp.length ∧
        ∀ (g : G) (w : World) (vs : List Value), Good g hp w → All2 (V3 g hp w) (x :: l) vs → ∃ g', Trans g hp w g' hp' w ∧ Good g' hp' w ∧ g'.dom = g.dom := fun h => by
      obtain ⟨hp', h1, h2, h3⟩ := frz_ok h
      refine ⟨hp', h1, h2, fun g w vs hg hv => ?_⟩
      cases vs with
      | nil => exact hv.elim
      | cons v vs => exact h3 g w vs hg hv.2
    cases x with
    | own τ E rr c =>
      simp only [frzK] at h
      obtain ⟨v', hp1, h1, _, hl1, k1⟩ := pur1_ok h
      obtain ⟨hp', h2, hl2, k2⟩ := frz_ok h1
      refine ⟨hp', h2, by omega, fun g w vs hg hv => ?_⟩
      cases vs with
      | nil => exact hv.elim
      | cons v vs =>
        obtain ⟨g1, p1, p2, p3, _⟩ := k1 g w v hg hv.1
        obtain ⟨g2, q1, q2, q3⟩ := k2 g1 w vs p2 (hv.2.imp fun _ _ h => h.trans p1 hg)
        exact ⟨g2, p1.trans q1, q2, q3.trans p3⟩
    | _ => exact skip (by simpa only [frzK] using h)
theorem call_step (hC : CSound P C) {c : Call} {f : Operand} (ho : o.op = .call c) (hc : c.callee = .value f) (h : (evK tm f fun
      | .fn g fs cs => evsK tm c.args.toList fun args => apndB args cs fun l => apndB fs l fun l => callK C sh g l hp κ
      | _ => none) = some r) : StepN P o tm hp κ r ∨ (isMut sh o = true ∧ StepM P o tm hp κ r) := by
  obtain ⟨v, hv, h1⟩ := evK_some h
  clear h
  split at h1
  case h_2 => cases h1
  rename_i gf fs cs
  obtain ⟨args, ha, h2⟩ := evsK_some h1
  clear h1
  rw [apndB_eq, apndB_eq] at h2
  unfold callK at h2
  rcases cond_some h2 with ⟨hs, h3⟩ | ⟨hs, h3⟩
  · right
    rw [toks3K_eq, boxToksK_eq] at h3
    refine ⟨?_, scall_step hC ho hc hv ha (boxToks_okI (toks3_okI OkIds.nil _) _) h3⟩
    unfold isMut
    rw [ho]
    simp only [hc]
    cases f with
    | func f0 =>
      simp only [evD, Option.some.injEq, AV.fn.injEq] at hv
      simp only [hv.1, hs, cond_true]
    | _ => rfl
  rcases cond_some h3 with ⟨hs2, h4⟩ | ⟨_, h4⟩
  · right
    refine ⟨?_, ?_⟩
    · unfold isMut
      rw [ho]
      simp only [hc]
      cases f with
      | func f0 =>
        simp only [evD, Option.some.injEq, AV.fn.injEq] at hv
        simp only [hv.1, hs, hs2, cond_false]
      | _ => rfl
    · obtain ⟨hp1, h5, hl, hk⟩ := frz_ok h4
      obtain ⟨v, hp2, h6, hpre, hop⟩ := pcall_step (P := P) hC ho hc hv ha h5
      refine ⟨v, hp2, h6, fun Q a w g N hd hx hg hN => ?_⟩
      obtain ⟨vs, hvs, _⟩ := call_vals (P := P) ho hc hv ha g hp w a hx
      obtain ⟨g1, t1, g1g, g1d⟩ := hk g w vs hg hvs
      have hlen : hp1.length ≤ hp2.length := hpre.length_le
      have t2 : Trans g1 hp1 w g1 hp2 w := Trans.ext hpre (fun τ h => by rw [g1d, hd] at h; omega)
      have hg2 : Good g1 hp2 w := g1g.ext hpre (fun τ h => by rw [g1d, hd] at h; omega)
      refine hop Q a w g1 hp2 N (List.prefix_refl _) (fun τ h => by rw [g1d, hd] at h; omega) (fun x hxx u hu => ((hx x hxx u hu).trans t1 hg).trans t2 g1g) hg2 fun vv w' g' k0 k1 k2 k3 k4 k5 => ?_
      exact hN vv w' g' ((t1.trans t2).trans k1) k2 (fun τ => by rw [k3, g1d, hd]; omega) k4 (fun b hb _ => k0 b hb)
  · exact .inl (pcall_step hC ho hc hv ha h4)
theorem aop_ok (hT : TOk P T) (hC : CSound P C) (h : aopK T C sh o tm hp κ = some r) : StepN P o tm hp κ r ∨ (isMut sh o = true ∧ StepM P o tm hp κ r) := by
  unfold aopK at h
  split at h
  · rename_i x ho; exact .inl (move_step ho h)
  · rename_i x ho; exact .inl (assign_step hT ho h)
  · rename_i c a b ho; exact .inl (pick_step ho h)
  · rename_i t ho; exact .inl (alloc_step hT ho h)
  · rename_i t x ho; exact .inl (box_step ho h)
  · rename_i t ps ho; exact .inl (build_step hT ho h)
  · rename_i t n ps ho; exact .inr ⟨by simp [isMut, ho], buildSlice_step hT ho h⟩
  · rename_i t x ho; exact .inl (load_step hT ho h)
  · rename_i t x y ho; exact .inr ⟨by simp [isMut, ho], store_step hT ho h⟩
  · rename_i x ho; exact .inl (nilCheck_step ho h)
  · rename_i op t x y ty ho; exact .inl (binOp_step hT ho h)
  · rename_i op t x ho; exact .inl (unOp_step ho h)
  · rename_i s d x ho; exact .inl (convert_step hT ho h)
  · rename_i f fs cs ho; exact .inl (makeFunc_step ho h)
  · rename_i t l c ho; exact .inl (makeSlice_step hT ho h)
  · rename_i t x lo hi mx ho; exact .inl (slice_step hT ho h)
  · rename_i t x f ho; exact .inl (fieldAddr_step hT ho h)
  · rename_i t x ix ho; exact .inl (indexAddr_step hT ho h)
  · rename_i t x ix ho; exact .inl (index_step hT ho h)
  · rename_i x i ho; exact .inl (extract_step ho h)
  · rename_i c ho
    split at h
    · rename_i hc; exact .inl (len_step hT ho hc h)
    · rename_i hc; exact .inl (cap_step hT ho hc h)
    · rename_i hc; exact .inr ⟨by simp [isMut, ho, hc], append_step hT ho hc h⟩
    · rename_i hc; exact .inr ⟨by simp [isMut, ho, hc], clear_step hT ho hc h⟩
    · rename_i hc; exact .inl (max_step ho hc h)
    · rename_i hc; exact .inl (min_step ho hc h)
    · rename_i f hc; exact call_step hC ho hc h
    · cases h
  · cases h
end
end Go.AM
namespace Go.AM
section
variable {P : Program} {T : TypeId → Option TI} {C : CF} {sh : FuncId → Bool} {o : Oper} {tm : List AV} {hp : List Blk} {κ : AV → List Blk → R} {r : AV × List Blk}
theorem OpN.toM {v : AV} {hp' : List Blk} (h : OpN P o tm hp v hp') : OpM P o tm hp v hp' := by
  intro Q a w g N hd hh hg hN
  have hdd : ∀ τ, g.dom τ → τ < hp.length := fun τ h => (hd τ).1 h
  have ht := Trans.ext (w := w) h.1 hdd
  refine h.2 Q a w g hp' N (List.prefix_refl _) (fun τ h => .inl (hdd τ h)) (fun x hx u hu => (hh x hx u hu).trans ht hg) (hg.ext h.1 hdd) fun vv w' g' k0 k1 k2 k3 k4 _ => hN vv w' g' (ht.trans k1) k2 (fun τ => ?_) k4 (fun b hb _ => k0 b hb)
  rw [k3, hd]
  have := h.1.length_le
  omega
def putL (tm : List AV) (d : Option Tmp) (v : AV) : List AV :=
  match d with
  | some d => tm.set d v
  | none => tm
theorem putK_eq (tm : List AV) (d : Option Tmp) (v : AV) (κ : List AV → R) : putK tm d v κ = κ (putL tm d v) := by
  cases d <;> simp [putK, putL, setK_eq]
def TmR (g : G) (H : List Blk) (w : World) (tm : List AV) (a : Act) : Prop := All2 (V3 g H w) tm a.tmps.toList
theorem TmR.get {g : G} {H : List Blk} {w : World} {a : Act} (h : TmR g H w tm a) {t : Nat} {x : AV} (hx : tm[t]? = some x) : a.tmps[t]? = some (a.tmps.getD t undef) ∧ V3 g H w x (a.tmps.getD t undef) := by
  obtain ⟨v, hv, hv2⟩ := All2_get h hx
  have e : a.tmps[t]? = some v := by simpa using hv
  have : a.tmps.getD t undef = v := by simp [e]
  rw [this]
  exact ⟨e, hv2⟩
theorem ev_V3 {g : G} {H : List Blk} {w : World} {a : Act} {x : Operand} {u : AV} (ht : ∀ t, x = .tmp t → ∀ y, tm[t]? = some y → V3 g H w y (a.tmps.getD t undef)) (h : evD tm x = some u) : V3 g H w u (a.eval x) := by
  cases x with
  | tmp t => exact ht t rfl u h
  | const v => exact const_V3 h
  | func f =>
    simp only [evD, Option.some.injEq] at h
    subst h
    exact ⟨[], [], rfl, trivial, trivial⟩
  | global _ => cases h
theorem TmR.ev {g : G} {H : List Blk} {w : World} {a : Act} (h : TmR g H w tm a) {x : Operand} {u : AV} (hu : evD tm x = some u) : V3 g H w u (a.eval x) :=
  ev_V3 (fun t _ y hy => (h.get hy).2) hu
theorem All2_set {R : AV → Value → Prop} : ∀ {xs : List AV} {vs : List Value} {i : Nat} {x : AV} {v : Value}, All2 R xs vs → R x v → All2 R (xs.set i x) (vs.set i v)
  | [], [], _, _, _, _, _ => trivial
  | _ :: _, _ :: _, 0, _, _, h, hx => ⟨hx, h.2⟩
  | _ :: _, _ :: _, i + 1, _, _, h, hx => ⟨h.1, All2_set h.2 hx⟩
  | [], _ :: _, _, _, _, h, _ => h.elim
  | _ :: _, [], _, _, _, h, _ => h.elim
theorem TmR.put {g : G} {H : List Blk} {w : World} {a : Act} (h : TmR g H w tm a) {v : AV} {vv : Value} (hv : V3 g H w v vv) (d : Option Tmp) : TmR g H w (putL tm d v) (a.put d vv) := by
  cases d with
  | none => exact h
  | some d =>
    unfold TmR
    simp only [putL, Act.put, Array.toList_setIfInBounds]
    exact All2_set h hv
def GuardR (ops : Array Oper) (o : Oper) (tm : List AV) (want : Bool) : Prop :=
  match o.guard with
  | none => want = true
  | some (j, b) => ∃ t, (ops[j]?).bind (·.dst) = some t ∧ ((∃ c, tm[t]? = some (.bool c) ∧ want = (c == b)) ∨ (tm[t]? = some (.tup []) ∧ want = false))
theorem GuardR.wanted {ops : Array Oper} {want : Bool} (h : GuardR ops o tm want) {g : G} {H : List Blk} {w : World} {a : Act}
    (ht : ∀ t, (∃ j b, o.guard = some (j, b) ∧ (ops[j]?).bind (·.dst) = some t) → ∀ y, tm[t]? = some y → a.tmps[t]? = some (a.tmps.getD t undef) ∧ V3 g H w y (a.tmps.getD t undef)) :
    Region.wanted o (yielded ops a.tmps) = want := by
  unfold GuardR at h
  unfold Region.wanted
  cases hg : o.guard with
  | none => rw [hg] at h; simp [h]
  | some p =>
    obtain ⟨j, b⟩ := p
    rw [hg] at h
    obtain ⟨t, h1, h2⟩ := h
    have hy : ∀ v : Value, a.tmps[t]? = some v → yielded ops a.tmps j = match v with | .bool b => some b | _ => none := by
      intro v hv
      simp only [yielded, h1, Option.bind_some, hv]
      cases v <;> rfl
    rcases h2 with ⟨c, h3, rfl⟩ | ⟨h3, rfl⟩
    · obtain ⟨h4, h5⟩ := ht t ⟨j, b, hg, h1⟩ _ h3
      rw [V3_bool.1 h5] at h4
      simp only [hy _ h4]
      cases c <;> cases b <;> rfl
    · obtain ⟨h4, ws, h5, h6⟩ := ht t ⟨j, b, hg, h1⟩ _ h3
      rw [h5] at h4
      simp only [hy _ h4]
      cases b <;> rfl
structure OpStep (P : Program) (sh : FuncId → Bool) (ops : Array Oper) (o : Oper) (tm : List AV) (hp : List Blk) (tm' : List AV) (hp' : List Blk) : Prop where
  go : ∃ want v, GuardR ops o tm want ∧ tm' = putL tm o.dst v ∧ ((want = false ∧ v = .tup [] ∧ hp' = hp) ∨ (want = true ∧ (OpN P o tm hp v hp' ∨ (isMut sh o = true ∧ OpM P o tm hp v hp'))))
theorem dstK_ok {κ : Tmp → R} : ∀ {ops : List Oper} {j : Nat}, dstK ops j κ = some r → ∃ t, (ops[j]?).bind (·.dst) = some t ∧ κ t = some r
  | [], j, h => by simp [dstK] at h
  | o :: l, 0, h => by
    simp only [dstK] at h
    split at h
    · rename_i t ht; exact ⟨t, by simp [ht], h⟩
    · cases h
  | o :: l, j + 1, h => by
    simp only [dstK] at h
    obtain ⟨t, h1, h2⟩ := dstK_ok h
    exact ⟨t, by simpa using h1, h2⟩
structure Trace (P : Program) (sh : FuncId → Bool) (ops : Array Oper) (l : List Oper) (tms : Nat → List AV) (hps : Nat → List Blk) : Prop where
  step : ∀ j o, l[j]? = some o → OpStep P sh ops o (tms j) (hps j) (tms (j + 1)) (hps (j + 1))
theorem ops_ok (hT : TOk P T) (hC : CSound P C) {all : Array Oper} : ∀ {l : List Oper} {tm : List AV} {hp : List Blk} {κ : List AV → List Blk → R}, opsK T C sh all.toList l tm hp κ = some r →
    ∃ tms hps, tms 0 = tm ∧ hps 0 = hp ∧ κ (tms l.length) (hps l.length) = some r ∧ Trace P sh all l tms hps
  | [], tm, hp, κ, h => ⟨fun _ => tm, fun _ => hp, rfl, rfl, h, ⟨fun j o h => by simp at h⟩⟩
  | o :: l, tm, hp, κ, h => by
    have fin : ∀ tm1 hp1, OpStep P sh all o tm hp tm1 hp1 → opsK T C sh all.toList l tm1 hp1 κ = some r →
        ∃ tms hps, tms 0 = tm ∧ hps 0 = hp ∧ κ (tms (o :: l).length) (hps (o :: l).length) = some r ∧ Trace P sh all (o :: l) tms hps := by
      intro tm1 hp1 hst h
      obtain ⟨tms, hps, e1, e2, e3, e4⟩ := ops_ok hT hC h
      refine ⟨fun i => match i with | 0 => tm | i + 1 => tms i, fun i => match i with | 0 => hp | i + 1 => hps i, rfl, rfl, e3, ⟨fun j o' hj => ?_⟩⟩
      cases j with
      | zero => simp at hj; subst hj; simp only [e1, e2]; exact hst
      | succ j => exact e4.step j o' (by simpa using hj)
    have run : ∀ (want : Bool), GuardR all o tm want → want = true → (aopK T C sh o tm hp fun v hp => putK tm o.dst v fun tm => opsK T C sh all.toList l tm hp κ) = some r →
        ∃ tms hps, tms 0 = tm ∧ hps 0 = hp ∧ κ (tms (o :: l).length) (hps (o :: l).length) = some r ∧ Trace P sh all (o :: l) tms hps := by
      intro want hgd hw h
      rcases aop_ok hT hC h with ⟨v, hp', h1, h2⟩ | ⟨hm, v, hp', h1, h2⟩
      · dsimp only at h1
        rw [putK_eq] at h1
        exact fin _ _ ⟨want, v, hgd, rfl, .inr ⟨hw, .inl h2⟩⟩ h1
      · dsimp only at h1
        rw [putK_eq] at h1
        exact fin _ _ ⟨want, v, hgd, rfl, .inr ⟨hw, .inr ⟨hm, h2⟩⟩⟩ h1
    have skip : ∀ (want : Bool), GuardR all o tm want → want = false → (putK tm o.dst (.tup []) fun tm => opsK T C sh all.toList l tm hp κ) = some r →
        ∃ tms hps, tms 0 = tm ∧ hps 0 = hp ∧ κ (tms (o :: l).length) (hps (o :: l).length) = some r ∧ Trace P sh all (o :: l) tms hps := by
      intro want hgd hw h
      rw [putK_eq] at h
      exact fin _ _ ⟨want, _, hgd, rfl, .inl ⟨hw, rfl, rfl⟩⟩ h
    have h' : (match o.guard with
      | none => aopK T C sh o tm hp fun v hp => putK tm o.dst v fun tm => opsK T C sh all.toList l tm hp κ
      | some (j, want) => dstK all.toList j fun t => getK tm t fun
        | .bool b =>
          bif b then
            setK tm t (.bool true) fun tm =>
              bif want then aopK T C sh o tm hp fun v hp => putK tm o.dst v fun tm => opsK T C sh all.toList l tm hp κ
              else putK tm o.dst (.tup []) fun tm => opsK T C sh all.toList l tm hp κ
          else
            setK tm t (.bool false) fun tm =>
              bif want then putK tm o.dst (.tup []) fun tm => opsK T C sh all.toList l tm hp κ
              else aopK T C sh o tm hp fun v hp => putK tm o.dst v fun tm => opsK T C sh all.toList l tm hp κ
        | .tup [] => putK tm o.dst (.tup []) fun tm => opsK T C sh all.toList l tm hp κ
        | _ => none) = some r := h
    clear h
    split at h'
    · rename_i hg
      exact run true (by unfold GuardR; rw [hg]) rfl h'
    · rename_i j want hg
      obtain ⟨t, h1, h2⟩ := dstK_ok h'
      clear h'
      obtain ⟨x, h3, h4⟩ := getK_some h2
      clear h2
      have h1' : (all[j]?).bind (·.dst) = some t := by simpa using h1
      have hset : ∀ c, x = .bool c → tm.set t (.bool c) = tm := by
        intro c e
        subst e
        have := (List.getElem?_eq_some_iff.1 h3)
        rw [← this.2]
        exact List.set_getElem_self _
      split at h4
      · rename_i b
        have hgd : GuardR all o tm (b == want) := by unfold GuardR; rw [hg]; exact ⟨t, h1', .inl ⟨b, h3, rfl⟩⟩
        rcases cond_some h4 with ⟨rfl, h5⟩ | ⟨rfl, h5⟩
        · rw [setK_eq, hset true rfl] at h5
          rcases cond_some h5 with ⟨rfl, h6⟩ | ⟨rfl, h6⟩
          · exact run _ hgd rfl h6
          · exact skip _ hgd rfl h6
        · rw [setK_eq, hset false rfl] at h5
          rcases cond_some h5 with ⟨rfl, h6⟩ | ⟨rfl, h6⟩
          · exact skip _ hgd rfl h6
          · exact run _ hgd rfl h6
      · exact skip false (by unfold GuardR; rw [hg]; exact ⟨t, h1', .inr ⟨h3, rfl⟩⟩) rfl h4
      · cases h4
structure RS (g : G) (tm : List AV) (hp : List Blk) (a : Act) (w : World) : Prop where
  good : Good g hp w
  dom : ∀ τ, g.dom τ ↔ τ < hp.length
  tmps : TmR g hp w tm a
  defers : a.defers = []
theorem Act.put_def (a : Act) (d : Option Tmp) (v : Value) : (a.put d v).defers = a.defers := by cases d <;> rfl
theorem tup_undef {g : G} {H : List Blk} {w : World} : V3 g H w (.tup []) undef := ⟨[], rfl, trivial⟩
theorem seq_ok {ops : Array Oper} {Q : Exit → Act → World → Prop} {tms : Nat → List AV} {hps : Nat → List Blk} (ht : Trace P sh ops ops.toList tms hps) {g0 : G} {H0 : List Blk} {w0 : World} :
    ∀ (m k : Nat), k + m = ops.size → ∀ (g : G) (a : Act) (w : World), Trans g0 H0 w0 g (hps k) w → RS g (tms k) (hps k) a w →
      (∀ g' a' w', Trans g0 H0 w0 g' (hps ops.size) w' → RS g' (tms ops.size) (hps ops.size) a' w' → Q .normal a' w') → wpOps P ops Q (List.range' k m) a w
  | 0, k, hk, g, a, w, htr, hst, hQ => by
    have : k = ops.size := by omega
    subst this
    exact hQ g a w htr hst
  | m + 1, k, hk, g, a, w, htr, hst, hQ => by
    have hkl : k < ops.size := by omega
    have hok : ops[k]? = some ops[k] := Array.getElem?_eq_getElem hkl
    obtain ⟨want, v, hgd, htm, hor⟩ := (ht.step k ops[k] (by simpa using hok)).go
    have hw := hgd.wanted (g := g) (H := hps k) (w := w) (a := a) (fun t _ y hy => hst.tmps.get hy)
    rw [List.range'_succ]
    simp only [wpOps, hok, hw]
    rcases hor with ⟨rfl, rfl, he⟩ | ⟨rfl, hor⟩
    · simp only [Bool.false_eq_true, if_false]
      refine seq_ok ht m (k + 1) (by omega) g _ w (by rw [he]; exact htr) ⟨by rw [he]; exact hst.good, by rw [he]; exact hst.dom, ?_, by rw [Act.put_def]; exact hst.defers⟩ hQ
      rw [he, htm]
      exact hst.tmps.put tup_undef _
    · simp only [if_true]
      left
      have hM : OpM P ops[k] (tms k) (hps k) v (hps (k + 1)) := hor.elim OpN.toM And.right
      refine hM Q a w g _ hst.dom (fun x _ u hu => hst.tmps.ev hu) hst.good fun vv w' g' k1 k2 k3 k4 _ => ?_
      refine seq_ok ht m (k + 1) (by omega) g' _ w' (htr.trans k1) ⟨k2, k3, ?_, by rw [Act.put_def]; exact hst.defers⟩ hQ
      rw [htm]
      exact TmR.put (hst.tmps.imp fun _ _ h => h.trans k1 hst.good) k4 _
end
end Go.AM
