import Derived.Test.YtlacambjecjdbaaAmSlice
set_option linter.unusedVariables false
set_option linter.unusedSimpArgs false
set_option linter.unnecessarySimpa false
/-! The slice operation. -/
namespace Go.AM

section
variable {P : Program} {T : TypeId → Option TI} {o : Oper} {tm : List AV} {hp : List Blk} {κ : AV → List Blk → R} {r : AV × List Blk}

theorem good_nil {g : G} {H : List Blk} {w : World} {τ E : Nat} {m : Mode} {xs : List AV} (hg : Good g H w) (hd : g.dom τ) (hb : H[τ]? = some (.rows m E xs)) (hm : m ≠ .dead) (hρ : g.ρ τ = none) : xs = [] := by
  obtain ⟨blk, h1, h2⟩ := hg.tok τ hd
  rw [hb] at h1
  cases h1
  cases m with
  | dead => exact absurd rfl hm
  | live =>
    rcases h2 with ⟨_, h⟩ | ⟨b, o, h, _⟩
    · exact h
    · rw [hρ] at h; cases h
  | frozen =>
    rcases h2 with ⟨_, h⟩ | ⟨b, o, h, _⟩
    · exact h
    · rw [hρ] at h; cases h

theorem own_slice {g : G} {H : List Blk} {w : World} {t e : TypeId} {τ E : Nat} (hu : (Go.underlying t).run P w = .ok (.slice e) w) (hs : (Go.sizeOf e).run P w = .ok E w)
    {rr : Option (Int × Int)} {c c' : Bool} {v : Value} {m : Mode} {xs : List AV}
    (hg : Good g H w) (h : V1 g H w (.own τ E rr c) v) (hb : H[τ]? = some (.rows m E xs)) (hm : m ≠ .dead) {lo hi mx : Option Int} {lv hv mv : Option Value} (h1 : OptRel lo lv) (h2 : OptRel hi hv) (h3 : OptRel mx mv) {L Hh : Nat}
    (hL : (lo = none ∧ L = 0) ∨ (lo = some (L : Int))) (hH : (hi = none ∧ mx = none ∧ (Hh : Int) = (rngD rr xs).2) ∨ hi = some (Hh : Int)) (hle : (rngD rr xs).1 + Hh ≤ xs.length) (hLH : L ≤ Hh)
    (hc : (mx = none ∧ ((c' = c ∧ hi = none) ∨ (c' = false ∧ (c = false ∨ rr = none)))) ∨ (mx = some (Hh : Int) ∧ c' = true ∧ hi = some (Hh : Int) ∧ (c = false ∨ rr = none))) :
    ∃ vv, (Instr.sliceAt t v lv hv mv).run P w = .ok vv w ∧ V3 g H w (.own τ E (some ((rngD rr xs).1 + L, (Hh : Int) - L)) c') vv := by
  obtain ⟨hd, h⟩ := own_shape h hb hm
  rcases h with ⟨hρ, ⟨A, rfl⟩, hr⟩ | ⟨b, base, k, cap, oN, lN, hρ, rfl, hk, hlc, hcc, hcap, hun, hr, hol⟩
  · rw [hr] at hH hle ⊢
    simp only at hH hle ⊢
    have hx := good_nil hg hd hb hm hρ
    subst hx
    have hh0 : Hh = 0 := by simp at hle; omega
    subst hh0
    have hl0 : L = 0 := by omega
    subst hl0
    have hrun := slice_run (A := A) (len := 0) (cap := 0) hu hs h1 h2 h3 (M := 0) (H := 0) (L := 0) (by
      rcases hc with ⟨h, _⟩ | ⟨h, _⟩
      · exact .inl ⟨h, rfl⟩
      · exact .inr ⟨h, Nat.le_refl _⟩) (by
      rcases hH with ⟨h, h', e⟩ | h
      · exact .inl ⟨h, h', rfl⟩
      · exact .inr ⟨h, Nat.le_refl _⟩) (hL.imp id fun h => ⟨h, Nat.le_refl _⟩)
    refine ⟨_, hrun, hd, ?_⟩
    rw [hρ]
    exact ⟨⟨A, by simp⟩, by simp, by simp⟩
  · rw [hr] at hH hle ⊢
    simp only at hH hle ⊢
    have hHM : ∃ M, Hh ≤ M ∧ ((mx = none ∧ M = cap) ∨ (mx = some (M : Int) ∧ M ≤ cap)) ∧ (c' = true → M = Hh) ∧ (c' = false → xs.length ≤ oN + M) ∧ M ≤ cap := by
      rcases hc with ⟨rfl, hc⟩ | ⟨rfl, rfl, rfl, hc⟩
      · refine ⟨cap, ?_, .inl ⟨rfl, rfl⟩, ?_, ?_, Nat.le_refl _⟩
        · rcases hc with ⟨_, rfl⟩ | ⟨_, hc⟩
          · rcases hH with ⟨_, _, e⟩ | h
            · omega
            · cases h
          · have := hcap hc; omega
        · intro e
          rcases hc with ⟨rfl, rfl⟩ | ⟨rfl, hc⟩
          · rcases hH with ⟨_, _, e'⟩ | h
            · have := hcc e; omega
            · cases h
          · cases e
        · intro e
          rcases hc with ⟨rfl, rfl⟩ | ⟨_, hc⟩
          · exact hcap (.inl e)
          · exact hcap hc
      · have := hcap hc
        exact ⟨Hh, Nat.le_refl _, .inr ⟨rfl, by omega⟩, fun _ => rfl, fun e => by (cases e), by omega⟩
    obtain ⟨M, hHM, hM, hct, hcf, hMc⟩ := hHM
    have hrun := slice_run (A := some ⟨b, k, none⟩) (len := lN) (cap := cap) hu hs h1 h2 h3 (M := M) (H := Hh) (L := L) hM (by
      rcases hH with ⟨h, h', e⟩ | h
      · exact .inl ⟨h, h', by omega⟩
      · exact .inr ⟨h, hHM⟩) (hL.imp id fun h => ⟨h, hLH⟩)
    refine ⟨_, hrun, hd, ?_⟩
    rw [hρ]
    have haddr : (if M = L then some ⟨b, k, none⟩ else offA (some ⟨b, k, none⟩) (L * E)) = some (⟨b, if M = L then k else k + L * E, none⟩ : Addr) := by
      split <;> simp [offA, addr_add]
    rw [haddr]
    refine ⟨_, oN + L, Hh - L, M - L, rfl, ?_, by omega, fun e => by rw [hct e], fun e m' E' ys hy hm' => ?_, ?_, by omega, by omega, fun m' E' ys hy hm' => ?_⟩
    · by_cases hml : M = L
      · right; omega
      · left
        have hk := hk.resolve_right (by omega)
        rw [if_neg hml, hk, Nat.add_mul, Nat.add_assoc]
    · rw [hb] at hy; cases hy
      have := hcf e; omega
    · refine hun.le ?_
      have : oN + L + (M - L) ≤ oN + cap := by omega
      have := Nat.mul_le_mul_right E this
      omega
    · rw [hb] at hy; cases hy
      omega

theorem str_slice {w : World} {t : TypeId} (hu : (Go.underlying t).run P w = .ok .string w) {l : List UInt8} {lo hi : Option Int} {lv hv : Option Value} (h1 : OptRel lo lv) (h2 : OptRel hi hv) {L Hh : Nat}
    (hL : (lo = none ∧ L = 0) ∨ (lo = some (L : Int))) (hH : (hi = none ∧ Hh = l.length) ∨ hi = some (Hh : Int)) (hLH : L ≤ Hh) (hle : Hh ≤ l.length) :
    (Instr.sliceAt t (.string ⟨⟨l⟩⟩) lv hv none).run P w = .ok (.string ⟨⟨lsub l L Hh⟩⟩) w := by
  have hsz : (⟨⟨l⟩⟩ : ByteArray).size = l.length := rfl
  have hb := sliceBounds_run (P := P) (w := w) (isS := false) (len := l.length) (cap := l.length) h1 h2 (mx := none) (mv := none) (.inl ⟨rfl, rfl⟩) (M := l.length) (H := Hh) (L := L) (.inl ⟨rfl, rfl⟩)
    (hH.imp (fun h => ⟨h.1, rfl, h.2⟩) fun h => ⟨h, hle⟩) (hL.imp id fun h => ⟨h, hLH⟩)
  have e : (⟨⟨l⟩⟩ : ByteArray).extract L Hh = ⟨⟨lsub l L Hh⟩⟩ := by
    apply ByteArray.ext
    rw [ByteArray.data_extract]
    apply Array.ext'
    simp only [lsub_eq, List.extract_toArray, List.extract_eq_take_drop]
    congr 1
    omega
  simp [Instr.sliceAt, hu, Instr.slice, hsz, hb, e]

theorem nil_slice {w : World} {t e : TypeId} {E : Nat} (hu : (Go.underlying t).run P w = .ok (.slice e) w) (hs : (Go.sizeOf e).run P w = .ok E w) {A : Option Addr} {lo hi mx : Option Int} {lv hv mv : Option Value}
    (h1 : OptRel lo lv) (h2 : OptRel hi hv) (h3 : OptRel mx mv) (hL : lo = none ∨ lo = some 0) (hH : (hi = none ∧ mx = none) ∨ hi = some 0) (hM : mx = none ∨ mx = some 0) :
    (Instr.sliceAt t (.slice A 0 0) lv hv mv).run P w = .ok (.slice A 0 0) w := by
  have := slice_run (A := A) (len := 0) (cap := 0) hu hs h1 h2 h3 (M := 0) (H := 0) (L := 0) (hM.imp (fun h => ⟨h, rfl⟩) fun h => ⟨h, Nat.le_refl _⟩)
    (hH.imp (fun h => ⟨h.1, h.2, rfl⟩) fun h => ⟨h, Nat.le_refl _⟩) (hL.imp (fun h => ⟨h, rfl⟩) fun h => ⟨h, Nat.le_refl _⟩)
  simpa using this

theorem lst_slice' {g : G} {H : List Blk} {w : World} {t e : TypeId} {E : Nat} (hu : (Go.underlying t).run P w = .ok (.slice e) w) (hs : (Go.sizeOf e).run P w = .ok E w)
    {oo c c' : Bool} {v : Value} {xs : List AV} (h : V3 g H w (.lst oo c E xs) v) {lo hi mx : Option Int} {lv hv mv : Option Value} (h1 : OptRel lo lv) (h2 : OptRel hi hv) (h3 : OptRel mx mv) {L Hh : Nat}
    (hL : (lo = none ∧ L = 0) ∨ (lo = some (L : Int))) (hH : (hi = none ∧ mx = none ∧ Hh = xs.length) ∨ hi = some (Hh : Int)) (hle : Hh ≤ xs.length) (hLH : L ≤ Hh)
    (hc : (mx = none ∧ ((c' = c ∧ hi = none) ∨ c' = false)) ∨ (mx = some (Hh : Int) ∧ hi = some (Hh : Int))) :
    ∃ vv, (Instr.sliceAt t v lv hv mv).run P w = .ok vv w ∧ V3 g H w (.lst oo c' E (lsub xs L Hh)) vv := by
  have h' := h
  simp only [V3, V2, V1, PCell] at h'
  obtain ⟨A, cap, rfl, hcap, hcc, _⟩ := h'
  have hM : ∃ M, ((mx = none ∧ M = cap) ∨ (mx = some (M : Int) ∧ M ≤ cap)) ∧ Hh ≤ M ∧ (c' = true → M = Hh) := by
    rcases hc with ⟨rfl, hc⟩ | ⟨rfl, rfl⟩
    · refine ⟨cap, .inl ⟨rfl, rfl⟩, by omega, fun e => ?_⟩
      rcases hc with ⟨rfl, rfl⟩ | rfl
      · rcases hH with ⟨_, _, h⟩ | h
        · rw [h, hcc e]
        · cases h
      · cases e
    · exact ⟨Hh, .inr ⟨rfl, by omega⟩, Nat.le_refl _, fun _ => rfl⟩
  obtain ⟨M, hM, hHM, hct⟩ := hM
  exact ⟨_, slice_run hu hs h1 h2 h3 hM (hH.imp id fun h => ⟨h, hHM⟩) (hL.imp id fun h => ⟨h, hLH⟩), lst_slice h hLH hHM hle hct⟩

theorem sliceK_nil {E : Nat} {lo hi mx : Option Int} {κ : AV → R} (h : sliceK hp .nil E lo hi mx κ = some r) :
    κ .nil = some r ∧ (lo = none ∨ lo = some 0) ∧ ((hi = none ∧ mx = none) ∨ hi = some 0) ∧ (mx = none ∨ mx = some 0) := by
  simp only [sliceK] at h
  split at h
  · exact ⟨h, .inl rfl, .inl ⟨rfl, rfl⟩, .inl rfl⟩
  · obtain ⟨hc, h2⟩ := cond_none h
    clear h
    simp only [ieq_eq, decide_eq_true_eq] at hc; subst hc
    exact ⟨h2, .inr rfl, .inl ⟨rfl, rfl⟩, .inl rfl⟩
  · obtain ⟨hc, h2⟩ := cond_none h
    clear h
    simp only [ieq_eq, decide_eq_true_eq] at hc; subst hc
    exact ⟨h2, .inl rfl, .inr rfl, .inl rfl⟩
  · obtain ⟨hc, h2⟩ := cond_none h
    clear h
    simp only [ieq_eq, Bool.and_eq_true, decide_eq_true_eq] at hc
    obtain ⟨rfl, rfl⟩ := hc
    exact ⟨h2, .inr rfl, .inr rfl, .inl rfl⟩
  · obtain ⟨hc, h2⟩ := cond_none h
    clear h
    simp only [ieq_eq, Bool.and_eq_true, decide_eq_true_eq] at hc
    obtain ⟨rfl, rfl⟩ := hc
    exact ⟨h2, .inl rfl, .inr rfl, .inr rfl⟩
  · cases h

theorem sliceK_lst {E E' : Nat} {oo c : Bool} {xs : List AV} {lo hi mx : Option Int} {κ : AV → R} (h : sliceK hp (.lst oo c E' xs) E lo hi mx κ = some r) : E = E' ∧
    ∃ (c' : Bool) (L Hh : Nat), κ (.lst oo c' E (lsub xs L Hh)) = some r ∧ ((lo = none ∧ L = 0) ∨ (lo = some (L : Int))) ∧ ((hi = none ∧ mx = none ∧ Hh = xs.length) ∨ hi = some (Hh : Int)) ∧ Hh ≤ xs.length ∧ L ≤ Hh ∧
      ((mx = none ∧ ((c' = c ∧ hi = none) ∨ c' = false)) ∨ (mx = some (Hh : Int) ∧ hi = some (Hh : Int))) := by
  simp only [sliceK] at h
  obtain ⟨rfl, h0⟩ := beqE_some h
  clear h
  refine ⟨rfl, ?_⟩
  split at h0
  · refine ⟨c, 0, xs.length, ?_, .inl ⟨rfl, rfl⟩, .inl ⟨rfl, rfl, rfl⟩, Nat.le_refl _, Nat.zero_le _, .inl ⟨rfl, .inl ⟨rfl, rfl⟩⟩⟩
    rw [← h0]; simp [lsub_eq]
  · rename_i a
    obtain ⟨hc, h⟩ := cond_none h0
    simp only [Bool.and_eq_true, ile_eq, ilen_eq, decide_eq_true_eq] at hc
    refine ⟨c, a.toNat, xs.length, ?_, .inr ?_, .inl ⟨rfl, rfl, rfl⟩, Nat.le_refl _, by omega, .inl ⟨rfl, .inl ⟨rfl, rfl⟩⟩⟩
    · rw [← h, ilen_eq, Int.toNat_of_nonneg hc.1]
    · rw [Int.toNat_of_nonneg hc.1]
  · rename_i b
    obtain ⟨hc, h⟩ := cond_none h0
    simp only [Bool.and_eq_true, ile_eq, ilen_eq, decide_eq_true_eq] at hc
    refine ⟨false, 0, b.toNat, ?_, .inl ⟨rfl, rfl⟩, .inr ?_, by omega, Nat.zero_le _, .inl ⟨rfl, .inr rfl⟩⟩
    · rw [← h, Int.toNat_of_nonneg hc.1]; rfl
    · rw [Int.toNat_of_nonneg hc.1]
  · rename_i a b
    obtain ⟨hc, h⟩ := cond_none h0
    simp only [Bool.and_eq_true, ile_eq, ilen_eq, decide_eq_true_eq] at hc
    refine ⟨false, a.toNat, b.toNat, ?_, .inr ?_, .inr ?_, by omega, by omega, .inl ⟨rfl, .inr rfl⟩⟩
    · rw [← h, Int.toNat_of_nonneg hc.1.1, Int.toNat_of_nonneg (by omega)]
    · rw [Int.toNat_of_nonneg hc.1.1]
    · rw [Int.toNat_of_nonneg (by omega)]
  · rename_i b m
    obtain ⟨hc, h⟩ := cond_none h0
    simp only [Bool.and_eq_true, ile_eq, ieq_eq, ilen_eq, decide_eq_true_eq] at hc
    obtain ⟨⟨hc1, rfl⟩, hc2⟩ := hc
    refine ⟨true, 0, b.toNat, ?_, .inl ⟨rfl, rfl⟩, .inr ?_, by omega, Nat.zero_le _, .inr ⟨?_, ?_⟩⟩
    · rw [← h, Int.toNat_of_nonneg hc1]; rfl
    · rw [Int.toNat_of_nonneg hc1]
    · rw [Int.toNat_of_nonneg hc1]
    · rw [Int.toNat_of_nonneg hc1]
  · cases h0

theorem sliceK_own {E E' τ : Nat} {rr : Option (Int × Int)} {c : Bool} {lo hi mx : Option Int} {κ : AV → R} (h : sliceK hp (.own τ E' rr c) E lo hi mx κ = some r) : E = E' ∧
    ∃ (m : Mode) (xs : List AV), hp[τ]? = some (.rows m E xs) ∧ m ≠ .dead ∧ ((κ (.own τ E rr c) = some r ∧ lo = none ∧ hi = none ∧ mx = none) ∨
      ∃ (c' : Bool) (L Hh : Nat), κ (.own τ E (some ((rngD rr xs).1 + L, (Hh : Int) - L)) c') = some r ∧ ((lo = none ∧ L = 0) ∨ (lo = some (L : Int))) ∧ ((hi = none ∧ mx = none ∧ (Hh : Int) = (rngD rr xs).2) ∨ hi = some (Hh : Int)) ∧
        ((hi = none → (rngD rr xs).1 + (rngD rr xs).2 ≤ xs.length) → (rngD rr xs).1 + Hh ≤ xs.length) ∧ L ≤ Hh ∧
        ((mx = none ∧ ((c' = c ∧ hi = none) ∨ (c' = false ∧ (c = false ∨ rr = none)))) ∨ (mx = some (Hh : Int) ∧ c' = true ∧ hi = some (Hh : Int) ∧ (c = false ∨ rr = none)))) := by
  simp only [sliceK] at h
  obtain ⟨rfl, h0⟩ := beqE_some h
  clear h
  refine ⟨rfl, ?_⟩
  obtain ⟨blk, hb, h1⟩ := getK_some h0
  clear h0
  split at h1
  case h_2 => cases h1
  rename_i m E'' xs
  obtain ⟨rfl, h2⟩ := beqE_some h1
  clear h1
  split at h2
  · cases h2
  rename_i hm
  have hm : m ≠ .dead := fun e => hm e
  refine ⟨m, xs, hb, hm, ?_⟩
  clear hb hm
  split at h2
  · split at h2
    · exact .inl ⟨h2, rfl, rfl, rfl⟩
    · rename_i a
      obtain ⟨hc, h⟩ := cond_none h2
      simp only [Bool.and_eq_true, ile_eq, ilen_eq, isub_eq, decide_eq_true_eq] at hc h
      refine .inr ⟨c, a.toNat, xs.length, ?_, .inr ?_, .inl ⟨rfl, rfl, by simp [rngD, ilen_eq]⟩, fun _ => by simp [rngD], by omega, .inl ⟨rfl, .inl ⟨rfl, rfl⟩⟩⟩
      · rw [← h, Int.toNat_of_nonneg hc.1]; simp [rngD]
      · rw [Int.toNat_of_nonneg hc.1]
    · rename_i b
      obtain ⟨hc, h⟩ := cond_none h2
      simp only [Bool.and_eq_true, ile_eq, ilen_eq, decide_eq_true_eq] at hc
      refine .inr ⟨false, 0, b.toNat, ?_, .inl ⟨rfl, rfl⟩, .inr ?_, fun _ => by simp [rngD]; omega, Nat.zero_le _, .inl ⟨rfl, .inr ⟨rfl, .inr rfl⟩⟩⟩
      · rw [← h, Int.toNat_of_nonneg hc.1]; simp [rngD]
      · rw [Int.toNat_of_nonneg hc.1]
    · rename_i a b
      obtain ⟨hc, h⟩ := cond_none h2
      simp only [Bool.and_eq_true, ile_eq, ilen_eq, isub_eq, decide_eq_true_eq] at hc h
      refine .inr ⟨false, a.toNat, b.toNat, ?_, .inr ?_, .inr ?_, fun _ => by simp [rngD]; omega, by omega, .inl ⟨rfl, .inr ⟨rfl, .inr rfl⟩⟩⟩
      · rw [← h, Int.toNat_of_nonneg hc.1.1, Int.toNat_of_nonneg (by omega)]; simp [rngD]
      · rw [Int.toNat_of_nonneg hc.1.1]
      · rw [Int.toNat_of_nonneg (by omega)]
    · rename_i b m
      obtain ⟨hc, h⟩ := cond_none h2
      simp only [Bool.and_eq_true, ile_eq, ieq_eq, ilen_eq, decide_eq_true_eq] at hc
      obtain ⟨⟨hc1, rfl⟩, hc2⟩ := hc
      refine .inr ⟨true, 0, b.toNat, ?_, .inl ⟨rfl, rfl⟩, .inr ?_, fun _ => by simp [rngD]; omega, Nat.zero_le _, .inr ⟨?_, rfl, ?_, .inr rfl⟩⟩
      · rw [← h, Int.toNat_of_nonneg hc1]; simp [rngD]
      · rw [Int.toNat_of_nonneg hc1]
      · rw [Int.toNat_of_nonneg hc1]
      · rw [Int.toNat_of_nonneg hc1]
    · cases h2
  · rename_i o l
    split at h2
    · exact .inl ⟨h2, rfl, rfl, rfl⟩
    · rename_i a
      obtain ⟨hc, h⟩ := cond_none h2
      simp only [Bool.and_eq_true, ile_eq, isub_eq, iadd_eq, decide_eq_true_eq] at hc h
      refine .inr ⟨c, a.toNat, l.toNat, ?_, .inr ?_, .inl ⟨rfl, rfl, ?_⟩, fun e => ?_, by omega, .inl ⟨rfl, .inl ⟨rfl, rfl⟩⟩⟩
      · rw [← h, Int.toNat_of_nonneg hc.1, Int.toNat_of_nonneg (by omega)]; rfl
      · rw [Int.toNat_of_nonneg hc.1]
      · simp only [rngD]; omega
      · have := e rfl; simp only [rngD] at this ⊢; omega
    · rename_i b
      obtain ⟨hc, h⟩ := cond_none h2
      simp only [Bool.and_eq_true, ile_eq, ilen_eq, iadd_eq, Bool.not_eq_true', decide_eq_true_eq] at hc
      refine .inr ⟨false, 0, b.toNat, ?_, .inl ⟨rfl, rfl⟩, .inr ?_, fun _ => by simp only [rngD]; omega, Nat.zero_le _, .inl ⟨rfl, .inr ⟨rfl, .inl hc.1.1⟩⟩⟩
      · rw [← h, Int.toNat_of_nonneg hc.1.2]; simp [rngD]
      · rw [Int.toNat_of_nonneg hc.1.2]
    · rename_i a b
      obtain ⟨hc, h⟩ := cond_none h2
      simp only [Bool.and_eq_true, ile_eq, ilen_eq, isub_eq, iadd_eq, Bool.not_eq_true', decide_eq_true_eq] at hc h
      refine .inr ⟨false, a.toNat, b.toNat, ?_, .inr ?_, .inr ?_, fun _ => by simp only [rngD]; omega, by omega, .inl ⟨rfl, .inr ⟨rfl, .inl hc.1.1.1⟩⟩⟩
      · rw [← h, Int.toNat_of_nonneg hc.1.1.2, Int.toNat_of_nonneg (by omega)]; rfl
      · rw [Int.toNat_of_nonneg hc.1.1.2]
      · rw [Int.toNat_of_nonneg (by omega)]
    · rename_i b m
      obtain ⟨hc, h⟩ := cond_none h2
      simp only [Bool.and_eq_true, ile_eq, ieq_eq, ilen_eq, iadd_eq, Bool.not_eq_true', decide_eq_true_eq] at hc
      obtain ⟨⟨⟨hc0, hc1⟩, rfl⟩, hc2⟩ := hc
      refine .inr ⟨true, 0, b.toNat, ?_, .inl ⟨rfl, rfl⟩, .inr ?_, fun _ => by simp only [rngD]; omega, Nat.zero_le _, .inr ⟨?_, rfl, ?_, .inl hc0⟩⟩
      · rw [← h, Int.toNat_of_nonneg hc1]; simp [rngD]
      · rw [Int.toNat_of_nonneg hc1]
      · rw [Int.toNat_of_nonneg hc1]
      · rw [Int.toNat_of_nonneg hc1]
    · cases h2

/-- what it yields hangs on no world -/
def Indep (P : Program) {α : Type} (s : Sem α) : Prop := ∀ w v w', s.run P w = .ok v w' → ∀ w2, s.run P w2 = .ok v w2
def Never (P : Program) {α : Type} (s : Sem α) : Prop := ∀ w v w', s.run P w ≠ .ok v w'

theorem Never.indep {α : Type} {s : Sem α} (h : Never P s) : Indep P s := fun w v w' hr => absurd hr (h w v w')
theorem Indep.pure {α : Type} (a : α) : Indep P (Pure.pure a : Sem α) := fun w v w' h w2 => by
  simp only [Sem.run_pure] at h ⊢
  cases h; rfl
theorem Indep.bind {α β : Type} {s : Sem α} {f : α → Sem β} (h : Indep P s) (hf : ∀ a, Indep P (f a)) : Indep P (s >>= f) := fun w v w' hr w2 => by
  simp only [Sem.run_bind] at hr ⊢
  cases hs : s.run P w with
  | ok x w1 =>
    rw [hs] at hr
    rw [h w x w1 hs w2]
    simp only [Result.andThen_ok] at hr ⊢
    exact hf x _ _ _ hr w2
  | halt h' w1 => rw [hs] at hr; cases hr
theorem Never.bind {α β : Type} {s : Sem α} {f : α → Sem β} (hf : ∀ a, Never P (f a)) : Never P (s >>= f) := fun w v w' hr => by
  simp only [Sem.run_bind] at hr
  cases hs : s.run P w with
  | ok x w1 => rw [hs] at hr; simp only [Result.andThen_ok] at hr; exact hf x _ _ _ hr
  | halt h' w1 => rw [hs] at hr; cases hr
theorem Never.halt {α : Type} (h : Halt) : Never P (Sem.halt h : Sem α) := fun w v w' hr => by cases hr
theorem Indep.program : Indep P program := fun w v w' h w2 => by
  rw [run_program] at h ⊢
  cases h; rfl
theorem Indep.underlying (t : TypeId) : Indep P (Go.underlying t) := by
  unfold Go.underlying
  refine Indep.program.bind fun p => ?_
  split
  · exact Indep.pure _
  · exact (Never.halt _).indep
theorem Indep.typeInfo (t : TypeId) : Indep P (Go.typeInfo t) := by
  unfold Go.typeInfo
  refine Indep.program.bind fun p => ?_
  split
  · exact Indep.pure _
  · exact (Never.halt _).indep
theorem Indep.sizeOf (t : TypeId) : Indep P (Go.sizeOf t) := by
  unfold Go.sizeOf
  exact (Indep.typeInfo t).bind fun _ => Indep.pure _
theorem Indep.asIntOf (x : Value) : Indep P (Go.asIntOf x) := by
  unfold Go.asIntOf
  split
  · exact Indep.pure _
  · exact (Never.halt _).indep
  · exact (Never.halt _).indep
theorem Never.boundsPanic {α : Type} (k : IntKind) (x y : Int) (c : BoundsCode) : Never P (Go.boundsPanic k x y c : Sem α) := by
  have h : ∀ b : Bool, Never P (runtimePanic (.bounds (IntKind.i64.wrap x) y b c) : Sem α) := fun b => by
    unfold runtimePanic
    exact Never.bind fun p => Never.halt _
  unfold Go.boundsPanic
  dsimp only
  split
  · exact Never.bind fun b => h b
  · exact Never.bind fun b => h b

theorem Never.stuck {α : Type} (h : String) : Never P (Go.stuck h : Sem α) := Never.halt _

theorem Indep.sliceBound (x : Value) (y : Nat) (c : BoundsCode) : Indep P (Instr.sliceBound x y c) := by
  unfold Instr.sliceBound
  (repeat' (first | dsimp only | (with_reducible exact Indep.asIntOf _) | (with_reducible exact Indep.underlying _) | (with_reducible exact Indep.sizeOf _) | (with_reducible exact (Never.boundsPanic _ _ _ _).indep) | (with_reducible exact (Never.stuck _).indep) | (with_reducible exact Indep.pure _) | (with_reducible refine Indep.bind ?_ fun _ => ?_) | split))
theorem Indep.sliceBounds (s : Bool) (l c : Nat) (lo hi mx : Option Value) : Indep P (Instr.sliceBounds s l c lo hi mx) := by
  unfold Instr.sliceBounds
  (repeat' (first | dsimp only | (with_reducible exact Indep.sliceBound _ _ _) | (with_reducible exact Indep.asIntOf _) | (with_reducible exact Indep.underlying _) | (with_reducible exact Indep.sizeOf _) | (with_reducible exact (Never.boundsPanic _ _ _ _).indep) | (with_reducible exact (Never.stuck _).indep) | (with_reducible exact Indep.pure _) | (with_reducible refine Indep.bind ?_ fun _ => ?_) | split))
theorem Indep.sureAddr (x : Value) : Indep P (Instr.sureAddr x) := by
  unfold Instr.sureAddr
  split
  · exact Indep.pure _
  · exact (Never.stuck _).indep
theorem Indep.asAddr (x : Value) : Indep P (Go.asAddr x) := by
  unfold Go.asAddr runtimePanic
  split
  · exact Indep.pure _
  · exact Never.indep (Never.bind fun p => Never.halt _)
  · exact (Never.halt _).indep
theorem Indep.sliceAt (t : TypeId) (x : Value) (lo hi mx : Option Value) : Indep P (Instr.sliceAt t x lo hi mx) := by
  unfold Instr.sliceAt
  refine (Indep.underlying t).bind fun u => ?_
  split
  · (repeat' (first | dsimp only | (with_reducible exact Indep.asAddr _) | (with_reducible exact Indep.sureAddr _) | (with_reducible exact Indep.sliceBounds _ _ _ _ _ _) | (with_reducible exact Indep.sliceBound _ _ _) | (with_reducible exact Indep.asIntOf _) | (with_reducible exact Indep.underlying _) | (with_reducible exact Indep.sizeOf _) | (with_reducible exact (Never.boundsPanic _ _ _ _).indep) | (with_reducible exact (Never.stuck _).indep) | (with_reducible exact Indep.pure _) | (with_reducible refine Indep.bind ?_ fun _ => ?_) | split))
  · unfold Instr.slice
    refine (Indep.underlying t).bind fun u => ?_
    split
    all_goals (repeat' (first | dsimp only | (with_reducible exact Indep.asAddr _) | (with_reducible exact Indep.sureAddr _) | (with_reducible exact Indep.sliceBounds _ _ _ _ _ _) | (with_reducible exact Indep.sliceBound _ _ _) | (with_reducible exact Indep.asIntOf _) | (with_reducible exact Indep.underlying _) | (with_reducible exact Indep.sizeOf _) | (with_reducible exact (Never.boundsPanic _ _ _ _).indep) | (with_reducible exact (Never.stuck _).indep) | (with_reducible exact Indep.pure _) | (with_reducible refine Indep.bind ?_ fun _ => ?_) | split))

theorem slice_stepE (hT : TOk P T) {t : TypeId} {x : Operand} {lo hi mx' : Option Operand} (ho : o.op = .slice t x lo hi mx') (h : (tyK T t fun _ _ _ _ d => evK tm x fun x => optK tm lo fun lo => optK tm hi fun hi' => optK tm mx' fun mx => match (generalizing := false) d with
    | .slice e => tyK T e fun E _ _ _ _ => bif isSl x then bif isZ hi && isZ mx' && lo.isNone then κ .nil hp else sliceK hp x E lo hi' mx fun v => κ v hp else none
    | .str => match (generalizing := false) x with
      | .str l => sliceK hp (.str l) 0 lo hi' mx fun v => κ v hp
      | _ => none
    | _ => none) = some r) : StepE P false o tm hp κ r := by
  obtain ⟨s1, a1, b1, z1, d1, hs, h2⟩ := tyK_some h
  clear h
  obtain ⟨v, hv, h3⟩ := evK_some h2
  clear h2
  obtain ⟨n1, h4, ho1⟩ := opt_relE h3
  clear h3
  obtain ⟨n2, h5, ho2⟩ := opt_relE h4
  clear h4
  obtain ⟨n3, h, ho3⟩ := opt_relE h5
  clear h5
  have hO : ∀ (a : Act) (g : G) (H : List Blk) (w : World), (∀ x ∈ o.op.operands, ∀ u, evD tm x = some u → V3 g H w u (a.eval x)) →
      OptRel n1 (lo.map a.eval) ∧ OptRel n2 (hi.map a.eval) ∧ OptRel n3 (mx'.map a.eval) := fun a g H w hh =>
    ⟨ho1 a g H w fun y hy => hh y (by rw [ho]; simp [Op.operands, hy]), ho2 a g H w fun y hy => hh y (by rw [ho]; simp [Op.operands, hy]), ho3 a g H w fun y hy => hh y (by rw [ho]; simp [Op.operands, hy])⟩
  have fin : ∀ (u : AV), κ u hp = some r → (∀ (a : Act) (w : World) (g : G) (H : List Blk), hp <+: H → Good g H w → V3 g H w v (a.eval x) → OptRel n1 (lo.map a.eval) → OptRel n2 (hi.map a.eval) → OptRel n3 (mx'.map a.eval) →
      (mx' = none → mx'.map a.eval = none) → ∃ vv, (Instr.sliceAt t (a.eval x) (lo.map a.eval) (hi.map a.eval) (mx'.map a.eval)).run P w = .ok vv w ∧ V3 g H w u vv) → StepE P false o tm hp κ r := by
    intro u hu hall
    refine ⟨u, hu, fun a w g H hH hh hg => ?_⟩
    obtain ⟨q1, q2, q3⟩ := hO a g H w hh
    obtain ⟨vv, hr, hv'⟩ := hall a w g H hH hg (hh x (by simp [ho, Op.operands]) _ hv) q1 q2 q3 (fun h => by rw [h]; rfl)
    exact ⟨vv, fun w2 _ => by simp only [execOp, ho, Sem.run_bind, Indep.sliceAt _ _ _ _ _ _ _ _ hr w2, Result.andThen_ok, Sem.run_pure], hv'⟩
  split at h
  · rename_i e
    obtain ⟨E, a2, b2, z2, d2, he, h⟩ := tyK_some h
    obtain ⟨hsl, h⟩ := cond_none h
    have hu : ∀ w : World, (Go.underlying t).run P w = .ok (.slice e) w := fun w => by
      obtain ⟨u, hu, _, hr⟩ := (hT _ _ _ _ _ _ hs).underlying (w := w)
      simp only [DRel] at hr
      subst hr
      exact hu
    have hsz : ∀ w : World, (Go.sizeOf e).run P w = .ok E w := fun w => (hT _ _ _ _ _ _ he).sizeOf
    rcases cond_some h with ⟨hz, h⟩ | ⟨_, h⟩
    · simp only [Bool.and_eq_true] at hz
      refine fin _ h fun a w g H hH hg hx q1 q2 q3 _ => ?_
      have hzero : ∀ (y : Option Operand) (n : Option Int), isZ y = true → OptRel n (y.map a.eval) → n = some 0 := by
        intro y n hy hr
        unfold isZ at hy
        split at hy
        · rename_i k i
          have hi : i = 0 := of_decide_eq_true hy
          subst hi
          rcases hr with ⟨_, hr⟩ | ⟨i', k', rfl, hr⟩
          · simp at hr
          · simp [Act.eval] at hr; rw [hr.2]
        · cases hy
      have e2 := hzero _ _ hz.1.1 q2
      have e3 := hzero _ _ hz.1.2 q3
      have e1 : n1 = none := by simpa using hz.2
      subst e1; subst e2; subst e3
      have hA : ∃ A l c, a.eval x = .slice A l c := by
        cases v with
        | nil => simp only [V3, V2, V1, PCell] at hx; obtain ⟨A, hx⟩ := hx; exact ⟨A, 0, 0, hx⟩
        | lst _ _ _ _ => simp only [V3, V2, V1, PCell] at hx; obtain ⟨A, c, hx, _⟩ := hx; exact ⟨A, _, c, hx⟩
        | own τ E' rr c' =>
          obtain ⟨_, hx⟩ := hx
          cases hρ : g.ρ τ with
          | none => simp only [hρ] at hx; obtain ⟨⟨A, hx⟩, _⟩ := hx; exact ⟨A, 0, 0, hx⟩
          | some p => simp only [hρ] at hx; obtain ⟨k, o, l, cap, hx, _⟩ := hx; exact ⟨_, l, cap, hx⟩
        | _ => simp [isSl] at hsl
      obtain ⟨A, l, c, hA⟩ := hA
      refine ⟨_, by rw [hA]; exact slice_run (hu w) (hsz w) q1 q2 q3 (M := 0) (H := 0) (L := 0) (.inr ⟨rfl, Nat.zero_le _⟩) (.inr ⟨rfl, Nat.le_refl _⟩) (.inl ⟨rfl, rfl⟩), ?_⟩
      simp [V3, V2, V1, PCell]
    · cases v with
      | nil =>
        obtain ⟨hk, h1, h2, h3⟩ := sliceK_nil h
        refine fin _ hk fun a w g H hH hg hx q1 q2 q3 _ => ?_
        simp only [V3, V2, V1, PCell] at hx
        obtain ⟨A, hx⟩ := hx
        rw [hx]
        exact ⟨_, nil_slice (hu w) (hsz w) q1 q2 q3 h1 h2 h3, A, rfl⟩
      | lst oo c E' xs =>
        obtain ⟨rfl, c', L, Hh, hk, h1, h2, h3, h4, h5⟩ := sliceK_lst h
        exact fin _ hk fun a w g H hH hg hx q1 q2 q3 _ => lst_slice' (hu w) (hsz w) hx q1 q2 q3 h1 h2 h3 h4 h5
      | own τ E' rr c =>
        obtain ⟨rfl, m, xs, hb, hm, hor⟩ := sliceK_own h
        rcases hor with ⟨hk, rfl, rfl, rfl⟩ | ⟨c', L, Hh, hk, h1, h2, h3, h4, h5⟩
        · refine fin _ hk fun a w g H hH hg hx q1 q2 q3 _ => ⟨a.eval x, ?_, hx⟩
          have hA : ∃ A l c, a.eval x = .slice A l c ∧ (c = 0 ∨ ∀ b, A = some b → b = ⟨b.block, b.off, none⟩) := by
            obtain ⟨_, hx⟩ := hx
            cases hρ : g.ρ τ with
            | none =>
              simp only [hρ] at hx
              obtain ⟨⟨A, hx⟩, _⟩ := hx
              exact ⟨A, 0, 0, hx, .inl rfl⟩
            | some p => simp only [hρ] at hx; obtain ⟨k, o, l, cap, hx, _⟩ := hx; exact ⟨_, l, cap, hx, .inr fun b e => by cases e; rfl⟩
          obtain ⟨A, l, c, hA, hb'⟩ := hA
          rw [hA]
          have := slice_run (A := A) (len := l) (cap := c) (hu w) (hsz w) q1 q2 q3 (M := c) (H := l) (L := 0) (.inl ⟨rfl, rfl⟩) (.inl ⟨rfl, rfl, rfl⟩) (.inl ⟨rfl, rfl⟩)
          rw [this]
          rcases hb' with rfl | hb'
          · simp
          · have e : offA A (0 * E) = A := by
              cases A with
              | none => rfl
              | some b => rw [hb' b rfl]; simp [offA, addr_add]
            rw [e]; simp
        · refine fin _ hk fun a w g H hH hg hx q1 q2 q3 _ => own_slice (hu w) (hsz w) hg hx (prefix_get hH hb) hm q1 q2 q3 h1 h2 (h3 fun _ => ?_) h4 h5
          obtain ⟨_, hs⟩ := own_shape hx (prefix_get hH hb) hm
          rcases hs with ⟨_, _, e⟩ | ⟨_, _, _, _, _, _, _, _, _, _, _, _, _, e, e2⟩
          · rw [e]; simp
          · rw [e]; simp only; omega
      | _ => simp [isSl] at hsl
  · split at h
    · rename_i l
      have hu : ∀ w : World, (Go.underlying t).run P w = .ok .string w := fun w => by
        obtain ⟨u, hu, _, hr⟩ := (hT _ _ _ _ _ _ hs).underlying (w := w)
        simp only [DRel] at hr
        subst hr
        exact hu
      have fin2 : ∀ (u : List UInt8), κ (.str u) hp = some r → ∀ L Hh : Nat, u = lsub l L Hh → ((n1 = none ∧ L = 0) ∨ (n1 = some (L : Int))) → ((n2 = none ∧ Hh = l.length) ∨ n2 = some (Hh : Int)) → L ≤ Hh → Hh ≤ l.length → n3 = none → StepE P false o tm hp κ r := by
        intro u hu' L Hh e h1 h2 h3 h4 h5
        refine fin _ hu' fun a w g H hH hg hx q1 q2 q3 _ => ?_
        rw [V3_str.1 hx]
        have : mx'.map a.eval = none := by
          subst h5
          rcases q3 with ⟨_, q⟩ | ⟨_, _, q, _⟩
          · exact q
          · cases q
        rw [this]
        exact ⟨_, str_slice (hu w) q1 q2 h1 h2 h3 h4, V3_str.2 (by rw [e])⟩
      simp only [sliceK] at h
      split at h
      · refine fin2 _ h 0 l.length ?_ (.inl ⟨rfl, rfl⟩) (.inl ⟨rfl, rfl⟩) (Nat.zero_le _) (Nat.le_refl _) rfl
        simp [lsub_eq]
      · rename_i a
        obtain ⟨hc, h⟩ := cond_none h
        simp only [Bool.and_eq_true, ile_eq, ilen_eq, decide_eq_true_eq] at hc
        refine fin2 _ h a.toNat l.length ?_ (.inr ?_) (.inl ⟨rfl, rfl⟩) (by omega) (Nat.le_refl _) rfl
        · rw [ilen_eq, Int.toNat_of_nonneg hc.1]
        · rw [Int.toNat_of_nonneg hc.1]
      · rename_i b
        obtain ⟨hc, h⟩ := cond_none h
        simp only [Bool.and_eq_true, ile_eq, ilen_eq, decide_eq_true_eq] at hc
        refine fin2 _ h 0 b.toNat ?_ (.inl ⟨rfl, rfl⟩) (.inr ?_) (Nat.zero_le _) (by omega) rfl
        · rw [Int.toNat_of_nonneg hc.1]; rfl
        · rw [Int.toNat_of_nonneg hc.1]
      · rename_i a b
        obtain ⟨hc, h⟩ := cond_none h
        simp only [Bool.and_eq_true, ile_eq, ilen_eq, decide_eq_true_eq] at hc
        refine fin2 _ h a.toNat b.toNat ?_ (.inr ?_) (.inr ?_) (by omega) (by omega) rfl
        · rw [Int.toNat_of_nonneg hc.1.1, Int.toNat_of_nonneg (by omega)]
        · rw [Int.toNat_of_nonneg hc.1.1]
        · rw [Int.toNat_of_nonneg (by omega)]
      · cases h
    · cases h
  · cases h
theorem slice_step (hT : TOk P T) {t : TypeId} {x : Operand} {lo hi mx' : Option Operand} (ho : o.op = .slice t x lo hi mx') (h : (tyK T t fun _ _ _ _ d => evK tm x fun x => optK tm lo fun lo => optK tm hi fun hi' => optK tm mx' fun mx => match (generalizing := false) d with
    | .slice e => tyK T e fun E _ _ _ _ => bif isSl x then bif isZ hi && isZ mx' && lo.isNone then κ .nil hp else sliceK hp x E lo hi' mx fun v => κ v hp else none
    | .str => match (generalizing := false) x with
      | .str l => sliceK hp (.str l) 0 lo hi' mx fun v => κ v hp
      | _ => none
    | _ => none) = some r) : StepN P o tm hp κ r :=
  (slice_stepE hT ho h).toN
end
end Go.AM
