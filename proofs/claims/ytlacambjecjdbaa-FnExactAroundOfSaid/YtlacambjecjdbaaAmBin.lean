import Derived.Test.YtlacambjecjdbaaAmOps
import Derived.Laws.StructEq
set_option linter.unusedVariables false
set_option linter.unusedSimpArgs false
set_option linter.unnecessarySimpa false
/-! Operators on integers, bools, strings; comparisons. -/
namespace Go.AM
open Op

theorem V3_int {g : G} {H : List Blk} {w : World} {k : IntKind} {n : Int} {v : Value} : V3 g H w (.int k n) v ↔ v = .int k n := by simp [V3, V2, V1, PCell]
theorem V3_bool {g : G} {H : List Blk} {w : World} {b : Bool} {v : Value} : V3 g H w (.bool b) v ↔ v = .bool b := by simp [V3, V2, V1, PCell]
theorem V3_str {g : G} {H : List Blk} {w : World} {l : List UInt8} {v : Value} : V3 g H w (.str l) v ↔ v = .string ⟨⟨l⟩⟩ := by simp [V3, V2, V1, PCell]

theorem eqGuard_plain {P : Program} {w : World} {op : BinOp} {t : TypeId} {x y : Operand} {a b : Value}
    (h : (∃ k n, a = .int k n) ∨ (∃ b', a = .bool b') ∨ (∃ s, a = .string s) ∨ ∃ A n c, a = .slice A n c) :
    (eqGuard op t x y a b).run P w = .ok () w := by
  rcases h with ⟨k, n, rfl⟩ | ⟨b', rfl⟩ | ⟨s, rfl⟩ | ⟨A, n, c, rfl⟩ <;> cases op <;> simp [eqGuard]

theorem intBin_ok {P : Program} {op : BinOp} {k : IntKind} {a b : Int} {κ : AV → R} {r : AV × List Blk} (h : intBin op k a b κ = some r) :
    ∃ v, κ v = some r ∧ ∃ vv, (∀ w : World, (match op with
      | .add | .sub | .mul => Op.intArith op k a b
      | .quo | .rem => Op.intDiv op k a b
      | .and | .or | .xor | .andNot => Op.intBits op k a b
      | _ => Op.intCmp op a b).run P w = .ok vv w) ∧ ((∃ n, v = .int k n ∧ vv = .int k n) ∨ ∃ t, v = .bool t ∧ vv = .bool t) := by
  unfold intBin at h
  cases op <;> simp only [] at h
  case add => exact ⟨_, h, _, fun w => by simp [Op.intArith]; rfl, .inl ⟨_, rfl, by simp [wr_eq, iadd_eq]⟩⟩
  case sub => exact ⟨_, h, _, fun w => by simp [Op.intArith]; rfl, .inl ⟨_, rfl, by simp [wr_eq, isub_eq]⟩⟩
  case mul => exact ⟨_, h, _, fun w => by simp [Op.intArith]; rfl, .inl ⟨_, rfl, by simp [wr_eq, imul_eq]⟩⟩
  case quo =>
    rcases cond_some h with ⟨_, h⟩ | ⟨h0, h⟩
    · cases h
    · have hb : b ≠ 0 := by simpa [ieq_eq] using h0
      exact ⟨_, h, _, fun w => by simp [Op.intDiv, hb]; rfl, .inl ⟨_, rfl, by simp [wr_eq, iquo_eq]⟩⟩
  case rem =>
    rcases cond_some h with ⟨_, h⟩ | ⟨h0, h⟩
    · cases h
    · have hb : b ≠ 0 := by simpa [ieq_eq] using h0
      exact ⟨_, h, _, fun w => by simp [Op.intDiv, hb]; rfl, .inl ⟨_, rfl, by simp [irem_eq]⟩⟩
  case and => exact ⟨_, h, _, fun w => by simp [Op.intBits]; rfl, .inl ⟨_, rfl, by simp [iand_eq]⟩⟩
  case eql => exact ⟨_, h, _, fun w => by simp [Op.intCmp]; rfl, .inr ⟨_, rfl, by simp [ieq_eq]; exact Bool.beq_eq_decide_eq a b⟩⟩
  case neq => exact ⟨_, h, _, fun w => by simp [Op.intCmp]; rfl, .inr ⟨_, rfl, by simp [ieq_eq, bne, Bool.beq_eq_decide_eq]⟩⟩
  case lss => exact ⟨_, h, _, fun w => by simp [Op.intCmp]; rfl, .inr ⟨_, rfl, by simp [ilt_eq]⟩⟩
  case leq => exact ⟨_, h, _, fun w => by simp [Op.intCmp]; rfl, .inr ⟨_, rfl, by simp [ile_eq]⟩⟩
  case gtr => exact ⟨_, h, _, fun w => by simp [Op.intCmp]; rfl, .inr ⟨_, rfl, by simp [ilt_eq]⟩⟩
  case geq => exact ⟨_, h, _, fun w => by simp [Op.intCmp]; rfl, .inr ⟨_, rfl, by simp [ile_eq]⟩⟩
  all_goals cases h

theorem bytes_eq (a b : List UInt8) : ((⟨⟨a⟩⟩ : ByteArray).toList == (⟨⟨b⟩⟩ : ByteArray).toList) = (a == b) := by
  have h : ∀ l : List UInt8, (⟨⟨l⟩⟩ : ByteArray).toList = l := by
    intro l
    rw [Go.ByteArray.toList_eq]
  rw [h, h]

theorem binOp_run {P : Program} {a : Act} {w : World} {o : Oper} {op : BinOp} {t ty : TypeId} {x y : Operand} (ho : o.op = .binOp op t x y ty) {vv : Value}
    (hg : (eqGuard op t x y (a.eval x) (a.eval y)).run P w = .ok () w) (hb : (binOp op t (a.eval x) (a.eval y)).run P w = .ok vv w) :
    (execOp a.eval o).run P w = .ok (.value vv) w := by
  simp only [execOp, ho, Sem.run_bind, hg, Result.andThen_ok, hb, Sem.run_pure]

theorem binK_ok {P : Program} {o : Oper} {tm : List AV} {hp : List Blk} {op : BinOp} {t ty : TypeId} {x y : Operand} (ho : o.op = .binOp op t x y ty) {X Y : AV}
    (hx : evD tm x = some X) (hy : evD tm y = some Y) {κ : AV → R} {r : AV × List Blk} (h : binK op X Y κ = some r) : ∃ v, κ v = some r ∧ OpN P o tm hp v hp := by
  have ops : ∀ (a : Act) (w : World) (g : G) (H : List Blk), (∀ x ∈ o.op.operands, ∀ u, evD tm x = some u → V3 g H w u (a.eval x)) → V3 g H w X (a.eval x) ∧ V3 g H w Y (a.eval y) :=
    fun a w g H hh => ⟨hh x (by simp [ho, Op.operands]) X hx, hh y (by simp [ho, Op.operands]) Y hy⟩
  unfold binK at h
  split at h
  case h_1 k a' k' b' =>
    split at h
    · rcases cond_some h with ⟨_, h⟩ | ⟨h0, h⟩
      · cases h
      · refine ⟨_, h, opN_pure fun a w g H _ _ hh _ => ?_⟩
        obtain ⟨h1, h2⟩ := ops a w g H hh
        rw [V3_int] at h1 h2
        refine ⟨_, binOp_run ho (eqGuard_plain (.inl ⟨_, _, h1⟩)) ?_, V3_int.2 rfl⟩
        have hb : ¬ b' < 0 := by simpa [ilt_eq] using h0
        simp [binOp, h1, h2, Op.shift, hb, ishl_eq]
    · rcases cond_some h with ⟨_, h⟩ | ⟨h0, h⟩
      · cases h
      · refine ⟨_, h, opN_pure fun a w g H _ _ hh _ => ?_⟩
        obtain ⟨h1, h2⟩ := ops a w g H hh
        rw [V3_int] at h1 h2
        refine ⟨_, binOp_run ho (eqGuard_plain (.inl ⟨_, _, h1⟩)) ?_, V3_int.2 rfl⟩
        have hb : ¬ b' < 0 := by simpa [ilt_eq] using h0
        simp [binOp, h1, h2, Op.shift, hb, ishr_eq]
    · rename_i hne1 hne2
      obtain ⟨hk, h⟩ := cond_none h
      have hk : k = k' := of_decide_eq_true hk
      subst hk
      simp only [decide_true, cond_true] at h
      obtain ⟨v, hv, vv, hr, hor⟩ := intBin_ok (P := P) h
      refine ⟨v, hv, opN_pure fun a w g H _ _ hh _ => ?_⟩
      obtain ⟨h1, h2⟩ := ops a w g H hh
      rw [V3_int] at h1 h2
      refine ⟨vv, binOp_run ho (eqGuard_plain (.inl ⟨_, _, h1⟩)) ?_, ?_⟩
      · rw [h1, h2]
        have := hr w
        cases op <;> first
          | exact absurd rfl hne1
          | exact absurd rfl hne2
          | simpa [binOp] using this
      · rcases hor with ⟨n, rfl, rfl⟩ | ⟨t, rfl, rfl⟩
        · exact V3_int.2 rfl
        · exact V3_bool.2 rfl
  case h_2 p q =>
    split at h
    · obtain ⟨hf, h⟩ := cond_none h
      refine ⟨_, h, opN_pure fun a w g H _ _ hh _ => ?_⟩
      obtain ⟨h1, h2⟩ := ops a w g H hh
      rw [V3_str] at h1 h2
      refine ⟨_, binOp_run ho (eqGuard_plain (.inr (.inr (.inl ⟨_, h1⟩)))) ?_, V3_str.2 rfl⟩
      have hf : (p.length : Int) + q.length ≤ 140737488355328 := by simpa [fits_eq, iadd_eq, ilen_eq] using hf
      have hs : ¬ ((((⟨⟨p⟩⟩ : ByteArray).size + (⟨⟨q⟩⟩ : ByteArray).size : Nat) : Int) > IntKind.i64.max) := by
        show ¬ (((p.length + q.length : Nat) : Int) > IntKind.i64.max)
        simp [IntKind.max, IntKind.signed, IntKind.bits]
        omega
      have e : (⟨⟨p⟩⟩ : ByteArray) ++ ⟨⟨q⟩⟩ = ⟨⟨p ++ q⟩⟩ := by
        apply ByteArray.ext
        rw [ByteArray.data_append]
        simp
      simp only [binOp, h1, h2, Op.stringOp, hs, if_false, Sem.run_pure, e, lcat_eq]
    all_goals first
      | (refine ⟨_, h, opN_pure fun a w g H _ _ hh _ => ?_⟩
         obtain ⟨h1, h2⟩ := ops a w g H hh
         rw [V3_str] at h1 h2
         refine ⟨_, binOp_run ho (eqGuard_plain (.inr (.inr (.inl ⟨_, h1⟩)))) ?_, V3_bool.2 rfl⟩
         simp only [binOp, h1, h2, Op.stringOp, Sem.run_pure, bytes_eq, seq_eq])
      | cases h
  case h_3 => cases h

theorem binBool_ok {P : Program} {o : Oper} {tm : List AV} {hp : List Blk} {op : BinOp} {t ty : TypeId} {x y : Operand} (ho : o.op = .binOp op t x y ty) {p q : Bool}
    (hx : evD tm x = some (.bool p)) (hy : evD tm y = some (.bool q)) (ht : P.underlying t = some .bool) {κ : AV → R} {r : AV × List Blk} (h : binBoolK op p q κ = some r) :
    ∃ v, κ v = some r ∧ OpN P o tm hp v hp := by
  unfold binBoolK at h
  split at h <;> first
    | (refine ⟨_, h, opN_pure fun a w g H _ _ hh _ => ?_⟩
       have h1 := V3_bool.1 (hh x (by simp [ho, Op.operands]) _ hx)
       have h2 := V3_bool.1 (hh y (by simp [ho, Op.operands]) _ hy)
       refine ⟨_, binOp_run ho (eqGuard_plain (.inr (.inl ⟨_, h1⟩))) ?_, V3_bool.2 rfl⟩
       have := run_equalIn_bool (P := P) w 9999 t p q ht
       have : (Op.equal t (.bool p) (.bool q)).run P w = .ok (p == q) w := this
       simp only [binOp, h1, h2, Sem.run_bind, this, Result.andThen_ok, Sem.run_pure, beqb_eq])
    | cases h
end Go.AM
