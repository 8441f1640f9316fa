import Derived.Test.YtlacambjecjdbaaAmRel
set_option linter.unusedVariables false
set_option linter.unusedSimpArgs false
set_option linter.unnecessarySimpa false
/-! The continuation forms, told directly. -/
namespace Go.AM

theorem natK_eq {β : Type} (n : Nat) (κ : Nat → β) : natK n κ = κ n := by
  unfold natK; split <;> rfl

theorem getK_some {α : Type} {κ : α → R} {r : AV × List Blk} : ∀ {l : List α} {n : Nat}, getK l n κ = some r → ∃ a, l[n]? = some a ∧ κ a = some r
  | [], _, h => by simp [getK] at h
  | a :: _, 0, h => ⟨a, rfl, h⟩
  | _ :: l, n + 1, h => by simpa using getK_some (l := l) (n := n) h

theorem setK_eq {α : Type} : ∀ (l : List α) (n : Nat) (v : α) (κ : List α → R), setK l n v κ = κ (l.set n v)
  | [], _, _, _ => by simp [setK]
  | _ :: _, 0, _, _ => by simp [setK]
  | a :: l, n + 1, v, κ => by simp [setK, setK_eq l n v]

theorem snocK_eq {α : Type} : ∀ (l : List α) (b : α) (n : Nat) (κ : Nat → List α → R), snocK l b n κ = κ (n + l.length) (l ++ [b])
  | [], b, n, κ => by simp [snocK, natK_eq]
  | a :: l, b, n, κ => by simp [snocK, snocK_eq l b (n + 1)]; congr 1; omega

theorem takeK_some {κ : List AV → R} {r : AV × List Blk} : ∀ {l : List AV} {n : Nat}, takeK l n κ = some r → n ≤ l.length ∧ κ (l.take n) = some r
  | l, 0, h => by cases l <;> simpa [takeK] using h
  | [], n + 1, h => by simp [takeK] at h
  | a :: l, n + 1, h => by
    have := takeK_some (l := l) (n := n) (κ := fun l' => κ (a :: l')) h
    simpa using this

theorem dropK_some {κ : List AV → R} {r : AV × List Blk} : ∀ {l : List AV} {n : Nat}, dropK l n κ = some r → n ≤ l.length ∧ κ (l.drop n) = some r
  | l, 0, h => by cases l <;> simpa [dropK] using h
  | [], n + 1, h => by simp [dropK] at h
  | a :: l, n + 1, h => by
    have := dropK_some (l := l) (n := n) (κ := κ) h
    simpa using this

def splice {α : Type} (cs : List α) (off : Nat) (vs : List α) : List α := cs.take off ++ vs ++ cs.drop (off + vs.length)

theorem spliceK_some {κ : List AV → R} {r : AV × List Blk} : ∀ {cs : List AV} {off : Nat} {vs : List AV}, spliceK cs off vs κ = some r →
    off + vs.length ≤ cs.length + off ∧ (vs = [] ∨ off + vs.length ≤ cs.length) ∧ κ (if vs = [] then cs else splice cs off vs) = some r
  | cs, off, [], h => by
    have : spliceK cs off [] κ = κ cs := by cases cs <;> cases off <;> rfl
    rw [this] at h
    exact ⟨by simp, .inl rfl, by simpa using h⟩
  | [], off, v :: vs, h => by cases off <;> simp [spliceK] at h
  | c :: cs, 0, v :: vs, h => by
    obtain ⟨h1, h2, h3⟩ := spliceK_some (cs := cs) (off := 0) (vs := vs) (κ := fun l => κ (v :: l)) h
    refine ⟨by simp at h1 ⊢; omega, .inr ?_, ?_⟩
    · rcases h2 with rfl | h2
      · simp
      · simp at h2 ⊢; omega
    · cases vs with
      | nil => simpa [splice] using h3
      | cons x xs =>
        have e : 0 + (v :: x :: xs).length = (0 + (x :: xs).length) + 1 := by simp
        simp only [splice, e, List.drop_succ_cons] at h3 ⊢
        simpa using h3
  | c :: cs, off + 1, v :: vs, h => by
    obtain ⟨h1, h2, h3⟩ := spliceK_some (cs := cs) (off := off) (vs := v :: vs) (κ := fun l => κ (c :: l)) h
    refine ⟨by simp at h1 ⊢; omega, .inr ?_, ?_⟩
    · rcases h2 with h2 | h2
      · cases h2
      · simp at h2 ⊢; omega
    · have e : off + 1 + (v :: vs).length = (off + (v :: vs).length) + 1 := by omega
      simp only [splice, e, List.drop_succ_cons] at h3 ⊢
      simpa using h3

theorem lenK_eq {α β : Type} : ∀ (l : List α) (n : Nat) (κ : Nat → β), lenK l n κ = κ (n + l.length)
  | [], n, κ => by simp [lenK, natK_eq]
  | _ :: l, n, κ => by simp [lenK, lenK_eq l (n + 1)]; congr 1; omega

theorem apndB_eq {α : Type} : ∀ (xs ys : List α) (κ : List α → R), apndB xs ys κ = κ (xs ++ ys)
  | [], _, _ => rfl
  | x :: xs, ys, κ => by simp [apndB, apndB_eq xs ys]

theorem headB_some {κ : List Blk → R} {r : AV × List Blk} : ∀ {l : List Blk} {n : Nat}, headB l n κ = some r → n ≤ l.length ∧ κ (l.take n) = some r
  | l, 0, h => by cases l <;> simpa [headB] using h
  | [], n + 1, h => by simp [headB] at h
  | a :: l, n + 1, h => by
    have := headB_some (l := l) (n := n) (κ := fun l' => κ (a :: l')) h
    simpa using this

theorem gbind_some {α β : Type} {o : Option α} {f : α → Option β} {r : β} (h : gbind o f = some r) : ∃ a, o = some a ∧ f a = some r := by
  rw [gbind_eq] at h; exact Option.bind_eq_some_iff.mp h

theorem cond_some {α : Type} {b : Bool} {x y : Option α} {r : α} (h : (bif b then x else y) = some r) : (b = true ∧ x = some r) ∨ (b = false ∧ y = some r) := by
  cases b <;> simp_all

theorem cond_none {α : Type} {b : Bool} {x : Option α} {r : α} (h : (bif b then x else none) = some r) : b = true ∧ x = some r := by
  cases b <;> simp_all

/-- what a constant is -/
def constD (v : Value) : Option AV :=
  match v with
  | .int k n => some (.int k n)
  | .bool b => some (.bool b)
  | .string ⟨⟨l⟩⟩ => some (.str l)
  | .slice none 0 0 => some .nil
  | .nilIface => some .iface0
  | _ => none

theorem constK_eq (v : Value) (κ : AV → R) : constK v κ = (constD v).bind κ := by
  unfold constK constD
  split <;> simp_all

def evD (tm : List AV) (x : Operand) : Option AV :=
  match x with
  | .tmp t => tm[t]?
  | .const v => constD v
  | .func f => some (.fn f [] [])
  | .global _ => none

theorem getK_eq {α : Type} (κ : α → R) : ∀ (l : List α) (n : Nat), getK l n κ = l[n]?.bind κ
  | [], _ => by simp [getK]
  | _ :: _, 0 => by simp [getK]
  | _ :: l, n + 1 => by simp [getK, getK_eq κ l n]

theorem evK_eq (tm : List AV) (x : Operand) (κ : AV → R) : evK tm x κ = (evD tm x).bind κ := by
  cases x <;> simp [evK, evD, getK_eq, constK_eq]

def evsD (tm : List AV) : List Operand → Option (List AV)
  | [] => some []
  | x :: l => (evD tm x).bind fun v => (evsD tm l).bind fun vs => some (v :: vs)

theorem evsK_eq (tm : List AV) : ∀ (l : List Operand) (κ : List AV → R), evsK tm l κ = (evsD tm l).bind κ
  | [], κ => by simp [evsK, evsD]
  | x :: l, κ => by
    simp only [evsK, evsD, evK_eq, evsK_eq tm l]
    cases evD tm x <;> simp
    cases evsD tm l <;> simp

theorem evK_some {tm : List AV} {x : Operand} {κ : AV → R} {r : AV × List Blk} (h : evK tm x κ = some r) : ∃ v, evD tm x = some v ∧ κ v = some r := by
  rw [evK_eq] at h; exact Option.bind_eq_some_iff.mp h
theorem evsK_some {tm : List AV} {l : List Operand} {κ : List AV → R} {r : AV × List Blk} (h : evsK tm l κ = some r) : ∃ vs, evsD tm l = some vs ∧ κ vs = some r := by
  rw [evsK_eq] at h; exact Option.bind_eq_some_iff.mp h
theorem tyK_some {T : TypeId → Option TI} {t : TypeId} {κ : Nat → Bool → Nat → AV → TD → R} {r : AV × List Blk} (h : tyK T t κ = some r) :
    ∃ s a b z d, T t = some (.mk s a b z d) ∧ κ s a b z d = some r := by
  unfold tyK at h
  split at h
  · exact ⟨_, _, _, _, _, ‹_›, h⟩
  · cases h
end Go.AM
