import Derived.Test.YtlacambjecjdbaaAmDef
set_option linter.unusedVariables false
set_option linter.unusedSimpArgs false
set_option linter.unnecessarySimpa false
/-! Typed lists as abstract values, and the steps by which a run is told as a function. -/
namespace Go.AM

/-- so many unknown slots ahead -/
def topA : Nat → List AV → List AV
  | 0, l => l
  | n + 1, l => .top :: topA n l

structure Pt where
  x : Int
  y : Int
  deriving DecidableEq, Inhabited
structure Mv where
  A : Int
  B : Int
  C : Int
  D : Int
  X : Int
  Y : Int
  deriving DecidableEq, Inhabited
def ep (p : Pt) : AV := .agg [.int .i64 p.x, .int .i64 p.y]
def em (m : Mv) : AV := .agg [.int .i64 m.A, .int .i64 m.B, .int .i64 m.C, .int .i64 m.D, .int .i64 m.X, .int .i64 m.Y]
def eI (n : Int) : AV := .int .i64 n
def eU (n : Int) : AV := .int .u8 n
def eS (l : List UInt8) : AV := .str l
def eLP (l : List Pt) : AV := .lst false false 2 (l.map ep)
def eLI (l : List Int) : AV := .lst false false 1 (l.map eI)
def eLLP (l : List (List Pt)) : AV := .lst false false 1 (l.map eLP)

section
variable {α β : Type} (e : α → β)
theorem map_lcat (a b : List α) : List.map e (lcat a b) = lcat (List.map e a) (List.map e b) := by simp [lcat_eq]
theorem map_lsub (a : List α) (i j : Int) : List.map e (lsub a i j) = lsub (List.map e a) i j := by simp [lsub_eq, List.map_take, List.map_drop]
theorem map_lset (a : List α) (i : Int) (v : α) : List.map e (lset a i v) = lset (List.map e a) i (e v) := by simp [lset_eq, List.map_set]
theorem map_lrep (n : Int) (v : α) : List.map e (lrep n v) = lrep n (e v) := by simp [lrep_eq]
theorem ilen_map (a : List α) : ilen (List.map e a) = ilen a := by simp [ilen_eq]
end

/-- what turns a typed list's words into those of its values -/
theorem ml : (∀ (α β : Type) (e : α → β) (a b : List α), List.map e (lcat a b) = lcat (List.map e a) (List.map e b)) ∧
    (∀ (α β : Type) (e : α → β) (a : List α) (i j : Int), List.map e (lsub a i j) = lsub (List.map e a) i j) ∧
    (∀ (α β : Type) (e : α → β) (a : List α) (i : Int) (v : α), List.map e (lset a i v) = lset (List.map e a) i (e v)) ∧
    (∀ (α β : Type) (e : α → β) (n : Int) (v : α), List.map e (lrep n v) = lrep n (e v)) ∧
    (∀ (α β : Type) (e : α → β) (a : α) (l : List α), List.map e (a :: l) = e a :: List.map e l) ∧
    (∀ (α β : Type) (e : α → β), List.map e [] = []) ∧
    (∀ p, ep p = .agg [.int .i64 p.x, .int .i64 p.y]) ∧ (∀ n, eI n = .int .i64 n) ∧ (∀ n, eU n = .int .u8 n) ∧ (∀ l, eS l = .str l) ∧
    (∀ l, eLP l = .lst false false 2 (l.map ep)) ∧ (∀ l, eLI l = .lst false false 1 (l.map eI)) ∧ (∀ l, eLLP l = .lst false false 1 (l.map eLP)) ∧
    (∀ m, em m = .agg [.int .i64 m.A, .int .i64 m.B, .int .i64 m.C, .int .i64 m.D, .int .i64 m.X, .int .i64 m.Y]) :=
  ⟨fun _ _ e a b => map_lcat e a b, fun _ _ e a i j => map_lsub e a i j, fun _ _ e a i v => map_lset e a i v, fun _ _ e n v => map_lrep e n v, fun _ _ _ _ _ => rfl, fun _ _ _ => rfl,
    fun _ => rfl, fun _ => rfl, fun _ => rfl, fun _ => rfl, fun _ => rfl, fun _ => rfl, fun _ => rfl, fun _ => rfl⟩

theorem t_cond {α β : Type} {e : α → β} {b : Bool} {x y : Option β} {x' y' : Option α} (h1 : x = Option.map e x') (h2 : y = Option.map e y') :
    (bif b then x else y) = Option.map e (bif b then x' else y') := by cases b <;> assumption
theorem t_none {α β : Type} {e : α → β} : none = Option.map e none := rfl
theorem t_ret {α β : Type} {e : α → β} {v : β} {r : α} (h : v = e r) : some v = Option.map e (some r) := by rw [h]; rfl
theorem t_get {α β γ : Type} {e : α → β} {en : γ → AV} {xs : List AV} {l : List γ} {i : Int} {f : AV → Option β} {g : γ → Option α} (h : xs = List.map en l)
    (hf : ∀ p, f (en p) = Option.map e (g p)) : gbind (lget xs i) f = Option.map e (gbind (lget l i) g) := by
  subst h
  simp only [gbind_eq, lget_eq]
  split
  · rw [List.getElem?_map]; cases l[i.toNat]? <;> simp [hf]
  · rfl
theorem t_gets {α β : Type} {e : α → β} {l : List UInt8} {i : Int} {f : UInt8 → Option β} {g : UInt8 → Option α}
    (hf : ∀ p, f p = Option.map e (g p)) : gbind (lget l i) f = Option.map e (gbind (lget l i) g) := by
  simp only [gbind_eq]
  cases lget l i <;> simp [hf]
theorem t_call {α β γ : Type} {e : α → β} {eg : γ → AV × List Blk} {C : R} {G : Option γ} {F : AV × List Blk → Option β} {g : γ → Option α} (h : C = Option.map eg G)
    (hf : ∀ r, F (eg r) = Option.map e (g r)) : gbind C F = Option.map e (gbind G g) := by
  subst h
  simp only [gbind_eq]
  cases G <;> simp [hf]
theorem t_agree {α β : Type} {e : α → β} {x y : Option β} {x' : Option α} (h1 : x = Option.map e x') (h2 : y = x) : agree x y = Option.map e x' := by
  unfold agree
  rw [h2]; simp [h1]
end Go.AM
namespace Go.AM
theorem t_loop {α σ : Type} {e : α → AV × List Blk} {B : K → List AV → List Blk → R} {cn : List AV → List Blk → (List AV → List Blk → R) → R} {k : K}
    (S : σ → List AV × List Blk) (l0 : Nat → σ → Option α) (h0 : ∀ s, l0 0 s = none)
    (hs : ∀ m s (rec : List AV → List Blk → R), (∀ s tm hp, tm = (S s).1 → hp = (S s).2 → rec tm hp = Option.map e (l0 m s)) →
      B (fun x tm hp => match x with | .normal => cn tm hp rec | x => k x tm hp) (S s).1 (S s).2 = Option.map e (l0 (m + 1) s)) :
    ∀ (m : Nat) (s : σ) {tm : List AV} {hp : List Blk}, tm = (S s).1 → hp = (S s).2 → iterK B cn k m tm hp = Option.map e (l0 m s) := by
  intro m
  induction m with
  | zero => intro s tm hp h1 h2; rw [h0]; rfl
  | succ m ih =>
    intro s tm hp h1 h2
    subst h1; subst h2
    exact hs m s (iterK B cn k m) fun s tm hp h1 h2 => ih s h1 h2
end Go.AM
