import Derived.Calls
set_option linter.unusedVariables false
set_option linter.unusedSimpArgs false
set_option linter.unnecessarySimpa false
/-! An abstract machine over the loaded code: lists in place of slices, tokens for memory of the call's own. -/
namespace Go.AM

inductive AV where
  | top
  | int (k : IntKind) (n : Int)
  | bool (b : Bool)
  | str (l : List UInt8)
  | nil
  | iface0
  | lst (o cap : Bool) (E : Nat) (xs : List AV)   -- read only; o: may lie in an argument's memory; cap: no room behind it
  | frs (E : Nat) (xs : List AV)                  -- a result: a slice of its own memory
  | own (τ E : Nat) (r : Option (Int × Int)) (cap : Bool)   -- token τ's rows: all, or so many from one on
  | ptr (τ : Nat) (idx : Int) (off E : Nat)
  | at (x : AV) (off : Nat)
  | fn (f : FuncId) (first caps : List AV)
  | agg (cs : List AV)
  | tup (vs : List AV)
  deriving Inhabited

inductive Mode where | live | frozen | dead

inductive Blk where
  | box (v : AV)
  | rows (m : Mode) (E : Nat) (xs : List AV)

inductive TD where
  | int (k : IntKind) | bool | str | slice (e : TypeId) | array (n : Nat) (e : TypeId)
  | struct (fs : List (Nat × TypeId)) (eq : Bool)   -- eq: plain integers, compared cell by cell
  | ptr (e : TypeId) | other

/-- what is used of a type: cells, is it an aggregate, bytes, the zero value, its shape -/
inductive TI where
  | mk (size : Nat) (agg : Bool) (bytes : Nat) (zero : AV) (d : TD)

inductive St where
  | mk (tm : List AV) (hp : List Blk)

abbrev R := Option (AV × List Blk)
abbrev CF := FuncId → List AV → List Blk → R

/-! words that evaluation leaves alone: each is told by its equation -/
theorem wr_ex : ∃ f : IntKind → Int → Int, ∀ k n, f k n = (k.wrap n) := ⟨fun k n => k.wrap n, fun _ _ => rfl⟩
@[irreducible] noncomputable def wr : IntKind → Int → Int := Classical.choose (wr_ex)
theorem wr_eq (k : IntKind) (n : Int) : wr k n = (k.wrap n) := by unfold wr; exact Classical.choose_spec (wr_ex) k n
theorem iadd_ex : ∃ f : Int → Int → Int, ∀ a b, f a b = (a + b) := ⟨fun a b => a + b, fun _ _ => rfl⟩
@[irreducible] noncomputable def iadd : Int → Int → Int := Classical.choose (iadd_ex)
theorem iadd_eq (a : Int) (b : Int) : iadd a b = (a + b) := by unfold iadd; exact Classical.choose_spec (iadd_ex) a b
theorem isub_ex : ∃ f : Int → Int → Int, ∀ a b, f a b = (a - b) := ⟨fun a b => a - b, fun _ _ => rfl⟩
@[irreducible] noncomputable def isub : Int → Int → Int := Classical.choose (isub_ex)
theorem isub_eq (a : Int) (b : Int) : isub a b = (a - b) := by unfold isub; exact Classical.choose_spec (isub_ex) a b
theorem imul_ex : ∃ f : Int → Int → Int, ∀ a b, f a b = (a * b) := ⟨fun a b => a * b, fun _ _ => rfl⟩
@[irreducible] noncomputable def imul : Int → Int → Int := Classical.choose (imul_ex)
theorem imul_eq (a : Int) (b : Int) : imul a b = (a * b) := by unfold imul; exact Classical.choose_spec (imul_ex) a b
theorem iquo_ex : ∃ f : Int → Int → Int, ∀ a b, f a b = (a.tdiv b) := ⟨fun a b => a.tdiv b, fun _ _ => rfl⟩
@[irreducible] noncomputable def iquo : Int → Int → Int := Classical.choose (iquo_ex)
theorem iquo_eq (a : Int) (b : Int) : iquo a b = (a.tdiv b) := by unfold iquo; exact Classical.choose_spec (iquo_ex) a b
theorem irem_ex : ∃ f : Int → Int → Int, ∀ a b, f a b = (a.tmod b) := ⟨fun a b => a.tmod b, fun _ _ => rfl⟩
@[irreducible] noncomputable def irem : Int → Int → Int := Classical.choose (irem_ex)
theorem irem_eq (a : Int) (b : Int) : irem a b = (a.tmod b) := by unfold irem; exact Classical.choose_spec (irem_ex) a b
theorem iand_ex : ∃ f : IntKind → Int → Int → Int, ∀ k a b, f k a b = (k.wrap (BitVec.ofInt k.bits a &&& BitVec.ofInt k.bits b).toNat) := ⟨fun k a b => k.wrap (BitVec.ofInt k.bits a &&& BitVec.ofInt k.bits b).toNat, fun _ _ _ => rfl⟩
@[irreducible] noncomputable def iand : IntKind → Int → Int → Int := Classical.choose (iand_ex)
theorem iand_eq (k : IntKind) (a : Int) (b : Int) : iand k a b = (k.wrap (BitVec.ofInt k.bits a &&& BitVec.ofInt k.bits b).toNat) := by unfold iand; exact Classical.choose_spec (iand_ex) k a b
theorem ishl_ex : ∃ f : IntKind → Int → Int → Int, ∀ k a b, f k a b = (k.wrap (a * 2 ^ min b.toNat k.bits)) := ⟨fun k a b => k.wrap (a * 2 ^ min b.toNat k.bits), fun _ _ _ => rfl⟩
@[irreducible] noncomputable def ishl : IntKind → Int → Int → Int := Classical.choose (ishl_ex)
theorem ishl_eq (k : IntKind) (a : Int) (b : Int) : ishl k a b = (k.wrap (a * 2 ^ min b.toNat k.bits)) := by unfold ishl; exact Classical.choose_spec (ishl_ex) k a b
theorem ishr_ex : ∃ f : IntKind → Int → Int → Int, ∀ k a b, f k a b = (a.fdiv (2 ^ min b.toNat k.bits)) := ⟨fun k a b => a.fdiv (2 ^ min b.toNat k.bits), fun _ _ _ => rfl⟩
@[irreducible] noncomputable def ishr : IntKind → Int → Int → Int := Classical.choose (ishr_ex)
theorem ishr_eq (k : IntKind) (a : Int) (b : Int) : ishr k a b = (a.fdiv (2 ^ min b.toNat k.bits)) := by unfold ishr; exact Classical.choose_spec (ishr_ex) k a b
theorem imax_ex : ∃ f : Int → Int → Int, ∀ a b, f a b = (if b > a then b else a) := ⟨fun a b => if b > a then b else a, fun _ _ => rfl⟩
@[irreducible] noncomputable def imax : Int → Int → Int := Classical.choose (imax_ex)
theorem imax_eq (a : Int) (b : Int) : imax a b = (if b > a then b else a) := by unfold imax; exact Classical.choose_spec (imax_ex) a b
theorem imin_ex : ∃ f : Int → Int → Int, ∀ a b, f a b = (if b < a then b else a) := ⟨fun a b => if b < a then b else a, fun _ _ => rfl⟩
@[irreducible] noncomputable def imin : Int → Int → Int := Classical.choose (imin_ex)
theorem imin_eq (a : Int) (b : Int) : imin a b = (if b < a then b else a) := by unfold imin; exact Classical.choose_spec (imin_ex) a b
theorem ilt_ex : ∃ f : Int → Int → Bool, ∀ a b, f a b = (decide (a < b)) := ⟨fun a b => decide (a < b), fun _ _ => rfl⟩
@[irreducible] noncomputable def ilt : Int → Int → Bool := Classical.choose (ilt_ex)
theorem ilt_eq (a : Int) (b : Int) : ilt a b = (decide (a < b)) := by unfold ilt; exact Classical.choose_spec (ilt_ex) a b
theorem ile_ex : ∃ f : Int → Int → Bool, ∀ a b, f a b = (decide (a ≤ b)) := ⟨fun a b => decide (a ≤ b), fun _ _ => rfl⟩
@[irreducible] noncomputable def ile : Int → Int → Bool := Classical.choose (ile_ex)
theorem ile_eq (a : Int) (b : Int) : ile a b = (decide (a ≤ b)) := by unfold ile; exact Classical.choose_spec (ile_ex) a b
theorem ieq_ex : ∃ f : Int → Int → Bool, ∀ a b, f a b = (decide (a = b)) := ⟨fun a b => decide (a = b), fun _ _ => rfl⟩
@[irreducible] noncomputable def ieq : Int → Int → Bool := Classical.choose (ieq_ex)
theorem ieq_eq (a : Int) (b : Int) : ieq a b = (decide (a = b)) := by unfold ieq; exact Classical.choose_spec (ieq_ex) a b
theorem beqb_ex : ∃ f : Bool → Bool → Bool, ∀ a b, f a b = ((a == b)) := ⟨fun a b => (a == b), fun _ _ => rfl⟩
@[irreducible] noncomputable def beqb : Bool → Bool → Bool := Classical.choose (beqb_ex)
theorem beqb_eq (a : Bool) (b : Bool) : beqb a b = ((a == b)) := by unfold beqb; exact Classical.choose_spec (beqb_ex) a b
theorem seq_ex : ∃ f : List UInt8 → List UInt8 → Bool, ∀ a b, f a b = ((a == b)) := ⟨fun a b => (a == b), fun _ _ => rfl⟩
@[irreducible] noncomputable def seq : List UInt8 → List UInt8 → Bool := Classical.choose (seq_ex)
theorem seq_eq (a : List UInt8) (b : List UInt8) : seq a b = ((a == b)) := by unfold seq; exact Classical.choose_spec (seq_ex) a b
theorem fits_ex : ∃ f : Int → Nat → Bool, ∀ n b, f n b = (decide (n * b ≤ 140737488355328)) := ⟨fun n b => decide (n * b ≤ 140737488355328), fun _ _ => rfl⟩
@[irreducible] noncomputable def fits : Int → Nat → Bool := Classical.choose (fits_ex)
theorem fits_eq (n : Int) (b : Nat) : fits n b = (decide (n * b ≤ 140737488355328)) := by unfold fits; exact Classical.choose_spec (fits_ex) n b
theorem bchr_ex : ∃ f : UInt8 → Int, ∀ b, f b = ((b.toNat : Int)) := ⟨fun b => (b.toNat : Int), fun _ => rfl⟩
@[irreducible] noncomputable def bchr : UInt8 → Int := Classical.choose (bchr_ex)
theorem bchr_eq (b : UInt8) : bchr b = ((b.toNat : Int)) := by unfold bchr; exact Classical.choose_spec (bchr_ex) b
theorem ilen_ex (α : Type) : ∃ f : List α → Int, ∀ xs, f xs = ((xs.length : Int)) := ⟨fun xs => (xs.length : Int), fun _ => rfl⟩
@[irreducible] noncomputable def ilen {α : Type} : List α → Int := Classical.choose (ilen_ex α)
theorem ilen_eq {α : Type} (xs : List α) : ilen xs = ((xs.length : Int)) := by unfold ilen; exact Classical.choose_spec (ilen_ex α) xs
theorem lget_ex (α : Type) : ∃ f : List α → Int → Option α, ∀ xs i, f xs i = (if 0 ≤ i then xs[i.toNat]? else none) := ⟨fun xs i => if 0 ≤ i then xs[i.toNat]? else none, fun _ _ => rfl⟩
@[irreducible] noncomputable def lget {α : Type} : List α → Int → Option α := Classical.choose (lget_ex α)
theorem lget_eq {α : Type} (xs : List α) (i : Int) : lget xs i = (if 0 ≤ i then xs[i.toNat]? else none) := by unfold lget; exact Classical.choose_spec (lget_ex α) xs i
theorem lset_ex (α : Type) : ∃ f : List α → Int → α → List α, ∀ xs i v, f xs i v = (xs.set i.toNat v) := ⟨fun xs i v => xs.set i.toNat v, fun _ _ _ => rfl⟩
@[irreducible] noncomputable def lset {α : Type} : List α → Int → α → List α := Classical.choose (lset_ex α)
theorem lset_eq {α : Type} (xs : List α) (i : Int) (v : α) : lset xs i v = (xs.set i.toNat v) := by unfold lset; exact Classical.choose_spec (lset_ex α) xs i v
theorem lcat_ex (α : Type) : ∃ f : List α → List α → List α, ∀ xs ys, f xs ys = (xs ++ ys) := ⟨fun xs ys => xs ++ ys, fun _ _ => rfl⟩
@[irreducible] noncomputable def lcat {α : Type} : List α → List α → List α := Classical.choose (lcat_ex α)
theorem lcat_eq {α : Type} (xs : List α) (ys : List α) : lcat xs ys = (xs ++ ys) := by unfold lcat; exact Classical.choose_spec (lcat_ex α) xs ys
theorem lsub_ex (α : Type) : ∃ f : List α → Int → Int → List α, ∀ xs lo hi, f xs lo hi = ((xs.drop lo.toNat).take (hi - lo).toNat) := ⟨fun xs lo hi => (xs.drop lo.toNat).take (hi - lo).toNat, fun _ _ _ => rfl⟩
@[irreducible] noncomputable def lsub {α : Type} : List α → Int → Int → List α := Classical.choose (lsub_ex α)
theorem lsub_eq {α : Type} (xs : List α) (lo : Int) (hi : Int) : lsub xs lo hi = ((xs.drop lo.toNat).take (hi - lo).toNat) := by unfold lsub; exact Classical.choose_spec (lsub_ex α) xs lo hi
theorem lrep_ex (α : Type) : ∃ f : Int → α → List α, ∀ n v, f n v = (List.replicate n.toNat v) := ⟨fun n v => List.replicate n.toNat v, fun _ _ => rfl⟩
@[irreducible] noncomputable def lrep {α : Type} : Int → α → List α := Classical.choose (lrep_ex α)
theorem lrep_eq {α : Type} (n : Int) (v : α) : lrep n v = (List.replicate n.toNat v) := by unfold lrep; exact Classical.choose_spec (lrep_ex α) n v
theorem gbind_ex (α β : Type) : ∃ f : Option α → (α → Option β) → Option β, ∀ o g, f o g = o.bind g := ⟨fun o g => o.bind g, fun _ _ => rfl⟩
@[irreducible] noncomputable def gbind {α β : Type} : Option α → (α → Option β) → Option β := Classical.choose (gbind_ex α β)
theorem gbind_eq {α β : Type} (o : Option α) (g : α → Option β) : gbind o g = o.bind g := by unfold gbind; exact Classical.choose_spec (gbind_ex α β) o g
/-- both ways give this -/
@[irreducible] noncomputable def agree {α : Type} (x y : Option α) : Option α := @ite _ (x = y) (Classical.propDecidable _) x none

def natK {β : Type} (n : Nat) (κ : Nat → β) : β :=
  match n with
  | 0 => κ 0 | 1 => κ 1 | 2 => κ 2 | 3 => κ 3 | 4 => κ 4 | 5 => κ 5 | 6 => κ 6 | 7 => κ 7 | 8 => κ 8 | 9 => κ 9
  | 10 => κ 10 | 11 => κ 11 | 12 => κ 12 | 13 => κ 13 | 14 => κ 14 | 15 => κ 15 | 16 => κ 16 | 17 => κ 17 | 18 => κ 18 | 19 => κ 19
  | n => κ n

def constK (v : Value) (κ : AV → R) : R :=
  match v with
  | .int k n => κ (.int k n)
  | .bool b => κ (.bool b)
  | .string ⟨⟨l⟩⟩ => κ (.str l)
  | .slice none 0 0 => κ .nil
  | .nilIface => κ .iface0
  | _ => none

def getK {α : Type} : List α → Nat → (α → R) → R
  | [], _, _ => none
  | a :: _, 0, κ => κ a
  | _ :: l, n + 1, κ => getK l n κ

def setK {α : Type} : List α → Nat → α → (List α → R) → R
  | [], _, _, κ => κ []
  | _ :: l, 0, v, κ => κ (v :: l)
  | a :: l, n + 1, v, κ => setK l n v fun l' => κ (a :: l')

def snocK {α : Type} : List α → α → Nat → (Nat → List α → R) → R
  | [], b, n, κ => natK n fun n => κ n [b]
  | a :: l, b, n, κ => snocK l b (n + 1) fun m l' => κ m (a :: l')

def takeK : List AV → Nat → (List AV → R) → R
  | _, 0, κ => κ []
  | [], _, _ => none
  | a :: l, n + 1, κ => takeK l n fun l' => κ (a :: l')

def dropK : List AV → Nat → (List AV → R) → R
  | l, 0, κ => κ l
  | [], _, _ => none
  | _ :: l, n + 1, κ => dropK l n κ

/-- `vs` laid over `cs` from place `off` on -/
def spliceK : List AV → Nat → List AV → (List AV → R) → R
  | cs, _, [], κ => κ cs
  | [], _, _, _ => none
  | _ :: cs, 0, v :: vs, κ => spliceK cs 0 vs fun l => κ (v :: l)
  | c :: cs, off + 1, vs, κ => spliceK cs off vs fun l => κ (c :: l)

def lenK {α β : Type} : List α → Nat → (Nat → β) → β
  | [], n, κ => natK n κ
  | _ :: l, n, κ => lenK l (n + 1) κ

def cells : AV → List AV
  | .agg cs => cs
  | x => [x]

noncomputable def evK (tm : List AV) (x : Operand) (κ : AV → R) : R :=
  match x with
  | .tmp t => getK tm t κ
  | .const v => constK v κ
  | .func f => κ (.fn f [] [])
  | .global _ => none

noncomputable def evsK (tm : List AV) : List Operand → (List AV → R) → R
  | [], κ => κ []
  | x :: l, κ => evK tm x fun v => evsK tm l fun vs => κ (v :: vs)

/-- a part of the value `v`, of `size` cells, from cell `off` on -/
noncomputable def partK (size : Nat) (ag : Bool) (v : AV) (off : Nat) (κ : AV → R) : R :=
  match v, ag with
  | .agg cs, true => bif Nat.beq off 0 && Nat.beq size cs.length then κ (.agg cs) else dropK cs off fun l => takeK l size fun l => κ (.agg l)
  | .agg cs, false => getK cs off κ
  | .top, _ => none
  | .tup _, _ => none
  | v, false => bif Nat.beq off 0 then κ v else none
  | _, _ => none

/-- the value `v` (of `size` cells) laid into `x` from cell `off` on -/
noncomputable def layK (size : Nat) (x : AV) (off : Nat) (v : AV) (κ : AV → R) : R :=
  match x, v with
  | .agg cs, .agg vs => bif Nat.beq size vs.length then spliceK cs off vs fun l => κ (.agg l) else none
  | .agg _, .top => none
  | .agg _, .tup _ => none
  | .agg _, .fn _ _ _ => none
  | .agg _, .frs _ _ => none
  | .agg cs, v => bif Nat.beq size 1 then spliceK cs off [v] fun l => κ (.agg l) else none
  | .tup _, _ => none
  | .top, _ => none
  | .fn _ _ _, _ => none
  | _, .agg _ => none
  | _, .top => none
  | _, .tup _ => none
  | _, .fn _ _ _ => none
  | _, .frs _ _ => none
  | _, v => bif Nat.beq off 0 && Nat.beq size 1 then κ v else none

/-- may it lie in a variable of its own? -/
noncomputable def boxK (v : AV) (κ : AV → R) : R :=
  match v with
  | .top => none
  | .tup _ => none
  | .fn _ _ _ => none
  | .frs _ _ => none
  | v => κ v

noncomputable def tyK (T : TypeId → Option TI) (t : TypeId) (κ : Nat → Bool → Nat → AV → TD → R) : R :=
  match T t with
  | some (.mk s a b z d) => κ s a b z d
  | none => none

/-- the rows that an own slice means -/
noncomputable def rowsOf (r : Option (Int × Int)) (xs : List AV) (κ : List AV → R) : R :=
  match r with
  | none => κ xs
  | some (o, l) => κ (lsub xs o (iadd o l))

/-- how many rows -/
noncomputable def lenOf (r : Option (Int × Int)) (xs : List AV) (κ : Int → R) : R :=
  match r with
  | none => κ (ilen xs)
  | some (_, l) => κ l

/-- what may lie in rows: an own slice is frozen there -/
noncomputable def pur1K (hp : List Blk) (v : AV) (κ : AV → List Blk → R) : R :=
  match v with
  | .int k n => κ (.int k n) hp
  | .bool b => κ (.bool b) hp
  | .str l => κ (.str l) hp
  | .nil => κ .nil hp
  | .iface0 => κ .iface0 hp
  | .lst o c E xs => bif o then none else κ (.lst false c E xs) hp
  | .own τ E r c => getK hp τ fun
      | .rows .live E' xs => bif Nat.beq E E' then setK hp τ (.rows .frozen E' xs) fun hp => rowsOf r xs fun ys => κ (.lst false c E ys) hp else none
      | .rows .frozen E' xs => bif Nat.beq E E' then rowsOf r xs fun ys => κ (.lst false c E ys) hp else none
      | _ => none
  | _ => none

noncomputable def pursK (hp : List Blk) : List AV → (List AV → List Blk → R) → R
  | [], κ => κ [] hp
  | v :: l, κ => pur1K hp v fun v hp => pursK hp l fun l hp => κ (v :: l) hp

noncomputable def purK (hp : List Blk) (v : AV) (κ : AV → List Blk → R) : R :=
  match v with
  | .agg cs => pursK hp cs fun cs hp => κ (.agg cs) hp
  | v => pur1K hp v κ

/-- lent for the time of a call: what it reads stays as it is -/
noncomputable def lend1K (hp : List Blk) (v : AV) (κ : AV → Bool → R) : R :=
  match v with
  | .own τ E r c => getK hp τ fun
      | .rows .live E' xs => bif Nat.beq E E' then rowsOf r xs fun ys => κ (.lst true c E ys) true else none
      | .rows .frozen E' xs => bif Nat.beq E E' then rowsOf r xs fun ys => κ (.lst false c E ys) false else none
      | _ => none
  | .ptr _ _ _ _ => none
  | .frs _ _ => none
  | .fn _ _ _ => none
  | .top => none
  | .agg _ => none
  | .tup _ => none
  | v => κ v false

noncomputable def lendsK (hp : List Blk) : List AV → (List AV → Bool → R) → R
  | [], κ => κ [] false
  | v :: l, κ => lend1K hp v fun v b => lendsK hp l fun l b' => κ (v :: l) (b || b')

def noAt : AV → Bool
  | .at _ _ => false
  | _ => true
def noAts : List AV → Bool
  | [] => true
  | v :: l => noAt v && noAts l

noncomputable def lend2K (hp : List Blk) (v : AV) (κ : AV → Bool → R) : R :=
  match v with
  | .agg cs => lendsK hp cs fun cs b => κ (.agg cs) b
  | .ptr τ idx off E => getK hp τ fun
      | .box (.agg cs) => lendsK hp cs fun cs _ => bif noAts cs then κ (.at (.agg cs) off) true else none
      | .box v => lend1K hp v fun v _ => bif noAt v then κ (.at v off) true else none
      | .rows .dead _ _ => none
      | .rows _ E' xs => bif Nat.beq E E' then gbind (lget xs idx) fun x => κ (.at x off) true else none
  | v => lend1K hp v κ

noncomputable def lends2K (hp : List Blk) : List AV → (List AV → Bool → R) → R
  | [], κ => κ [] false
  | v :: l, κ => lend2K hp v fun v b => lends2K hp l fun l b' => κ (v :: l) (b || b')

noncomputable def lend3K (hp : List Blk) (v : AV) (κ : AV → Bool → R) : R :=
  match v with
  | .fn f a c => lends2K hp a fun a b => lends2K hp c fun c b' => κ (.fn f a c) (b || b')
  | v => lend2K hp v κ

noncomputable def lends3K (hp : List Blk) : List AV → (List AV → Bool → R) → R
  | [], κ => κ [] false
  | v :: l, κ => lend3K hp v fun v b => lends3K hp l fun l b' => κ (v :: l) (b || b')

/-- may it lead into an argument's memory? -/
def far1 : AV → Bool
  | .lst o _ _ _ => o
  | .at _ _ => true
  | .fn _ _ _ => true
  | _ => false
def fars : List AV → Bool
  | [] => false
  | v :: l => far1 v || fars l
def far2 : AV → Bool
  | .agg cs => fars cs
  | v => far1 v
def fars2 : List AV → Bool
  | [] => false
  | v :: l => far2 v || fars2 l
def far : AV → Bool
  | .tup vs => fars2 vs
  | v => far2 v

/-- a result that names no token -/
def okR1 : AV → Bool
  | .own _ _ _ _ => false
  | .ptr _ _ _ _ => false
  | .fn _ _ _ => false
  | .tup _ => false
  | .agg _ => false
  | .top => false
  | _ => true
def okRs : List AV → Bool
  | [] => true
  | v :: l => okR1 v && okRs l
def okR2 : AV → Bool
  | .agg cs => okRs cs
  | v => okR1 v
def okRs2 : List AV → Bool
  | [] => true
  | v :: l => okR2 v && okRs2 l
def okR3 : AV → Bool
  | .tup vs => okRs2 vs
  | v => okR2 v
def isNl {α : Type} : List α → Bool
  | [] => true
  | _ => false

/-- a result's own slices become tokens -/
noncomputable def adopt1K (hp : List Blk) (v : AV) (κ : AV → List Blk → R) : R :=
  match v with
  | .frs E xs => snocK hp (.rows .live E xs) 0 fun n hp => κ (.own n E none false) hp
  | v => κ v hp
noncomputable def adoptsK (hp : List Blk) : List AV → (List AV → List Blk → R) → R
  | [], κ => κ [] hp
  | v :: l, κ => adopt1K hp v fun v hp => adoptsK hp l fun l hp => κ (v :: l) hp
noncomputable def adopt2K (hp : List Blk) (v : AV) (κ : AV → List Blk → R) : R :=
  match v with
  | .agg cs => adoptsK hp cs fun cs hp => κ (.agg cs) hp
  | v => adopt1K hp v κ
noncomputable def adopts2K (hp : List Blk) : List AV → (List AV → List Blk → R) → R
  | [], κ => κ [] hp
  | v :: l, κ => adopt2K hp v fun v hp => adopts2K hp l fun l hp => κ (v :: l) hp
noncomputable def adoptK (hp : List Blk) (v : AV) (κ : AV → List Blk → R) : R :=
  match v with
  | .tup vs => adopts2K hp vs fun vs hp => κ (.tup vs) hp
  | v => adopt2K hp v κ

noncomputable def apnd : List AV → List AV → List AV
  | [], ys => ys
  | x :: xs, ys => x :: apnd xs ys


/-! what a loop's head keeps -/
def memN : List Nat → Nat → Bool
  | [], _ => false
  | a :: l, n => bif Nat.beq a n then true else memN l n

def idxN : List Nat → Nat → Nat → (Nat → R) → R
  | [], _, _, _ => none
  | a :: l, n, m, κ => bif Nat.beq a n then natK m κ else idxN l n (m + 1) κ

def snocN (l : List Nat) (n : Nat) : List Nat :=
  match l with
  | [] => [n]
  | a :: l => a :: snocN l n

/-- the tokens from `b0` on that a value names, put behind `acc` -/
noncomputable def tok1 (b0 : Nat) (acc : List Nat) : AV → List Nat
  | .own τ _ _ _ => bif Nat.ble b0 τ then bif memN acc τ then acc else snocN acc τ else acc
  | .ptr τ _ _ _ => bif Nat.ble b0 τ then bif memN acc τ then acc else snocN acc τ else acc
  | _ => acc
noncomputable def toks (b0 : Nat) (acc : List Nat) : List AV → List Nat
  | [] => acc
  | v :: l => toks b0 (tok1 b0 acc v) l
noncomputable def tok2 (b0 : Nat) (acc : List Nat) : AV → List Nat
  | .agg cs => toks b0 acc cs
  | .tup cs => toks b0 acc cs
  | v => tok1 b0 acc v
noncomputable def toks2 (b0 : Nat) (acc : List Nat) : List AV → List Nat
  | [] => acc
  | v :: l => toks2 b0 (tok2 b0 acc v) l
noncomputable def tok3 (b0 : Nat) (acc : List Nat) : AV → List Nat
  | .fn _ a c => toks2 b0 (toks2 b0 acc a) c
  | v => tok2 b0 acc v
noncomputable def toks3 (b0 : Nat) (acc : List Nat) : List AV → List Nat
  | [] => acc
  | v :: l => toks3 b0 (tok3 b0 acc v) l

noncomputable def boxTok (b0 : Nat) (hp : List Blk) (acc : List Nat) : Nat → List Nat
  | τ => match hp[τ]? with
    | some (.box v) => tok2 b0 acc v
    | _ => acc
noncomputable def boxToks (b0 : Nat) (hp : List Blk) (acc : List Nat) : List Nat → List Nat
  | [] => acc
  | τ :: l => boxToks b0 hp (boxTok b0 hp acc τ) l

noncomputable def ren1K (b0 : Nat) (ids : List Nat) (v : AV) (κ : AV → R) : R :=
  match v with
  | .own τ E r c => bif Nat.ble b0 τ then idxN ids τ b0 fun τ => κ (.own τ E r c) else κ (.own τ E r c)
  | .ptr τ i o E => bif Nat.ble b0 τ then idxN ids τ b0 fun τ => κ (.ptr τ i o E) else κ (.ptr τ i o E)
  | .fn _ _ _ => none
  | .tup _ => none
  | .agg _ => none
  | v => κ v
noncomputable def rensK (b0 : Nat) (ids : List Nat) : List AV → (List AV → R) → R
  | [], κ => κ []
  | v :: l, κ => ren1K b0 ids v fun v => rensK b0 ids l fun l => κ (v :: l)
noncomputable def ren2K (b0 : Nat) (ids : List Nat) (v : AV) (κ : AV → R) : R :=
  match v with
  | .agg cs => rensK b0 ids cs fun cs => κ (.agg cs)
  | .tup cs => rensK b0 ids cs fun cs => κ (.tup cs)
  | v => ren1K b0 ids v κ
noncomputable def rens2K (b0 : Nat) (ids : List Nat) : List AV → (List AV → R) → R
  | [], κ => κ []
  | v :: l, κ => ren2K b0 ids v fun v => rens2K b0 ids l fun l => κ (v :: l)
noncomputable def ren3K (b0 : Nat) (ids : List Nat) (v : AV) (κ : AV → R) : R :=
  match v with
  | .fn f a c => rens2K b0 ids a fun a => rens2K b0 ids c fun c => κ (.fn f a c)
  | v => ren2K b0 ids v κ
noncomputable def rens3K (b0 : Nat) (ids : List Nat) : List AV → (List AV → R) → R
  | [], κ => κ []
  | v :: l, κ => ren3K b0 ids v fun v => rens3K b0 ids l fun l => κ (v :: l)

noncomputable def renBK (b0 : Nat) (ids : List Nat) (b : Blk) (κ : Blk → R) : R :=
  match b with
  | .box v => ren3K b0 ids v fun v => κ (.box v)
  | .rows m E xs => κ (.rows m E xs)

noncomputable def pickB (b0 : Nat) (ids : List Nat) (hp : List Blk) : List Nat → (List Blk → R) → R
  | [], κ => κ []
  | τ :: l, κ => getK hp τ fun b => renBK b0 ids b fun b => pickB b0 ids hp l fun bs => κ (b :: bs)

noncomputable def headB (hp : List Blk) : Nat → (List Blk → R) → R
  | 0, κ => κ []
  | n + 1, κ => match hp with
    | [] => none
    | b :: l => headB l n fun l => κ (b :: l)

noncomputable def apndB {α : Type} : List α → List α → (List α → R) → R
  | [], ys, κ => κ ys
  | x :: xs, ys, κ => apndB xs ys fun l => κ (x :: l)


/-- token i is `ids[i]` -/
noncomputable def bak1K (ids : List Nat) (v : AV) (κ : AV → R) : R :=
  match v with
  | .own τ E r c => getK ids τ fun τ => κ (.own τ E r c)
  | .ptr τ i o E => getK ids τ fun τ => κ (.ptr τ i o E)
  | .fn _ _ _ => none
  | .tup _ => none
  | .agg _ => none
  | v => κ v
noncomputable def baksK (ids : List Nat) : List AV → (List AV → R) → R
  | [], κ => κ []
  | v :: l, κ => bak1K ids v fun v => baksK ids l fun l => κ (v :: l)
noncomputable def bak2K (ids : List Nat) (v : AV) (κ : AV → R) : R :=
  match v with
  | .agg cs => baksK ids cs fun cs => κ (.agg cs)
  | v => bak1K ids v κ
noncomputable def baks2K (ids : List Nat) : List AV → (List AV → R) → R
  | [], κ => κ []
  | v :: l, κ => bak2K ids v fun v => baks2K ids l fun l => κ (v :: l)
noncomputable def bak3K (ids : List Nat) (v : AV) (κ : AV → R) : R :=
  match v with
  | .tup vs => baks2K ids vs fun vs => κ (.tup vs)
  | v => bak2K ids v κ
noncomputable def bakB (ids : List Nat) (b : Blk) (κ : Blk → R) : R :=
  match b with
  | .box v => bak2K ids v fun v => κ (.box v)
  | .rows m E xs => κ (.rows m E xs)

/-- the blocks behind a call, laid back -/
noncomputable def layB (ids : List Nat) : List Nat → List Blk → List Blk → (List Blk → R) → R
  | [], [], hp, κ => κ hp
  | [], b :: bs, hp, κ => bakB ids b fun b => snocK hp b 0 fun _ hp => layB ids [] bs hp κ
  | _ :: _, [], _, _ => none
  | τ :: l, b :: bs, hp, κ => bakB ids b fun b => setK hp τ b fun hp => layB ids l bs hp κ

/-- names for what comes new -/
noncomputable def moreN : List Nat → List Blk → Nat → (List Nat → R) → R
  | [], [], _, κ => κ []
  | [], _ :: bs, n, κ => natK n fun n => moreN [] bs (n + 1) fun l => κ (n :: l)
  | _ :: _, [], _, _ => none
  | τ :: l, _ :: bs, n, κ => moreN l bs n fun l => κ (τ :: l)

noncomputable def callK (C : CF) (sh : FuncId → Bool) (f : FuncId) (args : List AV) (hp : List Blk) (κ : AV → List Blk → R) : R :=
  bif sh f then
    let ids := toks3 0 [] args
    let ids := boxToks 0 hp ids ids
    rens3K 0 ids args fun args => pickB 0 ids hp ids fun hs => gbind (C f args hs) fun r =>
      lenK hp 0 fun n => moreN ids r.2 n fun ids' => layB ids' ids r.2 hp fun hp => bak3K ids' r.1 fun v => adoptK hp v κ
  else lends3K hp args fun args b => gbind (C f args []) fun r => bif okR3 r.1 && isNl r.2 then bif b && far r.1 then none else adoptK hp r.1 κ else none

noncomputable def intBin (op : BinOp) (k : IntKind) (a b : Int) (κ : AV → R) : R :=
  match op with
  | .add => κ (.int k (wr k (iadd a b)))
  | .sub => κ (.int k (wr k (isub a b)))
  | .mul => κ (.int k (wr k (imul a b)))
  | .quo => bif ieq b 0 then none else κ (.int k (wr k (iquo a b)))
  | .rem => bif ieq b 0 then none else κ (.int k (irem a b))
  | .and => κ (.int k (iand k a b))
  | .eql => κ (.bool (ieq a b))
  | .neq => κ (.bool (!ieq a b))
  | .lss => κ (.bool (ilt a b))
  | .leq => κ (.bool (ile a b))
  | .gtr => κ (.bool (ilt b a))
  | .geq => κ (.bool (ile b a))
  | _ => none

/-- are two rows of plain cells alike? -/
noncomputable def eqCells : List AV → List AV → (Bool → R) → R
  | [], [], κ => κ true
  | [.int .i64 a], [.int .i64 b], κ => κ (ieq a b)
  | .int .i64 a :: l, .int .i64 b :: m, κ => eqCells l m fun t => κ (ieq a b && t)
  | _, _, _ => none

noncomputable def binK (op : BinOp) (x y : AV) (κ : AV → R) : R :=
  match x, y with
  | .int k a, .int k' b =>
    match op with
    | .shl => bif ilt b 0 then none else κ (.int k (ishl k a b))
    | .shr => bif ilt b 0 then none else κ (.int k (ishr k a b))
    | op => bif decide (k = k') then intBin op k a b κ else none
  | .str a, .str b =>
    match op with
    | .add => bif fits (iadd (ilen a) (ilen b)) 1 then κ (.str (lcat a b)) else none
    | .eql => κ (.bool (seq a b))
    | .neq => κ (.bool (!seq a b))
    | _ => none
  | _, _ => none

noncomputable def binBoolK (op : BinOp) (a b : Bool) (κ : AV → R) : R :=
  match op with
  | .eql => κ (.bool (beqb a b))
  | .neq => κ (.bool (!beqb a b))
  | _ => none

/-- '==' of structs of integers -/
noncomputable def binAggK (op : BinOp) (a b : List AV) (κ : AV → R) : R :=
  match op with
  | .eql => eqCells a b fun t => κ (.bool t)
  | .neq => eqCells a b fun t => κ (.bool (!t))
  | _ => none

/-- `append`: the new rows behind an own slice -/
noncomputable def apRowsK (hp : List Blk) (s : AV) (E bytes : Nat) (news : List AV) (κ : AV → List Blk → R) : R :=
  match s with
  | .nil => bif fits (ilen news) bytes then snocK hp (.rows .live E news) 0 fun n hp => κ (.own n E none false) hp else none
  | .lst _ true E' xs => bif Nat.beq E E' then match news with
      | [] => none
      | x :: news => bif fits (iadd (ilen xs) (ilen (x :: news))) bytes then snocK hp (.rows .live E (lcat xs (x :: news))) 0 fun n hp => κ (.own n E none false) hp else none
      else none
  | .own τ E' r c => bif Nat.beq E E' then getK hp τ fun
      | .rows m E'' xs => bif Nat.beq E E'' then
          lenOf r xs fun l => bif fits (iadd l (ilen news)) bytes then
          match c with
          | true => match m, news with
            | .dead, _ => none
            | _, [] => none
            | _, x :: news => rowsOf r xs fun ys => snocK hp (.rows .live E (lcat ys (x :: news))) 0 fun n hp => κ (.own n E none false) hp
          | false => match m with
            | .live => match r with
              | none => setK hp τ (.rows .dead E xs) fun hp => snocK hp (.rows .live E (lcat xs news)) 0 fun n hp => κ (.own n E none false) hp
              | some (o, l) => bif ieq (iadd o l) (ilen xs) then
                  setK hp τ (.rows .dead E xs) fun hp => snocK hp (.rows .live E (lcat (lsub xs o (iadd o l)) news)) 0 fun n hp => κ (.own n E none false) hp
                else bif ile (iadd (iadd o l) (ilen news)) (ilen xs) then
                  setK hp τ (.rows .live E (lcat (lcat (lsub xs 0 (iadd o l)) news) (lsub xs (iadd (iadd o l) (ilen news)) (ilen xs)))) fun hp => κ (.own τ E (some (o, iadd l (ilen news))) false) hp
                else none
            | _ => none
          else none else none
      | _ => none
      else none
  | _ => none

/-- the rows of a slice that is read -/
noncomputable def srcK (hp : List Blk) (x : AV) (E : Nat) (κ : List AV → R) : R :=
  match x with
  | .nil => κ []
  | .lst _ _ E' xs => bif Nat.beq E E' then κ xs else none
  | .own τ E' r _ => bif Nat.beq E E' then getK hp τ fun
      | .rows .live E'' xs => bif Nat.beq E E'' then rowsOf r xs κ else none
      | .rows .frozen E'' xs => bif Nat.beq E E'' then rowsOf r xs κ else none
      | _ => none
      else none
  | _ => none

/-- are they surely no own slices? -/
noncomputable def plainRow : AV → Bool
  | .own _ _ _ _ => false
  | _ => true

noncomputable def optK (tm : List AV) (x : Option Operand) (κ : Option Int → R) : R :=
  match x with
  | none => κ none
  | some x => evK tm x fun
    | .int _ n => κ (some n)
    | _ => none

noncomputable def fillK (T : TypeId → Option TI) (offs : List (Nat × TypeId)) (tm : List AV) : List (Nat × Operand) → List AV → (List AV → R) → R
  | [], cs, κ => κ cs
  | (i, x) :: l, cs, κ => getK offs i fun (off, ft) => tyK T ft fun sz _ _ _ _ => evK tm x fun
    | .agg [] => none
    | .agg vs => lenK vs 0 fun n => bif Nat.beq sz n then spliceK cs off vs fun cs => fillK T offs tm l cs κ else none
    | .top => none
    | .tup _ => none
    | .fn _ _ _ => none
    | .frs _ _ => none
    | v => bif Nat.beq sz 1 then spliceK cs off [v] fun cs => fillK T offs tm l cs κ else none

noncomputable def elemsK (E : Nat) (tm : List AV) (hp : List Blk) : List (Nat × Operand) → List AV → (List AV → List Blk → R) → R
  | [], xs, κ => κ xs hp
  | (i, x) :: l, xs, κ => evK tm x fun v => lenK (cells v) 0 fun n => bif Nat.beq n E then lenK xs 0 fun m => bif Nat.ble (i + 1) m then purK hp v fun v hp => setK xs i v fun xs => elemsK E tm hp l xs κ else none else none

noncomputable def repK : Nat → AV → (List AV → R) → R
  | 0, _, κ => κ []
  | n + 1, v, κ => repK n v fun l => κ (v :: l)

noncomputable def foldMM (f : Int → Int → Int) : List AV → Int → (Int → R) → R
  | [], a, κ => κ a
  | .int _ b :: l, a, κ => foldMM f l (f a b) κ
  | _ :: _, _, _ => none

def isZ (x : Option Operand) : Bool :=
  match x with
  | some (.const (.int _ n)) => decide (n = 0)
  | _ => false

noncomputable def sliceK (hp : List Blk) (x : AV) (E : Nat) (lo hi mx : Option Int) (κ : AV → R) : R :=
  match x with
  | .str l =>
    match lo, hi, mx with
    | none, none, none => κ (.str l)
    | some a, none, none => bif ile 0 a && ile a (ilen l) then κ (.str (lsub l a (ilen l))) else none
    | none, some b, none => bif ile 0 b && ile b (ilen l) then κ (.str (lsub l 0 b)) else none
    | some a, some b, none => bif ile 0 a && ile a b && ile b (ilen l) then κ (.str (lsub l a b)) else none
    | _, _, _ => none
  | .nil =>
    match lo, hi, mx with
    | none, none, none => κ .nil
    | some a, none, none => bif ieq a 0 then κ .nil else none
    | none, some b, none => bif ieq b 0 then κ .nil else none
    | some a, some b, none => bif ieq a 0 && ieq b 0 then κ .nil else none
    | none, some b, some c => bif ieq b 0 && ieq c 0 then κ .nil else none
    | _, _, _ => none
  | .lst o c E' xs => bif Nat.beq E E' then
    match lo, hi, mx with
    | none, none, none => κ (.lst o c E xs)
    | some a, none, none => bif ile 0 a && ile a (ilen xs) then κ (.lst o c E (lsub xs a (ilen xs))) else none
    | none, some b, none => bif ile 0 b && ile b (ilen xs) then κ (.lst o false E (lsub xs 0 b)) else none
    | some a, some b, none => bif ile 0 a && ile a b && ile b (ilen xs) then κ (.lst o false E (lsub xs a b)) else none
    | none, some b, some m => bif ile 0 b && ieq b m && ile b (ilen xs) then κ (.lst o true E (lsub xs 0 b)) else none
    | _, _, _ => none
    else none
  | .own τ E' r c => bif Nat.beq E E' then getK hp τ fun
    | .rows m E'' xs => bif Nat.beq E E'' then
      match m with
      | .dead => none
      | _ =>
      match r with
      | none =>
        match lo, hi, mx with
        | none, none, none => κ (.own τ E none c)
        | some a, none, none => bif ile 0 a && ile a (ilen xs) then κ (.own τ E (some (a, isub (ilen xs) a)) c) else none
        | none, some b, none => bif ile 0 b && ile b (ilen xs) then κ (.own τ E (some (0, b)) false) else none
        | some a, some b, none => bif ile 0 a && ile a b && ile b (ilen xs) then κ (.own τ E (some (a, isub b a)) false) else none
        | none, some b, some m => bif ile 0 b && ieq b m && ile b (ilen xs) then κ (.own τ E (some (0, b)) true) else none
        | _, _, _ => none
      | some (o, l) =>
        match lo, hi, mx with
        | none, none, none => κ (.own τ E (some (o, l)) c)
        | some a, none, none => bif ile 0 a && ile a l then κ (.own τ E (some (iadd o a, isub l a)) c) else none
        | none, some b, none => bif !c && ile 0 b && ile (iadd o b) (ilen xs) then κ (.own τ E (some (o, b)) false) else none
        | some a, some b, none => bif !c && ile 0 a && ile a b && ile (iadd o b) (ilen xs) then κ (.own τ E (some (iadd o a, isub b a)) false) else none
        | none, some b, some m => bif !c && ile 0 b && ieq b m && ile (iadd o b) (ilen xs) then κ (.own τ E (some (o, b)) true) else none
        | _, _, _ => none
      else none
    | _ => none
    else none
  | _ => none

def isTop : AV → Bool
  | .top => true
  | _ => false

def isSl : AV → Bool
  | .nil => true
  | .lst _ _ _ _ => true
  | .own _ _ _ _ => true
  | _ => false

/-- '== nil' of a slice that has rows -/
noncomputable def nilK (op : BinOp) (hp : List Blk) (x : AV) (κ : AV → R) : R :=
  match op with
  | .eql => go (fun b => κ (.bool b))
  | .neq => go (fun b => κ (.bool (!b)))
  | _ => none
where
  go (κ : Bool → R) : R := match x with
    | .lst _ _ _ xs => bif ieq (ilen xs) 0 then none else κ false
    | .own τ _ none _ => getK hp τ fun
      | .rows .dead _ _ => none
      | .rows _ _ xs => bif ieq (ilen xs) 0 then none else κ false
      | _ => none
    | _ => none

/-- the constant nil -/
def isNilC : Operand → Bool
  | .const (.slice none 0 0) => true
  | _ => false

/-- may each lie in a closure? -/
def allVar : List AV → Bool
  | [] => true
  | .top :: _ => false
  | .tup _ :: _ => false
  | .fn _ _ _ :: _ => false
  | _ :: l => allVar l

/-- the length of the slice that stands alone -/
noncomputable def lenSlK (hp : List Blk) (as : List AV) (κ : Int → R) : R :=
  match as with
  | [.lst _ _ _ xs] => κ (ilen xs)
  | [.nil] => κ 0
  | [.own τ _ none _] => getK hp τ fun
    | .rows .dead _ _ => none
    | .rows _ _ xs => κ (ilen xs)
    | _ => none
  | [.own _ _ (some (_, l)) _] => κ l
  | _ => none

noncomputable def aopK (T : TypeId → Option TI) (C : CF) (sh : FuncId → Bool) (o : Oper) (tm : List AV) (hp : List Blk) (κ : AV → List Blk → R) : R :=
  match o.op with
  | .move x => evK tm x fun v => κ v hp
  | .assign x => evK tm x fun
    | .nil => tyK T o.type fun _ _ _ _ d => match d with
      | .slice e => tyK T e fun E _ _ _ _ => snocK hp (.rows .live E []) 0 fun n hp => κ (.own n E none false) hp
      | _ => none
    | v => κ v hp
  | .pick c a b => evK tm c fun
    | .bool t => bif t then evK tm a fun v => κ v hp else evK tm b fun v => κ v hp
    | _ => none
  | .alloc t => tyK T t fun E _ _ z _ => boxK z fun z => snocK hp (.box z) 0 fun n hp => κ (.ptr n 0 0 E) hp
  | .box t x => tyK T t fun E _ _ _ _ => evK tm x fun v => boxK v fun v => snocK hp (.box v) 0 fun n hp => κ (.ptr n 0 0 E) hp
  | .build t ps => tyK T t fun sz _ _ z d => match z, d with
    | .agg zs, .struct offs _ => fillK T offs tm ps.toList zs fun cs => κ (.agg cs) hp
    | _, _ => none
  | .buildSlice t n ps => tyK T t fun _ _ _ _ d => match d with
    | .slice e => tyK T e fun E _ _ z _ => bif Nat.ble (n * E) 16777216 then purK [] z fun z _ => repK n z fun xs => elemsK E tm hp ps.toList xs fun xs hp => snocK hp (.rows .live E xs) 0 fun n hp => κ (.own n E none false) hp else none
    | _ => none
  | .load t x => tyK T t fun sz ag _ _ _ => evK tm x fun
    | .ptr τ idx off E => getK hp τ fun
      | .box v => partK sz ag v off fun v => κ v hp
      | .rows m E' xs => bif Nat.beq E E' then match m with
        | .dead => none
        | _ => gbind (lget xs idx) fun x => partK sz ag x off fun v => κ v hp
        else none
    | .at v off => partK sz ag v off fun v => κ v hp
    | _ => none
  | .store t x y => tyK T t fun sz _ _ _ _ => evK tm x fun
    | .ptr τ idx off E => evK tm y fun v => getK hp τ fun
      | .box x => layK sz x off v fun x => setK hp τ (.box x) fun hp => κ .top hp
      | .rows _ _ _ => purK hp v fun v hp => getK hp τ fun
        | .rows .live E' xs => bif Nat.beq E E' then gbind (lget xs idx) fun x => layK sz x off v fun x => setK hp τ (.rows .live E (lset xs idx x)) fun hp => κ .top hp else none
        | _ => none
    | _ => none
  | .nilCheck x => evK tm x fun
    | .ptr τ idx off E => κ (.ptr τ idx off E) hp
    | .at v off => κ (.at v off) hp
    | _ => none
  | .binOp op t x y' _ => evK tm x fun x => evK tm y' fun y => match x, y with
    | x, .nil => bif isNilC y' then tyK T t fun _ _ _ _ d => match d with
      | .slice _ => nilK op hp x fun v => κ v hp
      | _ => none
      else none
    | .agg a, .agg b => tyK T t fun sz _ _ _ d => match d with
      | .struct _ true => lenK a 0 fun n => bif Nat.beq n sz then binAggK op a b fun v => κ v hp else none
      | _ => none
    | .bool a, .bool b => tyK T t fun _ _ _ _ d => match d with
      | .bool => binBoolK op a b fun v => κ v hp
      | _ => none
    | x, y => binK op x y fun v => κ v hp
  | .unOp op _ x => evK tm x fun x => match op, x with
    | .neg, .int k n => κ (.int k (wr k (isub 0 n))) hp
    | .not, .bool b => κ (.bool (!b)) hp
    | _, _ => none
  | .convert s d x => tyK T s fun _ _ _ _ s => tyK T d fun _ _ _ _ d => evK tm x fun x => match s, d, x with
    | .int _, .int k, .int _ n => κ (.int k (wr k n)) hp
    | .str, .str, .str l => κ (.str l) hp
    | _, _, _ => none
  | .makeFunc (.func f) fs cs => evsK tm fs.toList fun fs => evsK tm cs.toList fun cs => bif allVar fs && allVar cs then κ (.fn f fs cs) hp else none
  | .makeSlice t l c => tyK T t fun _ _ _ _ d => match d with
    | .slice e => tyK T e fun E _ by_ z _ => evK tm l fun
      | .int _ l => evK tm c fun
        | .int _ c => bif Nat.beq by_ 0 then none else bif ile 0 l && ile l c && fits c by_ then
            purK [] z fun z _ => snocK hp (.rows .live E (lrep l z)) 0 fun n hp => κ (.own n E none false) hp else none
        | _ => none
      | _ => none
    | _ => none
  | .slice t x lo hi mx' => tyK T t fun _ _ _ _ d => evK tm x fun x => optK tm lo fun lo => optK tm hi fun hi' => optK tm mx' fun mx => match d with
    | .slice e => tyK T e fun E _ _ _ _ => bif isSl x then bif isZ hi && isZ mx' && lo.isNone then κ .nil hp else sliceK hp x E lo hi' mx fun v => κ v hp else none
    | .str => match x with
      | .str l => sliceK hp (.str l) 0 lo hi' mx fun v => κ v hp
      | _ => none
    | _ => none
  | .fieldAddr t x f => tyK T t fun _ _ _ _ d => match d with
    | .struct offs _ => getK offs f fun (a, ft) => tyK T ft fun fsz _ _ _ _ => bif Nat.beq fsz 0 then none else evK tm x fun
      | .ptr τ idx off E => natK (off + a) fun off => κ (.ptr τ idx off E) hp
      | .at v off => natK (off + a) fun off => κ (.at v off) hp
      | _ => none
    | _ => none
  | .indexAddr t x ix => tyK T t fun _ _ _ _ d => match d with
    | .slice e => tyK T e fun E _ _ _ _ => evK tm ix fun
      | .int _ i => evK tm x fun
        | .lst _ _ E' xs => bif Nat.beq E E' then gbind (lget xs i) fun x => κ (.at x 0) hp else none
        | .own τ E' r _ => bif Nat.beq E E' then getK hp τ fun
          | .rows m E'' xs => bif Nat.beq E E'' then
              match r with
              | none => match m with
                | .dead => none
                | _ => bif ile 0 i && ilt i (ilen xs) then κ (.ptr τ i 0 E) hp else none
              | some (o, l) => bif ile 0 i && ilt i l then κ (.ptr τ (iadd o i) 0 E) hp else none
              else none
          | _ => none
          else none
        | _ => none
      | _ => none
    | _ => none
  | .index t x ix => tyK T t fun _ _ _ _ d => match d with
    | .str => evK tm x fun
      | .str l => evK tm ix fun
        | .int _ i => gbind (lget l i) fun b => κ (.int .u8 (bchr b)) hp
        | _ => none
      | _ => none
    | _ => none
  | .extract x i => evK tm x fun
    | .tup vs => getK vs i fun v => κ v hp
    | _ => none
  | .call c =>
    match c.callee with
    | .builtin .len => match c.argTypes.toList with
      | [t] => tyK T t fun _ _ _ _ d => evsK tm c.args.toList fun as => match d with
        | .slice _ => lenSlK hp as fun n => κ (.int .i64 n) hp
        | .str => match as with
          | [.str l] => κ (.int .i64 (ilen l)) hp
          | _ => none
        | _ => none
      | _ => none
    | .builtin .append => match c.argTypes.toList with
      | [ta, tb] => tyK T ta fun _ _ _ _ d => tyK T tb fun _ _ _ _ db => match d, db with
        | .slice e, .slice _ => tyK T e fun E _ by_ z _ => bif Nat.beq by_ 0 || isTop z then none else evsK tm c.args.toList fun
          | [s, x] => srcK hp x E fun news => apRowsK hp s E by_ news κ
          | _ => none
        | _, _ => none
      | _ => none
    | .builtin .max => evsK tm c.args.toList fun
      | .int k a :: l => foldMM imax l a fun n => κ (.int k n) hp
      | _ => none
    | .builtin .min => evsK tm c.args.toList fun
      | .int k a :: l => foldMM imin l a fun n => κ (.int k n) hp
      | _ => none
    | .value f => evK tm f fun
      | .fn g fs cs => evsK tm c.args.toList fun args => apndB args cs fun l => apndB fs l fun l => callK C sh g l hp κ
      | _ => none
    | _ => none
  | _ => none

noncomputable def putK (tm : List AV) (d : Option Tmp) (v : AV) (κ : List AV → R) : R :=
  match d with
  | some d => setK tm d v κ
  | none => κ tm

noncomputable def dstK (ops : List Oper) (j : Nat) (κ : Tmp → R) : R :=
  match ops, j with
  | [], _ => none
  | o :: _, 0 => match o.dst with | some t => κ t | none => none
  | _ :: l, j + 1 => dstK l j κ

/-- by the recursor itself: so that all evaluators leave what is still to do in one form -/
noncomputable def opsK (T : TypeId → Option TI) (C : CF) (sh : FuncId → Bool) (all : List Oper) (l : List Oper) : List AV → List Blk → (List AV → List Blk → R) → R :=
  @List.rec Oper (fun _ => List AV → List Blk → (List AV → List Blk → R) → R)
    (fun tm hp κ => κ tm hp)
    (fun o _ ih tm hp κ =>
      match o.guard with
      | none => aopK T C sh o tm hp fun v hp => putK tm o.dst v fun tm => ih tm hp κ
      | some (j, want) => dstK all j fun t => getK tm t fun
        | .bool b =>
          bif b then
            setK tm t (.bool true) fun tm =>
              bif want then aopK T C sh o tm hp fun v hp => putK tm o.dst v fun tm => ih tm hp κ
              else putK tm o.dst (.tup []) fun tm => ih tm hp κ
          else
            setK tm t (.bool false) fun tm =>
              bif want then putK tm o.dst (.tup []) fun tm => ih tm hp κ
              else aopK T C sh o tm hp fun v hp => putK tm o.dst v fun tm => ih tm hp κ
        | .tup [] => putK tm o.dst (.tup []) fun tm => ih tm hp κ
        | _ => none) l

/-- may it write, or spend a token? -/
def isMut (sh : FuncId → Bool) (o : Oper) : Bool :=
  match o.op with
  | .store _ _ _ => true
  | .buildSlice _ _ _ => true
  | .call c => match c.callee with
    | .builtin .append => true
    | .value (.func f) => sh f
    | .value _ => true
    | _ => false
  | _ => false

def memB (i : Nat) : List (Tmp × Nat) → Bool
  | [] => false
  | (a, _) :: l => bif Nat.beq a i then true else memB i l

/-- operations that may be taken first -/
def isEar (o : Oper) : Bool :=
  match o.op with
  | .move _ => true
  | .slice _ _ _ _ _ => true
  | .load _ _ => true
  | _ => false
def isLd (o : Oper) : Bool :=
  match o.op with
  | .load _ _ => true
  | _ => false
def ldB (all : List Oper) : List (Tmp × Nat) → Bool
  | [] => false
  | (i, _) :: l => bif (match all[i]? with | some o => isLd o | none => false) then true else ldB all l

noncomputable def earlyK (T : TypeId → Option TI) (C : CF) (sh : FuncId → Bool) (all : List Oper) : List (Tmp × Nat) → List AV → List Blk → (List AV → List Blk → R) → R
  | [], tm, hp, κ => κ tm hp
  | (i, _) :: es, tm, hp, κ => getK all i fun o => match o.guard with
    | none => bif isEar o then aopK T C sh o tm hp fun v hp => putK tm o.dst v fun tm => earlyK T C sh all es tm hp κ else none
    | some _ => none

noncomputable def lateK (c : Bool) (n0 : Nat) (o : Oper) (tm : List AV) (x : R) : R :=
  bif c then match o.op with
    | .store _ x' _ => evK tm x' fun
      | .ptr τ _ _ _ => bif Nat.ble n0 τ then x else none
      | _ => none
    | _ => none
  else x

noncomputable def opsE (T : TypeId → Option TI) (C : CF) (sh : FuncId → Bool) (all : List Oper) (es : List (Tmp × Nat)) (ld : Bool) (n0 : Nat) : Nat → List Oper → List AV → List Blk → (List AV → List Blk → R) → R
  | _, [], tm, hp, κ => κ tm hp
  | j, o :: l, tm, hp, κ => bif memB j es then opsE T C sh all es ld n0 (j + 1) l tm hp κ
    else lateK (ld && isMut sh o) n0 o tm (opsK T C sh all [o] tm hp fun tm' hp' =>
      bif ld && isMut sh o then bif Nat.beq hp'.length hp.length then opsE T C sh all es ld n0 (j + 1) l tm' hp' κ else none
      else opsE T C sh all es ld n0 (j + 1) l tm' hp' κ)

inductive Ex where | normal | exit (id : Nat) | ret

abbrev K := Ex → List AV → List Blk → R

/-- flags: 0 kept as it is; 1 an own slice is told by its bounds; 2 it is frozen -/
noncomputable def keep1K (f : Nat) (v : AV) (hp : List Blk) (κ : AV → List Blk → R) : R :=
  match f, v with
  | 1, .own τ E none c => getK hp τ fun
    | .rows .dead _ _ => none
    | .rows _ _ xs => κ (.own τ E (some (0, ilen xs)) c) hp
    | _ => none
  | 2, v => pur1K hp v κ
  | _, v => κ v hp

noncomputable def flagN : List (Tmp × Nat) → Nat → (Nat → R) → R → R
  | [], _, _, d => d
  | (t, f) :: ks, n, κ, d => bif Nat.beq t n then κ f else flagN ks n κ d

noncomputable def keepTm (ks : List (Tmp × Nat)) : List AV → Nat → List Blk → (List AV → List Blk → R) → R
  | [], _, hp, κ => κ [] hp
  | v :: l, n, hp, κ => flagN ks n
      (fun f => keep1K f v hp fun v hp => keepTm ks l (n + 1) hp fun l hp => κ (v :: l) hp)
      (keepTm ks l (n + 1) hp fun l hp => κ (.top :: l) hp)

noncomputable def rensB (b0 : Nat) (ids : List Nat) : List Blk → (List Blk → R) → R
  | [], κ => κ []
  | b :: l, κ => renBK b0 ids b fun b => rensB b0 ids l fun l => κ (b :: l)

noncomputable def oldToks (b0 : Nat) (acc : List Nat) : List Blk → List Nat
  | [] => acc
  | .box v :: l => oldToks b0 (tok2 b0 acc v) l
  | _ :: l => oldToks b0 acc l

noncomputable def canonK (b0 : Nat) (ks : List (Tmp × Nat)) (tm : List AV) (hp : List Blk) (κ : List AV → List Blk → R) : R :=
  keepTm ks tm 0 hp fun tm hp => headB hp b0 fun h0 =>
    let ids := oldToks b0 (toks3 b0 [] tm) h0
    let ids := boxToks b0 hp ids ids
    rens3K b0 ids tm fun tm => rensB b0 ids h0 fun h0 => pickB b0 ids hp ids fun h1 => apndB h0 h1 fun hp => κ tm hp

/-- parameters of a function's run -/
structure Fp where
  b0 : Nat
  keep : Nat → List (Tmp × Nat)
  L : Nat

noncomputable def iterK (body : K → List AV → List Blk → R) (cn : List AV → List Blk → (List AV → List Blk → R) → R) (k : K) : Nat → List AV → List Blk → R
  | 0, _, _ => none
  | m + 1, tm, hp => body (fun e tm hp => match e with
      | .normal => cn tm hp fun tm hp => iterK body cn k m tm hp
      | e => k e tm hp) tm hp

noncomputable def exec (T : TypeId → Option TI) (C : CF) (sh : FuncId → Bool) (p : Fp) (c : Code) : Nat → K → List AV → List Blk → R :=
  @Code.rec (fun _ => Nat → K → List AV → List Blk → R)
    (fun _ k tm hp => k .normal tm hp)
    (fun id ops d _ k tm hp => bif d then
        earlyK T C sh ops.toList (p.keep (20000 + id)) tm hp fun tm hp =>
          opsE T C sh ops.toList (p.keep (20000 + id)) (ldB ops.toList (p.keep (20000 + id))) hp.length 0 ops.toList tm hp fun tm hp => k .normal tm hp
      else opsK T C sh ops.toList ops.toList tm hp fun tm hp => k .normal tm hp)
    (fun _ _ ia ib cur k tm hp => ia cur (fun e tm hp => match e with | .normal => ib cur k tm hp | e => k e tm hp) tm hp)
    (fun c _ _ ix iy cur k tm hp =>
      match c with
      | .tmp t => getK tm t fun
        | .bool b => bif b then setK tm t (.bool true) fun tm => ix cur k tm hp else setK tm t (.bool false) fun tm => iy cur k tm hp
        | _ => none
      | _ => none)
    (fun id _ ib _ k tm hp => ib id (fun e tm hp => match e with
      | .exit i => bif Nat.beq i id then canonK p.b0 (p.keep (1000 + id)) tm hp fun tm hp => k .normal tm hp else k (.exit i) tm hp
      | .normal => canonK p.b0 (p.keep (1000 + id)) tm hp fun tm hp => k .normal tm hp
      | e => k e tm hp) tm hp)
    (fun _ ib cur k tm hp => canonK p.b0 (p.keep cur) tm hp fun tm hp => iterK (ib cur) (canonK p.b0 (p.keep cur)) k p.L tm hp)
    (fun _ _ _ _ _ _ _ _ _ _ => none)
    (fun id _ k tm hp => k (.exit id) tm hp)
    (fun _ _ _ _ _ _ => none)
    (fun _ _ _ _ _ => none)
    (fun _ _ _ _ _ => none)
    (fun _ k tm hp => k .ret tm hp)
    (fun _ _ _ _ _ => none) c

noncomputable def res1K (T : TypeId → Option TI) (r : ResultVar) (tm : List AV) (hp : List Blk) (κ : AV → R) : R :=
  match r with
  | .tmp t => getK tm t κ
  | .cell t ty => tyK T ty fun sz ag _ _ _ => getK tm t fun
    | .ptr τ _ off _ => getK hp τ fun
      | .box v => partK sz ag v off κ
      | _ => none
    | _ => none

/-- a result's own slice, given away: the token is spent -/
noncomputable def conv1K (T : TypeId → Option TI) (b0 : Nat) (hp : List Blk) (t : TypeId) (v : AV) (κ : AV → List Blk → R) : R :=
  match v with
  | .own τ E r c => bif Nat.ble b0 τ then getK hp τ fun
      | .rows .live E' xs => bif Nat.beq E E' then setK hp τ (.rows .dead E xs) fun hp => rowsOf r xs fun ys => κ (.frs E ys) hp else none
      | .rows .frozen E' xs => bif Nat.beq E E' then rowsOf r xs fun ys => κ (.lst false c E ys) hp else none
      | _ => none
      else κ (.own τ E r c) hp
  | .nil => tyK T t fun _ _ _ _ d => match d with
    | .slice e => tyK T e fun E _ _ _ _ => κ (.frs E []) hp
    | _ => none
  | .ptr τ i o E => bif Nat.ble b0 τ then none else κ (.ptr τ i o E) hp
  | .fn _ _ _ => none
  | .top => none
  | .tup _ => none
  | .agg _ => none
  | v => κ v hp

noncomputable def convsK (T : TypeId → Option TI) (b0 : Nat) (hp : List Blk) : List (Nat × TypeId) → List AV → (List AV → List Blk → R) → R
  | _, [], κ => κ [] hp
  | (_, t) :: ts, v :: l, κ => conv1K T b0 hp t v fun v hp => convsK T b0 hp ts l fun l hp => κ (v :: l) hp
  | [], v :: l, κ => conv1K T b0 hp 0 v fun v hp => convsK T b0 hp [] l fun l hp => κ (v :: l) hp

noncomputable def conv2K (T : TypeId → Option TI) (b0 : Nat) (hp : List Blk) (t : TypeId) (v : AV) (κ : AV → List Blk → R) : R :=
  match v with
  | .agg cs => tyK T t fun _ _ _ _ d => match d with
    | .struct fs _ => convsK T b0 hp fs cs fun cs hp => κ (.agg cs) hp
    | _ => convsK T b0 hp [] cs fun cs hp => κ (.agg cs) hp
  | v => conv1K T b0 hp t v κ

noncomputable def ressK (T : TypeId → Option TI) (b0 : Nat) (tm : List AV) (hp0 : List Blk) : List ResultVar → List TypeId → List Blk → (List AV → List Blk → R) → R
  | [], _, hp, κ => κ [] hp
  | r :: rs, t :: ts, hp, κ => res1K T r tm hp0 fun v => conv2K T b0 hp t v fun v hp => ressK T b0 tm hp0 rs ts hp fun vs hp => κ (v :: vs) hp
  | _, _, _, _ => none


/-- the older tokens, and behind them those that they name -/
noncomputable def finK (b0 : Nat) (v : AV) (hp : List Blk) : R :=
  headB hp b0 fun h =>
    let ids := oldToks b0 [] h
    rensB b0 ids h fun h => pickB b0 ids hp ids fun ex => apndB h ex fun hp => some (v, hp)

def tops : Nat → List AV
  | 0 => []
  | n + 1 => .top :: tops n

noncomputable def padK : List AV → Nat → (List AV → R) → R
  | [], n, κ => κ (tops n)
  | v :: l, n + 1, κ => padK l n fun l => κ (v :: l)
  | _ :: _, 0, _ => none

noncomputable def topsK : Nat → (List AV → R) → R
  | 0, κ => κ []
  | n + 1, κ => topsK n fun l => κ (.top :: l)

noncomputable def initK : List AV → Nat → (List AV → R) → R
  | [], n, κ => topsK n κ
  | v :: l, n + 1, κ => initK l n fun l => κ (v :: l)
  | _ :: _, 0, _ => none

noncomputable def retK (T : TypeId → Option TI) (b0 : Nat) (f : Func) (tm : List AV) (hp : List Blk) : R :=
  match f.results.toList with
  | [r] => match f.resultTypes.toList with
    | [t] => res1K T r tm hp fun v => conv2K T b0 hp t v fun v hp => finK b0 v hp
    | _ => none
  | rs => ressK T b0 tm hp rs f.resultTypes.toList hp fun vs hp => finK b0 (.tup vs) hp

noncomputable def run (T : TypeId → Option TI) (C : CF) (sh : FuncId → Bool) (keep : Nat → List (Tmp × Nat)) (L : Nat) (f : Func) (args : List AV) (hp : List Blk) : R :=
  match f.body with
  | some c => lenK hp 0 fun b0 => initK args f.ntmps fun tm => exec T C sh ⟨b0, keep, L⟩ c 9999 (fun e tm hp => match e with
      | .normal => retK T b0 f tm hp
      | .ret => retK T b0 f tm hp
      | _ => none) tm hp
  | none => none
end Go.AM
