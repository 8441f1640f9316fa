import Derived.Calls
import Derived.Orders
import Derived.Laws.World
import Derived.Laws.Sem
import Derived.Laws.Cells
import Derived.Laws.StructEq
import Derived.Laws.CopyRow
import Derived.Laws.Append
import Derived.Laws.Tables
set_option linter.unusedVariables false
set_option linter.unusedSimpArgs false
set_option linter.unnecessarySimpa false
set_option linter.deprecated false
set_option linter.unusedSectionVars false
namespace Go.AM
inductive AV where
  | top
  | int (k : IntKind) (n : Int)
  | bool (b : Bool)
  | str (l : List UInt8)
  | nil
  | iface0
  | lst (o cap : Bool) (E : Nat) (xs : List AV)   -- read only; o: may lie in an argument's memory; cap: no room behind it
  | frs (E : Nat) (xs : List AV)                  -- a result: a slice of its own memory
  | own (τ E : Nat) (r : Option (Int × Int)) (cap : Bool)   -- token τ's rows: all, or so many from one on
  | ptr (τ : Nat) (idx : Int) (off E : Nat)
  | at (x : AV) (off : Nat)
  | fn (f : FuncId) (first caps : List AV)
  | agg (cs : List AV)
  | tup (vs : List AV)
  | anyb                                          -- a truth value that is not told
  deriving Inhabited
inductive Mode where | live | frozen | dead
inductive Blk where
  | box (v : AV)
  | rows (m : Mode) (E : Nat) (xs : List AV)
inductive TD where
  | int (k : IntKind) | bool | str | slice (e : TypeId) | array (n : Nat) (e : TypeId)
  | struct (fs : List (Nat × TypeId)) (eq : Bool)   -- eq: plain integers, compared cell by cell
  | ptr (e : TypeId) | other
inductive TI where
  | mk (size : Nat) (agg : Bool) (bytes : Nat) (zero : AV) (d : TD)
inductive St where
  | mk (tm : List AV) (hp : List Blk)
abbrev R := Option (AV × List Blk)
abbrev CF := FuncId → List AV → List Blk → R
theorem wr_ex : ∃ f : IntKind → Int → Int, ∀ k n, f k n = (k.wrap n) := ⟨fun k n => k.wrap n, fun _ _ => rfl⟩
@[irreducible] noncomputable def wr : IntKind → Int → Int := Classical.choose (wr_ex)
theorem wr_eq (k : IntKind) (n : Int) : wr k n = (k.wrap n) := by unfold wr; exact Classical.choose_spec (wr_ex) k n
theorem iadd_ex : ∃ f : Int → Int → Int, ∀ a b, f a b = (a + b) := ⟨fun a b => a + b, fun _ _ => rfl⟩
@[irreducible] noncomputable def iadd : Int → Int → Int := Classical.choose (iadd_ex)
theorem iadd_eq (a : Int) (b : Int) : iadd a b = (a + b) := by unfold iadd; exact Classical.choose_spec (iadd_ex) a b
theorem isub_ex : ∃ f : Int → Int → Int, ∀ a b, f a b = (a - b) := ⟨fun a b => a - b, fun _ _ => rfl⟩
@[irreducible] noncomputable def isub : Int → Int → Int := Classical.choose (isub_ex)
theorem isub_eq (a : Int) (b : Int) : isub a b = (a - b) := by unfold isub; exact Classical.choose_spec (isub_ex) a b
theorem imul_ex : ∃ f : Int → Int → Int, ∀ a b, f a b = (a * b) := ⟨fun a b => a * b, fun _ _ => rfl⟩
@[irreducible] noncomputable def imul : Int → Int → Int := Classical.choose (imul_ex)
theorem imul_eq (a : Int) (b : Int) : imul a b = (a * b) := by unfold imul; exact Classical.choose_spec (imul_ex) a b
theorem iquo_ex : ∃ f : Int → Int → Int, ∀ a b, f a b = (a.tdiv b) := ⟨fun a b => a.tdiv b, fun _ _ => rfl⟩
@[irreducible] noncomputable def iquo : Int → Int → Int := Classical.choose (iquo_ex)
theorem iquo_eq (a : Int) (b : Int) : iquo a b = (a.tdiv b) := by unfold iquo; exact Classical.choose_spec (iquo_ex) a b
theorem irem_ex : ∃ f : Int → Int → Int, ∀ a b, f a b = (a.tmod b) := ⟨fun a b => a.tmod b, fun _ _ => rfl⟩
@[irreducible] noncomputable def irem : Int → Int → Int := Classical.choose (irem_ex)
theorem irem_eq (a : Int) (b : Int) : irem a b = (a.tmod b) := by unfold irem; exact Classical.choose_spec (irem_ex) a b
theorem iand_ex : ∃ f : IntKind → Int → Int → Int, ∀ k a b, f k a b = (k.wrap (BitVec.ofInt k.bits a &&& BitVec.ofInt k.bits b).toNat) := ⟨fun k a b => k.wrap (BitVec.ofInt k.bits a &&& BitVec.ofInt k.bits b).toNat, fun _ _ _ => rfl⟩
@[irreducible] noncomputable def iand : IntKind → Int → Int → Int := Classical.choose (iand_ex)
theorem iand_eq (k : IntKind) (a : Int) (b : Int) : iand k a b = (k.wrap (BitVec.ofInt k.bits a &&& BitVec.ofInt k.bits b).toNat) := by unfold iand; exact Classical.choose_spec (iand_ex) k a b
theorem ishl_ex : ∃ f : IntKind → Int → Int → Int, ∀ k a b, f k a b = (k.wrap (a * 2 ^ min b.toNat k.bits)) := ⟨fun k a b => k.wrap (a * 2 ^ min b.toNat k.bits), fun _ _ _ => rfl⟩
@[irreducible] noncomputable def ishl : IntKind → Int → Int → Int := Classical.choose (ishl_ex)
theorem ishl_eq (k : IntKind) (a : Int) (b : Int) : ishl k a b = (k.wrap (a * 2 ^ min b.toNat k.bits)) := by unfold ishl; exact Classical.choose_spec (ishl_ex) k a b
theorem ishr_ex : ∃ f : IntKind → Int → Int → Int, ∀ k a b, f k a b = (a.fdiv (2 ^ min b.toNat k.bits)) := ⟨fun k a b => a.fdiv (2 ^ min b.toNat k.bits), fun _ _ _ => rfl⟩
@[irreducible] noncomputable def ishr : IntKind → Int → Int → Int := Classical.choose (ishr_ex)
theorem ishr_eq (k : IntKind) (a : Int) (b : Int) : ishr k a b = (a.fdiv (2 ^ min b.toNat k.bits)) := by unfold ishr; exact Classical.choose_spec (ishr_ex) k a b
theorem imax_ex : ∃ f : Int → Int → Int, ∀ a b, f a b = (if b > a then b else a) := ⟨fun a b => if b > a then b else a, fun _ _ => rfl⟩
@[irreducible] noncomputable def imax : Int → Int → Int := Classical.choose (imax_ex)
theorem imax_eq (a : Int) (b : Int) : imax a b = (if b > a then b else a) := by unfold imax; exact Classical.choose_spec (imax_ex) a b
theorem imin_ex : ∃ f : Int → Int → Int, ∀ a b, f a b = (if b < a then b else a) := ⟨fun a b => if b < a then b else a, fun _ _ => rfl⟩
@[irreducible] noncomputable def imin : Int → Int → Int := Classical.choose (imin_ex)
theorem imin_eq (a : Int) (b : Int) : imin a b = (if b < a then b else a) := by unfold imin; exact Classical.choose_spec (imin_ex) a b
theorem ilt_ex : ∃ f : Int → Int → Bool, ∀ a b, f a b = (decide (a < b)) := ⟨fun a b => decide (a < b), fun _ _ => rfl⟩
@[irreducible] noncomputable def ilt : Int → Int → Bool := Classical.choose (ilt_ex)
theorem ilt_eq (a : Int) (b : Int) : ilt a b = (decide (a < b)) := by unfold ilt; exact Classical.choose_spec (ilt_ex) a b
theorem ile_ex : ∃ f : Int → Int → Bool, ∀ a b, f a b = (decide (a ≤ b)) := ⟨fun a b => decide (a ≤ b), fun _ _ => rfl⟩
@[irreducible] noncomputable def ile : Int → Int → Bool := Classical.choose (ile_ex)
theorem ile_eq (a : Int) (b : Int) : ile a b = (decide (a ≤ b)) := by unfold ile; exact Classical.choose_spec (ile_ex) a b
theorem ieq_ex : ∃ f : Int → Int → Bool, ∀ a b, f a b = (decide (a = b)) := ⟨fun a b => decide (a = b), fun _ _ => rfl⟩
@[irreducible] noncomputable def ieq : Int → Int → Bool := Classical.choose (ieq_ex)
theorem ieq_eq (a : Int) (b : Int) : ieq a b = (decide (a = b)) := by unfold ieq; exact Classical.choose_spec (ieq_ex) a b
theorem beqb_ex : ∃ f : Bool → Bool → Bool, ∀ a b, f a b = ((a == b)) := ⟨fun a b => (a == b), fun _ _ => rfl⟩
@[irreducible] noncomputable def beqb : Bool → Bool → Bool := Classical.choose (beqb_ex)
theorem beqb_eq (a : Bool) (b : Bool) : beqb a b = ((a == b)) := by unfold beqb; exact Classical.choose_spec (beqb_ex) a b
theorem seq_ex : ∃ f : List UInt8 → List UInt8 → Bool, ∀ a b, f a b = ((a == b)) := ⟨fun a b => (a == b), fun _ _ => rfl⟩
@[irreducible] noncomputable def seq : List UInt8 → List UInt8 → Bool := Classical.choose (seq_ex)
theorem seq_eq (a : List UInt8) (b : List UInt8) : seq a b = ((a == b)) := by unfold seq; exact Classical.choose_spec (seq_ex) a b
theorem fits_ex : ∃ f : Int → Nat → Bool, ∀ n b, f n b = (decide (n * b ≤ 140737488355328)) := ⟨fun n b => decide (n * b ≤ 140737488355328), fun _ _ => rfl⟩
@[irreducible] noncomputable def fits : Int → Nat → Bool := Classical.choose (fits_ex)
theorem fits_eq (n : Int) (b : Nat) : fits n b = (decide (n * b ≤ 140737488355328)) := by unfold fits; exact Classical.choose_spec (fits_ex) n b
theorem bchr_ex : ∃ f : UInt8 → Int, ∀ b, f b = ((b.toNat : Int)) := ⟨fun b => (b.toNat : Int), fun _ => rfl⟩
@[irreducible] noncomputable def bchr : UInt8 → Int := Classical.choose (bchr_ex)
theorem bchr_eq (b : UInt8) : bchr b = ((b.toNat : Int)) := by unfold bchr; exact Classical.choose_spec (bchr_ex) b
theorem ilen_ex (α : Type) : ∃ f : List α → Int, ∀ xs, f xs = ((xs.length : Int)) := ⟨fun xs => (xs.length : Int), fun _ => rfl⟩
@[irreducible] noncomputable def ilen {α : Type} : List α → Int := Classical.choose (ilen_ex α)
theorem ilen_eq {α : Type} (xs : List α) : ilen xs = ((xs.length : Int)) := by unfold ilen; exact Classical.choose_spec (ilen_ex α) xs
theorem lget_ex (α : Type) : ∃ f : List α → Int → Option α, ∀ xs i, f xs i = (if 0 ≤ i then xs[i.toNat]? else none) := ⟨fun xs i => if 0 ≤ i then xs[i.toNat]? else none, fun _ _ => rfl⟩
@[irreducible] noncomputable def lget {α : Type} : List α → Int → Option α := Classical.choose (lget_ex α)
theorem lget_eq {α : Type} (xs : List α) (i : Int) : lget xs i = (if 0 ≤ i then xs[i.toNat]? else none) := by unfold lget; exact Classical.choose_spec (lget_ex α) xs i
theorem lset_ex (α : Type) : ∃ f : List α → Int → α → List α, ∀ xs i v, f xs i v = (xs.set i.toNat v) := ⟨fun xs i v => xs.set i.toNat v, fun _ _ _ => rfl⟩
@[irreducible] noncomputable def lset {α : Type} : List α → Int → α → List α := Classical.choose (lset_ex α)
theorem lset_eq {α : Type} (xs : List α) (i : Int) (v : α) : lset xs i v = (xs.set i.toNat v) := by unfold lset; exact Classical.choose_spec (lset_ex α) xs i v
theorem lcat_ex (α : Type) : ∃ f : List α → List α → List α, ∀ xs ys, f xs ys = (xs ++ ys) := ⟨fun xs ys => xs ++ ys, fun _ _ => rfl⟩
@[irreducible] noncomputable def lcat {α : Type} : List α → List α → List α := Classical.choose (lcat_ex α)
theorem lcat_eq {α : Type} (xs : List α) (ys : List α) : lcat xs ys = (xs ++ ys) := by unfold lcat; exact Classical.choose_spec (lcat_ex α) xs ys
theorem lsub_ex (α : Type) : ∃ f : List α → Int → Int → List α, ∀ xs lo hi, f xs lo hi = ((xs.drop lo.toNat).take (hi - lo).toNat) := ⟨fun xs lo hi => (xs.drop lo.toNat).take (hi - lo).toNat, fun _ _ _ => rfl⟩
@[irreducible] noncomputable def lsub {α : Type} : List α → Int → Int → List α := Classical.choose (lsub_ex α)
theorem lsub_eq {α : Type} (xs : List α) (lo : Int) (hi : Int) : lsub xs lo hi = ((xs.drop lo.toNat).take (hi - lo).toNat) := by unfold lsub; exact Classical.choose_spec (lsub_ex α) xs lo hi
theorem lrep_ex (α : Type) : ∃ f : Int → α → List α, ∀ n v, f n v = (List.replicate n.toNat v) := ⟨fun n v => List.replicate n.toNat v, fun _ _ => rfl⟩
@[irreducible] noncomputable def lrep {α : Type} : Int → α → List α := Classical.choose (lrep_ex α)
theorem lrep_eq {α : Type} (n : Int) (v : α) : lrep n v = (List.replicate n.toNat v) := by unfold lrep; exact Classical.choose_spec (lrep_ex α) n v
theorem gbind_ex (α β : Type) : ∃ f : Option α → (α → Option β) → Option β, ∀ o g, f o g = o.bind g := ⟨fun o g => o.bind g, fun _ _ => rfl⟩
@[irreducible] noncomputable def gbind {α β : Type} : Option α → (α → Option β) → Option β := Classical.choose (gbind_ex α β)
theorem gbind_eq {α β : Type} (o : Option α) (g : α → Option β) : gbind o g = o.bind g := by unfold gbind; exact Classical.choose_spec (gbind_ex α β) o g
@[irreducible] noncomputable def agree {α : Type} (x y : Option α) : Option α := @ite _ (x = y) (Classical.propDecidable _) x none
def natK {β : Type} (n : Nat) (κ : Nat → β) : β :=
  match n with
  | 0 => κ 0 | 1 => κ 1 | 2 => κ 2 | 3 => κ 3 | 4 => κ 4 | 5 => κ 5 | 6 => κ 6 | 7 => κ 7 | 8 => κ 8 | 9 => κ 9
  | 10 => κ 10 | 11 => κ 11 | 12 => κ 12 | 13 => κ 13 | 14 => κ 14 | 15 => κ 15 | 16 => κ 16 | 17 => κ 17 | 18 => κ 18 | 19 => κ 19
  | n => κ n
def constK (v : Value) (κ : AV → R) : R :=
  match v with
  | .int k n => κ (.int k n)
  | .bool b => κ (.bool b)
  | .string ⟨⟨l⟩⟩ => κ (.str l)
  | .slice none 0 0 => κ .nil
  | .nilIface => κ .iface0
  | _ => none
def getK {α : Type} : List α → Nat → (α → R) → R
  | [], _, _ => none
  | a :: _, 0, κ => κ a
  | _ :: l, n + 1, κ => getK l n κ
def setK {α : Type} : List α → Nat → α → (List α → R) → R
  | [], _, _, κ => κ []
  | _ :: l, 0, v, κ => κ (v :: l)
  | a :: l, n + 1, v, κ => setK l n v fun l' => κ (a :: l')
def snocK {α : Type} : List α → α → Nat → (Nat → List α → R) → R
  | [], b, n, κ => natK n fun n => κ n [b]
  | a :: l, b, n, κ => snocK l b (n + 1) fun m l' => κ m (a :: l')
def takeK : List AV → Nat → (List AV → R) → R
  | _, 0, κ => κ []
  | [], _, _ => none
  | a :: l, n + 1, κ => takeK l n fun l' => κ (a :: l')
def dropK : List AV → Nat → (List AV → R) → R
  | l, 0, κ => κ l
  | [], _, _ => none
  | _ :: l, n + 1, κ => dropK l n κ
def spliceK : List AV → Nat → List AV → (List AV → R) → R
  | cs, _, [], κ => κ cs
  | [], _, _, _ => none
  | _ :: cs, 0, v :: vs, κ => spliceK cs 0 vs fun l => κ (v :: l)
  | c :: cs, off + 1, vs, κ => spliceK cs off vs fun l => κ (c :: l)
def lenK {α β : Type} : List α → Nat → (Nat → β) → β
  | [], n, κ => natK n κ
  | _ :: l, n, κ => lenK l (n + 1) κ
def cells : AV → List AV
  | .agg cs => cs
  | x => [x]
noncomputable def evK (tm : List AV) (x : Operand) (κ : AV → R) : R :=
  match x with
  | .tmp t => getK tm t κ
  | .const v => constK v κ
  | .func f => κ (.fn f [] [])
  | .global _ => none
noncomputable def evsK (tm : List AV) : List Operand → (List AV → R) → R
  | [], κ => κ []
  | x :: l, κ => evK tm x fun v => evsK tm l fun vs => κ (v :: vs)
noncomputable def partK (size : Nat) (ag : Bool) (v : AV) (off : Nat) (κ : AV → R) : R :=
  match v, ag with
  | .agg cs, true => bif Nat.beq off 0 && Nat.beq size cs.length then κ (.agg cs) else dropK cs off fun l => takeK l size fun l => κ (.agg l)
  | .agg cs, false => getK cs off κ
  | .top, _ => none
  | .anyb, _ => none
  | .tup _, _ => none
  | v, false => bif Nat.beq off 0 then κ v else none
  | _, _ => none
noncomputable def layK (size : Nat) (x : AV) (off : Nat) (v : AV) (κ : AV → R) : R :=
  match x, v with
  | .agg cs, .agg vs => bif Nat.beq size vs.length then spliceK cs off vs fun l => κ (.agg l) else none
  | .agg _, .top => none
  | .agg _, .anyb => none
  | .agg _, .tup _ => none
  | .agg _, .fn _ _ _ => none
  | .agg _, .frs _ _ => none
  | .agg cs, v => bif Nat.beq size 1 then spliceK cs off [v] fun l => κ (.agg l) else none
  | .tup _, _ => none
  | .top, _ => none
  | .anyb, _ => none
  | .fn _ _ _, _ => none
  | _, .agg _ => none
  | _, .top => none
  | _, .anyb => none
  | _, .tup _ => none
  | _, .fn _ _ _ => none
  | _, .frs _ _ => none
  | _, v => bif Nat.beq off 0 && Nat.beq size 1 then κ v else none
noncomputable def boxK (v : AV) (κ : AV → R) : R :=
  match v with
  | .top => none
  | .anyb => none
  | .tup _ => none
  | .fn _ _ _ => none
  | .frs _ _ => none
  | v => κ v
noncomputable def tyK (T : TypeId → Option TI) (t : TypeId) (κ : Nat → Bool → Nat → AV → TD → R) : R :=
  match T t with
  | some (.mk s a b z d) => κ s a b z d
  | none => none
noncomputable def rowsOf (r : Option (Int × Int)) (xs : List AV) (κ : List AV → R) : R :=
  match r with
  | none => κ xs
  | some (o, l) => κ (lsub xs o (iadd o l))
noncomputable def lenOf (r : Option (Int × Int)) (xs : List AV) (κ : Int → R) : R :=
  match r with
  | none => κ (ilen xs)
  | some (_, l) => κ l
noncomputable def pur1K (hp : List Blk) (v : AV) (κ : AV → List Blk → R) : R :=
  match v with
  | .int k n => κ (.int k n) hp
  | .bool b => κ (.bool b) hp
  | .str l => κ (.str l) hp
  | .nil => κ .nil hp
  | .iface0 => κ .iface0 hp
  | .lst o _ E xs => bif o then none else κ (.lst false false E xs) hp
  | .own τ E r _ => getK hp τ fun
      | .rows .live E' xs => bif Nat.beq E E' then setK hp τ (.rows .frozen E' xs) fun hp => rowsOf r xs fun ys => κ (.lst false false E ys) hp else none
      | .rows .frozen E' xs => bif Nat.beq E E' then rowsOf r xs fun ys => κ (.lst false false E ys) hp else none
      | _ => none
  | _ => none
noncomputable def pursK (hp : List Blk) : List AV → (List AV → List Blk → R) → R
  | [], κ => κ [] hp
  | v :: l, κ => pur1K hp v fun v hp => pursK hp l fun l hp => κ (v :: l) hp
noncomputable def purK (hp : List Blk) (v : AV) (κ : AV → List Blk → R) : R :=
  match v with
  | .agg cs => pursK hp cs fun cs hp => κ (.agg cs) hp
  | v => pur1K hp v κ
noncomputable def lend1K (hp : List Blk) (v : AV) (κ : AV → Bool → R) : R :=
  match v with
  | .own τ E r c => getK hp τ fun
      | .rows .live E' xs => bif Nat.beq E E' then rowsOf r xs fun ys => κ (.lst true c E ys) true else none
      | .rows .frozen E' xs => bif Nat.beq E E' then rowsOf r xs fun ys => κ (.lst false c E ys) false else none
      | _ => none
  | .ptr _ _ _ _ => none
  | .frs _ _ => none
  | .fn _ _ _ => none
  | .top => none
  | .anyb => none
  | .agg _ => none
  | .tup _ => none
  | v => κ v false
noncomputable def lendsK (hp : List Blk) : List AV → (List AV → Bool → R) → R
  | [], κ => κ [] false
  | v :: l, κ => lend1K hp v fun v b => lendsK hp l fun l b' => κ (v :: l) (b || b')
def noAt : AV → Bool
  | .at _ _ => false
  | _ => true
def noAts : List AV → Bool
  | [] => true
  | v :: l => noAt v && noAts l
noncomputable def lend2K (hp : List Blk) (v : AV) (κ : AV → Bool → R) : R :=
  match v with
  | .agg cs => lendsK hp cs fun cs b => κ (.agg cs) b
  | .ptr τ idx off E => getK hp τ fun
      | .box (.agg cs) => lendsK hp cs fun cs _ => bif noAts cs then κ (.at (.agg cs) off) true else none
      | .box v => lend1K hp v fun v _ => bif noAt v then κ (.at v off) true else none
      | .rows .dead _ _ => none
      | .rows _ E' xs => bif Nat.beq E E' then gbind (lget xs idx) fun x => κ (.at x off) true else none
  | v => lend1K hp v κ
noncomputable def lends2K (hp : List Blk) : List AV → (List AV → Bool → R) → R
  | [], κ => κ [] false
  | v :: l, κ => lend2K hp v fun v b => lends2K hp l fun l b' => κ (v :: l) (b || b')
noncomputable def lend3K (hp : List Blk) (v : AV) (κ : AV → Bool → R) : R :=
  match v with
  | .fn f a c => lends2K hp a fun a b => lends2K hp c fun c b' => κ (.fn f a c) (b || b')
  | v => lend2K hp v κ
noncomputable def lends3K (hp : List Blk) : List AV → (List AV → Bool → R) → R
  | [], κ => κ [] false
  | v :: l, κ => lend3K hp v fun v b => lends3K hp l fun l b' => κ (v :: l) (b || b')
def far1 : AV → Bool
  | .lst o _ _ _ => o
  | .at _ _ => true
  | .fn _ _ _ => true
  | _ => false
def fars : List AV → Bool
  | [] => false
  | v :: l => far1 v || fars l
def far2 : AV → Bool
  | .agg cs => fars cs
  | v => far1 v
def fars2 : List AV → Bool
  | [] => false
  | v :: l => far2 v || fars2 l
def far : AV → Bool
  | .tup vs => fars2 vs
  | v => far2 v
def okR1 : AV → Bool
  | .own _ _ _ _ => false
  | .ptr _ _ _ _ => false
  | .fn _ _ _ => false
  | .tup _ => false
  | .agg _ => false
  | .top => false
  | .anyb => false
  | _ => true
def okRs : List AV → Bool
  | [] => true
  | v :: l => okR1 v && okRs l
def okR2 : AV → Bool
  | .agg cs => okRs cs
  | v => okR1 v
def okRs2 : List AV → Bool
  | [] => true
  | v :: l => okR2 v && okRs2 l
def okR3 : AV → Bool
  | .tup vs => okRs2 vs
  | v => okR2 v
def isNl {α : Type} : List α → Bool
  | [] => true
  | _ => false
noncomputable def adopt1K (hp : List Blk) (v : AV) (κ : AV → List Blk → R) : R :=
  match v with
  | .frs E xs => snocK hp (.rows .live E xs) 0 fun n hp => κ (.own n E none false) hp
  | v => κ v hp
noncomputable def adoptsK (hp : List Blk) : List AV → (List AV → List Blk → R) → R
  | [], κ => κ [] hp
  | v :: l, κ => adopt1K hp v fun v hp => adoptsK hp l fun l hp => κ (v :: l) hp
noncomputable def adopt2K (hp : List Blk) (v : AV) (κ : AV → List Blk → R) : R :=
  match v with
  | .agg cs => adoptsK hp cs fun cs hp => κ (.agg cs) hp
  | v => adopt1K hp v κ
noncomputable def adopts2K (hp : List Blk) : List AV → (List AV → List Blk → R) → R
  | [], κ => κ [] hp
  | v :: l, κ => adopt2K hp v fun v hp => adopts2K hp l fun l hp => κ (v :: l) hp
noncomputable def adoptK (hp : List Blk) (v : AV) (κ : AV → List Blk → R) : R :=
  match v with
  | .tup vs => adopts2K hp vs fun vs hp => κ (.tup vs) hp
  | v => adopt2K hp v κ
noncomputable def apnd : List AV → List AV → List AV
  | [], ys => ys
  | x :: xs, ys => x :: apnd xs ys
def memN : List Nat → Nat → Bool
  | [], _ => false
  | a :: l, n => bif Nat.beq a n then true else memN l n
def idxN : List Nat → Nat → Nat → (Nat → R) → R
  | [], _, _, _ => none
  | a :: l, n, m, κ => bif Nat.beq a n then natK m κ else idxN l n (m + 1) κ
def snocN (l : List Nat) (n : Nat) : List Nat :=
  match l with
  | [] => [n]
  | a :: l => a :: snocN l n
noncomputable def tok1 (b0 : Nat) (acc : List Nat) : AV → List Nat
  | .own τ _ _ _ => bif Nat.ble b0 τ then bif memN acc τ then acc else snocN acc τ else acc
  | .ptr τ _ _ _ => bif Nat.ble b0 τ then bif memN acc τ then acc else snocN acc τ else acc
  | _ => acc
noncomputable def toks (b0 : Nat) (acc : List Nat) : List AV → List Nat
  | [] => acc
  | v :: l => toks b0 (tok1 b0 acc v) l
noncomputable def tok2 (b0 : Nat) (acc : List Nat) : AV → List Nat
  | .agg cs => toks b0 acc cs
  | .tup cs => toks b0 acc cs
  | v => tok1 b0 acc v
noncomputable def toks2 (b0 : Nat) (acc : List Nat) : List AV → List Nat
  | [] => acc
  | v :: l => toks2 b0 (tok2 b0 acc v) l
noncomputable def tok3 (b0 : Nat) (acc : List Nat) : AV → List Nat
  | .fn _ a c => toks2 b0 (toks2 b0 acc a) c
  | v => tok2 b0 acc v
noncomputable def toks3 (b0 : Nat) (acc : List Nat) : List AV → List Nat
  | [] => acc
  | v :: l => toks3 b0 (tok3 b0 acc v) l
noncomputable def boxTok (b0 : Nat) (hp : List Blk) (acc : List Nat) : Nat → List Nat
  | τ => match hp[τ]? with
    | some (.box v) => tok2 b0 acc v
    | _ => acc
noncomputable def boxToks (b0 : Nat) (hp : List Blk) (acc : List Nat) : List Nat → List Nat
  | [] => acc
  | τ :: l => boxToks b0 hp (boxTok b0 hp acc τ) l
noncomputable def snocNK (l : List Nat) (n : Nat) (κ : List Nat → R) : R :=
  match l with
  | [] => κ [n]
  | a :: l => snocNK l n fun l => κ (a :: l)
noncomputable def addNK (b0 : Nat) (acc : List Nat) (τ : Nat) (κ : List Nat → R) : R :=
  bif Nat.ble b0 τ then bif memN acc τ then κ acc else snocNK acc τ κ else κ acc
noncomputable def tok1K (b0 : Nat) (acc : List Nat) (v : AV) (κ : List Nat → R) : R :=
  match v with
  | .own τ _ _ _ => addNK b0 acc τ κ
  | .ptr τ _ _ _ => addNK b0 acc τ κ
  | _ => κ acc
noncomputable def toksK (b0 : Nat) (acc : List Nat) : List AV → (List Nat → R) → R
  | [], κ => κ acc
  | v :: l, κ => tok1K b0 acc v fun acc => toksK b0 acc l κ
noncomputable def tok2K (b0 : Nat) (acc : List Nat) (v : AV) (κ : List Nat → R) : R :=
  match v with
  | .agg cs => toksK b0 acc cs κ
  | .tup cs => toksK b0 acc cs κ
  | v => tok1K b0 acc v κ
noncomputable def toks2K (b0 : Nat) (acc : List Nat) : List AV → (List Nat → R) → R
  | [], κ => κ acc
  | v :: l, κ => tok2K b0 acc v fun acc => toks2K b0 acc l κ
noncomputable def tok3K (b0 : Nat) (acc : List Nat) (v : AV) (κ : List Nat → R) : R :=
  match v with
  | .fn _ a c => toks2K b0 acc a fun acc => toks2K b0 acc c κ
  | v => tok2K b0 acc v κ
noncomputable def toks3K (b0 : Nat) (acc : List Nat) : List AV → (List Nat → R) → R
  | [], κ => κ acc
  | v :: l, κ => tok3K b0 acc v fun acc => toks3K b0 acc l κ
noncomputable def boxTokK (b0 : Nat) (hp : List Blk) (acc : List Nat) (τ : Nat) (κ : List Nat → R) : R :=
  match hp[τ]? with
  | some (.box v) => tok2K b0 acc v κ
  | _ => κ acc
noncomputable def boxToksK (b0 : Nat) (hp : List Blk) (acc : List Nat) : List Nat → (List Nat → R) → R
  | [], κ => κ acc
  | τ :: l, κ => boxTokK b0 hp acc τ fun acc => boxToksK b0 hp acc l κ
noncomputable def oldToksK (b0 : Nat) (acc : List Nat) : List Blk → (List Nat → R) → R
  | [], κ => κ acc
  | b :: l, κ => match b with
    | .box v => tok2K b0 acc v fun acc => oldToksK b0 acc l κ
    | _ => oldToksK b0 acc l κ
noncomputable def ren1K (b0 : Nat) (ids : List Nat) (v : AV) (κ : AV → R) : R :=
  match v with
  | .own τ E r c => bif Nat.ble b0 τ then idxN ids τ b0 fun τ => κ (.own τ E r c) else κ (.own τ E r c)
  | .ptr τ i o E => bif Nat.ble b0 τ then idxN ids τ b0 fun τ => κ (.ptr τ i o E) else κ (.ptr τ i o E)
  | .fn _ _ _ => none
  | .tup _ => none
  | .agg _ => none
  | v => κ v
noncomputable def rensK (b0 : Nat) (ids : List Nat) : List AV → (List AV → R) → R
  | [], κ => κ []
  | v :: l, κ => ren1K b0 ids v fun v => rensK b0 ids l fun l => κ (v :: l)
noncomputable def ren2K (b0 : Nat) (ids : List Nat) (v : AV) (κ : AV → R) : R :=
  match v with
  | .agg cs => rensK b0 ids cs fun cs => κ (.agg cs)
  | .tup cs => rensK b0 ids cs fun cs => κ (.tup cs)
  | v => ren1K b0 ids v κ
noncomputable def rens2K (b0 : Nat) (ids : List Nat) : List AV → (List AV → R) → R
  | [], κ => κ []
  | v :: l, κ => ren2K b0 ids v fun v => rens2K b0 ids l fun l => κ (v :: l)
noncomputable def ren3K (b0 : Nat) (ids : List Nat) (v : AV) (κ : AV → R) : R :=
  match v with
  | .fn f a c => rens2K b0 ids a fun a => rens2K b0 ids c fun c => κ (.fn f a c)
  | v => ren2K b0 ids v κ
noncomputable def rens3K (b0 : Nat) (ids : List Nat) : List AV → (List AV → R) → R
  | [], κ => κ []
  | v :: l, κ => ren3K b0 ids v fun v => rens3K b0 ids l fun l => κ (v :: l)
noncomputable def renBK (b0 : Nat) (ids : List Nat) (b : Blk) (κ : Blk → R) : R :=
  match b with
  | .box v => ren3K b0 ids v fun v => κ (.box v)
  | .rows m E xs => κ (.rows m E xs)
noncomputable def pickB (b0 : Nat) (ids : List Nat) (hp : List Blk) : List Nat → (List Blk → R) → R
  | [], κ => κ []
  | τ :: l, κ => getK hp τ fun b => renBK b0 ids b fun b => pickB b0 ids hp l fun bs => κ (b :: bs)
noncomputable def headB (hp : List Blk) : Nat → (List Blk → R) → R
  | 0, κ => κ []
  | n + 1, κ => match hp with
    | [] => none
    | b :: l => headB l n fun l => κ (b :: l)
noncomputable def apndB {α : Type} : List α → List α → (List α → R) → R
  | [], ys, κ => κ ys
  | x :: xs, ys, κ => apndB xs ys fun l => κ (x :: l)
noncomputable def bak1K (ids : List Nat) (v : AV) (κ : AV → R) : R :=
  match v with
  | .own τ E r c => getK ids τ fun τ => κ (.own τ E r c)
  | .ptr τ i o E => getK ids τ fun τ => κ (.ptr τ i o E)
  | .fn _ _ _ => none
  | .tup _ => none
  | .agg _ => none
  | v => κ v
noncomputable def baksK (ids : List Nat) : List AV → (List AV → R) → R
  | [], κ => κ []
  | v :: l, κ => bak1K ids v fun v => baksK ids l fun l => κ (v :: l)
noncomputable def bak2K (ids : List Nat) (v : AV) (κ : AV → R) : R :=
  match v with
  | .agg cs => baksK ids cs fun cs => κ (.agg cs)
  | v => bak1K ids v κ
noncomputable def baks2K (ids : List Nat) : List AV → (List AV → R) → R
  | [], κ => κ []
  | v :: l, κ => bak2K ids v fun v => baks2K ids l fun l => κ (v :: l)
noncomputable def bak3K (ids : List Nat) (v : AV) (κ : AV → R) : R :=
  match v with
  | .tup vs => baks2K ids vs fun vs => κ (.tup vs)
  | v => bak2K ids v κ
noncomputable def bakB (ids : List Nat) (b : Blk) (κ : Blk → R) : R :=
  match b with
  | .box v => bak2K ids v fun v => κ (.box v)
  | .rows m E xs => κ (.rows m E xs)
noncomputable def layB (ids : List Nat) : List Nat → List Blk → List Blk → (List Blk → R) → R
  | [], [], hp, κ => κ hp
  | [], b :: bs, hp, κ => bakB ids b fun b => snocK hp b 0 fun _ hp => layB ids [] bs hp κ
  | _ :: _, [], _, _ => none
  | τ :: l, b :: bs, hp, κ => bakB ids b fun b => setK hp τ b fun hp => layB ids l bs hp κ
noncomputable def moreN : List Nat → List Blk → Nat → (List Nat → R) → R
  | [], [], _, κ => κ []
  | [], _ :: bs, n, κ => natK n fun n => moreN [] bs (n + 1) fun l => κ (n :: l)
  | _ :: _, [], _, _ => none
  | τ :: l, _ :: bs, n, κ => moreN l bs n fun l => κ (τ :: l)
noncomputable def frzK : List AV → List Blk → (List Blk → R) → R
  | [], hp, κ => κ hp
  | .own τ E r c :: l, hp, κ => pur1K hp (.own τ E r c) fun _ hp => frzK l hp κ
  | _ :: l, hp, κ => frzK l hp κ
noncomputable def callK (C : CF) (sh : FuncId → Bool) (f : FuncId) (args : List AV) (hp : List Blk) (κ : AV → List Blk → R) : R :=
  bif sh f then
    toks3K 0 [] args fun ids => boxToksK 0 hp ids ids fun ids =>
    rens3K 0 ids args fun args => pickB 0 ids hp ids fun hs => gbind (C f args hs) fun r =>
      lenK hp 0 fun n => moreN ids r.2 n fun ids' => layB ids' ids r.2 hp fun hp => bak3K ids' r.1 fun v => adoptK hp v κ
  else bif sh (Nat.add f 1000000) then frzK args hp fun hp => lends3K hp args fun args b => gbind (C f args []) fun r => bif okR3 r.1 && isNl r.2 then bif b && far r.1 then none else adoptK hp r.1 κ else none
  else lends3K hp args fun args b => gbind (C f args []) fun r => bif okR3 r.1 && isNl r.2 then bif b && far r.1 then none else adoptK hp r.1 κ else none
noncomputable def intBin (op : BinOp) (k : IntKind) (a b : Int) (κ : AV → R) : R :=
  match op with
  | .add => κ (.int k (wr k (iadd a b)))
  | .sub => κ (.int k (wr k (isub a b)))
  | .mul => κ (.int k (wr k (imul a b)))
  | .quo => bif ieq b 0 then none else κ (.int k (wr k (iquo a b)))
  | .rem => bif ieq b 0 then none else κ (.int k (irem a b))
  | .and => κ (.int k (iand k a b))
  | .eql => κ (.bool (ieq a b))
  | .neq => κ (.bool (!ieq a b))
  | .lss => κ (.bool (ilt a b))
  | .leq => κ (.bool (ile a b))
  | .gtr => κ (.bool (ilt b a))
  | .geq => κ (.bool (ile b a))
  | _ => none
noncomputable def eqCells : List AV → List AV → (Bool → R) → R
  | [], [], κ => κ true
  | [.int .i64 a], [.int .i64 b], κ => κ (ieq a b)
  | .int .i64 a :: l, .int .i64 b :: m, κ => eqCells l m fun t => κ (ieq a b && t)
  | _, _, _ => none
noncomputable def binK (op : BinOp) (x y : AV) (κ : AV → R) : R :=
  match x, y with
  | .int k a, .int k' b =>
    match op with
    | .shl => bif ilt b 0 then none else κ (.int k (ishl k a b))
    | .shr => bif ilt b 0 then none else κ (.int k (ishr k a b))
    | op => bif decide (k = k') then intBin op k a b κ else none
  | .str a, .str b =>
    match op with
    | .add => bif fits (iadd (ilen a) (ilen b)) 1 then κ (.str (lcat a b)) else none
    | .eql => κ (.bool (seq a b))
    | .neq => κ (.bool (!seq a b))
    | _ => none
  | _, _ => none
noncomputable def binBoolK (op : BinOp) (a b : Bool) (κ : AV → R) : R :=
  match op with
  | .eql => κ (.bool (beqb a b))
  | .neq => κ (.bool (!beqb a b))
  | _ => none
noncomputable def binAggK (op : BinOp) (a b : List AV) (κ : AV → R) : R :=
  match op with
  | .eql => eqCells a b fun t => κ (.bool t)
  | .neq => eqCells a b fun t => κ (.bool (!t))
  | _ => none
noncomputable def apRowsK (hp : List Blk) (s : AV) (E bytes : Nat) (news : List AV) (κ : AV → List Blk → R) : R :=
  match s with
  | .nil => bif fits (ilen news) bytes then snocK hp (.rows .live E news) 0 fun n hp => κ (.own n E none false) hp else none
  | .lst o true E' xs => bif Nat.beq E E' then match news with
      | [] => bif fits (ilen xs) bytes then κ (.lst o true E' xs) hp else none
      | x :: news => bif fits (iadd (ilen xs) (ilen (x :: news))) bytes then snocK hp (.rows .live E (lcat xs (x :: news))) 0 fun n hp => κ (.own n E none false) hp else none
      else none
  | .own τ E' r c => bif Nat.beq E E' then getK hp τ fun
      | .rows m E'' xs => bif Nat.beq E E'' then
          lenOf r xs fun l => bif fits (iadd l (ilen news)) bytes then
          match c with
          | true => match m, news with
            | .dead, _ => none
            | _, [] => κ (.own τ E' r true) hp
            | _, x :: news => rowsOf r xs fun ys => snocK hp (.rows .live E (lcat ys (x :: news))) 0 fun n hp => κ (.own n E none false) hp
          | false => match m with
            | .live => match r with
              | none => setK hp τ (.rows .dead E xs) fun hp => snocK hp (.rows .live E (lcat xs news)) 0 fun n hp => κ (.own n E none false) hp
              | some (o, l) => bif ieq (iadd o l) (ilen xs) then
                  setK hp τ (.rows .dead E xs) fun hp => snocK hp (.rows .live E (lcat (lsub xs o (iadd o l)) news)) 0 fun n hp => κ (.own n E none false) hp
                else bif ile (iadd (iadd o l) (ilen news)) (ilen xs) then
                  setK hp τ (.rows .live E (lcat (lcat (lsub xs 0 (iadd o l)) news) (lsub xs (iadd (iadd o l) (ilen news)) (ilen xs)))) fun hp => κ (.own τ E (some (o, iadd l (ilen news))) false) hp
                else none
            | _ => none
          else none else none
      | _ => none
      else none
  | _ => none
noncomputable def srcK (hp : List Blk) (x : AV) (E : Nat) (κ : List AV → R) : R :=
  match x with
  | .nil => κ []
  | .lst _ _ E' xs => bif Nat.beq E E' then κ xs else none
  | .own τ E' r _ => bif Nat.beq E E' then getK hp τ fun
      | .rows .live E'' xs => bif Nat.beq E E'' then rowsOf r xs κ else none
      | .rows .frozen E'' xs => bif Nat.beq E E'' then rowsOf r xs κ else none
      | _ => none
      else none
  | _ => none
noncomputable def plainRow : AV → Bool
  | .own _ _ _ _ => false
  | _ => true
noncomputable def optK (tm : List AV) (x : Option Operand) (κ : Option Int → R) : R :=
  match x with
  | none => κ none
  | some x => evK tm x fun
    | .int _ n => κ (some n)
    | _ => none
noncomputable def fillK (T : TypeId → Option TI) (offs : List (Nat × TypeId)) (tm : List AV) : List (Nat × Operand) → List AV → (List AV → R) → R
  | [], cs, κ => κ cs
  | (i, x) :: l, cs, κ => getK offs i fun (off, ft) => tyK T ft fun sz _ _ _ _ => evK tm x fun
    | .agg [] => none
    | .agg vs => lenK vs 0 fun n => bif Nat.beq sz n then spliceK cs off vs fun cs => fillK T offs tm l cs κ else none
    | .top => none
    | .anyb => none
    | .tup _ => none
    | .fn _ _ _ => none
    | .frs _ _ => none
    | v => bif Nat.beq sz 1 then spliceK cs off [v] fun cs => fillK T offs tm l cs κ else none
noncomputable def elemsK (E : Nat) (tm : List AV) (hp : List Blk) : List (Nat × Operand) → List AV → (List AV → List Blk → R) → R
  | [], xs, κ => κ xs hp
  | (i, x) :: l, xs, κ => evK tm x fun v => lenK (cells v) 0 fun n => bif Nat.beq n E then lenK xs 0 fun m => bif Nat.ble (i + 1) m then purK hp v fun v hp => setK xs i v fun xs => elemsK E tm hp l xs κ else none else none
noncomputable def repK : Nat → AV → (List AV → R) → R
  | 0, _, κ => κ []
  | n + 1, v, κ => repK n v fun l => κ (v :: l)
noncomputable def foldMM (f : Int → Int → Int) : List AV → Int → (Int → R) → R
  | [], a, κ => κ a
  | .int _ b :: l, a, κ => foldMM f l (f a b) κ
  | _ :: _, _, _ => none
def isZ (x : Option Operand) : Bool :=
  match x with
  | some (.const (.int _ n)) => decide (n = 0)
  | _ => false
noncomputable def sliceK (hp : List Blk) (x : AV) (E : Nat) (lo hi mx : Option Int) (κ : AV → R) : R :=
  match x with
  | .str l =>
    match lo, hi, mx with
    | none, none, none => κ (.str l)
    | some a, none, none => bif ile 0 a && ile a (ilen l) then κ (.str (lsub l a (ilen l))) else none
    | none, some b, none => bif ile 0 b && ile b (ilen l) then κ (.str (lsub l 0 b)) else none
    | some a, some b, none => bif ile 0 a && ile a b && ile b (ilen l) then κ (.str (lsub l a b)) else none
    | _, _, _ => none
  | .nil =>
    match lo, hi, mx with
    | none, none, none => κ .nil
    | some a, none, none => bif ieq a 0 then κ .nil else none
    | none, some b, none => bif ieq b 0 then κ .nil else none
    | some a, some b, none => bif ieq a 0 && ieq b 0 then κ .nil else none
    | none, some b, some c => bif ieq b 0 && ieq c 0 then κ .nil else none
    | _, _, _ => none
  | .lst o c E' xs => bif Nat.beq E E' then
    match lo, hi, mx with
    | none, none, none => κ (.lst o c E xs)
    | some a, none, none => bif ile 0 a && ile a (ilen xs) then κ (.lst o c E (lsub xs a (ilen xs))) else none
    | none, some b, none => bif ile 0 b && ile b (ilen xs) then κ (.lst o false E (lsub xs 0 b)) else none
    | some a, some b, none => bif ile 0 a && ile a b && ile b (ilen xs) then κ (.lst o false E (lsub xs a b)) else none
    | none, some b, some m => bif ile 0 b && ieq b m && ile b (ilen xs) then κ (.lst o true E (lsub xs 0 b)) else none
    | _, _, _ => none
    else none
  | .own τ E' r c => bif Nat.beq E E' then getK hp τ fun
    | .rows m E'' xs => bif Nat.beq E E'' then
      match m with
      | .dead => none
      | _ =>
      match r with
      | none =>
        match lo, hi, mx with
        | none, none, none => κ (.own τ E none c)
        | some a, none, none => bif ile 0 a && ile a (ilen xs) then κ (.own τ E (some (a, isub (ilen xs) a)) c) else none
        | none, some b, none => bif ile 0 b && ile b (ilen xs) then κ (.own τ E (some (0, b)) false) else none
        | some a, some b, none => bif ile 0 a && ile a b && ile b (ilen xs) then κ (.own τ E (some (a, isub b a)) false) else none
        | none, some b, some m => bif ile 0 b && ieq b m && ile b (ilen xs) then κ (.own τ E (some (0, b)) true) else none
        | _, _, _ => none
      | some (o, l) =>
        match lo, hi, mx with
        | none, none, none => κ (.own τ E (some (o, l)) c)
        | some a, none, none => bif ile 0 a && ile a l then κ (.own τ E (some (iadd o a, isub l a)) c) else none
        | none, some b, none => bif !c && ile 0 b && ile (iadd o b) (ilen xs) then κ (.own τ E (some (o, b)) false) else none
        | some a, some b, none => bif !c && ile 0 a && ile a b && ile (iadd o b) (ilen xs) then κ (.own τ E (some (iadd o a, isub b a)) false) else none
        | none, some b, some m => bif !c && ile 0 b && ieq b m && ile (iadd o b) (ilen xs) then κ (.own τ E (some (o, b)) true) else none
        | _, _, _ => none
      else none
    | _ => none
    else none
  | _ => none
def isTop : AV → Bool
  | .top => true
  | .anyb => true
  | _ => false
def isSl : AV → Bool
  | .nil => true
  | .lst _ _ _ _ => true
  | .own _ _ _ _ => true
  | _ => false
open Classical in
theorem sameR_ex : ∃ f : R → R → R, ∀ a b, f a b = (if a = b then a else none) := ⟨fun a b => if a = b then a else none, fun _ _ => rfl⟩
@[irreducible] noncomputable def sameR : R → R → R := Classical.choose sameR_ex
open Classical in
theorem sameR_eq (a b : R) : sameR a b = (if a = b then a else none) := by unfold sameR; exact Classical.choose_spec sameR_ex a b
theorem sameR_some {a b : R} {r : AV × List Blk} (h : sameR a b = some r) : a = some r ∧ b = some r := by
  rw [sameR_eq] at h
  split at h
  · rename_i e; exact ⟨h, e ▸ h⟩
  · cases h
noncomputable def nilK (op : BinOp) (hp : List Blk) (x : AV) (κ : AV → R) : R :=
  match op with
  | .eql => go (κ .anyb) (fun b => κ (.bool b))
  | .neq => go (κ .anyb) (fun b => κ (.bool (!b)))
  | _ => none
where
  go (κ0 : R) (κ : Bool → R) : R := match x with
    | .lst _ _ _ xs => bif ieq (ilen xs) 0 then κ0 else κ false
    | .own τ _ none _ => getK hp τ fun
      | .rows .dead _ _ => none
      | .rows _ _ xs => bif ieq (ilen xs) 0 then none else κ false
      | _ => none
    | _ => none
def isNilC : Operand → Bool
  | .const (.slice none 0 0) => true
  | _ => false
def allVar : List AV → Bool
  | [] => true
  | .top :: _ => false
  | .anyb :: _ => false
  | .tup _ :: _ => false
  | .fn _ _ _ :: _ => false
  | _ :: l => allVar l
noncomputable def lenSlK (hp : List Blk) (as : List AV) (κ : Int → R) : R :=
  match as with
  | [.lst _ _ _ xs] => κ (ilen xs)
  | [.nil] => κ 0
  | [.own τ _ none _] => getK hp τ fun
    | .rows .dead _ _ => none
    | .rows _ _ xs => κ (ilen xs)
    | _ => none
  | [.own _ _ (some (_, l)) _] => κ l
  | _ => none
noncomputable def aopK (T : TypeId → Option TI) (C : CF) (sh : FuncId → Bool) (o : Oper) (tm : List AV) (hp : List Blk) (κ : AV → List Blk → R) : R :=
  match o.op with
  | .move x => evK tm x fun v => κ v hp
  | .assign x => evK tm x fun
    | .nil => tyK T o.type fun _ _ _ _ d => match d with
      | .slice e => tyK T e fun E _ _ _ _ => snocK hp (.rows .live E []) 0 fun n hp => κ (.own n E none false) hp
      | _ => none
    | v => κ v hp
  | .pick c a b => evK tm c fun
    | .bool t => bif t then evK tm a fun v => κ v hp else evK tm b fun v => κ v hp
    | _ => none
  | .alloc t => tyK T t fun E _ _ z _ => boxK z fun z => snocK hp (.box z) 0 fun n hp => κ (.ptr n 0 0 E) hp
  | .box t x => tyK T t fun E _ _ _ _ => evK tm x fun v => boxK v fun v => snocK hp (.box v) 0 fun n hp => κ (.ptr n 0 0 E) hp
  | .build t ps => tyK T t fun sz _ _ z d => match z, d with
    | .agg zs, .struct offs _ => fillK T offs tm ps.toList zs fun cs => κ (.agg cs) hp
    | _, _ => none
  | .buildSlice t n ps => tyK T t fun _ _ _ _ d => match d with
    | .slice e => tyK T e fun E _ _ z _ => bif Nat.ble (n * E) 16777216 then purK [] z fun z _ => repK n z fun xs => elemsK E tm hp ps.toList xs fun xs hp => snocK hp (.rows .live E xs) 0 fun n hp => κ (.own n E none false) hp else none
    | _ => none
  | .load t x => tyK T t fun sz ag _ _ _ => evK tm x fun
    | .ptr τ idx off E => getK hp τ fun
      | .box v => partK sz ag v off fun v => κ v hp
      | .rows m E' xs => bif Nat.beq E E' then match m with
        | .dead => none
        | _ => gbind (lget xs idx) fun x => partK sz ag x off fun v => κ v hp
        else none
    | .at v off => partK sz ag v off fun v => κ v hp
    | _ => none
  | .store t x y => tyK T t fun sz _ _ _ _ => evK tm x fun
    | .ptr τ idx off E => evK tm y fun v => getK hp τ fun
      | .box x => layK sz x off v fun x => setK hp τ (.box x) fun hp => κ .top hp
      | .rows _ _ _ => purK hp v fun v hp => getK hp τ fun
        | .rows .live E' xs => bif Nat.beq E E' then gbind (lget xs idx) fun x => layK sz x off v fun x => setK hp τ (.rows .live E (lset xs idx x)) fun hp => κ .top hp else none
        | _ => none
    | _ => none
  | .nilCheck x => evK tm x fun
    | .ptr τ idx off E => κ (.ptr τ idx off E) hp
    | .at v off => κ (.at v off) hp
    | _ => none
  | .binOp op t x y' _ => evK tm x fun x => evK tm y' fun y => match x, y with
    | x, .nil => bif isNilC y' then tyK T t fun _ _ _ _ d => match d with
      | .slice _ => nilK op hp x fun v => κ v hp
      | _ => none
      else none
    | .agg a, .agg b => tyK T t fun sz _ _ _ d => match d with
      | .struct _ true => lenK a 0 fun n => bif Nat.beq n sz then binAggK op a b fun v => κ v hp else none
      | _ => none
    | .bool a, .bool b => tyK T t fun _ _ _ _ d => match d with
      | .bool => binBoolK op a b fun v => κ v hp
      | _ => none
    | x, y => binK op x y fun v => κ v hp
  | .unOp op _ x => evK tm x fun x => match op, x with
    | .neg, .int k n => κ (.int k (wr k (isub 0 n))) hp
    | .not, .bool b => κ (.bool (!b)) hp
    | _, _ => none
  | .convert s d x => tyK T s fun _ _ _ _ s => tyK T d fun _ _ _ _ d => evK tm x fun x => match s, d, x with
    | .int _, .int k, .int _ n => κ (.int k (wr k n)) hp
    | .str, .str, .str l => κ (.str l) hp
    | _, _, _ => none
  | .makeFunc (.func f) fs cs => evsK tm fs.toList fun fs => evsK tm cs.toList fun cs => bif allVar fs && allVar cs then κ (.fn f fs cs) hp else none
  | .makeSlice t l c => tyK T t fun _ _ _ _ d => match d with
    | .slice e => tyK T e fun E _ by_ z _ => evK tm l fun
      | .int _ l => evK tm c fun
        | .int _ c => bif Nat.beq by_ 0 then none else bif ile 0 l && ile l c && fits c by_ then
            purK [] z fun z _ => snocK hp (.rows .live E (lrep l z)) 0 fun n hp => κ (.own n E none false) hp else none
        | _ => none
      | _ => none
    | _ => none
  | .slice t x lo hi mx' => tyK T t fun _ _ _ _ d => evK tm x fun x => optK tm lo fun lo => optK tm hi fun hi' => optK tm mx' fun mx => match d with
    | .slice e => tyK T e fun E _ _ _ _ => bif isSl x then bif isZ hi && isZ mx' && lo.isNone then κ .nil hp else sliceK hp x E lo hi' mx fun v => κ v hp else none
    | .str => match x with
      | .str l => sliceK hp (.str l) 0 lo hi' mx fun v => κ v hp
      | _ => none
    | _ => none
  | .fieldAddr t x f => tyK T t fun _ _ _ _ d => match d with
    | .struct offs _ => getK offs f fun (a, ft) => tyK T ft fun fsz _ _ _ _ => bif Nat.beq fsz 0 then none else evK tm x fun
      | .ptr τ idx off E => natK (off + a) fun off => κ (.ptr τ idx off E) hp
      | .at v off => natK (off + a) fun off => κ (.at v off) hp
      | _ => none
    | _ => none
  | .indexAddr t x ix => tyK T t fun _ _ _ _ d => match d with
    | .slice e => tyK T e fun E _ _ _ _ => evK tm ix fun
      | .int _ i => evK tm x fun
        | .lst _ _ E' xs => bif Nat.beq E E' then gbind (lget xs i) fun x => κ (.at x 0) hp else none
        | .own τ E' r _ => bif Nat.beq E E' then getK hp τ fun
          | .rows m E'' xs => bif Nat.beq E E'' then
              match r with
              | none => match m with
                | .dead => none
                | _ => bif ile 0 i && ilt i (ilen xs) then κ (.ptr τ i 0 E) hp else none
              | some (o, l) => bif ile 0 i && ilt i l then κ (.ptr τ (iadd o i) 0 E) hp else none
              else none
          | _ => none
          else none
        | _ => none
      | _ => none
    | _ => none
  | .index t x ix => tyK T t fun _ _ _ _ d => match d with
    | .str => evK tm x fun
      | .str l => evK tm ix fun
        | .int _ i => gbind (lget l i) fun b => κ (.int .u8 (bchr b)) hp
        | _ => none
      | _ => none
    | _ => none
  | .extract x i => evK tm x fun
    | .tup vs => getK vs i fun v => κ v hp
    | _ => none
  | .call c =>
    match c.callee with
    | .builtin .len => match c.argTypes.toList with
      | [t] => tyK T t fun _ _ _ _ d => evsK tm c.args.toList fun as => match d with
        | .slice _ => lenSlK hp as fun n => κ (.int .i64 n) hp
        | .str => match as with
          | [.str l] => κ (.int .i64 (ilen l)) hp
          | _ => none
        | _ => none
      | _ => none
    | .builtin .cap => match c.argTypes.toList with
      | [t] => tyK T t fun _ _ _ _ d => evsK tm c.args.toList fun as => match d with
        | .slice _ => match as with
          | [.nil] => κ (.int .i64 0) hp
          | _ => none
        | _ => none
      | _ => none
    | .builtin .append => match c.argTypes.toList with
      | [ta, tb] => tyK T ta fun _ _ _ _ d => tyK T tb fun _ _ _ _ db => match d, db with
        | .slice e, .slice _ => tyK T e fun E _ by_ z _ => bif Nat.beq by_ 0 || isTop z then none else evsK tm c.args.toList fun
          | [s, x] => srcK hp x E fun news => apRowsK hp s E by_ news κ
          | _ => none
        | .slice e, .int _ => tyK T e fun E _ by_ z _ => bif Nat.beq by_ 0 then none else evsK tm c.args.toList fun
          | [.nil, .int .i64 n] => bif ilt 0 n && fits n by_ then purK [] z fun z _ => snocK hp (.rows .live E (lrep n z)) 0 fun m hp => κ (.own m E none false) hp else none
          | _ => none
        | _, _ => none
      | _ => none
    | .builtin .clear => match c.argTypes.toList with
      | [t] => tyK T t fun _ _ _ _ d => match d with
        | .slice e => tyK T e fun E _ _ z _ => evsK tm c.args.toList fun
          | [.own τ E' r _] => bif Nat.beq E E' then getK hp τ fun
            | .rows .live E'' xs => bif Nat.beq E E'' then purK [] z fun z _ => match r with
              | none => setK hp τ (.rows .live E (lrep (ilen xs) z)) fun hp => κ (.tup []) hp
              | some (o, l) => setK hp τ (.rows .live E (lcat (lcat (lsub xs 0 o) (lrep l z)) (lsub xs (iadd o l) (ilen xs)))) fun hp => κ (.tup []) hp
              else none
            | _ => none
            else none
          | _ => none
        | _ => none
      | _ => none
    | .builtin .max => evsK tm c.args.toList fun
      | .int k a :: l => foldMM imax l a fun n => κ (.int k n) hp
      | _ => none
    | .builtin .min => evsK tm c.args.toList fun
      | .int k a :: l => foldMM imin l a fun n => κ (.int k n) hp
      | _ => none
    | .value f => evK tm f fun
      | .fn g fs cs => evsK tm c.args.toList fun args => apndB args cs fun l => apndB fs l fun l => callK C sh g l hp κ
      | _ => none
    | _ => none
  | _ => none
noncomputable def putK (tm : List AV) (d : Option Tmp) (v : AV) (κ : List AV → R) : R :=
  match d with
  | some d => setK tm d v κ
  | none => κ tm
noncomputable def dstK (ops : List Oper) (j : Nat) (κ : Tmp → R) : R :=
  match ops, j with
  | [], _ => none
  | o :: _, 0 => match o.dst with | some t => κ t | none => none
  | _ :: l, j + 1 => dstK l j κ
noncomputable def opsK (T : TypeId → Option TI) (C : CF) (sh : FuncId → Bool) (all : List Oper) (l : List Oper) : List AV → List Blk → (List AV → List Blk → R) → R :=
  @List.rec Oper (fun _ => List AV → List Blk → (List AV → List Blk → R) → R)
    (fun tm hp κ => κ tm hp)
    (fun o _ ih tm hp κ =>
      match o.guard with
      | none => aopK T C sh o tm hp fun v hp => putK tm o.dst v fun tm => ih tm hp κ
      | some (j, want) => dstK all j fun t => getK tm t fun
        | .bool b =>
          bif b then
            setK tm t (.bool true) fun tm =>
              bif want then aopK T C sh o tm hp fun v hp => putK tm o.dst v fun tm => ih tm hp κ
              else putK tm o.dst (.tup []) fun tm => ih tm hp κ
          else
            setK tm t (.bool false) fun tm =>
              bif want then putK tm o.dst (.tup []) fun tm => ih tm hp κ
              else aopK T C sh o tm hp fun v hp => putK tm o.dst v fun tm => ih tm hp κ
        | .tup [] => putK tm o.dst (.tup []) fun tm => ih tm hp κ
        | _ => none) l
def isMut (sh : FuncId → Bool) (o : Oper) : Bool :=
  match o.op with
  | .store _ _ _ => true
  | .buildSlice _ _ _ => true
  | .call c => match c.callee with
    | .builtin .append => true
    | .builtin .clear => true
    | .value (.func f) => bif sh f then true else sh (Nat.add f 1000000)
    | .value _ => true
    | _ => false
  | _ => false
def memB (i : Nat) : List (Tmp × Nat) → Bool
  | [] => false
  | (a, _) :: l => bif Nat.beq a i then true else memB i l
def isEar (o : Oper) : Bool :=
  match o.op with
  | .move _ => true
  | .slice _ _ _ _ _ => true
  | .load _ _ => true
  | .binOp _ _ _ _ _ => true
  | .unOp _ _ _ => true
  | .fieldAddr _ _ _ => true
  | .indexAddr _ _ _ => true
  | _ => false
def arithB (op : BinOp) : Bool :=
  match op with
  | .shl => false
  | .shr => false
  | _ => true
def isLd (o : Oper) : Bool :=
  match o.op with
  | .load _ _ => true
  | _ => false
noncomputable def earK (o : Oper) (tm : List AV) (r : R) : R :=
  match o.op with
  | .binOp op _ x y _ => bif arithB op then evK tm x fun
      | .int _ _ => evK tm y fun
        | .int _ _ => r
        | _ => none
      | _ => none
    else none
  | _ => r
noncomputable def markK (o : Oper) (i : Nat) (tm : List AV) (qs : List (Nat × Option Nat)) (κ : List (Nat × Option Nat) → R) : R :=
  match o.op with
  | .load _ x => evK tm x fun
    | .ptr τ _ _ _ => κ ((i, some τ) :: qs)
    | _ => κ ((i, none) :: qs)
  | _ => κ qs
noncomputable def earlyK (T : TypeId → Option TI) (C : CF) (sh : FuncId → Bool) (all : List Oper) : List (Tmp × Nat) → List (Nat × Option Nat) → List AV → List Blk → (List (Nat × Option Nat) → List AV → List Blk → R) → R
  | [], qs, tm, hp, κ => κ qs tm hp
  | (i, _) :: es, qs, tm, hp, κ => getK all i fun o => match o.guard with
    | none => bif isEar o then markK o i tm qs fun qs => earK o tm (aopK T C sh o tm hp fun v hp => putK tm o.dst v fun tm => earlyK T C sh all es qs tm hp κ) else none
    | some _ => none
def ownedB (hp : List Blk) (τ : Nat) : Bool :=
  match hp[τ]? with
  | some (.box _) => true
  | some (.rows .live _ _) => true
  | _ => false
def aliveB (hp : List Blk) (τ : Nat) : Bool :=
  match hp[τ]? with
  | some (.box _) => true
  | some (.rows .live _ _) => true
  | some (.rows .frozen _ _) => true
  | _ => false
def preB (o : Oper) (k : Nat) : Bool := o.after.toList.any fun e => Region.binds .any e && e.on == k
def lateB (o : Oper) (hp : List Blk) (τ : Nat) : List (Nat × Option Nat) → Bool
  | [] => true
  | (_, none) :: l => lateB o hp τ l
  | (k, some t) :: l => (preB o k || (!(Nat.beq t τ) && aliveB hp t)) && lateB o hp τ l
noncomputable def lateK (qs : List (Nat × Option Nat)) (sh : FuncId → Bool) (o : Oper) (tm : List AV) (hp : List Blk) (x : R) : R :=
  bif isNl qs || !isMut sh o then x else match o.op with
    | .store _ x' _ => evK tm x' fun
      | .ptr τ _ _ _ => bif ownedB hp τ && lateB o hp τ qs then x else none
      | _ => none
    | .buildSlice _ _ _ => x
    | .call c => match c.callee with
      | .builtin .append => match c.args.toList with
        | s :: _ => evK tm s fun
          | .own τ _ _ _ => bif ownedB hp τ && lateB o hp τ qs then x else none
          | _ => none
        | [] => none
      | _ => none
    | _ => none
noncomputable def elemsP (E : Nat) (tm : List AV) : List (Nat × Operand) → List AV → (List AV → R) → R
  | [], xs, κ => κ xs
  | (i, x) :: l, xs, κ => evK tm x fun v => lenK (cells v) 0 fun m => bif Nat.beq m E then lenK xs 0 fun n => bif Nat.ble (i + 1) n then purK [] v fun v _ => setK xs i v fun xs => elemsP E tm l xs κ else none else none
noncomputable def nsK (T : TypeId → Option TI) (o : Oper) (tm : List AV) (hp : List Blk) (κ : AV → List Blk → R) : R :=
  match o.op with
  | .buildSlice t n ps => tyK T t fun _ _ _ _ d => match d with
    | .slice e => tyK T e fun E _ _ z _ => match ps.toList with
      | [] => bif Nat.beq n 0 then κ (.lst false true E []) hp else none
      | [(0, x)] => bif Nat.beq n 1 && Nat.ble E 16777216 && !isTop z then evK tm x fun v => lenK (cells v) 0 fun m => bif Nat.beq m E then purK [] v fun v _ => snocK hp (.rows .live E [v]) 0 fun n hp => κ (.own n E none false) hp else none else none
      | qs => bif Nat.ble (n * E) 16777216 then purK [] z fun z _ => repK n z fun xs => elemsP E tm qs xs fun xs => snocK hp (.rows .live E xs) 0 fun n hp => κ (.own n E none false) hp else none
    | _ => none
  | .call c => match c.callee with
    | .builtin .append => match c.argTypes.toList with
      | [ta, tb] => tyK T ta fun _ _ _ _ d => tyK T tb fun _ _ _ _ db => match d, db with
        | .slice e, .slice _ => tyK T e fun E _ by_ z _ => bif Nat.beq by_ 0 || isTop z then none else evsK tm c.args.toList fun
          | [.lst o true E' xs, .lst _ _ E'' news] => bif Nat.beq E E' && Nat.beq E E'' then
            bif ieq (ilen news) 0 then (bif fits (ilen xs) by_ then κ (.lst o true E xs) hp else none)
            else bif fits (iadd (ilen xs) (ilen news)) by_ then snocK hp (.rows .live E (lcat xs news)) 0 fun n hp => κ (.own n E none false) hp else none
            else none
          | _ => none
        | _, _ => none
      | _ => none
    | _ => none
  | _ => none
noncomputable def nsG (T : TypeId → Option TI) (all : List Oper) (o : Oper) (tm : List AV) (hp : List Blk) (κ : List AV → List Blk → R) : R :=
  match o.guard with
  | none => nsK T o tm hp fun v hp => putK tm o.dst v fun tm => κ tm hp
  | some (j, want) => dstK all j fun t => getK tm t fun
    | .bool b =>
      bif b then
        setK tm t (.bool true) fun tm =>
          bif want then nsK T o tm hp fun v hp => putK tm o.dst v fun tm => κ tm hp
          else putK tm o.dst (.tup []) fun tm => κ tm hp
      else
        setK tm t (.bool false) fun tm =>
          bif want then putK tm o.dst (.tup []) fun tm => κ tm hp
          else nsK T o tm hp fun v hp => putK tm o.dst v fun tm => κ tm hp
    | .tup [] => putK tm o.dst (.tup []) fun tm => κ tm hp
    | _ => none
noncomputable def opsE (T : TypeId → Option TI) (C : CF) (sh : FuncId → Bool) (all : List Oper) (es ns : List (Tmp × Nat)) (qs : List (Nat × Option Nat)) : Nat → List Oper → List AV → List Blk → (List AV → List Blk → R) → R
  | _, [], tm, hp, κ => κ tm hp
  | j, o :: l, tm, hp, κ => bif memB j es then opsE T C sh all es ns qs (j + 1) l tm hp κ
    else bif memB j ns then nsG T all o tm hp fun tm hp => opsE T C sh all es ns qs (j + 1) l tm hp κ
    else lateK qs sh o tm hp (opsK T C sh all [o] tm hp fun tm' hp' => opsE T C sh all es ns qs (j + 1) l tm' hp' κ)
inductive Ex where | normal | exit (id : Nat) | ret
abbrev K := Ex → List AV → List Blk → R
noncomputable def keep1K (f : Nat) (v : AV) (hp : List Blk) (κ : AV → List Blk → R) : R :=
  match f, v with
  | 1, .own τ E none c => getK hp τ fun
    | .rows .dead _ _ => none
    | .rows _ _ xs => κ (.own τ E (some (0, ilen xs)) c) hp
    | _ => none
  | 2, v => pur1K hp v κ
  | n + 3, v => match v with
    | .nil => κ (.lst false false n []) hp
    | .lst o _ E xs => bif Nat.ble 100 n then κ (.lst true false E xs) hp else κ (.lst o false E xs) hp
    | v => pur1K hp v fun v hp => match v with
      | .lst o _ E xs => bif Nat.ble 100 n then κ (.lst true false E xs) hp else κ (.lst o false E xs) hp
      | v => κ v hp
  | _, v => κ v hp
noncomputable def flagN : List (Tmp × Nat) → Nat → (Nat → R) → R → R
  | [], _, _, d => d
  | (t, f) :: ks, n, κ, d => bif Nat.beq t n then κ f else flagN ks n κ d
noncomputable def keepTm (ks : List (Tmp × Nat)) : List AV → Nat → List Blk → (List AV → List Blk → R) → R
  | [], _, hp, κ => κ [] hp
  | v :: l, n, hp, κ => flagN ks n
      (fun f => keep1K f v hp fun v hp => keepTm ks l (n + 1) hp fun l hp => κ (v :: l) hp)
      (keepTm ks l (n + 1) hp fun l hp => κ (.top :: l) hp)
noncomputable def rensB (b0 : Nat) (ids : List Nat) : List Blk → (List Blk → R) → R
  | [], κ => κ []
  | b :: l, κ => renBK b0 ids b fun b => rensB b0 ids l fun l => κ (b :: l)
noncomputable def oldToks (b0 : Nat) (acc : List Nat) : List Blk → List Nat
  | [] => acc
  | .box v :: l => oldToks b0 (tok2 b0 acc v) l
  | _ :: l => oldToks b0 acc l
noncomputable def canonK (b0 : Nat) (ks : List (Tmp × Nat)) (tm : List AV) (hp : List Blk) (κ : List AV → List Blk → R) : R :=
  keepTm ks tm 0 hp fun tm hp => headB hp b0 fun h0 =>
    toks3K b0 [] tm fun ids => oldToksK b0 ids h0 fun ids => boxToksK b0 hp ids ids fun ids =>
    rens3K b0 ids tm fun tm => rensB b0 ids h0 fun h0 => pickB b0 ids hp ids fun h1 => apndB h0 h1 fun hp => κ tm hp
structure Fp where
  b0 : Nat
  keep : Nat → List (Tmp × Nat)
  L : Nat
noncomputable def iterK (body : K → List AV → List Blk → R) (cn : List AV → List Blk → (List AV → List Blk → R) → R) (k : K) : Nat → List AV → List Blk → R
  | 0, _, _ => none
  | m + 1, tm, hp => body (fun e tm hp => match e with
      | .normal => cn tm hp fun tm hp => iterK body cn k m tm hp
      | e => k e tm hp) tm hp
noncomputable def joinL : List R → R
  | [] => none
  | [x] => x
  | x :: y :: l => sameR x (joinL (y :: l))
def doneN (k : Nat) : List Nat → Bool
  | [] => false
  | a :: l => bif Nat.beq a k then true else doneN k l
def readyL (done : List Nat) : List Oper → Nat → List (Nat × Oper)
  | [], _ => []
  | o :: l, j => bif !doneN j done && o.after.toList.all (fun e => !Region.binds .any e || doneN e.on done) then (j, o) :: readyL done l (j + 1) else readyL done l (j + 1)
noncomputable def allK (T : TypeId → Option TI) (C : CF) (sh : FuncId → Bool) (ops : List Oper) (κ : List AV → List Blk → R) : Nat → List Nat → List AV → List Blk → R
  | 0, _, _, _ => none
  | n + 1, done, tm, hp => match readyL done ops 0 with
    | [] => κ tm hp
    | p :: ps => joinL ((p :: ps).map fun p => opsK T C sh ops [p.2] tm hp fun tm hp => allK T C sh ops κ n (p.1 :: done) tm hp)
theorem joinS_ex : ∃ f : ((List AV → List Blk → R) → R) → (List AV → List Blk → R) → R, ∀ a b, f a b = a b := ⟨fun a b => a b, fun _ _ => rfl⟩
@[irreducible] noncomputable def joinS : ((List AV → List Blk → R) → R) → (List AV → List Blk → R) → R := Classical.choose joinS_ex
theorem joinS_eq (a : (List AV → List Blk → R) → R) (b : List AV → List Blk → R) : joinS a b = a b := by unfold joinS; exact Classical.choose_spec joinS_ex a b
noncomputable def headC (c : Code) : Nat :=
  @Code.rec (fun _ => Nat) 0 (fun id _ _ => Nat.succ id) (fun _ _ a b => match a with | 0 => b | n + 1 => n + 1) (fun _ _ _ _ _ => 0) (fun _ _ b => b) (fun _ b => b)
    (fun _ _ _ _ _ _ => 0) (fun _ => 0) (fun _ a => a) (fun _ => 0) (fun _ => 0) 0 (fun _ => 0) c
noncomputable def splitK {α : Type} : Nat → List α → (List α → List α → R) → R
  | 0, l, κ => κ [] l
  | _ + 1, [], κ => κ [] []
  | n + 1, a :: l, κ => splitK n l fun x y => κ (a :: x) y
noncomputable def opsC (T : TypeId → Option TI) (C : CF) (sh : FuncId → Bool) (p : Fp) (id : Nat) (all : List Oper) : List (Nat × Nat) → Nat → List Oper → List AV → List Blk → (List AV → List Blk → R) → R
  | [], _, l, tm, hp, κ => opsK T C sh all l tm hp κ
  | (j, _) :: cs, s, l, tm, hp, κ => splitK (Nat.sub j s) l fun l1 l2 =>
    joinS (fun J => opsK T C sh all l1 tm hp fun tm hp => canonK p.b0 (p.keep (Nat.add (Nat.add 100000 (Nat.mul 1000 id)) j)) tm hp J) (fun tm hp => opsC T C sh p id all cs (Nat.add s l1.length) l2 tm hp κ)
noncomputable def exec (T : TypeId → Option TI) (C : CF) (sh : FuncId → Bool) (p : Fp) (c : Code) : Nat → K → List AV → List Blk → R :=
  @Code.rec (fun _ => Nat → K → List AV → List Blk → R)
    (fun _ k tm hp => k .normal tm hp)
    (fun id ops d _ k tm hp => bif d then
        match p.keep (35000 + id) with
        | _ :: _ => allK T C sh ops.toList (fun tm hp => k .normal tm hp) (ops.size + 1) [] tm hp
        | [] => earlyK T C sh ops.toList (p.keep (20000 + id)) [] tm hp fun qs tm hp =>
          opsE T C sh ops.toList (p.keep (20000 + id)) (p.keep (25000 + id)) qs 0 ops.toList tm hp fun tm hp => k .normal tm hp
      else match p.keep 44998 with
        | [] => opsK T C sh ops.toList ops.toList tm hp fun tm hp => k .normal tm hp
        | _ :: _ => opsC T C sh p id ops.toList (p.keep (Nat.add 50000 id)) 0 ops.toList tm hp fun tm hp => k .normal tm hp)
    (fun _ y ia ib cur k tm hp => match p.keep 44999 with
      | [] => ia cur (fun e tm hp => match e with | .normal => ib cur k tm hp | e => k e tm hp) tm hp
      | _ :: _ => match p.keep (Nat.add 45000 (headC y)) with
        | [] => ia cur (fun e tm hp => match e with | .normal => ib cur k tm hp | e => k e tm hp) tm hp
        | q :: qs => joinS (fun J => ia cur (fun e tm hp => match e with | .normal => canonK p.b0 (q :: qs) tm hp J | e => k e tm hp) tm hp) (fun tm hp => ib cur k tm hp))
    (fun c _ _ ix iy cur k tm hp =>
      match c with
      | .tmp t => getK tm t fun
        | .bool b => bif b then setK tm t (.bool true) fun tm => ix cur k tm hp else setK tm t (.bool false) fun tm => iy cur k tm hp
        | .anyb => sameR (ix cur k tm hp) (iy cur k tm hp)
        | _ => none
      | _ => none)
    (fun id _ ib _ k tm hp => ib id (fun e tm hp => match e with
      | .exit i => bif Nat.beq i id then canonK p.b0 (p.keep (1000 + id)) tm hp fun tm hp => k .normal tm hp else k (.exit i) tm hp
      | .normal => canonK p.b0 (p.keep (1000 + id)) tm hp fun tm hp => k .normal tm hp
      | e => k e tm hp) tm hp)
    (fun _ ib cur k tm hp => canonK p.b0 (p.keep cur) tm hp fun tm hp => iterK (ib cur) (canonK p.b0 (p.keep cur)) k p.L tm hp)
    (fun _ _ _ _ _ _ _ _ _ _ => none)
    (fun id _ k tm hp => k (.exit id) tm hp)
    (fun _ _ _ _ _ _ => none)
    (fun _ _ _ _ _ => none)
    (fun _ _ _ _ _ => none)
    (fun _ k tm hp => k .ret tm hp)
    (fun _ _ _ _ _ => none) c
noncomputable def res1K (T : TypeId → Option TI) (r : ResultVar) (tm : List AV) (hp : List Blk) (κ : AV → R) : R :=
  match r with
  | .tmp t => getK tm t κ
  | .cell t ty => tyK T ty fun sz ag _ _ _ => getK tm t fun
    | .ptr τ _ off _ => getK hp τ fun
      | .box v => partK sz ag v off κ
      | _ => none
    | _ => none
noncomputable def conv1K (T : TypeId → Option TI) (b0 : Nat) (hp : List Blk) (t : TypeId) (v : AV) (κ : AV → List Blk → R) : R :=
  match v with
  | .own τ E r c => bif Nat.ble b0 τ then getK hp τ fun
      | .rows .live E' xs => bif Nat.beq E E' then setK hp τ (.rows .dead E xs) fun hp => rowsOf r xs fun ys => κ (.frs E ys) hp else none
      | .rows .frozen E' xs => bif Nat.beq E E' then rowsOf r xs fun ys => κ (.lst false c E ys) hp else none
      | _ => none
      else κ (.own τ E r c) hp
  | .nil => tyK T t fun _ _ _ _ d => match d with
    | .slice e => tyK T e fun E _ _ _ _ => κ (.frs E []) hp
    | _ => none
  | .ptr τ i o E => bif Nat.ble b0 τ then none else κ (.ptr τ i o E) hp
  | .fn _ _ _ => none
  | .top => none
  | .anyb => none
  | .tup _ => none
  | .agg _ => none
  | v => κ v hp
noncomputable def convsK (T : TypeId → Option TI) (b0 : Nat) (hp : List Blk) : List (Nat × TypeId) → List AV → (List AV → List Blk → R) → R
  | _, [], κ => κ [] hp
  | (_, t) :: ts, v :: l, κ => conv1K T b0 hp t v fun v hp => convsK T b0 hp ts l fun l hp => κ (v :: l) hp
  | [], v :: l, κ => conv1K T b0 hp 0 v fun v hp => convsK T b0 hp [] l fun l hp => κ (v :: l) hp
noncomputable def conv2K (T : TypeId → Option TI) (b0 : Nat) (hp : List Blk) (t : TypeId) (v : AV) (κ : AV → List Blk → R) : R :=
  match v with
  | .agg cs => tyK T t fun _ _ _ _ d => match d with
    | .struct fs _ => convsK T b0 hp fs cs fun cs hp => κ (.agg cs) hp
    | _ => convsK T b0 hp [] cs fun cs hp => κ (.agg cs) hp
  | v => conv1K T b0 hp t v κ
noncomputable def ressK (T : TypeId → Option TI) (b0 : Nat) (tm : List AV) (hp0 : List Blk) : List ResultVar → List TypeId → List Blk → (List AV → List Blk → R) → R
  | [], _, hp, κ => κ [] hp
  | r :: rs, t :: ts, hp, κ => res1K T r tm hp0 fun v => conv2K T b0 hp t v fun v hp => ressK T b0 tm hp0 rs ts hp fun vs hp => κ (v :: vs) hp
  | _, _, _, _ => none
noncomputable def finK (b0 : Nat) (v : AV) (hp : List Blk) : R :=
  headB hp b0 fun h =>
    oldToksK b0 [] h fun ids =>
    rensB b0 ids h fun h => pickB b0 ids hp ids fun ex => apndB h ex fun hp => some (v, hp)
def tops : Nat → List AV
  | 0 => []
  | n + 1 => .top :: tops n
noncomputable def padK : List AV → Nat → (List AV → R) → R
  | [], n, κ => κ (tops n)
  | v :: l, n + 1, κ => padK l n fun l => κ (v :: l)
  | _ :: _, 0, _ => none
noncomputable def topsK : Nat → (List AV → R) → R
  | 0, κ => κ []
  | n + 1, κ => topsK n fun l => κ (.top :: l)
noncomputable def initK : List AV → Nat → (List AV → R) → R
  | [], n, κ => topsK n κ
  | v :: l, n + 1, κ => initK l n fun l => κ (v :: l)
  | _ :: _, 0, _ => none
noncomputable def retK (T : TypeId → Option TI) (b0 : Nat) (f : Func) (tm : List AV) (hp : List Blk) : R :=
  match f.results.toList with
  | [r] => match f.resultTypes.toList with
    | [t] => res1K T r tm hp fun v => conv2K T b0 hp t v fun v hp => finK b0 v hp
    | _ => none
  | rs => ressK T b0 tm hp rs f.resultTypes.toList hp fun vs hp => finK b0 (.tup vs) hp
noncomputable def retC (T : TypeId → Option TI) (b0 : Nat) (ks : List (Tmp × Nat)) (f : Func) (tm : List AV) (hp : List Blk) : R :=
  match ks with
  | [] => retK T b0 f tm hp
  | k :: ks => keepTm (k :: ks) tm 0 hp fun tm hp => retK T b0 f tm hp
noncomputable def run (T : TypeId → Option TI) (C : CF) (sh : FuncId → Bool) (keep : Nat → List (Tmp × Nat)) (L : Nat) (f : Func) (args : List AV) (hp : List Blk) : R :=
  match f.body with
  | some c => lenK hp 0 fun b0 => initK args f.ntmps fun tm => exec T C sh ⟨b0, keep, L⟩ c 9999 (fun e tm hp => match e with
      | .normal => retC T b0 (keep 30000) f tm hp
      | .ret => retC T b0 (keep 30000) f tm hp
      | _ => none) tm hp
  | none => none
end Go.AM
namespace Go.AM
def topA : Nat → List AV → List AV
  | 0, l => l
  | n + 1, l => .top :: topA n l
structure Pt where
  x : Int
  y : Int
  deriving DecidableEq, Inhabited
structure Mv where
  A : Int
  B : Int
  C : Int
  D : Int
  X : Int
  Y : Int
  deriving DecidableEq, Inhabited
def ep (p : Pt) : AV := .agg [.int .i64 p.x, .int .i64 p.y]
def em (m : Mv) : AV := .agg [.int .i64 m.A, .int .i64 m.B, .int .i64 m.C, .int .i64 m.D, .int .i64 m.X, .int .i64 m.Y]
def eI (n : Int) : AV := .int .i64 n
def eU (n : Int) : AV := .int .u8 n
def eS (l : List UInt8) : AV := .str l
def eLP (l : List Pt) : AV := .lst false false 2 (l.map ep)
def eLI (l : List Int) : AV := .lst false false 1 (l.map eI)
def eLLP (l : List (List Pt)) : AV := .lst false false 1 (l.map eLP)
section
variable {α β : Type} (e : α → β)
theorem map_lcat (a b : List α) : List.map e (lcat a b) = lcat (List.map e a) (List.map e b) := by simp [lcat_eq]
theorem map_lsub (a : List α) (i j : Int) : List.map e (lsub a i j) = lsub (List.map e a) i j := by simp [lsub_eq, List.map_take, List.map_drop]
theorem map_lset (a : List α) (i : Int) (v : α) : List.map e (lset a i v) = lset (List.map e a) i (e v) := by simp [lset_eq, List.map_set]
theorem map_lrep (n : Int) (v : α) : List.map e (lrep n v) = lrep n (e v) := by simp [lrep_eq]
theorem ilen_map (a : List α) : ilen (List.map e a) = ilen a := by simp [ilen_eq]
end
theorem ml : (∀ (α β : Type) (e : α → β) (a b : List α), List.map e (lcat a b) = lcat (List.map e a) (List.map e b)) ∧
    (∀ (α β : Type) (e : α → β) (a : List α) (i j : Int), List.map e (lsub a i j) = lsub (List.map e a) i j) ∧
    (∀ (α β : Type) (e : α → β) (a : List α) (i : Int) (v : α), List.map e (lset a i v) = lset (List.map e a) i (e v)) ∧
    (∀ (α β : Type) (e : α → β) (n : Int) (v : α), List.map e (lrep n v) = lrep n (e v)) ∧
    (∀ (α β : Type) (e : α → β) (a : α) (l : List α), List.map e (a :: l) = e a :: List.map e l) ∧
    (∀ (α β : Type) (e : α → β), List.map e [] = []) ∧
    (∀ p, ep p = .agg [.int .i64 p.x, .int .i64 p.y]) ∧ (∀ n, eI n = .int .i64 n) ∧ (∀ n, eU n = .int .u8 n) ∧ (∀ l, eS l = .str l) ∧
    (∀ l, eLP l = .lst false false 2 (l.map ep)) ∧ (∀ l, eLI l = .lst false false 1 (l.map eI)) ∧ (∀ l, eLLP l = .lst false false 1 (l.map eLP)) ∧
    (∀ m, em m = .agg [.int .i64 m.A, .int .i64 m.B, .int .i64 m.C, .int .i64 m.D, .int .i64 m.X, .int .i64 m.Y]) :=
  ⟨fun _ _ e a b => map_lcat e a b, fun _ _ e a i j => map_lsub e a i j, fun _ _ e a i v => map_lset e a i v, fun _ _ e n v => map_lrep e n v, fun _ _ _ _ _ => rfl, fun _ _ _ => rfl,
    fun _ => rfl, fun _ => rfl, fun _ => rfl, fun _ => rfl, fun _ => rfl, fun _ => rfl, fun _ => rfl, fun _ => rfl⟩
theorem t_cond {α β : Type} {e : α → β} {b : Bool} {x y : Option β} {x' y' : Option α} (h1 : x = Option.map e x') (h2 : y = Option.map e y') :
    (bif b then x else y) = Option.map e (bif b then x' else y') := by cases b <;> assumption
theorem t_none {α β : Type} {e : α → β} : none = Option.map e none := rfl
theorem t_ret {α β : Type} {e : α → β} {v : β} {r : α} (h : v = e r) : some v = Option.map e (some r) := by rw [h]; rfl
theorem t_get {α β γ : Type} {e : α → β} {en : γ → AV} {xs : List AV} {l : List γ} {i : Int} {f : AV → Option β} {g : γ → Option α} (h : xs = List.map en l)
    (hf : ∀ p, f (en p) = Option.map e (g p)) : gbind (lget xs i) f = Option.map e (gbind (lget l i) g) := by
  subst h
  simp only [gbind_eq, lget_eq]
  split
  · rw [List.getElem?_map]; cases l[i.toNat]? <;> simp [hf]
  · rfl
theorem t_gets {α β : Type} {e : α → β} {l : List UInt8} {i : Int} {f : UInt8 → Option β} {g : UInt8 → Option α}
    (hf : ∀ p, f p = Option.map e (g p)) : gbind (lget l i) f = Option.map e (gbind (lget l i) g) := by
  simp only [gbind_eq]
  cases lget l i <;> simp [hf]
theorem t_call {α β γ : Type} {e : α → β} {eg : γ → AV × List Blk} {C : R} {G : Option γ} {F : AV × List Blk → Option β} {g : γ → Option α} (h : C = Option.map eg G)
    (hf : ∀ r, F (eg r) = Option.map e (g r)) : gbind C F = Option.map e (gbind G g) := by
  subst h
  simp only [gbind_eq]
  cases G <;> simp [hf]
@[irreducible] noncomputable def osame {α β : Type} (e : α → β) (p q : Option α) : Option α := @ite _ (Option.map e p = Option.map e q) (Classical.propDecidable _) p none
theorem osame_same {α β : Type} {e : α → β} {p q : Option α} (h : p = q) : osame e p q = p := by
  subst h; unfold osame; simp
theorem t_same {α : Type} {e : α → AV × List Blk} {x y : R} {p q : Option α} (h1 : x = Option.map e p) (h2 : y = Option.map e q) : sameR x y = Option.map e (osame e p q) := by
  rw [sameR_eq, h1, h2]
  unfold osame
  by_cases h : Option.map e p = Option.map e q
  · simp [h]
  · simp [h]
theorem t_agree {α β : Type} {e : α → β} {x y : Option β} {x' : Option α} (h1 : x = Option.map e x') (h2 : y = x) : agree x y = Option.map e x' := by
  unfold agree
  rw [h2]; simp [h1]
end Go.AM
namespace Go.AM
theorem t_loop {α σ : Type} {e : α → AV × List Blk} {B : K → List AV → List Blk → R} {cn : List AV → List Blk → (List AV → List Blk → R) → R} {k : K}
    (S : σ → List AV × List Blk) (l0 : Nat → σ → Option α) (h0 : ∀ s, l0 0 s = none)
    (hs : ∀ m s (rec : List AV → List Blk → R), (∀ s tm hp, tm = (S s).1 → hp = (S s).2 → rec tm hp = Option.map e (l0 m s)) →
      B (fun x tm hp => match x with | .normal => cn tm hp rec | x => k x tm hp) (S s).1 (S s).2 = Option.map e (l0 (m + 1) s)) :
    ∀ (m : Nat) (s : σ) {tm : List AV} {hp : List Blk}, tm = (S s).1 → hp = (S s).2 → iterK B cn k m tm hp = Option.map e (l0 m s) := by
  intro m
  induction m with
  | zero => intro s tm hp h1 h2; rw [h0]; rfl
  | succ m ih =>
    intro s tm hp h1 h2
    subst h1; subst h2
    exact hs m s (iterK B cn k m) fun s tm hp h1 h2 => ih s h1 h2
theorem t_join {α σ : Type} {e : α → AV × List Blk} {A : (List AV → List Blk → R) → R} {B : List AV → List Blk → R} {x' : Option α}
    (S : σ → List AV × List Blk) (j : σ → Option α) (hB : ∀ s, B (S s).1 (S s).2 = Option.map e (j s))
    (hA : ∀ J : List AV → List Blk → R, (∀ s tm hp, tm = (S s).1 → hp = (S s).2 → J tm hp = Option.map e (j s)) → A J = Option.map e x') : joinS A B = Option.map e x' := by
  rw [joinS_eq]
  exact hA B fun s tm hp h1 h2 => by subst h1; subst h2; exact hB s
theorem t_joinE {α : Type} {e : α → AV × List Blk} {A : (List AV → List Blk → R) → R} {B : List AV → List Blk → R} {x' : Option α} (h : A B = Option.map e x') : joinS A B = Option.map e x' := by
  rw [joinS_eq]; exact h
end Go.AM
namespace Go.AM
mutual
def NCell (Sl : Nat → Prop) (w : World) : AV → Value → Prop
  | .int k n, v => v = .int k n
  | .bool b, v => v = .bool b
  | .str l, v => v = .string ⟨⟨l⟩⟩
  | .nil, v => ∃ A, v = .slice A 0 0
  | .iface0, v => v = .nilIface
  | .lst o c E xs, v => ∃ A cap, v = .slice A xs.length cap ∧ xs.length ≤ cap ∧ (c = true → cap = xs.length) ∧
      (xs = [] ∨ ∃ b off, A = some ⟨b, off, none⟩ ∧ (o = false ∧ Sl b) ∧ NRows Sl w E xs b off)
  | _, _ => False
def NRows (Sl : Nat → Prop) (w : World) (E : Nat) : List AV → Nat → Nat → Prop
  | [], _, _ => True
  | .agg cs :: xs, b, off => cs.length = E ∧ NCells Sl w cs b off ∧ NRows Sl w E xs b (off + E)
  | x :: xs, b, off => E = 1 ∧ (∃ v, w.cell? ⟨b, off, none⟩ = some v ∧ NCell Sl w x v) ∧ NRows Sl w E xs b (off + E)
def NCells (Sl : Nat → Prop) (w : World) : List AV → Nat → Nat → Prop
  | [], _, _ => True
  | c :: cs, b, off => (∃ v, w.cell? ⟨b, off, none⟩ = some v ∧ NCell Sl w c v) ∧ NCells Sl w cs b (off + 1)
end
def PRows (_ Sl : Nat → Prop) (w : World) (E : Nat) (xs : List AV) (b off : Nat) : Prop := NRows Sl w E xs b off
def PCell (S Sl : Nat → Prop) (w : World) : AV → Value → Prop
  | .int k n, v => v = .int k n
  | .bool b, v => v = .bool b
  | .str l, v => v = .string ⟨⟨l⟩⟩
  | .nil, v => ∃ A, v = .slice A 0 0
  | .iface0, v => v = .nilIface
  | .lst o c E xs, v => ∃ A cap, v = .slice A xs.length cap ∧ xs.length ≤ cap ∧ (c = true → cap = xs.length) ∧
      (xs = [] ∨ ∃ b off, A = some ⟨b, off, none⟩ ∧ (if o = true then S b else Sl b) ∧ PRows S Sl w E xs b off)
  | _, _ => False
def PCells (S Sl : Nat → Prop) (w : World) : List AV → Nat → Nat → Prop
  | [], _, _ => True
  | c :: cs, b, off => (∃ v, w.cell? ⟨b, off, none⟩ = some v ∧ PCell S Sl w c v) ∧ PCells S Sl w cs b (off + 1)
def F0 : Nat → Prop := fun _ => False
theorem NCell_iff {Sl : Nat → Prop} {w : World} {x : AV} {v : Value} : NCell Sl w x v ↔ PCell F0 Sl w x v := by
  cases x <;> simp only [NCell, PCell, PRows]
  rename_i o c E xs
  cases o <;> simp [F0]
theorem NCells_iff {Sl : Nat → Prop} {w : World} : ∀ {cs : List AV} {b k : Nat}, NCells Sl w cs b k ↔ PCells F0 Sl w cs b k
  | [], _, _ => by simp [NCells, PCells]
  | c :: cs, b, k => by simp only [NCells, PCells, NCell_iff, NCells_iff]
def PElem (S Sl : Nat → Prop) (w : World) (E : Nat) (x : AV) (b off : Nat) : Prop := (cells x).length = E ∧ PCells S Sl w (cells x) b off
theorem PRows_nil {S Sl : Nat → Prop} {w : World} {E : Nat} {b off : Nat} : PRows S Sl w E [] b off := by simp [PRows, NRows]
theorem PRows_cons {S Sl : Nat → Prop} {w : World} {E : Nat} {x : AV} {xs : List AV} {b off : Nat} :
    PRows S Sl w E (x :: xs) b off ↔ PElem F0 Sl w E x b off ∧ PRows S Sl w E xs b (off + E) := by
  cases x <;> simp [PRows, NRows, PElem, cells, PCells, NCells_iff, NCell_iff, and_assoc, eq_comm]
section mono
variable {S Sl S' Sl' : Nat → Prop} {w w' : World}
mutual
theorem NCell.mono (h2 : ∀ b, Sl b → Sl' b) (h3 : ∀ b, Sl b → w'.heap[b]? = w.heap[b]?) :
    ∀ (x : AV) (v : Value), NCell Sl w x v → NCell Sl' w' x v
  | .int _ _, _, h | .bool _, _, h | .str _, _, h | .nil, _, h | .iface0, _, h => by simpa [NCell] using h
  | .lst o c E xs, v, h => by
    simp only [NCell] at h ⊢
    obtain ⟨A, cap, rfl, hc, hcc, hx⟩ := h
    refine ⟨A, cap, rfl, hc, hcc, ?_⟩
    rcases hx with hx | ⟨b, off, hA, hS, hR⟩
    · exact .inl hx
    · exact .inr ⟨b, off, hA, ⟨hS.1, h2 _ hS.2⟩, NRows.mono h2 h3 E xs b off (h3 b hS.2) hR⟩
  | .top, _, h | .frs _ _, _, h | .own _ _ _ _, _, h | .ptr _ _ _ _, _, h | .at _ _, _, h | .fn _ _ _, _, h | .agg _, _, h | .tup _, _, h => by simp [NCell] at h
theorem NRows.mono (h2 : ∀ b, Sl b → Sl' b) (h3 : ∀ b, Sl b → w'.heap[b]? = w.heap[b]?) :
    ∀ (E : Nat) (xs : List AV) (b off : Nat), w'.heap[b]? = w.heap[b]? → NRows Sl w E xs b off → NRows Sl' w' E xs b off
  | _, [], _, _, _, _ => by simp [NRows]
  | E, x :: xs, b, off, hb, h => by
    have ih := NRows.mono h2 h3 E xs b (off + E) hb
    cases x with
    | agg cs =>
      simp only [NRows] at h ⊢
      exact ⟨h.1, NCells.mono h2 h3 cs b off hb h.2.1, ih h.2.2⟩
    | lst o c E' ys =>
      simp only [NRows] at h ⊢
      obtain ⟨he, ⟨v, hv, hp⟩, hr⟩ := h
      exact ⟨he, ⟨v, by simpa [World.cell?, hb] using hv, NCell.mono h2 h3 (.lst o c E' ys) v hp⟩, ih hr⟩
    | _ =>
      simp only [NRows, NCell] at h ⊢
      obtain ⟨he, ⟨v, hv, hp⟩, hr⟩ := h
      exact ⟨he, ⟨v, by simpa [World.cell?, hb] using hv, hp⟩, ih hr⟩
theorem NCells.mono (h2 : ∀ b, Sl b → Sl' b) (h3 : ∀ b, Sl b → w'.heap[b]? = w.heap[b]?) :
    ∀ (cs : List AV) (b off : Nat), w'.heap[b]? = w.heap[b]? → NCells Sl w cs b off → NCells Sl' w' cs b off
  | [], _, _, _, _ => by simp [NCells]
  | c :: cs, b, off, hb, h => by
    simp only [NCells] at h ⊢
    obtain ⟨⟨v, hv, hp⟩, hr⟩ := h
    exact ⟨⟨v, by simpa [World.cell?, hb] using hv, NCell.mono h2 h3 c v hp⟩, NCells.mono h2 h3 cs b _ hb hr⟩
end
theorem PRows.mono' (h2 : ∀ b, Sl b → Sl' b) (h3 : ∀ b, Sl b → w'.heap[b]? = w.heap[b]?) {E : Nat} {xs : List AV} {b off : Nat} (hb : w'.heap[b]? = w.heap[b]?) (h : PRows S Sl w E xs b off) : PRows S' Sl' w' E xs b off :=
  NRows.mono h2 h3 E xs b off hb h
theorem PCell.mono (h1 : ∀ b, S b → S' b) (h2 : ∀ b, Sl b → Sl' b) (h3 : ∀ b, S b → w'.heap[b]? = w.heap[b]?) (h4 : ∀ b, Sl b → S b)
    (x : AV) (v : Value) (h : PCell S Sl w x v) : PCell S' Sl' w' x v := by
  cases x with
  | lst o c E xs =>
    simp only [PCell] at h ⊢
    obtain ⟨A, cap, rfl, hc, hcc, hx⟩ := h
    refine ⟨A, cap, rfl, hc, hcc, ?_⟩
    rcases hx with hx | ⟨b, off, hA, hS, hR⟩
    · exact .inl hx
    · have hSb : S b := by cases o <;> simp_all
      exact .inr ⟨b, off, hA, by cases o <;> simp_all, hR.mono' h2 (fun b h => h3 b (h4 b h)) (h3 b hSb)⟩
  | _ => simpa [PCell] using h
theorem PRows.mono (h1 : ∀ b, S b → S' b) (h2 : ∀ b, Sl b → Sl' b) (h3 : ∀ b, S b → w'.heap[b]? = w.heap[b]?) (h4 : ∀ b, Sl b → S b)
    (E : Nat) (xs : List AV) (b off : Nat) (hb : w'.heap[b]? = w.heap[b]?) (h : PRows S Sl w E xs b off) : PRows S' Sl' w' E xs b off :=
  h.mono' h2 (fun b h => h3 b (h4 b h)) hb
theorem PCells.mono (h1 : ∀ b, S b → S' b) (h2 : ∀ b, Sl b → Sl' b) (h3 : ∀ b, S b → w'.heap[b]? = w.heap[b]?) (h4 : ∀ b, Sl b → S b) :
    ∀ (cs : List AV) (b off : Nat), w'.heap[b]? = w.heap[b]? → PCells S Sl w cs b off → PCells S' Sl' w' cs b off
  | [], _, _, _, _ => by simp [PCells]
  | c :: cs, b, off, hb, h => by
    simp only [PCells] at h ⊢
    obtain ⟨⟨v, hv, hp⟩, hr⟩ := h
    exact ⟨⟨v, by simpa [World.cell?, hb] using hv, PCell.mono h1 h2 h3 h4 c v hp⟩, PCells.mono h1 h2 h3 h4 cs b _ hb hr⟩
theorem PCell.weak (x : AV) (v : Value) (h : PCell F0 Sl w x v) : PCell S Sl w x v := by
  cases x with
  | lst o c E xs =>
    simp only [PCell] at h ⊢
    obtain ⟨A, cap, rfl, hc, hcc, hx⟩ := h
    refine ⟨A, cap, rfl, hc, hcc, hx.imp id ?_⟩
    rintro ⟨b, off, hA, hS, hR⟩
    exact ⟨b, off, hA, by cases o <;> simp_all [F0], hR⟩
  | _ => simpa [PCell] using h
theorem PCells.weak : ∀ (cs : List AV) (b off : Nat), PCells F0 Sl w cs b off → PCells S Sl w cs b off
  | [], _, _, _ => by simp [PCells]
  | c :: cs, b, off, h => by
    simp only [PCells] at h ⊢
    obtain ⟨⟨v, hv, hp⟩, hr⟩ := h
    exact ⟨⟨v, hv, hp.weak⟩, hr.weak⟩
end mono
structure G where
  dom : Nat → Prop
  ρ : Nat → Option (Nat × Nat)
  S : Nat → Prop
  Sl : Nat → Prop
def All2 (R : AV → Value → Prop) : List AV → List Value → Prop
  | [], [] => True
  | x :: xs, v :: vs => R x v ∧ All2 R xs vs
  | _, _ => False
def Unf (w : World) (b n : Nat) : Prop := ∃ (cs : Array Value) (el : TypeId), w.heap[b]? = some (Obj.cells cs el (0, 0)) ∧ n ≤ cs.size
def LenOk (H : List Blk) (τ l : Nat) : Prop := ∀ m E xs, H[τ]? = some (.rows m E xs) → m ≠ .dead → l = xs.length
def CapOk (H : List Blk) (τ n : Nat) : Prop := ∀ m E xs, H[τ]? = some (.rows m E xs) → m ≠ .dead → xs.length ≤ n
def LeOk (H : List Blk) (τ n : Nat) : Prop := ∀ m E xs, H[τ]? = some (.rows m E xs) → m ≠ .dead → n ≤ xs.length
def V1 (g : G) (H : List Blk) (w : World) : AV → Value → Prop
  | .own τ E r c, v => g.dom τ ∧ (match g.ρ τ with
      | none => (∃ A, v = .slice A 0 0) ∧ (match r with | none => LenOk H τ 0 | some (o, l) => o = 0 ∧ l = 0)
      | some (b, base) => ∃ (k o l cap : Nat), v = .slice (some ⟨b, k, none⟩) l cap ∧ (k = base + o * E ∨ cap = 0) ∧ l ≤ cap ∧ (c = true → cap = l) ∧ (c = false → CapOk H τ (o + cap)) ∧
          Unf w b (base + (o + cap) * E) ∧ (match r with | none => o = 0 ∧ LenOk H τ l | some (o', l') => o' = (o : Int) ∧ l' = (l : Int) ∧ LeOk H τ (o + l)))
  | .ptr τ i o E, v => g.dom τ ∧ (∀ y, H[τ]? = some (.box y) → i = 0) ∧ ∃ b base n : Nat, g.ρ τ = some (b, base) ∧ i = (n : Int) ∧ v = .pointer (some ⟨b, base + n * E + o, none⟩)
  | .at x o, v => ∃ b off, v = .pointer (some ⟨b, off + o, none⟩) ∧ g.S b ∧ PElem g.S g.Sl w (cells x).length x b off
  | x, v => PCell g.S g.Sl w x v
def V2 (g : G) (H : List Blk) (w : World) : AV → Value → Prop
  | .agg cs, v => ∃ vs, v = .agg ⟨vs⟩ ∧ All2 (V1 g H w) cs vs
  | x, v => V1 g H w x v
def V3 (g : G) (H : List Blk) (w : World) : AV → Value → Prop
  | .fn f a c, v => ∃ av cv, v = .func (.func f) ⟨av⟩ ⟨cv⟩ ∧ All2 (V2 g H w) a av ∧ All2 (V2 g H w) c cv
  | .tup vs, v => ∃ ws, v = .tuple ⟨ws⟩ ∧ All2 (V2 g H w) vs ws
  | .top, _ => True
  | .anyb, v => ∃ b, v = .bool b
  | x, v => V2 g H w x v
def V1s (g : G) (H : List Blk) (w : World) : List AV → Nat → Nat → Prop
  | [], _, _ => True
  | c :: cs, b, off => (∃ v, w.cell? ⟨b, off, none⟩ = some v ∧ V1 g H w c v) ∧ V1s g H w cs b (off + 1)
def Blk.owned : Blk → Prop
  | .box _ => True
  | .rows .live _ _ => True
  | _ => False
def owned (H : List Blk) (τ : Nat) : Prop := ∃ blk, H[τ]? = some blk ∧ blk.owned
def BlkRel (g : G) (H : List Blk) (w : World) (τ : Nat) : Blk → Prop
  | .box v => ∃ b o, g.ρ τ = some (b, o) ∧ ¬ g.S b ∧ Unf w b 0 ∧ V1s g H w (cells v) b o
  | .rows .live E xs => (g.ρ τ = none ∧ xs = []) ∨ ∃ b o, g.ρ τ = some (b, o) ∧ ¬ g.S b ∧ Unf w b 0 ∧ PRows g.S g.Sl w E xs b o
  | .rows .frozen E xs => (g.ρ τ = none ∧ xs = []) ∨ ∃ b o, g.ρ τ = some (b, o) ∧ g.Sl b ∧ Unf w b 0 ∧ PRows g.S g.Sl w E xs b o
  | .rows .dead _ _ => True
structure Good (g : G) (H : List Blk) (w : World) : Prop where
  sub : ∀ b, g.Sl b → g.S b
  lt : ∀ b, g.S b → b < w.heap.size
  tok : ∀ τ, g.dom τ → ∃ blk, H[τ]? = some blk ∧ BlkRel g H w τ blk
  inj : ∀ τ τ' b o o', g.dom τ → g.dom τ' → g.ρ τ = some (b, o) → g.ρ τ' = some (b, o') → owned H τ → owned H τ' → τ = τ'
def Own (g : G) (H : List Blk) (b : Nat) : Prop := ∃ τ o, g.dom τ ∧ g.ρ τ = some (b, o) ∧ owned H τ
def Shape (w w' : World) : Prop := ∀ (b : Nat) (cs : Array Value) (el : TypeId) (fr : Nat × Nat), w.heap[b]? = some (Obj.cells cs el fr) → ∃ cs' : Array Value, w'.heap[b]? = some (Obj.cells cs' el fr) ∧ cs'.size = cs.size
def Env (w w' : World) : Prop := w'.os = w.os ∧ w'.output = w.output ∧ w'.tape = w.tape ∧ w.drawn ≤ w'.drawn
theorem Env.refl (w : World) : Env w w := ⟨rfl, rfl, rfl, Nat.le_refl _⟩
theorem Env.trans {a b c : World} (h : Env a b) (h' : Env b c) : Env a c := ⟨h'.1.trans h.1, h'.2.1.trans h.2.1, h'.2.2.1.trans h.2.2.1, Nat.le_trans h.2.2.2 h'.2.2.2⟩
structure Trans (g : G) (H : List Blk) (w : World) (g' : G) (H' : List Blk) (w' : World) : Prop where
  dom : ∀ τ, g.dom τ → g'.dom τ
  ρ : ∀ τ, g.dom τ → g'.ρ τ = g.ρ τ
  S : ∀ b, g.S b → g'.S b
  Sl : ∀ b, g.Sl b → g'.Sl b
  newS : ∀ b, g'.S b → g.S b ∨ w.heap.size ≤ b ∨ Own g H b
  newSl : ∀ b, g'.Sl b → g.Sl b ∨ w.heap.size ≤ b ∨ Own g H b
  size : w.heap.size ≤ w'.heap.size
  shape : Shape w w'
  env : Env w w'
  prot : ∀ b, b < w.heap.size → ¬ Own g H b → w'.heap[b]? = w.heap[b]?
  own : ∀ b, Own g' H' b → w.heap.size ≤ b ∨ Own g H b
  len : ∀ τ, g.dom τ → ∀ m' E' xs', H'[τ]? = some (.rows m' E' xs') → m' ≠ .dead → ∃ m xs, H[τ]? = some (.rows m E' xs) ∧ m ≠ .dead ∧ xs.length = xs'.length
  box : ∀ τ, g.dom τ → ∀ y', H'[τ]? = some (.box y') → ∃ y, H[τ]? = some (.box y)
theorem Shape.refl (w : World) : Shape w w := fun _ cs _ _ h => ⟨cs, h, rfl⟩
theorem Shape.trans {a b c : World} (h : Shape a b) (h' : Shape b c) : Shape a c := fun k cs el fr hk =>
  let ⟨cs', h1, h2⟩ := h k cs el fr hk
  let ⟨cs'', h3, h4⟩ := h' k cs' el fr h1
  ⟨cs'', h3, h4.trans h2⟩
theorem Unf.mono {w w' : World} {b n : Nat} (hs : Shape w w') (h : Unf w b n) : Unf w' b n := by
  obtain ⟨cs, el, h, hn⟩ := h
  obtain ⟨cs', h', hs'⟩ := hs _ _ _ _ h
  exact ⟨cs', el, h', by omega⟩
theorem Unf.le {w : World} {b n m : Nat} (h : Unf w b n) (hm : m ≤ n) : Unf w b m := by
  obtain ⟨cs, el, h, hn⟩ := h
  exact ⟨cs, el, h, by omega⟩
theorem Unf.lt {w : World} {b n : Nat} (h : Unf w b n) : b < w.heap.size := by
  obtain ⟨cs, el, h, _⟩ := h
  rcases Nat.lt_or_ge b w.heap.size with h' | h'
  · exact h'
  · simp [Array.getElem?_eq_none h'] at h
theorem Unf.frozen {w : World} {b n k : Nat} (h : Unf w b n) : w.frozen? ⟨b, k, none⟩ = false := by
  obtain ⟨cs, el, h, _⟩ := h
  simp [World.frozen?, h]
theorem Unf.cell {w : World} {b n k : Nat} (h : Unf w b n) (hk : k < n) : ∃ v, w.cell? ⟨b, k, none⟩ = some v := by
  obtain ⟨cs, el, h, hn⟩ := h
  exact ⟨cs[k]'(by omega), by simp [World.cell?, h]⟩
theorem Own.notS {g : G} {H : List Blk} {w : World} (hg : Good g H w) {b : Nat} (h : Own g H b) : ¬ g.S b := by
  obtain ⟨τ, o, hd, hρ, blk, hb, ho⟩ := h
  obtain ⟨blk', hb', hr⟩ := hg.tok τ hd
  obtain rfl : blk = blk' := by rw [hb] at hb'; exact Option.some.inj hb'
  cases blk with
  | box v => obtain ⟨b', o', hρ', hS, _⟩ := hr; rw [hρ] at hρ'; cases hρ'; exact hS
  | rows m E xs =>
    cases m with
    | live =>
      rcases hr with ⟨h0, _⟩ | ⟨b', o', hρ', hS, _⟩
      · rw [hρ] at h0; cases h0
      · rw [hρ] at hρ'; cases hρ'; exact hS
    | frozen => exact ho.elim
    | dead => exact ho.elim
theorem Own.lt {g : G} {H : List Blk} {w : World} (hg : Good g H w) {b : Nat} (h : Own g H b) : b < w.heap.size := by
  obtain ⟨τ, o, hd, hρ, blk, hb, ho⟩ := h
  obtain ⟨blk', hb', hr⟩ := hg.tok τ hd
  obtain rfl : blk = blk' := by rw [hb] at hb'; exact Option.some.inj hb'
  cases blk with
  | box v => obtain ⟨b', o', hρ', hS, hu, _⟩ := hr; rw [hρ] at hρ'; cases hρ'; exact hu.lt
  | rows m E xs =>
    cases m with
    | live =>
      rcases hr with ⟨h0, _⟩ | ⟨b', o', hρ', hS, hu, _⟩
      · rw [hρ] at h0; cases h0
      · rw [hρ] at hρ'; cases hρ'; exact hu.lt
    | frozen => exact ho.elim
    | dead => exact ho.elim
theorem Trans.refl (g : G) (H : List Blk) (w : World) : Trans g H w g H w where
  dom _ h := h
  ρ _ _ := rfl
  S _ h := h
  Sl _ h := h
  newS _ h := .inl h
  newSl _ h := .inl h
  size := Nat.le_refl _
  shape := .refl w
  env := .refl w
  prot _ _ _ := rfl
  own _ h := .inr h
  len τ _ m E xs h hm := ⟨m, xs, h, hm, rfl⟩
  box τ _ y h := ⟨y, h⟩
theorem Trans.trans {g g' g'' : G} {H H' H'' : List Blk} {w w' w'' : World} (h : Trans g H w g' H' w') (h' : Trans g' H' w' g'' H'' w'') : Trans g H w g'' H'' w'' where
  dom τ hd := h'.dom τ (h.dom τ hd)
  ρ τ hd := (h'.ρ τ (h.dom τ hd)).trans (h.ρ τ hd)
  S b hb := h'.S b (h.S b hb)
  Sl b hb := h'.Sl b (h.Sl b hb)
  newS b hb := by
    rcases h'.newS b hb with h1 | h1 | h1
    · exact h.newS b h1
    · exact .inr (.inl (Nat.le_trans h.size h1))
    · exact .inr (h.own b h1)
  newSl b hb := by
    rcases h'.newSl b hb with h1 | h1 | h1
    · exact h.newSl b h1
    · exact .inr (.inl (Nat.le_trans h.size h1))
    · exact .inr (h.own b h1)
  size := Nat.le_trans h.size h'.size
  shape := h.shape.trans h'.shape
  env := h.env.trans h'.env
  prot b hb ho := by
    rw [h'.prot b (Nat.lt_of_lt_of_le hb h.size) fun h1 => ?_, h.prot b hb ho]
    rcases h.own b h1 with h2 | h2
    · omega
    · exact ho h2
  own b hb := by
    rcases h'.own b hb with h1 | h1
    · exact .inl (Nat.le_trans h.size h1)
    · exact h.own b h1
  len τ hd m E xs hx hm := by
    obtain ⟨m1, xs1, h1, hm1, hl1⟩ := h'.len τ (h.dom τ hd) m E xs hx hm
    obtain ⟨m2, xs2, h2, hm2, hl2⟩ := h.len τ hd m1 E xs1 h1 hm1
    exact ⟨m2, xs2, h2, hm2, hl2.trans hl1⟩
  box τ hd y hy := by
    obtain ⟨y1, h1⟩ := h'.box τ (h.dom τ hd) y hy
    exact h.box τ hd y1 h1
section
variable {g g' : G} {H H' : List Blk} {w w' : World}
theorem Trans.keepS (ht : Trans g H w g' H' w') (hg : Good g H w) (b : Nat) (hb : g.S b) : w'.heap[b]? = w.heap[b]? :=
  ht.prot b (hg.lt b hb) fun h => h.notS hg hb
theorem PCell.trans (ht : Trans g H w g' H' w') (hg : Good g H w) {x : AV} {v : Value} (h : PCell g.S g.Sl w x v) : PCell g'.S g'.Sl w' x v :=
  h.mono ht.S ht.Sl (ht.keepS hg) hg.sub
theorem PCells.trans (ht : Trans g H w g' H' w') (hg : Good g H w) {cs : List AV} {b o : Nat} (hb : w'.heap[b]? = w.heap[b]?) (h : PCells g.S g.Sl w cs b o) : PCells g'.S g'.Sl w' cs b o :=
  h.mono ht.S ht.Sl (ht.keepS hg) hg.sub cs b o hb
theorem PRows.trans (ht : Trans g H w g' H' w') (hg : Good g H w) {E : Nat} {xs : List AV} {b o : Nat} (hb : w'.heap[b]? = w.heap[b]?) (h : PRows g.S g.Sl w E xs b o) : PRows g'.S g'.Sl w' E xs b o :=
  h.mono ht.S ht.Sl (ht.keepS hg) hg.sub E xs b o hb
def PC (g : G) (w : World) (x : AV) (v : Value) : Prop := PCell F0 g.Sl w x v
theorem PC.trans (ht : Trans g H w g' H' w') (hg : Good g H w) {x : AV} {v : Value} (h : PC g w x v) : PC g' w' x v :=
  NCell_iff.1 (NCell.mono ht.Sl (fun b hb => ht.keepS hg b (hg.sub b hb)) x v (NCell_iff.2 h))
theorem PC.weak {x : AV} {v : Value} (h : PC g w x v) : PCell g.S g.Sl w x v := PCell.weak x v h
theorem LenOk.trans (ht : Trans g H w g' H' w') {τ l : Nat} (hd : g.dom τ) (h : LenOk H τ l) : LenOk H' τ l := by
  intro m E xs hx hm
  obtain ⟨m1, xs1, h1, hm1, hl⟩ := ht.len τ hd m E xs hx hm
  rw [h m1 E xs1 h1 hm1, hl]
theorem CapOk.trans (ht : Trans g H w g' H' w') {τ n : Nat} (hd : g.dom τ) (h : CapOk H τ n) : CapOk H' τ n := by
  intro m E xs hx hm
  obtain ⟨m1, xs1, h1, hm1, hl⟩ := ht.len τ hd m E xs hx hm
  have := h m1 E xs1 h1 hm1
  omega
theorem LeOk.trans (ht : Trans g H w g' H' w') {τ n : Nat} (hd : g.dom τ) (h : LeOk H τ n) : LeOk H' τ n := by
  intro m E xs hx hm
  obtain ⟨m1, xs1, h1, hm1, hl⟩ := ht.len τ hd m E xs hx hm
  have := h m1 E xs1 h1 hm1
  omega
theorem V1.trans (ht : Trans g H w g' H' w') (hg : Good g H w) {x : AV} {v : Value} (h : V1 g H w x v) : V1 g' H' w' x v := by
  cases x with
  | own τ E r c =>
    obtain ⟨hd, h⟩ := h
    refine ⟨ht.dom τ hd, ?_⟩
    rw [ht.ρ τ hd]
    cases hρ : g.ρ τ with
    | none =>
      rw [hρ] at h
      refine ⟨h.1, ?_⟩
      cases r with
      | none => exact LenOk.trans ht hd h.2
      | some r => exact h.2
    | some p =>
      rw [hρ] at h
      obtain ⟨k, o, l, cap, rfl, h0, h1, h2, h5, h3, h4⟩ := h
      refine ⟨k, o, l, cap, rfl, h0, h1, h2, fun e => CapOk.trans ht hd (h5 e), h3.mono ht.shape, ?_⟩
      cases r with
      | none => exact ⟨h4.1, LenOk.trans ht hd h4.2⟩
      | some r => exact ⟨h4.1, h4.2.1, LeOk.trans ht hd h4.2.2⟩
  | ptr τ i o E =>
    obtain ⟨hd, hz, b, base, n, hρ, rfl, rfl⟩ := h
    exact ⟨ht.dom τ hd, fun y hy => (ht.box τ hd y hy).elim fun y h => hz y h, b, base, n, (ht.ρ τ hd).trans hρ, rfl, rfl⟩
  | «at» x o =>
    obtain ⟨b, off, rfl, hS, h⟩ := h
    exact ⟨b, off, rfl, ht.S b hS, h.1, h.2.trans ht hg (ht.keepS hg b hS)⟩
  | _ => simp only [V1] at h ⊢; exact PCell.trans ht hg h
theorem All2.imp {R R' : AV → Value → Prop} (h : ∀ x v, R x v → R' x v) : ∀ {xs : List AV} {vs : List Value}, All2 R xs vs → All2 R' xs vs
  | [], [], _ => trivial
  | x :: xs, v :: vs, hh => ⟨h x v hh.1, All2.imp h hh.2⟩
  | [], _ :: _, hh => hh.elim
  | _ :: _, [], hh => hh.elim
theorem V2.trans (ht : Trans g H w g' H' w') (hg : Good g H w) {x : AV} {v : Value} (h : V2 g H w x v) : V2 g' H' w' x v := by
  cases x with
  | agg cs => obtain ⟨vs, rfl, h⟩ := h; exact ⟨vs, rfl, h.imp fun _ _ h => h.trans ht hg⟩
  | _ => simp only [V2] at h ⊢; exact V1.trans ht hg h
theorem V3.trans (ht : Trans g H w g' H' w') (hg : Good g H w) {x : AV} {v : Value} (h : V3 g H w x v) : V3 g' H' w' x v := by
  cases x with
  | top => trivial
  | anyb => exact h
  | fn f a c => obtain ⟨av, cv, rfl, h1, h2⟩ := h; exact ⟨av, cv, rfl, h1.imp fun _ _ h => h.trans ht hg, h2.imp fun _ _ h => h.trans ht hg⟩
  | tup vs => obtain ⟨ws, rfl, h⟩ := h; exact ⟨ws, rfl, h.imp fun _ _ h => h.trans ht hg⟩
  | _ => simp only [V3] at h ⊢; exact V2.trans ht hg h
theorem V1s.trans (ht : Trans g H w g' H' w') (hg : Good g H w) {b : Nat} (hb : w'.heap[b]? = w.heap[b]?) : ∀ {cs : List AV} {o : Nat}, V1s g H w cs b o → V1s g' H' w' cs b o
  | [], _, _ => trivial
  | _ :: _, _, ⟨⟨v, hv, h⟩, hr⟩ => ⟨⟨v, by simpa [World.cell?, hb] using hv, h.trans ht hg⟩, hr.trans ht hg hb⟩
end
end Go.AM
namespace Go.AM
theorem natK_eq {β : Type} (n : Nat) (κ : Nat → β) : natK n κ = κ n := by
  unfold natK; split <;> rfl
theorem getK_some {α : Type} {κ : α → R} {r : AV × List Blk} : ∀ {l : List α} {n : Nat}, getK l n κ = some r → ∃ a, l[n]? = some a ∧ κ a = some r
  | [], _, h => by simp [getK] at h
  | a :: _, 0, h => ⟨a, rfl, h⟩
  | _ :: l, n + 1, h => by simpa using getK_some (l := l) (n := n) h
theorem setK_eq {α : Type} : ∀ (l : List α) (n : Nat) (v : α) (κ : List α → R), setK l n v κ = κ (l.set n v)
  | [], _, _, _ => by simp [setK]
  | _ :: _, 0, _, _ => by simp [setK]
  | a :: l, n + 1, v, κ => by simp [setK, setK_eq l n v]
theorem snocK_eq {α : Type} : ∀ (l : List α) (b : α) (n : Nat) (κ : Nat → List α → R), snocK l b n κ = κ (n + l.length) (l ++ [b])
  | [], b, n, κ => by simp [snocK, natK_eq]
  | a :: l, b, n, κ => by simp [snocK, snocK_eq l b (n + 1)]; congr 1; omega
theorem takeK_some {κ : List AV → R} {r : AV × List Blk} : ∀ {l : List AV} {n : Nat}, takeK l n κ = some r → n ≤ l.length ∧ κ (l.take n) = some r
  | l, 0, h => by cases l <;> simpa [takeK] using h
  | [], n + 1, h => by simp [takeK] at h
  | a :: l, n + 1, h => by
    have := takeK_some (l := l) (n := n) (κ := fun l' => κ (a :: l')) h
    simpa using this
theorem dropK_some {κ : List AV → R} {r : AV × List Blk} : ∀ {l : List AV} {n : Nat}, dropK l n κ = some r → n ≤ l.length ∧ κ (l.drop n) = some r
  | l, 0, h => by cases l <;> simpa [dropK] using h
  | [], n + 1, h => by simp [dropK] at h
  | a :: l, n + 1, h => by
    have := dropK_some (l := l) (n := n) (κ := κ) h
    simpa using this
def splice {α : Type} (cs : List α) (off : Nat) (vs : List α) : List α := cs.take off ++ vs ++ cs.drop (off + vs.length)
theorem spliceK_some {κ : List AV → R} {r : AV × List Blk} : ∀ {cs : List AV} {off : Nat} {vs : List AV}, spliceK cs off vs κ = some r →
    off + vs.length ≤ cs.length + off ∧ (vs = [] ∨ off + vs.length ≤ cs.length) ∧ κ (if vs = [] then cs else splice cs off vs) = some r
  | cs, off, [], h => by
    have : spliceK cs off [] κ = κ cs := by cases cs <;> cases off <;> rfl
    rw [this] at h
    exact ⟨by simp, .inl rfl, by simpa using h⟩
  | [], off, v :: vs, h => by cases off <;> simp [spliceK] at h
  | c :: cs, 0, v :: vs, h => by
    obtain ⟨h1, h2, h3⟩ := spliceK_some (cs := cs) (off := 0) (vs := vs) (κ := fun l => κ (v :: l)) h
    refine ⟨by simp at h1 ⊢; omega, .inr ?_, ?_⟩
    · rcases h2 with rfl | h2
      · simp
      · simp at h2 ⊢; omega
    · cases vs with
      | nil => simpa [splice] using h3
      | cons x xs =>
        have e : 0 + (v :: x :: xs).length = (0 + (x :: xs).length) + 1 := by simp
        simp only [splice, e, List.drop_succ_cons] at h3 ⊢
        simpa using h3
  | c :: cs, off + 1, v :: vs, h => by
    obtain ⟨h1, h2, h3⟩ := spliceK_some (cs := cs) (off := off) (vs := v :: vs) (κ := fun l => κ (c :: l)) h
    refine ⟨by simp at h1 ⊢; omega, .inr ?_, ?_⟩
    · rcases h2 with h2 | h2
      · cases h2
      · simp at h2 ⊢; omega
    · have e : off + 1 + (v :: vs).length = (off + (v :: vs).length) + 1 := by omega
      simp only [splice, e, List.drop_succ_cons] at h3 ⊢
      simpa using h3
theorem lenK_eq {α β : Type} : ∀ (l : List α) (n : Nat) (κ : Nat → β), lenK l n κ = κ (n + l.length)
  | [], n, κ => by simp [lenK, natK_eq]
  | _ :: l, n, κ => by simp [lenK, lenK_eq l (n + 1)]; congr 1; omega
theorem apndB_eq {α : Type} : ∀ (xs ys : List α) (κ : List α → R), apndB xs ys κ = κ (xs ++ ys)
  | [], _, _ => rfl
  | x :: xs, ys, κ => by simp [apndB, apndB_eq xs ys]
theorem headB_some {κ : List Blk → R} {r : AV × List Blk} : ∀ {l : List Blk} {n : Nat}, headB l n κ = some r → n ≤ l.length ∧ κ (l.take n) = some r
  | l, 0, h => by cases l <;> simpa [headB] using h
  | [], n + 1, h => by simp [headB] at h
  | a :: l, n + 1, h => by
    have := headB_some (l := l) (n := n) (κ := fun l' => κ (a :: l')) h
    simpa using this
theorem gbind_some {α β : Type} {o : Option α} {f : α → Option β} {r : β} (h : gbind o f = some r) : ∃ a, o = some a ∧ f a = some r := by
  rw [gbind_eq] at h; exact Option.bind_eq_some_iff.mp h
theorem cond_some {α : Type} {b : Bool} {x y : Option α} {r : α} (h : (bif b then x else y) = some r) : (b = true ∧ x = some r) ∨ (b = false ∧ y = some r) := by
  cases b <;> simp_all
theorem cond_none {α : Type} {b : Bool} {x : Option α} {r : α} (h : (bif b then x else none) = some r) : b = true ∧ x = some r := by
  cases b <;> simp_all
def constD (v : Value) : Option AV :=
  match v with
  | .int k n => some (.int k n)
  | .bool b => some (.bool b)
  | .string ⟨⟨l⟩⟩ => some (.str l)
  | .slice none 0 0 => some .nil
  | .nilIface => some .iface0
  | _ => none
theorem constK_eq (v : Value) (κ : AV → R) : constK v κ = (constD v).bind κ := by
  unfold constK constD
  split <;> simp_all
def evD (tm : List AV) (x : Operand) : Option AV :=
  match x with
  | .tmp t => tm[t]?
  | .const v => constD v
  | .func f => some (.fn f [] [])
  | .global _ => none
theorem getK_eq {α : Type} (κ : α → R) : ∀ (l : List α) (n : Nat), getK l n κ = l[n]?.bind κ
  | [], _ => by simp [getK]
  | _ :: _, 0 => by simp [getK]
  | _ :: l, n + 1 => by simp [getK, getK_eq κ l n]
theorem evK_eq (tm : List AV) (x : Operand) (κ : AV → R) : evK tm x κ = (evD tm x).bind κ := by
  cases x <;> simp [evK, evD, getK_eq, constK_eq]
def evsD (tm : List AV) : List Operand → Option (List AV)
  | [] => some []
  | x :: l => (evD tm x).bind fun v => (evsD tm l).bind fun vs => some (v :: vs)
theorem evsK_eq (tm : List AV) : ∀ (l : List Operand) (κ : List AV → R), evsK tm l κ = (evsD tm l).bind κ
  | [], κ => by simp [evsK, evsD]
  | x :: l, κ => by
    simp only [evsK, evsD, evK_eq, evsK_eq tm l]
    cases evD tm x <;> simp
    cases evsD tm l <;> simp
theorem evK_some {tm : List AV} {x : Operand} {κ : AV → R} {r : AV × List Blk} (h : evK tm x κ = some r) : ∃ v, evD tm x = some v ∧ κ v = some r := by
  rw [evK_eq] at h; exact Option.bind_eq_some_iff.mp h
theorem evsK_some {tm : List AV} {l : List Operand} {κ : List AV → R} {r : AV × List Blk} (h : evsK tm l κ = some r) : ∃ vs, evsD tm l = some vs ∧ κ vs = some r := by
  rw [evsK_eq] at h; exact Option.bind_eq_some_iff.mp h
theorem tyK_some {T : TypeId → Option TI} {t : TypeId} {κ : Nat → Bool → Nat → AV → TD → R} {r : AV × List Blk} (h : tyK T t κ = some r) :
    ∃ s a b z d, T t = some (.mk s a b z d) ∧ κ s a b z d = some r := by
  unfold tyK at h
  split at h
  · exact ⟨_, _, _, _, _, ‹_›, h⟩
  · cases h
end Go.AM
namespace Go.AM
def G.add (g : G) (τ : Nat) (p : Option (Nat × Nat)) : G := { g with dom := fun x => g.dom x ∨ x = τ, ρ := fun x => if x = τ then p else g.ρ x }
section
variable {g : G} {H : List Blk} {w : World} {τ : Nat}
theorem heap_alloc_old {o : Obj} {b : Nat} (h : b < w.heap.size) : (w.alloc o).heap[b]? = w.heap[b]? := by
  show (w.heap.push o)[b]? = _
  rw [Array.getElem?_push, if_neg (by omega)]
theorem heap_alloc_new {o : Obj} : (w.alloc o).heap[w.heap.size]? = some o := by
  show (w.heap.push o)[w.heap.size]? = _
  simp
theorem Shape.alloc (w : World) (o : Obj) : Shape w (w.alloc o) := by
  intro b cs el fr h
  have hb : b < w.heap.size := by
    rcases Nat.lt_or_ge b w.heap.size with h' | h'
    · exact h'
    · simp [Array.getElem?_eq_none h'] at h
  exact ⟨cs, by rw [heap_alloc_old hb]; exact h, rfl⟩
theorem Trans.new (hg : Good g H w) (hτ : ¬ g.dom τ) {cs : Array Value} {el : TypeId} :
    Trans g H w (g.add τ (some (w.heap.size, 0))) H (w.alloc (.cells cs el)) where
  dom _ h := .inl h
  ρ x h := by have : x ≠ τ := fun e => hτ (e ▸ h); simp [G.add, this]
  S _ h := h
  Sl _ h := h
  newS _ h := .inl h
  newSl _ h := .inl h
  size := by simp
  shape := Shape.alloc w _
  env := .refl w
  prot b hb _ := heap_alloc_old hb
  own b hb := by
    obtain ⟨x, o, hd, hρ, ho⟩ := hb
    by_cases hx : x = τ
    · subst hx; simp [G.add] at hρ; exact .inl (by omega)
    · refine .inr ⟨x, o, hd.resolve_right hx, by simpa [G.add, hx] using hρ, ho⟩
  len x _ m E xs h hm := ⟨m, xs, h, hm, rfl⟩
  box x _ y h := ⟨y, h⟩
theorem Trans.null (hτ : ¬ g.dom τ) : Trans g H w (g.add τ none) H w where
  dom _ h := .inl h
  ρ x h := by have : x ≠ τ := fun e => hτ (e ▸ h); simp [G.add, this]
  S _ h := h
  Sl _ h := h
  newS _ h := .inl h
  newSl _ h := .inl h
  size := Nat.le_refl _
  shape := Shape.refl w
  env := .refl w
  prot b hb _ := rfl
  own b hb := by
    obtain ⟨x, o, hd, hρ, ho⟩ := hb
    by_cases hx : x = τ
    · subst hx; simp [G.add] at hρ
    · refine .inr ⟨x, o, hd.resolve_right hx, by simpa [G.add, hx] using hρ, ho⟩
  len x _ m E xs h hm := ⟨m, xs, h, hm, rfl⟩
  box x _ y h := ⟨y, h⟩
theorem BlkRel.trans {g' : G} {H' : List Blk} {w' : World} (ht : Trans g H w g' H' w') (hg : Good g H w) {x : Nat} (hx : g.dom x) {blk : Blk}
    (hown : ∀ b o, g.ρ x = some (b, o) → blk.owned → w'.heap[b]? = w.heap[b]? ∧ ¬ g'.S b) (h : BlkRel g H w x blk) : BlkRel g' H' w' x blk := by
  cases blk with
  | box v =>
    obtain ⟨b, o, hρ, hS, hu, hv⟩ := h
    have := hown b o hρ trivial
    exact ⟨b, o, (ht.ρ x hx).trans hρ, this.2, hu.mono ht.shape, hv.trans ht hg this.1⟩
  | rows m E xs =>
    cases m with
    | live =>
      rcases h with ⟨h1, h2⟩ | ⟨b, o, hρ, hS, hu, hv⟩
      · exact .inl ⟨(ht.ρ x hx).trans h1, h2⟩
      · have := hown b o hρ trivial
        exact .inr ⟨b, o, (ht.ρ x hx).trans hρ, this.2, hu.mono ht.shape, hv.trans ht hg this.1⟩
    | frozen =>
      rcases h with ⟨h1, h2⟩ | ⟨b, o, hρ, hS, hu, hv⟩
      · exact .inl ⟨(ht.ρ x hx).trans h1, h2⟩
      · exact .inr ⟨b, o, (ht.ρ x hx).trans hρ, ht.Sl b hS, hu.mono ht.shape, hv.trans ht hg (ht.keepS hg b (hg.sub b hS))⟩
    | dead => trivial
theorem owned_of {H : List Blk} {x : Nat} {blk : Blk} (h : H[x]? = some blk) (ho : blk.owned) : owned H x := ⟨blk, h, ho⟩
theorem Good.new (hg : Good g H w) (hτ : ¬ g.dom τ) {cs : Array Value} {el : TypeId} {blk : Blk} (hb : H[τ]? = some blk)
    (hr : BlkRel (g.add τ (some (w.heap.size, 0))) H (w.alloc (.cells cs el)) τ blk) :
    Good (g.add τ (some (w.heap.size, 0))) H (w.alloc (.cells cs el)) where
  sub := hg.sub
  lt b h := by simp; have := hg.lt b h; omega
  tok x hx := by
    by_cases e : x = τ
    · subst e; exact ⟨blk, hb, hr⟩
    · have hx := hx.resolve_right e
      obtain ⟨blk', hb', hr'⟩ := hg.tok x hx
      refine ⟨blk', hb', BlkRel.trans (Trans.new hg hτ) hg hx (fun b o hρ ho => ?_) hr'⟩
      have hO : Own g H b := ⟨x, o, hx, hρ, owned_of hb' ho⟩
      exact ⟨heap_alloc_old (hO.lt hg), hO.notS hg⟩
  inj x y b o o' hx hy h1 h2 h3 h4 := by
    by_cases ex : x = τ
    · subst ex
      by_cases ey : y = x
      · exact ey.symm
      · simp [G.add] at h1
        simp [G.add, ey] at h2
        have hO : Own g H b := ⟨y, o', hy.resolve_right ey, h2, h4⟩
        have := hO.lt hg
        omega
    · by_cases ey : y = τ
      · subst ey
        simp [G.add] at h2
        simp [G.add, ex] at h1
        have hO : Own g H b := ⟨x, o, hx.resolve_right ex, h1, h3⟩
        have := hO.lt hg
        omega
      · simp [G.add, ex] at h1
        simp [G.add, ey] at h2
        exact hg.inj x y b o o' (hx.resolve_right ex) (hy.resolve_right ey) h1 h2 h3 h4
theorem Good.null (hg : Good g H w) (hτ : ¬ g.dom τ) {E : Nat} (hb : H[τ]? = some (.rows .live E [])) : Good (g.add τ none) H w where
  sub := hg.sub
  lt := hg.lt
  tok x hx := by
    by_cases e : x = τ
    · subst e; exact ⟨_, hb, .inl ⟨by simp [G.add], rfl⟩⟩
    · have hx := hx.resolve_right e
      obtain ⟨blk', hb', hr'⟩ := hg.tok x hx
      refine ⟨blk', hb', BlkRel.trans (Trans.null hτ) hg hx (fun b o hρ ho => ?_) hr'⟩
      have hO : Own g H b := ⟨x, o, hx, hρ, owned_of hb' ho⟩
      exact ⟨rfl, hO.notS hg⟩
  inj x y b o o' hx hy h1 h2 h3 h4 := by
    by_cases ex : x = τ
    · subst ex; simp [G.add] at h1
    · by_cases ey : y = τ
      · subst ey; simp [G.add] at h2
      · simp [G.add, ex] at h1
        simp [G.add, ey] at h2
        exact hg.inj x y b o o' (hx.resolve_right ex) (hy.resolve_right ey) h1 h2 h3 h4
end
end Go.AM
namespace Go.AM
def aggD : TypeDesc → Bool
  | .struct _ => true
  | .array _ _ => true
  | _ => false
def DRel : TD → TypeDesc → Prop
  | .int k, u => u = .int k
  | .bool, u => u = .bool
  | .str, u => u = .string
  | .slice e, u => u = .slice e
  | .array n e, u => u = .array n e
  | .struct fs _, u => ∃ fields : Array Field, u = .struct fields ∧ fs = fields.toList.map fun f => (f.offset, f.type)
  | .ptr e, u => u = .pointer e
  | .other, _ => True
structure TRel (P : Program) (t : TypeId) (s : Nat) (ag : Bool) (by_ : Nat) (z : AV) (d : TD) : Prop where
  info : ∃ i, P.info? t = some i ∧ i.size = s ∧ i.bytes = by_ ∧ (z = .top ∨ ∃ zv, i.zero = some zv ∧ zv.cells.size = s ∧ ∀ g H w, V2 g H w z zv)
  under : ∃ u, P.underlying t = some u ∧ ag = aggD u ∧ DRel d u
  flds : ∀ fields, P.underlying t = some (.struct fields) → ∀ f ∈ fields, ∃ i, P.info? f.type = some i
  eq : ∀ fs, d = .struct fs true → ∀ (xs ys : List Int), xs.length = s → ys.length = s → ∀ w,
    (Op.equal t (.agg ⟨xs.map (.int .i64)⟩) (.agg ⟨ys.map (.int .i64)⟩)).run P w = .ok (decide (xs = ys)) w ∧
    P.eqGuardType P.depth t = false
def TOk (P : Program) (T : TypeId → Option TI) : Prop := ∀ t s ag by_ z d, T t = some (.mk s ag by_ z d) → TRel P t s ag by_ z d
section
variable {P : Program} {t : TypeId} {s : Nat} {ag : Bool} {by_ : Nat} {z : AV} {d : TD} {w : World}
theorem TRel.typeInfo (h : TRel P t s ag by_ z d) : ∃ i, (Go.typeInfo t).run P w = .ok i w ∧ i.size = s ∧ i.bytes = by_ ∧ (z = .top ∨ ∃ zv, i.zero = some zv ∧ zv.cells.size = s ∧ ∀ g H w, V2 g H w z zv) := by
  obtain ⟨i, hi, h1, h2, h3⟩ := h.info
  exact ⟨i, by simp [Go.typeInfo, hi], h1, h2, h3⟩
theorem TRel.sizeOf (h : TRel P t s ag by_ z d) : (Go.sizeOf t).run P w = .ok s w := by
  obtain ⟨i, hi, h1, h2, h3⟩ := h.typeInfo (w := w)
  simp [Go.sizeOf, hi, h1]
theorem TRel.underlying (h : TRel P t s ag by_ z d) : ∃ u, (Go.underlying t).run P w = .ok u w ∧ ag = aggD u ∧ DRel d u := by
  obtain ⟨u, hu, h1, h2⟩ := h.under
  exact ⟨u, by simp [Go.underlying, hu], h1, h2⟩
theorem TRel.isAgg (h : TRel P t s ag by_ z d) : (Go.isAgg t).run P w = .ok ag w := by
  obtain ⟨u, hu, h1, h2⟩ := h.underlying (w := w)
  subst h1
  simp only [Go.isAgg, Sem.run_bind, hu, Result.andThen_ok]
  cases u <;> simp [aggD]
theorem TRel.zeroValue (h : TRel P t s ag by_ z d) (hz : z ≠ .top) : ∃ zv, (Go.zeroValue t).run P w = .ok zv w ∧ zv.cells.size = s ∧ ∀ g H w, V2 g H w z zv := by
  obtain ⟨i, hi, h1, h2, h3⟩ := h.typeInfo (w := w)
  obtain ⟨zv, hz1, hz2, hz3⟩ := h3.resolve_left hz
  exact ⟨zv, by simp [Go.zeroValue, hi, hz1], hz2, hz3⟩
end
def OpN (P : Program) (o : Oper) (tm : List AV) (hp : List Blk) (v : AV) (hp' : List Blk) : Prop :=
  hp <+: hp' ∧ ∀ (Q : Exit → Act → World → Prop) (a : Act) (w : World) (g : G) (H : List Blk) (N : Act → World → Prop), hp' <+: H →
    (∀ τ, g.dom τ → τ < hp.length ∨ hp'.length ≤ τ) → (∀ x ∈ o.op.operands, ∀ u, evD tm x = some u → V3 g H w u (a.eval x)) → Good g H w →
    (∀ vv w' g', (∀ b, b < w.heap.size → w'.heap[b]? = w.heap[b]?) → Trans g H w g' H w' → Good g' H w' → (∀ τ, g'.dom τ ↔ g.dom τ ∨ (hp.length ≤ τ ∧ τ < hp'.length)) → V3 g' H w' v vv →
      (∀ τ, hp.length ≤ τ → τ < hp'.length → ∀ b o, g'.ρ τ = some (b, o) → w.heap.size ≤ b) → N (a.put o.dst vv) w') →
    o.wp P a w N Q
def wrB (o : Oper) (a : Act) (b : Nat) : Prop :=
  match o.op with
  | .store _ x _ => ∃ k, a.eval x = .pointer (some ⟨b, k, none⟩)
  | .buildSlice _ _ _ => False
  | .call c => match c.callee with
    | .builtin .append => ∃ x, c.args[0]? = some x ∧ ∃ k l c', a.eval x = .slice (some ⟨b, k, none⟩) l c' ∧ 0 < c'
    | _ => True
  | _ => True
def OpM (P : Program) (o : Oper) (tm : List AV) (hp : List Blk) (v : AV) (hp' : List Blk) : Prop :=
  ∀ (Q : Exit → Act → World → Prop) (a : Act) (w : World) (g : G) (N : Act → World → Prop),
    (∀ τ, g.dom τ ↔ τ < hp.length) → (∀ x ∈ o.op.operands, ∀ u, evD tm x = some u → V3 g hp w u (a.eval x)) → Good g hp w →
    (∀ vv w' g', Trans g hp w g' hp' w' → Good g' hp' w' → (∀ τ, g'.dom τ ↔ τ < hp'.length) → V3 g' hp' w' v vv → (∀ b, b < w.heap.size → ¬ wrB o a b → w'.heap[b]? = w.heap[b]?) → N (a.put o.dst vv) w') →
    o.wp P a w N Q
theorem opN_pure {P : Program} {o : Oper} {tm : List AV} {hp : List Blk} {v : AV}
    (h : ∀ (a : Act) (w : World) (g : G) (H : List Blk), hp <+: H → (∀ τ, g.dom τ → τ < hp.length ∨ hp.length ≤ τ) → (∀ x ∈ o.op.operands, ∀ u, evD tm x = some u → V3 g H w u (a.eval x)) → Good g H w →
      ∃ vv, (execOp a.eval o).run P w = .ok (.value vv) w ∧ V3 g H w v vv) : OpN P o tm hp v hp := by
  refine ⟨List.prefix_refl _, fun Q a w g H N hH hd hx hg hN => ?_⟩
  obtain ⟨vv, hr, hv⟩ := h a w g H hH hd hx hg
  simp only [Oper.wp, hr, Oper.upon]
  exact hN vv w g (fun _ _ => rfl) (Trans.refl g H w) hg (fun τ => ⟨.inl, fun h => h.resolve_right (by omega)⟩) hv (fun τ h1 h2 => by omega)
theorem const_V3 {g : G} {H : List Blk} {w : World} {v : Value} {u : AV} (h : constD v = some u) : V3 g H w u v := by
  unfold constD at h
  split at h <;> first
    | (cases h; simp [V3, V2, V1, PCell]; done)
    | cases h
theorem move_ok {P : Program} {o : Oper} {tm : List AV} {hp : List Blk} {x : Operand} {v : AV} (ho : o.op = .move x ∨ o.op = .assign x) (hv : evD tm x = some v) : OpN P o tm hp v hp := by
  refine opN_pure fun a w g H _ _ hx _ => ⟨a.eval x, ?_, hx x ?_ v hv⟩
  · rcases ho with ho | ho <;> simp [execOp, ho]
  · rcases ho with ho | ho <;> simp [ho, Op.operands]
end Go.AM
namespace Go.AM
open Op
theorem V3_int {g : G} {H : List Blk} {w : World} {k : IntKind} {n : Int} {v : Value} : V3 g H w (.int k n) v ↔ v = .int k n := by simp [V3, V2, V1, PCell]
theorem V3_bool {g : G} {H : List Blk} {w : World} {b : Bool} {v : Value} : V3 g H w (.bool b) v ↔ v = .bool b := by simp [V3, V2, V1, PCell]
theorem V3_str {g : G} {H : List Blk} {w : World} {l : List UInt8} {v : Value} : V3 g H w (.str l) v ↔ v = .string ⟨⟨l⟩⟩ := by simp [V3, V2, V1, PCell]
theorem eqGuard_plain {P : Program} {w : World} {op : BinOp} {t : TypeId} {x y : Operand} {a b : Value}
    (h : (∃ k n, a = .int k n) ∨ (∃ b', a = .bool b') ∨ (∃ s, a = .string s) ∨ ∃ A n c, a = .slice A n c) :
    (eqGuard op t x y a b).run P w = .ok () w := by
  rcases h with ⟨k, n, rfl⟩ | ⟨b', rfl⟩ | ⟨s, rfl⟩ | ⟨A, n, c, rfl⟩ <;> cases op <;> simp [eqGuard]
theorem intBin_ok {P : Program} {op : BinOp} {k : IntKind} {a b : Int} {κ : AV → R} {r : AV × List Blk} (h : intBin op k a b κ = some r) :
    ∃ v, κ v = some r ∧ ∃ vv, (∀ w : World, (match op with
      | .add | .sub | .mul => Op.intArith op k a b
      | .quo | .rem => Op.intDiv op k a b
      | .and | .or | .xor | .andNot => Op.intBits op k a b
      | _ => Op.intCmp op a b).run P w = .ok vv w) ∧ ((∃ n, v = .int k n ∧ vv = .int k n) ∨ ∃ t, v = .bool t ∧ vv = .bool t) := by
  unfold intBin at h
  cases op <;> simp only [] at h
  case add => exact ⟨_, h, _, fun w => by simp [Op.intArith]; rfl, .inl ⟨_, rfl, by simp [wr_eq, iadd_eq]⟩⟩
  case sub => exact ⟨_, h, _, fun w => by simp [Op.intArith]; rfl, .inl ⟨_, rfl, by simp [wr_eq, isub_eq]⟩⟩
  case mul => exact ⟨_, h, _, fun w => by simp [Op.intArith]; rfl, .inl ⟨_, rfl, by simp [wr_eq, imul_eq]⟩⟩
  case quo =>
    rcases cond_some h with ⟨_, h⟩ | ⟨h0, h⟩
    · cases h
    · have hb : b ≠ 0 := by simpa [ieq_eq] using h0
      exact ⟨_, h, _, fun w => by simp [Op.intDiv, hb]; rfl, .inl ⟨_, rfl, by simp [wr_eq, iquo_eq]⟩⟩
  case rem =>
    rcases cond_some h with ⟨_, h⟩ | ⟨h0, h⟩
    · cases h
    · have hb : b ≠ 0 := by simpa [ieq_eq] using h0
      exact ⟨_, h, _, fun w => by simp [Op.intDiv, hb]; rfl, .inl ⟨_, rfl, by simp [irem_eq]⟩⟩
  case and => exact ⟨_, h, _, fun w => by simp [Op.intBits]; rfl, .inl ⟨_, rfl, by simp [iand_eq]⟩⟩
  case eql => exact ⟨_, h, _, fun w => by simp [Op.intCmp]; rfl, .inr ⟨_, rfl, by simp [ieq_eq]; exact Bool.beq_eq_decide_eq a b⟩⟩
  case neq => exact ⟨_, h, _, fun w => by simp [Op.intCmp]; rfl, .inr ⟨_, rfl, by simp [ieq_eq, bne, Bool.beq_eq_decide_eq]⟩⟩
  case lss => exact ⟨_, h, _, fun w => by simp [Op.intCmp]; rfl, .inr ⟨_, rfl, by simp [ilt_eq]⟩⟩
  case leq => exact ⟨_, h, _, fun w => by simp [Op.intCmp]; rfl, .inr ⟨_, rfl, by simp [ile_eq]⟩⟩
  case gtr => exact ⟨_, h, _, fun w => by simp [Op.intCmp]; rfl, .inr ⟨_, rfl, by simp [ilt_eq]⟩⟩
  case geq => exact ⟨_, h, _, fun w => by simp [Op.intCmp]; rfl, .inr ⟨_, rfl, by simp [ile_eq]⟩⟩
  all_goals cases h
theorem bytes_eq (a b : List UInt8) : ((⟨⟨a⟩⟩ : ByteArray).toList == (⟨⟨b⟩⟩ : ByteArray).toList) = (a == b) := by
  have h : ∀ l : List UInt8, (⟨⟨l⟩⟩ : ByteArray).toList = l := by
    intro l
    rw [Go.ByteArray.toList_eq]
  rw [h, h]
theorem binOp_run {P : Program} {a : Act} {w : World} {o : Oper} {op : BinOp} {t ty : TypeId} {x y : Operand} (ho : o.op = .binOp op t x y ty) {vv : Value}
    (hg : (eqGuard op t x y (a.eval x) (a.eval y)).run P w = .ok () w) (hb : (binOp op t (a.eval x) (a.eval y)).run P w = .ok vv w) :
    (execOp a.eval o).run P w = .ok (.value vv) w := by
  simp only [execOp, ho, Sem.run_bind, hg, Result.andThen_ok, hb, Sem.run_pure]
theorem binK_ok {P : Program} {o : Oper} {tm : List AV} {hp : List Blk} {op : BinOp} {t ty : TypeId} {x y : Operand} (ho : o.op = .binOp op t x y ty) {X Y : AV}
    (hx : evD tm x = some X) (hy : evD tm y = some Y) {κ : AV → R} {r : AV × List Blk} (h : binK op X Y κ = some r) : ∃ v, κ v = some r ∧ OpN P o tm hp v hp := by
  have ops : ∀ (a : Act) (w : World) (g : G) (H : List Blk), (∀ x ∈ o.op.operands, ∀ u, evD tm x = some u → V3 g H w u (a.eval x)) → V3 g H w X (a.eval x) ∧ V3 g H w Y (a.eval y) :=
    fun a w g H hh => ⟨hh x (by simp [ho, Op.operands]) X hx, hh y (by simp [ho, Op.operands]) Y hy⟩
  unfold binK at h
  split at h
  case h_1 k a' k' b' =>
    split at h
    · rcases cond_some h with ⟨_, h⟩ | ⟨h0, h⟩
      · cases h
      · refine ⟨_, h, opN_pure fun a w g H _ _ hh _ => ?_⟩
        obtain ⟨h1, h2⟩ := ops a w g H hh
        rw [V3_int] at h1 h2
        refine ⟨_, binOp_run ho (eqGuard_plain (.inl ⟨_, _, h1⟩)) ?_, V3_int.2 rfl⟩
        have hb : ¬ b' < 0 := by simpa [ilt_eq] using h0
        simp [binOp, h1, h2, Op.shift, hb, ishl_eq]
    · rcases cond_some h with ⟨_, h⟩ | ⟨h0, h⟩
      · cases h
      · refine ⟨_, h, opN_pure fun a w g H _ _ hh _ => ?_⟩
        obtain ⟨h1, h2⟩ := ops a w g H hh
        rw [V3_int] at h1 h2
        refine ⟨_, binOp_run ho (eqGuard_plain (.inl ⟨_, _, h1⟩)) ?_, V3_int.2 rfl⟩
        have hb : ¬ b' < 0 := by simpa [ilt_eq] using h0
        simp [binOp, h1, h2, Op.shift, hb, ishr_eq]
    · rename_i hne1 hne2
      obtain ⟨hk, h⟩ := cond_none h
      have hk : k = k' := of_decide_eq_true hk
      subst hk
      simp only [decide_true, cond_true] at h
      obtain ⟨v, hv, vv, hr, hor⟩ := intBin_ok (P := P) h
      refine ⟨v, hv, opN_pure fun a w g H _ _ hh _ => ?_⟩
      obtain ⟨h1, h2⟩ := ops a w g H hh
      rw [V3_int] at h1 h2
      refine ⟨vv, binOp_run ho (eqGuard_plain (.inl ⟨_, _, h1⟩)) ?_, ?_⟩
      · rw [h1, h2]
        have := hr w
        cases op <;> first
          | exact absurd rfl hne1
          | exact absurd rfl hne2
          | simpa [binOp] using this
      · rcases hor with ⟨n, rfl, rfl⟩ | ⟨t, rfl, rfl⟩
        · exact V3_int.2 rfl
        · exact V3_bool.2 rfl
  case h_2 p q =>
    split at h
    · obtain ⟨hf, h⟩ := cond_none h
      refine ⟨_, h, opN_pure fun a w g H _ _ hh _ => ?_⟩
      obtain ⟨h1, h2⟩ := ops a w g H hh
      rw [V3_str] at h1 h2
      refine ⟨_, binOp_run ho (eqGuard_plain (.inr (.inr (.inl ⟨_, h1⟩)))) ?_, V3_str.2 rfl⟩
      have hf : (p.length : Int) + q.length ≤ 140737488355328 := by simpa [fits_eq, iadd_eq, ilen_eq] using hf
      have hs : ¬ ((((⟨⟨p⟩⟩ : ByteArray).size + (⟨⟨q⟩⟩ : ByteArray).size : Nat) : Int) > IntKind.i64.max) := by
        show ¬ (((p.length + q.length : Nat) : Int) > IntKind.i64.max)
        simp [IntKind.max, IntKind.signed, IntKind.bits]
        omega
      have e : (⟨⟨p⟩⟩ : ByteArray) ++ ⟨⟨q⟩⟩ = ⟨⟨p ++ q⟩⟩ := by
        apply ByteArray.ext
        rw [ByteArray.data_append]
        simp
      simp only [binOp, h1, h2, Op.stringOp, hs, if_false, Sem.run_pure, e, lcat_eq]
    all_goals first
      | (refine ⟨_, h, opN_pure fun a w g H _ _ hh _ => ?_⟩
         obtain ⟨h1, h2⟩ := ops a w g H hh
         rw [V3_str] at h1 h2
         refine ⟨_, binOp_run ho (eqGuard_plain (.inr (.inr (.inl ⟨_, h1⟩)))) ?_, V3_bool.2 rfl⟩
         simp only [binOp, h1, h2, Op.stringOp, Sem.run_pure, bytes_eq, seq_eq])
      | cases h
  case h_3 => cases h
theorem binBool_ok {P : Program} {o : Oper} {tm : List AV} {hp : List Blk} {op : BinOp} {t ty : TypeId} {x y : Operand} (ho : o.op = .binOp op t x y ty) {p q : Bool}
    (hx : evD tm x = some (.bool p)) (hy : evD tm y = some (.bool q)) (ht : P.underlying t = some .bool) {κ : AV → R} {r : AV × List Blk} (h : binBoolK op p q κ = some r) :
    ∃ v, κ v = some r ∧ OpN P o tm hp v hp := by
  unfold binBoolK at h
  split at h <;> first
    | (refine ⟨_, h, opN_pure fun a w g H _ _ hh _ => ?_⟩
       have h1 := V3_bool.1 (hh x (by simp [ho, Op.operands]) _ hx)
       have h2 := V3_bool.1 (hh y (by simp [ho, Op.operands]) _ hy)
       refine ⟨_, binOp_run ho (eqGuard_plain (.inr (.inl ⟨_, h1⟩))) ?_, V3_bool.2 rfl⟩
       have := run_equalIn_bool (P := P) w 9999 t p q ht
       have : (Op.equal t (.bool p) (.bool q)).run P w = .ok (p == q) w := this
       simp only [binOp, h1, h2, Sem.run_bind, this, Result.andThen_ok, Sem.run_pure, beqb_eq])
    | cases h
end Go.AM
namespace Go.AM
section
variable {P : Program} {T : TypeId → Option TI} {o : Oper} {tm : List AV} {hp : List Blk} {κ : AV → List Blk → R} {r : AV × List Blk}
def StepN (P : Program) (o : Oper) (tm : List AV) (hp : List Blk) (κ : AV → List Blk → R) (r : AV × List Blk) : Prop :=
  ∃ v hp', κ v hp' = some r ∧ OpN P o tm hp v hp'
theorem opnd {g : G} {H : List Blk} {w : World} {a : Act} {x : Operand} {u : AV} (hh : ∀ x ∈ o.op.operands, ∀ u, evD tm x = some u → V3 g H w u (a.eval x))
    (hx : x ∈ o.op.operands) (hu : evD tm x = some u) : V3 g H w u (a.eval x) := hh x hx u hu
def StepP (P : Program) (o : Oper) (tm : List AV) (hp : List Blk) (κ : AV → List Blk → R) (r : AV × List Blk) : Prop :=
  ∃ v, κ v hp = some r ∧ ∀ (a : Act) (w : World) (g : G) (H : List Blk), hp <+: H → (∀ τ, g.dom τ → τ < hp.length ∨ hp.length ≤ τ) → (∀ x ∈ o.op.operands, ∀ u, evD tm x = some u → V3 g H w u (a.eval x)) → Good g H w →
      ∃ vv, (∀ w2 : World, (execOp a.eval o).run P w2 = .ok (.value vv) w2) ∧ V3 g H w v vv
theorem StepP.toN (h : StepP P o tm hp κ r) : StepN P o tm hp κ r := by
  obtain ⟨v, h1, h2⟩ := h
  refine ⟨v, hp, h1, opN_pure fun a w g H q1 q2 q3 q4 => ?_⟩
  obtain ⟨vv, h3, h4⟩ := h2 a w g H q1 q2 q3 q4
  exact ⟨vv, h3 w, h4⟩
theorem move_step {x : Operand} (ho : o.op = .move x) (h : (evK tm x fun v => κ v hp) = some r) : StepN P o tm hp κ r := by
  obtain ⟨v, hv, h⟩ := evK_some h
  exact ⟨v, hp, h, move_ok (.inl ho) hv⟩
theorem pick_step {c x y : Operand} (ho : o.op = .pick c x y) (h : (evK tm c fun
    | .bool t => bif t then evK tm x fun v => κ v hp else evK tm y fun v => κ v hp
    | _ => none) = some r) : StepN P o tm hp κ r := by
  obtain ⟨v, hv, h⟩ := evK_some h
  split at h
  · rename_i t
    have go : ∀ z, z ∈ o.op.operands → (∀ a : Act, (if t then a.eval x else a.eval y) = a.eval z) → (evK tm z fun v => κ v hp) = some r → StepN P o tm hp κ r := by
      intro z hz he h
      obtain ⟨u, hu, h⟩ := evK_some h
      refine ⟨u, hp, h, opN_pure fun a w g H _ _ hh _ => ⟨a.eval z, ?_, hh z hz u hu⟩⟩
      have h1 := V3_bool.1 (hh c (by simp [ho, Op.operands]) _ hv)
      have e := he a
      simp only [execOp, ho, h1, asBool, Sem.run_bind, Sem.run_pure, Result.andThen_ok]
      rw [e]
    rcases cond_some h with ⟨ht, h⟩ | ⟨ht, h⟩
    · exact go x (by simp [ho, Op.operands]) (fun a => by simp [ht]) h
    · exact go y (by simp [ho, Op.operands]) (fun a => by simp [ht]) h
  · cases h
theorem unOp_stepP {op : UnOp} {t : TypeId} {x : Operand} (ho : o.op = .unOp op t x) (h : (evK tm x fun x => match (generalizing := false) op, x with
    | .neg, .int k n => κ (.int k (wr k (isub 0 n))) hp
    | .not, .bool b => κ (.bool (!b)) hp
    | _, _ => none) = some r) : StepP P o tm hp κ r := by
  obtain ⟨v, hv, h⟩ := evK_some h
  split at h
  · refine ⟨_, h, fun a w g H _ _ hh _ => ?_⟩
    have h1 := V3_int.1 (hh x (by simp [ho, Op.operands]) _ hv)
    exact ⟨_, fun w2 => by simp only [execOp, ho, h1, Op.unary, Op.intArith, Sem.run_bind, Sem.run_pure, Result.andThen_ok]; rfl, V3_int.2 (by simp [wr_eq, isub_eq])⟩
  · refine ⟨_, h, fun a w g H _ _ hh _ => ?_⟩
    have h1 := V3_bool.1 (hh x (by simp [ho, Op.operands]) _ hv)
    exact ⟨_, fun w2 => by simp only [execOp, ho, h1, Op.unary, Sem.run_bind, Sem.run_pure, Result.andThen_ok], V3_bool.2 rfl⟩
  · cases h
theorem unOp_step {op : UnOp} {t : TypeId} {x : Operand} (ho : o.op = .unOp op t x) (h : (evK tm x fun x => match (generalizing := false) op, x with
    | .neg, .int k n => κ (.int k (wr k (isub 0 n))) hp
    | .not, .bool b => κ (.bool (!b)) hp
    | _, _ => none) = some r) : StepN P o tm hp κ r := (unOp_stepP ho h).toN
theorem convert_step (hT : TOk P T) {s d : TypeId} {x : Operand} (ho : o.op = .convert s d x) (h : (tyK T s fun _ _ _ _ s => tyK T d fun _ _ _ _ d => evK tm x fun x => match s, d, x with
    | .int _, .int k, .int _ n => κ (.int k (wr k n)) hp
    | .str, .str, .str l => κ (.str l) hp
    | _, _, _ => none) = some r) : StepN P o tm hp κ r := by
  obtain ⟨s1, a1, b1, z1, d1, hs, h⟩ := tyK_some h
  obtain ⟨s2, a2, b2, z2, d2, hd, h⟩ := tyK_some h
  obtain ⟨v, hv, h⟩ := evK_some h
  split at h
  · refine ⟨_, hp, h, opN_pure fun a w g H _ _ hh _ => ?_⟩
    have h1 := V3_int.1 (hh x (by simp [ho, Op.operands]) _ hv)
    obtain ⟨u1, hu1, _, hr1⟩ := (hT _ _ _ _ _ _ hs).underlying (w := w)
    obtain ⟨u2, hu2, _, hr2⟩ := (hT _ _ _ _ _ _ hd).underlying (w := w)
    simp only [DRel] at hr1 hr2
    subst hr1; subst hr2
    exact ⟨_, by simp only [execOp, ho, h1, convert, Conv.intToInt, Sem.run_bind, hu1, hu2, Sem.run_pure, Result.andThen_ok]; rfl, V3_int.2 (by simp [wr_eq])⟩
  · refine ⟨_, hp, h, opN_pure fun a w g H _ _ hh _ => ?_⟩
    have h1 := V3_str.1 (hh x (by simp [ho, Op.operands]) _ hv)
    obtain ⟨u1, hu1, _, hr1⟩ := (hT _ _ _ _ _ _ hs).underlying (w := w)
    obtain ⟨u2, hu2, _, hr2⟩ := (hT _ _ _ _ _ _ hd).underlying (w := w)
    simp only [DRel] at hr1 hr2
    subst hr1; subst hr2
    exact ⟨_, by simp only [execOp, ho, h1, convert, Sem.run_bind, hu1, hu2, Sem.run_pure, Result.andThen_ok], V3_str.2 rfl⟩
  · cases h
theorem All2_get {R : AV → Value → Prop} : ∀ {xs : List AV} {vs : List Value} {i : Nat} {x : AV}, All2 R xs vs → xs[i]? = some x → ∃ v, vs[i]? = some v ∧ R x v
  | [], _, _, _, _, h => by simp at h
  | x :: xs, [], _, _, h, _ => h.elim
  | x :: xs, v :: vs, 0, y, h, hx => by simp at hx; subst hx; exact ⟨v, rfl, h.1⟩
  | x :: xs, v :: vs, i + 1, y, h, hx => by simpa using All2_get (i := i) h.2 (by simpa using hx)
theorem V3_of_V2 {g : G} {H : List Blk} {w : World} {x : AV} {v : Value} (h : V2 g H w x v) : V3 g H w x v := by
  cases x <;> first
    | exact h
    | (simp [V2, V1, PCell] at h)
theorem extract_step {x : Operand} {i : Nat} (ho : o.op = .extract x i) (h : (evK tm x fun
    | .tup vs => getK vs i fun v => κ v hp
    | _ => none) = some r) : StepN P o tm hp κ r := by
  obtain ⟨v, hv, h⟩ := evK_some h
  split at h
  · rename_i vs
    obtain ⟨u, hu, h⟩ := getK_some h
    refine ⟨u, hp, h, opN_pure fun a w g H _ _ hh _ => ?_⟩
    have h1 := hh x (by simp [ho, Op.operands]) _ hv
    obtain ⟨ws, hw, h2⟩ := h1
    obtain ⟨vv, hvv, h3⟩ := All2_get h2 hu
    exact ⟨vv, by simp [execOp, ho, hw, Instr.extract, hvv], V3_of_V2 h3⟩
  · cases h
theorem All2_evs {R : AV → Value → Prop} {a : Act} : ∀ {l : List Operand} {us : List AV}, evsD tm l = some us → (∀ x ∈ l, ∀ u, evD tm x = some u → R u (a.eval x)) → All2 R us (l.map a.eval)
  | [], us, h, _ => by simp [evsD] at h; subst h; trivial
  | x :: l, us, h, hh => by
    simp only [evsD] at h
    obtain ⟨v, hv, h⟩ := Option.bind_eq_some_iff.mp h
    obtain ⟨vs, hvs, h⟩ := Option.bind_eq_some_iff.mp h
    cases h
    exact ⟨hh x (by simp) v hv, All2_evs hvs fun y hy => hh y (by simp [hy])⟩
theorem nilCheck_step {x : Operand} (ho : o.op = .nilCheck x) (h : (evK tm x fun
    | .ptr τ idx off E => κ (.ptr τ idx off E) hp
    | .at v off => κ (.at v off) hp
    | _ => none) = some r) : StepN P o tm hp κ r := by
  obtain ⟨v, hv, h⟩ := evK_some h
  split at h
  · refine ⟨_, hp, h, opN_pure fun a w g H _ _ hh _ => ?_⟩
    have h1 := hh x (by simp [ho, Op.operands]) _ hv
    refine ⟨a.eval x, ?_, h1⟩
    obtain ⟨_, _, b, base, n, _, _, he⟩ := h1
    simp [execOp, ho, he]
  · refine ⟨_, hp, h, opN_pure fun a w g H _ _ hh _ => ?_⟩
    have h1 := hh x (by simp [ho, Op.operands]) _ hv
    refine ⟨a.eval x, ?_, h1⟩
    obtain ⟨b, off, he, _⟩ := h1
    simp [execOp, ho, he]
  · cases h
end
end Go.AM
namespace Go.AM
section
variable {P : Program} {T : TypeId → Option TI} {o : Oper} {tm : List AV} {hp : List Blk} {κ : AV → List Blk → R} {r : AV × List Blk}
theorem field_get {fields : Array Field} {f : Nat} {a : Nat} {ft : TypeId} (h : (fields.toList.map fun f => (f.offset, f.type))[f]? = some (a, ft)) :
    ∃ fl, fields[f]? = some fl ∧ fl.offset = a ∧ fl.type = ft := by
  simp only [List.getElem?_map, Array.getElem?_toList, Option.map_eq_some_iff] at h
  obtain ⟨fl, h1, h2⟩ := h
  cases h2
  exact ⟨fl, h1, rfl, rfl⟩
theorem bytes_get (l : List UInt8) (n : Nat) : (⟨⟨l⟩⟩ : ByteArray)[n]? = l[n]? := by
  show decidableGetElem? (⟨⟨l⟩⟩ : ByteArray) n = _
  unfold decidableGetElem?
  split
  · rename_i h
    have h' : n < l.length := h
    rw [List.getElem?_eq_getElem h']
    rfl
  · rename_i h
    have h' : ¬ n < l.length := h
    rw [List.getElem?_eq_none (by omega)]
theorem fieldAddr_stepP (hT : TOk P T) {t : TypeId} {x : Operand} {f : Nat} (ho : o.op = .fieldAddr t x f) (h : (tyK T t fun _ _ _ _ d => match (generalizing := false) d with
    | .struct offs _ => getK offs f fun (a, ft) => tyK T ft fun fsz _ _ _ _ => bif Nat.beq fsz 0 then none else evK tm x fun
      | .ptr τ idx off E => natK (off + a) fun off => κ (.ptr τ idx off E) hp
      | .at v off => natK (off + a) fun off => κ (.at v off) hp
      | _ => none
    | _ => none) = some r) : StepP P o tm hp κ r := by
  obtain ⟨s1, a1, b1, z1, d1, hs, h⟩ := tyK_some h
  split at h
  · rename_i offs eq
    obtain ⟨⟨a, ft⟩, hof, h⟩ := getK_some h
    obtain ⟨s2, a2, b2, z2, d2, hf, h⟩ := tyK_some h
    rcases cond_some h with ⟨_, h⟩ | ⟨h0, h⟩
    · cases h
    have h0 : s2 ≠ 0 := by intro e; subst e; cases h0
    obtain ⟨v, hv, h⟩ := evK_some h
    have hfl : ∀ (w : World) (ad : Addr), ∃ fields fl, (Go.underlying t).run P w = .ok (.struct fields) w ∧ fields[f]? = some fl ∧ (fieldPlace ad fl).run P w = .ok (ad.add a) w := by
      intro w ad
      obtain ⟨u, hu, _, hr⟩ := (hT _ _ _ _ _ _ hs).underlying (w := w)
      obtain ⟨fields, rfl, hfs⟩ := hr
      obtain ⟨fl, h1, h2, h3⟩ := field_get (hfs ▸ hof)
      refine ⟨fields, fl, hu, h1, ?_⟩
      subst h2; subst h3
      simp [fieldPlace, (hT _ _ _ _ _ _ hf).sizeOf, h0]
    split at h
    · rename_i τ idx off E
      rw [natK_eq] at h
      refine ⟨_, h, fun ac w g H _ _ hh _ => ?_⟩
      have h1 := hh x (by simp [ho, Op.operands]) _ hv
      obtain ⟨hd, hz, b, base, n, h2, h3, he⟩ := h1
      refine ⟨.pointer (some ((⟨b, base + n * E + off, none⟩ : Addr).add a)), fun w2 => ?_, ?_⟩
      · obtain ⟨fields, fl, e1, e2, e3⟩ := hfl w2 ⟨b, base + n * E + off, none⟩
        simp only [execOp, ho, he, Instr.fieldAt, Instr.sureAddr, Sem.run_bind, e1, e2, e3, Result.andThen_ok, Sem.run_pure]
      exact ⟨hd, hz, b, base, n, h2, h3, by simp [Addr.add, Nat.add_assoc]⟩
    · rename_i v' o'
      rw [natK_eq] at h
      refine ⟨_, h, fun ac w g H _ _ hh _ => ?_⟩
      have h1 := hh x (by simp [ho, Op.operands]) _ hv
      obtain ⟨b, off, he, h2, h3⟩ := h1
      refine ⟨.pointer (some ((⟨b, off + o', none⟩ : Addr).add a)), fun w2 => ?_, ?_⟩
      · obtain ⟨fields, fl, e1, e2, e3⟩ := hfl w2 ⟨b, off + o', none⟩
        simp only [execOp, ho, he, Instr.fieldAt, Instr.sureAddr, Sem.run_bind, e1, e2, e3, Result.andThen_ok, Sem.run_pure]
      exact ⟨b, off, by simp [Addr.add, Nat.add_assoc], h2, h3⟩
    · cases h
  · cases h
theorem fieldAddr_step (hT : TOk P T) {t : TypeId} {x : Operand} {f : Nat} (ho : o.op = .fieldAddr t x f) (h : (tyK T t fun _ _ _ _ d => match (generalizing := false) d with
    | .struct offs _ => getK offs f fun (a, ft) => tyK T ft fun fsz _ _ _ _ => bif Nat.beq fsz 0 then none else evK tm x fun
      | .ptr τ idx off E => natK (off + a) fun off => κ (.ptr τ idx off E) hp
      | .at v off => natK (off + a) fun off => κ (.at v off) hp
      | _ => none
    | _ => none) = some r) : StepN P o tm hp κ r :=
  (fieldAddr_stepP hT ho h).toN
theorem index_step (hT : TOk P T) {t : TypeId} {x ix : Operand} (ho : o.op = .index t x ix) (h : (tyK T t fun _ _ _ _ d => match (generalizing := false) d with
    | .str => evK tm x fun
      | .str l => evK tm ix fun
        | .int _ i => gbind (lget l i) fun b => κ (.int .u8 (bchr b)) hp
        | _ => none
      | _ => none
    | _ => none) = some r) : StepN P o tm hp κ r := by
  obtain ⟨s1, a1, b1, z1, d1, hs, h⟩ := tyK_some h
  split at h
  · obtain ⟨v, hv, h⟩ := evK_some h
    split at h
    · rename_i l
      obtain ⟨v', hv', h⟩ := evK_some h
      split at h
      · rename_i k i
        obtain ⟨b, hb, h⟩ := gbind_some h
        refine ⟨_, hp, h, opN_pure fun ac w g H _ _ hh _ => ?_⟩
        have h1 := V3_str.1 (hh x (by simp [ho, Op.operands]) _ hv)
        have h2 := V3_int.1 (hh ix (by simp [ho, Op.operands]) _ hv')
        obtain ⟨u, hu, _, hr⟩ := (hT _ _ _ _ _ _ hs).underlying (w := w)
        simp only [DRel] at hr
        subst hr
        rw [lget_eq] at hb
        have hb' : (if 0 ≤ i then (⟨⟨l⟩⟩ : ByteArray)[i.toNat]? else none) = some b := by
          by_cases h0 : 0 ≤ i
          · simp only [h0, if_true] at hb ⊢
            rw [← hb]
            exact bytes_get l i.toNat
          · simp [h0] at hb
        refine ⟨.int .u8 b.toNat, ?_, V3_int.2 (by simp [bchr_eq])⟩
        simp only [execOp, ho, h1, h2, Instr.index, asIntOf, Sem.run_bind, hu, Sem.run_pure, Result.andThen_ok, hb']
      · cases h
    · cases h
  · cases h
theorem PRows_get {S Sl : Nat → Prop} {w : World} {E : Nat} : ∀ {xs : List AV} {b off i : Nat} {x : AV}, PRows S Sl w E xs b off → xs[i]? = some x → PElem F0 Sl w E x b (off + i * E)
  | [], _, _, _, _, _, h => by simp at h
  | y :: xs, b, off, 0, x, h, hx => by
    simp at hx; subst hx
    simpa using (PRows_cons.1 h).1
  | y :: xs, b, off, i + 1, x, h, hx => by
    have := PRows_get (i := i) (PRows_cons.1 h).2 (by simpa using hx)
    rw [Nat.succ_mul]
    rw [show off + (i * E + E) = off + E + i * E by omega]
    exact this
theorem beq_eq {a b : Nat} (h : Nat.beq a b = true) : a = b := Nat.eq_of_beq_eq_true h
theorem beqE_some {α : Type} {a b : Nat} {x : Option α} {r : α} (h : (bif Nat.beq a b then x else none) = some r) : a = b ∧ x = some r := by
  obtain ⟨h1, h2⟩ := cond_none h
  exact ⟨beq_eq h1, h2⟩
theorem prefix_get {α : Type} {xs ys : List α} {n : Nat} {x : α} (h : xs <+: ys) (hx : xs[n]? = some x) : ys[n]? = some x := by
  obtain ⟨zs, rfl⟩ := h
  rw [List.getElem?_append_left (List.getElem?_eq_some_iff.1 hx).1]
  exact hx
theorem addr_add (b k n : Nat) : (⟨b, k, none⟩ : Addr).add n = ⟨b, k + n, none⟩ := by
  simp only [Addr.add]
  split <;> simp_all
theorem lget_some {α : Type} {xs : List α} {i : Int} {x : α} (h : lget xs i = some x) : 0 ≤ i ∧ i.toNat < xs.length ∧ xs[i.toNat]? = some x := by
  rw [lget_eq] at h
  by_cases h0 : 0 ≤ i
  · simp only [h0, if_true] at h
    exact ⟨h0, (List.getElem?_eq_some_iff.1 h).1, h⟩
  · simp [h0] at h
end
end Go.AM
namespace Go.AM
section
variable {P : Program} {T : TypeId → Option TI} {o : Oper} {tm : List AV} {hp : List Blk} {κ : AV → List Blk → R} {r : AV × List Blk}
theorem indexAt_run {w : World} {t e : TypeId} {E : Nat} {k : IntKind} {i : Int} {ad : Addr} {l c : Nat} (hu : (Go.underlying t).run P w = .ok (.slice e) w)
    (hs : (Go.sizeOf e).run P w = .ok E w) (h0 : 0 ≤ i) (h1 : i < l) :
    (Instr.indexAt t (.slice (some ad) l c) (.int k i)).run P w = .ok (.pointer (some (ad.add (i.toNat * E)))) w := by
  simp [Instr.indexAt, asIntOf, hu, hs, h0, h1]
theorem indexAddr_stepP (hT : TOk P T) {t : TypeId} {x ix : Operand} (ho : o.op = .indexAddr t x ix) (h : (tyK T t fun _ _ _ _ d => match (generalizing := false) d with
    | .slice e => tyK T e fun E _ _ _ _ => evK tm ix fun
      | .int _ i => evK tm x fun
        | .lst _ _ E' xs => bif Nat.beq E E' then gbind (lget xs i) fun x => κ (.at x 0) hp else none
        | .own τ E' r _ => bif Nat.beq E E' then getK hp τ fun
          | .rows m E'' xs => bif Nat.beq E E'' then
              match (generalizing := false) r with
              | none => match (generalizing := false) m with
                | .dead => none
                | _ => bif ile 0 i && ilt i (ilen xs) then κ (.ptr τ i 0 E) hp else none
              | some (o, l) => bif ile 0 i && ilt i l then κ (.ptr τ (iadd o i) 0 E) hp else none
              else none
          | _ => none
          else none
        | _ => none
      | _ => none
    | _ => none) = some r) : StepP P o tm hp κ r := by
  obtain ⟨s1, a1, b1, z1, d1, hs, h⟩ := tyK_some h
  split at h
  case h_2 => cases h
  rename_i e
  obtain ⟨E, a2, b2, z2, d2, he, h⟩ := tyK_some h
  obtain ⟨vi, hvi, h⟩ := evK_some h
  split at h
  case h_2 => cases h
  rename_i k i
  obtain ⟨vx, hvx, h⟩ := evK_some h
  have hu : ∀ w : World, (Go.underlying t).run P w = .ok (.slice e) w := fun w => by
    obtain ⟨u, hu, _, hr⟩ := (hT _ _ _ _ _ _ hs).underlying (w := w)
    simp only [DRel] at hr
    subst hr
    exact hu
  have hz : ∀ w : World, (Go.sizeOf e).run P w = .ok E w := fun w => (hT _ _ _ _ _ _ he).sizeOf
  split at h
  · rename_i oo cc E' xs
    obtain ⟨rfl, h'⟩ := beqE_some h
    obtain ⟨y, hy, h⟩ := gbind_some h'
    obtain ⟨h0, h1, h2⟩ := lget_some hy
    refine ⟨_, h, fun a w g H _ _ hh hg => ?_⟩
    have hi := V3_int.1 (hh ix (by simp [ho, Op.operands]) _ hvi)
    have hx := hh x (by simp [ho, Op.operands]) _ hvx
    simp only [V3, V2, V1, PCell] at hx
    obtain ⟨A, cap, hv, hcap, hc, hor⟩ := hx
    rcases hor with rfl | ⟨b, off, hA, hS, hR⟩
    · simp at h1
    · subst hA
      have hSb : g.S b := by
        cases oo
        · exact hg.sub b (by simpa using hS)
        · simpa using hS
      refine ⟨.pointer (some ⟨b, off + i.toNat * E, none⟩), fun w => ?_, ?_⟩
      · have := indexAt_run (P := P) (w := w) (k := k) (ad := ⟨b, off, none⟩) (l := xs.length) (c := cap) (hu w) (hz w) h0 (by omega)
        simp only [execOp, ho, hi, hv, Sem.run_bind, this, Result.andThen_ok, Sem.run_pure, addr_add]
      · exact ⟨b, off + i.toNat * E, by simp, hSb, rfl, (PRows_get hR h2).2.weak⟩
  · rename_i τ E' rr cc
    obtain ⟨rfl, h'⟩ := beqE_some h
    obtain ⟨blk, hb, h2⟩ := getK_some h'
    split at h2
    case h_2 => cases h2
    rename_i m E'' xs
    obtain ⟨rfl, h3⟩ := beqE_some h2
    have fin : ∀ (a : Act) (w : World) (g : G) (H : List Blk) (o' l' : Nat), V3 g H w (.own τ E rr cc) (a.eval x) → (∀ b base, g.ρ τ = some (b, base) → ∃ cap, a.eval x = .slice (some ⟨b, base + o' * E, none⟩) l' cap) →
        (g.ρ τ = none → False) → H[τ]? = some (.rows m E xs) → a.eval ix = .int k i → 0 ≤ i → i < l' → ∀ j : Int, j = (o' : Int) + i →
        ∃ vv, (∀ w2 : World, (execOp a.eval o).run P w2 = .ok (.value vv) w2) ∧ V3 g H w (.ptr τ j 0 E) vv := by
      intro a w g H o' l' hx hsl hn hbH hi h0 h1 j hj
      cases hρ : g.ρ τ with
      | none => exact (hn hρ).elim
      | some p =>
        obtain ⟨b, base⟩ := p
        obtain ⟨cap, hv⟩ := hsl b base hρ
        refine ⟨.pointer (some ((⟨b, base + o' * E, none⟩ : Addr).add (i.toNat * E))), fun w2 => ?_, ?_⟩
        · have := indexAt_run (P := P) (w := w2) (k := k) (ad := ⟨b, base + o' * E, none⟩) (l := l') (c := cap) (hu w2) (hz w2) h0 h1
          simp only [execOp, ho, hi, hv, Sem.run_bind, this, Result.andThen_ok, Sem.run_pure]
        refine ⟨hx.1, fun y hy => (by rw [hbH] at hy; cases hy), b, base, o' + i.toNat, hρ, by omega, ?_⟩
        simp [Addr.add, Nat.add_mul, Nat.add_assoc]
    split at h3
    · split at h3
      · cases h3
      · rename_i hm
        obtain ⟨hb2, h4⟩ := cond_none h3
        simp only [ile_eq, ilt_eq, ilen_eq, Bool.and_eq_true, decide_eq_true_eq] at hb2
        refine ⟨_, h4, fun a w g H hH _ hh hg => ?_⟩
        have hi := V3_int.1 (hh ix (by simp [ho, Op.operands]) _ hvi)
        have hx := hh x (by simp [ho, Op.operands]) _ hvx
        have hbH : H[τ]? = some (.rows m E xs) := prefix_get hH hb
        have hx' := hx.2
        refine fin a w g H 0 xs.length hx ?_ ?_ hbH hi hb2.1 (by omega) i (by simp)
        · intro b base hρ
          simp only [hρ] at hx'
          obtain ⟨k2, o2, l2, cap, hv, hk2, hcap, _, _, _, ho2, hl2⟩ := hx'
          have := hl2 m E xs hbH (fun e => hm e)
          subst ho2; subst this
          rcases hk2 with rfl | hk2
          · exact ⟨cap, hv⟩
          · omega
        · intro hρ
          simp only [hρ] at hx'
          have := hx'.2 m E xs hbH (fun e => hm e)
          omega
    · rename_i o1 l1
      obtain ⟨hb2, h4⟩ := cond_none h3
      simp only [ile_eq, ilt_eq, Bool.and_eq_true, decide_eq_true_eq] at hb2
      refine ⟨_, h4, fun a w g H hH _ hh hg => ?_⟩
      have hi := V3_int.1 (hh ix (by simp [ho, Op.operands]) _ hvi)
      have hx := hh x (by simp [ho, Op.operands]) _ hvx
      have hx' := hx.2
      cases hρ : g.ρ τ with
      | none =>
        simp only [hρ] at hx'
        have := hx'.2
        omega
      | some p =>
        simp only [hρ] at hx'
        obtain ⟨k2, o2, l2, cap, hv, hk2, hcap, _, _, _, ho2, hl2, _⟩ := hx'
        subst ho2; subst hl2
        have hk2 := hk2.resolve_right (by omega)
        subst hk2
        refine fin a w g H o2 l2 hx (fun b base h0 => ?_) (fun h0 => by rw [hρ] at h0; cases h0) (prefix_get hH hb) hi hb2.1 (by omega) _ (by rw [iadd_eq])
        rw [hρ] at h0
        cases h0
        exact ⟨cap, hv⟩
  · cases h
theorem indexAddr_step (hT : TOk P T) {t : TypeId} {x ix : Operand} (ho : o.op = .indexAddr t x ix) (h : (tyK T t fun _ _ _ _ d => match (generalizing := false) d with
    | .slice e => tyK T e fun E _ _ _ _ => evK tm ix fun
      | .int _ i => evK tm x fun
        | .lst _ _ E' xs => bif Nat.beq E E' then gbind (lget xs i) fun x => κ (.at x 0) hp else none
        | .own τ E' r _ => bif Nat.beq E E' then getK hp τ fun
          | .rows m E'' xs => bif Nat.beq E E'' then
              match (generalizing := false) r with
              | none => match (generalizing := false) m with
                | .dead => none
                | _ => bif ile 0 i && ilt i (ilen xs) then κ (.ptr τ i 0 E) hp else none
              | some (o, l) => bif ile 0 i && ilt i l then κ (.ptr τ (iadd o i) 0 E) hp else none
              else none
          | _ => none
          else none
        | _ => none
      | _ => none
    | _ => none) = some r) : StepN P o tm hp κ r :=
  (indexAddr_stepP hT ho h).toN
end
end Go.AM
namespace Go.AM
section
variable {P : Program} {T : TypeId → Option TI} {o : Oper} {tm : List AV} {hp : List Blk} {κ : AV → List Blk → R} {r : AV × List Blk}
theorem V1_of_PCell {g : G} {H : List Blk} {w : World} {x : AV} {v : Value} (h : PCell g.S g.Sl w x v) : V1 g H w x v := by
  cases x <;> first
    | exact h
    | (simp [PCell] at h)
theorem V1s_of_PCells {g : G} {H : List Blk} {w : World} : ∀ {cs : List AV} {b k : Nat}, PCells g.S g.Sl w cs b k → V1s g H w cs b k
  | [], _, _, _ => trivial
  | _ :: _, _, _, ⟨⟨v, hv, h⟩, hr⟩ => ⟨⟨v, hv, V1_of_PCell h⟩, V1s_of_PCells hr⟩
theorem V1s_get {g : G} {H : List Blk} {w : World} : ∀ {cs : List AV} {b k i : Nat} {x : AV}, V1s g H w cs b k → cs[i]? = some x → ∃ v, w.cell? ⟨b, k + i, none⟩ = some v ∧ V1 g H w x v
  | [], _, _, _, _, _, h => by simp at h
  | y :: cs, b, k, 0, x, h, hx => by
    simp at hx; subst hx; simpa using h.1
  | y :: cs, b, k, i + 1, x, h, hx => by
    have := V1s_get (i := i) h.2 (by simpa using hx)
    rwa [show k + (i + 1) = k + 1 + i by omega]
theorem V1s_all {g : G} {H : List Blk} {w : World} : ∀ {cs : List AV} {b k : Nat}, V1s g H w cs b k → ∃ vs : List Value, All2 (V1 g H w) cs vs ∧ vs.length = cs.length ∧ ∀ (j : Nat) v, vs[j]? = some v → w.cell? ⟨b, k + j, none⟩ = some v
  | [], _, _, _ => ⟨[], trivial, rfl, fun j v h => by simp at h⟩
  | c :: cs, b, k, ⟨⟨v, hv, h⟩, hr⟩ => by
    obtain ⟨vs, h1, h2, h3⟩ := V1s_all hr
    refine ⟨v :: vs, ⟨h, h1⟩, by simp [h2], fun j u hj => ?_⟩
    cases j with
    | zero => simp at hj; subst hj; simpa using hv
    | succ j => rw [show k + (j + 1) = k + 1 + j by omega]; exact h3 j u (by simpa using hj)
theorem V1s_drop {g : G} {H : List Blk} {w : World} : ∀ {n : Nat} {cs : List AV} {b k : Nat}, V1s g H w cs b k → V1s g H w (cs.drop n) b (k + n)
  | 0, _, _, _, h => h
  | n + 1, [], _, _, _ => trivial
  | n + 1, c :: cs, b, k, h => by
    have := V1s_drop (n := n) h.2
    rwa [show k + (n + 1) = k + 1 + n by omega]
theorem V1s_take {g : G} {H : List Blk} {w : World} : ∀ {n : Nat} {cs : List AV} {b k : Nat}, V1s g H w cs b k → V1s g H w (cs.take n) b k
  | 0, _, _, _, _ => by simp [V1s]
  | n + 1, [], _, _, _ => trivial
  | n + 1, c :: cs, b, k, h => ⟨h.1, V1s_take h.2⟩
theorem loadCells_run {w : World} {b k : Nat} {vs : List Value} (h : ∀ (j : Nat) v, vs[j]? = some v → w.cell? ⟨b, k + j, none⟩ = some v) :
    (loadCells ⟨b, k, none⟩ vs.length).run P w = .ok vs.toArray w :=
  run_loadCells_list w ⟨b, k, none⟩ vs fun j v hj => by rw [addr_add]; exact h j v hj
theorem V3_of_V1 {g : G} {H : List Blk} {w : World} {x : AV} {v : Value} (h : V1 g H w x v) : V3 g H w x v := by
  cases x <;> first
    | exact h
    | (simp [V1, PCell] at h)
def Same (b : Nat) (w w2 : World) : Prop := w2.heap[b]? = w.heap[b]?
theorem Same.cell {b : Nat} {w w2 : World} (h : Same b w w2) {k : Nat} {v : Value} (hc : w.cell? ⟨b, k, none⟩ = some v) : w2.cell? ⟨b, k, none⟩ = some v := by
  rw [← hc]
  unfold Same at h
  simp [World.cell?, h]
theorem load_agg {g : G} {H : List Blk} {w : World} {t : TypeId} {sz by_ : Nat} {z : AV} {d : TD} (ht : TRel P t sz true by_ z d) {cs : List AV} {b k : Nat}
    (h : V1s g H w cs b k) (hl : cs.length = sz) : ∃ vv, (∀ w2, Same b w w2 → (loadVar t ⟨b, k, none⟩).run P w2 = .ok vv w2) ∧ V3 g H w (.agg cs) vv := by
  obtain ⟨vs, h1, h2, h3⟩ := V1s_all h
  refine ⟨.agg ⟨vs⟩, fun w2 hs => ?_, vs, rfl, h1⟩
  have := loadCells_run (P := P) (w := w2) fun j v hj => hs.cell (h3 j v hj)
  rw [h2, hl] at this
  simp [loadVar, ht.isAgg, ht.sizeOf, this]
theorem load_one {g : G} {H : List Blk} {w : World} {t : TypeId} {sz by_ : Nat} {z : AV} {d : TD} (ht : TRel P t sz false by_ z d) {x : AV} {b k : Nat} {v : Value}
    (h : w.cell? ⟨b, k, none⟩ = some v) (hv : V1 g H w x v) : ∃ vv, (∀ w2, Same b w w2 → (loadVar t ⟨b, k, none⟩).run P w2 = .ok vv w2) ∧ V3 g H w x vv :=
  ⟨v, fun w2 hs => by simp [loadVar, ht.isAgg, hs.cell h], V3_of_V1 hv⟩
theorem part_load {v : AV} {sz off : Nat} {ag : Bool} {κ : AV → R} (h : partK sz ag v off κ = some r) : ∃ u, κ u = some r ∧
    ∀ (g : G) (H : List Blk) (w : World) (t : TypeId) (by_ : Nat) (z : AV) (d : TD) (b k : Nat), TRel P t sz ag by_ z d → V1s g H w (cells v) b k →
      ∃ vv, (∀ w2, Same b w w2 → (loadVar t ⟨b, k + off, none⟩).run P w2 = .ok vv w2) ∧ V3 g H w u vv := by
  unfold partK at h
  split at h
  · rename_i cs
    rcases cond_some h with ⟨h0, h'⟩ | ⟨h0, h⟩
    · simp only [Bool.and_eq_true] at h0
      have e1 := beq_eq h0.1
      have e2 := beq_eq h0.2
      subst e1
      exact ⟨_, h', fun g H w t by_ z d b k ht hv => load_agg ht hv e2.symm⟩
    · obtain ⟨h1, h⟩ := dropK_some h
      obtain ⟨h2, h⟩ := takeK_some h
      exact ⟨_, h, fun g H w t by_ z d b k ht hv => load_agg ht (V1s_take (V1s_drop hv)) (by simp at h2 ⊢; omega)⟩
  · obtain ⟨x, hx, h⟩ := getK_some h
    refine ⟨_, h, fun g H w t by_ z d b k ht hv => ?_⟩
    obtain ⟨v, hc, hv⟩ := V1s_get hv hx
    exact load_one ht hc hv
  · cases h
  · cases h
  · cases h
  · rename_i h1 h2 h3 h4
    obtain ⟨h0, h'⟩ := cond_none h
    have e1 := beq_eq h0
    subst e1
    refine ⟨_, h', fun g H w t by_ z d b k ht hv => ?_⟩
    have hc : cells v = [v] := by
      cases v <;> first
        | rfl
        | exact absurd rfl (h1 _)
    rw [hc] at hv
    obtain ⟨⟨u, hu, hv⟩, _⟩ := hv
    exact load_one ht hu hv
  · cases h
def Prot (g : G) (w : World) (q : Option Nat) (b : Nat) : Prop := b < w.heap.size ∧ (g.S b ∨ ∃ τ o, q = some τ ∧ g.dom τ ∧ g.ρ τ = some (b, o))
def StepE (P : Program) (q : Option (Option Nat)) (o : Oper) (tm : List AV) (hp : List Blk) (κ : AV → List Blk → R) (r : AV × List Blk) : Prop :=
  ∃ v, κ v hp = some r ∧ ∀ (a : Act) (w : World) (g : G) (H : List Blk), hp <+: H → (∀ x ∈ o.op.operands, ∀ u, evD tm x = some u → V3 g H w u (a.eval x)) → Good g H w →
    ∃ vv, (∀ w2, (∀ q', q = some q' → ∀ b, Prot g w q' b → Same b w w2) → (execOp a.eval o).run P w2 = .ok (.value vv) w2) ∧ V3 g H w v vv
theorem StepE.toN {q : Option (Option Nat)} (h : StepE P q o tm hp κ r) : StepN P o tm hp κ r := by
  obtain ⟨v, h1, h2⟩ := h
  refine ⟨v, hp, h1, opN_pure fun a w g H hH _ hh hg => ?_⟩
  obtain ⟨vv, h3, h4⟩ := h2 a w g H hH hh hg
  exact ⟨vv, h3 w fun _ _ _ _ => rfl, h4⟩
def ptrQ : AV → Option Nat
  | .ptr τ _ _ _ => some τ
  | _ => none
theorem load_stepE (hT : TOk P T) {t : TypeId} {x : Operand} (ho : o.op = .load t x) (h : (tyK T t fun sz ag _ _ _ => evK tm x fun
    | .ptr τ idx off E => getK hp τ fun
      | .box v => partK sz ag v off fun v => κ v hp
      | .rows m E' xs => bif Nat.beq E E' then match (generalizing := false) m with
        | .dead => none
        | _ => gbind (lget xs idx) fun x => partK sz ag x off fun v => κ v hp
        else none
    | .at v off => partK sz ag v off fun v => κ v hp
    | _ => none) = some r) : ∃ v, evD tm x = some v ∧ StepE P (some (ptrQ v)) o tm hp κ r := by
  obtain ⟨sz, ag, b1, z1, d1, hs, h⟩ := tyK_some h
  obtain ⟨v, hv, h⟩ := evK_some h
  refine ⟨v, hv, ?_⟩
  have go : ∀ {y : AV} {off : Nat}, (partK sz ag y off fun v => κ v hp) = some r →
      (∀ (a : Act) (w : World) (g : G) (H : List Blk), hp <+: H → V3 g H w v (a.eval x) → Good g H w → ∃ b k, a.eval x = .pointer (some ⟨b, k + off, none⟩) ∧ V1s g H w (cells y) b k ∧ Prot g w (ptrQ v) b) → StepE P (some (ptrQ v)) o tm hp κ r := by
    intro y off hp1 hq
    obtain ⟨u, hu, h3⟩ := part_load hp1
    refine ⟨u, hu, fun a w g H hH hh hg => ?_⟩
    obtain ⟨b, k, he, hc, hpr⟩ := hq a w g H hH (hh x (by simp [ho, Op.operands]) _ hv) hg
    obtain ⟨vv, h4, h5⟩ := h3 g H w t b1 z1 d1 b k (hT _ _ _ _ _ _ hs) hc
    exact ⟨vv, fun w2 hs => by simp only [execOp, ho, he, Instr.loadAt, Instr.sureAddr, Sem.run_bind, Sem.run_pure, Result.andThen_ok, h4 w2 (hs _ rfl b hpr)], h5⟩
  split at h
  · rename_i τ idx off E
    obtain ⟨blk, hb, h⟩ := getK_some h
    split at h
    · rename_i y
      refine go h fun a w g H hH hx hg => ?_
      obtain ⟨hd, hz, b, base, n, h1, h2, h3⟩ := hx
      obtain ⟨blk', h4, h5⟩ := hg.tok τ hd
      rw [prefix_get hH hb] at h4
      cases h4
      obtain ⟨b', o', h6, _, hun, h7⟩ := h5
      rw [h1] at h6
      cases h6
      have h8 := hz _ (prefix_get hH hb)
      have h9 : n = 0 := by omega
      subst h9
      exact ⟨b, base, by simpa using h3, h7, hun.lt, .inr ⟨τ, _, rfl, hd, h1⟩⟩
    · rename_i m E' xs
      obtain ⟨rfl, h'⟩ := beqE_some h
      split at h'
      · cases h'
      · rename_i hm
        obtain ⟨y, hy, h2⟩ := gbind_some h'
        refine go h2 fun a w g H hH hx hg => ?_
        obtain ⟨hd, _, b, base, n, h1, hn, h3⟩ := hx
        obtain ⟨blk', h4, h5⟩ := hg.tok τ hd
        rw [prefix_get hH hb] at h4
        cases h4
        obtain ⟨h0, _, hy⟩ := lget_some hy
        have hun : Unf w b 0 := by
          cases m with
          | dead => exact absurd rfl hm
          | live =>
            rcases h5 with ⟨h6, _⟩ | ⟨b', o', h6, _, h8, h7⟩
            · rw [h1] at h6; cases h6
            · rw [h1] at h6; cases h6; exact h8
          | frozen =>
            rcases h5 with ⟨h6, _⟩ | ⟨b', o', h6, _, h8, h7⟩
            · rw [h1] at h6; cases h6
            · rw [h1] at h6; cases h6; exact h8
        refine ⟨b, base + n * E, h3, V1s_of_PCells ?_, hun.lt, .inr ⟨τ, _, rfl, hd, h1⟩⟩
        have hn' : idx.toNat = n := by omega
        rw [hn'] at hy
        cases m with
        | dead => exact absurd rfl hm
        | live =>
          rcases h5 with ⟨h6, _⟩ | ⟨b', o', h6, _, _, h7⟩
          · rw [h1] at h6; cases h6
          · rw [h1] at h6; cases h6; exact (PRows_get h7 hy).2.weak
        | frozen =>
          rcases h5 with ⟨h6, _⟩ | ⟨b', o', h6, _, _, h7⟩
          · rw [h1] at h6; cases h6
          · rw [h1] at h6; cases h6; exact (PRows_get h7 hy).2.weak
  · rename_i y off
    refine go h fun a w g H hH hx hg => ?_
    obtain ⟨b, k, h1, hS, h2⟩ := hx
    exact ⟨b, k, h1, V1s_of_PCells h2.2, hg.lt b hS, .inl hS⟩
  · cases h
theorem load_step (hT : TOk P T) {t : TypeId} {x : Operand} (ho : o.op = .load t x) (h : (tyK T t fun sz ag _ _ _ => evK tm x fun
    | .ptr τ idx off E => getK hp τ fun
      | .box v => partK sz ag v off fun v => κ v hp
      | .rows m E' xs => bif Nat.beq E E' then match (generalizing := false) m with
        | .dead => none
        | _ => gbind (lget xs idx) fun x => partK sz ag x off fun v => κ v hp
        else none
    | .at v off => partK sz ag v off fun v => κ v hp
    | _ => none) = some r) : StepN P o tm hp κ r :=
  let ⟨_, _, h⟩ := load_stepE hT ho h
  h.toN
end
end Go.AM
namespace Go.AM
section
variable {P : Program} {T : TypeId → Option TI} {o : Oper} {tm : List AV} {hp : List Blk} {κ : AV → List Blk → R} {r : AV × List Blk}
theorem builtin_run {a : Act} {w : World} {c : Call} {b : Builtin} (ho : o.op = .call c) (hc : c.callee = .builtin b) {x : Result Next}
    (h : (builtin b c.argTypes o.type (c.args.map fun | .const _ => true | _ => false) (c.args.map a.eval)).run P w = x) : (execOp a.eval o).run P w = x := by
  simp only [execOp, ho, resolve, hc, Sem.run_bind, Sem.run_pure, Result.andThen_ok, invoke]
  exact h
theorem All2_one {R : AV → Value → Prop} {x : AV} {vs : List Value} (h : All2 R [x] vs) : ∃ v, vs = [v] ∧ R x v := by
  match vs, h with
  | [v], h => exact ⟨v, rfl, h.1⟩
theorem args_rel {c : Call} (ho : o.op = .call c) {us : List AV} (hu : evsD tm c.args.toList = some us) {g : G} {H : List Blk} {w : World} {a : Act}
    (hh : ∀ x ∈ o.op.operands, ∀ u, evD tm x = some u → V3 g H w u (a.eval x)) : All2 (V3 g H w) us (c.args.map a.eval).toList := by
  rw [Array.toList_map]
  exact All2_evs hu fun x hx u h => hh x (by rw [ho]; simp [Op.operands, Call.operands]; exact .inr (by simpa using hx)) u h
theorem len_step (hT : TOk P T) {c : Call} (ho : o.op = .call c) (hc : c.callee = .builtin .len) (h : (match c.argTypes.toList with
      | [t] => tyK T t fun _ _ _ _ d => evsK tm c.args.toList fun as => match (generalizing := false) d with
        | .slice _ => lenSlK hp as fun n => κ (.int .i64 n) hp
        | .str => match (generalizing := false) as with
          | [.str l] => κ (.int .i64 (ilen l)) hp
          | _ => none
        | _ => none
      | _ => none) = some r) : StepN P o tm hp κ r := by
  split at h
  case h_2 => cases h
  rename_i t ht
  obtain ⟨s1, a1, b1, z1, d1, hs, h⟩ := tyK_some h
  obtain ⟨us, hus, h⟩ := evsK_some h
  have hat : c.argTypes = #[t] := by rw [← Array.toList_inj]; exact ht
  split at h
  · rename_i e
    have key : ∃ n, κ (.int .i64 n) hp = some r ∧ ∀ (a : Act) (w : World) (g : G) (H : List Blk), hp <+: H → All2 (V3 g H w) us (c.args.map a.eval).toList →
        ∃ A cap m, (c.args.map a.eval).toList = [.slice A m cap] ∧ (m : Int) = n := by
      unfold lenSlK at h
      split at h
      · rename_i oo cc E xs
        refine ⟨_, h, fun a w g H _ hr => ?_⟩
        obtain ⟨v, hv, h1⟩ := All2_one hr
        simp only [V3, V2, V1, PCell] at h1
        obtain ⟨A, cap, rfl, _⟩ := h1
        exact ⟨A, cap, _, hv, by rw [ilen_eq]⟩
      · refine ⟨_, h, fun a w g H _ hr => ?_⟩
        obtain ⟨v, hv, h1⟩ := All2_one hr
        simp only [V3, V2, V1, PCell] at h1
        obtain ⟨A, rfl⟩ := h1
        exact ⟨A, 0, 0, hv, rfl⟩
      · rename_i τ E cc
        obtain ⟨blk, hb, h2⟩ := getK_some h
        have hm : ∃ m E' xs, blk = .rows m E' xs ∧ m ≠ .dead ∧ κ (.int .i64 (ilen xs)) hp = some r := by
          split at h2
          · cases h2
          · rename_i m E' xs hne
            exact ⟨m, E', xs, rfl, fun e => hne (by rw [e]), h2⟩
          · cases h2
        obtain ⟨m, E', xs, rfl, hm, h3⟩ := hm
        refine ⟨_, h3, fun a w g H hH hr => ?_⟩
        obtain ⟨v, hv, h1⟩ := All2_one hr
        have hbH := prefix_get hH hb
        obtain ⟨hd, h4⟩ := h1
        cases hρ : g.ρ τ with
        | none =>
          simp only [hρ] at h4
          obtain ⟨⟨A, rfl⟩, hl⟩ := h4
          have := hl m E' xs hbH hm
          exact ⟨A, 0, 0, hv, by rw [ilen_eq]; omega⟩
        | some p =>
          simp only [hρ] at h4
          obtain ⟨k', o', l, cap, rfl, _, _, _, _, _, _, hl⟩ := h4
          have := hl m E' xs hbH hm
          exact ⟨_, cap, l, hv, by rw [ilen_eq]; omega⟩
      · rename_i τ E o1 l1 cc
        refine ⟨_, h, fun a w g H hH hr => ?_⟩
        obtain ⟨v, hv, h1⟩ := All2_one hr
        obtain ⟨hd, h4⟩ := h1
        cases hρ : g.ρ τ with
        | none =>
          simp only [hρ] at h4
          obtain ⟨⟨A, rfl⟩, hl⟩ := h4
          exact ⟨A, 0, 0, hv, by omega⟩
        | some p =>
          simp only [hρ] at h4
          obtain ⟨k', o', l, cap, rfl, _, _, _, _, _, _, hl, _⟩ := h4
          exact ⟨_, cap, l, hv, by omega⟩
      · cases h
    obtain ⟨n, hk, hall⟩ := key
    refine ⟨_, hp, hk, opN_pure fun a w g H hH _ hh _ => ?_⟩
    obtain ⟨A, cap, m, hv, hm⟩ := hall a w g H hH (args_rel ho hus hh)
    have hv' : c.args.map a.eval = #[.slice A m cap] := by rw [← Array.toList_inj]; exact hv
    obtain ⟨u, hu, _, hr⟩ := (hT _ _ _ _ _ _ hs).underlying (w := w)
    simp only [DRel] at hr
    subst hr
    refine ⟨.int .i64 m, builtin_run ho hc ?_, V3_int.2 (by rw [hm])⟩
    simp [builtin, Builtin.len_, hat, hv', hu, goInt]
  · split at h
    · rename_i l
      refine ⟨_, hp, h, opN_pure fun a w g H hH _ hh _ => ?_⟩
      obtain ⟨v, hv, h1⟩ := All2_one (args_rel ho hus hh)
      have h1 := V3_str.1 h1
      subst h1
      have hv' : c.args.map a.eval = #[.string ⟨⟨l⟩⟩] := by rw [← Array.toList_inj]; exact hv
      obtain ⟨u, hu, _, hr⟩ := (hT _ _ _ _ _ _ hs).underlying (w := w)
      simp only [DRel] at hr
      subst hr
      refine ⟨.int .i64 l.length, builtin_run ho hc ?_, V3_int.2 (by rw [ilen_eq])⟩
      simp [builtin, Builtin.len_, hat, hv', hu, goInt]
      rfl
    · cases h
  · cases h
theorem cap_step (hT : TOk P T) {c : Call} (ho : o.op = .call c) (hc : c.callee = .builtin .cap) (h : (match c.argTypes.toList with
      | [t] => tyK T t fun _ _ _ _ d => evsK tm c.args.toList fun as => match (generalizing := false) d with
        | .slice _ => match as with
          | [.nil] => κ (.int .i64 0) hp
          | _ => none
        | _ => none
      | _ => none) = some r) : StepN P o tm hp κ r := by
  split at h
  case h_2 => cases h
  rename_i t hat0
  obtain ⟨s1, a1, b1, z1, d1, hs, h⟩ := tyK_some h
  obtain ⟨us, hus, h⟩ := evsK_some h
  split at h
  case h_2 => cases h
  split at h
  case h_2 => cases h
  have hat : c.argTypes = #[t] := by rw [← Array.toList_inj]; exact hat0
  refine ⟨_, hp, h, opN_pure fun a w g H hH _ hh _ => ?_⟩
  obtain ⟨v, hv, h1⟩ := All2_one (args_rel ho hus hh)
  simp only [V3, V2, V1, PCell] at h1
  obtain ⟨A, rfl⟩ := h1
  have hv' : c.args.map a.eval = #[.slice A 0 0] := by rw [← Array.toList_inj]; exact hv
  obtain ⟨u, hu, _, hr⟩ := (hT _ _ _ _ _ _ hs).underlying (w := w)
  simp only [DRel] at hr
  subst hr
  refine ⟨.int .i64 0, builtin_run ho hc ?_, V3_int.2 rfl⟩
  simp [builtin, Builtin.cap_, hat, hv', hu, goInt]
theorem foldMM_some {f : Int → Int → Int} {κ : Int → R} {r : AV × List Blk} {k : IntKind} {M : Value → Value → Sem Value}
    (hM : ∀ (k' : IntKind) (x y : Int) (w : World), (M (.int k x) (.int k' y)).run P w = .ok (.int k (f x y)) w) : ∀ {l : List AV} {a : Int}, foldMM f l a κ = some r →
      ∃ n, κ n = some r ∧ ∀ (g : G) (H : List Blk) (w : World) (vs : List Value), All2 (V3 g H w) l vs → (vs.foldlM M (.int k a)).run P w = .ok (.int k n) w
  | [], a, h => ⟨a, h, fun g H w vs hv => by cases vs with | nil => simp | cons v vs => exact hv.elim⟩
  | x :: l, a, h => by
    unfold foldMM at h
    split at h
    · rename_i e; cases e
    · rename_i k' b l' e
      cases e
      obtain ⟨n, hn, hr⟩ := foldMM_some hM h
      refine ⟨n, hn, fun g H w vs hv => ?_⟩
      cases vs with
      | nil => exact hv.elim
      | cons v vs =>
        have h1 := V3_int.1 hv.1
        subst h1
        simp only [List.foldlM_cons, Sem.run_bind, hM, Result.andThen_ok]
        exact hr g H w vs hv.2
    · cases h
theorem max_step {c : Call} (ho : o.op = .call c) (hc : c.callee = .builtin .max) (h : (evsK tm c.args.toList fun
      | .int k a :: l => foldMM imax l a fun n => κ (.int k n) hp
      | _ => none) = some r) : StepN P o tm hp κ r := by
  obtain ⟨us, hus, h⟩ := evsK_some h
  split at h
  · rename_i k a l
    obtain ⟨n, hn, hr⟩ := foldMM_some (P := P) (k := k) (M := Builtin.max2) (fun k' x y w => by simp [Builtin.max2, imax_eq]) h
    refine ⟨_, hp, hn, opN_pure fun ac w g H hH _ hh _ => ⟨.int k n, builtin_run ho hc ?_, V3_int.2 rfl⟩⟩
    have h1 := args_rel ho hus hh
    cases hv : (c.args.map ac.eval).toList with
    | nil => rw [hv] at h1; exact h1.elim
    | cons v vs =>
      rw [hv] at h1
      have h2 := V3_int.1 h1.1
      subst h2
      have h3 := hr g H w vs h1.2
      simp only [builtin, Builtin.max_, hv, Sem.run_bind, h3, Result.andThen_ok, Sem.run_pure]
  · cases h
theorem min_step {c : Call} (ho : o.op = .call c) (hc : c.callee = .builtin .min) (h : (evsK tm c.args.toList fun
      | .int k a :: l => foldMM imin l a fun n => κ (.int k n) hp
      | _ => none) = some r) : StepN P o tm hp κ r := by
  obtain ⟨us, hus, h⟩ := evsK_some h
  split at h
  · rename_i k a l
    obtain ⟨n, hn, hr⟩ := foldMM_some (P := P) (k := k) (M := Builtin.min2) (fun k' x y w => by simp [Builtin.min2, imin_eq]) h
    refine ⟨_, hp, hn, opN_pure fun ac w g H hH _ hh _ => ⟨.int k n, builtin_run ho hc ?_, V3_int.2 rfl⟩⟩
    have h1 := args_rel ho hus hh
    cases hv : (c.args.map ac.eval).toList with
    | nil => rw [hv] at h1; exact h1.elim
    | cons v vs =>
      rw [hv] at h1
      have h2 := V3_int.1 h1.1
      subst h2
      have h3 := hr g H w vs h1.2
      simp only [builtin, Builtin.min_, hv, Sem.run_bind, h3, Result.andThen_ok, Sem.run_pure]
  · cases h
theorem evs_V2 {a : Act} {g : G} {H : List Blk} {w : World} : ∀ {l : List Operand} {us : List AV}, evsD tm l = some us → (∀ u ∈ us, ∀ v, V3 g H w u v → V2 g H w u v) →
    (∀ x ∈ l, ∀ u, evD tm x = some u → V3 g H w u (a.eval x)) → All2 (V2 g H w) us (l.map a.eval)
  | [], us, h, _, _ => by simp [evsD] at h; subst h; trivial
  | x :: l, us, h, hu, hh => by
    simp only [evsD] at h
    obtain ⟨v, hv, h⟩ := Option.bind_eq_some_iff.mp h
    obtain ⟨vs, hvs, h⟩ := Option.bind_eq_some_iff.mp h
    cases h
    exact ⟨hu v (by simp) _ (hh x (by simp) v hv), evs_V2 hvs (fun u h => hu u (by simp [h])) fun y hy => hh y (by simp [hy])⟩
theorem allVar_V2 {g : G} {H : List Blk} {w : World} : ∀ {us : List AV}, allVar us = true → ∀ u ∈ us, ∀ v, V3 g H w u v → V2 g H w u v
  | [], _, u, hu, _, _ => by cases hu
  | x :: us, h, u, hu, v, hv => by
    cases hu with
    | head => cases x <;> first
        | exact hv
        | (simp [allVar] at h)
    | tail _ hu =>
      refine allVar_V2 ?_ u hu v hv
      cases x <;> first
        | exact h
        | (simp [allVar] at h)
theorem makeFunc_step {f : FuncId} {fs cs : Array Operand} (ho : o.op = .makeFunc (.func f) fs cs) (h : (evsK tm fs.toList fun fs => evsK tm cs.toList fun cs => bif allVar fs && allVar cs then κ (.fn f fs cs) hp else none) = some r) :
    StepN P o tm hp κ r := by
  obtain ⟨us, hus, h⟩ := evsK_some h
  obtain ⟨vs, hvs, h⟩ := evsK_some h
  obtain ⟨hb, h⟩ := cond_none h
  simp only [Bool.and_eq_true] at hb
  refine ⟨_, hp, h, opN_pure fun a w g H hH _ hh _ => ?_⟩
  refine ⟨.func (.func f) (fs.map a.eval) (cs.map a.eval), by simp [execOp, ho, Instr.makeFunc], (fs.map a.eval).toList, (cs.map a.eval).toList, rfl, ?_, ?_⟩
  · rw [Array.toList_map]
    exact evs_V2 hus (allVar_V2 hb.1) fun x hx => hh x (by rw [ho]; simp [Op.operands]; exact .inl (by simpa using hx))
  · rw [Array.toList_map]
    exact evs_V2 hvs (allVar_V2 hb.2) fun x hx => hh x (by rw [ho]; simp [Op.operands]; exact .inr (by simpa using hx))
end
end Go.AM
namespace Go.AM
section
variable {P : Program} {T : TypeId → Option TI} {o : Oper} {tm : List AV} {hp : List Blk} {κ : AV → List Blk → R} {r : AV × List Blk}
theorem Trans.heap {g : G} {H : List Blk} {w w' : World} (h : w'.heap = w.heap) (he : Env w w') : Trans g H w g H w' where
  dom _ h := h
  ρ _ _ := rfl
  S _ h := h
  Sl _ h := h
  newS _ h := .inl h
  newSl _ h := .inl h
  size := by rw [h]; exact Nat.le_refl _
  shape := fun b cs el fr hb => ⟨cs, by rw [h]; exact hb, rfl⟩
  env := he
  prot _ _ _ := by rw [h]
  own _ h := .inr h
  len τ _ m E xs h hm := ⟨m, xs, h, hm, rfl⟩
  box τ _ y h := ⟨y, h⟩
theorem Good.heap {g : G} {H : List Blk} {w w' : World} (h : w'.heap = w.heap) (he : Env w w') (hg : Good g H w) : Good g H w' where
  sub := hg.sub
  lt b hb := by rw [h]; exact hg.lt b hb
  tok x hx := by
    obtain ⟨blk, hb, hr⟩ := hg.tok x hx
    exact ⟨blk, hb, hr.trans (Trans.heap h he) hg hx fun b o hρ ho => ⟨by rw [h], (Own.notS hg ⟨x, o, hx, hρ, owned_of hb ho⟩)⟩⟩
  inj := hg.inj
theorem V1_one {g : G} {H : List Blk} {w : World} {x : AV} {v : Value} (h : V1 g H w x v) : v.cells = #[v] ∧ v.oneCell' = true := by
  cases x <;> simp only [V1, PCell] at h
  case own τ E r c =>
    obtain ⟨_, h⟩ := h
    cases hρ : g.ρ τ with
    | none => simp only [hρ] at h; obtain ⟨⟨A, rfl⟩, _⟩ := h; exact ⟨rfl, rfl⟩
    | some p => simp only [hρ] at h; obtain ⟨k, o, l, cap, rfl, _⟩ := h; exact ⟨rfl, rfl⟩
  case ptr τ i o E => obtain ⟨_, _, b, base, n, _, _, rfl⟩ := h; exact ⟨rfl, rfl⟩
  case «at» x o => obtain ⟨b, off, rfl, _⟩ := h; exact ⟨rfl, rfl⟩
  case nil => obtain ⟨A, rfl⟩ := h; exact ⟨rfl, rfl⟩
  case lst o c E xs => obtain ⟨A, cap, rfl, _⟩ := h; exact ⟨rfl, rfl⟩
  all_goals (subst h; exact ⟨rfl, rfl⟩)
theorem V2_cells {g : G} {H : List Blk} {w : World} {x : AV} {v : Value} (h : V2 g H w x v) : All2 (V1 g H w) (cells x) v.cells.toList := by
  cases x with
  | agg cs => obtain ⟨vs, rfl, h⟩ := h; exact h
  | _ =>
    simp only [V2] at h
    rw [(V1_one h).1]
    exact ⟨h, trivial⟩
theorem All2_len {R : AV → Value → Prop} : ∀ {xs : List AV} {vs : List Value}, All2 R xs vs → xs.length = vs.length
  | [], [], _ => rfl
  | _ :: _, _ :: _, h => by simp [All2_len h.2]
  | [], _ :: _, h => h.elim
  | _ :: _, [], h => h.elim
theorem All2_V1s {g : G} {H : List Blk} {w : World} {b : Nat} : ∀ {xs : List AV} {vs : List Value} {k : Nat}, All2 (V1 g H w) xs vs → (∀ (j : Nat) v, vs[j]? = some v → w.cell? ⟨b, k + j, none⟩ = some v) → V1s g H w xs b k
  | [], _, _, _, _ => trivial
  | x :: xs, v :: vs, k, h, hc => ⟨⟨v, by simpa using hc 0 v rfl, h.1⟩, All2_V1s h.2 fun j u hj => by
      have := hc (j + 1) u (by simpa using hj)
      rwa [show k + (j + 1) = k + 1 + j by omega] at this⟩
  | _ :: _, [], _, h, _ => h.elim
theorem boxK_some {v : AV} {κ : AV → R} (h : boxK v κ = some r) : κ v = some r ∧ (∀ g H w u, V3 g H w v u → V2 g H w v u) ∧ v ≠ .top := by
  cases v <;> simp only [boxK] at h <;> first
    | (cases h; done)
    | exact ⟨h, fun _ _ _ _ h => h, by simp⟩
theorem cell_push {w w1 : World} {cs : Array Value} {el : TypeId} (h : w1.heap = w.heap.push (.cells cs el)) (j : Nat) : w1.cell? ⟨w.heap.size, j, none⟩ = cs[j]? := by
  simp [World.cell?, h]
theorem unf_push {w w1 : World} {cs : Array Value} {el : TypeId} (h : w1.heap = w.heap.push (.cells cs el)) {n : Nat} (hn : n ≤ cs.size) : Unf w1 w.heap.size n :=
  ⟨cs, el, by simp [h], hn⟩
theorem Trans.push {g : G} {H : List Blk} {w w1 : World} {τ : Nat} (hg : Good g H w) (hτ : ¬ g.dom τ) {cs : Array Value} {el : TypeId} (h : w1.heap = w.heap.push (.cells cs el)) (he : Env w w1) :
    Trans g H w (g.add τ (some (w.heap.size, 0))) H w1 :=
  (Trans.new hg hτ (cs := cs) (el := el)).trans (Trans.heap h he)
theorem Good.push {g : G} {H : List Blk} {w w1 : World} {τ : Nat} (hg : Good g H w) (hτ : ¬ g.dom τ) {cs : Array Value} {el : TypeId} (h : w1.heap = w.heap.push (.cells cs el)) (he : Env w w1)
    {blk : Blk} (hb : H[τ]? = some blk) (hr : BlkRel (g.add τ (some (w.heap.size, 0))) H w1 τ blk) : Good (g.add τ (some (w.heap.size, 0))) H w1 where
  sub := hg.sub
  lt b hb := by rw [h]; simp; have := hg.lt b hb; omega
  tok x hx := by
    by_cases e : x = τ
    · subst e; exact ⟨blk, hb, hr⟩
    · have hx := hx.resolve_right e
      obtain ⟨blk', hb', hr'⟩ := hg.tok x hx
      refine ⟨blk', hb', BlkRel.trans (Trans.push hg hτ h he) hg hx (fun b o hρ ho => ?_) hr'⟩
      have hO : Own g H b := ⟨x, o, hx, hρ, owned_of hb' ho⟩
      have := hO.lt hg
      exact ⟨by rw [h, Array.getElem?_push, if_neg (by omega)], hO.notS hg⟩
  inj x y b o o' hx hy h1 h2 h3 h4 := by
    by_cases ex : x = τ
    · subst ex
      by_cases ey : y = x
      · exact ey.symm
      · simp [G.add] at h1
        simp [G.add, ey] at h2
        have hO : Own g H b := ⟨y, o', hy.resolve_right ey, h2, h4⟩
        have := hO.lt hg
        omega
    · by_cases ey : y = τ
      · subst ey
        simp [G.add] at h2
        simp [G.add, ex] at h1
        have hO : Own g H b := ⟨x, o, hx.resolve_right ex, h1, h3⟩
        have := hO.lt hg
        omega
      · simp [G.add, ex] at h1
        simp [G.add, ey] at h2
        exact hg.inj x y b o o' (hx.resolve_right ex) (hy.resolve_right ey) h1 h2 h3 h4
theorem prefix_last {α : Type} {xs ys : List α} {x : α} (h : xs ++ [x] <+: ys) : ys[xs.length]? = some x := prefix_get h (by simp)
theorem G.add_ρ {g : G} {τ : Nat} {p : Option (Nat × Nat)} : (g.add τ p).ρ τ = p := by simp [G.add]
theorem G.add_dom {g : G} {τ : Nat} {p : Option (Nat × Nat)} : (g.add τ p).dom τ := .inr rfl
theorem opN_new {v : AV} {blk : Blk} (h : ∀ (a : Act) (w : World) (g : G) (H : List Blk), hp ++ [blk] <+: H → (∀ x ∈ o.op.operands, ∀ u, evD tm x = some u → V3 g H w u (a.eval x)) → Good g H w →
      ¬ g.dom hp.length → ∃ vv cs el w1, (execOp a.eval o).run P w = .ok (.value vv) w1 ∧ w1.heap = w.heap.push (.cells cs el) ∧ Env w w1 ∧
        ∀ g', g' = g.add hp.length (some (w.heap.size, 0)) → Trans g H w g' H w1 → BlkRel g' H w1 hp.length blk ∧ V3 g' H w1 v vv) : OpN P o tm hp v (hp ++ [blk]) := by
  refine ⟨List.prefix_append _ _, fun Q a w g H N hH hd hx hg hN => ?_⟩
  have hτ : ¬ g.dom hp.length := fun hh => by
    have := hd _ hh
    simp at this
    omega
  obtain ⟨vv, cs, el, w1, hr, hw, hen, hall⟩ := h a w g H hH hx hg hτ
  have ht := Trans.push hg hτ hw hen
  obtain ⟨hb, hv⟩ := hall _ rfl ht
  simp only [Oper.wp, hr, Oper.upon]
  refine hN vv w1 _ (fun b hb => by rw [hw, Array.getElem?_push, if_neg (by omega)]) ht (Good.push hg hτ hw hen (prefix_last hH) hb) (fun τ => ?_) hv (fun τ h1 h2 b o hρ => ?_)
  rotate_left
  · simp only [List.length_append, List.length_singleton] at h2
    obtain rfl : τ = hp.length := by omega
    rw [G.add_ρ] at hρ
    cases hρ
    exact Nat.le_refl _
  simp only [G.add, List.length_append, List.length_singleton]
  constructor
  · rintro (h | h)
    · exact .inl h
    · exact .inr (by omega)
  · rintro (h | h)
    · exact .inl h
    · exact .inr (by omega)
theorem opN_null {v : AV} {E : Nat} (h : ∀ (a : Act) (w : World) (g : G) (H : List Blk), hp ++ [.rows .live E []] <+: H → (∀ x ∈ o.op.operands, ∀ u, evD tm x = some u → V3 g H w u (a.eval x)) → Good g H w →
      ¬ g.dom hp.length → ∃ vv, (execOp a.eval o).run P w = .ok (.value vv) w ∧ ∀ g', g' = g.add hp.length none → V3 g' H w v vv) : OpN P o tm hp v (hp ++ [.rows .live E []]) := by
  refine ⟨List.prefix_append _ _, fun Q a w g H N hH hd hx hg hN => ?_⟩
  have hτ : ¬ g.dom hp.length := fun hh => by
    have := hd _ hh
    simp at this
    omega
  obtain ⟨vv, hr, hall⟩ := h a w g H hH hx hg hτ
  simp only [Oper.wp, hr, Oper.upon]
  refine hN vv w _ (fun b hb => rfl) (Trans.null hτ) (Good.null hg hτ (prefix_last hH)) (fun τ => ?_) (hall _ rfl) (fun τ h1 h2 b o hρ => ?_)
  rotate_left
  · simp only [List.length_append, List.length_singleton] at h2
    obtain rfl : τ = hp.length := by omega
    rw [G.add_ρ] at hρ
    cases hρ
  simp only [G.add, List.length_append, List.length_singleton]
  constructor
  · rintro (h | h)
    · exact .inl h
    · exact .inr (by omega)
  · rintro (h | h)
    · exact .inl h
    · exact .inr (by omega)
theorem newVar_run {w : World} {t : TypeId} {v : Value} : (newVar t v).run P w = .ok ⟨w.heap.size, 0, none⟩ (w.alloc (.cells v.cells t)) := by
  simp [newVar, newRow]
theorem ptr_box {g : G} {H : List Blk} {w : World} {τ E b : Nat} (hd : g.dom τ) (hρ : g.ρ τ = some (b, 0)) : V3 g H w (.ptr τ 0 0 E) (.pointer (some ⟨b, 0, none⟩)) :=
  ⟨hd, fun _ _ => rfl, b, 0, 0, hρ, rfl, by simp⟩
theorem box_blk {g : G} {H : List Blk} {w w1 : World} {τ : Nat} {v : AV} {vv : Value} {el : TypeId} (hg : Good g H w) (hw : w1.heap = w.heap.push (.cells vv.cells el)) {g' : G} (hg' : g' = g.add τ (some (w.heap.size, 0)))
    (hv : V2 g' H w1 v vv) : BlkRel g' H w1 τ (.box v) := by
  subst hg'
  refine ⟨w.heap.size, 0, G.add_ρ, fun h => ?_, unf_push hw (Nat.zero_le _), ?_⟩
  · have := hg.lt _ h; omega
  · refine All2_V1s (V2_cells hv) fun j u hj => ?_
    rw [Nat.zero_add, cell_push hw]
    simpa using hj
theorem alloc_step (hT : TOk P T) {t : TypeId} (ho : o.op = .alloc t) (h : (tyK T t fun E _ _ z _ => boxK z fun z => snocK hp (.box z) 0 fun n hp => κ (.ptr n 0 0 E) hp) = some r) :
    StepN P o tm hp κ r := by
  obtain ⟨E, a1, b1, z, d1, hs, h⟩ := tyK_some h
  obtain ⟨h, hz, hz2⟩ := boxK_some h
  rw [snocK_eq, Nat.zero_add] at h
  refine ⟨_, _, h, opN_new fun a w g H hH hh hg hτ => ?_⟩
  obtain ⟨zv, h1, h2, h3⟩ := (hT _ _ _ _ _ _ hs).zeroValue (w := w) hz2
  refine ⟨.pointer (some ⟨w.heap.size, 0, none⟩), zv.cells, t, w.alloc (.cells zv.cells t), ?_, rfl, .refl w, fun g' hg' ht => ⟨box_blk hg rfl hg' (h3 _ _ _), ?_⟩⟩
  · simp only [execOp, ho, Instr.alloc, Sem.run_bind, h1, Result.andThen_ok, newVar_run, Sem.run_pure]
  · subst hg'; exact ptr_box G.add_dom G.add_ρ
theorem box_step {t : TypeId} {x : Operand} (ho : o.op = .box t x) (h : (tyK T t fun E _ _ _ _ => evK tm x fun v => boxK v fun v => snocK hp (.box v) 0 fun n hp => κ (.ptr n 0 0 E) hp) = some r) :
    StepN P o tm hp κ r := by
  obtain ⟨E, a1, b1, z, d1, hs, h⟩ := tyK_some h
  obtain ⟨v, hv, h⟩ := evK_some h
  obtain ⟨h, hz, hz2⟩ := boxK_some h
  rw [snocK_eq, Nat.zero_add] at h
  refine ⟨_, _, h, opN_new fun a w g H hH hh hg hτ => ?_⟩
  have h1 := hz _ _ _ _ (hh x (by simp [ho, Op.operands]) _ hv)
  refine ⟨.pointer (some ⟨w.heap.size, 0, none⟩), (a.eval x).cells, t, w.alloc (.cells (a.eval x).cells t), ?_, rfl, .refl w, fun g' hg' ht => ⟨box_blk hg rfl hg' (h1.trans ht hg), ?_⟩⟩
  · simp only [execOp, ho, Instr.box, Sem.run_bind, Result.andThen_ok, newVar_run, Sem.run_pure]
  · subst hg'; exact ptr_box G.add_dom G.add_ρ
end
end Go.AM
namespace Go.AM
section
variable {P : Program} {T : TypeId → Option TI} {o : Oper} {tm : List AV} {hp : List Blk} {r : AV × List Blk}
theorem PRows_drop {S Sl : Nat → Prop} {w : World} {E : Nat} : ∀ {n : Nat} {xs : List AV} {b off : Nat}, PRows S Sl w E xs b off → PRows S Sl w E (xs.drop n) b (off + n * E)
  | 0, xs, b, off, h => by simpa using h
  | n + 1, [], b, off, h => PRows_nil
  | n + 1, x :: xs, b, off, h => by
    have := PRows_drop (n := n) (PRows_cons.1 h).2
    rw [Nat.succ_mul]
    rw [show off + (n * E + E) = off + E + n * E by omega]
    exact this
theorem PRows_take {S Sl : Nat → Prop} {w : World} {E : Nat} : ∀ {n : Nat} {xs : List AV} {b off : Nat}, PRows S Sl w E xs b off → PRows S Sl w E (xs.take n) b off
  | 0, xs, b, off, h => PRows_nil
  | n + 1, [], b, off, h => PRows_nil
  | n + 1, x :: xs, b, off, h => PRows_cons.2 ⟨(PRows_cons.1 h).1, PRows_take (PRows_cons.1 h).2⟩
noncomputable def rowsD (r : Option (Int × Int)) (xs : List AV) : List AV :=
  match r with
  | none => xs
  | some (o, l) => lsub xs o (iadd o l)
theorem rowsOf_eq (r : Option (Int × Int)) (xs : List AV) (κ : List AV → R) : rowsOf r xs κ = κ (rowsD r xs) := by
  unfold rowsOf rowsD; split <;> rfl
theorem own_rows {g : G} {H : List Blk} {w : World} {τ E : Nat} {rr : Option (Int × Int)} {c : Bool} {v : Value} {m : Mode} {xs : List AV} {S Sl : Nat → Prop}
    (h : V1 g H w (.own τ E rr c) v) (hb : H[τ]? = some (.rows m E xs)) (hm : m ≠ .dead)
    (hR : (g.ρ τ = none ∧ xs = []) ∨ ∃ b base, g.ρ τ = some (b, base) ∧ PRows S Sl w E xs b base) :
    ∃ A cap, v = .slice A (rowsD rr xs).length cap ∧ (rowsD rr xs).length ≤ cap ∧ (c = true → cap = (rowsD rr xs).length) ∧
      (rowsD rr xs = [] ∨ ∃ b off base, A = some ⟨b, off, none⟩ ∧ g.ρ τ = some (b, base) ∧ PRows S Sl w E (rowsD rr xs) b off) := by
  obtain ⟨hd, h⟩ := h
  cases hρ : g.ρ τ with
  | none =>
    simp only [hρ] at h hR
    obtain ⟨⟨A, rfl⟩, hr⟩ := h
    have hx : xs = [] := by
      rcases hR with ⟨_, hx⟩ | ⟨b, base, h0, _⟩
      · exact hx
      · cases h0
    have hz : rowsD rr xs = [] := by
      subst hx
      cases rr <;> simp [rowsD, lsub_eq]
    rw [hz]
    exact ⟨A, 0, rfl, Nat.zero_le _, fun _ => rfl, .inl rfl⟩
  | some p =>
    obtain ⟨b, base⟩ := p
    simp only [hρ] at h hR
    obtain ⟨k, o, l, cap, rfl, hk, h1, h2, h3, h4, h5⟩ := h
    have hl : (rowsD rr xs).length = l ∧ ∀ b base, PRows S Sl w E xs b base → PRows S Sl w E (rowsD rr xs) b (base + o * E) := by
      cases rr with
      | none =>
        simp only [rowsD] at h5 ⊢
        obtain ⟨rfl, h6⟩ := h5
        exact ⟨(h6 _ _ _ hb hm).symm, fun b base h => by simpa using h⟩
      | some q =>
        obtain ⟨o', l'⟩ := q
        simp only at h5
        obtain ⟨rfl, rfl, h6⟩ := h5
        have h7 := h6 _ _ _ hb hm
        simp only [rowsD, lsub_eq, iadd_eq]
        have e1 : ((o : Int)).toNat = o := by omega
        have e2 : (((o : Int) + l - o)).toNat = l := by omega
        rw [e1, e2]
        refine ⟨by simp; omega, fun b base h => PRows_take (PRows_drop h)⟩
    refine ⟨some ⟨b, k, none⟩, cap, by rw [hl.1], by omega, fun e => by rw [hl.1]; exact h2 e, ?_⟩
    rcases hk with rfl | hk
    · rcases hR with ⟨h0, _⟩ | ⟨b', base', h0, hR⟩
      · cases h0
      · cases h0
        exact .inr ⟨b, _, base, rfl, rfl, hl.2 _ _ hR⟩
    · left
      apply List.eq_nil_of_length_eq_zero
      omega
def G.frz (g : G) (p : Option (Nat × Nat)) : G := { g with S := fun x => g.S x ∨ ∃ o, p = some (x, o), Sl := fun x => g.Sl x ∨ ∃ o, p = some (x, o) }
theorem get_set {α : Type} {l : List α} {n m : Nat} {x y : α} (h : (l.set n x)[m]? = some y) : (m = n ∧ y = x ∧ n < l.length) ∨ (m ≠ n ∧ l[m]? = some y) := by
  rw [List.getElem?_set] at h
  by_cases e : n = m
  · subst e
    simp only [if_true] at h
    split at h
    · cases h; exact .inl ⟨rfl, rfl, ‹_›⟩
    · cases h
  · simp only [e, if_false] at h
    exact .inr ⟨fun h => e h.symm, h⟩
theorem get_set_ne {α : Type} {l : List α} {n m : Nat} {x : α} (h : m ≠ n) : (l.set n x)[m]? = l[m]? := by
  rw [List.getElem?_set, if_neg (fun e => h e.symm)]
theorem get_set_eq {α : Type} {l : List α} {n : Nat} {x y : α} (h : l[n]? = some y) : (l.set n x)[n]? = some x := by
  rw [List.getElem?_set, if_pos rfl, if_pos (List.getElem?_eq_some_iff.1 h).1]
section frz
variable {g : G} {H : List Blk} {w : World} {τ E : Nat} {xs : List AV}
theorem Trans.frz (hg : Good g H w) (hd : g.dom τ) (hb : H[τ]? = some (.rows .live E xs)) : Trans g H w (g.frz (g.ρ τ)) (H.set τ (.rows .frozen E xs)) w where
  dom _ h := h
  ρ _ _ := rfl
  S _ h := .inl h
  Sl _ h := .inl h
  newS b h := h.imp id fun ⟨o, h⟩ => .inr ⟨τ, o, hd, h, _, hb, trivial⟩
  newSl b h := h.imp id fun ⟨o, h⟩ => .inr ⟨τ, o, hd, h, _, hb, trivial⟩
  size := Nat.le_refl _
  shape := .refl w
  env := .refl w
  prot _ _ _ := rfl
  own b h := by
    obtain ⟨x, o, h1, h2, blk, h3, h4⟩ := h
    rcases get_set h3 with ⟨rfl, rfl, _⟩ | ⟨hne, h3⟩
    · exact h4.elim
    · exact .inr ⟨x, o, h1, h2, blk, h3, h4⟩
  len x hx m E' ys h hm := by
    rcases get_set h with ⟨rfl, h1, _⟩ | ⟨hne, h3⟩
    · cases h1; exact ⟨.live, xs, hb, by simp, rfl⟩
    · exact ⟨m, ys, h3, hm, rfl⟩
  box x hx y h := by
    rcases get_set h with ⟨rfl, h1, _⟩ | ⟨hne, h3⟩
    · cases h1
    · exact ⟨y, h3⟩
theorem Good.frz (hg : Good g H w) (hd : g.dom τ) (hb : H[τ]? = some (.rows .live E xs)) : Good (g.frz (g.ρ τ)) (H.set τ (.rows .frozen E xs)) w where
  sub b h := h.imp (hg.sub b) id
  lt b h := by
    rcases h with h | ⟨o, h⟩
    · exact hg.lt b h
    · exact Own.lt hg (b := b) ⟨τ, o, hd, h, _, hb, trivial⟩
  tok x hx := by
    have ht := Trans.frz hg hd hb
    obtain ⟨blk, h1, h2⟩ := hg.tok x hx
    by_cases e : x = τ
    · subst e
      rw [hb] at h1
      cases h1
      refine ⟨_, get_set_eq hb, ?_⟩
      rcases h2 with h2 | ⟨b, o, h3, h4, h5, h6⟩
      · exact .inl h2
      · exact .inr ⟨b, o, h3, .inr ⟨o, h3⟩, h5, h6.trans ht hg rfl⟩
    · refine ⟨blk, by rw [get_set_ne e]; exact h1, BlkRel.trans ht hg hx (fun b o hρ ho => ⟨rfl, ?_⟩) h2⟩
      rintro (h | ⟨o', h⟩)
      · exact Own.notS hg ⟨x, o, hx, hρ, owned_of h1 ho⟩ h
      · exact e (hg.inj x τ b o o' hx hd hρ h (owned_of h1 ho) ⟨_, hb, trivial⟩)
  inj x y b o o' hx hy h1 h2 h3 h4 := by
    have key : ∀ z, owned (H.set τ (.rows .frozen E xs)) z → owned H z := by
      rintro z ⟨blk, h5, h6⟩
      rcases get_set h5 with ⟨rfl, rfl, _⟩ | ⟨hne, h7⟩
      · exact h6.elim
      · exact ⟨blk, h7, h6⟩
    exact hg.inj x y b o o' hx hy h1 h2 (key x h3) (key y h4)
end frz
def Fz (R : G → World → AV → Value → Prop) (R0 : G → List Blk → World → AV → Value → Prop) (hp : List Blk) (v : AV) (hp' : List Blk) (v' : AV) : Prop :=
  hp'.length = hp.length ∧ ∀ (g : G) (w : World) (val : Value), Good g hp w → R0 g hp w v val → ∃ g', Trans g hp w g' hp' w ∧ Good g' hp' w ∧ g'.dom = g.dom ∧ R g' w v' val
theorem pur1_ok {v : AV} {κ : AV → List Blk → R} (h : pur1K hp v κ = some r) : ∃ v' hp', κ v' hp' = some r ∧ cells v' = [v'] ∧ Fz PC V1 hp v hp' v' := by
  have same : ∀ (H : List Blk), (∀ g w val, V1 g H w v val → PC g w v val) → Fz PC V1 H v H v := fun H hh => ⟨rfl, fun g w val hg hv => ⟨g, Trans.refl g H w, hg, rfl, hh g w val hv⟩⟩
  cases v <;> simp only [pur1K] at h
  case own τ E rr c =>
    obtain ⟨blk, hb, h⟩ := getK_some h
    split at h
    · rename_i E' xs
      obtain ⟨rfl, h'⟩ := beqE_some h
      rw [setK_eq, rowsOf_eq] at h'
      refine ⟨_, _, h', rfl, by simp, fun g w val hg hv => ⟨g.frz (g.ρ τ), Trans.frz hg hv.1 hb, Good.frz hg hv.1 hb, rfl, ?_⟩⟩
      obtain ⟨blk, h1, h2⟩ := hg.tok τ hv.1
      rw [hb] at h1
      cases h1
      have h3 := own_rows (S := g.S) (Sl := g.Sl) hv hb (by simp) (by
        rcases h2 with h2 | ⟨b, o, h3, h4, h5, h6⟩
        · exact .inl h2
        · exact .inr ⟨b, o, h3, h6⟩)
      obtain ⟨A, cap, e1, e2, e3, e4⟩ := h3
      refine ⟨A, cap, e1, e2, (fun e => by cases e), e4.imp id ?_⟩
      rintro ⟨b, off, base, e5, e6, e7⟩
      exact ⟨b, off, e5, .inr ⟨base, e6⟩, e7.trans (Trans.frz hg hv.1 hb) hg rfl⟩
    · rename_i E' xs
      obtain ⟨rfl, h'⟩ := beqE_some h
      rw [rowsOf_eq] at h'
      refine ⟨_, _, h', rfl, rfl, fun g w val hg hv => ⟨g, Trans.refl g hp w, hg, rfl, ?_⟩⟩
      obtain ⟨blk, h1, h2⟩ := hg.tok τ hv.1
      rw [hb] at h1
      cases h1
      have h3 := own_rows (S := g.S) (Sl := g.Sl) hv hb (by simp) (by
        rcases h2 with h2 | ⟨b, o, h3, h4, h5, h6⟩
        · exact .inl h2
        · exact .inr ⟨b, o, h3, h6⟩)
      obtain ⟨A, cap, e1, e2, e3, e4⟩ := h3
      refine ⟨A, cap, e1, e2, (fun e => by cases e), ?_⟩
      rcases e4 with e4 | ⟨b, off, base, e5, e6, e7⟩
      · exact .inl e4
      · rcases h2 with ⟨h0, _⟩ | ⟨b', o', h6, h7, _⟩
        · rw [e6] at h0; cases h0
        · rw [e6] at h6; cases h6
          exact .inr ⟨b, off, e5, h7, e7⟩
    · cases h
  case lst o c E xs =>
    rcases cond_some h with ⟨_, h1⟩ | ⟨rfl, h1⟩
    · cases h1
    · refine ⟨_, _, h1, rfl, rfl, fun g w val hg hv => ⟨g, Trans.refl g hp w, hg, rfl, ?_⟩⟩
      simp only [V1, PC, PCell] at hv ⊢
      obtain ⟨A, cap, e1, e2, e3, e4⟩ := hv
      exact ⟨A, cap, e1, e2, fun e => (by cases e), by simpa [PRows] using e4⟩
  all_goals first
    | exact ⟨_, _, h, rfl, same hp fun g w val hv => hv⟩
    | cases h
def VC (g : G) (H : List Blk) (w : World) (xs : List AV) (v : Value) : Prop := ∃ vs, v = .agg ⟨vs⟩ ∧ All2 (V1 g H w) xs vs
theorem purs_ok : ∀ {l : List AV} {hp : List Blk} {κ : List AV → List Blk → R}, pursK hp l κ = some r → ∃ l' hp', κ l' hp' = some r ∧ l'.length = l.length ∧ hp'.length = hp.length ∧
    ∀ (g : G) (w : World) (vs : List Value), Good g hp w → All2 (V1 g hp w) l vs → ∃ g', Trans g hp w g' hp' w ∧ Good g' hp' w ∧ g'.dom = g.dom ∧ All2 (PC g' w) l' vs
  | [], hp, κ, h => ⟨[], hp, h, rfl, rfl, fun g w vs hg hv => ⟨g, Trans.refl g hp w, hg, rfl, by cases vs <;> simp_all [All2]⟩⟩
  | x :: l, hp, κ, h => by
    simp only [pursK] at h
    obtain ⟨v', hp1, h, _, hl1, h1⟩ := pur1_ok h
    obtain ⟨l', hp2, h, hl2, hl3, h2⟩ := purs_ok h
    refine ⟨v' :: l', hp2, h, by simp [hl2], by omega, fun g w vs hg hv => ?_⟩
    cases vs with
    | nil => exact hv.elim
    | cons v vs =>
      obtain ⟨g1, ht1, hg1, hd1, hp1⟩ := h1 g w v hg hv.1
      obtain ⟨g2, ht2, hg2, hd2, hp2⟩ := h2 g1 w vs hg1 (hv.2.imp fun _ _ h => h.trans ht1 hg)
      exact ⟨g2, ht1.trans ht2, hg2, hd2.trans hd1, PC.trans ht2 hg1 hp1, hp2⟩
def PE (g : G) (w : World) (x : AV) (v : Value) : Prop := All2 (PC g w) (cells x) v.cells.toList
theorem pur_ok {v : AV} {κ : AV → List Blk → R} (h : purK hp v κ = some r) : ∃ v' hp', κ v' hp' = some r ∧ (cells v').length = (cells v).length ∧ (∀ g H w u, V3 g H w v u → V2 g H w v u) ∧ Fz PE V2 hp v hp' v' := by
  unfold purK at h
  split at h
  · rename_i cs
    obtain ⟨l', hp', h, h1, h2, h3⟩ := purs_ok h
    refine ⟨_, _, h, h1, fun g H w u h => h, h2, fun g w val hg hv => ?_⟩
    obtain ⟨vs, rfl, hv⟩ := hv
    exact h3 g w vs hg hv
  · rename_i hne
    have hc : cells v = [v] := by
      cases v <;> first
        | rfl
        | exact absurd rfl (hne _)
    have hk : ∀ g H w u, V3 g H w v u → V1 g H w v u := by
      intro g H w u hh
      cases v <;> first
        | exact hh
        | exact absurd rfl (hne _)
        | (simp [pur1K] at h)
    obtain ⟨v', hp', h', hc', h2, h3⟩ := pur1_ok h
    have hk2 : ∀ g H w u, V2 g H w v u → V1 g H w v u := by
      intro g H w u hh
      cases v <;> first
        | exact hh
        | exact absurd rfl (hne _)
    refine ⟨v', hp', h', by rw [hc, hc']; rfl, fun g H w u hh => ?_, h2, fun g w val hg hv => ?_⟩
    · have := hk g H w u hh
      cases v <;> first
        | exact this
        | exact absurd rfl (hne _)
    · obtain ⟨g', ht, hg', hd', hp⟩ := h3 g w val hg (hk2 _ _ _ _ hv)
      refine ⟨g', ht, hg', hd', ?_⟩
      unfold PE
      rw [hc', (V1_one (V1_of_PCell (H := []) hp.weak)).1]
      exact ⟨hp, trivial⟩
end
end Go.AM
namespace Go.AM
section
variable {P : Program} {T : TypeId → Option TI} {o : Oper} {tm : List AV} {hp : List Blk} {κ : AV → List Blk → R} {r : AV × List Blk}
def PFlat (g : G) (w : World) (E : Nat) : List AV → List Value → Prop
  | [], vs => vs = []
  | x :: xs, vs => ∃ r vs', vs = r ++ vs' ∧ (cells x).length = E ∧ All2 (PC g w) (cells x) r ∧ PFlat g w E xs vs'
theorem PFlat.len {g : G} {w : World} {E : Nat} : ∀ {xs : List AV} {vs : List Value}, PFlat g w E xs vs → vs.length = xs.length * E
  | [], vs, h => by simp only [PFlat] at h; subst h; simp
  | x :: xs, vs, ⟨r, vs', e, h1, h2, h3⟩ => by
    subst e
    rw [List.length_append, h3.len, ← All2_len h2, h1]
    simp [Nat.succ_mul, Nat.add_comm]
theorem PFlat.append {g : G} {w : World} {E : Nat} : ∀ {xs ys : List AV} {vs us : List Value}, PFlat g w E xs vs → PFlat g w E ys us → PFlat g w E (xs ++ ys) (vs ++ us)
  | [], ys, vs, us, h, h' => by simp only [PFlat] at h; subst h; simpa using h'
  | x :: xs, ys, vs, us, ⟨r, vs', e, h1, h2, h3⟩, h' => ⟨r, vs' ++ us, by subst e; simp, h1, h2, h3.append h'⟩
theorem PFlat.trans {g g' : G} {H H' : List Blk} {w w' : World} (ht : Trans g H w g' H' w') (hg : Good g H w) {E : Nat} : ∀ {xs : List AV} {vs : List Value}, PFlat g w E xs vs → PFlat g' w' E xs vs
  | [], vs, h => h
  | x :: xs, vs, ⟨r, vs', e, h1, h2, h3⟩ => ⟨r, vs', e, h1, h2.imp fun _ _ h => PC.trans ht hg h, h3.trans ht hg⟩
theorem PCells_of {g : G} {w : World} : ∀ {cs : List AV} {vs : List Value} {b k : Nat}, All2 (PC g w) cs vs → (∀ (j : Nat) v, vs[j]? = some v → w.cell? ⟨b, k + j, none⟩ = some v) → PCells F0 g.Sl w cs b k
  | [], _, _, _, _, _ => by simp [PCells]
  | x :: xs, v :: vs, b, k, h, hc => by
    simp only [PCells]
    refine ⟨⟨v, by simpa using hc 0 v rfl, h.1⟩, PCells_of h.2 fun j u hj => ?_⟩
    have := hc (j + 1) u (by simpa using hj)
    rwa [show k + (j + 1) = k + 1 + j by omega] at this
  | _ :: _, [], _, _, h, _ => h.elim
theorem PFlat.rows {g : G} {w : World} {E b : Nat} : ∀ {xs : List AV} {vs : List Value} {k : Nat}, PFlat g w E xs vs → (∀ (j : Nat) v, vs[j]? = some v → w.cell? ⟨b, k + j, none⟩ = some v) → PRows g.S g.Sl w E xs b k
  | [], _, _, _, _ => PRows_nil
  | x :: xs, vs, k, ⟨r, vs', e, h1, h2, h3⟩, hc => by
    subst e
    refine PRows_cons.2 ⟨⟨h1, PCells_of h2 fun j v hj => hc j v ?_⟩, h3.rows fun j v hj => ?_⟩
    · rw [List.getElem?_append_left (List.getElem?_eq_some_iff.1 hj).1]; exact hj
    · have := hc (r.length + j) v (by rw [List.getElem?_append_right (by omega)]; simpa using hj)
      rw [show k + E + j = k + (r.length + j) by rw [← All2_len h2, h1]; omega]
      exact this
theorem PCells_vals {S Sl : Nat → Prop} {w : World} : ∀ {cs : List AV} {b k : Nat}, PCells S Sl w cs b k → ∃ vs : List Value, All2 (PCell S Sl w) cs vs ∧ ∀ (j : Nat) v, vs[j]? = some v → w.cell? ⟨b, k + j, none⟩ = some v
  | [], _, _, _ => ⟨[], trivial, fun j v h => by simp at h⟩
  | c :: cs, b, k, h => by
    simp only [PCells] at h
    obtain ⟨⟨v, hv, h⟩, hr⟩ := h
    obtain ⟨vs, h1, h3⟩ := PCells_vals hr
    refine ⟨v :: vs, ⟨h, h1⟩, fun j u hj => ?_⟩
    cases j with
    | zero => simp at hj; subst hj; simpa using hv
    | succ j => rw [show k + (j + 1) = k + 1 + j by omega]; exact h3 j u (by simpa using hj)
theorem PFlat_of {g : G} {w : World} {E b : Nat} : ∀ {xs : List AV} {k : Nat}, PRows g.S g.Sl w E xs b k → ∃ vs, PFlat g w E xs vs ∧ ∀ (j : Nat) v, vs[j]? = some v → w.cell? ⟨b, k + j, none⟩ = some v
  | [], _, _ => ⟨[], rfl, fun j v h => by simp at h⟩
  | x :: xs, k, h => by
    obtain ⟨⟨h1, h2⟩, h3⟩ := PRows_cons.1 h
    obtain ⟨r, h4, h5⟩ := PCells_vals h2
    obtain ⟨vs, h6, h7⟩ := PFlat_of h3
    refine ⟨r ++ vs, ⟨r, vs, rfl, h1, h4, h6⟩, fun j v hj => ?_⟩
    by_cases hl : j < r.length
    · rw [List.getElem?_append_left hl] at hj; exact h5 j v hj
    · rw [List.getElem?_append_right (by omega)] at hj
      have := h7 (j - r.length) v hj
      rw [show k + E + (j - r.length) = k + j by rw [← h1, All2_len h4]; omega] at this
      exact this
theorem PFlat.oneCell {g : G} {w : World} {E : Nat} : ∀ {xs : List AV} {vs : List Value}, PFlat g w E xs vs → ∀ v ∈ vs, v.oneCell' = true
  | [], vs, h, v, hv => by simp only [PFlat] at h; subst h; cases hv
  | x :: xs, vs, ⟨r, vs', e, h1, h2, h3⟩, v, hv => by
    subst e
    replace hv := List.mem_append.1 hv
    rcases hv with hv | hv
    · clear h1 h3
      generalize cells x = cs at h2
      clear vs'
      induction cs generalizing r with
      | nil => cases r with
        | nil => cases hv
        | cons _ _ => exact h2.elim
      | cons c cs ih => cases r with
        | nil => cases hv
        | cons u us =>
          cases hv with
          | head => exact (V1_one (g := g) (H := []) (V1_of_PCell (PC.weak h2.1))).2
          | tail _ hv => exact ih us hv h2.2
    · exact h3.oneCell v hv
theorem PFlat.rep {g : G} {w : World} {E : Nat} {z : AV} {r : List Value} (h1 : (cells z).length = E) (h2 : All2 (PC g w) (cells z) r) : ∀ n : Nat, PFlat g w E (List.replicate n z) (List.replicate n r).flatten
  | 0 => by simp [PFlat]
  | n + 1 => by
    simp only [List.replicate_succ, List.flatten_cons]
    exact ⟨r, _, rfl, h1, h2, PFlat.rep h1 h2 n⟩
theorem PFlat.set {g : G} {w : World} {E : Nat} {z : AV} {rr : List Value} (h1 : (cells z).length = E) (h2 : All2 (PC g w) (cells z) rr) : ∀ {xs : List AV} {vs : List Value} {i : Nat}, PFlat g w E xs vs → i < xs.length →
    PFlat g w E (xs.set i z) (splice vs (i * E) rr)
  | [], _, _, _, h => by simp at h
  | x :: xs, vs, 0, ⟨r, vs', e, h3, h4, h5⟩, _ => by
    subst e
    refine ⟨rr, vs', ?_, h1, h2, h5⟩
    have : r.length = rr.length := by rw [← All2_len h4, ← All2_len h2, h1, h3]
    simp [splice, ← this]
  | x :: xs, vs, i + 1, ⟨r, vs', e, h3, h4, h5⟩, h => by
    subst e
    refine ⟨r, _, ?_, h3, h4, PFlat.set h1 h2 h5 (by simpa using h)⟩
    have hr : r.length = E := by rw [← All2_len h4, h3]
    simp only [splice]
    rw [Nat.succ_mul, ← hr, Nat.add_comm (i * r.length), List.take_length_add_append, Nat.add_assoc, List.drop_length_add_append]
    simp
theorem flat_rep {zero : Array Value} {n : Nat} (h : 0 < zero.size ∨ n = 0) : ((Array.range (n * zero.size)).map (zero[· % zero.size]!)).toList = (List.replicate n zero.toList).flatten := by
  rcases h with h | rfl
  · have key : ∀ n, ((List.range (n * zero.size)).map (fun i => zero[i % zero.size]!)) = (List.replicate n zero.toList).flatten := by
      intro n
      induction n with
      | zero => simp
      | succ n ih =>
        rw [Nat.succ_mul, List.range_add, List.map_append, ih, List.replicate_succ', List.flatten_append]
        congr 1
        simp only [List.map_map, List.flatten_cons, List.flatten_nil, List.append_nil]
        apply List.ext_getElem?
        intro j
        simp only [List.getElem?_map, Array.getElem?_toList]
        by_cases hj : j < zero.size
        · rw [List.getElem?_range hj]
          have : (n * zero.size + j) % zero.size = j := by
            rw [Nat.mul_comm, Nat.mul_add_mod, Nat.mod_eq_of_lt hj]
          simp [this, hj]
        · rw [List.getElem?_eq_none (by simp; omega), Array.getElem?_eq_none (by omega)]
          rfl
    rw [Array.toList_map, Array.toList_range]
    exact key n
  · simp
theorem foldl_lay : ∀ (vs : List Value) (off j : Nat) (cs : Array Value), off + j + vs.length ≤ cs.size →
    ((vs.zipIdx j).foldl (fun cs (c, j) => cs.setIfInBounds (off + j) c) cs).toList = splice cs.toList (off + j) vs
  | [], off, j, cs, _ => by simp [splice]
  | v :: vs, off, j, cs, h => by
    simp only [List.length_cons] at h
    rw [List.zipIdx_cons, List.foldl_cons, foldl_lay vs off (j + 1) _ (by simp; omega)]
    simp only [Array.toList_setIfInBounds, splice]
    have := list_seg_step cs.toList (off + j) v vs (by simp; omega)
    rw [show off + (j + 1) = off + j + 1 by omega]
    rw [this, List.length_cons]
theorem fill_one {place : Nat → Option (Nat × Nat)} {cs : Array Value} {i off size : Nat} {v : Value} {rest : List (Nat × Value)} (h : place i = some (off, size)) (h1 : v.cells.size = size) (h2 : off + v.cells.size ≤ cs.size) :
    Instr.fill place cs ((i, v) :: rest) = Instr.fill place (splice cs.toList off v.cells.toList).toArray rest := by
  have h3 := foldl_lay v.cells.toList off 0 cs (by simpa using h2)
  simp only [Nat.add_zero] at h3
  have h4 : ¬ (v.cells.size ≠ size ∨ off + v.cells.size > cs.size) := by omega
  simp only [Instr.fill, h]
  rw [← Array.foldl_toList, Array.toList_zipIdx]
  rw [if_neg (by simpa using h4)]
  congr 1
  apply Array.ext'
  simpa using h3
end
end Go.AM
namespace Go.AM
section
variable {P : Program} {T : TypeId → Option TI} {o : Oper} {tm : List AV} {hp : List Blk} {κ : AV → List Blk → R} {r : AV × List Blk}
def StepM (P : Program) (o : Oper) (tm : List AV) (hp : List Blk) (κ : AV → List Blk → R) (r : AV × List Blk) : Prop :=
  ∃ v hp', κ v hp' = some r ∧ OpM P o tm hp v hp'
theorem All2.append {R : AV → Value → Prop} : ∀ {xs ys : List AV} {vs us : List Value}, All2 R xs vs → All2 R ys us → All2 R (xs ++ ys) (vs ++ us)
  | [], _, [], _, _, h => h
  | _ :: _, _, _ :: _, _, h, h' => ⟨h.1, h.2.append h'⟩
  | [], _, _ :: _, _, h, _ => h.elim
  | _ :: _, _, [], _, h, _ => h.elim
theorem All2.take {R : AV → Value → Prop} : ∀ {n : Nat} {xs : List AV} {vs : List Value}, All2 R xs vs → All2 R (xs.take n) (vs.take n)
  | 0, _, _, _ => by simp [All2]
  | n + 1, [], [], _ => by simp [All2]
  | n + 1, _ :: _, _ :: _, h => ⟨h.1, h.2.take⟩
  | _ + 1, [], _ :: _, h => h.elim
  | _ + 1, _ :: _, [], h => h.elim
theorem All2.drop {R : AV → Value → Prop} : ∀ {n : Nat} {xs : List AV} {vs : List Value}, All2 R xs vs → All2 R (xs.drop n) (vs.drop n)
  | 0, _, _, h => h
  | n + 1, [], [], _ => by simp [All2]
  | n + 1, _ :: _, _ :: _, h => h.2.drop
  | _ + 1, [], _ :: _, h => h.elim
  | _ + 1, _ :: _, [], h => h.elim
theorem All2.splice {R : AV → Value → Prop} {n : Nat} {xs ys : List AV} {vs us : List Value} (h : All2 R xs vs) (h' : All2 R ys us) : All2 R (splice xs n ys) (splice vs n us) := by
  unfold AM.splice
  rw [All2_len h']
  exact (h.take.append h').append h.drop
theorem splice_nil {α : Type} (cs : List α) (off : Nat) : splice cs off [] = cs := by simp [splice]
theorem splice_len {α : Type} {cs vs : List α} {off : Nat} (h : off + vs.length ≤ cs.length) : (splice cs off vs).length = cs.length := by
  simp [splice]; omega
theorem places_run {w : World} {fields : Array Field} (h : ∀ f ∈ fields, ∃ i, P.info? f.type = some i) :
    ∃ places : Array (Nat × Nat), (fields.mapM fun (f : Field) => do pure (f.offset, ← Go.sizeOf f.type) : Sem (Array (Nat × Nat))).run P w = .ok places w ∧
      ∀ (i : Nat) (f : Field), fields[i]? = some f → ∃ inf, P.info? f.type = some inf ∧ places[i]? = some (f.offset, inf.size) := by
  have key : ∀ fs : List Field, (∀ f ∈ fs, ∃ i, P.info? f.type = some i) → ∃ places, fs.mapM (fun (f : Field) => (P.info? f.type).map fun i => (f.offset, i.size)) = some places ∧
      ∀ (i : Nat) f, fs[i]? = some f → ∃ inf, P.info? f.type = some inf ∧ places[i]? = some (f.offset, inf.size) := by
    intro fs
    induction fs with
    | nil => intro _; exact ⟨[], by simp, fun i f h => by simp at h⟩
    | cons f fs ih =>
      intro hh
      obtain ⟨inf, hi⟩ := hh f (by simp)
      obtain ⟨ps, hp, hall⟩ := ih fun f hf => hh f (by simp [hf])
      refine ⟨(f.offset, inf.size) :: ps, by simp [List.mapM_cons, hi, hp], fun i f' hf => ?_⟩
      cases i with
      | zero => simp at hf; subst hf; exact ⟨inf, hi, rfl⟩
      | succ i => simpa using hall i f' (by simpa using hf)
  obtain ⟨ps, h1, h2⟩ := key fields.toList (fun f hf => h f (by simpa using hf))
  refine ⟨ps.toArray, ?_, fun i f hf => by simpa using h2 i f (by simpa using hf)⟩
  have := run_places (P := P) w fields.toList ps h1
  have e : (fields.mapM fun (f : Field) => do pure (f.offset, ← Go.sizeOf f.type) : Sem (Array (Nat × Nat))) = List.toArray <$> (fields.toList.mapM fun (f : Field) => Prod.mk f.offset <$> Go.sizeOf f.type) := by
    rw [Array.mapM_eq_mapM_toList]
    rfl
  rw [e]
  simp [this]
theorem fill_ok {fields : Array Field} {offs : List (Nat × TypeId)} (hT : TOk P T) (ho : offs = fields.toList.map fun f => (f.offset, f.type)) : ∀ {ps : List (Nat × Operand)} {cs : List AV} {κ : List AV → R}, fillK T offs tm ps cs κ = some r →
      ∃ cs', κ cs' = some r ∧ ∀ (g : G) (H : List Blk) (w : World) (a : Act) (places : Array (Nat × Nat)), (∀ (i : Nat) (f : Field), fields[i]? = some f → ∃ inf, P.info? f.type = some inf ∧ places[i]? = some (f.offset, inf.size)) →
        (∀ x ∈ ps.map (·.2), ∀ u, evD tm x = some u → V3 g H w u (a.eval x)) → ∀ vs : List Value, All2 (V1 g H w) cs vs →
        ∃ vs', Instr.fill (places[·]?) vs.toArray (ps.map fun (i, x) => (i, a.eval x)) = some vs'.toArray ∧ All2 (V1 g H w) cs' vs'
  | [], cs, κ, h => ⟨cs, h, fun _ _ _ _ _ _ _ vs hv => ⟨vs, rfl, hv⟩⟩
  | (i, x) :: l, cs, κ, h => by
    simp only [fillK] at h
    obtain ⟨⟨off, ft⟩, h1, h⟩ := getK_some h
    obtain ⟨sz, a2, b2, z2, d2, hf, h⟩ := tyK_some h
    obtain ⟨v, hv, h⟩ := evK_some h
    subst ho
    obtain ⟨fl, e1, e2, e3⟩ := field_get h1
    subst e3
    have key : ∀ u : List AV, cells v = u → (∀ g H w val, V3 g H w v val → V2 g H w v val) → sz = u.length → u ≠ [] → (spliceK cs off u fun cs => fillK T (fields.toList.map fun f => (f.offset, f.type)) tm l cs κ) = some r →
        ∃ cs', κ cs' = some r ∧ ∀ (g : G) (H : List Blk) (w : World) (a : Act) (places : Array (Nat × Nat)), (∀ (i : Nat) (f : Field), fields[i]? = some f → ∃ inf, P.info? f.type = some inf ∧ places[i]? = some (f.offset, inf.size)) →
        (∀ x_1 ∈ ((i, x) :: l).map (·.2), ∀ u, evD tm x_1 = some u → V3 g H w u (a.eval x_1)) → ∀ vs : List Value, All2 (V1 g H w) cs vs →
        ∃ vs', Instr.fill (places[·]?) vs.toArray (((i, x) :: l).map fun (i, x) => (i, a.eval x)) = some vs'.toArray ∧ All2 (V1 g H w) cs' vs' := by
      intro u hu hv2 hlen hne h
      obtain ⟨_, h6, h7⟩ := spliceK_some h
      obtain ⟨cs', h8, h9⟩ := fill_ok hT rfl h7
      refine ⟨cs', h8, fun g H w a places hp hh vs hvs => ?_⟩
      obtain ⟨inf, e4, e5⟩ := hp i fl e1
      have hsz : inf.size = sz := by
        obtain ⟨i', h1', h2', _⟩ := (hT _ _ _ _ _ _ hf).info
        rw [e4] at h1'; cases h1'; exact h2'
      have h10 := V2_cells (hv2 _ _ _ _ (hh x (by simp) v hv))
      have h11 : (a.eval x).cells.size = u.length := by
        have := All2_len h10
        rw [hu] at this
        simpa using this.symm
      have hb := h6.resolve_left hne
      have h12 := hvs.splice (n := off) h10
      have h13 : (if u = [] then cs else splice cs off u) = splice cs off (cells v) := by
        rw [hu, if_neg hne]
      rw [h13] at h9
      obtain ⟨vs', h14, h15⟩ := h9 g H w a places hp (fun y hy => hh y (by simp at hy ⊢; exact .inr hy)) _ h12
      refine ⟨vs', ?_, h15⟩
      rw [List.map_cons]
      rw [fill_one (off := fl.offset) (size := inf.size) e5 (by omega) (by simp; rw [← All2_len hvs]; omega), e2]
      exact h14
    split at h
    · cases h
    · rename_i us hus
      rw [lenK_eq, Nat.zero_add] at h
      obtain ⟨h1, h⟩ := beqE_some h
      exact key us rfl (fun _ _ _ _ h => h) h1 (fun e => hus (by rw [e])) h
    · cases h
    · cases h
    · cases h
    · cases h
    · cases h
    · rename_i n1 n2 na n3 n4 n5
      obtain ⟨h1, h⟩ := beqE_some h
      have hc : cells v = [v] := by
        cases v <;> first
          | rfl
          | exact absurd rfl (n1 _)
      refine key [v] hc (fun g H w val hval => ?_) h1 (by simp) h
      cases v <;> first
        | exact hval
        | exact absurd rfl n2
        | exact absurd rfl na
        | exact absurd rfl (n3 _)
        | exact absurd rfl (n4 _ _ _)
        | exact absurd rfl (n5 _ _)
theorem build_step (hT : TOk P T) {t : TypeId} {ps : Array (Nat × Operand)} (ho : o.op = .build t ps) (h : (tyK T t fun sz _ _ z d => match (generalizing := false) z, d with
    | .agg zs, .struct offs _ => fillK T offs tm ps.toList zs fun cs => κ (.agg cs) hp
    | _, _ => none) = some r) : StepN P o tm hp κ r := by
  obtain ⟨sz, a1, b1, z, d1, hs, h⟩ := tyK_some h
  split at h
  case h_2 => cases h
  rename_i zs offs eq
  obtain ⟨u, hu, _, fields, rfl, hof⟩ := (hT _ _ _ _ _ _ hs).under
  obtain ⟨cs', h1, h2⟩ := fill_ok hT hof h
  refine ⟨_, hp, h1, opN_pure fun a w g H hH _ hh hg => ?_⟩
  obtain ⟨zv, e1, e2, e3⟩ := (hT _ _ _ _ _ _ hs).zeroValue (w := w) (by simp)
  obtain ⟨vs, rfl, hvs⟩ := e3 g H w
  obtain ⟨places, e4, e5⟩ := places_run (P := P) (w := w) ((hT _ _ _ _ _ _ hs).flds fields hu)
  obtain ⟨vs', e6, e7⟩ := h2 g H w a places e5 (fun x hx => hh x (by rw [ho]; simp [Op.operands]; simpa using hx)) vs hvs
  refine ⟨.agg vs'.toArray, ?_, vs', rfl, e7⟩
  have hu' := run_underlying hu w
  have e6' : Instr.fill (fun x => places[x]?) (Value.agg { toList := vs }).cells (ps.map fun (i, x) => (i, a.eval x)).toList = some vs'.toArray := by
    rw [Array.toList_map]; exact e6
  simp only [execOp, ho, Instr.build, Sem.run_bind, e1, Result.andThen_ok, hu', e4, e6', Sem.run_pure]
end
end Go.AM
namespace Go.AM
section
variable {P : Program} {T : TypeId → Option TI} {o : Oper} {tm : List AV} {hp : List Blk} {κ : AV → List Blk → R} {r : AV × List Blk}
theorem LenOk_last {H : List Blk} {E : Nat} {xs : List AV} (h : hp ++ [.rows .live E xs] <+: H) : LenOk H hp.length xs.length := by
  intro m E' ys hh _
  rw [prefix_last h] at hh
  cases hh
  rfl
theorem own_new {g : G} {H : List Blk} {w : World} {E n : Nat} {xs : List AV} {b : Nat} {c : Bool} (h : hp ++ [.rows .live E xs] <+: H) (hd : g.dom hp.length) (hρ : g.ρ hp.length = some (b, 0)) (hn : xs.length ≤ n) (hc : c = true → n = xs.length) (hu : Unf w b (n * E)) :
    V3 g H w (.own hp.length E none c) (.slice (some ⟨b, 0, none⟩) xs.length n) := by
  refine ⟨hd, ?_⟩
  rw [hρ]
  refine ⟨0, 0, xs.length, n, rfl, .inl (by simp), hn, hc, fun _ m E' ys hh _ => ?_, by simpa using hu, rfl, LenOk_last h⟩
  rw [prefix_last h] at hh
  cases hh
  simpa using hn
theorem own_null {g : G} {H : List Blk} {w : World} {E : Nat} {c : Bool} {A : Option Addr} (h : hp ++ [.rows .live E []] <+: H) (hd : g.dom hp.length) (hρ : g.ρ hp.length = none) :
    V3 g H w (.own hp.length E none c) (.slice A 0 0) := by
  refine ⟨hd, ?_⟩
  rw [hρ]
  exact ⟨⟨A, rfl⟩, LenOk_last h⟩
theorem assign_step (hT : TOk P T) {x : Operand} (ho : o.op = .assign x) (h : (evK tm x fun
    | .nil => tyK T o.type fun _ _ _ _ d => match (generalizing := false) d with
      | .slice e => tyK T e fun E _ _ _ _ => snocK hp (.rows .live E []) 0 fun n hp => κ (.own n E none false) hp
      | _ => none
    | v => κ v hp) = some r) : StepN P o tm hp κ r := by
  obtain ⟨v, hv, h⟩ := evK_some h
  split at h
  · obtain ⟨s1, a1, b1, z1, d1, hs, h⟩ := tyK_some h
    split at h
    case h_2 => cases h
    obtain ⟨E, a2, b2, z2, d2, he, h⟩ := tyK_some h
    rw [snocK_eq, Nat.zero_add] at h
    refine ⟨_, _, h, opN_null fun a w g H hH hh hg hτ => ?_⟩
    have h1 := hh x (by simp [ho, Op.operands]) _ hv
    simp only [V3, V2, V1, PCell] at h1
    obtain ⟨A, h1⟩ := h1
    refine ⟨.slice A 0 0, by simp [execOp, ho, h1], fun g' hg' => ?_⟩
    subst hg'
    exact own_null hH G.add_dom G.add_ρ
  · exact ⟨v, hp, h, move_ok (.inr ho) hv⟩
theorem purz_ok {z : AV} {κ : AV → List Blk → R} (h : purK [] z κ = some r) : ∃ z', κ z' [] = some r ∧ (cells z').length = (cells z).length ∧ (z ≠ .top) ∧
    ∀ (g : G) (H : List Blk) (w : World) (v : Value), V2 g H w z v → PE g w z' v := by
  have one : ∀ {v : AV} {κ : AV → List Blk → R}, pur1K [] v κ = some r → ∃ v', κ v' [] = some r ∧ cells v' = [v'] ∧ ∀ (g : G) (H : List Blk) (w : World) (u : Value), V1 g H w v u → PC g w v' u := by
    intro v κ h
    cases v with
    | lst o c E xs =>
      simp only [pur1K] at h
      rcases cond_some h with ⟨_, h1⟩ | ⟨rfl, h1⟩
      · cases h1
      · refine ⟨_, h1, rfl, fun g H w u hh => ?_⟩
        simp only [V1, PC, PCell] at hh ⊢
        obtain ⟨A, cap, e1, e2, e3, e4⟩ := hh
        exact ⟨A, cap, e1, e2, fun e => (by cases e), by simpa [PRows] using e4⟩
    | _ => simp only [pur1K] at h; first
      | exact ⟨_, h, rfl, fun g H w u hh => hh⟩
      | (cases h; done)
      | (simp [getK] at h; done)
  have many : ∀ {l : List AV} {κ : List AV → List Blk → R}, pursK [] l κ = some r → ∃ l', κ l' [] = some r ∧ l'.length = l.length ∧ ∀ (g : G) (H : List Blk) (w : World) (u : List Value), All2 (V1 g H w) l u → All2 (PC g w) l' u := by
    intro l
    induction l with
    | nil => intro κ h; exact ⟨_, h, rfl, fun g H w u hh => by cases u with | nil => trivial | cons _ _ => exact hh.elim⟩
    | cons x l ih =>
      intro κ h
      simp only [pursK] at h
      obtain ⟨x', h, _, h1⟩ := one h
      obtain ⟨l', h, hl, h2⟩ := ih h
      refine ⟨x' :: l', h, by simp [hl], fun g H w u hh => ?_⟩
      cases u with
      | nil => exact hh.elim
      | cons v vs => exact ⟨h1 g H w v hh.1, h2 g H w vs hh.2⟩
  unfold purK at h
  split at h
  · obtain ⟨l', h, hl, h1⟩ := many h
    exact ⟨_, h, by simpa [cells] using hl, by simp, fun g H w v ⟨vs, e, hv⟩ => by subst e; exact h1 g H w vs hv⟩
  · rename_i hne
    have hc : cells z = [z] := by
      cases z <;> first
        | rfl
        | exact absurd rfl (hne _)
    obtain ⟨z', h', hc', h1⟩ := one h
    refine ⟨_, h', by rw [hc, hc']; rfl, fun e => by subst e; simp [pur1K] at h, fun g H w v hv => ?_⟩
    have hv : V1 g H w z v := by
      cases z <;> first
        | exact hv
        | exact absurd rfl (hne _)
    unfold PE
    rw [hc', (V1_one hv).1]
    exact ⟨h1 g H w v hv, trivial⟩
theorem PFlat.take {g : G} {w : World} {E : Nat} : ∀ {n : Nat} {xs : List AV} {vs : List Value}, PFlat g w E xs vs → PFlat g w E (xs.take n) (vs.take (n * E))
  | 0, xs, vs, h => by simp [PFlat]
  | n + 1, [], vs, h => by simp only [PFlat] at h; subst h; simp [PFlat]
  | n + 1, x :: xs, vs, ⟨r, vs', e, h1, h2, h3⟩ => by
    subst e
    refine ⟨r, vs'.take (n * E), ?_, h1, h2, h3.take⟩
    rw [Nat.succ_mul, ← h1, All2_len h2, Nat.add_comm, List.take_length_add_append]
theorem makeSlice_step (hT : TOk P T) {t : TypeId} {l c : Operand} (ho : o.op = .makeSlice t l c) (h : (tyK T t fun _ _ _ _ d => match (generalizing := false) d with
    | .slice e => tyK T e fun E _ by_ z _ => evK tm l fun
      | .int _ l => evK tm c fun
        | .int _ c => bif Nat.beq by_ 0 then none else bif ile 0 l && ile l c && fits c by_ then
            purK [] z fun z _ => snocK hp (.rows .live E (lrep l z)) 0 fun n hp => κ (.own n E none false) hp else none
        | _ => none
      | _ => none
    | _ => none) = some r) : StepN P o tm hp κ r := by
  obtain ⟨s1, a1, b1, z1, d1, hs, h⟩ := tyK_some h
  split at h
  case h_2 => cases h
  rename_i e
  obtain ⟨E, a2, b2, z, d2, he, h⟩ := tyK_some h
  obtain ⟨v, hv, h⟩ := evK_some h
  split at h
  case h_2 => cases h
  rename_i k1 l'
  obtain ⟨v', hv', h⟩ := evK_some h
  split at h
  case h_2 => cases h
  rename_i k2 c'
  rcases cond_some h with ⟨_, h⟩ | ⟨hb0, h⟩
  · cases h
  have hb0 : b2 ≠ 0 := by intro e; subst e; cases hb0
  obtain ⟨hcond, h⟩ := cond_none h
  simp only [Bool.and_eq_true, ile_eq, fits_eq, decide_eq_true_eq] at hcond
  obtain ⟨z', h, hzl, hz, hpe⟩ := purz_ok h
  rw [snocK_eq, Nat.zero_add, lrep_eq] at h
  refine ⟨_, _, h, opN_new fun a w g H hH hh hg hτ => ?_⟩
  have h1 := V3_int.1 (hh l (by simp [ho, Op.operands]) _ hv)
  have h2 := V3_int.1 (hh c (by simp [ho, Op.operands]) _ hv')
  obtain ⟨u, hu, _, hr⟩ := (hT _ _ _ _ _ _ hs).underlying (w := w)
  simp only [DRel] at hr
  subst hr
  obtain ⟨i, hi, hi1, hi2, _⟩ := (hT _ _ _ _ _ _ he).typeInfo (w := w)
  obtain ⟨zv, e1, e2, e3⟩ := (hT _ _ _ _ _ _ he).zeroValue (w := w) hz
  have hsz := (hT _ _ _ _ _ _ he).sizeOf (w := w)
  have hb1 : c' * 1 ≤ c' * (b2 : Int) := Int.mul_le_mul_of_nonneg_left (by omega) (by omega)
  have w1 : IntKind.i64.wrap l' = l' := by
    simp [IntKind.wrap, IntKind.signed, IntKind.bits]
    omega
  have w2 : IntKind.i64.wrap c' = c' := by
    simp [IntKind.wrap, IntKind.signed, IntKind.bits]
    omega
  have hzero : (if c'.toNat * E = 0 then pure #[] else do pure (← Go.zeroValue e).cells : Sem (Array Value)).run P w = .ok (if c'.toNat * E = 0 then #[] else zv.cells) w := by
    by_cases h0 : c'.toNat * E = 0
    · rw [if_pos h0, if_pos h0]; simp
    · rw [if_neg h0, if_neg h0]; simp [e1]
  have hcells : ((Array.range (c'.toNat * E)).map (fun j => (if c'.toNat * E = 0 then #[] else zv.cells)[j % (if c'.toNat * E = 0 then #[] else zv.cells).size]!)).toList = (List.replicate c'.toNat zv.cells.toList).flatten := by
    by_cases h0 : c'.toNat * E = 0
    · rw [if_pos h0, h0]
      rcases Nat.mul_eq_zero.1 h0 with h0 | h0
      · simp [h0]
      · have : zv.cells.toList = [] := List.eq_nil_of_length_eq_zero (by simpa [e2] using h0)
        rw [this]; simp
    · rw [if_neg h0]
      have := flat_rep (zero := zv.cells) (n := c'.toNat) (.inl (by rw [e2]; exact Nat.pos_of_ne_zero fun h => h0 (by rw [h]; simp)))
      rw [e2] at this
      rw [e2]
      exact this
  refine ⟨.slice (some ⟨w.heap.size, 0, none⟩) l'.toNat c'.toNat, _, e, w.alloc (.cells ((Array.range (c'.toNat * E)).map (fun j => (if c'.toNat * E = 0 then #[] else zv.cells)[j % (if c'.toNat * E = 0 then #[] else zv.cells).size]!)) e), ?_, rfl, .refl w, ?_⟩
  · have hne1 : ¬ (c' < 0) := by omega
    have hne2 : ¬ ((b2 : Int) * c' > 2 ^ 48) := by rw [Int.mul_comm]; omega
    have hne3 : ¬ l' < 0 := by omega
    have hne4 : ¬ l' > c' := by omega
    simp only [execOp, ho, h1, h2, Instr.makeSlice, asInt, asIntOf, Sem.run_bind, hu, Result.andThen_ok, Sem.run_pure, hi, w1, w2, hi2]
    rw [if_neg (by simp [hne1, hne2, hne3, hne4]; omega)]
    simp only [Sem.run_bind]
    have hroom : (askRoom (c'.toNat * b2)).run P w = .ok () w := by simp
    simp only [hroom, Result.andThen_ok, hsz]
    by_cases h0 : c'.toNat * E = 0 <;> simp [newRow, h0, e1]
  · intro g' hg' ht
    subst hg'
    have hpl : PFlat (g.add hp.length (some (w.heap.size, 0))) (w.alloc (.cells ((Array.range (c'.toNat * E)).map (fun j => (if c'.toNat * E = 0 then #[] else zv.cells)[j % (if c'.toNat * E = 0 then #[] else zv.cells).size]!)) e)) E (List.replicate c'.toNat z') (List.replicate c'.toNat zv.cells.toList).flatten := by
      refine PFlat.rep ?_ (hpe _ [] _ zv (e3 _ _ _)) _
      have := All2_len (V2_cells (e3 g H w))
      rw [hzl, this]; simpa using e2
    have hlen := hpl.len
    have hpl2 := hpl.take (n := l'.toNat)
    rw [List.take_replicate, Nat.min_eq_left (by omega)] at hpl2
    refine ⟨.inr ⟨w.heap.size, 0, G.add_ρ, fun h => ?_, unf_push rfl (Nat.zero_le _), hpl2.rows fun j v hj => ?_⟩, ?_⟩
    · have := hg.lt _ h; omega
    · rw [Nat.zero_add, cell_push rfl, ← Array.getElem?_toList, hcells]
      rw [List.getElem?_take] at hj
      split at hj
      · exact hj
      · cases hj
    · have := own_new (E := E) (n := c'.toNat) (c := false) hH (G.add_dom (g := g) (p := some (w.heap.size, 0))) G.add_ρ (by simp; omega) (by simp) (w := w.alloc (.cells ((Array.range (c'.toNat * E)).map (fun j => (if c'.toNat * E = 0 then #[] else zv.cells)[j % (if c'.toNat * E = 0 then #[] else zv.cells).size]!)) e)) (unf_push rfl (by simp))
      simpa using this
end
end Go.AM
namespace Go.AM
section
variable {P : Program} {T : TypeId → Option TI} {o : Oper} {tm : List AV} {hp : List Blk} {κ : AV → List Blk → R} {r : AV × List Blk}
theorem repK_eq : ∀ (n : Nat) (v : AV) (κ : List AV → R), repK n v κ = κ (List.replicate n v)
  | 0, _, _ => rfl
  | n + 1, v, κ => by simp [repK, repK_eq n, List.replicate_succ]
theorem Trans.ext {g : G} {H H' : List Blk} {w : World} (hp : H <+: H') (hd : ∀ τ, g.dom τ → τ < H.length) : Trans g H w g H' w where
  dom _ h := h
  ρ _ _ := rfl
  S _ h := h
  Sl _ h := h
  newS _ h := .inl h
  newSl _ h := .inl h
  size := Nat.le_refl _
  shape := .refl w
  env := .refl w
  prot _ _ _ := rfl
  own b h := by
    obtain ⟨τ, o, h1, h2, blk, h3, h4⟩ := h
    refine .inr ⟨τ, o, h1, h2, blk, ?_, h4⟩
    obtain ⟨L, rfl⟩ := hp
    rw [List.getElem?_append_left (hd τ h1)] at h3
    exact h3
  len τ h m E xs hx hm := by
    obtain ⟨L, rfl⟩ := hp
    rw [List.getElem?_append_left (hd τ h)] at hx
    exact ⟨m, xs, hx, hm, rfl⟩
  box τ h y hy := by
    obtain ⟨L, rfl⟩ := hp
    rw [List.getElem?_append_left (hd τ h)] at hy
    exact ⟨y, hy⟩
theorem Good.ext {g : G} {H H' : List Blk} {w : World} (hg : Good g H w) (hp : H <+: H') (hd : ∀ τ, g.dom τ → τ < H.length) : Good g H' w where
  sub := hg.sub
  lt := hg.lt
  tok x hx := by
    obtain ⟨blk, hb, hr⟩ := hg.tok x hx
    exact ⟨blk, prefix_get hp hb, hr.trans (Trans.ext hp hd) hg hx fun b o hρ ho => ⟨rfl, Own.notS hg ⟨x, o, hx, hρ, owned_of hb ho⟩⟩⟩
  inj x y b o o' hx hy h1 h2 h3 h4 := by
    have key : ∀ z, g.dom z → owned H' z → owned H z := by
      rintro z hz ⟨blk, h5, h6⟩
      obtain ⟨L, rfl⟩ := hp
      rw [List.getElem?_append_left (hd z hz)] at h5
      exact ⟨blk, h5, h6⟩
    exact hg.inj x y b o o' hx hy h1 h2 (key x hx h3) (key y hy h4)
theorem elems_ok {E : Nat} : ∀ {ps : List (Nat × Operand)} {xs : List AV} {hp : List Blk} {κ : List AV → List Blk → R}, elemsK E tm hp ps xs κ = some r →
      ∃ xs' hp', κ xs' hp' = some r ∧ hp'.length = hp.length ∧ xs'.length = xs.length ∧ ∀ (g : G) (w : World) (a : Act), Good g hp w →
        (∀ x ∈ ps.map (·.2), ∀ u, evD tm x = some u → V3 g hp w u (a.eval x)) → ∀ vs : List Value, PFlat g w E xs vs →
        ∃ g', Trans g hp w g' hp' w ∧ Good g' hp' w ∧ g'.dom = g.dom ∧
          ∃ vs', Instr.fill (fun i => some (i * E, E)) vs.toArray (ps.map fun (i, x) => (i, a.eval x)) = some vs'.toArray ∧ PFlat g' w E xs' vs'
  | [], xs, hp, κ, h => ⟨xs, hp, h, rfl, rfl, fun g w a hg _ vs hv => ⟨g, Trans.refl g hp w, hg, rfl, vs, rfl, hv⟩⟩
  | (i, x) :: l, xs, hp, κ, h => by
    simp only [elemsK] at h
    obtain ⟨v, hv, h⟩ := evK_some h
    rw [lenK_eq, Nat.zero_add] at h
    obtain ⟨hE, h⟩ := beqE_some h
    rw [lenK_eq, Nat.zero_add] at h
    obtain ⟨hi, h'⟩ := cond_none h
    have hi := Nat.le_of_ble_eq_true hi
    obtain ⟨v', hp1, h, hl, hV, hlen, hf⟩ := pur_ok h'
    rw [setK_eq] at h
    obtain ⟨xs', hp2, h, h2, h3, h4⟩ := elems_ok h
    refine ⟨xs', hp2, h, by omega, by simpa using h3, fun g w a hg hh vs hvs => ?_⟩
    have hx := hV _ _ _ _ (hh x (by simp) v hv)
    obtain ⟨g1, ht1, hg1, hd1, hp1⟩ := hf g w _ hg hx
    have hps := PFlat.set (i := i) (hl.trans hE) hp1 (hvs.trans ht1 hg) (by omega)
    obtain ⟨g2, ht2, hg2, hd2, vs', h5, h6⟩ := h4 g1 w a hg1 (fun y hy u hu => (hh y (by simp at hy ⊢; exact .inr hy) u hu).trans ht1 hg) _ hps
    refine ⟨g2, ht1.trans ht2, hg2, hd2.trans hd1, vs', ?_, h6⟩
    have hsz : (a.eval x).cells.size = E := by
      have := All2_len hp1
      rw [hl, hE] at this
      simpa using this.symm
    have hle : (i + 1) * E ≤ xs.length * E := Nat.mul_le_mul_right _ hi
    rw [List.map_cons, fill_one (off := i * E) (size := E) rfl hsz (by rw [hsz]; simp only [List.size_toArray]; rw [hvs.len, ← Nat.succ_mul]; exact hle)]
    exact h5
theorem buildSlice_step (hT : TOk P T) {t : TypeId} {n : Nat} {ps : Array (Nat × Operand)} (ho : o.op = .buildSlice t n ps) (h : (tyK T t fun _ _ _ _ d => match (generalizing := false) d with
    | .slice e => tyK T e fun E _ _ z _ => bif Nat.ble (n * E) 16777216 then purK [] z fun z _ => repK n z fun xs => elemsK E tm hp ps.toList xs fun xs hp => snocK hp (.rows .live E xs) 0 fun n hp => κ (.own n E none false) hp else none
    | _ => none) = some r) : StepM P o tm hp κ r := by
  obtain ⟨s1, a1, b1, z1, d1, hs, h⟩ := tyK_some h
  split at h
  case h_2 => cases h
  rename_i e
  obtain ⟨E, a2, b2, z, d2, he, h⟩ := tyK_some h
  obtain ⟨hn, h⟩ := cond_none h
  have hn := Nat.le_of_ble_eq_true hn
  obtain ⟨z', h, hzl, hz, hpe⟩ := purz_ok h
  rw [repK_eq] at h
  obtain ⟨xs, hp1, h, h1, h2, h3⟩ := elems_ok h
  rw [snocK_eq, Nat.zero_add] at h
  refine ⟨_, _, h, fun Q a w g N hd hh hg hN => ?_⟩
  obtain ⟨u, hu, _, hr⟩ := (hT _ _ _ _ _ _ hs).underlying (w := w)
  simp only [DRel] at hr
  subst hr
  obtain ⟨zv, e1, e2, e3⟩ := (hT _ _ _ _ _ _ he).zeroValue (w := w) hz
  have hsz := (hT _ _ _ _ _ _ he).sizeOf (w := w)
  have hpl : PFlat g w E (List.replicate n z') (List.replicate n zv.cells.toList).flatten := by
    refine PFlat.rep ?_ (hpe _ [] _ zv (e3 _ _ _)) _
    have := All2_len (V2_cells (e3 g hp w))
    rw [hzl, this]; simpa using e2
  obtain ⟨g1, ht1, hg1, hd1, vs', h5, h6⟩ := h3 g w a hg (fun x hx => hh x (by rw [ho]; simp [Op.operands]; simpa using hx)) _ hpl
  have hcells : ((Array.range (n * E)).map (fun j => (if n * E = 0 then #[] else zv.cells)[j % (if n * E = 0 then #[] else zv.cells).size]!)) = (List.replicate n zv.cells.toList).flatten.toArray := by
    apply Array.ext'
    by_cases h0 : n * E = 0
    · rw [if_pos h0, h0]
      rcases Nat.mul_eq_zero.1 h0 with h0 | h0
      · simp [h0]
      · have : zv.cells.toList = [] := List.eq_nil_of_length_eq_zero (by simpa [e2] using h0)
        rw [this]; simp
    · rw [if_neg h0]
      have := flat_rep (zero := zv.cells) (n := n) (.inl (by rw [e2]; exact Nat.pos_of_ne_zero fun h => h0 (by rw [h]; simp)))
      rw [e2] at this
      rw [e2]
      exact this
  rw [← hcells] at h5
  have hrun : (execOp a.eval o).run P w = .ok (.value (.slice (some ⟨w.heap.size, 0, none⟩) n n)) (w.alloc (.cells vs'.toArray e)) := by
    simp only [execOp, ho, Instr.buildSlice, Sem.run_bind, hu, Result.andThen_ok, hsz]
    rw [if_neg (by omega)]
    have h5' : Instr.fill (fun i => some (i * E, E)) (Array.map (fun x => (if n * E = 0 then #[] else zv.cells)[x % (if n * E = 0 then #[] else zv.cells).size]!) (Array.range (n * E))) (ps.map fun (i, x) => (i, a.eval x)).toList = some vs'.toArray := by
      rw [Array.toList_map]; exact h5
    by_cases h0 : n * E = 0
    · simp only [h0, if_true] at h5' ⊢
      simp only [Sem.run_bind, Sem.run_pure, Result.andThen_ok, h5']
      simp [newRow]
    · simp only [h0, if_false] at h5' ⊢
      simp only [Sem.run_bind, Sem.run_pure, Result.andThen_ok, e1, h5']
      simp [newRow]
  have hdd : ∀ τ, g1.dom τ → τ < hp1.length := fun τ h => by rw [hd1] at h; have := (hd τ).1 h; omega
  have hpre : hp1 <+: hp1 ++ [.rows .live E xs] := List.prefix_append _ _
  have hg2 := hg1.ext hpre hdd
  have hτ : ¬ g1.dom hp1.length := fun h => by have := hdd _ h; omega
  have ht3 := Trans.push (w1 := w.alloc (.cells vs'.toArray e)) hg2 hτ (cs := vs'.toArray) (el := e) rfl (.refl w)
  have h7 := h6.trans ((Trans.ext hpre hdd).trans ht3) hg1
  simp only [Oper.wp, hrun, Oper.upon]
  have hb : BlkRel (g1.add hp1.length (some (w.heap.size, 0))) (hp1 ++ [.rows .live E xs]) (w.alloc (.cells vs'.toArray e)) hp1.length (.rows .live E xs) := by
    refine .inr ⟨w.heap.size, 0, G.add_ρ, fun h => ?_, unf_push rfl (Nat.zero_le _), h7.rows fun j v hj => ?_⟩
    · have := hg1.lt _ h; omega
    · rw [Nat.zero_add, cell_push rfl]; simpa using hj
  refine hN _ _ _ (ht1.trans ((Trans.ext hpre hdd).trans ht3)) (Good.push hg2 hτ rfl (.refl w) (prefix_last (List.prefix_refl _)) hb) (fun τ => ?_) ?_ ?_
  · simp only [G.add, hd1, hd, List.length_append, List.length_singleton]; omega
  rotate_left
  · intro b hb _
    exact heap_alloc_old hb
  · have hl : xs.length = n := by rw [h2]; simp
    have := own_new (E := E) (n := n) (c := false) (xs := xs) (List.prefix_refl (hp1 ++ [.rows .live E xs])) (G.add_dom (g := g1) (p := some (w.heap.size, 0))) G.add_ρ (by omega) (by simp) (w := w.alloc (.cells vs'.toArray e)) (unf_push rfl (by simp; rw [h6.len, hl]; exact Nat.le_refl _))
    rw [hl] at this
    exact this
end
end Go.AM
namespace Go.AM
section
variable {P : Program} {T : TypeId → Option TI} {o : Oper} {tm : List AV} {hp : List Blk} {κ : AV → List Blk → R} {r : AV × List Blk}
def OptRel (n : Option Int) (v : Option Value) : Prop := (n = none ∧ v = none) ∨ ∃ i k, n = some i ∧ v = some (.int k i)
theorem sliceBound_run {w : World} {k : IntKind} {i : Int} {y n : Nat} {code : BoundsCode} (h : i = n) (hn : n ≤ y) : (Instr.sliceBound (.int k i) y code).run P w = .ok n w := by
  subst h
  have : 0 ≤ (n : Int) ∧ (n : Int) ≤ (y : Int) := by omega
  simp [Instr.sliceBound, asIntOf, this]
theorem sliceBounds_run {w : World} {isS : Bool} {len cap : Nat} {lo hi mx : Option Int} {lv hv mv : Option Value} (h1 : OptRel lo lv) (h2 : OptRel hi hv) (h3 : OptRel mx mv) {M H L : Nat}
    (hM : (mx = none ∧ M = cap) ∨ (mx = some (M : Int) ∧ M ≤ cap)) (hH : (hi = none ∧ mx = none ∧ H = len) ∨ (hi = some (H : Int) ∧ H ≤ M)) (hL : (lo = none ∧ L = 0) ∨ (lo = some (L : Int) ∧ L ≤ H)) :
    (Instr.sliceBounds isS len cap lv hv mv).run P w = .ok (L, H, M) w := by
  unfold Instr.sliceBounds
  rcases h3 with ⟨rfl, rfl⟩ | ⟨m, k3, rfl, rfl⟩
  · obtain rfl : M = cap := by rcases hM with ⟨_, h⟩ | ⟨h, _⟩ <;> simp_all
    rcases h2 with ⟨rfl, rfl⟩ | ⟨h, k2, rfl, rfl⟩
    · obtain rfl : H = len := by rcases hH with ⟨_, _, h⟩ | ⟨h, _⟩ <;> simp_all
      rcases h1 with ⟨rfl, rfl⟩ | ⟨l, k1, rfl, rfl⟩
      · obtain rfl : L = 0 := by rcases hL with ⟨_, h⟩ | ⟨h, _⟩ <;> simp_all
        simp
      · obtain ⟨e, hle⟩ : l = L ∧ L ≤ H := by rcases hL with ⟨h, _⟩ | ⟨h, h'⟩ <;> simp_all
        simp [sliceBound_run e hle]
    · obtain ⟨e, hle⟩ : h = H ∧ H ≤ M := by rcases hH with ⟨h, _⟩ | ⟨h, h'⟩ <;> simp_all
      rcases h1 with ⟨rfl, rfl⟩ | ⟨l, k1, rfl, rfl⟩
      · obtain rfl : L = 0 := by rcases hL with ⟨_, h⟩ | ⟨h, _⟩ <;> simp_all
        simp [sliceBound_run e hle]
      · obtain ⟨e', hle'⟩ : l = L ∧ L ≤ H := by rcases hL with ⟨h, _⟩ | ⟨h, h'⟩ <;> simp_all
        simp [sliceBound_run e hle, sliceBound_run e' hle']
  · obtain ⟨em, hlem⟩ : m = M ∧ M ≤ cap := by rcases hM with ⟨h, _⟩ | ⟨h, h'⟩ <;> simp_all
    rcases h2 with ⟨rfl, rfl⟩ | ⟨h, k2, rfl, rfl⟩
    · rcases hH with ⟨_, h, _⟩ | ⟨h, _⟩ <;> simp at h
    · obtain ⟨e, hle⟩ : h = H ∧ H ≤ M := by rcases hH with ⟨h, _⟩ | ⟨h, h'⟩ <;> simp_all
      rcases h1 with ⟨rfl, rfl⟩ | ⟨l, k1, rfl, rfl⟩
      · obtain rfl : L = 0 := by rcases hL with ⟨_, h⟩ | ⟨h, _⟩ <;> simp_all
        simp [sliceBound_run em hlem, sliceBound_run e hle]
      · obtain ⟨e', hle'⟩ : l = L ∧ L ≤ H := by rcases hL with ⟨h, _⟩ | ⟨h, h'⟩ <;> simp_all
        simp [sliceBound_run em hlem, sliceBound_run e hle, sliceBound_run e' hle']
theorem opt_rel {a : Act} {x : Option Operand} {κ : Option Int → R} (h : optK tm x κ = some r) : ∃ n, κ n = some r ∧
    ∀ (g : G) (H : List Blk) (w : World), (∀ y, x = some y → ∀ u, evD tm y = some u → V3 g H w u (a.eval y)) → OptRel n (x.map a.eval) := by
  cases x with
  | none => exact ⟨none, h, fun g H w _ => .inl ⟨rfl, rfl⟩⟩
  | some y =>
    obtain ⟨v, hv, h⟩ := evK_some h
    split at h
    · rename_i k n
      exact ⟨some n, h, fun g H w hh => .inr ⟨n, k, rfl, by rw [Option.map_some, V3_int.1 (hh y rfl _ hv)]⟩⟩
    · cases h
theorem opt_relE {x : Option Operand} {κ : Option Int → R} (h : optK tm x κ = some r) : ∃ n, κ n = some r ∧
    ∀ (a : Act) (g : G) (H : List Blk) (w : World), (∀ y, x = some y → ∀ u, evD tm y = some u → V3 g H w u (a.eval y)) → OptRel n (x.map a.eval) := by
  cases x with
  | none => exact ⟨none, h, fun a g H w _ => .inl ⟨rfl, rfl⟩⟩
  | some y =>
    obtain ⟨v, hv, h⟩ := evK_some h
    split at h
    · rename_i k n
      exact ⟨some n, h, fun a g H w hh => .inr ⟨n, k, rfl, by rw [Option.map_some, V3_int.1 (hh y rfl _ hv)]⟩⟩
    · cases h
def offA (A : Option Addr) (n : Nat) : Option Addr := A.map (·.add n)
theorem slice_run {w : World} {t e : TypeId} {E : Nat} (hu : (Go.underlying t).run P w = .ok (.slice e) w) (hs : (Go.sizeOf e).run P w = .ok E w) {A : Option Addr} {len cap : Nat}
    {lo hi mx : Option Int} {lv hv mv : Option Value} (h1 : OptRel lo lv) (h2 : OptRel hi hv) (h3 : OptRel mx mv) {M H L : Nat}
    (hM : (mx = none ∧ M = cap) ∨ (mx = some (M : Int) ∧ M ≤ cap)) (hH : (hi = none ∧ mx = none ∧ H = len) ∨ (hi = some (H : Int) ∧ H ≤ M)) (hL : (lo = none ∧ L = 0) ∨ (lo = some (L : Int) ∧ L ≤ H)) :
    (Instr.sliceAt t (.slice A len cap) lv hv mv).run P w = .ok (.slice (if M = L then A else offA A (L * E)) (H - L) (M - L)) w := by
  simp only [Instr.sliceAt, Sem.run_bind, hu, Result.andThen_ok, Instr.slice, sliceBounds_run h1 h2 h3 hM hH hL, hs, Sem.run_pure]
  rfl
theorem lst_slice {g : G} {H : List Blk} {w : World} {oo c c' : Bool} {E : Nat} {xs : List AV} {A : Option Addr} {len cap : Nat} (h : V3 g H w (.lst oo c E xs) (.slice A len cap)) {M Hh L : Nat}
    (h1 : L ≤ Hh) (h2 : Hh ≤ M) (h3 : Hh ≤ xs.length) (hc : c' = true → M = Hh) : V3 g H w (.lst oo c' E (lsub xs L Hh)) (.slice (if M = L then A else offA A (L * E)) (Hh - L) (M - L)) := by
  simp only [V3, V2, V1, PCell] at h ⊢
  obtain ⟨A', cap', e, hc1, hc2, hx⟩ := h
  cases e
  have el : (lsub xs L Hh) = (xs.drop L).take (Hh - L) := by
    rw [lsub_eq]
    congr 1
    omega
  have elen : (lsub xs L Hh).length = Hh - L := by rw [el]; simp; omega
  refine ⟨_, _, by rw [elen], by omega, fun e => by rw [elen]; have := hc e; omega, ?_⟩
  by_cases hm : M = L
  · left
    apply List.eq_nil_of_length_eq_zero
    omega
  · rcases hx with rfl | ⟨b, off, rfl, hS, hR⟩
    · left; rw [el]; simp
    · right
      refine ⟨b, off + L * E, by simp [hm, offA, addr_add], hS, ?_⟩
      rw [el]
      exact PRows_take (PRows_drop hR)
noncomputable def rngD (rr : Option (Int × Int)) (xs : List AV) : Int × Int :=
  match rr with
  | none => (0, ilen xs)
  | some p => p
theorem own_shape {g : G} {H : List Blk} {w : World} {τ E : Nat} {rr : Option (Int × Int)} {c : Bool} {v : Value} {m : Mode} {xs : List AV}
    (h : V1 g H w (.own τ E rr c) v) (hb : H[τ]? = some (.rows m E xs)) (hm : m ≠ .dead) :
    g.dom τ ∧ ((g.ρ τ = none ∧ (∃ A, v = .slice A 0 0) ∧ rngD rr xs = (0, 0)) ∨
      ∃ b base k cap oN lN : Nat, g.ρ τ = some (b, base) ∧ v = .slice (some ⟨b, k, none⟩) lN cap ∧ (k = base + oN * E ∨ cap = 0) ∧ lN ≤ cap ∧ (c = true → cap = lN) ∧ (c = false ∨ rr = none → xs.length ≤ oN + cap) ∧
        Unf w b (base + (oN + cap) * E) ∧ rngD rr xs = ((oN : Int), (lN : Int)) ∧ oN + lN ≤ xs.length) := by
  obtain ⟨hd, h⟩ := h
  refine ⟨hd, ?_⟩
  cases hρ : g.ρ τ with
  | none =>
    simp only [hρ] at h
    obtain ⟨hA, h⟩ := h
    refine .inl ⟨rfl, hA, ?_⟩
    cases rr with
    | none => have := h _ _ _ hb hm; simp only [rngD, ilen_eq]; rw [← this]; rfl
    | some p => obtain ⟨o', l'⟩ := p; obtain ⟨rfl, rfl⟩ := h; rfl
  | some p =>
    obtain ⟨b, base⟩ := p
    simp only [hρ] at h
    obtain ⟨k, oN, l, cap, rfl, hk, h1, h2, h3, h4, h5⟩ := h
    refine .inr ⟨b, base, k, cap, oN, l, rfl, rfl, hk, h1, h2, ?_, h4, ?_⟩
    · intro hor
      cases rr with
      | none => obtain ⟨rfl, h5⟩ := h5; have := h5 _ _ _ hb hm; omega
      | some q =>
        rcases hor with hor | hor
        · exact h3 hor _ _ _ hb hm
        · cases hor
    · cases rr with
      | none => obtain ⟨rfl, h5⟩ := h5; have := h5 _ _ _ hb hm; simp only [rngD, ilen_eq]; subst this; exact ⟨rfl, by omega⟩
      | some q => obtain ⟨o', l'⟩ := q; obtain ⟨rfl, rfl, h6⟩ := h5; exact ⟨rfl, h6 _ _ _ hb hm⟩
end
end Go.AM
