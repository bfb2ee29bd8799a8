
/- AW, part 0: abstract values and states, and the evaluator of operations and of code (recursors, no compiled recursion: 'conv => whnf' and the kernel then go the same way). -/
import Derived.Calls
import Derived.Below
import Derived.Orders
import Derived.Laws.AppendOwn
import Derived.Deep.MidRow
import Derived.Laws.Entries
import Derived.Laws.StructEq
import Derived.Laws.Slices
import Derived.RowKit3
import Derived.ChangeKeysEq
import Derived.Laws.Strings
namespace Go.AW
open Go

/-- A cell of what nobody writes any more. -/
inductive F : Type where
  | sc (v : Value)
  | sl (n b : Nat) (es : List (List F))

/-- What stands in a slot, or in a cell of the call's own. -/
inductive V : Type where
  | fr (f : F)
  | agg (xs : List V)
  | ptr (b o : Nat)
  | fptr (es : List F) (o : Nat)
  | buf (b : Nat)
  | bp (b o : Nat)
  | bv (b lo n : Nat)
  | clo (fn : Nat) (caps : List V)
  | ifc (t : Nat) (x : V)
  | mth (m : String) (t : Nat) (x : V)
  | tup (xs : List V)
  | bad

inductive Blk : Type where
  | cells (xs : List V)
  | buf (e n b : Nat) (es : List (List F))
  | dead

inductive TK : Type where
  | int (k : IntKind) | bool | str | flt (k : FloatKind) | ptr (e : Nat) | sli (e : Nat) | arr (n e : Nat)
  | st (fs : List (Nat × Nat)) (q : Bool) | map (k e : Nat) | fn | ifc | tup | oth

/-- A type's row: its kind, its cells, its bytes, its zero value's cells. -/
structure TI where
  k : TK
  sz : Nat
  by_ : Nat
  zero : List F

abbrev TTab := List (Nat × TI)
abbrev Env := List (Nat × V)
abbrev Heap := List Blk

noncomputable def TTab.get (T : TTab) (u : Nat) : Option TI :=
  List.rec (motive := fun _ => Option TI) none (fun p _ ih => match Nat.beq p.1 u with | true => some p.2 | false => ih) T

noncomputable def look (E : Env) (u : Nat) : V :=
  List.rec (motive := fun _ => V) .bad (fun p _ ih => match Nat.beq p.1 u with | true => p.2 | false => ih) E

abbrev I64 (n : Int) : V := .fr (.sc (.int .i64 n))
abbrev B1 (b : Bool) : V := .fr (.sc (.bool b))
abbrev S1 (s : ByteArray) : V := .fr (.sc (.string s))
/-- A struct all of whose cells are such. -/
abbrev fv (l : List F) : V := .agg (l.map .fr)

def constV : Value → V
  | .agg cs => .agg (cs.toList.map fun v => .fr (.sc v))
  | .tuple _ => .bad
  | v => .fr (.sc v)

noncomputable def opd (E : Env) : Operand → V
  | .tmp t => look E t
  | .const v => constV v
  | .global _ => .bad
  | .func f => .clo f []

/-- A zero cell as it stands in memory: a nil slice is exactly nil. -/
def zeroC : F → V
  | .sl _ _ _ => .fr (.sc (.slice none 0 0))
  | f => .fr f

/-- A cell at a type's cell: a nil slice as the empty list of elements of that size. -/
def nrm1 : F → V → V
  | .sl k b _, .fr (.sc (.slice none 0 0)) => .fr (.sl k b [])
  | _, v => v

noncomputable def nrmL (z : List F) : List V → List V :=
  List.rec (motive := fun _ => List V → List V) (fun xs => xs) (fun f _ ih xs => match xs with | [] => [] | x :: r => nrm1 f x :: ih r) z

/-- An operand as an argument of a type. -/
noncomputable def nrmV (T : TTab) (t : Nat) (v : V) : V := match T.get t with
  | some ti => (match v with
    | .agg xs => .agg (nrmL ti.zero xs)
    | v => (match ti.zero with | f :: _ => nrm1 f v | [] => v))
  | none => v

def bsel (b : Bool) (x y : Prop) : Prop := match b with | true => x | false => y

def cellsV : V → List V
  | .agg xs => xs
  | v => [v]

/-- The cells of a value that has n of them. -/
noncomputable def cellsN (n : Nat) (v : V) : Option (List V) := match v with
  | .bad => none
  | .tup _ => none
  | v => (match Nat.beq (cellsV v).length n with | true => some (cellsV v) | false => none)

noncomputable def takeL {α : Type} (n : Nat) : List α → Option (List α) :=
  Nat.rec (motive := fun _ => List α → Option (List α)) (fun _ => some []) (fun _ ih l => match l with
    | [] => none
    | x :: r => match ih r with | some s => some (x :: s) | none => none) n

noncomputable def dropL {α : Type} (n : Nat) : List α → List α :=
  Nat.rec (motive := fun _ => List α → List α) (fun l => l) (fun _ ih l => match l with
    | [] => []
    | _ :: r => ih r) n

noncomputable def nth {α : Type} (l : List α) (n : Nat) : Option α := match dropL n l with | x :: _ => some x | [] => none

/-- The list with the piece from o on replaced. -/
noncomputable def splice {α : Type} (o : Nat) (vs : List α) (xs : List α) : Option (List α) :=
  Nat.rec (motive := fun _ => List α → Option (List α))
    (fun xs => List.rec (motive := fun _ => List α → Option (List α)) (fun xs => some xs) (fun v _ ih xs => match xs with
      | [] => none
      | _ :: r => match ih r with | some s => some (v :: s) | none => none) vs xs)
    (fun _ ih xs => match xs with
      | [] => none
      | x :: r => match ih r with | some s => some (x :: s) | none => none) o xs

def isAggK : TK → Bool
  | .st _ _ | .arr _ _ => true
  | _ => false

noncomputable def loadV (ti : TI) (xs : List V) : Option V :=
  match isAggK ti.k with
  | true => (match takeL ti.sz xs with | some l => some (.agg l) | none => none)
  | false => (match xs with | v :: _ => some v | [] => none)

def frF : V → Option F
  | .fr f => some f
  | _ => none

noncomputable def allF (l : List V) : Option (List F) :=
  List.rec (motive := fun _ => Option (List F)) (some []) (fun v _ ih => match v with
    | .fr f => (match ih with | some s => some (f :: s) | none => none)
    | _ => none) l

noncomputable def rowsF (z : List F) (n : Nat) (l : List V) : Option (List (List F)) :=
  List.rec (motive := fun _ => Option (List (List F))) (some []) (fun v _ ih => match cellsN n v with
    | some c => (match allF (nrmL z c), ih with
      | some e, some s => some (e :: s)
      | _, _ => none)
    | none => none) l

noncomputable def setB (H : Heap) (n : Nat) (b : Blk) : Heap :=
  Nat.rec (motive := fun _ => Heap → Heap) (fun H => match H with | [] => [] | _ :: r => b :: r) (fun _ ih H => match H with | [] => [] | x :: r => x :: ih r) n H

def sless (a b : ByteArray) : Bool := Op.bytesLess a.toList b.toList

/-! ### Forcing: a value is brought to its head before it goes on -/
def fcF (f : F) (K : F → Prop) : Prop := match f with
  | .sc x => (match x with
    | .int k n => K (.sc (.int k n))
    | .bool b => K (.sc (.bool b))
    | .string s => K (.sc (.string s))
    | x => K (.sc x))
  | .sl n b es => K (.sl n b es)

def fc0 (v : V) (K : V → Prop) : Prop := match v with
  | .fr f => fcF f fun f => K (.fr f)
  | v => K v

noncomputable def fcL (l : List V) : (List V → Prop) → Prop := List.rec (motive := fun _ => (List V → Prop) → Prop) (fun K => K []) (fun x _ ih K => fc0 x fun x => ih fun r => K (x :: r)) l

noncomputable def fc1 (v : V) (K : V → Prop) : Prop := match v with
  | .agg xs => fcL xs fun xs => K (.agg xs)
  | .tup xs => fcL xs fun xs => K (.tup xs)
  | .clo f xs => fcL xs fun xs => K (.clo f xs)
  | .ifc t x => fc0 x fun x => K (.ifc t x)
  | v => fc0 v K

def fcB (b : Blk) (K : Blk → Prop) : Prop := match b with
  | .cells xs => K (.cells xs)
  | .buf e n nb es => K (.buf e n nb es)
  | .dead => K .dead

noncomputable def fcH (H : Heap) : (Heap → Prop) → Prop := List.rec (motive := fun _ => (Heap → Prop) → Prop) (fun K => K []) (fun x _ ih K => fcB x fun x => ih fun r => K (x :: r)) H

theorem fcF_eq (f : F) (K : F → Prop) : fcF f K = K f := by unfold fcF; split <;> (try split) <;> rfl
theorem fc0_eq (v : V) (K : V → Prop) : fc0 v K = K v := by
  unfold fc0; split
  · exact fcF_eq _ _
  · rfl
theorem fcL_eq (l : List V) (K : List V → Prop) : fcL l K = K l := by
  induction l generalizing K with
  | nil => rfl
  | cons x r ih => show fc0 x (fun x => fcL r fun r => K (x :: r)) = K (x :: r); rw [fc0_eq, ih]
theorem fc1_eq (v : V) (K : V → Prop) : fc1 v K = K v := by
  unfold fc1; split
  · exact fcL_eq _ _
  · exact fcL_eq _ _
  · exact fcL_eq _ _
  · exact fc0_eq _ _
  · exact fc0_eq _ _
theorem fcB_eq (b : Blk) (K : Blk → Prop) : fcB b K = K b := by unfold fcB; split <;> rfl
theorem fcH_eq (H : Heap) (K : Heap → Prop) : fcH H K = K H := by
  induction H generalizing K with
  | nil => rfl
  | cons x r ih => show fcB x (fun x => fcH r fun r => K (x :: r)) = K (x :: r); rw [fcB_eq, ih]

inductive PR where
  | val (v : V)
  | side (p : Prop) (v : V)
  | pick (c : Bool) (a b : V)
  | idx (es : List (List F)) (i : Int)
  | str (s : ByteArray) (i : Int)
  | ex (p : V → Prop)
  | new (xs : List V)
  | call (f : Nat) (args : List V)
  | no

def intOp (op : BinOp) (i : IntKind) (a b : Int) : PR :=
  match op with
  | .add => .val (.fr (.sc (.int i (i.wrap (a + b)))))
  | .sub => .val (.fr (.sc (.int i (i.wrap (a - b)))))
  | .mul => .val (.fr (.sc (.int i (i.wrap (a * b)))))
  | .eql => .val (B1 (a == b))
  | .neq => .val (B1 (a != b))
  | .lss => .val (B1 (decide (a < b)))
  | .leq => .val (B1 (decide (a ≤ b)))
  | .gtr => .val (B1 (decide (a > b)))
  | .geq => .val (B1 (decide (a ≥ b)))
  | .quo => .side (b ≠ 0) (.fr (.sc (.int i (i.wrap (a.tdiv b)))))
  | .rem => .side (b ≠ 0) (.fr (.sc (.int i (a.tmod b))))
  | .and => .val (.fr (.sc (.int i (i.wrap (BitVec.ofInt i.bits a &&& BitVec.ofInt i.bits b).toNat))))
  | .or => .val (.fr (.sc (.int i (i.wrap (BitVec.ofInt i.bits a ||| BitVec.ofInt i.bits b).toNat))))
  | .xor => .val (.fr (.sc (.int i (i.wrap (BitVec.ofInt i.bits a ^^^ BitVec.ofInt i.bits b).toNat))))
  | _ => .no

def strOp (op : BinOp) (a b : ByteArray) : PR :=
  match op with
  | .eql => .val (B1 (decide (a = b)))
  | .neq => .val (B1 (!decide (a = b)))
  | .lss => .val (B1 (sless a b))
  | .leq => .val (B1 (sless a b || decide (a = b)))
  | .gtr => .val (B1 (!(sless a b || decide (a = b))))
  | .geq => .val (B1 (!sless a b))
  | .add => .side ((a.size + b.size : Nat) ≤ 9223372036854775807) (S1 (a ++ b))
  | _ => .no

def kCode : IntKind → Nat
  | .i8 => 0 | .i16 => 1 | .i32 => 2 | .i64 => 3 | .u8 => 4 | .u16 => 5 | .u32 => 6 | .u64 => 7

def eqV : Nat → V → V → Option Bool
  | 0, .fr (.sc (.int k a)), .fr (.sc (.int k' b)) => (match Nat.beq (kCode k) (kCode k') with | true => some (a == b) | false => none)
  | 1, .fr (.sc (.bool a)), .fr (.sc (.bool b)) => some (a == b)
  | 2, .fr (.sc (.string a)), .fr (.sc (.string b)) => some (decide (a = b))
  | _, _, _ => none

/-- Two lists of whole numbers. -/
noncomputable def eqI (xs : List V) : List V → Option Bool :=
  List.rec (motive := fun _ => List V → Option Bool) (fun ys => match ys with | [] => some true | _ :: _ => none) (fun x _ ih ys => match ys with
    | [] => none
    | y :: r => (match eqV 0 x y, ih r with | some a, some b => some (a && b) | _, _ => none)) xs

/-- Two structs of a type, field by field. -/
noncomputable def eqT (T : TTab) (n : Nat) : Nat → List V → List V → Option Bool :=
  Nat.rec (motive := fun _ => Nat → List V → List V → Option Bool) (fun _ _ _ => none) (fun _ ih t xs ys => match T.get t with
    | some ⟨.st fs true, _, _, _⟩ => List.rec (motive := fun _ => Option Bool) (some true) (fun p _ r => match T.get p.2 with
        | some ti => (match ti.k with
          | .st _ _ => (match takeL ti.sz (dropL p.1 xs), takeL ti.sz (dropL p.1 ys) with
            | some l, some m => (match ih p.2 l m, r with | some a, some b => some (a && b) | _, _ => none)
            | _, _ => none)
          | .int _ => (match nth xs p.1, nth ys p.1 with | some x, some y => (match eqV 0 x y, r with | some a, some b => some (a && b) | _, _ => none) | _, _ => none)
          | .bool => (match nth xs p.1, nth ys p.1 with | some x, some y => (match eqV 1 x y, r with | some a, some b => some (a && b) | _, _ => none) | _, _ => none)
          | .str => (match nth xs p.1, nth ys p.1 with | some x, some y => (match eqV 2 x y, r with | some a, some b => some (a && b) | _, _ => none) | _, _ => none)
          | .arr m e => (match T.get e with
            | some ⟨.int _, 1, _, _⟩ => (match Nat.beq ti.sz m, takeL ti.sz (dropL p.1 xs), takeL ti.sz (dropL p.1 ys) with
              | true, some l, some k => (match eqI l k, r with | some a, some b => some (a && b) | _, _ => none)
              | _, _, _ => none)
            | _ => none)
          | _ => none)
        | none => none) fs
    | _ => none) n

noncomputable def binP (T : TTab) (op : BinOp) (t : Nat) (x y : V) : PR :=
  match x, y with
  | .fr (.sc (.int i a)), .fr (.sc (.int j b)) => (match op with
    | .shl => .no
    | .shr => .no
    | op => (match Nat.beq (kCode i) (kCode j) with | true => intOp op i a b | false => .no))
  | .fr (.sc (.string a)), .fr (.sc (.string b)) => strOp op a b
  | .fr (.sc (.bool a)), .fr (.sc (.bool b)) => (match T.get t with
    | some ⟨.bool, _, _, _⟩ => (match op with
      | .eql => .val (B1 (a == b))
      | .neq => .val (B1 (a != b))
      | _ => .no)
    | _ => .no)
  | .agg xs, .agg ys => (match op with
    | .eql => (match eqT T 8 t xs ys with | some b => .val (B1 b) | none => .no)
    | .neq => (match eqT T 8 t xs ys with | some b => .val (B1 (!b)) | none => .no)
    | _ => .no)
  | .fr (.sc (.float k a)), .fr (.sc (.float k' b)) => (match T.get t with
    | some ⟨.flt _, _, _, _⟩ => (match k, k' with
      | .f64, .f64 => (match op with
        | .eql => .val (B1 (Op.floatEq .f64 a b))
        | .neq => .val (B1 (!Op.floatEq .f64 a b))
        | _ => .no)
      | _, _ => .no)
    | _ => .no)
  | _, _ => .no

noncomputable def fillC (zero : List V) (ps : List (Nat × List V)) : Option (List V) :=
  List.rec (motive := fun _ => List V → Option (List V)) (fun z => some z) (fun p _ ih z => match splice p.1 p.2 z with
    | some z' => ih z'
    | none => none) ps zero

noncomputable def partsAt (f : Nat → Option (Nat × Nat)) (E : Env) (ps : List (Nat × Operand)) : Option (List (Nat × List V)) :=
  List.rec (motive := fun _ => Option (List (Nat × List V))) (some []) (fun p _ ih => match f p.1, ih with
    | some (o, n), some r => (match cellsN n (opd E p.2) with | some c => some ((o, c) :: r) | none => none)
    | _, _ => none) ps

/-- n, n + 1, .. -/
noncomputable def seqB (n : Nat) (l : List Nat) : Bool := List.rec (motive := fun _ => Nat → Bool) (fun _ => true) (fun i _ ih n => match Nat.beq i n with | true => ih (n + 1) | false => false) l n

noncomputable def allT (T : TTab) (fs : List (Nat × Nat)) : Bool := List.rec (motive := fun _ => Bool) true (fun p _ ih => match T.get p.2 with | some _ => ih | none => false) fs

noncomputable def szOf (T : TTab) (t : Nat) : Nat := match T.get t with | some i => i.sz | none => 0

noncomputable def boundI (E : Env) (x : Option Operand) (d : Int) : Option Int := match x with
  | none => some d
  | some x => (match opd E x with
    | .fr (.sc (.int _ i)) => some i
    | _ => none)

/-- A call, of a function or of what reads alone. -/
noncomputable def evalC (T : TTab) (n0 : Nat) (E : Env) (H : Heap) (c : Call) : PR :=
  match c.callee with
  | .value f => (match opd E f with
    | .clo g caps => (match Nat.beq c.args.toList.length c.argTypes.toList.length with
      | true => .call g ((c.args.toList.zip c.argTypes.toList).map (fun p => nrmV T p.2 (opd E p.1)) ++ caps)
      | false => .no)
    | _ => .no)
  | .builtin .min => (match c.args.toList with
    | [x, y] => (match opd E x, opd E y with
      | .fr (.sc (.int i p)), .fr (.sc (.int j q)) => (match Nat.beq (kCode i) (kCode j) with | true => .val (.fr (.sc (.int i (min p q)))) | false => .no)
      | _, _ => .no)
    | _ => .no)
  | .builtin .max => (match c.args.toList with
    | [x, y] => (match opd E x, opd E y with
      | .fr (.sc (.int i p)), .fr (.sc (.int j q)) => (match Nat.beq (kCode i) (kCode j) with | true => .val (.fr (.sc (.int i (max p q)))) | false => .no)
      | _, _ => .no)
    | _ => .no)
  | .builtin .len => (match c.args.toList with
    | [x] => (match c.argTypes.toList with
      | [t] => (match T.get t with
        | some ⟨.sli _, _, _, _⟩ => (match opd E x with
          | .fr (.sl _ _ es) => .val (I64 es.length)
          | .fr (.sc (.slice none 0 0)) => .val (I64 0)
          | .buf b => (match Nat.blt b n0, nth H b with
            | true, some (.buf _ _ _ es) => .val (I64 es.length)
            | _, _ => .no)
          | _ => .no)
        | some ⟨.str, _, _, _⟩ => (match opd E x with
          | .fr (.sc (.string s)) => .val (I64 s.size)
          | _ => .no)
        | some ⟨.arr n _, _, _, _⟩ => .val (I64 n)
        | _ => .no)
      | _ => .no)
    | _ => .no)
  | _ => .no

/-- The operations that change nothing that was there: what they come to. n0: a load goes to blocks below it alone. -/
noncomputable def evalP (T : TTab) (n0 : Nat) (E : Env) (H : Heap) (op : Op) : PR :=
  match op with
  | .move x => .val (opd E x)
  | .assign x => .val (opd E x)
  | .pick c a b => (match opd E c with
    | .fr (.sc (.bool c)) => .pick c (opd E a) (opd E b)
    | _ => .no)
  | .alloc t => (match T.get t with
    | some ti => .new (ti.zero.map zeroC)
    | none => .no)
  | .box t x => (match cellsN (szOf T t) (opd E x) with | some c => .new c | none => .no)
  | .load t a => (match T.get t with
    | some ti => (match opd E a with
      | .ptr b o => (match Nat.blt b n0 with
        | true => (match nth H b with
          | some (.cells xs) => (match loadV ti (dropL o xs) with
            | some v => .val v
            | none => .no)
          | _ => .no)
        | false => .no)
      | .fptr es o => (match loadV ti (dropL o (es.map .fr)) with
        | some v => .val v
        | none => .no)
      | .bp b o => (match Nat.blt b n0, isAggK ti.k, nth H b with
        | true, false, some (.buf _ _ _ es) => .ex fun v => ∃ f, es.flatten[o]? = some f ∧ v = .fr f
        | _, _, _ => .no)
      | _ => .no)
    | none => .no)
  | .fieldAddr s x f => (match T.get s with
    | some ⟨.st fs _, _, _, _⟩ => (match nth fs f with
      | some (o', t') => (match szOf T t' with
        | 0 => .no
        | _ + 1 => (match opd E x with
          | .ptr b o => .val (.ptr b (o + o'))
          | .fptr es o => .val (.fptr es (o + o'))
          | .bp b o => .val (.bp b (o + o'))
          | _ => .no))
      | none => .no)
    | _ => .no)
  | .field s x f => (match T.get s with
    | some ⟨.st fs _, _, _, _⟩ => (match nth fs f with
      | some (o', t') => (match T.get t', opd E x with
        | some ti, .agg xs => (match loadV ti (dropL o' xs) with
          | some v => .val v
          | none => .no)
        | _, _ => .no)
      | none => .no)
    | _ => .no)
  | .indexAddr t x i => (match T.get t with
    | some ⟨.arr n e, _, _, _⟩ => (match T.get e, opd E i with
      | some ti, .fr (.sc (.int _ (.ofNat q))) => (match Nat.blt q n, opd E x with
        | true, .ptr b o => .val (.ptr b (o + q * ti.sz))
        | true, .fptr es o => .val (.fptr es (o + q * ti.sz))
        | _, _ => .no)
      | _, _ => .no)
    | some ⟨.sli e, _, _, _⟩ => (match T.get e, opd E x, opd E i with
      | some ti, .fr (.sl n _ es), .fr (.sc (.int _ i)) => (match Nat.beq n ti.sz with | true => .idx es i | false => .no)
      | some ti, .buf b, .fr (.sc (.int _ i)) => (match Nat.blt b n0, nth H b with
        | true, some (.buf _ n _ es) => (match Nat.beq n ti.sz with | true => .side (0 ≤ i ∧ i < es.length) (.bp b (i.toNat * n)) | false => .no)
        | _, _ => .no)
      | _, _, _ => .no)
    | _ => .no)
  | .index t x i => (match T.get t with
    | some ⟨.str, _, _, _⟩ => (match opd E x, opd E i with
      | .fr (.sc (.string s)), .fr (.sc (.int _ i)) => .str s i
      | _, _ => .no)
    | some ⟨.arr n e, _, _, _⟩ => (match T.get e, opd E i, opd E x with
      | some ti, .fr (.sc (.int _ (.ofNat q))), .agg xs => (match Nat.blt q n, loadV ti (dropL (q * ti.sz) xs) with
        | true, some v => .val v
        | _, _ => .no)
      | _, _, _ => .no)
    | _ => .no)
  | .binOp op t x y _ => binP T op t (opd E x) (opd E y)
  | .unOp op _ x => (match op, opd E x with
    | .not, .fr (.sc (.bool b)) => .val (B1 (!b))
    | .neg, .fr (.sc (.int k n)) => .val (.fr (.sc (.int k (k.wrap (0 - n)))))
    | _, _ => .no)
  | .convert a b x => (match T.get b with
    | some ⟨.int k, _, _, _⟩ => (match T.get a, opd E x with
      | some _, .fr (.sc (.int _ n)) => .val (.fr (.sc (.int k (k.wrap n))))
      | _, _ => .no)
    | some ⟨.str, _, _, _⟩ => (match T.get a, opd E x with
      | some _, .fr (.sc (.string s)) => .val (S1 s)
      | _, _ => .no)
    | _ => .no)
  | .build t ps => (match T.get t with
    | some ⟨.st fs _, _, _, z⟩ => (match allT T fs, partsAt (fun i => match nth fs i with | some (o, t') => some (o, szOf T t') | none => none) E ps.toList with
      | true, some l => (match fillC (z.map zeroC) l with
        | some xs => .val (.agg xs)
        | none => .no)
      | _, _ => .no)
    | some ⟨.arr _ e, _, _, z⟩ => (match T.get e with
      | some ti => (match partsAt (fun i => some (i * ti.sz, ti.sz)) E ps.toList with
        | some l => (match fillC (z.map zeroC) l with
          | some xs => .val (.agg xs)
          | none => .no)
        | none => .no)
      | none => .no)
    | _ => .no)
  | .buildSlice t len ps => (match T.get t with
    | some ⟨.sli e, _, _, _⟩ => (match T.get e with
      | some ti => (match seqB 0 (ps.toList.map Prod.fst), (match Nat.beq ps.toList.length len with | true => (match Nat.ble (len * ti.sz) 16777216 with | true => Nat.ble (len * ti.by_) 140737488355328 | false => false) | false => false), rowsF ti.zero ti.sz (ps.toList.map fun p => opd E p.2) with
        | true, true, some (r :: es) => .val (.fr (.sl ti.sz ti.by_ (r :: es)))
        | _, _, _ => .no)
      | none => .no)
    | _ => .no)
  | .slice t x lo hi none => (match T.get t with
    | some ⟨.str, _, _, _⟩ => (match opd E x with
      | .fr (.sc (.string s)) => (match boundI E lo 0, boundI E hi s.size with
        | some l, some h => .side (0 ≤ l ∧ l ≤ h ∧ h ≤ (s.size : Int)) (S1 (s.extract l.toNat h.toNat))
        | _, _ => .no)
      | _ => .no)
    | some ⟨.sli e, _, _, _⟩ => (match T.get e with
      | some ti => (match opd E x with
        | .fr (.sl n b es) => (match Nat.beq n ti.sz, boundI E lo 0, boundI E hi es.length with
          | true, some l, some h => .side (0 ≤ l ∧ l ≤ h ∧ h ≤ (es.length : Int)) (.fr (.sl n b ((es.take h.toNat).drop l.toNat)))
          | _, _, _ => .no)
        | .buf b => (match Nat.blt b n0, nth H b, hi with
          | true, some (.buf _ n _ es), none => (match Nat.beq n ti.sz, boundI E lo 0 with
            | true, some l => .side (0 ≤ l ∧ l ≤ (es.length : Int)) (.bv b l.toNat n)
            | _, _ => .no)
          | _, _, _ => .no)
        | _ => .no)
      | none => .no)
    | _ => .no)
  | .extract x i => (match opd E x with
    | .tup xs => (match nth xs i with
      | some v => .val v
      | none => .no)
    | _ => .no)
  | .makeInterface t x => (match T.get t with
    | some ⟨.ifc, _, _, _⟩ => .no
    | some ⟨.oth, _, _, _⟩ => .no
    | some _ => .val (.ifc t (opd E x))
    | none => .no)
  | .makeFunc (.func f) first cs => (match first.toList with | [] => .val (.clo f (cs.toList.map (opd E))) | _ => .no)
  | .nilCheck x => (match opd E x with
    | .ptr b o => .val (.ptr b o)
    | .fptr es o => .val (.fptr es o)
    | .ifc t v => .val (.ifc t v)
    | .clo f c => .val (.clo f c)
    | _ => .no)
  | .call c => evalC T n0 E H c
  | _ => .no

/-- What is appended: the elements' size, and they. -/
noncomputable def rowsOf (n : Nat) (v : V) (H : Heap) : Option (List (List F)) := match v with
  | .fr (.sl m _ es) => (match Nat.beq m n with | true => some es | false => none)
  | .fr (.sc (.slice none 0 0)) => some []
  | .buf b => (match nth H b with
    | some (.buf _ m _ es) => (match Nat.beq m n with | true => some es | false => none)
    | _ => none)
  | .bv b lo k => (match Nat.beq k n, nth H b with
    | true, some (.buf _ m _ es) => (match Nat.beq m n, Nat.ble lo es.length with | true, true => some (dropL lo es) | _, _ => none)
    | _, _ => none)
  | _ => none

/-- The operations that write. -/
noncomputable def evalX (T : TTab) (E : Env) (H : Heap) (op : Op) (K : V → Heap → Prop) (R : Prop) : Prop :=
  match op with
  | .store t a x => (match opd E a with
    | .ptr b o => (match nth H b with
      | some (.cells xs) => (match T.get t with
        | some ti => (match cellsN ti.sz (opd E x) with
          | some c => (match splice o c xs with
            | some ys => fcL ys fun ys => fcH (setB H b (.cells ys)) fun H' => K (.tup []) H'
            | none => R)
          | none => R)
        | none => R)
      | _ => R)
    | _ => R)
  | .call c => (match c.callee with
    | .builtin .append => (match c.args.toList, c.argTypes.toList with
      | [x, y], [t, t'] => (match Nat.beq t t', T.get t with
        | true, some ⟨.sli e, _, _, _⟩ => (match T.get e with
          | some ti => (match ti.sz, ti.by_, rowsOf ti.sz (opd E y) H with
            | _ + 1, _ + 1, some ys => (match opd E x with
              | .buf b => (match nth H b with
                | some (.buf e' n by_ es) => (match Nat.beq e e', Nat.beq n ti.sz, Nat.beq by_ ti.by_ with
                  | true, true, true => (es.length + ys.length) * by_ ≤ 140737488355328 ∧ fcH (setB H b .dead ++ [.buf e n by_ (es ++ ys)]) fun H' => K (.buf H.length) H'
                  | _, _, _ => R)
                | _ => R)
              | .fr (.sc (.slice none 0 0)) => ys.length * ti.by_ ≤ 140737488355328 ∧ fcH (H ++ [.buf e ti.sz ti.by_ ys]) fun H' => K (.buf H.length) H'
              | _ => R)
            | _, _, _ => R)
          | none => R)
        | _, _ => R)
      | _, _ => R)
    | _ => R)
  | .slice t x none (some h) none => (match opd E x, opd E h, T.get t with
    | .buf b, .fr (.sc (.int _ i)), some ⟨.sli e, _, _, _⟩ => (match nth H b with
      | some (.buf e' n nb es) => (match Nat.beq e e', T.get e with
        | true, some _ => (0 ≤ i ∧ i ≤ (es.length : Int)) ∧ fcH (setB H b .dead ++ [.buf e n nb (es.take i.toNat)]) fun H' => K (.buf H.length) H'
        | _, _ => R)
      | _ => R)
    | _, _, _ => R)
  | _ => R

/-! ### The evaluator -/
structure AIdx (es : List (List F)) (i : Int) (k : List F → Prop) : Prop where
  h : ∃ e, 0 ≤ i ∧ es[i.toNat]? = some e ∧ k e
structure AStr (s : ByteArray) (i : Int) (k : Nat → Prop) : Prop where
  h : ∃ h : i.toNat < s.size, 0 ≤ i ∧ k (s[i.toNat]'h).toNat
structure AEx (p : V → Prop) (k : V → Prop) : Prop where
  h : ∃ v, p v ∧ k v

/-- What an operation reads (false) or writes (true) of the blocks. -/
noncomputable def touch0 (wr : Bool) : V → List (Nat × Bool)
  | .buf b => [(b, wr)]
  | .ptr b _ => [(b, wr)]
  | .bp b _ => [(b, wr)]
  | .bv b _ _ => [(b, wr)]
  | _ => []

noncomputable def touchL (wr : Bool) (l : List V) : List (Nat × Bool) := List.rec (motive := fun _ => List (Nat × Bool)) [] (fun x _ ih => List.append (touch0 wr x) ih) l

noncomputable def touch1 (wr : Bool) : V → List (Nat × Bool)
  | .agg xs => touchL wr xs
  | .tup xs => touchL wr xs
  | .clo _ xs => touchL wr xs
  | v => touch0 wr v

noncomputable def touchV (wr : Bool) : V → List (Nat × Bool)
  | .clo _ xs => List.rec (motive := fun _ => List (Nat × Bool)) [] (fun x _ ih => List.append (touch1 wr x) ih) xs
  | v => touch1 wr v

noncomputable def touchA (E : Env) (l : List Operand) : List (Nat × Bool) := List.rec (motive := fun _ => List (Nat × Bool)) [] (fun x _ ih => List.append (touchV false (opd E x)) ih) l

noncomputable def touch (E : Env) : Op → List (Nat × Bool)
  | .load _ x => touchV false (opd E x)
  | .store _ x _ => touchV true (opd E x)
  | .indexAddr _ x _ => (match opd E x with | .buf b => [(b, false)] | _ => [])
  | .slice _ x _ hi _ => (match opd E x with | .buf b => (match hi with | some _ => [(b, true)] | none => [(b, false)]) | _ => [])
  | .call c => (match c.callee with
    | .builtin .append => (match c.args.toList with
      | [x, y] => List.append (touchV true (opd E x)) (touchV false (opd E y))
      | _ => [])
    | .value f => touchA E (f :: c.args.toList)
    | _ => touchA E c.args.toList)
  | _ => []

/-- What is known of a call: C, with the state it begins in and what is to hold then. -/
structure Calling where
  call : Nat → List V → Env → Heap → (V → Env → Heap → Prop) → Prop
  raw : Op → Env → Heap → (V → Heap → Prop) → Prop

/-- On from what an operation comes to. -/
noncomputable def xopR (C : Calling) (T : TTab) (E : Env) (H : Heap) (r : PR) (op : Op) (K : V → Env → Heap → Prop) : Prop :=
  match r with
  | .val v => fc1 v fun v => K v E H
  | .side p v => p ∧ fc1 v fun v => K v E H
  | .pick c x y => bsel c (fc1 x fun x => K x E H) (fc1 y fun y => K y E H)
  | .idx es i => AIdx es i fun e => K (.fptr e 0) E H
  | .str s i => AStr s i fun b => K (.fr (.sc (.int .u8 b))) E H
  | .ex p => AEx p fun v => K v E H
  | .new xs => fcL xs fun xs => fcH (H ++ [.cells xs]) fun H' => K (.ptr H.length 0) E H'
  | .call f args => fcL args fun args => C.call f args E H K
  | .no => evalX T E H op (fun v H => K v E H) (C.raw op E H fun v H => K v E H)

noncomputable def dstOf (ops : List Oper) (j : Nat) : Option Nat := match nth ops j with | some o => o.dst | none => none

def setE (E : Env) : Option Nat → V → Env
  | some d, v => (d, v) :: E
  | none, _ => E

/-! ### A region whose order is drawn -/
abbrev Tch := List (Nat × List (Nat × Bool))

def bindsB (e : Edge) : Bool := match e.ground with
  | .textOnly _ => false
  | .gcOnly _ => false
  | _ => true

/-- What comes before each operation, as bits. -/
noncomputable def masks (ops : List Oper) : List Nat :=
  List.rec (motive := fun _ => List Nat → List Nat) (fun m => m)
    (fun o _ ih m => ih (List.append m [List.rec (motive := fun _ => Nat) 0 (fun e _ r => match bindsB e with
      | true => Nat.lor (Nat.lor r (Nat.pow 2 e.on)) (match nth m e.on with | some x => x | none => 0)
      | false => r) o.after.toList])) ops []

noncomputable def beforeM (ops : List Oper) (j i : Nat) : Bool := match nth (masks ops) i with
  | some m => (match Nat.beq (Nat.land (Nat.shiftRight m j) 1) 0 with | true => false | false => true)
  | none => false

/-- An edge from i to j itself. -/
noncomputable def edgeB (l : List Edge) (j : Nat) : Bool := List.rec (motive := fun _ => Bool) false (fun e _ ih => match Nat.beq e.on j with
  | true => (match bindsB e with | true => true | false => ih)
  | false => ih) l

noncomputable def before (ops : List Oper) (j i : Nat) : Bool := match nth ops i with
  | some o => (match edgeB o.after.toList j with | true => true | false => beforeM ops j i)
  | none => false

/-- Two such are at odds: the same block, and one writes. -/
noncomputable def odds1 (p : Nat × Bool) (l : List (Nat × Bool)) : Bool := List.rec (motive := fun _ => Bool) false (fun q _ ih => match Nat.beq p.1 q.1 with
  | true => (match p.2, q.2 with | false, false => ih | _, _ => true)
  | false => ih) l

noncomputable def odds (l m : List (Nat × Bool)) : Bool := List.rec (motive := fun _ => Bool) false (fun p _ ih => match odds1 p m with | true => true | false => ih) l

noncomputable def agree (all : List Oper) (i : Nat) (ts : List (Nat × Bool)) (acc : Tch) : Bool := List.rec (motive := fun _ => Bool) true (fun p _ ih => match odds ts p.2 with
  | true => (match before all p.1 i with | true => ih | false => false)
  | false => ih) acc

/-! ### Guards -/
/-- Slots whose content hangs on another one: (t, d, w, v): t holds v if d holds w, else nothing. -/
abbrev GEnv := List (Nat × Nat × Bool × V)

noncomputable def findG (G : GEnv) (t : Nat) : Option (Nat × Bool × V) := List.rec (motive := fun _ => Option (Nat × Bool × V)) none (fun p _ ih => match Nat.beq p.1 t with | true => some p.2 | false => ih) G

noncomputable def memA (d : Nat) (w : Bool) (A : List (Nat × Bool)) : Bool := List.rec (motive := fun _ => Bool) false (fun p _ ih => match Nat.beq p.1 d with
  | true => (match p.2, w with | true, true => true | false, false => true | _, _ => ih)
  | false => ih) A

/-- What holds if d holds w. -/
noncomputable def asm (G : GEnv) (n : Nat) : Nat → Bool → List (Nat × Bool) := Nat.rec (motive := fun _ => Nat → Bool → List (Nat × Bool)) (fun d w => [(d, w)])
  (fun _ ih d w => (d, w) :: (match findG G d with | some (d2, w2, _) => ih d2 w2 | none => [])) n

noncomputable def envB (A : List (Nat × Bool)) (E : Env) : Env := List.rec (motive := fun _ => Env) E (fun p _ ih => (p.1, B1 p.2) :: ih) A

noncomputable def envA (G : GEnv) (A : List (Nat × Bool)) (E : Env) : Env := List.rec (motive := fun _ => Env) (envB A E) (fun p _ ih => match memA p.2.1 p.2.2.1 A with | true => (p.1, p.2.2.2) :: ih | false => ih) G

def eqw (b w : Bool) : Bool := match w with | true => b | false => !b

noncomputable def condB (E : Env) (G : GEnv) (n : Nat) : Nat → Bool → Option Bool := Nat.rec (motive := fun _ => Nat → Bool → Option Bool) (fun _ _ => none)
  (fun _ ih d w => match findG G d with
    | some (d2, w2, v) => (match v with
      | .fr (.sc (.bool b)) => (match ih d2 w2 with | some g => some (g && eqw b w) | none => none)
      | _ => none)
    | none => (match look E d with | .fr (.sc (.bool b)) => some (eqw b w) | _ => none)) n

noncomputable def dropG (G : GEnv) : Option Nat → GEnv
  | none => G
  | some t => List.rec (motive := fun _ => GEnv) [] (fun p _ ih => match Nat.beq p.1 t with | true => ih | false => (match Nat.beq p.2.1 t with | true => ih | false => p :: ih)) G

noncomputable def addG (G : GEnv) (d : Nat) (w : Bool) (v : V) : Option Nat → GEnv
  | none => G
  | some t => (t, d, w, v) :: dropG G (some t)

noncomputable def fcG (G : GEnv) : (GEnv → Prop) → Prop := List.rec (motive := fun _ => (GEnv → Prop) → Prop) (fun K => K []) (fun x _ ih K => ih fun r => K (x :: r)) G

theorem fcG_eq (G : GEnv) (K : GEnv → Prop) : fcG G K = K G := by
  induction G generalizing K with
  | nil => rfl
  | cons x r ih => show fcG r (fun r => K (x :: r)) = K (x :: r); rw [ih]

/-- A slot is set, and what hangs on it is let go; then on. -/
noncomputable def setK (E : Env) (G : GEnv) (dst : Option Nat) (v : V) (K : Env → GEnv → Prop) : Prop := match dst with
  | some d => fcG (dropG G (some d)) fun G => K ((d, v) :: E) G
  | none => K E G

noncomputable def addK (E : Env) (G : GEnv) (d : Nat) (w : Bool) (v : V) (dst : Option Nat) (K : Env → GEnv → Prop) : Prop := match dst with
  | some t => fc1 v fun v => fcG (addG G d w v (some t)) fun G => K ((t, .bad) :: E) G
  | none => K E G

theorem setK_eq (E : Env) (G : GEnv) (dst : Option Nat) (v : V) (K : Env → GEnv → Prop) : setK E G dst v K = K (setE E dst v) (dropG G dst) := by
  cases dst with
  | none => rfl
  | some d => exact fcG_eq _ _

theorem addK_eq (E : Env) (G : GEnv) (d : Nat) (w : Bool) (v : V) (dst : Option Nat) (K : Env → GEnv → Prop) : addK E G d w v dst K = K (setE E dst .bad) (addG G d w v dst) := by
  cases dst with
  | none => rfl
  | some t => simp only [addK, fc1_eq, fcG_eq, addG, setE]

/-- One of two. -/
noncomputable def mrg (b : Bool) (x y : V) : Option V := match x, y with
  | .fr (.sc (.bool p)), .fr (.sc (.bool q)) => some (B1 (bif b then p else q))
  | .fr (.sc (.int k p)), .fr (.sc (.int k' q)) => (match Nat.beq (kCode k) (kCode k') with | true => some (.fr (.sc (.int k (bif b then p else q)))) | false => none)
  | .fr (.sc (.string p)), .fr (.sc (.string q)) => some (S1 (bif b then p else q))
  | _, _ => none

noncomputable def asmO (G : GEnv) (w : Bool) : Operand → List (Nat × Bool)
  | .tmp d => asm G 6 d w
  | _ => []

noncomputable def evalG (T : TTab) (n0 : Nat) (E : Env) (G : GEnv) (A : List (Nat × Bool)) (H : Heap) (op : Op) : PR := match op with
  | .pick c x y => (match opd (envA G A E) c with
    | .fr (.sc (.bool b)) => (match mrg b (opd (envA G (List.append (asmO G true c) A) E) x) (opd (envA G (List.append (asmO G false c) A) E) y) with
      | some v => .val v
      | none => .pick b (opd (envA G (List.append (asmO G true c) A) E) x) (opd (envA G (List.append (asmO G false c) A) E) y))
    | _ => .no)
  | op => evalP T n0 (envA G A E) H op

structure GIdx (g : Bool) (es : List (List F)) (i : Int) (k : List F → Prop) : Prop where
  h : ∃ e, (g = true → 0 ≤ i ∧ es[i.toNat]? = some e) ∧ k e
structure GStr (g : Bool) (s : ByteArray) (i : Int) (k : Nat → Prop) : Prop where
  h : ∃ b, (g = true → ∃ h : i.toNat < s.size, 0 ≤ i ∧ b = (s[i.toNat]'h).toNat) ∧ k b
structure GEx (g : Bool) (p : V → Prop) (k : V → Prop) : Prop where
  h : ∃ v, (g = true → p v) ∧ k v

inductive AExit where
  | normal | exit (id : Nat) | ret

def blockK (id : Nat) (K : AExit → Env → Heap → Prop) : AExit → Env → Heap → Prop
  | .exit j, e, h => (match Nat.beq j id with | true => K .normal e h | false => K (.exit j) e h)
  | .normal, e, h => K .normal e h
  | .ret, e, h => K .ret e h

theorem bsplit {b : Bool} {x y : Prop} (h : b = true → x) (k : b = false → y) : bsel b x y := by
  cases b
  · exact k rfl
  · exact h rfl

end Go.AW

/- AW, part 1: how abstract values and heaps stand to the model's memory; what is kept while memory grows. -/
namespace Go.AW
open Go Go.RowKit

/-- A frozen cell stands for a value: all that it reaches lies in blocks of which I holds. -/
inductive RepF (w : World) (I : Nat → Prop) : F → Value → Prop where
  | sc (v : Value) (h : v.oneCell' = true) : RepF w I (.sc v) v
  | nil (n b : Nat) (a : Option Addr) (c : Nat) : RepF w I (.sl n b []) (.slice a 0 c)
  | sl (n b : Nat) (es : List (List F)) (k o c : Nat) (cv : Nat → Nat → Value) (hk : I k) (hcl : es.length ≤ c) (hb : es.length * b ≤ 140737488355328) (hn : ∀ (i : Nat) (e : List F), es[i]? = some e → e.length = n)
      (hc : ∀ (i : Nat) (e : List F) (j : Nat) (f : F), es[i]? = some e → e[j]? = some f → w.cell? ⟨k, o + i * n + j, none⟩ = some (cv i j))
      (hr : ∀ (i : Nat) (e : List F) (j : Nat) (f : F), es[i]? = some e → e[j]? = some f → RepF w I f (cv i j)) : RepF w I (.sl n b es) (.slice (some ⟨k, o, none⟩) es.length c)

theorem RepF.one {w : World} {I : Nat → Prop} {f : F} {v : Value} (h : RepF w I f v) : v.oneCell' = true := by
  cases h with
  | sc v h => exact h
  | nil => rfl
  | sl => rfl

/-- Where an abstract block lies. -/
inductive Plc where
  | at_ (k : Nat)
  | hdr (a : Option Nat) (m c : Nat)
  | none
  | free

def Plc.block : Plc → Option Nat
  | .at_ k => some k
  | .hdr a _ _ => a
  | .none => Option.none
  | .free => Option.none

def hdrV (a : Option Nat) (m c : Nat) : Value := .slice (a.map fun g => ⟨g, 0, Option.none⟩) m c

inductive RepV (w : World) (I : Nat → Prop) (μ : List Plc) : V → Value → Prop where
  | fr (f : F) (v : Value) (h : RepF w I f v) : RepV w I μ (.fr f) v
  | agg (xs : List V) (vs : Array Value) (hl : vs.size = xs.length) (h1 : ∀ i, i < vs.size → (vs.getD i undef).oneCell' = true)
      (h : ∀ (i : Nat) (x : V), xs[i]? = some x → RepV w I μ x (vs.getD i undef)) : RepV w I μ (.agg xs) (.agg vs)
  | ptr (b o k : Nat) (hl : μ[b]? = some (.at_ k)) : RepV w I μ (.ptr b o) (.pointer (some ⟨k, o, none⟩))
  | fptr (es : List F) (o k o0 : Nat) (cv : Nat → Value) (hk : I k) (hc : ∀ (j : Nat) (f : F), es[j]? = some f → w.cell? ⟨k, o0 + j, none⟩ = some (cv j))
      (hr : ∀ (j : Nat) (f : F), es[j]? = some f → RepF w I f (cv j)) : RepV w I μ (.fptr es o) (.pointer (some ⟨k, o0 + o, none⟩))
  | buf (b m c : Nat) (a : Option Nat) (hl : μ[b]? = some (.hdr a m c)) : RepV w I μ (.buf b) (hdrV a m c)
  | bdead (b : Nat) (v : Value) (hl : μ[b]? = some .none) (h1 : v.oneCell' = true) : RepV w I μ (.buf b) v
  | bp (b o k m c : Nat) (hl : μ[b]? = some (.hdr (some k) m c)) : RepV w I μ (.bp b o) (.pointer (some ⟨k, o, none⟩))
  | bpd (b o k : Nat) (hl : μ[b]? = some .none) : RepV w I μ (.bp b o) (.pointer (some ⟨k, o, none⟩))
  | bv (b lo n m c : Nat) (a : Option Nat) (hl : μ[b]? = some (.hdr a m c)) (hle : lo ≤ m) : RepV w I μ (.bv b lo n) (.slice (if c = lo then a.map (fun k => ⟨k, 0, none⟩) else (a.map (fun k => (⟨k, 0, none⟩ : Addr))).map (·.add (lo * n))) (m - lo) (c - lo))
  | bvd (b lo n : Nat) (v : Value) (hl : μ[b]? = some .none) (h1 : v.oneCell' = true) : RepV w I μ (.bv b lo n) v
  | clo (f : Nat) (xs : List V) (vs : Array Value) (hl : vs.size = xs.length) (h : ∀ (i : Nat) (x : V), xs[i]? = some x → RepV w I μ x (vs.getD i undef)) :
      RepV w I μ (.clo f xs) (.func (.func f) #[] vs)
  | ifc (t : Nat) (x : V) (v : Value) (h : RepV w I μ x v) : RepV w I μ (.ifc t x) (.iface t v)
  | mth (m : String) (t : Nat) (x : V) (v : Value) (h : RepV w I μ x v) : RepV w I μ (.mth m t x) (.func (.method m) #[.iface t v] #[])
  | tup (xs : List V) (vs : Array Value) (hl : vs.size = xs.length) (h : ∀ (i : Nat) (x : V), xs[i]? = some x → RepV w I μ x (vs.getD i undef)) : RepV w I μ (.tup xs) (.tuple vs)
  | bad (v : Value) : RepV w I μ .bad v

theorem RepF.mono {w w' : World} {I I' : Nat → Prop} {f : F} {v : Value} (h : RepF w I f v) (hI : ∀ k, I k → I' k) (hw : ∀ k, I k → w'.heap[k]? = w.heap[k]?) : RepF w' I' f v := by
  induction h with
  | sc v h => exact .sc v h
  | nil n b a c => exact .nil n b a c
  | sl n b es k o c cv hk hcl hb hn hc hr ih =>
    exact .sl n b es k o c cv (hI _ hk) hcl hb hn (fun i e j f he hj => by rw [World.cell?_of_block (w := w) (a := ⟨k, _, Option.none⟩) (hw k hk)]; exact hc i e j f he hj) ih

/-- A place stays, or is a buffer's that is let go; a free one may be taken. -/
def LocLe (μ μ' : List Plc) : Prop := ∀ (i : Nat) (l : Plc), μ[i]? = some l → μ'[i]? = some l ∨ ((∃ a m c, l = .hdr a m c) ∧ μ'[i]? = some .none) ∨ l = .free

theorem LocLe.refl (μ : List Plc) : LocLe μ μ := fun _ _ h => .inl h
theorem LocLe.at_ {μ μ' : List Plc} (h : LocLe μ μ') {i k : Nat} (hi : μ[i]? = some (.at_ k)) : μ'[i]? = some (.at_ k) := by
  rcases h i _ hi with h | ⟨⟨a, m, c, e⟩, _⟩ | e
  · exact h
  · cases e
  · cases e
theorem LocLe.none {μ μ' : List Plc} (h : LocLe μ μ') {i : Nat} (hi : μ[i]? = some .none) : μ'[i]? = some .none := by
  rcases h i _ hi with h | ⟨_, h⟩ | e
  · exact h
  · exact h
  · cases e
theorem LocLe.trans {a b c : List Plc} (h : LocLe a b) (k : LocLe b c) : LocLe a c := fun i l hi => by
  rcases h i l hi with h1 | ⟨h1, h2⟩ | h1
  · exact k i l h1
  · exact .inr (.inl ⟨h1, k.none h2⟩)
  · exact .inr (.inr h1)

theorem RepV.mono {w w' : World} {I I' : Nat → Prop} {μ μ' : List Plc} {x : V} {v : Value} (h : RepV w I μ x v) (hI : ∀ k, I k → I' k) (hw : ∀ k, I k → w'.heap[k]? = w.heap[k]?)
    (hμ : LocLe μ μ') : RepV w' I' μ' x v := by
  induction h with
  | fr f v h => exact .fr f v (h.mono hI hw)
  | agg xs vs hl h1 h ih => exact .agg xs vs hl h1 ih
  | ptr b o k hl => exact .ptr b o k (hμ.at_ hl)
  | fptr es o k o0 cv hk hc hr => exact .fptr es o k o0 cv (hI _ hk) (fun j f hj => by rw [World.cell?_of_block (w := w) (a := ⟨k, _, Option.none⟩) (hw k hk)]; exact hc j f hj) (fun j f hj => (hr j f hj).mono hI hw)
  | buf b m c a hl =>
    rcases hμ _ _ hl with h | ⟨_, h⟩ | e
    · exact .buf b m c a h
    · exact .bdead b _ h rfl
    · cases e
  | bdead b v hl h1 => exact .bdead b v (hμ.none hl) h1
  | bp b o k m c hl =>
    rcases hμ _ _ hl with h | ⟨_, h⟩ | e
    · exact .bp b o k m c h
    · exact .bpd b o k h
    · cases e
  | bpd b o k hl => exact .bpd b o k (hμ.none hl)
  | bv b lo n m c a hl hle =>
    rcases hμ _ _ hl with h | ⟨_, h⟩ | e
    · exact .bv b lo n m c a h hle
    · exact .bvd b lo n _ h rfl
    · cases e
  | bvd b lo n v hl h1 => exact .bvd b lo n v (hμ.none hl) h1
  | clo f xs vs hl h ih => exact .clo f xs vs hl ih
  | ifc t x v h ih => exact .ifc t x v ih
  | mth m t x v h ih => exact .mth m t x v ih
  | tup xs vs hl h ih => exact .tup xs vs hl ih
  | bad v => exact .bad v

def owned (μ : List Plc) (k : Nat) : Prop := ∃ (i : Nat) (l : Plc), μ[i]? = some l ∧ l.block = some k

structure Ctx where
  P : Program
  w0 : World
  I0 : Nat → Prop
  μ0 : List Plc

def Imm (Γ : Ctx) (w : World) (μ : List Plc) (k : Nat) : Prop := (Γ.I0 k ∨ owned Γ.μ0 k ∨ Γ.w0.heap.size ≤ k) ∧ k < w.heap.size ∧ ¬ owned μ k

abbrev Rep (Γ : Ctx) (w : World) (μ : List Plc) : V → Value → Prop := RepV w (Imm Γ w μ) μ
abbrev RepFr (Γ : Ctx) (w : World) (μ : List Plc) : F → Value → Prop := RepF w (Imm Γ w μ)

def BlkOk (Γ : Ctx) (w : World) (μ : List Plc) : Blk → Plc → Prop
  | .cells xs, .at_ k => ∃ c e, w.heap[k]? = some (.cells c e (0, 0)) ∧ c.size = xs.length ∧ (∀ v ∈ c.toList, v.oneCell' = true) ∧ ∀ (i : Nat) (x : V), xs[i]? = some x → Rep Γ w μ x (c.getD i undef)
  | .buf e n by_ es, .hdr a m c => m = es.length ∧ es.length * by_ ≤ 140737488355328 ∧ (∀ r ∈ es, r.length = n) ∧ ∃ vs : List Value, w.ownsRow 0 e n (hdrV a m c) m vs ∧
      ∀ (i : Nat) (f : F), es.flatten[i]? = some f → RepFr Γ w μ f (vs.getD i undef)
  | .dead, _ => True
  | _, _ => False

/-- What is as it was when the call began. -/
structure Ext (Γ : Ctx) (w : World) : Prop where
  os : w.os = Γ.w0.os
  tape : w.tape = Γ.w0.tape
  output : w.output = Γ.w0.output
  size : Γ.w0.heap.size ≤ w.heap.size
  block : ∀ k, k < Γ.w0.heap.size → ¬ owned Γ.μ0 k → w.heap[k]? = Γ.w0.heap[k]?

structure Mem (Γ : Ctx) (H : Heap) (w : World) (μ : List Plc) : Prop where
  len : μ.length = H.length
  below : ∀ k, owned μ k → k < w.heap.size
  own0 : ∀ k, owned μ k → owned Γ.μ0 k ∨ Γ.w0.heap.size ≤ k
  inj : ∀ (i j : Nat) (l l' : Plc) (k : Nat), μ[i]? = some l → μ[j]? = some l' → l.block = some k → l'.block = some k → i = j
  blk : ∀ (i : Nat) (b : Blk) (l : Plc), H[i]? = some b → μ[i]? = some l → BlkOk Γ w μ b l
  ext : Ext Γ w
  i0 : ∀ k, Γ.I0 k → k < Γ.w0.heap.size ∧ ¬ owned Γ.μ0 k
  pin : ∀ (i k : Nat), Γ.μ0[i]? = some (.at_ k) → μ[i]? = some (.at_ k) ∧ ∃ xs, H[i]? = some (.cells xs)

/-- What stands for something goes on to. -/
structure Pres (Γ : Ctx) (w : World) (μ : List Plc) (w' : World) (μ' : List Plc) : Prop where
  imm : ∀ k, Imm Γ w μ k → Imm Γ w' μ' k
  same : ∀ k, Imm Γ w μ k → w'.heap[k]? = w.heap[k]?
  loc : LocLe μ μ'

theorem Pres.refl (Γ : Ctx) (w : World) (μ : List Plc) : Pres Γ w μ w μ := ⟨fun _ h => h, fun _ _ => rfl, .refl _⟩
theorem Pres.trans {Γ : Ctx} {w w' w'' : World} {μ μ' μ'' : List Plc} (h : Pres Γ w μ w' μ') (k : Pres Γ w' μ' w'' μ'') : Pres Γ w μ w'' μ'' :=
  ⟨fun i hi => k.imm i (h.imm i hi), fun i hi => (k.same i (h.imm i hi)).trans (h.same i hi), h.loc.trans k.loc⟩
theorem Pres.rep {Γ : Ctx} {w w' : World} {μ μ' : List Plc} (h : Pres Γ w μ w' μ') {x : V} {v : Value} (r : Rep Γ w μ x v) : Rep Γ w' μ' x v := RepV.mono r h.imm h.same h.loc
theorem Pres.repF {Γ : Ctx} {w w' : World} {μ μ' : List Plc} (h : Pres Γ w μ w' μ') {x : F} {v : Value} (r : RepFr Γ w μ x v) : RepFr Γ w' μ' x v := RepF.mono r h.imm h.same

/-- A block that is not touched stays as it should be. -/
theorem BlkOk.pres {Γ : Ctx} {w w' : World} {μ μ' : List Plc} (h : Pres Γ w μ w' μ') {b : Blk} {l : Plc} (hb : BlkOk Γ w μ b l) (hs : ∀ k, l.block = some k → w'.heap[k]? = w.heap[k]?) : BlkOk Γ w' μ' b l := by
  cases b with
  | cells xs =>
    cases l with
    | at_ k =>
      obtain ⟨c, e, h1, h2, h3, h4⟩ := hb
      exact ⟨c, e, by rw [hs k rfl]; exact h1, h2, h3, fun i x hx => h.rep (h4 i x hx)⟩
    | hdr => exact hb.elim
    | none => exact hb.elim
    | free => exact hb.elim
  | buf e n by_ es =>
    cases l with
    | at_ k => exact hb.elim
    | hdr a m c =>
      obtain ⟨h1, h0, h2, vs, h3, h4⟩ := hb
      refine ⟨h1, h0, h2, vs, ?_, fun i f hf => h.repF (h4 i f hf)⟩
      obtain ⟨hl, h5⟩ := h3
      refine ⟨hl, h5.imp id ?_⟩
      rintro ⟨g, cap, cur, hv, hg, hh, r⟩
      refine ⟨g, cap, cur, hv, hg, ?_, r⟩
      cases a with
      | none => simp [hdrV] at hv
      | some a => simp only [hdrV, Option.map_some, Value.slice.injEq, Option.some.injEq, Addr.mk.injEq] at hv; obtain ⟨⟨rfl, _⟩, _⟩ := hv; rw [hs a rfl]; exact hh
    | none => exact hb.elim
    | free => exact hb.elim
  | dead => trivial

end Go.AW

/- AW, part 2: the types' table, lists, and the operations that change nothing that was there. -/
namespace Go.AW
open Go Go.RowKit

/-! ### Lists, by recursors -/
section lists
variable {α : Type}
theorem dropL_eq (n : Nat) (l : List α) : dropL n l = l.drop n := by
  induction n generalizing l with
  | zero => rfl
  | succ n ih => cases l with
    | nil => rfl
    | cons x r => exact ih r
theorem nth_eq (l : List α) (n : Nat) : nth l n = l[n]? := by
  unfold nth; rw [dropL_eq]
  rw [← List.head?_drop]
  cases l.drop n <;> rfl
theorem takeL_some {n : Nat} {l s : List α} (h : takeL n l = some s) : s = l.take n ∧ s.length = n := by
  induction n generalizing l s with
  | zero => simp only [takeL] at h; cases h; simp
  | succ n ih =>
    cases l with
    | nil => simp [takeL] at h
    | cons x r =>
      have h' : (match takeL n r with | some s => some (x :: s) | none => none) = some s := h
      cases hr : takeL n r with
      | none => rw [hr] at h'; cases h'
      | some s' => rw [hr] at h'; cases h'; obtain ⟨h1, h2⟩ := ih hr; exact ⟨by simp [h1], by simp [h2]⟩
theorem splice_some {o : Nat} {vs xs ys : List α} (h : splice o vs xs = some ys) : o + vs.length ≤ xs.length ∧ ys = xs.take o ++ vs ++ xs.drop (o + vs.length) := by
  induction o generalizing xs ys with
  | zero =>
    induction vs generalizing xs ys with
    | nil => have h' : some xs = some ys := h; cases h'; simp
    | cons v vs ih =>
      cases xs with
      | nil => simp [splice] at h
      | cons x r =>
        have h' : (match splice 0 vs r with | some s => some (v :: s) | none => none) = some ys := h
        cases hr : splice 0 vs r with
        | none => rw [hr] at h'; cases h'
        | some s => rw [hr] at h'; cases h'; obtain ⟨h1, h2⟩ := ih hr; simp at h1 h2; subst h2; simp; omega
  | succ o ih =>
    cases xs with
    | nil => simp [splice] at h
    | cons x r =>
      have h' : (match splice o vs r with | some s => some (x :: s) | none => none) = some ys := h
      cases hr : splice o vs r with
      | none => rw [hr] at h'; cases h'
      | some s =>
        rw [hr] at h'; cases h'; obtain ⟨h1, h2⟩ := ih hr
        subst h2
        have e : o + 1 + vs.length = o + vs.length + 1 := by omega
        exact ⟨by simp; omega, by simp [e]⟩
theorem setB_eq (H : Heap) (n : Nat) (b : Blk) : setB H n b = H.set n b := by
  induction n generalizing H with
  | zero => cases H <;> rfl
  | succ n ih => cases H with
    | nil => rfl
    | cons x r => show x :: setB r n b = _; rw [ih]; rfl
end lists

theorem look_nil (u : Nat) : look [] u = .bad := rfl
theorem look_cons (t : Nat) (v : V) (r : Env) (u : Nat) : look ((t, v) :: r) u = if t = u then v else look r u := by
  show (match Nat.beq t u with | true => v | false => look r u) = _
  cases h : Nat.beq t u with
  | true => rw [if_pos (Nat.eq_of_beq_eq_true h)]
  | false => rw [if_neg (Nat.ne_of_beq_eq_false h)]

/-! ### The types' table -/
def cellOk : F → Value → Prop
  | .sc v, v' => v = v' ∧ v.oneCell' = true
  | .sl _ _ es, v' => es = [] ∧ v' = .slice none 0 0

def KindOk : TK → TypeDesc → Prop
  | .int k, .int k' => k = k'
  | .bool, .bool => True
  | .str, .string => True
  | .flt k, .float k' => k = k'
  | .ptr e, .pointer e' => e = e'
  | .sli e, .slice e' => e = e'
  | .arr n e, .array n' e' => n = n' ∧ e = e'
  | .st fs _, .struct gs => gs.toList.map (fun f => (f.offset, f.type)) = fs
  | .map k e, .map k' e' => k = k' ∧ e = e'
  | .fn, .func _ _ _ => True
  | .ifc, .interface _ => True
  | .tup, .tuple _ => True
  | .oth, d => d.isRow = false
  | _, _ => False

structure TiOk (P : Program) (t : Nat) (ti : TI) : Prop where
  info : ∃ i z, P.info? t = some i ∧ i.size = ti.sz ∧ i.bytes = ti.by_ ∧ i.zero = some z ∧ z.cells.size = ti.sz ∧ ti.zero.length = ti.sz ∧ ∀ j f, ti.zero[j]? = some f → cellOk f (z.cells.getD j undef)
  kind : ∃ d, P.underlying t = some d ∧ KindOk ti.k d
  eq : ∀ fs, ti.k = .st fs true → P.stoodInHeld t = false ∧ P.eqGuardType P.depth t = false ∧ ∀ f ∈ (P.fieldsOf t).toList, f.name ≠ "_"

def TOk (P : Program) (T : TTab) : Prop := ∀ t ti, T.get t = some ti → TiOk P t ti

theorem KindOk.agg {k : TK} {d : TypeDesc} (h : KindOk k d) : d.isRow = isAggK k := by
  cases k <;> cases d <;> first | rfl | exact h.elim | exact h

theorem TiOk.size {P : Program} {t : Nat} {ti : TI} (h : TiOk P t ti) (w : World) : (sizeOf t).run P w = .ok ti.sz w := by
  obtain ⟨i, z, h1, h2, _⟩ := h.info
  simp [sizeOf, typeInfo, h1, h2]
theorem TiOk.size' {P : Program} {t : Nat} {ti : TI} (h : TiOk P t ti) : (P.info? t).map (·.size) = some ti.sz := by
  obtain ⟨i, z, h1, h2, _⟩ := h.info
  simp [h1, h2]
theorem TiOk.isAgg {P : Program} {t : Nat} {ti : TI} (h : TiOk P t ti) (w : World) : (Go.isAgg t).run P w = .ok (isAggK ti.k) w := by
  obtain ⟨d, h1, h2⟩ := h.kind
  have := h2.agg
  unfold Go.isAgg
  rw [Sem.run_bind, run_underlying h1 w]
  cases d <;> simp_all

/-! ### A slot's value as an operand -/
def EnvOk (Γ : Ctx) (w : World) (μ : List Plc) (E : Env) (tmps : Array Value) : Prop := ∀ t, Rep Γ w μ (look E t) (tmps.getD t undef)

theorem rep_const (w : World) (I : Nat → Prop) (μ : List Plc) (v : Value) (h : ∀ cs, v = .agg cs → ∀ x ∈ cs.toList, x.oneCell' = true) : RepV w I μ (constV v) v := by
  cases v with
  | agg cs =>
    have h' := h cs rfl
    refine .agg _ _ (by simp) (fun i hi => h' _ ?_) (fun i x hx => ?_)
    · simp [Array.getD, hi]
    · rw [List.getElem?_map] at hx
      cases hc : cs.toList[i]? with
      | none => rw [hc] at hx; simp at hx
      | some u =>
        rw [hc] at hx; simp at hx; subst hx
        have hu : cs.getD i undef = u := by simp at hc; simp [Array.getD_eq_getD_getElem?, hc]
        rw [hu]
        exact .fr _ _ (.sc _ (h' _ (List.mem_of_getElem? hc)))
  | tuple => exact .bad _
  | _ => exact .fr _ _ (.sc _ rfl)

/-- Constants in the code are of plain cells. -/
def constOk : Operand → Prop
  | .const (.agg cs) => ∀ x ∈ cs.toList, x.oneCell' = true
  | _ => True

theorem rep_opd {Γ : Ctx} {w : World} {μ : List Plc} {E : Env} {a : Act} {x : Operand} (h : ∀ t, x = .tmp t → Rep Γ w μ (look E t) (a.tmps.getD t undef)) (hc : constOk x) : Rep Γ w μ (opd E x) (a.eval x) := by
  cases x with
  | tmp t => exact h t rfl
  | const v => exact rep_const _ _ _ v (fun cs e => by subst e; exact hc)
  | global g => exact .bad _
  | func f => exact .clo f [] #[] rfl (by intro i x h; simp at h)

/-- A nil slice is the empty list of whatever elements. -/
theorem rep_nrm1 {w : World} {I : Nat → Prop} {μ : List Plc} (f : F) {x : V} {v : Value} (h : RepV w I μ x v) : RepV w I μ (nrm1 f x) v := by
  unfold nrm1
  split
  · cases h with
    | fr f v h => cases h with | sc v h => exact .fr _ _ (.nil _ _ _ _)
  · exact h

theorem nrmL_get (z : List F) (xs : List V) (i : Nat) : (nrmL z xs)[i]? = (xs[i]?).map fun x => match z[i]? with | some f => nrm1 f x | none => x := by
  induction z generalizing xs i with
  | nil => show xs[i]? = _; cases xs[i]? <;> rfl
  | cons f z ih =>
    cases xs with
    | nil => rfl
    | cons x r =>
      show (nrm1 f x :: nrmL z r)[i]? = _
      cases i with
      | zero => rfl
      | succ i => simpa using ih r i

theorem nrmL_length (z : List F) (xs : List V) : (nrmL z xs).length = xs.length := by
  induction z generalizing xs with
  | nil => rfl
  | cons f z ih => cases xs with
    | nil => rfl
    | cons x r => show (nrm1 f x :: nrmL z r).length = _; simp [ih]

theorem rep_nrmL {w : World} {I : Nat → Prop} {μ : List Plc} (z : List F) {xs : List V} {g : Nat → Value} (h : ∀ (i : Nat) (x : V), xs[i]? = some x → RepV w I μ x (g i)) :
    ∀ (i : Nat) (x : V), (nrmL z xs)[i]? = some x → RepV w I μ x (g i) := by
  intro i x hx
  rw [nrmL_get] at hx
  cases hq : xs[i]? with
  | none => rw [hq] at hx; simp at hx
  | some y =>
    rw [hq] at hx; simp at hx; subst hx
    cases hz : z[i]? with
    | none => exact h i y hq
    | some f => exact rep_nrm1 f (h i y hq)

theorem rep_nrmV {w : World} {I : Nat → Prop} {μ : List Plc} (T : TTab) (t : Nat) {x : V} {v : Value} (h : RepV w I μ x v) : RepV w I μ (nrmV T t x) v := by
  unfold nrmV
  split
  · split
    · cases h with
      | agg xs vs hl h1 h => exact .agg _ _ (by rw [nrmL_length]; exact hl) h1 (rep_nrmL _ h)
    · split
      · exact rep_nrm1 _ h
      · exact h
  · exact h

end Go.AW

/- AW, part 3: what the pure operations come to is what the evaluator says. -/
namespace Go.AW
open Go Go.RowKit

def RepArgs (Γ : Ctx) (w : World) (μ : List Plc) (args : List V) (cargs : Array Value) : Prop :=
  cargs.size = args.length ∧ ∀ (i : Nat) (x : V), args[i]? = some x → Rep Γ w μ x (cargs.getD i undef)

def ValOk (Γ : Ctx) (H : Heap) (w : World) (μ : List Plc) (a : Act) (o : Oper) (v : V) : Prop :=
  ∃ cv w', (execOp a.eval o).run Γ.P w = .ok (.value cv) w' ∧ Mem Γ H w' μ ∧ Pres Γ w μ w' μ ∧ Rep Γ w' μ v cv

def PRok (Γ : Ctx) (H : Heap) (w : World) (μ : List Plc) (a : Act) (o : Oper) : PR → Prop
  | .val v => ValOk Γ H w μ a o v
  | .side p v => p → ValOk Γ H w μ a o v
  | .pick c x y => ValOk Γ H w μ a o (if c then x else y)
  | .idx es i => ∀ e, 0 ≤ i → es[i.toNat]? = some e → ValOk Γ H w μ a o (.fptr e 0)
  | .str s i => ∀ h : i.toNat < s.size, 0 ≤ i → ValOk Γ H w μ a o (.fr (.sc (.int .u8 (s[i.toNat]'h).toNat)))
  | .new xs => ∃ c e, (execOp a.eval o).run Γ.P w = .ok (.value (.pointer (some ⟨w.heap.size, 0, none⟩))) (w.alloc (.cells c e)) ∧ c.size = xs.length ∧ (∀ v ∈ c.toList, v.oneCell' = true) ∧
      ∀ (i : Nat) (x : V), xs[i]? = some x → Rep Γ w μ x (c.getD i undef)
  | .call g args => ∃ cargs, (execOp a.eval o).run Γ.P w = (callFunc g cargs).run Γ.P w ∧ RepArgs Γ w μ args cargs
  | .ex p => ∀ v, p v → ValOk Γ H w μ a o v
  | .no => True

variable {Γ : Ctx} {H : Heap} {w : World} {μ : List Plc} {a : Act} {o : Oper}

theorem ValOk.same {v : V} {cv : Value} (hm : Mem Γ H w μ) (h : (execOp a.eval o).run Γ.P w = .ok (.value cv) w) (r : Rep Γ w μ v cv) : ValOk Γ H w μ a o v :=
  ⟨cv, w, h, hm, .refl _ _ _, r⟩

theorem rep_tup_one {I : Nat → Prop} {xs : List V} {v : Value} (h : RepV w I μ (.tup xs) v) : ∃ vs, v = .tuple vs ∧ vs.size = xs.length ∧ ∀ (i : Nat) (x : V), xs[i]? = some x → RepV w I μ x (vs.getD i undef) := by
  cases h with
  | tup xs vs hl h => exact ⟨vs, rfl, hl, h⟩

theorem rep_int {I : Nat → Prop} {k : IntKind} {n : Int} {v : Value} (h : RepV w I μ (.fr (.sc (.int k n))) v) : v = .int k n := by
  cases h with
  | fr f v h => cases h with | sc v h => rfl
theorem rep_sc {I : Nat → Prop} {u v : Value} (h : RepV w I μ (.fr (.sc u)) v) : v = u := by
  cases h with
  | fr f v h => cases h with | sc v h => rfl
theorem rep_mk {I : Nat → Prop} (u : Value) (h : u.oneCell' = true) : RepV w I μ (.fr (.sc u)) u := .fr _ _ (.sc _ h)

/-- What a load finds. -/
theorem run_loadV {P : Program} {t : Nat} {ti : TI} (ht : TiOk P t ti) {I : Nat → Prop} {xs : List V} {v : V} (hv : loadV ti xs = some v) (k o : Nat) (cv : Nat → Value)
    (h : ∀ (j : Nat) (x : V), xs[j]? = some x → w.cell? ⟨k, o + j, none⟩ = some (cv j) ∧ RepV w I μ x (cv j) ∧ (cv j).oneCell' = true) :
    ∃ r, (Instr.loadAt t (.pointer (some ⟨k, o, none⟩))).run P w = .ok r w ∧ RepV w I μ v r := by
  unfold loadV at hv
  split at hv
  · rename_i hk
    cases hl : takeL ti.sz xs with
    | none => rw [hl] at hv; cases hv
    | some l =>
      rw [hl] at hv; cases hv
      obtain ⟨rfl, hlen⟩ := takeL_some hl
      obtain ⟨d, hd, hkd⟩ := ht.kind
      have hxl : ti.sz ≤ xs.length := by rw [List.length_take] at hlen; omega
      let cs := (List.range ti.sz).map cv
      have hcs : cs.length = ti.sz := by simp [cs]
      have hget : ∀ j, j < ti.sz → cs[j]? = some (cv j) := fun j hj => by simp [cs, hj]
      have hx : ∀ j, j < ti.sz → ∃ x, xs[j]? = some x := fun j hj => ⟨xs[j]'(by omega), by simp⟩
      refine ⟨.agg cs.toArray, run_loadAt_mid w k o t cs d ?_ hd (by rw [hkd.agg, hk]) (by rw [hcs]; exact ht.size'), .agg _ _ (by simp [hcs]; omega) ?_ ?_⟩
      · intro j u hu
        have hj : j < ti.sz := by have := (List.getElem?_eq_some_iff.1 hu).1; omega
        rw [hget j hj] at hu; cases hu
        obtain ⟨x, hx'⟩ := hx j hj
        exact (h j x hx').1
      · intro i hi
        have hi' : i < ti.sz := by simpa [hcs] using hi
        obtain ⟨x, hx'⟩ := hx i hi'
        have : cs.toArray.getD i undef = cv i := by rw [Array.getD_eq_getD_getElem?, List.getElem?_toArray, hget i hi']; rfl
        rw [this]; exact (h i x hx').2.2
      · intro i x hx'
        rw [List.getElem?_take] at hx'
        by_cases hi : i < ti.sz
        · rw [if_pos hi] at hx'
          have : cs.toArray.getD i undef = cv i := by rw [Array.getD_eq_getD_getElem?, List.getElem?_toArray, hget i hi]; rfl
          rw [this]; exact (h i x hx').2.1
        · rw [if_neg hi] at hx'; cases hx'
  · rename_i hk
    cases xs with
    | nil => cases hv
    | cons x r =>
      cases hv
      obtain ⟨h1, h2, h3⟩ := h 0 _ rfl
      refine ⟨cv 0, ?_, h2⟩
      simp only [Instr.loadAt, Instr.sureAddr, loadVar, Sem.run_bind, Sem.run_pure, Result.andThen_ok, ht.isAgg w, hk, Bool.false_eq_true, if_false, run_load]
      simp only [Nat.add_zero] at h1
      rw [h1]


theorem Mem.heap {i : Nat} {b : Blk} (hm : Mem Γ H w μ) (h : H[i]? = some b) : ∃ l, μ[i]? = some l ∧ BlkOk Γ w μ b l := by
  have hi : i < H.length := (List.getElem?_eq_some_iff.1 h).1
  obtain ⟨l, hl⟩ : ∃ l, μ[i]? = some l := ⟨μ[i]'(by rw [hm.len]; exact hi), by simp⟩
  exact ⟨l, hl, hm.blk i b l h hl⟩

theorem cell_of {c : Array Value} {e : TypeId} {k : Nat} (h : w.heap[k]? = some (.cells c e (0, 0))) (j : Nat) (hj : j < c.size) : w.cell? ⟨k, j, none⟩ = some (c.getD j undef) := by
  simp only [World.cell?, h, Option.isSome_none, Bool.false_eq_true, if_false]
  simp [Array.getD, hj]

/-- The cells of a block, from an offset on. -/
theorem block_cells {xs : List V} {k o : Nat} (hb : BlkOk Γ w μ (.cells xs) (.at_ k)) :
    ∃ cv : Nat → Value, ∀ (j : Nat) (x : V), (dropL o xs)[j]? = some x → w.cell? ⟨k, o + j, none⟩ = some (cv j) ∧ Rep Γ w μ x (cv j) ∧ (cv j).oneCell' = true := by
  obtain ⟨c, e, h1, h2, h3, h4⟩ := hb
  refine ⟨fun j => c.getD (o + j) undef, fun j x hx => ?_⟩
  rw [dropL_eq, List.getElem?_drop] at hx
  have hj : o + j < c.size := by have := (List.getElem?_eq_some_iff.1 hx).1; omega
  refine ⟨cell_of h1 _ hj, h4 _ _ hx, h3 _ ?_⟩
  simp [Array.getD, hj]

theorem load_block {T : TTab} (hT : TOk Γ.P T) (hm : Mem Γ H w μ) {t : Nat} {x : Operand} {ti : TI} {b o' : Nat} {xs : List V} {v : V} (ho : o.op = .load t x) (hti : T.get t = some ti)
    (hx : Rep Γ w μ (.ptr b o') (a.eval x)) (hb : H[b]? = some (.cells xs)) (hv : loadV ti (dropL o' xs) = some v) : ValOk Γ H w μ a o v := by
  generalize hcx : a.eval x = cx at hx
  cases hx with
  | ptr b o' k hl =>
    have hok := hm.blk b _ _ hb hl
    obtain ⟨cv, hcv⟩ := block_cells (o := o') hok
    obtain ⟨r, hr, hrep⟩ := run_loadV (P := Γ.P) (hT t ti hti) hv _ o' cv hcv
    refine .same hm ?_ hrep
    unfold execOp
    simp only [ho, hcx, Sem.run_bind, hr, Result.andThen_ok, Sem.run_pure]

theorem load_frozen {T : TTab} (hT : TOk Γ.P T) (hm : Mem Γ H w μ) {t : Nat} {x : Operand} {ti : TI} {o' : Nat} {es : List F} {v : V} (ho : o.op = .load t x) (hti : T.get t = some ti)
    (hx : Rep Γ w μ (.fptr es o') (a.eval x)) (hv : loadV ti (dropL o' (es.map .fr)) = some v) : ValOk Γ H w μ a o v := by
  generalize hcx : a.eval x = cx at hx
  cases hx with
  | fptr es o' k o0 cv hk hc hr =>
    obtain ⟨r, hr, hrep⟩ := run_loadV (P := Γ.P) (w := w) (μ := μ) (I := Imm Γ w μ) (hT t ti hti) hv k (o0 + o') (fun j => cv (o' + j)) (fun j y hy => by
      rw [dropL_eq, List.getElem?_drop, List.getElem?_map] at hy
      cases hq : es[o' + j]? with
      | none => rw [hq] at hy; simp at hy
      | some f =>
        rw [hq] at hy; simp at hy; subst hy
        have := hc _ _ hq
        exact ⟨by rw [Nat.add_assoc]; exact this, .fr _ _ (hr _ _ hq), (hr _ _ hq).one⟩)
    refine .same hm ?_ hrep
    unfold execOp
    simp only [ho, hcx, Sem.run_bind, hr, Result.andThen_ok, Sem.run_pure]

theorem fieldAddr_ok {T : TTab} (hT : TOk Γ.P T) {s f : Nat} {x : Operand} {fs : List (Nat × Nat)} {qq : Bool} {n1 n2 : Nat} {z : List F} {o' t' : Nat} (ho : o.op = .fieldAddr s x f)
    (hs : T.get s = some ⟨.st fs qq, n1, n2, z⟩) (hf : fs[f]? = some (o', t')) (hz : szOf T t' ≠ 0) {k q : Nat} (hx : a.eval x = .pointer (some ⟨k, q, none⟩)) :
    (execOp a.eval o).run Γ.P w = .ok (.value (.pointer (some ⟨k, q + o', none⟩))) w := by
  obtain ⟨d, hd, hk⟩ := (hT s _ hs).kind
  cases d <;> try exact hk.elim
  rename_i gs
  have hk' : gs.toList.map (fun f => (f.offset, f.type)) = fs := hk
  rw [← hk'] at hf
  rw [List.getElem?_map] at hf
  cases hg : gs.toList[f]? with
  | none => rw [hg] at hf; simp at hf
  | some g =>
    rw [hg] at hf; simp at hf
    obtain ⟨rfl, rfl⟩ := hf
    have hg' : gs[f]? = some g := by simpa using hg
    have hsz : ∃ ti, T.get g.type = some ti ∧ ti.sz ≠ 0 := by
      unfold szOf at hz
      cases h : T.get g.type with
      | none => rw [h] at hz; simp at hz
      | some ti => rw [h] at hz; exact ⟨ti, rfl, hz⟩
    obtain ⟨ti, h1, h2⟩ := hsz
    unfold execOp
    simp only [ho, hx, Instr.fieldAt, Sem.run_bind, run_underlying hd w, Result.andThen_ok, hg', Instr.sureAddr, Sem.run_pure, fieldPlace, (hT _ ti h1).size w, h2, if_false, Addr.add_mid]

theorem idx_ok {T : TTab} (hT : TOk Γ.P T) (hm : Mem Γ H w μ) {t e' : Nat} {x i : Operand} {n1 n2 : Nat} {z : List F} {n nb : Nat} {es : List (List F)} {k : IntKind} {q : Int} (ho : o.op = .indexAddr t x i)
    (ht : T.get t = some ⟨.sli e', n1, n2, z⟩) (hn : n = szOf T e') (hx : Rep Γ w μ (.fr (.sl n nb es)) (a.eval x)) (hi : Rep Γ w μ (.fr (.sc (.int k q))) (a.eval i))
    {e : List F} (h0 : 0 ≤ q) (he : es[q.toNat]? = some e) (hsz : ∃ ti, T.get e' = some ti) : ValOk Γ H w μ a o (.fptr e 0) := by
  have hi' := rep_int hi
  obtain ⟨ti, hti⟩ := hsz
  have hn' : n = ti.sz := by rw [hn]; unfold szOf; rw [hti]
  obtain ⟨d, hd, hk⟩ := (hT t _ ht).kind
  cases d <;> try exact hk.elim
  rename_i e''
  obtain rfl : e' = e'' := hk
  generalize hcx : a.eval x = cx at hx
  cases hx with
  | fr f v h =>
    cases h with
    | nil => simp at he
    | sl n nb es b o1 c cv hk1 hcl hb1 hl hc hr =>
      have hlt : q.toNat < es.length := (List.getElem?_eq_some_iff.1 he).1
      refine .same (cv := .pointer (some ⟨b, o1 + q.toNat * n, none⟩)) hm ?_ ?_
      · unfold execOp
        have hq : q < (es.length : Int) := by omega
        simp only [ho, hcx, hi', Instr.indexAt, asIntOf, Sem.run_bind, Sem.run_pure, Result.andThen_ok, run_underlying hd w, h0, hq, and_self, if_true, (hT _ ti hti).size w, Addr.add_mid, hn']
      · have := RepV.fptr (w := w) (I := Imm Γ w μ) (μ := μ) e 0 b (o1 + q.toNat * n) (fun j => cv q.toNat j) hk1 (fun j f hj => by rw [← hc q.toNat e j f he hj]) (fun j f hj => hr q.toNat e j f he hj)
        simpa using this

theorem str_ok {T : TTab} (hT : TOk Γ.P T) (hm : Mem Γ H w μ) {t : Nat} {x i : Operand} {n1 n2 : Nat} {z : List F} {s : ByteArray} {k : IntKind} {q : Int} (ho : o.op = .index t x i)
    (ht : T.get t = some ⟨.str, n1, n2, z⟩) (hx : Rep Γ w μ (.fr (.sc (.string s))) (a.eval x)) (hi : Rep Γ w μ (.fr (.sc (.int k q))) (a.eval i)) (h : q.toNat < s.size) (h0 : 0 ≤ q) :
    ValOk Γ H w μ a o (.fr (.sc (.int .u8 (s[q.toNat]'h).toNat))) := by
  have hi' := rep_int hi
  have hx' := rep_sc hx
  obtain ⟨d, hd, hk⟩ := (hT t _ ht).kind
  cases d <;> try exact hk.elim
  refine .same (cv := .int .u8 (s[q.toNat]'h).toNat) hm ?_ (rep_mk _ rfl)
  unfold execOp
  simp only [ho, hx', hi', Instr.index, asIntOf, Sem.run_bind, Sem.run_pure, Result.andThen_ok, run_underlying hd w, h0, if_true]
  simp [h]

end Go.AW

/- AW, part 4: the other pure operations. -/
namespace Go.AW
open Go Go.RowKit
variable {Γ : Ctx} {H : Heap} {w : World} {μ : List Plc} {a : Act} {o : Oper}

theorem kCode_inj {i j : IntKind} (h : kCode i = kCode j) : i = j := by cases i <;> cases j <;> first | rfl | (simp [kCode] at h)

theorem bytes_eq (a b : ByteArray) : (a.toList == b.toList) = decide (a = b) := by
  rw [Bool.eq_iff_iff, beq_iff_eq, decide_eq_true_iff]
  constructor
  · intro h
    rw [ByteArray.toList_eq, ByteArray.toList_eq] at h
    obtain ⟨⟨x⟩⟩ := a
    obtain ⟨⟨y⟩⟩ := b
    simpa using h
  · intro h; rw [h]

theorem intOp_ok {op : BinOp} {x y : Operand} {t t' : Nat} {i : IntKind} {p q : Int} (hm : Mem Γ H w μ) (ho : o.op = .binOp op t x y t') (hx : Rep Γ w μ (.fr (.sc (.int i p))) (a.eval x)) (hy : Rep Γ w μ (.fr (.sc (.int i q))) (a.eval y))
    (h1 : op ≠ .shl) (h2 : op ≠ .shr) : PRok Γ H w μ a o (intOp op i p q) := by
  have hx' := rep_int hx
  have hy' := rep_int hy
  have key : ∀ cv, (binOp op t (.int i p) (.int i q)).run Γ.P w = .ok cv w → (execOp a.eval o).run Γ.P w = .ok (.value cv) w := by
    intro cv h
    have hg : (eqGuard op t x y (.int i p) (.int i q)).run Γ.P w = .ok () w := by
      unfold eqGuard
      cases op <;> rfl
    unfold execOp
    simp only [ho, hx', hy', Sem.run_bind, hg, Result.andThen_ok, h, Sem.run_pure]
  have done : ∀ cv : Value, cv.oneCell' = true → (binOp op t (.int i p) (.int i q)).run Γ.P w = .ok cv w → ValOk Γ H w μ a o (.fr (.sc cv)) := fun cv h1 h => .same hm (key cv h) (rep_mk cv h1)
  cases op with
  | shl => exact absurd rfl h1
  | shr => exact absurd rfl h2
  | quo => exact fun hq => done _ rfl (by simp [binOp, Op.intDiv, hq])
  | rem => exact fun hq => done _ rfl (by simp [binOp, Op.intDiv, hq])
  | andNot => trivial
  | _ => exact done _ rfl (by simp [binOp, Op.intArith, Op.intCmp, Op.intBits])

theorem strOp_ok {op : BinOp} {x y : Operand} {t t' : Nat} {p q : ByteArray} (hm : Mem Γ H w μ) (ho : o.op = .binOp op t x y t') (hx : Rep Γ w μ (.fr (.sc (.string p))) (a.eval x)) (hy : Rep Γ w μ (.fr (.sc (.string q))) (a.eval y)) :
    PRok Γ H w μ a o (strOp op p q) := by
  have hx' := rep_sc hx
  have hy' := rep_sc hy
  have key : ∀ cv, (binOp op t (.string p) (.string q)).run Γ.P w = .ok cv w → (execOp a.eval o).run Γ.P w = .ok (.value cv) w := by
    intro cv h
    have hg : (eqGuard op t x y (.string p) (.string q)).run Γ.P w = .ok () w := by
      unfold eqGuard
      cases op <;> rfl
    unfold execOp
    simp only [ho, hx', hy', Sem.run_bind, hg, Result.andThen_ok, h, Sem.run_pure]
  have done : ∀ cv : Value, cv.oneCell' = true → (binOp op t (.string p) (.string q)).run Γ.P w = .ok cv w → ValOk Γ H w μ a o (.fr (.sc cv)) := fun cv h1 h => .same hm (key cv h) (rep_mk cv h1)
  cases op with
  | eql => exact done _ rfl (by simp [binOp, Op.stringOp, bytes_eq])
  | neq => exact done _ rfl (by simp [binOp, Op.stringOp, bytes_eq])
  | lss => exact done _ rfl (by simp [binOp, Op.stringOp, sless])
  | leq => exact done _ rfl (by simp [binOp, Op.stringOp, bytes_eq, sless])
  | gtr => exact done _ rfl (by simp [binOp, Op.stringOp, bytes_eq, sless])
  | geq => exact done _ rfl (by simp [binOp, Op.stringOp, sless])
  | add => exact fun h => done _ rfl (by
      have : ¬ ((p.size + q.size : Nat) : Int) > IntKind.i64.max := by
        have e : IntKind.i64.max = 9223372036854775807 := by decide
        rw [e]; omega
      simp only [binOp, Op.stringOp, this, if_false, Sem.run_pure])
  | _ => trivial

theorem eqT_zero (T : TTab) (t : Nat) (xs ys : List V) : eqT T 0 t xs ys = none := rfl

noncomputable def eqFs (T : TTab) (n : Nat) (xs ys : List V) (fs : List (Nat × Nat)) : Option Bool := List.rec (motive := fun _ => Option Bool) (some true) (fun p _ r => match T.get p.2 with
        | some ti => (match ti.k with
          | .st _ _ => (match takeL ti.sz (dropL p.1 xs), takeL ti.sz (dropL p.1 ys) with
            | some l, some m => (match eqT T n p.2 l m, r with | some a, some b => some (a && b) | _, _ => none)
            | _, _ => none)
          | .int _ => (match nth xs p.1, nth ys p.1 with | some x, some y => (match eqV 0 x y, r with | some a, some b => some (a && b) | _, _ => none) | _, _ => none)
          | .bool => (match nth xs p.1, nth ys p.1 with | some x, some y => (match eqV 1 x y, r with | some a, some b => some (a && b) | _, _ => none) | _, _ => none)
          | .str => (match nth xs p.1, nth ys p.1 with | some x, some y => (match eqV 2 x y, r with | some a, some b => some (a && b) | _, _ => none) | _, _ => none)
          | .arr m e => (match T.get e with
            | some ⟨.int _, 1, _, _⟩ => (match Nat.beq ti.sz m, takeL ti.sz (dropL p.1 xs), takeL ti.sz (dropL p.1 ys) with
              | true, some l, some k => (match eqI l k, r with | some a, some b => some (a && b) | _, _ => none)
              | _, _, _ => none)
            | _ => none)
          | _ => none)
        | none => none) fs

theorem eqT_succ (T : TTab) (n t : Nat) (xs ys : List V) : eqT T (n + 1) t xs ys = (match T.get t with
    | some ⟨.st fs true, _, _, _⟩ => eqFs T n xs ys fs
    | _ => none) := rfl

theorem eqFs_cons (T : TTab) (n : Nat) (xs ys : List V) (p : Nat × Nat) (fs : List (Nat × Nat)) : eqFs T n xs ys (p :: fs) = (match T.get p.2 with
        | some ti => (match ti.k with
          | .st _ _ => (match takeL ti.sz (dropL p.1 xs), takeL ti.sz (dropL p.1 ys) with
            | some l, some m => (match eqT T n p.2 l m, eqFs T n xs ys fs with | some a, some b => some (a && b) | _, _ => none)
            | _, _ => none)
          | .int _ => (match nth xs p.1, nth ys p.1 with | some x, some y => (match eqV 0 x y, eqFs T n xs ys fs with | some a, some b => some (a && b) | _, _ => none) | _, _ => none)
          | .bool => (match nth xs p.1, nth ys p.1 with | some x, some y => (match eqV 1 x y, eqFs T n xs ys fs with | some a, some b => some (a && b) | _, _ => none) | _, _ => none)
          | .str => (match nth xs p.1, nth ys p.1 with | some x, some y => (match eqV 2 x y, eqFs T n xs ys fs with | some a, some b => some (a && b) | _, _ => none) | _, _ => none)
          | .arr m e => (match T.get e with
            | some ⟨.int _, 1, _, _⟩ => (match Nat.beq ti.sz m, takeL ti.sz (dropL p.1 xs), takeL ti.sz (dropL p.1 ys) with
              | true, some l, some k => (match eqI l k, eqFs T n xs ys fs with | some a, some b => some (a && b) | _, _ => none)
              | _, _, _ => none)
            | _ => none)
          | _ => none)
        | none => none) := rfl

theorem eqV_run {P : Program} {w : World} {I : Nat → Prop} {μ : List Plc} {c : Nat} {x y : V} {cx cy : Value} {b : Bool} (hx : RepV w I μ x cx) (hy : RepV w I μ y cy) (h : eqV c x y = some b) {t : Nat} {d : TypeDesc} (ht : P.underlying t = some d)
    (hd : (c = 0 ∧ ∃ k, d = .int k) ∨ (c = 1 ∧ d = .bool) ∨ (c = 2 ∧ d = .string)) (n : Nat) : (Op.equalIn (n + 1) t cx cy).run P w = .ok b w := by
  unfold eqV at h
  split at h
  · rename_i k p k' q
    split at h
    · rename_i hk
      cases h
      obtain rfl := kCode_inj (Nat.eq_of_beq_eq_true hk)
      rw [rep_sc hx, rep_sc hy]
      rcases hd with ⟨_, k2, rfl⟩ | ⟨e, _⟩ | ⟨e, _⟩
      · exact run_equalIn_int w n t k k2 p q ht
      · cases e
      · cases e
    · cases h
  · cases h
    rw [rep_sc hx, rep_sc hy]
    rcases hd with ⟨e, _⟩ | ⟨_, rfl⟩ | ⟨e, _⟩
    · cases e
    · exact run_equalIn_bool' w n t _ _ ht
    · cases e
  · rename_i p q
    cases h
    rw [rep_sc hx, rep_sc hy]
    rcases hd with ⟨e, _⟩ | ⟨e, _⟩ | ⟨_, rfl⟩
    · cases e
    · cases e
    · rw [run_equalIn_string w n t _ _ ht, bytes_eq]
  · cases h

/-- The piece of a struct's cells. -/
theorem rep_piece {I : Nat → Prop} {w : World} {μ : List Plc} {xs l : List V} {vs : Array Value} {o n : Nat} (hl : vs.size = xs.length) (h1 : ∀ i, i < vs.size → (vs.getD i undef).oneCell' = true) (h : ∀ (i : Nat) (x : V), xs[i]? = some x → RepV w I μ x (vs.getD i undef))
    (ht : takeL n (dropL o xs) = some l) : RepV w I μ (.agg l) (.agg (vs.extract o (o + n))) := by
  obtain ⟨rfl, hlen⟩ := takeL_some ht
  rw [dropL_eq] at hlen ⊢
  have hsz : n + o ≤ xs.length ∨ n = 0 := by rw [List.length_take, List.length_drop] at hlen; omega
  have hext : (vs.extract o (o + n)).size = n := by rw [Array.size_extract]; omega
  have hgd : ∀ i, i < n → (vs.extract o (o + n)).getD i undef = vs.getD (o + i) undef := fun i hi => by
    have hb : i < min (o + n) vs.size - o := by omega
    have hc : o + i < vs.size := by omega
    simp [Array.getD_eq_getD_getElem?, hb, hc]
  refine .agg _ _ (by rw [hext, List.length_take, List.length_drop]; omega) (fun i hi => ?_) (fun i y hy => ?_)
  · rw [hext] at hi
    rw [hgd i hi]; exact h1 _ (by omega)
  · rw [List.getElem?_take] at hy
    by_cases hi : i < n
    · rw [if_pos hi, List.getElem?_drop] at hy
      rw [hgd i hi]; exact h _ _ hy
    · rw [if_neg hi] at hy; cases hy

/-- Two arrays of whole numbers, from a place on. -/
theorem eqI_run {P : Program} {I : Nat → Prop} {w : World} {μ : List Plc} {e : Nat} {kk : IntKind} {k : IntKind} {by1 : Nat} {z1 : List F} (hti : TiOk P e ⟨.int kk, 1, by1, z1⟩) (hd : P.underlying e = some (.int k)) {vs us : Array Value} (d : Nat) :
    ∀ (l q : List V) (j : Nat) (b : Bool), eqI l q = some b → (∀ (i : Nat) (x : V), l[i]? = some x → j + i < vs.size ∧ RepV w I μ x (vs.getD (j + i) undef)) → (∀ (i : Nat) (x : V), q[i]? = some x → j + i < us.size ∧ RepV w I μ x (us.getD (j + i) undef)) →
      (Op.eqItems (d + 1) e 1 vs us (List.range' j l.length)).run P w = .ok b w
  | [], q, j, b, h, _, _ => by
    cases q with
    | nil => have h' : some true = some b := h; cases h'; rfl
    | cons y q => have h' : (none : Option Bool) = some b := h; cases h'
  | x :: l, q, j, b, h, hv, hu => by
    cases q with
    | nil => have h' : (none : Option Bool) = some b := h; cases h'
    | cons y q =>
      have h' : (match eqV 0 x y, eqI l q with | some a, some b => some (a && b) | _, _ => none) = some b := h
      split at h'
      · rename_i a r ha hr
        cases h'
        obtain ⟨h1, h2⟩ := hv 0 x rfl
        obtain ⟨h3, h4⟩ := hu 0 y rfl
        simp only [Nat.add_zero] at h1 h2 h3 h4
        have ih := eqI_run hti hd d l q (j + 1) r hr (fun i x hx => by have := hv (i + 1) x (by simpa using hx); rwa [show j + (i + 1) = j + 1 + i by omega] at this) (fun i x hx => by have := hu (i + 1) x (by simpa using hx); rwa [show j + (i + 1) = j + 1 + i by omega] at this)
        have e1 : (part e vs (j * 1)).run P w = .ok (vs.getD j undef) w := by
          simp only [part, Sem.run_bind, hti.isAgg w, Result.andThen_ok, isAggK, Bool.false_eq_true, if_false, Nat.mul_one]
          simp [h1, Array.getD]
        have e2 : (part e us (j * 1)).run P w = .ok (us.getD j undef) w := by
          simp only [part, Sem.run_bind, hti.isAgg w, Result.andThen_ok, isAggK, Bool.false_eq_true, if_false, Nat.mul_one]
          simp [h3, Array.getD]
        have e3 := eqV_run (P := P) h2 h4 ha hd (.inl ⟨rfl, _, rfl⟩) d
        rw [List.length_cons, List.range'_succ]
        simp only [Op.eqItems, Sem.run_bind, e1, e2, e3, Result.andThen_ok]
        cases a with
        | true => simpa using ih
        | false => simp
      · cases h'

theorem eqT_run {T : TTab} {P : Program} (hT : TOk P T) {I : Nat → Prop} {w : World} {μ : List Plc} : ∀ (n t : Nat) (xs ys : List V) (vs us : Array Value) (b : Bool), eqT T n t xs ys = some b → RepV w I μ (.agg xs) (.agg vs) → RepV w I μ (.agg ys) (.agg us) →
    ∀ d, n + 2 ≤ d → (Op.equalIn d t (.agg vs) (.agg us)).run P w = .ok b w
  | 0, t, xs, ys, vs, us, b, h, _, _, _, _ => by rw [eqT_zero] at h; cases h
  | n + 1, t, xs, ys, vs, us, b, h, hx, hy, d, hd => by
    obtain ⟨d, rfl⟩ : ∃ d', d = d' + 1 := ⟨d - 1, by omega⟩
    rw [eqT_succ] at h
    split at h
    · rename_i fs n1 n2 z ht
      obtain ⟨h2, h3, h4⟩ := (hT t _ ht).eq fs rfl
      obtain ⟨ds, hds, hk⟩ := (hT t _ ht).kind
      cases ds <;> try exact hk.elim
      rename_i gs
      have hk' : gs.toList.map (fun f => (f.offset, f.type)) = fs := hk
      have hfo : P.fieldsOf t = gs := by simp [Program.fieldsOf, hds]
      rw [hfo] at h4
      rw [run_equalIn_struct w d t vs us (by rw [hfo]; exact hds) h2, hfo]
      clear hds hk ht hfo
      generalize gs.toList = gl at hk' h4
      induction gl generalizing fs b with
      | nil => subst hk'; cases h; rfl
      | cons g gl ih =>
        subst hk'
        rw [List.map_cons, eqFs_cons] at h
        have hname := h4 g List.mem_cons_self
        simp only at h
        -- the rest
        have rest : ∀ {a r : Bool} {cv cu : Value}, (part g.type vs g.offset).run P w = .ok cv w → (part g.type us g.offset).run P w = .ok cu w → (Op.equalIn d g.type cv cu).run P w = .ok a w →
            eqFs T n xs ys (gl.map fun f => (f.offset, f.type)) = some r → (Op.eqFields d vs us (g :: gl)).run P w = .ok (a && r) w := by
          intro a r cv cu e1 e2 e3 e4
          have := ih r _ e4 rfl (fun f hf => h4 f (List.mem_cons_of_mem _ hf))
          simp only [Op.eqFields, Sem.run_bind, hname, ne_eq, not_false_iff, if_true, e1, e2, e3, Result.andThen_ok]
          cases a with
          | true => simpa using this
          | false => simp
        cases hx with
        | agg xs vs hl1 ho1 hr1 =>
          cases hy with
          | agg ys us hl2 ho2 hr2 =>
            have scal : ∀ {ti : TI} {c : Nat} {x y : V} {a r : Bool} {dd : TypeDesc}, T.get g.type = some ti → isAggK ti.k = false → P.underlying g.type = some dd → nth xs g.offset = some x → nth ys g.offset = some y → eqV c x y = some a →
                ((c = 0 ∧ ∃ k, dd = .int k) ∨ (c = 1 ∧ dd = .bool) ∨ (c = 2 ∧ dd = .string)) →
                eqFs T n xs ys (gl.map fun f => (f.offset, f.type)) = some r → (Op.eqFields d vs us (g :: gl)).run P w = .ok (a && r) w := by
              intro ti c x y a r dd e1 e2 e3 e4 e5 e6 e7 e8
              rw [nth_eq] at e4 e5
              have l1 : g.offset < vs.size := by have := (List.getElem?_eq_some_iff.1 e4).1; omega
              have l2 : g.offset < us.size := by have := (List.getElem?_eq_some_iff.1 e5).1; omega
              obtain ⟨d', rfl⟩ : ∃ d', d = d' + 1 := ⟨d - 1, by omega⟩
              refine rest (cv := vs.getD g.offset undef) (cu := us.getD g.offset undef) ?_ ?_ (eqV_run (hr1 _ _ e4) (hr2 _ _ e5) e6 e3 e7 d') e8
              · simp only [part, Sem.run_bind, (hT _ ti e1).isAgg w, Result.andThen_ok, e2, Bool.false_eq_true, if_false]
                simp [l1, Array.getD]
              · simp only [part, Sem.run_bind, (hT _ ti e1).isAgg w, Result.andThen_ok, e2, Bool.false_eq_true, if_false]
                simp [l2, Array.getD]
            split at h
            · rename_i ti hti
              obtain ⟨dd, hdd, hkk⟩ := (hT _ ti hti).kind
              split at h
              · rename_i hk1
                split at h
                · rename_i l m hl hm
                  split at h
                  · rename_i a r ha hr
                    cases h
                    have p1 := rep_piece hl1 ho1 hr1 hl
                    have p2 := rep_piece hl2 ho2 hr2 hm
                    refine rest ?_ ?_ (eqT_run hT n g.type l m _ _ a ha p1 p2 d (by omega)) hr
                    · simp only [part, Sem.run_bind, (hT _ ti hti).isAgg w, Result.andThen_ok, hk1, isAggK, if_true, (hT _ ti hti).size w, Sem.run_pure]
                    · simp only [part, Sem.run_bind, (hT _ ti hti).isAgg w, Result.andThen_ok, hk1, isAggK, if_true, (hT _ ti hti).size w, Sem.run_pure]
                  · cases h
                · cases h
              · rename_i k hk1
                split at h
                · rename_i x y hx hy
                  split at h
                  · rename_i a r ha hr
                    cases h
                    rw [hk1] at hkk
                    cases dd <;> try exact hkk.elim
                    exact scal hti (by rw [hk1]; rfl) hdd hx hy ha (.inl ⟨rfl, _, rfl⟩) hr
                  · cases h
                · cases h
              · rename_i hk1
                split at h
                · rename_i x y hx hy
                  split at h
                  · rename_i a r ha hr
                    cases h
                    rw [hk1] at hkk
                    cases dd <;> try exact hkk.elim
                    exact scal hti (by rw [hk1]; rfl) hdd hx hy ha (.inr (.inl ⟨rfl, rfl⟩)) hr
                  · cases h
                · cases h
              · rename_i hk1
                split at h
                · rename_i x y hx hy
                  split at h
                  · rename_i a r ha hr
                    cases h
                    rw [hk1] at hkk
                    cases dd <;> try exact hkk.elim
                    exact scal hti (by rw [hk1]; rfl) hdd hx hy ha (.inr (.inr ⟨rfl, rfl⟩)) hr
                  · cases h
                · cases h
              · rename_i m e hk1
                split at h
                · rename_i kk by1 z1 hte
                  split at h
                  · rename_i l q hbm hl hm
                    split at h
                    · rename_i a r ha hr
                      cases h
                      have p1 := rep_piece hl1 ho1 hr1 hl
                      have p2 := rep_piece hl2 ho2 hr2 hm
                      rw [hk1] at hkk
                      cases dd <;> try exact hkk.elim
                      rename_i m' e'
                      obtain ⟨rfl, rfl⟩ : m = m' ∧ e = e' := hkk
                      obtain ⟨de, hde, hke⟩ := (hT _ _ hte).kind
                      cases de <;> try exact hke.elim
                      obtain ⟨d', rfl⟩ : ∃ d', d = d' + 1 := ⟨d - 1, by omega⟩
                      refine rest (cv := .agg (vs.extract g.offset (g.offset + ti.sz))) (cu := .agg (us.extract g.offset (g.offset + ti.sz))) ?_ ?_ ?_ hr
                      · simp only [part, Sem.run_bind, (hT _ ti hti).isAgg w, Result.andThen_ok, hk1, isAggK, if_true, (hT _ ti hti).size w, Sem.run_pure]
                      · simp only [part, Sem.run_bind, (hT _ ti hti).isAgg w, Result.andThen_ok, hk1, isAggK, if_true, (hT _ ti hti).size w, Sem.run_pure]
                      · obtain ⟨ie, ze, hie, _⟩ := (hT _ _ hte).info
                        obtain rfl : ti.sz = m := Nat.eq_of_beq_eq_true hbm
                        have hce : P.cellsOf e = 1 := by simp [Program.cellsOf, (hT _ _ hte).size']
                        rw [run_equalIn_array w d' _ _ hdd hie, hce, List.range_eq_range']
                        obtain ⟨d2, rfl⟩ : ∃ d2, d' = d2 + 1 := ⟨d' - 1, by omega⟩
                        cases p1 with
                        | agg _ _ q1 q2 q3 =>
                          cases p2 with
                          | agg _ _ q4 q5 q6 =>
                            have hfin := eqI_run (I := I) (w := w) (μ := μ) (vs := vs.extract g.offset (g.offset + ti.sz)) (us := us.extract g.offset (g.offset + ti.sz)) (hT _ _ hte) hde d2 l q 0 a ha (fun i x hx => ⟨by have := (List.getElem?_eq_some_iff.1 hx).1; omega, by rw [Nat.zero_add]; exact q3 i x hx⟩) (fun i x hx => ⟨by have := (List.getElem?_eq_some_iff.1 hx).1; omega, by rw [Nat.zero_add]; exact q6 i x hx⟩)
                            rw [(takeL_some hl).2] at hfin
                            exact hfin
                    · cases h
                  · cases h
                · cases h
              · cases h
            · cases h
    · cases h

theorem bin_ok {T : TTab} (hT : TOk Γ.P T) {op : BinOp} {x y : Operand} {t t' : Nat} {u v : V} (hm : Mem Γ H w μ) (ho : o.op = .binOp op t x y t') (hx : Rep Γ w μ u (a.eval x)) (hy : Rep Γ w μ v (a.eval y)) :
    PRok Γ H w μ a o (binP T op t u v) := by
  unfold binP
  split
  · split
    · trivial
    · trivial
    · split
      · rename_i h
        obtain rfl := kCode_inj (Nat.eq_of_beq_eq_true h)
        exact intOp_ok hm ho hx hy (by assumption) (by assumption)
      · trivial
  · exact strOp_ok hm ho hx hy
  · split
    · rename_i p q _ n1 n2 z ht
      have hx' := rep_sc hx
      have hy' := rep_sc hy
      obtain ⟨d, hd, hk⟩ := (hT t _ ht).kind
      cases d <;> try exact hk.elim
      have he : (Op.equal t (.bool p) (.bool q)).run Γ.P w = .ok (p == q) w := by
        exact run_equalIn_bool' w 9999 t p q hd
      have hg : ∀ op, (eqGuard op t x y (.bool p) (.bool q)).run Γ.P w = .ok () w := by intro op; cases op <;> rfl
      split
      · refine .same (cv := .bool (p == q)) hm ?_ (rep_mk _ rfl)
        unfold execOp
        simp only [ho, hx', hy', binOp, Sem.run_bind, hg, Sem.run_pure, Result.andThen_ok, he]
      · refine .same (cv := .bool (p != q)) hm ?_ (rep_mk _ rfl)
        unfold execOp
        simp only [ho, hx', hy', binOp, Sem.run_bind, hg, Sem.run_pure, Result.andThen_ok, he]; rfl
      · trivial
    · trivial
  · rename_i xs ys
    have key : ∀ b, eqT T 8 t xs ys = some b → ∃ vs us fs, a.eval x = .agg vs ∧ a.eval y = .agg us ∧ (∃ n1 n2 z, T.get t = some ⟨.st fs true, n1, n2, z⟩) ∧ (Op.equalIn 10000 t (.agg vs) (.agg us)).run Γ.P w = .ok b w := by
      intro b hb
      generalize a.eval x = cx at hx
      generalize a.eval y = cy at hy
      have hst : ∃ fs n1 n2 z, T.get t = some ⟨.st fs true, n1, n2, z⟩ := by
        rw [eqT_succ] at hb
        split at hb
        · exact ⟨_, _, _, _, by assumption⟩
        · cases hb
      obtain ⟨fs, n1, n2, z, hst⟩ := hst
      cases hx with
      | agg _ vs h1 h2 h3 =>
        cases hy with
        | agg _ us h4 h5 h6 => exact ⟨vs, us, fs, rfl, rfl, ⟨n1, n2, z, hst⟩, eqT_run hT 8 t xs ys vs us b hb (.agg _ _ h1 h2 h3) (.agg _ _ h4 h5 h6) 10000 (by omega)⟩
    split
    · split
      · rename_i b hb
        obtain ⟨vs, us, fs, e1, e2, ⟨n1, n2, z, e3⟩, e4⟩ := key b hb
        have hg := ((hT t _ e3).eq fs rfl).2.1
        refine .same (cv := .bool b) hm ?_ (rep_mk _ rfl)
        unfold execOp
        simp only [ho, e1, e2, Sem.run_bind, run_eqGuard_agg w _ t _ _ vs us hg, Result.andThen_ok, run_eql_struct, e4, Sem.run_pure]
      · trivial
    · split
      · rename_i b hb
        obtain ⟨vs, us, fs, e1, e2, ⟨n1, n2, z, e3⟩, e4⟩ := key b hb
        have hg := ((hT t _ e3).eq fs rfl).2.1
        refine .same (cv := .bool (!b)) hm ?_ (rep_mk _ rfl)
        unfold execOp
        simp only [ho, e1, e2, Sem.run_bind, run_eqGuard_agg w _ t _ _ vs us hg, Result.andThen_ok, run_neq_struct, e4, Sem.run_pure]
      · trivial
    · trivial
  · split
    · rename_i ht
      have hx' := rep_sc hx
      have hy' := rep_sc hy
      obtain ⟨d, hd, hk⟩ := (hT t _ ht).kind
      cases d <;> try exact hk.elim
      split
      · have hg : ∀ op p q, (eqGuard op t x y (.float .f64 p) (.float .f64 q)).run Γ.P w = .ok () w := by intro op p q; cases op <;> rfl
        split
        · refine .same (cv := .bool _) hm ?_ (rep_mk _ rfl)
          unfold execOp
          simp only [ho, hx', hy', binOp, Sem.run_bind, hg, Sem.run_pure, Result.andThen_ok, ne_eq, not_true, if_false]
          rfl
        · refine .same (cv := .bool _) hm ?_ (rep_mk _ rfl)
          unfold execOp
          simp only [ho, hx', hy', binOp, Sem.run_bind, hg, Sem.run_pure, Result.andThen_ok, ne_eq, not_true, if_false]
          rfl
        · trivial
      · trivial
    · trivial
  · trivial

theorem extract_ok {x : Operand} {i : Nat} {xs : List V} {v : V} (hm : Mem Γ H w μ) (ho : o.op = .extract x i) (hx : Rep Γ w μ (.tup xs) (a.eval x)) (hv : xs[i]? = some v) : ValOk Γ H w μ a o v := by
  obtain ⟨vs, h1, h2, h3⟩ := rep_tup_one hx
  have hi : i < vs.size := by have := (List.getElem?_eq_some_iff.1 hv).1; omega
  refine .same (cv := vs.getD i undef) hm ?_ (h3 i v hv)
  unfold execOp
  simp only [ho, h1, Instr.extract, Sem.run_bind]
  simp [hi, Array.getD]

theorem field_ok {T : TTab} (hT : TOk Γ.P T) {s f : Nat} {x : Operand} {fs : List (Nat × Nat)} {qq : Bool} {n1 n2 : Nat} {z : List F} {o' t' : Nat} {ti : TI} {xs : List V} {v : V} (hm : Mem Γ H w μ) (ho : o.op = .field s x f)
    (hs : T.get s = some ⟨.st fs qq, n1, n2, z⟩) (hf : fs[f]? = some (o', t')) (ht : T.get t' = some ti) (hx : Rep Γ w μ (.agg xs) (a.eval x)) (hv : loadV ti (dropL o' xs) = some v) : ValOk Γ H w μ a o v := by
  obtain ⟨d, hd, hk⟩ := (hT s _ hs).kind
  cases d <;> try exact hk.elim
  rename_i gs
  have hk' : gs.toList.map (fun f => (f.offset, f.type)) = fs := hk
  rw [← hk', List.getElem?_map] at hf
  generalize hcx : a.eval x = cx at hx
  cases hx with
  | agg xs vs hl h1 h =>
    cases hg : gs.toList[f]? with
    | none => rw [hg] at hf; simp at hf
    | some g =>
      rw [hg] at hf; simp at hf
      obtain ⟨rfl, rfl⟩ := hf
      have hg' : gs[f]? = some g := by simpa using hg
      have hT' := hT _ ti ht
      have hrun : (execOp a.eval o).run Γ.P w = ((part g.type vs g.offset).run Γ.P w).andThen fun v w' => .ok (.value v) w' := by
        unfold execOp
        simp only [ho, hcx, Instr.field, Sem.run_bind, run_underlying hd w, Result.andThen_ok, asAgg, Sem.run_pure, hg']
      unfold loadV at hv
      split at hv
      · rename_i hk2
        cases hl2 : takeL ti.sz (dropL g.offset xs) with
        | none => rw [hl2] at hv; cases hv
        | some l =>
          rw [hl2] at hv; cases hv
          obtain ⟨rfl, hlen⟩ := takeL_some hl2
          rw [dropL_eq] at hlen ⊢
          have hsz : ti.sz + g.offset ≤ xs.length ∨ ti.sz = 0 := by rw [List.length_take, List.length_drop] at hlen; omega
          have hext : (vs.extract g.offset (g.offset + ti.sz)).size = ti.sz := by rw [Array.size_extract]; omega
          have hgd : ∀ i, i < ti.sz → (vs.extract g.offset (g.offset + ti.sz)).getD i undef = vs.getD (g.offset + i) undef := fun i hi => by
            have hb : i < min (g.offset + ti.sz) vs.size - g.offset := by omega
            have hc : g.offset + i < vs.size := by omega
            simp [Array.getD_eq_getD_getElem?, hb, hc]
          refine .same (cv := .agg (vs.extract g.offset (g.offset + ti.sz))) hm ?_ (.agg _ _ (by rw [hext, List.length_take, List.length_drop]; omega) ?_ ?_)
          · rw [hrun]
            simp only [part, Sem.run_bind, hT'.isAgg w, Result.andThen_ok, hk2, if_true, hT'.size w, Sem.run_pure]
          · intro i hi
            rw [hext] at hi
            rw [hgd i hi]; exact h1 _ (by omega)
          · intro i y hy
            rw [List.getElem?_take] at hy
            by_cases hi : i < ti.sz
            · rw [if_pos hi, List.getElem?_drop] at hy
              rw [hgd i hi]; exact h _ _ hy
            · rw [if_neg hi] at hy; cases hy
      · rename_i hk2
        rw [dropL_eq] at hv
        cases hq : xs.drop g.offset with
        | nil => rw [hq] at hv; cases hv
        | cons y r =>
          rw [hq] at hv; cases hv
          have hy : xs[g.offset]? = some v := by rw [← List.head?_drop, hq]; rfl
          have hlt : g.offset < vs.size := by have := (List.getElem?_eq_some_iff.1 hy).1; omega
          refine .same (cv := vs.getD g.offset undef) hm ?_ (h _ _ hy)
          rw [hrun]
          simp only [part, Sem.run_bind, hT'.isAgg w, Result.andThen_ok, hk2, Bool.false_eq_true, if_false]
          simp [hlt, Array.getD]

end Go.AW

/- AW, part 5: values that are built, and all pure operations together. -/
namespace Go.AW
open Go Go.RowKit
variable {Γ : Ctx} {H : Heap} {w : World} {μ : List Plc} {a : Act} {o : Oper}

/-- Two lists, place by place. -/
def PW (R : V → Value → Prop) (xs : List V) (vs : List Value) : Prop := xs.length = vs.length ∧ ∀ (i : Nat) (x : V), xs[i]? = some x → ∃ v, vs[i]? = some v ∧ R x v

section pw
variable {R : V → Value → Prop}
theorem PW.nil : PW R [] [] := ⟨rfl, by intro i x h; simp at h⟩
theorem PW.cons {x : V} {v : Value} {xs : List V} {vs : List Value} (h : R x v) (t : PW R xs vs) : PW R (x :: xs) (v :: vs) :=
  ⟨by simp [t.1], fun i y hy => by cases i with
    | zero => simp at hy; subst hy; exact ⟨v, rfl, h⟩
    | succ i => simpa using t.2 i y (by simpa using hy)⟩
theorem PW.append {xs ys : List V} {vs us : List Value} (h : PW R xs vs) (t : PW R ys us) : PW R (xs ++ ys) (vs ++ us) :=
  ⟨by simp [h.1, t.1], fun i y hy => by
    by_cases hi : i < xs.length
    · rw [List.getElem?_append_left hi] at hy
      rw [List.getElem?_append_left (by rw [← h.1]; exact hi)]
      exact h.2 i y hy
    · rw [List.getElem?_append_right (by omega)] at hy
      rw [List.getElem?_append_right (by rw [← h.1]; omega), ← h.1]
      exact t.2 _ y hy⟩
theorem PW.take {xs : List V} {vs : List Value} (h : PW R xs vs) (n : Nat) : PW R (xs.take n) (vs.take n) :=
  ⟨by simp [h.1], fun i y hy => by
    rw [List.getElem?_take] at hy ⊢
    by_cases hi : i < n
    · rw [if_pos hi] at hy ⊢; exact h.2 i y hy
    · rw [if_neg hi] at hy; cases hy⟩
theorem PW.drop {xs : List V} {vs : List Value} (h : PW R xs vs) (n : Nat) : PW R (xs.drop n) (vs.drop n) :=
  ⟨by simp [h.1], fun i y hy => by
    rw [List.getElem?_drop] at hy ⊢
    exact h.2 _ y hy⟩
theorem PW.splice {xs ys zs : List V} {vs us : List Value} {o : Nat} (h : PW R xs vs) (k : PW R ys us) (hs : splice o ys xs = some zs) : PW R zs (vs.take o ++ us ++ vs.drop (o + us.length)) ∧ o + us.length ≤ vs.length := by
  obtain ⟨h1, rfl⟩ := splice_some hs
  rw [← k.1]
  exact ⟨((h.take o).append k).append (h.drop _), by rw [← h.1]; exact h1⟩
theorem PW.mono {R' : V → Value → Prop} {xs : List V} {vs : List Value} (h : PW R xs vs) (hr : ∀ x v, R x v → R' x v) : PW R' xs vs :=
  ⟨h.1, fun i x hx => let ⟨v, h1, h2⟩ := h.2 i x hx; ⟨v, h1, hr _ _ h2⟩⟩
end pw

/-- A cell: what stands for it, and that it is one. -/
def Rep1 (Γ : Ctx) (w : World) (μ : List Plc) (x : V) (v : Value) : Prop := Rep Γ w μ x v ∧ v.oneCell' = true

theorem pw_get {xs : List V} {c : Array Value} (h : PW (Rep1 Γ w μ) xs c.toList) : c.size = xs.length ∧ (∀ v ∈ c.toList, v.oneCell' = true) ∧ ∀ (i : Nat) (x : V), xs[i]? = some x → Rep Γ w μ x (c.getD i undef) := by
  have hl : c.size = xs.length := by rw [h.1]; simp
  refine ⟨hl, fun v hv => ?_, fun i x hx => ?_⟩
  · obtain ⟨i, hi⟩ := List.getElem?_of_mem hv
    have hlt : i < xs.length := by have := (List.getElem?_eq_some_iff.1 hi).1; rw [h.1]; exact this
    obtain ⟨v', h1, h2⟩ := h.2 i xs[i] (by simp)
    rw [hi] at h1; cases h1; exact h2.2
  · obtain ⟨v, h1, h2⟩ := h.2 i x hx
    have : c.getD i undef = v := by simp at h1; simp [Array.getD_eq_getD_getElem?, h1]
    rw [this]; exact h2.1

theorem get_pw {xs : List V} {c : Array Value} (h1 : c.size = xs.length) (h2 : ∀ v ∈ c.toList, v.oneCell' = true) (h3 : ∀ (i : Nat) (x : V), xs[i]? = some x → Rep Γ w μ x (c.getD i undef)) : PW (Rep1 Γ w μ) xs c.toList :=
  ⟨by simp [h1], fun i x hx => by
    have hi : i < c.size := by have := (List.getElem?_eq_some_iff.1 hx).1; omega
    refine ⟨c[i], by simp [hi], ?_, h2 _ (by simp)⟩
    have := h3 i x hx
    simpa [Array.getD, hi] using this⟩

theorem pw_cells {x : V} {v : Value} (h : Rep Γ w μ x v) (hb : x ≠ .bad) (ht : ∀ xs, x ≠ .tup xs) : PW (Rep1 Γ w μ) (cellsV x) v.cells.toList := by
  have one : ∀ {x : V} {v : Value}, Rep Γ w μ x v → v.oneCell' = true → PW (Rep1 Γ w μ) [x] [v] := fun h h1 => .cons ⟨h, h1⟩ .nil
  cases h with
  | fr f v h =>
    have h1 := h.one
    have : v.cells.toList = [v] := by cases v <;> first | rfl | (simp [Value.oneCell'] at h1)
    rw [this]; exact one (.fr _ _ h) h1
  | agg xs vs hl h1 h => exact get_pw hl (fun v hv => by
      obtain ⟨i, hi⟩ := List.getElem?_of_mem hv
      have hi' : vs[i]? = some v := by simpa [Value.cells] using hi
      have hlt : i < vs.size := (Array.getElem?_eq_some_iff.1 hi').1
      have := h1 i hlt
      simpa [Array.getD_eq_getD_getElem?, hi'] using this) h
  | ptr b o k hl => exact one (.ptr _ _ _ hl) rfl
  | fptr es o k o0 cv hk hc hr => exact one (.fptr _ _ _ _ cv hk hc hr) rfl
  | buf b m c a hl => exact one (.buf _ _ _ _ hl) rfl
  | bdead b v hl h1 =>
    have : v.cells.toList = [v] := by cases v <;> first | rfl | (simp [Value.oneCell'] at h1)
    rw [this]; exact one (.bdead _ _ hl h1) h1
  | bp b o k m c hl => exact one (.bp _ _ _ _ _ hl) rfl
  | bpd b o k hl => exact one (.bpd _ _ _ hl) rfl
  | bv b lo n m c a hl hle => exact one (.bv _ _ _ _ _ _ hl hle) rfl
  | bvd b lo n v hl h1 =>
    have : v.cells.toList = [v] := by cases v <;> first | rfl | (simp [Value.oneCell'] at h1)
    rw [this]; exact one (.bvd _ _ _ _ hl h1) h1
  | clo f xs vs hl h => exact one (.clo _ _ _ hl h) rfl
  | ifc t x v h => exact one (.ifc _ _ _ h) rfl
  | mth m t x v h => exact one (.mth _ _ _ _ h) rfl
  | tup xs vs hl h => exact absurd rfl (ht xs)
  | bad v => exact absurd rfl hb

theorem cellsN_some {n : Nat} {x : V} {c : List V} (h : cellsN n x = some c) : c = cellsV x ∧ c.length = n ∧ x ≠ .bad ∧ ∀ xs, x ≠ .tup xs := by
  unfold cellsN at h
  split at h
  · cases h
  · cases h
  · rename_i v h1 h2
    split at h
    · rename_i hq
      cases h
      exact ⟨rfl, Nat.eq_of_beq_eq_true hq, h1, h2⟩
    · cases h

theorem pw_cellsN {n : Nat} {x : V} {v : Value} {c : List V} (h : Rep Γ w μ x v) (hc : cellsN n x = some c) : PW (Rep1 Γ w μ) c v.cells.toList ∧ v.cells.size = n := by
  obtain ⟨rfl, h1, h2, h3⟩ := cellsN_some hc
  have := pw_cells h h2 h3
  exact ⟨this, by rw [← h1, this.1]; simp⟩

theorem fold_zip (off : Nat) : ∀ (l : List Value) (s : Nat) (arr : Array Value), off + s + l.length ≤ arr.size →
    ((l.zipIdx s).foldl (fun (cs : Array Value) (x : Value × Nat) => cs.setIfInBounds (off + x.2) x.1) arr).toList = arr.toList.take (off + s) ++ l ++ arr.toList.drop (off + s + l.length)
  | [], s, arr, h => by simp
  | v :: l, s, arr, h => by
    simp only [List.zipIdx_cons, List.foldl_cons]
    simp only [List.length_cons] at h
    rw [fold_zip off l (s + 1) (arr.setIfInBounds (off + s) v) (by simp; omega)]
    simp only [Array.toList_setIfInBounds]
    have hlt : off + s < arr.toList.length := by simp; omega
    have e1 : off + (s + 1) = off + s + 1 := by omega
    rw [e1, List.take_set, List.drop_set_of_lt (by omega)]
    have e2 : (arr.toList.take (off + s + 1)).set (off + s) v = arr.toList.take (off + s) ++ [v] := by
      rw [List.take_succ_eq_append_getElem hlt, List.set_append_right _ _ (by simp; omega)]
      have : off + s - min (off + s) arr.size = 0 := by simp at hlt; omega
      simp [this]
    rw [e2]
    have e3 : off + s + 1 + l.length = off + s + (l.length + 1) := by omega
    simp [e3]

theorem fill_step {place : Nat → Option (Nat × Nat)} {cells : Array Value} {i off sz : Nat} {v : Value} {rest : List (Nat × Value)} (hp : place i = some (off, sz)) (hs : v.cells.size = sz) (hb : off + sz ≤ cells.size) :
    ∃ cells' : Array Value, Instr.fill place cells ((i, v) :: rest) = Instr.fill place cells' rest ∧ cells'.toList = cells.toList.take off ++ v.cells.toList ++ cells.toList.drop (off + v.cells.toList.length) := by
  refine ⟨v.cells.zipIdx.foldl (fun cs (c, j) => cs.setIfInBounds (off + j) c) cells, ?_, ?_⟩
  · conv => lhs; unfold Instr.fill
    rw [hp]
    have : ¬ (v.cells.size ≠ sz ∨ off + v.cells.size > cells.size) := by omega
    simp only [Bool.or_eq_true, decide_eq_true_eq, this, if_false]
  · rw [← Array.foldl_toList, Array.toList_zipIdx, fold_zip off v.cells.toList 0 cells (by simp; omega)]
    simp


theorem partsAt_cons {f : Nat → Option (Nat × Nat)} {E : Env} {p : Nat × Operand} {ps : List (Nat × Operand)} {l : List (Nat × List V)} (h : partsAt f E (p :: ps) = some l) :
    ∃ q n c r, f p.1 = some (q, n) ∧ cellsN n (opd E p.2) = some c ∧ partsAt f E ps = some r ∧ l = (q, c) :: r := by
  have h' : (match f p.1, partsAt f E ps with
    | some (o, n), some r => (match cellsN n (opd E p.2) with | some c => some ((o, c) :: r) | none => none)
    | _, _ => none) = some l := h
  cases hf : f p.1 with
  | none => rw [hf] at h'; cases h'
  | some q =>
    obtain ⟨q, n⟩ := q
    cases hr : partsAt f E ps with
    | none => rw [hf, hr] at h'; cases h'
    | some r =>
      cases hc : cellsN n (opd E p.2) with
      | none => rw [hf, hr] at h'; simp only [hc] at h'; cases h'
      | some c => rw [hf, hr] at h'; simp only [hc] at h'; cases h'; exact ⟨q, n, c, r, rfl, hc, rfl, rfl⟩

theorem fillC_cons {z xs : List V} {q : Nat} {c : List V} {l : List (Nat × List V)} (h : fillC z ((q, c) :: l) = some xs) : ∃ z', splice q c z = some z' ∧ fillC z' l = some xs := by
  have h' : (match splice q c z with | some z' => fillC z' l | none => none) = some xs := h
  cases hs : splice q c z with
  | none => rw [hs] at h'; cases h'
  | some z' => rw [hs] at h'; exact ⟨z', rfl, h'⟩

theorem fill_ok {E : Env} {f place : Nat → Option (Nat × Nat)} (hp : ∀ i o n, f i = some (o, n) → place i = some (o, n)) : ∀ (ps : List (Nat × Operand)) (l : List (Nat × List V)) (z xs : List V) (cells : Array Value),
    (∀ p ∈ ps, Rep Γ w μ (opd E p.2) (a.eval p.2)) → partsAt f E ps = some l → fillC z l = some xs → PW (Rep1 Γ w μ) z cells.toList →
    ∃ cells' : Array Value, Instr.fill place cells (ps.map fun p => (p.1, a.eval p.2)) = some cells' ∧ PW (Rep1 Γ w μ) xs cells'.toList
  | [], l, z, xs, cells, _, hl, hx, hz => by
    have h1 : some [] = some l := hl
    cases h1
    have h2 : some z = some xs := hx
    cases h2
    exact ⟨cells, rfl, hz⟩
  | p :: ps, l, z, xs, cells, hE, hl, hx, hz => by
    obtain ⟨q, n, c, r, h1, h2, h3, rfl⟩ := partsAt_cons hl
    obtain ⟨z', h4, h5⟩ := fillC_cons hx
    obtain ⟨h6, h7⟩ := pw_cellsN (hE p (by simp)) h2
    obtain ⟨h8, h9⟩ := hz.splice h6 h4
    have hsz : (a.eval p.2).cells.toList.length = n := by simpa using h7
    obtain ⟨cells', h10, h11⟩ := fill_step (place := place) (cells := cells) (i := p.1) (rest := ps.map fun p => (p.1, a.eval p.2)) (hp _ _ _ h1) h7 (by rw [hsz] at h9; simpa using h9)
    obtain ⟨c2, h12, h13⟩ := fill_ok hp ps r z' xs cells' (fun p hp => hE p (by simp [hp])) h3 h5 (by rw [h11]; exact h8)
    exact ⟨c2, by simp only [List.map_cons]; rw [h10]; exact h12, h13⟩

/-- A type's zero value. -/
theorem zero_pw {t : Nat} {ti : TI} (ht : TiOk Γ.P t ti) : ∃ z, (zeroValue t).run Γ.P w = .ok z w ∧ PW (Rep1 Γ w μ) (ti.zero.map zeroC) z.cells.toList ∧ z.cells.size = ti.sz := by
  obtain ⟨i, z, h1, h2, h3, h4, h5, h6, h7⟩ := ht.info
  refine ⟨z, by simp [zeroValue, typeInfo, h1, h4], ⟨by simp [h5, h6], fun j x hx => ?_⟩, h5⟩
  rw [List.getElem?_map] at hx
  cases hq : ti.zero[j]? with
  | none => rw [hq] at hx; cases hx
  | some f =>
    rw [hq] at hx
    have hj : j < z.cells.size := by have := (List.getElem?_eq_some_iff.1 hq).1; omega
    have h8 := h7 j f hq
    have hg : z.cells.getD j undef = z.cells[j] := by simp [Array.getD, hj]
    rw [hg] at h8
    refine ⟨z.cells[j], by simp [hj], ?_⟩
    cases f with
    | sc v => obtain ⟨rfl, h9⟩ := h8; cases hx; exact ⟨rep_mk _ h9, h9⟩
    | sl n nb es => obtain ⟨rfl, h9⟩ := h8; cases hx; rw [h9]; exact ⟨rep_mk _ rfl, rfl⟩

theorem allT_spec {T : TTab} {fs : List (Nat × Nat)} (h : allT T fs = true) : ∀ p ∈ fs, ∃ ti, T.get p.2 = some ti := by
  induction fs with
  | nil => intro p hp; cases hp
  | cons q fs ih =>
    have h' : (match T.get q.2 with | some _ => allT T fs | none => false) = true := h
    intro p hp
    cases hq : T.get q.2 with
    | none => rw [hq] at h'; cases h'
    | some ti =>
      rw [hq] at h'
      rcases List.mem_cons.1 hp with rfl | hp
      · exact ⟨ti, hq⟩
      · exact ih h' p hp

theorem build_ok {T : TTab} (hT : TOk Γ.P T) {E : Env} {t : Nat} {ps : Array (Nat × Operand)} {fs : List (Nat × Nat)} {qq : Bool} {n1 n2 : Nat} {z : List F} {l : List (Nat × List V)} {xs : List V} (hm : Mem Γ H w μ)
    (ho : o.op = .build t ps) (hE : ∀ p ∈ ps.toList, Rep Γ w μ (opd E p.2) (a.eval p.2)) (ht : T.get t = some ⟨.st fs qq, n1, n2, z⟩)
    (hT2 : allT T fs = true)
    (hl : partsAt (fun i => match nth fs i with | some (o, t') => some (o, szOf T t') | none => none) E ps.toList = some l) (hx : fillC (z.map zeroC) l = some xs) : ValOk Γ H w μ a o (.agg xs) := by
  obtain ⟨d, hd, hk⟩ := (hT t _ ht).kind
  cases d <;> try exact hk.elim
  rename_i gs
  have hk' : gs.toList.map (fun f => (f.offset, f.type)) = fs := hk
  obtain ⟨zv, hz1, hz2, hz3⟩ := zero_pw (w := w) (μ := μ) (hT t _ ht)
  have hplaces : (gs.mapM (m := Sem) fun f => do pure (f.offset, ← sizeOf f.type)).run Γ.P w = .ok (gs.map fun f => (f.offset, szOf T f.type)) w := by
    have key : ∀ (l : List Field), (∀ f ∈ l, ∃ ti, T.get f.type = some ti) → (l.mapM (m := Sem) fun f => do pure (f.offset, ← sizeOf f.type)).run Γ.P w = .ok (l.map fun f => (f.offset, szOf T f.type)) w := by
      intro l
      induction l with
      | nil => intro _; simp
      | cons f l ih =>
        intro hf
        obtain ⟨ti, hti⟩ := hf f (by simp)
        have e : szOf T f.type = ti.sz := by unfold szOf; rw [hti]
        simp only [List.mapM_cons, Sem.run_bind, (hT _ ti hti).size w, Result.andThen_ok, Sem.run_pure, ih (fun g hg => hf g (by simp [hg])), List.map_cons, e]
    have := key gs.toList (fun f hf => allT_spec hT2 (f.offset, f.type) (by rw [← hk']; exact List.mem_map.2 ⟨f, hf, rfl⟩))
    rw [Array.mapM_eq_mapM_toList, Sem.run_map, this]
    simp only [Result.andThen_ok]
    congr 1
    apply Array.ext'
    simp
  obtain ⟨cells', h1, h2⟩ := fill_ok (Γ := Γ) (w := w) (μ := μ) (a := a) (E := E) (f := fun i => match nth fs i with | some (o, t') => some (o, szOf T t') | none => none)
    (place := fun i => (gs.map fun f => (f.offset, szOf T f.type))[i]?) (fun i o n h => by
      rw [nth_eq, ← hk', List.getElem?_map] at h
      cases hg : gs.toList[i]? with
      | none => rw [hg] at h; simp at h
      | some g =>
        rw [hg] at h; simp at h
        have hg' : gs[i]? = some g := by simpa using hg
        simp [hg', h]) ps.toList l _ xs zv.cells hE hl hx hz2
  obtain ⟨h3, h4, h5⟩ := pw_get h2
  refine .same (cv := .agg cells') hm ?_ (.agg _ _ h3 (fun i hi => h4 _ (by simp [Array.getD, hi])) h5)
  unfold execOp
  have hmap : (ps.map fun x => (x.1, a.eval x.2)).toList = ps.toList.map fun p => (p.1, a.eval p.2) := by simp
  simp only [ho, Instr.build, Sem.run_bind, hz1, Result.andThen_ok, run_underlying hd w, hplaces, hmap, h1, Sem.run_pure]

end Go.AW

/- AW, part 6: new memory; the last pure operations; all of them together. -/
namespace Go.AW
open Go Go.RowKit
variable {Γ : Ctx} {H : Heap} {w : World} {μ : List Plc} {a : Act} {o : Oper}

/-- Memory grows, and what was there stays. -/
theorem Mem.grow {w' : World} (hm : Mem Γ H w μ) (hs : w.heap.size ≤ w'.heap.size) (hb : ∀ k, k < w.heap.size → w'.heap[k]? = w.heap[k]?) (h1 : w'.os = w.os) (h2 : w'.tape = w.tape) (h3 : w'.output = w.output) :
    Mem Γ H w' μ ∧ Pres Γ w μ w' μ := by
  have hp : Pres Γ w μ w' μ := ⟨fun k ⟨i1, i2, i3⟩ => ⟨i1, Nat.lt_of_lt_of_le i2 hs, i3⟩, fun k hk => hb k hk.2.1, .refl _⟩
  refine ⟨⟨hm.len, fun k hk => Nat.lt_of_lt_of_le (hm.below k hk) hs, hm.own0, hm.inj, fun i b l hi hl => ?_, ?_, hm.i0, hm.pin⟩, hp⟩
  · exact (hm.blk i b l hi hl).pres hp (fun k hk => hb k (hm.below k ⟨i, l, hl, hk⟩))
  · exact ⟨h1.trans hm.ext.os, h2.trans hm.ext.tape, h3.trans hm.ext.output, Nat.le_trans hm.ext.size hs, fun k hk ho => (hb k (Nat.lt_of_lt_of_le hk hm.ext.size)).trans (hm.ext.block k hk ho)⟩

theorem Mem.alloc (hm : Mem Γ H w μ) (ob : Obj) : Mem Γ H (w.alloc ob) μ ∧ Pres Γ w μ (w.alloc ob) μ :=
  hm.grow (by simp) (fun k hk => Below.heap_alloc w ob k hk) rfl rfl rfl

/-- A call begins, with nothing of its own. -/
theorem Mem.start (P : Program) (w : World) (I : Nat → Prop) (hI : ∀ k, I k → k < w.heap.size) : Mem ⟨P, w, I, []⟩ [] w [] := by
  have hno : ∀ k, ¬ owned ([] : List Plc) k := fun k ⟨i, l, h, _⟩ => by simp at h
  exact ⟨rfl, fun k h => absurd h (hno k), fun k h => absurd h (hno k), fun i j l l' k h => by simp at h, fun i b l h => by simp at h,
    ⟨rfl, rfl, rfl, Nat.le_refl _, fun _ _ _ => rfl⟩, fun k hk => ⟨hI k hk, hno k⟩, fun i k h => by
      have h' : ([] : List Plc)[i]? = some (.at_ k) := h
      simp at h'⟩

theorem imm_new (hm : Mem Γ H w μ) (ob : Obj) : Imm Γ (w.alloc ob) μ w.heap.size :=
  ⟨.inr (.inr hm.ext.size), by simp, fun h => by have := hm.below _ h; omega⟩

theorem heap_new (w : World) (ob : Obj) : (w.alloc ob).heap[w.heap.size]? = some ob := by show (w.heap.push ob)[w.heap.size]? = some ob; simp

theorem allF_some {l : List V} {fs : List F} (h : allF l = some fs) : l = fs.map .fr := by
  induction l generalizing fs with
  | nil => have h' : some [] = some fs := h; cases h'; rfl
  | cons v l ih =>
    cases v with
    | fr f =>
      have h' : (match allF l with | some s => some (f :: s) | none => none) = some fs := h
      cases hl : allF l with
      | none => rw [hl] at h'; cases h'
      | some s => rw [hl] at h'; cases h'; simp [ih hl]
    | _ => cases h

theorem rowsF_cons {z : List F} {n : Nat} {v : V} {l : List V} {es : List (List F)} (h : rowsF z n (v :: l) = some es) :
    ∃ c e s, cellsN n v = some c ∧ allF (nrmL z c) = some e ∧ rowsF z n l = some s ∧ es = e :: s := by
  have h' : (match cellsN n v with
    | some c => (match allF (nrmL z c), rowsF z n l with
      | some e, some s => some (e :: s)
      | _, _ => none)
    | none => none) = some es := h
  cases hc : cellsN n v with
  | none => rw [hc] at h'; cases h'
  | some c =>
    cases he : allF (nrmL z c) with
    | none => simp only [hc, he] at h'; cases h'
    | some e =>
      cases hs : rowsF z n l with
      | none => simp only [hc, he, hs] at h'; cases h'
      | some s => simp only [hc, he, hs] at h'; cases h'; exact ⟨c, e, s, rfl, he, rfl, rfl⟩

/-- A frozen row and the cells that it stands for. -/
def RowRep (Γ : Ctx) (w : World) (μ : List Plc) (e : List F) (vs : List Value) : Prop := e.length = vs.length ∧ ∀ (j : Nat) (f : F), e[j]? = some f → ∃ v, vs[j]? = some v ∧ RepFr Γ w μ f v

theorem row_of {z : List F} {c : List V} {vs : List Value} {e : List F} (h : PW (Rep1 Γ w μ) c vs) (he : allF (nrmL z c) = some e) : RowRep Γ w μ e vs := by
  have h1 := allF_some he
  have hl : e.length = c.length := by have := congrArg List.length h1; rw [nrmL_length] at this; simpa using this.symm
  refine ⟨by rw [hl]; exact h.1, fun j f hf => ?_⟩
  have h2 : (nrmL z c)[j]? = some (.fr f) := by rw [h1, List.getElem?_map, hf]; rfl
  rw [nrmL_get] at h2
  cases hq : c[j]? with
  | none => rw [hq] at h2; simp at h2
  | some x =>
    rw [hq] at h2; simp at h2
    obtain ⟨v, h3, h4⟩ := h.2 j x hq
    refine ⟨v, h3, ?_⟩
    have : Rep Γ w μ (.fr f) v := by
      rw [← h2]
      split
      · exact rep_nrm1 _ h4.1
      · exact h4.1
    cases this with
    | fr f v h => exact h

theorem fill_seq {sz : Nat} : ∀ (ps : List (Nat × Value)) (m : Nat) (pre rest : List Value) (cells : Array Value), seqB m (ps.map Prod.fst) = true → (∀ p ∈ ps, p.2.cells.size = sz) → cells.toList = pre ++ rest → pre.length = m * sz → rest.length = ps.length * sz →
    ∃ cells' : Array Value, Instr.fill (fun i => some (i * sz, sz)) cells ps = some cells' ∧ cells'.toList = pre ++ ps.flatMap fun p => p.2.cells.toList
  | [], m, pre, rest, cells, _, _, hc, _, hr => ⟨cells, rfl, by
      have : rest = [] := List.eq_nil_of_length_eq_zero (by simpa using hr)
      simp [hc, this]⟩
  | p :: ps, m, pre, rest, cells, hs, hz, hc, hp, hr => by
    have hs' : (match Nat.beq p.1 m with | true => seqB (m + 1) (ps.map Prod.fst) | false => false) = true := hs
    cases hb : Nat.beq p.1 m with
    | false => rw [hb] at hs'; cases hs'
    | true =>
      rw [hb] at hs'
      have hm := Nat.eq_of_beq_eq_true hb
      obtain ⟨i, v⟩ := p
      obtain rfl : i = m := hm
      have hv : v.cells.size = sz := hz (i, v) (by simp)
      have hlen : (ps.length + 1) * sz = ps.length * sz + sz := Nat.succ_mul _ _
      have hcs : cells.size = pre.length + rest.length := by rw [← Array.length_toList, hc, List.length_append]
      obtain ⟨c1, h1, h2⟩ := fill_step (place := fun i => some (i * sz, sz)) (cells := cells) (i := i) (rest := ps) rfl hv (by rw [List.length_cons] at hr; omega)
      have hvl : v.cells.toList.length = sz := by simpa using hv
      have e1 : c1.toList = (pre ++ v.cells.toList) ++ rest.drop sz := by
        rw [h2, hc, hvl, ← hp, List.take_left, List.drop_append]
        simp
      obtain ⟨c2, h3, h4⟩ := fill_seq ps (i + 1) (pre ++ v.cells.toList) (rest.drop sz) c1 hs' (fun p hp => hz p (by simp [hp])) e1
        (by rw [List.length_append, hvl, hp, Nat.succ_mul]) (by rw [List.length_drop]; rw [List.length_cons] at hr; omega)
      exact ⟨c2, by rw [h1]; exact h3, by rw [h4]; simp⟩

theorem flat_get {sz : Nat} : ∀ (ls : List (List Value)) (i j : Nat) (l : List Value), (∀ x ∈ ls, x.length = sz) → ls[i]? = some l → j < sz → ls.flatten[i * sz + j]? = l[j]?
  | [], i, j, l, _, h, _ => by simp at h
  | x :: ls, i, j, l, hs, h, hj => by
    have hx : x.length = sz := hs x (by simp)
    cases i with
    | zero =>
      simp at h; subst h
      rw [List.flatten_cons, Nat.zero_mul, Nat.zero_add, List.getElem?_append_left (by omega)]
    | succ i =>
      rw [List.flatten_cons, List.getElem?_append_right (by rw [hx, Nat.succ_mul]; omega), hx]
      have e : (i + 1) * sz + j - sz = i * sz + j := by rw [Nat.succ_mul]; omega
      rw [e]
      exact flat_get ls i j l (fun y hy => hs y (by simp [hy])) (by simpa using h) hj

/-- Rows, one behind the other, in a new block: a frozen slice. -/
theorem rep_rows (hm : Mem Γ H w μ) {sz nb : Nat} {es : List (List F)} {ls : List (List Value)} {ob : Obj} {c : Array Value} {et : TypeId} (hob : ob = .cells c et) (hsz : ∀ x ∈ ls, x.length = sz)
    (hr : ∀ (i : Nat) (e : List F), es[i]? = some e → ∃ l, ls[i]? = some l ∧ RowRep Γ w μ e l) (hc : c.toList.take (ls.flatten.length) = ls.flatten) (cap : Nat) (hcap : es.length ≤ cap) (hnb : es.length * nb ≤ 140737488355328) :
    Rep Γ (w.alloc ob) μ (.fr (.sl sz nb es)) (.slice (some ⟨w.heap.size, 0, none⟩) es.length cap) := by
  subst hob
  have hp := (hm.alloc (.cells c et)).2
  have hrow : ∀ (i : Nat) (e : List F), es[i]? = some e → e.length = sz := fun i e he => by
    obtain ⟨l, h1, h2⟩ := hr i e he
    rw [h2.1]; exact hsz l (List.mem_of_getElem? h1)
  refine .fr _ _ (.sl sz nb es w.heap.size 0 cap (fun i j => c.getD (i * sz + j) undef) (imm_new hm _) hcap hnb hrow ?_ ?_)
  all_goals
    intro i e j f he hf
    obtain ⟨l, h1, h2⟩ := hr i e he
    obtain ⟨v, h3, h4⟩ := h2.2 j f hf
    have hj : j < sz := by have := (List.getElem?_eq_some_iff.1 hf).1; have := hrow i e he; omega
    have h5 := flat_get ls i j l hsz h1 hj
    rw [h3] at h5
    have h6 : i * sz + j < ls.flatten.length := (List.getElem?_eq_some_iff.1 h5).1
    have h7 : c.toList[i * sz + j]? = some v := by rw [← hc, List.getElem?_take, if_pos h6] at h5; exact h5
    have h8 : c[i * sz + j]? = some v := by simpa using h7
    have h9 : c.getD (i * sz + j) undef = v := by simp [Array.getD_eq_getD_getElem?, h8]
  · rw [h9]
    simp only [World.cell?, heap_new, Option.isSome_none, Bool.false_eq_true, if_false, Nat.zero_add]
    exact h8
  · simp only [h9]
    exact hp.repF h4

theorem buildSlice_ok {T : TTab} (hT : TOk Γ.P T) {E : Env} {t e' len : Nat} {ps : Array (Nat × Operand)} {n1 n2 : Nat} {z : List F} {ti : TI} {es : List (List F)} (hm : Mem Γ H w μ)
    (ho : o.op = .buildSlice t len ps) (hE : ∀ p ∈ ps.toList, Rep Γ w μ (opd E p.2) (a.eval p.2)) (ht : T.get t = some ⟨.sli e', n1, n2, z⟩) (he : T.get e' = some ti)
    (hs : seqB 0 (ps.toList.map Prod.fst) = true) (hlen : ps.toList.length = len) (h24 : len * ti.sz ≤ 16777216) (hby : len * ti.by_ ≤ 140737488355328) (hrows : rowsF ti.zero ti.sz (ps.toList.map fun p => opd E p.2) = some es) : ValOk Γ H w μ a o (.fr (.sl ti.sz ti.by_ es)) := by
  obtain ⟨d, hd, hk⟩ := (hT t _ ht).kind
  cases d <;> try exact hk.elim
  rename_i e''
  obtain rfl : e' = e'' := hk
  obtain ⟨zv, hz1, hz2, hz3⟩ := zero_pw (w := w) (μ := μ) (hT _ _ he)
  -- the rows
  have hl : ∀ (l : List (Nat × Operand)) (es : List (List F)), (∀ p ∈ l, Rep Γ w μ (opd E p.2) (a.eval p.2)) → rowsF ti.zero ti.sz (l.map fun p => opd E p.2) = some es →
      es.length = l.length ∧ (∀ p ∈ l, (a.eval p.2).cells.size = ti.sz) ∧ ∀ (i : Nat) (e : List F), es[i]? = some e → ∃ q, (l.map fun p => (a.eval p.2).cells.toList)[i]? = some q ∧ RowRep Γ w μ e q := by
    intro l
    induction l with
    | nil => intro es _ h; have h' : some [] = some es := h; cases h'; exact ⟨rfl, by simp, by intro i e h; simp at h⟩
    | cons p l ih =>
      intro es hE h
      obtain ⟨c, e, s, h1, h2, h3, rfl⟩ := rowsF_cons h
      obtain ⟨h4, h5, h6⟩ := ih s (fun p hp => hE p (by simp [hp])) h3
      obtain ⟨h7, h8⟩ := pw_cellsN (hE p (by simp)) h1
      refine ⟨by simp [h4], fun q hq => ?_, fun i e' he' => ?_⟩
      · rcases List.mem_cons.1 hq with rfl | hq
        · exact h8
        · exact h5 q hq
      · cases i with
        | zero => simp at he'; subst he'; exact ⟨_, rfl, row_of h7 h2⟩
        | succ i => simpa using h6 i e' (by simpa using he')
  obtain ⟨h1, h2, h3⟩ := hl ps.toList es hE hrows
  have hmap : (ps.map fun x => (x.1, a.eval x.2)).toList = ps.toList.map fun p => (p.1, a.eval p.2) := by simp
  have fin : ∀ zc : Array Value, ∃ cells' : Array Value, Instr.fill (fun i => some (i * ti.sz, ti.sz)) ((Array.range (len * ti.sz)).map (zc[· % zc.size]!)) (ps.toList.map fun p => (p.1, a.eval p.2)) = some cells' ∧
      Rep Γ (w.alloc (.cells cells' e')) μ (.fr (.sl ti.sz ti.by_ es)) (.slice (some ⟨w.heap.size, 0, none⟩) len len) := by
    intro zc
    obtain ⟨cells', h4, h5⟩ := fill_seq (sz := ti.sz) (ps.toList.map fun p => (p.1, a.eval p.2)) 0 [] ((Array.range (len * ti.sz)).map (zc[· % zc.size]!)).toList ((Array.range (len * ti.sz)).map (zc[· % zc.size]!))
      (by rw [List.map_map]; exact hs) (by intro p hp; obtain ⟨q, h6, rfl⟩ := List.mem_map.1 hp; exact h2 q h6) (by simp) (by simp) (by simp [← hlen])
    have hflat : cells'.toList = (ps.toList.map fun p => (a.eval p.2).cells.toList).flatten := by rw [h5, List.flatMap_map]; simp [List.flatMap]
    have hrep := rep_rows hm (c := cells') (et := e') (sz := ti.sz) rfl (by intro x hx; obtain ⟨q, h6, rfl⟩ := List.mem_map.1 hx; simpa using h2 q h6) h3 (by rw [hflat]; exact List.take_length) len (by rw [h1, hlen]; exact Nat.le_refl _) (nb := ti.by_) (by rw [h1, hlen]; exact hby)
    have hlen' : es.length = len := by rw [h1, hlen]
    rw [hlen'] at hrep
    exact ⟨cells', h4, hrep⟩
  by_cases h0 : len * ti.sz = 0
  · obtain ⟨cells', h4, hrep⟩ := fin #[]
    refine ⟨_, _, ?_, (hm.alloc _).1, (hm.alloc _).2, hrep⟩
    unfold execOp
    simp only [ho, Instr.buildSlice, Sem.run_bind, run_underlying hd w, Result.andThen_ok, (hT _ _ he).size w, hmap]
    rw [if_neg (by omega), if_pos h0]
    simp only [Sem.run_bind, Sem.run_pure, Result.andThen_ok, h4, newRow, newObj]
    rfl
  · obtain ⟨cells', h4, hrep⟩ := fin zv.cells
    refine ⟨_, _, ?_, (hm.alloc _).1, (hm.alloc _).2, hrep⟩
    unfold execOp
    simp only [ho, Instr.buildSlice, Sem.run_bind, run_underlying hd w, Result.andThen_ok, (hT _ _ he).size w, hmap]
    rw [if_neg (by omega), if_neg h0]
    simp only [Sem.run_bind, hz1, Sem.run_pure, Result.andThen_ok, h4, newRow, newObj]
    rfl

end Go.AW

/- AW, part 7: all pure operations together. -/
namespace Go.AW
open Go Go.RowKit
variable {Γ : Ctx} {H : Heap} {w : World} {μ : List Plc} {a : Act} {o : Oper}

theorem boundI_some {E : Env} {x : Option Operand} {d i : Int} (hx : ∀ y, x = some y → Rep Γ w μ (opd E y) (a.eval y)) (h : boundI E x d = some i) :
    (x = none ∧ i = d) ∨ ∃ y k, x = some y ∧ a.eval y = .int k i := by
  unfold boundI at h
  cases x with
  | none => cases h; exact .inl ⟨rfl, rfl⟩
  | some y =>
    have hy := hx y rfl
    simp only at h
    split at h
    · rename_i k i' he
      cases h
      rw [he] at hy
      exact .inr ⟨y, k, rfl, rep_int hy⟩
    · cases h

theorem bounds_ok {P : Program} {isS : Bool} {lo hi : Option Operand} {n c : Nat} {l h : Int} (hl : (lo = none ∧ l = 0) ∨ ∃ y k, lo = some y ∧ a.eval y = .int k l)
    (hh : (hi = none ∧ h = n) ∨ ∃ y k, hi = some y ∧ a.eval y = .int k h) (h0 : 0 ≤ l) (h1 : l ≤ h) (h2 : h ≤ c) :
    (Instr.sliceBounds isS n c (lo.map a.eval) (hi.map a.eval) none).run P w = .ok (l.toNat, h.toNat, c) w := by
  have sb : ∀ (v : Value) (k : IntKind) (i : Int) (y : Nat) (code : BoundsCode), v = .int k i → 0 ≤ i → i ≤ y → (Instr.sliceBound v y code).run P w = .ok i.toNat w := by
    intro v k i y code hv e1 e2
    have e : 0 ≤ i ∧ i ≤ (y : Int) := ⟨e1, e2⟩
    subst hv
    unfold Instr.sliceBound
    simp only [asIntOf, Sem.run_bind, Sem.run_pure, Result.andThen_ok]
    rw [if_pos e]
    rfl
  unfold Instr.sliceBounds
  rcases hl with ⟨rfl, rfl⟩ | ⟨y, k, rfl, hy⟩ <;> rcases hh with ⟨rfl, rfl⟩ | ⟨y', k', rfl, hy'⟩
  · simp
  · simp only [Option.map_none, Option.map_some, Sem.run_bind, Sem.run_pure, Result.andThen_ok, sb _ _ _ _ _ hy' (by omega) h2]; rfl
  · simp only [Option.map_none, Option.map_some, Sem.run_bind, Sem.run_pure, Result.andThen_ok, sb _ _ l n _ hy h0 (by omega)]; rfl
  · simp only [Option.map_some, Sem.run_bind, Sem.run_pure, Result.andThen_ok, sb _ _ _ _ _ hy' (by omega) h2, sb _ _ l h.toNat _ hy h0 (by omega)]

theorem sliceStr_ok {T : TTab} (hT : TOk Γ.P T) {E : Env} {t : Nat} {x : Operand} {lo hi : Option Operand} {n1 n2 : Nat} {z : List F} {s : ByteArray} {l h : Int} (hm : Mem Γ H w μ) (ho : o.op = .slice t x lo hi none)
    (ht : T.get t = some ⟨.str, n1, n2, z⟩) (hx : Rep Γ w μ (.fr (.sc (.string s))) (a.eval x)) (hlo : ∀ y, lo = some y → Rep Γ w μ (opd E y) (a.eval y)) (hhi : ∀ y, hi = some y → Rep Γ w μ (opd E y) (a.eval y))
    (hl : boundI E lo 0 = some l) (hh : boundI E hi s.size = some h) (h0 : 0 ≤ l ∧ l ≤ h ∧ h ≤ (s.size : Int)) : ValOk Γ H w μ a o (S1 (s.extract l.toNat h.toNat)) := by
  obtain ⟨d, hd, hk⟩ := (hT t _ ht).kind
  cases d <;> try exact hk.elim
  have hx' := rep_sc hx
  have hb := bounds_ok (P := Γ.P) (w := w) (isS := false) (n := s.size) (c := s.size) (boundI_some hlo hl) (boundI_some hhi hh) h0.1 h0.2.1 h0.2.2
  refine .same (cv := .string (s.extract l.toNat h.toNat)) hm ?_ (rep_mk _ rfl)
  unfold execOp
  simp only [ho, hx', Instr.sliceAt, Instr.slice, Sem.run_bind, run_underlying hd w, Result.andThen_ok, Option.map_none, Option.isSome_none, Bool.false_eq_true, if_false, hb, Sem.run_pure]

theorem sliceSl_ok {T : TTab} (hT : TOk Γ.P T) {E : Env} {t e' : Nat} {x : Operand} {lo hi : Option Operand} {n1 n2 : Nat} {z : List F} {ti : TI} {es : List (List F)} {l h : Int} (hm : Mem Γ H w μ) (ho : o.op = .slice t x lo hi none)
    (ht : T.get t = some ⟨.sli e', n1, n2, z⟩) (he : T.get e' = some ti) {nb : Nat} (hx : Rep Γ w μ (.fr (.sl ti.sz nb es)) (a.eval x)) (hlo : ∀ y, lo = some y → Rep Γ w μ (opd E y) (a.eval y)) (hhi : ∀ y, hi = some y → Rep Γ w μ (opd E y) (a.eval y))
    (hl : boundI E lo 0 = some l) (hh : boundI E hi es.length = some h) (h0 : 0 ≤ l ∧ l ≤ h ∧ h ≤ (es.length : Int)) :
    ValOk Γ H w μ a o (.fr (.sl ti.sz nb ((es.take h.toNat).drop l.toNat))) := by
  obtain ⟨d, hd, hk⟩ := (hT t _ ht).kind
  cases d <;> try exact hk.elim
  rename_i e''
  obtain rfl : e' = e'' := hk
  have hcap : ∀ ad n c, a.eval x = .slice ad n c → n ≤ c := by
    intro ad n c hc
    rw [hc] at hx
    cases hx with
    | fr f v hf =>
      cases hf with
      | nil => exact Nat.zero_le _
      | sl _ _ _ _ _ _ _ _ hcl => exact hcl
  have fin : ∀ ad cap, a.eval x = .slice ad es.length cap → (execOp a.eval o).run Γ.P w = .ok (.value (.slice (if cap = l.toNat then ad else ad.map (·.add (l.toNat * ti.sz))) (h.toNat - l.toNat) (cap - l.toNat))) w := by
    intro ad cap hc
    have := hcap _ _ _ hc
    have hb := bounds_ok (P := Γ.P) (w := w) (isS := true) (n := es.length) (c := cap) (boundI_some hlo hl) (boundI_some hhi hh) h0.1 h0.2.1 (by omega)
    unfold execOp
    simp only [ho, hc, Instr.sliceAt, Instr.slice, Sem.run_bind, run_underlying hd w, Result.andThen_ok, Option.map_none, hb, Sem.run_pure, (hT _ _ he).size w]
  have hlen : ((es.take h.toNat).drop l.toNat).length = h.toNat - l.toNat := by rw [List.length_drop, List.length_take]; omega
  generalize hcx : a.eval x = cx at hx
  have done : ∀ v, (execOp a.eval o).run Γ.P w = .ok (.value v) w → Rep Γ w μ (.fr (.sl ti.sz nb ((es.take h.toNat).drop l.toNat))) v → ValOk Γ H w μ a o (.fr (.sl ti.sz nb ((es.take h.toNat).drop l.toNat))) := fun v h1 h2 => .same hm h1 h2
  cases hx with
  | fr f v hf =>
    cases hf with
    | nil n nb ad cap =>
      have h3 := fin ad cap (by simpa using hcx)
      refine done _ h3 ?_
      have hz : h.toNat - l.toNat = 0 := by simp at h0; omega
      rw [hz]
      simp only [List.take_nil, List.drop_nil]
      exact .fr _ _ (.nil _ _ _ _)
    | sl n nb es k o1 cap cv hk1 hcl hb1 hn hc hr =>
      have h3 := fin _ cap hcx
      have hle := hcap _ _ _ hcx
      refine done _ h3 ?_
      by_cases hz : h.toNat - l.toNat = 0
      · rw [hz]
        have : (es.take h.toNat).drop l.toNat = [] := List.eq_nil_of_length_eq_zero (by rw [hlen, hz])
        rw [this]
        exact .fr _ _ (.nil _ _ _ _)
      · rw [if_neg (by omega), ← hlen]
        simp only [Option.map_some, Addr.add_mid]
        have hget : ∀ (i : Nat) (e : List F), ((es.take h.toNat).drop l.toNat)[i]? = some e → es[l.toNat + i]? = some e := fun i e hi => by
          rw [List.getElem?_drop, List.getElem?_take] at hi
          by_cases hq : l.toNat + i < h.toNat
          · rw [if_pos hq] at hi; exact hi
          · rw [if_neg hq] at hi; cases hi
        have hle2 : ((es.take h.toNat).drop l.toNat).length ≤ es.length := by rw [hlen]; omega
        refine .fr _ _ (.sl ti.sz nb _ k (o1 + l.toNat * ti.sz) _ (fun i j => cv (l.toNat + i) j) hk1 (by rw [hlen]; omega) (Nat.le_trans (Nat.mul_le_mul_right _ hle2) hb1) (fun i e hi => hn _ e (hget i e hi)) (fun i e j f hi hj => ?_) (fun i e j f hi hj => hr _ e j f (hget i e hi) hj))
        have := hc _ e j f (hget i e hi) hj
        rw [← this]
        congr 2
        rw [Nat.add_mul]; omega

theorem arr_field {T : TTab} (hT : TOk Γ.P T) {t e' : Nat} {x i : Operand} {n n1 n2 q : Nat} {z : List F} {ti : TI} {k : IntKind} (ho : o.op = .indexAddr t x i) (ht : T.get t = some ⟨.arr n e', n1, n2, z⟩) (he : T.get e' = some ti)
    (hi : Rep Γ w μ (.fr (.sc (.int k (.ofNat q)))) (a.eval i)) (hq : q < n) {b p : Nat} (hx : a.eval x = .pointer (some ⟨b, p, none⟩)) :
    (execOp a.eval o).run Γ.P w = .ok (.value (.pointer (some ⟨b, p + q * ti.sz, none⟩))) w := by
  have hi' := rep_int hi
  obtain ⟨d, hd, hk⟩ := (hT t _ ht).kind
  cases d <;> try exact hk.elim
  obtain ⟨rfl, rfl⟩ := hk
  have h1 : (0 : Int) ≤ Int.ofNat q := Int.natCast_nonneg q
  have h2 : Int.ofNat q < (n : Int) := by simpa using hq
  unfold execOp
  simp only [ho, hx, hi', Instr.indexAt, asIntOf, Instr.sureAddr, Sem.run_bind, Sem.run_pure, Result.andThen_ok, run_underlying hd w, h1, h2, and_self, if_true, (hT _ _ he).size w, Addr.add_mid]
  rfl

end Go.AW

/- AW, part 8: the evaluator's word on pure operations holds. -/
namespace Go.AW
open Go Go.RowKit
variable {Γ : Ctx} {H : Heap} {w : World} {μ : List Plc} {a : Act} {o : Oper}

theorem arr_index {T : TTab} (hT : TOk Γ.P T) {t e' : Nat} {x i : Operand} {n n1 n2 q : Nat} {z : List F} {ti : TI} {k : IntKind} {xs : List V} {v : V} (hm : Mem Γ H w μ) (ho : o.op = .index t x i) (ht : T.get t = some ⟨.arr n e', n1, n2, z⟩) (he : T.get e' = some ti)
    (hi : Rep Γ w μ (.fr (.sc (.int k (.ofNat q)))) (a.eval i)) (hq : q < n) (hx : Rep Γ w μ (.agg xs) (a.eval x)) (hv : loadV ti (dropL (q * ti.sz) xs) = some v) : ValOk Γ H w μ a o v := by
  have hi' := rep_int hi
  obtain ⟨d, hd, hk⟩ := (hT t _ ht).kind
  cases d <;> try exact hk.elim
  obtain ⟨rfl, rfl⟩ := hk
  have h1 : (0 : Int) ≤ Int.ofNat q := Int.natCast_nonneg q
  have h2 : Int.ofNat q < (n : Int) := by simpa using hq
  generalize hcx : a.eval x = cx at hx
  cases hx with
  | agg xs vs hl h3 h =>
    have hT' := hT _ ti he
    have hrun : (execOp a.eval o).run Γ.P w = ((part e' vs (q * ti.sz)).run Γ.P w).andThen fun v w' => .ok (.value v) w' := by
      unfold execOp
      simp only [ho, hcx, hi', Instr.index, asIntOf, Sem.run_bind, Sem.run_pure, Result.andThen_ok, run_underlying hd w, h1, h2, and_self, if_true, hT'.size w]
      rfl
    unfold loadV at hv
    split at hv
    · rename_i hk2
      cases hl2 : takeL ti.sz (dropL (q * ti.sz) xs) with
      | none => rw [hl2] at hv; cases hv
      | some l =>
        rw [hl2] at hv; cases hv
        obtain ⟨rfl, hlen⟩ := takeL_some hl2
        rw [dropL_eq] at hlen ⊢
        have hext : (vs.extract (q * ti.sz) (q * ti.sz + ti.sz)).size = ti.sz := by rw [List.length_take, List.length_drop] at hlen; rw [Array.size_extract]; omega
        have hgd : ∀ i, i < ti.sz → (vs.extract (q * ti.sz) (q * ti.sz + ti.sz)).getD i undef = vs.getD (q * ti.sz + i) undef := fun i hi => by
          have hb : i < min (q * ti.sz + ti.sz) vs.size - q * ti.sz := by rw [← Array.size_extract, hext]; exact hi
          have hc : q * ti.sz + i < vs.size := by omega
          simp [Array.getD_eq_getD_getElem?, hb, hc]
        refine .same (cv := .agg (vs.extract (q * ti.sz) (q * ti.sz + ti.sz))) hm ?_ (.agg _ _ (by rw [hext, hlen]) ?_ ?_)
        · rw [hrun]
          simp only [part, Sem.run_bind, hT'.isAgg w, Result.andThen_ok, hk2, if_true, hT'.size w, Sem.run_pure]
        · intro i hi
          rw [hext] at hi
          rw [hgd i hi]; exact h3 _ (by rw [List.length_take, List.length_drop] at hlen; omega)
        · intro i y hy
          rw [List.getElem?_take] at hy
          by_cases hi : i < ti.sz
          · rw [if_pos hi, List.getElem?_drop] at hy
            rw [hgd i hi]; exact h _ _ hy
          · rw [if_neg hi] at hy; cases hy
    · rename_i hk2
      rw [dropL_eq] at hv
      cases hq2 : xs.drop (q * ti.sz) with
      | nil => rw [hq2] at hv; cases hv
      | cons y r =>
        rw [hq2] at hv; cases hv
        have hy : xs[q * ti.sz]? = some v := by rw [← List.head?_drop, hq2]; rfl
        have hlt : q * ti.sz < vs.size := by have := (List.getElem?_eq_some_iff.1 hy).1; omega
        refine .same (cv := vs.getD (q * ti.sz) undef) hm ?_ (h _ _ hy)
        rw [hrun]
        simp only [part, Sem.run_bind, hT'.isAgg w, Result.andThen_ok, hk2, Bool.false_eq_true, if_false]
        simp [hlt, Array.getD]

theorem buildArr_ok {T : TTab} (hT : TOk Γ.P T) {E : Env} {t n e' : Nat} {ps : Array (Nat × Operand)} {n1 n2 : Nat} {z : List F} {ti : TI} {l : List (Nat × List V)} {xs : List V} (hm : Mem Γ H w μ)
    (ho : o.op = .build t ps) (hE : ∀ p ∈ ps.toList, Rep Γ w μ (opd E p.2) (a.eval p.2)) (ht : T.get t = some ⟨.arr n e', n1, n2, z⟩) (he : T.get e' = some ti)
    (hl : partsAt (fun i => some (i * ti.sz, ti.sz)) E ps.toList = some l) (hx : fillC (z.map zeroC) l = some xs) : ValOk Γ H w μ a o (.agg xs) := by
  obtain ⟨d, hd, hk⟩ := (hT t _ ht).kind
  cases d <;> try exact hk.elim
  obtain ⟨rfl, rfl⟩ := hk
  obtain ⟨zv, hz1, hz2, hz3⟩ := zero_pw (w := w) (μ := μ) (hT t _ ht)
  obtain ⟨cells', h1, h2⟩ := fill_ok (Γ := Γ) (w := w) (μ := μ) (a := a) (E := E) (f := fun i => some (i * ti.sz, ti.sz)) (place := fun i => some (i * ti.sz, ti.sz)) (fun i o n h => h) ps.toList l _ xs zv.cells hE hl hx hz2
  obtain ⟨h3, h4, h5⟩ := pw_get h2
  refine .same (cv := .agg cells') hm ?_ (.agg _ _ h3 (fun i hi => h4 _ (by simp [Array.getD, hi])) h5)
  unfold execOp
  have hmap : (ps.map fun x => (x.1, a.eval x.2)).toList = ps.toList.map fun p => (p.1, a.eval p.2) := by simp
  simp only [ho, Instr.build, Sem.run_bind, hz1, Result.andThen_ok, run_underlying hd w, (hT _ _ he).size w, hmap, h1, Sem.run_pure]

theorem alloc_ok {T : TTab} (hT : TOk Γ.P T) {t : Nat} {ti : TI} (ho : o.op = .alloc t) (ht : T.get t = some ti) : PRok Γ H w μ a o (.new (ti.zero.map zeroC)) := by
  obtain ⟨z, hz1, hz2, hz3⟩ := zero_pw (w := w) (μ := μ) (hT t ti ht)
  obtain ⟨h1, h2, h3⟩ := pw_get hz2
  refine ⟨z.cells, t, ?_, h1, h2, h3⟩
  unfold execOp
  simp only [ho, Instr.alloc, Sem.run_bind, hz1, Result.andThen_ok, newVar, newRow, newObj, Sem.run_pure]
  rfl

theorem box_ok {E : Env} {t n : Nat} {x : Operand} {c : List V} (ho : o.op = .box t x) (hx : Rep Γ w μ (opd E x) (a.eval x)) (hc : cellsN n (opd E x) = some c) : PRok Γ H w μ a o (.new c) := by
  obtain ⟨h0, _⟩ := pw_cellsN hx hc
  obtain ⟨h1, h2, h3⟩ := pw_get h0
  refine ⟨(a.eval x).cells, t, ?_, h1, h2, h3⟩
  unfold execOp
  simp only [ho, Instr.box, Sem.run_bind, newVar, newRow, newObj, Sem.run_pure]
  rfl

theorem convInt_ok {T : TTab} (hT : TOk Γ.P T) {s t : Nat} {x : Operand} {ti : TI} {n1 n2 : Nat} {z : List F} {k k' : IntKind} {n : Int} (hm : Mem Γ H w μ) (ho : o.op = .convert s t x) (ht : T.get t = some ⟨.int k, n1, n2, z⟩)
    (hs : T.get s = some ti) (hx : Rep Γ w μ (.fr (.sc (.int k' n))) (a.eval x)) : ValOk Γ H w μ a o (.fr (.sc (.int k (k.wrap n)))) := by
  obtain ⟨d, hd, hk⟩ := (hT t _ ht).kind
  cases d <;> try exact hk.elim
  obtain rfl : k = _ := hk
  obtain ⟨d', hd', _⟩ := (hT s _ hs).kind
  have hx' := rep_int hx
  refine .same (cv := .int k (k.wrap n)) hm ?_ (rep_mk _ rfl)
  unfold execOp
  simp only [ho, hx', convert, Sem.run_bind, run_underlying hd w, run_underlying hd' w, Result.andThen_ok, Conv.intToInt, Sem.run_pure]

theorem convStr_ok {T : TTab} (hT : TOk Γ.P T) {s t : Nat} {x : Operand} {ti : TI} {n1 n2 : Nat} {z : List F} {b : ByteArray} (hm : Mem Γ H w μ) (ho : o.op = .convert s t x) (ht : T.get t = some ⟨.str, n1, n2, z⟩)
    (hs : T.get s = some ti) (hx : Rep Γ w μ (.fr (.sc (.string b))) (a.eval x)) : ValOk Γ H w μ a o (S1 b) := by
  obtain ⟨d, hd, hk⟩ := (hT t _ ht).kind
  cases d <;> try exact hk.elim
  obtain ⟨d', hd', _⟩ := (hT s _ hs).kind
  have hx' := rep_sc hx
  refine .same (cv := .string b) hm ?_ (rep_mk _ rfl)
  unfold execOp
  simp only [ho, hx', convert, Sem.run_bind, run_underlying hd w, run_underlying hd' w, Result.andThen_ok, Sem.run_pure]

theorem len_run {args : Array Operand} {ats : Array TypeId} {x : Operand} {t : Nat} {d : TypeDesc} {n : Nat} (ho : o.op = .call ⟨.builtin .len, args, ats⟩) (ha : args.toList = [x]) (hat : ats.toList = [t]) (hd : Γ.P.underlying t = some d)
    (h : (∃ s, d = .string ∧ a.eval x = .string s ∧ s.size = n) ∨ (∃ e, d = .array n e) ∨ ∃ e ad c, d = .slice e ∧ a.eval x = .slice ad n c) : (execOp a.eval o).run Γ.P w = .ok (.value (goInt n)) w := by
  obtain ⟨args⟩ := args
  obtain ⟨ats⟩ := ats
  obtain rfl : args = [x] := ha
  obtain rfl : ats = [t] := hat
  unfold execOp
  simp only [ho, resolve, Sem.run_bind, Sem.run_pure, Result.andThen_ok, invoke, builtin, Builtin.len_]
  have e1 : (([x].toArray.map a.eval)[0]? : Option Value) = some (a.eval x) := by simp
  have e2 : (([t].toArray)[0]? : Option TypeId) = some t := by simp
  simp only [e1, e2, Sem.run_bind, run_underlying hd w, Result.andThen_ok]
  rcases h with ⟨s, rfl, hx, rfl⟩ | ⟨e, rfl⟩ | ⟨e, ad, c, rfl, hx⟩
  · simp only [hx, Sem.run_pure, Result.andThen_ok]
  · simp only [Sem.run_pure, Result.andThen_ok]
  · simp only [hx, Sem.run_pure, Result.andThen_ok]

theorem call_ok {T : TTab} {E : Env} {f : Operand} {args : Array Operand} {ats : Array TypeId} {g : Nat} {caps : List V} (ho : o.op = .call ⟨.value f, args, ats⟩) (hf : Rep Γ w μ (.clo g caps) (a.eval f))
    (hE : ∀ x ∈ args.toList, Rep Γ w μ (opd E x) (a.eval x)) (hl : args.toList.length = ats.toList.length) :
    PRok Γ H w μ a o (.call g ((args.toList.zip ats.toList).map (fun p => nrmV T p.2 (opd E p.1)) ++ caps)) := by
  generalize hcf : a.eval f = cf at hf
  cases hf with
  | clo g xs vs hvl hv =>
    refine ⟨args.map a.eval ++ vs, ?_, ?_, ?_⟩
    · unfold execOp
      simp only [ho, resolve, hcf, Deferred.ofValue, Sem.run_bind, Sem.run_pure, Result.andThen_ok, invoke, Array.empty_append]
    · simp only [Array.size_append, Array.size_map, List.length_append, List.length_map, List.length_zip, hvl]
      simp only [Array.length_toList] at hl ⊢
      omega
    · intro i x hx
      have hal : (args.map a.eval).size = args.toList.length := by simp
      by_cases hi : i < args.toList.length
      · rw [List.getElem?_append_left (by simp only [List.length_map, List.length_zip]; omega)] at hx
        rw [List.getElem?_map, (List.getElem?_zip_eq_some (z := (args.toList[i], ats.toList[i]'(by omega)))).2 ⟨List.getElem?_eq_getElem hi, List.getElem?_eq_getElem (by omega)⟩] at hx
        simp only [Option.map_some, Option.some.injEq] at hx
        subst hx
        have hg : (args.map a.eval ++ vs).getD i undef = a.eval args.toList[i] := by
          rw [Array.getD_eq_getD_getElem?, Array.getElem?_append_left (by rw [hal]; exact hi)]
          simp only [Array.length_toList] at hi
          simp [hi]
        rw [hg]
        exact rep_nrmV T _ (hE _ (List.getElem_mem hi))
      · rw [List.getElem?_append_right (by simp only [List.length_map, List.length_zip]; omega)] at hx
        have hg : (args.map a.eval ++ vs).getD i undef = vs.getD (i - args.toList.length) undef := by
          rw [Array.getD_eq_getD_getElem?, Array.getElem?_append_right (by rw [hal]; omega), hal, Array.getD_eq_getD_getElem?]
        rw [hg]
        have e : ((args.toList.zip ats.toList).map fun p => nrmV T p.2 (opd E p.1)).length = args.toList.length := by simp only [List.length_map, List.length_zip]; omega
        rw [e] at hx
        exact hv _ _ hx


theorem minmax_ok {mx : Bool} {args : Array Operand} {ats : Array TypeId} {x y : Operand} {k : IntKind} {p q : Int} (hm : Mem Γ H w μ) (ho : o.op = .call ⟨.builtin (if mx then .max else .min), args, ats⟩) (ha : args.toList = [x, y])
    (hx : Rep Γ w μ (.fr (.sc (.int k p))) (a.eval x)) (hy : Rep Γ w μ (.fr (.sc (.int k q))) (a.eval y)) : ValOk Γ H w μ a o (.fr (.sc (.int k (if mx then max p q else min p q)))) := by
  have hx' := rep_int hx
  have hy' := rep_int hy
  obtain ⟨args⟩ := args
  obtain rfl : args = [x, y] := ha
  refine .same (cv := .int k (if mx then max p q else min p q)) hm ?_ (rep_mk _ rfl)
  unfold execOp
  cases mx with
  | true =>
    simp only [if_true] at ho ⊢
    simp [ho, resolve, invoke, builtin, Builtin.max_, hx', hy', Builtin.max2]
    omega
  | false =>
    simp only [Bool.false_eq_true, if_false] at ho ⊢
    simp [ho, resolve, invoke, builtin, Builtin.min_, hx', hy', Builtin.min2]
    omega

end Go.AW

/- AW, part 9: the evaluator's word on every pure operation. -/
namespace Go.AW
open Go Go.RowKit
variable {Γ : Ctx} {H H' : Heap} {w : World} {μ : List Plc} {a : Act} {o : Oper}

theorem rep_ptr {I : Nat → Prop} {b q : Nat} {v : Value} (h : RepV w I μ (.ptr b q) v) : ∃ k, v = .pointer (some ⟨k, q, none⟩) ∧ μ[b]? = some (.at_ k) := by
  cases h with
  | ptr b q k hl => exact ⟨k, rfl, hl⟩

theorem rep_fptr {I : Nat → Prop} {es : List F} {q : Nat} {v : Value} (h : RepV w I μ (.fptr es q) v) : ∃ k o0, v = .pointer (some ⟨k, o0 + q, none⟩) ∧ ∀ q', RepV w I μ (.fptr es q') (.pointer (some ⟨k, o0 + q', none⟩)) := by
  cases h with
  | fptr es q k o0 cv hk hc hr => exact ⟨k, o0, rfl, fun q' => .fptr es q' k o0 cv hk hc hr⟩

theorem buf_value (hm : Mem Γ H w μ) {b e n nb : Nat} {es : List (List F)} (hb : H[b]? = some (.buf e n nb es)) {v : Value} (h : Rep Γ w μ (.buf b) v) : ∃ ad c, v = .slice ad es.length c := by
  cases h with
  | buf b m c ad hl =>
    obtain ⟨h1, _⟩ := hm.blk _ _ _ hb hl
    exact ⟨_, _, by rw [← h1]; rfl⟩
  | bdead b v hl h1 => exact (hm.blk _ _ _ hb hl).elim

/-- A look into a buffer from a row on. -/
theorem sliceBuf_ok {T : TTab} (hT : TOk Γ.P T) (hm : Mem Γ H w μ) {E : Env} {t e' b e nb n1 n2 : Nat} {x : Operand} {lo : Option Operand} {z : List F} {ti : TI} {es : List (List F)} {l : Int} (ho : o.op = .slice t x lo none none)
    (ht : T.get t = some ⟨.sli e', n1, n2, z⟩) (he : T.get e' = some ti) (hx : Rep Γ w μ (.buf b) (a.eval x)) (hb : H[b]? = some (.buf e ti.sz nb es)) (hlo : ∀ y, lo = some y → Rep Γ w μ (opd E y) (a.eval y)) (hl : boundI E lo 0 = some l) (h0 : 0 ≤ l ∧ l ≤ (es.length : Int)) :
    ValOk Γ H w μ a o (.bv b l.toNat ti.sz) := by
  obtain ⟨d, hd, hk⟩ := (hT t _ ht).kind
  cases d <;> try exact hk.elim
  rename_i e''
  obtain rfl : e' = e'' := hk
  generalize hcx : a.eval x = cx at hx
  cases hx with
  | bdead b v hl1 h1 => exact (hm.blk _ _ _ hb hl1).elim
  | buf b m c ad hl1 =>
    obtain ⟨g1, g0, g2, vs, g3, g4⟩ := hm.blk _ _ _ hb hl1
    subst g1
    have hmc : es.length ≤ c := by
      rcases g3.2 with ⟨hnil, h0⟩ | ⟨g, cap0, cur, hvv, hbg, hg, hcap, hcm, hcs, htake⟩
      · rw [h0]; exact Nat.zero_le _
      · cases ad with
        | none => simp [hdrV] at hvv
        | some g' =>
          simp only [hdrV, Option.map_some, Value.slice.injEq] at hvv
          rw [hvv.2.2]; exact hcap
    have hb' := bounds_ok (P := Γ.P) (w := w) (isS := true) (n := es.length) (c := c) (boundI_some hlo hl) (hi := none) (h := (es.length : Int)) (.inl ⟨rfl, rfl⟩) h0.1 h0.2 (by omega)
    have hrun : (execOp a.eval o).run Γ.P w = .ok (.value (.slice (if c = l.toNat then ad.map (fun k => ⟨k, 0, none⟩) else (ad.map (fun k => (⟨k, 0, none⟩ : Addr))).map (·.add (l.toNat * ti.sz))) (es.length - l.toNat) (c - l.toNat))) w := by
      unfold execOp
      have hb2 := hb'
      simp only [Int.toNat_natCast, Option.map_none] at hb2
      simp only [ho, hcx, hdrV, Instr.sliceAt, Instr.slice, Sem.run_bind, run_underlying hd w, Result.andThen_ok, Option.map_none, hb2, Sem.run_pure, (hT _ _ he).size w]
    exact .same hm hrun (.bv b l.toNat ti.sz es.length c ad hl1 (by omega))

theorem flat_len {n : Nat} : ∀ (es : List (List F)), (∀ r ∈ es, r.length = n) → es.flatten.length = es.length * n
  | [], _ => by simp
  | r :: es, h => by
    rw [List.flatten_cons, List.length_append, flat_len es (fun x hx => h x (List.mem_cons_of_mem _ hx)), h r List.mem_cons_self, List.length_cons, Nat.add_mul]; omega

/-- A pointer into a buffer of the call's own. -/
theorem load_bp {T : TTab} (hT : TOk Γ.P T) (hm : Mem Γ H w μ) {t : Nat} {x : Operand} {ti : TI} {b q e n nb : Nat} {es : List (List F)} {f : F} (ho : o.op = .load t x) (hti : T.get t = some ti) (hk : isAggK ti.k = false)
    (hx : Rep Γ w μ (.bp b q) (a.eval x)) (hb : H[b]? = some (.buf e n nb es)) (hf : es.flatten[q]? = some f) : ValOk Γ H w μ a o (.fr f) := by
  generalize hcx : a.eval x = cx at hx
  cases hx with
  | bpd b q k hl => exact (hm.blk _ _ _ hb hl).elim
  | bp b q k m c hl =>
    obtain ⟨h1, _, h2, vs, h3, h4⟩ := hm.blk _ _ _ hb hl
    have hlen := flat_len es h2
    have hq : q < es.flatten.length := (List.getElem?_eq_some_iff.1 hf).1
    have hvl : vs.length = m * n := h3.1
    have hqv : q < vs.length := by rw [hvl, h1, ← hlen]; exact hq
    have hcell := h3.cells (g := k) rfl q vs[q] (by simp)
    have hrep : RepFr Γ w μ f vs[q] := by have := h4 q f hf; simpa [List.getD_eq_getElem?_getD, hqv] using this
    obtain ⟨r, hr, hrr⟩ := run_loadV (P := Γ.P) (w := w) (μ := μ) (I := Imm Γ w μ) (xs := [.fr f]) (v := .fr f) (hT t ti hti) (by unfold loadV; rw [hk]) k q (fun _ => vs[q]) (fun j y hy => by
      cases j with
      | zero =>
        simp at hy; subst hy
        refine ⟨?_, .fr _ _ hrep, hrep.one⟩
        simpa [Addr.add_mid] using hcell
      | succ j => simp at hy)
    refine .same hm ?_ hrr
    unfold execOp
    simp only [ho, hcx, Sem.run_bind, hr, Result.andThen_ok, Sem.run_pure]

theorem field_bp {T : TTab} (hT : TOk Γ.P T) (hm : Mem Γ H w μ) {s f : Nat} {x : Operand} {fs : List (Nat × Nat)} {qq : Bool} {n1 n2 : Nat} {z : List F} {o' t' b q : Nat} (ho : o.op = .fieldAddr s x f)
    (hs : T.get s = some ⟨.st fs qq, n1, n2, z⟩) (hf : fs[f]? = some (o', t')) (hz : szOf T t' ≠ 0) (hx : Rep Γ w μ (.bp b q) (a.eval x)) : ValOk Γ H w μ a o (.bp b (q + o')) := by
  generalize hcx : a.eval x = cx at hx
  cases hx with
  | bp b q k m c hl => exact .same hm (fieldAddr_ok hT ho hs hf hz hcx) (.bp _ _ _ _ _ hl)
  | bpd b q k hl => exact .same hm (fieldAddr_ok hT ho hs hf hz hcx) (.bpd _ _ _ hl)

theorem idx_bp {T : TTab} (hT : TOk Γ.P T) (hm : Mem Γ H w μ) {t e' : Nat} {x i : Operand} {n1 n2 : Nat} {z : List F} {ti : TI} {b e nb : Nat} {es : List (List F)} {k : IntKind} {q : Int} (ho : o.op = .indexAddr t x i)
    (ht : T.get t = some ⟨.sli e', n1, n2, z⟩) (hti : T.get e' = some ti) (hx : Rep Γ w μ (.buf b) (a.eval x)) (hb : H[b]? = some (.buf e ti.sz nb es)) (hi : Rep Γ w μ (.fr (.sc (.int k q))) (a.eval i))
    (h0 : 0 ≤ q) (h1 : q < es.length) : ValOk Γ H w μ a o (.bp b (q.toNat * ti.sz)) := by
  have hi' := rep_int hi
  obtain ⟨d, hd, hk⟩ := (hT t _ ht).kind
  cases d <;> try exact hk.elim
  rename_i e''
  obtain rfl : e' = e'' := hk
  generalize hcx : a.eval x = cx at hx
  cases hx with
  | bdead b v hl h2 => exact (hm.blk _ _ _ hb hl).elim
  | buf b m c ad hl =>
    obtain ⟨g1, _, _, vs, g3, _⟩ := hm.blk _ _ _ hb hl
    cases ad with
    | none =>
      exfalso
      rcases g3.2 with ⟨_, h0⟩ | ⟨g, cap0, cur, hvv, _⟩
      · omega
      · simp [hdrV] at hvv
    | some g =>
      refine .same (cv := .pointer (some ⟨g, 0 + q.toNat * ti.sz, none⟩)) hm ?_ (by rw [Nat.zero_add]; exact .bp _ _ _ _ _ hl)
      unfold execOp
      have hq : q < (m : Int) := by omega
      have hcx' : a.eval x = .slice (some ⟨g, 0, none⟩) m c := hcx
      simp only [ho, hcx', hi', Instr.indexAt, asIntOf, Sem.run_bind, Sem.run_pure, Result.andThen_ok, run_underlying hd w, h0, hq, and_self, if_true, (hT _ ti hti).size w, Addr.add_mid]

set_option maxHeartbeats 1000000 in
theorem evalP_sound {T : TTab} (hT : TOk Γ.P T) {n0 : Nat} {E : Env} (hm : Mem Γ H' w μ) (hE : ∀ x ∈ o.op.operands.toList, Rep Γ w μ (opd E x) (a.eval x)) (hH : ∀ b x, (b, false) ∈ touch E o.op → nth H b = some x → nth H' b = some x) :
    PRok Γ H' w μ a o (evalP T n0 E H o.op) := by
  cases hop : o.op with
  | move x =>
    have h1 := hE x (by simp [hop, Op.operands])
    exact .same hm (by unfold execOp; simp only [hop]; rfl) h1
  | assign x =>
    have h1 := hE x (by simp [hop, Op.operands])
    exact .same hm (by unfold execOp; simp only [hop]; rfl) h1
  | pick c x y =>
    have h1 := hE c (by simp [hop, Op.operands])
    have h2 := hE x (by simp [hop, Op.operands])
    have h3 := hE y (by simp [hop, Op.operands])
    simp only [evalP]
    split
    · rename_i b he
      rw [he] at h1
      have h1' := rep_sc h1
      cases b with
      | true => exact .same hm (by unfold execOp; simp only [hop, h1', asBool, Sem.run_bind, Sem.run_pure, Result.andThen_ok, if_true]) h2
      | false => exact .same hm (by unfold execOp; simp only [hop, h1', asBool, Sem.run_bind, Sem.run_pure, Result.andThen_ok, Bool.false_eq_true, if_false]) h3
    · trivial
  | alloc t =>
    simp only [evalP]
    split
    · rename_i ti ht; exact alloc_ok hT hop ht
    · trivial
  | box t x =>
    have h1 := hE x (by simp [hop, Op.operands])
    simp only [evalP]
    split
    · rename_i c hc; exact box_ok hop h1 hc
    · trivial
  | load t x =>
    have h1 := hE x (by simp [hop, Op.operands])
    simp only [evalP]
    split
    · rename_i ti ht
      split
      · rename_i b q he
        rw [he] at h1
        have hr := fun x => hH b x (by simp only [hop, touch, he, touchV, touch1, touch0]; simp)
        split
        · split
          · rename_i xs hx
            split
            · rename_i v hv
              exact load_block hT hm hop ht h1 (by rw [← nth_eq]; exact hr _ hx) hv
            · trivial
          · trivial
        · trivial
      · rename_i es q he
        rw [he] at h1
        split
        · rename_i v hv; exact load_frozen hT hm hop ht h1 hv
        · trivial
      · rename_i b q he
        rw [he] at h1
        have hr := fun x => hH b x (by simp only [hop, touch, he, touchV, touch1, touch0]; simp)
        split
        · rename_i hq hk hb
          intro v ⟨f, hf, hv⟩
          subst hv
          exact load_bp hT hm hop ht hk h1 (by rw [← nth_eq]; exact hr _ hb) hf
        · trivial
      · trivial
    · trivial
  | fieldAddr s x f =>
    have h1 := hE x (by simp [hop, Op.operands])
    simp only [evalP]
    split
    · rename_i fs _ _ _ hs
      split
      · rename_i q t' hf
        rw [nth_eq] at hf
        split
        · trivial
        · rename_i hz
          have hz' : szOf T t' ≠ 0 := by rw [hz]; omega
          split
          · rename_i b p he
            rw [he] at h1
            obtain ⟨k, hv, hl⟩ := rep_ptr h1
            exact .same hm (fieldAddr_ok hT hop hs hf hz' hv) (.ptr _ _ _ hl)
          · rename_i es p he
            rw [he] at h1
            obtain ⟨k, o0, hv, hr⟩ := rep_fptr h1
            exact .same hm (fieldAddr_ok hT hop hs hf hz' hv) (by rw [Nat.add_assoc]; exact hr _)
          · rename_i b p he
            rw [he] at h1
            exact field_bp hT hm hop hs hf hz' h1
          · trivial
      · trivial
    · trivial
  | field s x f =>
    have h1 := hE x (by simp [hop, Op.operands])
    simp only [evalP]
    split
    · rename_i fs _ _ _ hs
      split
      · rename_i q t' hf
        rw [nth_eq] at hf
        split
        · rename_i ti xs ht he
          rw [he] at h1
          split
          · rename_i v hv; exact field_ok hT hm hop hs hf ht h1 hv
          · trivial
        · trivial
      · trivial
    · trivial
  | indexAddr t x i =>
    have h1 := hE x (by simp [hop, Op.operands])
    have h2 := hE i (by simp [hop, Op.operands])
    simp only [evalP]
    split
    · rename_i n e _ _ _ ht
      split
      · rename_i ti k q he hi
        rw [hi] at h2
        split
        · rename_i b p hq hx
          rw [hx] at h1
          obtain ⟨k', hv, hl⟩ := rep_ptr h1
          exact .same hm (arr_field hT hop ht he h2 (by simpa [Nat.blt_eq] using hq) hv) (.ptr _ _ _ hl)
        · rename_i es p hq hx
          rw [hx] at h1
          obtain ⟨k', o0, hv, hr⟩ := rep_fptr h1
          exact .same hm (arr_field hT hop ht he h2 (by simpa [Nat.blt_eq] using hq) hv) (by rw [Nat.add_assoc]; exact hr _)
        · trivial
      · trivial
    · rename_i e _ _ _ ht
      split
      · rename_i ti n nb es k q he hx hi
        rw [hx] at h1
        rw [hi] at h2
        split
        · rename_i hn
          have hn' := Nat.eq_of_beq_eq_true hn
          intro r h0 hr
          exact idx_ok hT hm hop ht (by rw [hn']; unfold szOf; rw [he]) h1 h2 h0 hr ⟨ti, he⟩
        · trivial
      · rename_i ti b k q he hx hi
        have hr := fun y => hH b y (by simp only [hop, touch, hx]; simp)
        rw [hx] at h1
        rw [hi] at h2
        split
        · rename_i e' n nb es hq hb
          split
          · rename_i hn
            have hn' := Nat.eq_of_beq_eq_true hn
            subst hn'
            intro ⟨h3, h4⟩
            exact idx_bp hT hm hop ht he h1 (by rw [← nth_eq]; exact hr _ hb) h2 h3 h4
          · trivial
        · trivial
      · trivial
    · trivial
  | index t x i =>
    have h1 := hE x (by simp [hop, Op.operands])
    have h2 := hE i (by simp [hop, Op.operands])
    simp only [evalP]
    split
    · rename_i ht
      split
      · rename_i s k q hx hi
        rw [hx] at h1
        rw [hi] at h2
        intro h h0
        exact str_ok hT hm hop ht h1 h2 h h0
      · trivial
    · rename_i n e _ _ _ ht
      split
      · rename_i ti k q xs he hi hx
        rw [hx] at h1
        rw [hi] at h2
        split
        · rename_i v hq hv
          exact arr_index hT hm hop ht he h2 (by simpa [Nat.blt_eq] using hq) h1 hv
        · trivial
      · trivial
    · trivial
  | binOp op t x y t' =>
    have h1 := hE x (by simp [hop, Op.operands])
    have h2 := hE y (by simp [hop, Op.operands])
    exact bin_ok hT hm hop h1 h2
  | unOp op t x =>
    have h1 := hE x (by simp [hop, Op.operands])
    simp only [evalP]
    split
    · rename_i b hx
      rw [hx] at h1
      have h1' := rep_sc h1
      exact .same (cv := .bool (!b)) hm (by unfold execOp; simp only [hop, h1', Op.unary, Sem.run_bind, Sem.run_pure, Result.andThen_ok]) (rep_mk _ rfl)
    · rename_i k n hx
      rw [hx] at h1
      have h1' := rep_int h1
      exact .same (cv := .int k (k.wrap (0 - n))) hm (by unfold execOp; simp only [hop, h1', Op.unary, Op.intArith, Sem.run_bind, Sem.run_pure, Result.andThen_ok]) (rep_mk _ rfl)
    · trivial
  | convert s t x =>
    have h1 := hE x (by simp [hop, Op.operands])
    simp only [evalP]
    split
    · rename_i k _ _ _ ht
      split
      · rename_i ti k' n hs hx
        rw [hx] at h1
        exact convInt_ok hT hm hop ht hs h1
      · trivial
    · rename_i ht
      split
      · rename_i ti b hs hx
        rw [hx] at h1
        exact convStr_ok hT hm hop ht hs h1
      · trivial
    · trivial
  | build t ps =>
    have h1 : ∀ p ∈ ps.toList, Rep Γ w μ (opd E p.2) (a.eval p.2) := fun p hp => hE p.2 (by simp only [hop, Op.operands, List.toList_toArray]; exact List.mem_map.2 ⟨p, hp, rfl⟩)
    simp only [evalP]
    split
    · rename_i fs _ _ z ht
      split
      · rename_i l hT2 hl
        split
        · rename_i xs hx; exact build_ok hT hm hop h1 ht hT2 hl hx
        · trivial
      · trivial
    · rename_i n e _ _ z ht
      split
      · rename_i ti he
        split
        · rename_i l hl
          split
          · rename_i xs hx; exact buildArr_ok hT hm hop h1 ht he hl hx
          · trivial
        · trivial
      · trivial
    · trivial
  | buildSlice t len ps =>
    have h1 : ∀ p ∈ ps.toList, Rep Γ w μ (opd E p.2) (a.eval p.2) := fun p hp => hE p.2 (by simp only [hop, Op.operands, List.toList_toArray]; exact List.mem_map.2 ⟨p, hp, rfl⟩)
    simp only [evalP]
    split
    · rename_i e _ _ z ht
      split
      · rename_i ti he
        split
        · rename_i x es hs hl hr
          have h2 : ps.toList.length = len ∧ len * ti.sz ≤ 16777216 ∧ len * ti.by_ ≤ 140737488355328 := by
            split at hl
            · rename_i hb
              split at hl
              · rename_i hb2; exact ⟨Nat.eq_of_beq_eq_true hb, by simpa [Nat.ble_eq] using hb2, by simpa [Nat.ble_eq] using hl⟩
              · cases hl
            · cases hl
          exact buildSlice_ok hT hm hop h1 ht he hs h2.1 h2.2.1 h2.2.2 hr
        · trivial
      · trivial
    · trivial
  | slice t x lo hi mx =>
    cases mx with
    | some m => simp only [evalP]; trivial
    | none =>
      have h1 := hE x (by simp [hop, Op.operands])
      have h2 : ∀ y, lo = some y → Rep Γ w μ (opd E y) (a.eval y) := fun y hy => hE y (by simp [hop, Op.operands, hy])
      have h3 : ∀ y, hi = some y → Rep Γ w μ (opd E y) (a.eval y) := fun y hy => hE y (by simp [hop, Op.operands, hy])
      simp only [evalP]
      split
      · rename_i ht
        split
        · rename_i s hx
          rw [hx] at h1
          split
          · rename_i l h hl hh
            intro h0
            exact sliceStr_ok hT hm hop ht h1 h2 h3 hl hh h0
          · trivial
        · trivial
      · rename_i e _ _ z ht
        split
        · rename_i ti he
          split
          · rename_i n nb es hx
            rw [hx] at h1
            split
            · rename_i l h hn hl hh
              have hn' := Nat.eq_of_beq_eq_true hn
              subst hn'
              intro h0
              exact sliceSl_ok hT hm hop ht he h1 h2 h3 hl hh h0
            · trivial
          · rename_i b hx
            rw [hx] at h1
            split
            · rename_i e2 n nb es hb
              split
              · rename_i l hn hl
                have hn' := Nat.eq_of_beq_eq_true hn
                subst hn'
                intro h0
                have hb2 := hH b _ (by rw [hop]; simp [touch, hx]) hb
                rw [nth_eq] at hb2
                exact sliceBuf_ok hT hm hop ht he h1 hb2 h2 hl h0
              · trivial
            · trivial
          · trivial
        · trivial
      · trivial
  | extract x i =>
    have h1 := hE x (by simp [hop, Op.operands])
    simp only [evalP]
    split
    · rename_i xs hx
      rw [hx] at h1
      split
      · rename_i v hv
        rw [nth_eq] at hv
        exact extract_ok hm hop h1 hv
      · trivial
    · trivial
  | makeInterface t x =>
    have h1 := hE x (by simp [hop, Op.operands])
    simp only [evalP]
    split
    · trivial
    · trivial
    · rename_i ti hn1 hn2 ht
      obtain ⟨d, hd, hk⟩ := (hT t _ ht).kind
      refine .same (cv := .iface t (a.eval x)) hm ?_ (.ifc _ _ _ h1)
      unfold execOp
      simp only [hop, Instr.makeInterface, Sem.run_bind, run_underlying hd w, Result.andThen_ok]
      cases d <;> first | rfl | skip
      rename_i ms
      obtain ⟨kk, s1, s2, s3⟩ := ti
      cases kk <;> first | exact hk.elim | exact absurd rfl (hn1 _ _ _) | exact absurd rfl (hn2 _ _ _) | skip
    · trivial
  | makeFunc fn first caps =>
    cases fn with
    | func f =>
      simp only [evalP]
      split
      · rename_i hf
        have hf' : first = #[] := by obtain ⟨l⟩ := first; simpa using hf
        subst hf'
        have h1 : ∀ x ∈ caps.toList, Rep Γ w μ (opd E x) (a.eval x) := fun x hx => hE x (by simp [hop, Op.operands]; simpa using hx)
        refine .same (cv := .func (.func f) #[] (caps.map a.eval)) hm ?_ (.clo f _ _ (by simp) ?_)
        · unfold execOp
          simp only [hop, Instr.makeFunc, Sem.run_bind, Sem.run_pure, Result.andThen_ok]; simp
        · intro i x hx
          rw [List.getElem?_map] at hx
          cases hq : caps.toList[i]? with
          | none => rw [hq] at hx; cases hx
          | some y =>
            rw [hq] at hx; cases hx
            have hg : (caps.map a.eval).getD i undef = a.eval y := by
              have hq' : caps[i]? = some y := by simpa using hq
              simp [Array.getD_eq_getD_getElem?, hq']
            rw [hg]
            exact h1 y (List.mem_of_getElem? hq)
      · trivial
    | _ => simp only [evalP]; trivial
  | nilCheck x =>
    have h1 := hE x (by simp [hop, Op.operands])
    simp only [evalP]
    split
    · rename_i b q hx
      rw [hx] at h1
      obtain ⟨k, hv, hl⟩ := rep_ptr h1
      exact .same (cv := .pointer (some ⟨k, q, none⟩)) hm (by unfold execOp; simp only [hop, hv]; rfl) (.ptr _ _ _ hl)
    · rename_i es q hx
      rw [hx] at h1
      obtain ⟨k, o0, hv, hr⟩ := rep_fptr h1
      exact .same hm (by unfold execOp; simp only [hop, hv]; rfl) (hr q)
    · rename_i t v hx
      rw [hx] at h1
      generalize hcx : a.eval x = cx at h1
      cases h1 with
      | ifc t x v h => exact .same (cv := .iface t v) hm (by unfold execOp; simp only [hop, hcx]; rfl) (.ifc _ _ _ h)
    · rename_i f c hx
      rw [hx] at h1
      generalize hcx : a.eval x = cx at h1
      cases h1 with
      | clo f xs vs hl h => exact .same (cv := .func (.func f) #[] vs) hm (by unfold execOp; simp only [hop, hcx]; rfl) (.clo _ _ _ hl h)
    · trivial
  | call c =>
    obtain ⟨callee, args, ats⟩ := c
    cases callee with
    | value f =>
      have h1 := hE f (by simp [hop, Op.operands, Call.operands])
      have h2 : ∀ x ∈ args.toList, Rep Γ w μ (opd E x) (a.eval x) := fun x hx => hE x (by simp [hop, Op.operands, Call.operands]; right; simpa using hx)
      simp only [evalP, evalC]
      split
      · rename_i g caps hf
        rw [hf] at h1
        split
        · rename_i hl; exact call_ok hop h1 h2 (Nat.eq_of_beq_eq_true hl)
        · trivial
      · trivial
    | invoke r m => simp only [evalP, evalC]; trivial
    | builtin b =>
      have h2 : ∀ x ∈ args.toList, Rep Γ w μ (opd E x) (a.eval x) := fun x hx => hE x (by simp [hop, Op.operands, Call.operands]; simpa using hx)
      cases b with
      | min =>
        simp only [evalP, evalC]
        split
        · rename_i x y ha
          split
          · rename_i i p j q hx hy
            split
            · rename_i hk
              obtain rfl := kCode_inj (Nat.eq_of_beq_eq_true hk)
              have hx1 := h2 x (by rw [ha]; simp)
              have hy1 := h2 y (by rw [ha]; simp)
              rw [hx] at hx1; rw [hy] at hy1
              exact minmax_ok (mx := false) hm hop ha hx1 hy1
            · trivial
          · trivial
        · trivial
      | max =>
        simp only [evalP, evalC]
        split
        · rename_i x y ha
          split
          · rename_i i p j q hx hy
            split
            · rename_i hk
              obtain rfl := kCode_inj (Nat.eq_of_beq_eq_true hk)
              have hx1 := h2 x (by rw [ha]; simp)
              have hy1 := h2 y (by rw [ha]; simp)
              rw [hx] at hx1; rw [hy] at hy1
              exact minmax_ok (mx := true) hm hop ha hx1 hy1
            · trivial
          · trivial
        · trivial
      | len =>
        simp only [evalP, evalC]
        split
        · rename_i x ha
          have hx1 := h2 x (by rw [ha]; simp)
          split
          · rename_i t hat
            have fin : ∀ (d : TypeDesc) (n : Nat), Γ.P.underlying t = some d → ((∃ s, d = .string ∧ a.eval x = .string s ∧ s.size = n) ∨ (∃ e, d = .array n e) ∨ ∃ e ad c, d = .slice e ∧ a.eval x = .slice ad n c) → ValOk Γ H' w μ a o (I64 n) :=
              fun d n hd h => .same hm (len_run hop ha hat hd h) (rep_mk _ rfl)
            split
            · rename_i e _ _ _ ht
              obtain ⟨d, hd, hk⟩ := (hT t _ ht).kind
              cases d <;> try exact hk.elim
              split
              · rename_i n nb es hx
                rw [hx] at hx1
                refine fin _ es.length hd (.inr (.inr ?_))
                generalize a.eval x = cx at hx1
                cases hx1 with
                | fr f v hf =>
                  cases hf with
                  | nil n nb ad c => exact ⟨_, _, _, rfl, rfl⟩
                  | sl => exact ⟨_, _, _, rfl, rfl⟩
              · rename_i hx
                rw [hx] at hx1
                exact fin _ 0 hd (.inr (.inr ⟨_, _, _, rfl, rep_sc hx1⟩))
              · rename_i b hx
                rw [hx] at hx1
                have hr := fun x => hH b x (by simp only [hop, touch, ha, touchA, hx, touchV, touch1, touch0]; simp)
                split
                · rename_i e' n' nb es hb hn
                  have hn := hr _ hn
                  rw [nth_eq] at hn
                  obtain ⟨ad, c, hv⟩ := buf_value hm hn hx1
                  exact fin _ es.length hd (.inr (.inr ⟨_, _, _, rfl, hv⟩))
                · trivial
              · trivial
            · rename_i ht
              obtain ⟨d, hd, hk⟩ := (hT t _ ht).kind
              cases d <;> try exact hk.elim
              split
              · rename_i s hx
                rw [hx] at hx1
                exact fin _ s.size hd (.inl ⟨s, rfl, rep_sc hx1, rfl⟩)
              · trivial
            · rename_i n e _ _ _ ht
              obtain ⟨d, hd, hk⟩ := (hT t _ ht).kind
              cases d <;> try exact hk.elim
              obtain ⟨rfl, rfl⟩ := hk
              exact fin _ n hd (.inr (.inl ⟨_, rfl⟩))
            · trivial
          · trivial
        · trivial
      | _ => simp only [evalP, evalC]; trivial
  | _ => simp only [evalP]; trivial

end Go.AW

/- AW, part 10: the operations that write: a store into a block of the call's own, an append to a buffer. -/
namespace Go.AW
open Go Go.RowKit
variable {Γ : Ctx} {H : Heap} {w : World} {μ : List Plc} {a : Act} {o : Oper}

structure Ok (Γ : Ctx) (nt : Nat) (E : Env) (H : Heap) (a : Act) (w : World) (μ : List Plc) : Prop where
  mem : Mem Γ H w μ
  size : a.tmps.size = nt
  env : EnvOk Γ w μ E a.tmps
  defers : a.defers = []

/-! ### A store -/
theorem setCells_heap (k : Nat) : ∀ (vs : List Value) (q : Nat) (w : World) (c : Array Value) (e : TypeId), w.heap[k]? = some (.cells c e (0, 0)) → q + vs.length ≤ c.size →
    ∃ c', (w.setCells k q vs).heap[k]? = some (.cells c' e (0, 0)) ∧ c'.toList = c.toList.take q ++ vs ++ c.toList.drop (q + vs.length)
  | [], q, w, c, e, h, _ => ⟨c, h, by simp⟩
  | v :: vs, q, w, c, e, h, hl => by
    simp only [List.length_cons] at hl
    have h1 : (w.setCell ⟨k, q, none⟩ v).heap[k]? = some (.cells (c.setIfInBounds q v) e (0, 0)) := by
      simp [World.setCell, Array.getElem?_modify, h]
    obtain ⟨c', h2, h3⟩ := setCells_heap k vs (q + 1) (w.setCell ⟨k, q, none⟩ v) _ e h1 (by simp; omega)
    refine ⟨c', h2, ?_⟩
    rw [h3, Array.toList_setIfInBounds, List.drop_set_of_lt (by omega)]
    have hlt : q < c.toList.length := by simp; omega
    have e2 : (c.toList.set q v).take (q + 1) = c.toList.take q ++ [v] := by
      rw [List.take_set, List.take_succ_eq_append_getElem hlt, List.set_append_right _ _ (by simp; omega)]
      have : q - min q c.size = 0 := by simp at hlt; omega
      simp [this]
    rw [e2]
    have e3 : q + 1 + vs.length = q + (vs.length + 1) := by omega
    simp [e3]

theorem setCells_other (k : Nat) : ∀ (vs : List Value) (q : Nat) (w : World) (k' : Nat), k' ≠ k → (w.setCells k q vs).heap[k']? = w.heap[k']?
  | [], _, _, _, _ => rfl
  | v :: vs, q, w, k', h => by
    show ((w.setCell ⟨k, q, none⟩ v).setCells k (q + 1) vs).heap[k']? = _
    rw [setCells_other k vs (q + 1) _ k' h, Below.heap_setCell _ _ _ _ h]

theorem setCells_rest (k : Nat) : ∀ (vs : List Value) (q : Nat) (w : World), (w.setCells k q vs).heap.size = w.heap.size ∧ (w.setCells k q vs).os = w.os ∧ (w.setCells k q vs).tape = w.tape ∧ (w.setCells k q vs).output = w.output
  | [], _, _ => ⟨rfl, rfl, rfl, rfl⟩
  | v :: vs, q, w => by
    obtain ⟨h1, h2, h3, h4⟩ := setCells_rest k vs (q + 1) (w.setCell ⟨k, q, none⟩ v)
    exact ⟨h1.trans (by simp), h2, h3, h4⟩

/-- One block of the call's own is written; all else stands. -/
theorem Mem.write {w' : World} {b k : Nat} {l : Plc} {x : Blk} (hm : Mem Γ H w μ) (hl : μ[b]? = some l) (hk : l.block = some k) (hs : w'.heap.size = w.heap.size) (hb : ∀ k', k' ≠ k → w'.heap[k']? = w.heap[k']?)
    (h1 : w'.os = w.os) (h2 : w'.tape = w.tape) (h3 : w'.output = w.output) (hxc : ∀ k, l = .at_ k → ∃ ys, x = .cells ys) (hx : Pres Γ w μ w' μ → BlkOk Γ w' μ x l) : Mem Γ (setB H b x) w' μ ∧ Pres Γ w μ w' μ := by
  have hown : owned μ k := ⟨b, l, hl, hk⟩
  have hp : Pres Γ w μ w' μ := ⟨fun k' ⟨i1, i2, i3⟩ => ⟨i1, by rw [hs]; exact i2, i3⟩, fun k' hk' => hb k' (fun e => hk'.2.2 (e ▸ hown)), .refl _⟩
  rw [setB_eq]
  refine ⟨⟨by simp [hm.len], fun k' hk' => by rw [hs]; exact hm.below k' hk', hm.own0, hm.inj, fun i y l' hi hl' => ?_, ?_, hm.i0, fun i k' hi => ⟨(hm.pin i k' hi).1, ?_⟩⟩, hp⟩
  · by_cases hib : i = b
    · subst hib
      rw [hl] at hl'; cases hl'
      have hlt : i < H.length := by rw [← hm.len]; exact (List.getElem?_eq_some_iff.1 hl).1
      rw [List.getElem?_set_self hlt] at hi
      cases hi
      exact hx hp
    · rw [List.getElem?_set_ne (Ne.symm hib)] at hi
      exact (hm.blk i y l' hi hl').pres hp (fun k' hk' => hb k' (fun e => hib (hm.inj i b l' l k hl' hl (e ▸ hk') hk)))
  · refine ⟨h1.trans hm.ext.os, h2.trans hm.ext.tape, h3.trans hm.ext.output, by rw [hs]; exact hm.ext.size, fun k' hk' ho => ?_⟩
    rw [hb k' ?_]
    · exact hm.ext.block k' hk' ho
    · intro e; subst e
      rcases hm.own0 k' hown with h | h
      · exact ho h
      · omega
  · by_cases hib : i = b
    · subst hib
      have h4 := (hm.pin i k' hi).1
      rw [hl] at h4; cases h4
      obtain ⟨ys, rfl⟩ := hxc k' rfl
      have hlt : i < H.length := by rw [← hm.len]; exact (List.getElem?_eq_some_iff.1 hl).1
      exact ⟨ys, List.getElem?_set_self hlt⟩
    · rw [List.getElem?_set_ne (Ne.symm hib)]; exact (hm.pin i k' hi).2

theorem run_storeAny {P : Program} {t : Nat} {ti : TI} (ht : TiOk P t ti) {k q : Nat} {v : Value} (hv : v.cells.size = ti.sz) (hc : ∀ j, j < ti.sz → (w.cell? ⟨k, q + j, none⟩).isSome = true) (hf : ∀ j, j < ti.sz → w.frozen? ⟨k, q + j, none⟩ = false)
    (h1 : ∀ u ∈ v.cells.toList, u.oneCell' = true) : (Instr.storeAt t (.pointer (some ⟨k, q, none⟩)) v).run P w = .ok () (w.setCells k q v.cells.toList) := by
  have hl : v.cells.toList.length = ti.sz := by simpa using hv
  have := run_storeCells_cells (P := P) k q v.cells.toList 0 w (fun j hj => by simpa using hc j (by omega)) (fun j hj => by simpa using hf j (by omega)) h1
  simp only [Nat.add_zero] at this
  simp only [Instr.storeAt, Instr.sureAddr, storeVar, Sem.run_bind, Sem.run_pure, Result.andThen_ok, ht.size w, hv, ne_eq, not_true, if_false, this]

theorem store_ok {T : TTab} (hT : TOk Γ.P T) (hm : Mem Γ H w μ) {t : Nat} {x y : Operand} {b q : Nat} {xs c ys : List V} {u : V} (ho : o.op = .store t x y) (hx : Rep Γ w μ (.ptr b q) (a.eval x)) (hy : Rep Γ w μ u (a.eval y))
    (hb : H[b]? = some (.cells xs)) {ti : TI} (hti : T.get t = some ti) (hc : cellsN ti.sz u = some c) (hs : splice q c xs = some ys) :
    ∃ w', (execOp a.eval o).run Γ.P w = .ok .skip w' ∧ Mem Γ (setB H b (.cells ys)) w' μ ∧ Pres Γ w μ w' μ := by
  obtain ⟨k, hv, hl⟩ := rep_ptr hx
  have hok := hm.blk b _ _ hb hl
  · obtain ⟨cells, e, h1, h2, h3, h4⟩ := hok
    obtain ⟨h5, h6⟩ := pw_cellsN hy hc
    obtain ⟨h7, h8⟩ := (get_pw h2 h3 h4).splice h5 hs
    have hcl : (a.eval y).cells.toList.length = ti.sz := by simpa using h6
    rw [hcl] at h7 h8
    simp only [Array.length_toList] at h8
    have hrun := run_storeAny (P := Γ.P) (w := w) (k := k) (q := q) (hT t ti hti) h6
      (fun j hj => by rw [cell_of h1 (q + j) (by omega)]; rfl) (fun j hj => by simp [World.frozen?, h1])
      (fun z hz => by
        obtain ⟨i, hi⟩ := List.getElem?_of_mem hz
        have hlt : i < c.length := by have := (List.getElem?_eq_some_iff.1 hi).1; rw [h5.1]; exact this
        obtain ⟨v', e1, e2⟩ := h5.2 i c[i] (by simp)
        rw [hi] at e1; cases e1; exact e2.2)
    refine ⟨_, by unfold execOp; simp only [ho, hv, Sem.run_bind, hrun, Result.andThen_ok, Sem.run_pure]; rfl, ?_⟩
    obtain ⟨r1, r2, r3, r4⟩ := setCells_rest k (a.eval y).cells.toList q w
    refine hm.write hl rfl r1 (fun k' hk' => setCells_other k _ q w k' hk') r2 r3 r4 (fun _ _ => ⟨_, rfl⟩) (fun hp => ?_)
    obtain ⟨c', e1, e2⟩ := setCells_heap k (a.eval y).cells.toList q w cells e h1 (by rw [hcl]; exact h8)
    rw [hcl] at e2
    have h9 : PW (Rep1 Γ (w.setCells k q (a.eval y).cells.toList) μ) ys c'.toList := by
      rw [e2]
      exact h7.mono (fun _ _ ⟨r1, r2⟩ => ⟨hp.rep r1, r2⟩)
    obtain ⟨g1, g2, g3⟩ := pw_get h9
    exact ⟨c', e, e1, g1, g2, g3⟩

/-! ### An append -/
/-- The rows of values that an append takes. -/
structure Src (Γ : Ctx) (w : World) (μ : List Plc) (n : Nat) (ys : List (List F)) (v : Value) (news : List Value) : Prop where
  len : news.length = ys.length * n
  rows : ∀ r ∈ ys, r.length = n
  rep : ∀ (i : Nat) (f : F), ys.flatten[i]? = some f → ∃ u, news[i]? = some u ∧ RepFr Γ w μ f u
  one : ∀ u ∈ news, u.oneCell' = true
  val : (∃ ad c, v = .slice (some ad) ys.length c ∧ ∀ (j : Nat) (u : Value), news[j]? = some u → w.cell? (ad.add j) = some u) ∨ (ys = [] ∧ ∃ c, v = .slice none 0 c)

theorem flat_div {α : Type} {n : Nat} (hn : 0 < n) : ∀ (ls : List (List α)) (q : Nat) (x : α), (∀ r ∈ ls, r.length = n) → ls.flatten[q]? = some x → ∃ r, ls[q / n]? = some r ∧ r[q % n]? = some x
  | [], q, x, _, h => by simp at h
  | l :: ls, q, x, hl, h => by
    have hl0 := hl l (by simp)
    rw [List.flatten_cons] at h
    by_cases hq : q < n
    · rw [List.getElem?_append_left (by omega)] at h
      exact ⟨l, by rw [Nat.div_eq_of_lt hq]; rfl, by rw [Nat.mod_eq_of_lt hq]; exact h⟩
    · rw [List.getElem?_append_right (by omega), hl0] at h
      obtain ⟨r, h1, h2⟩ := flat_div hn ls (q - n) x (fun r hr => hl r (by simp [hr])) h
      have e1 : q / n = (q - n) / n + 1 := by rw [Nat.div_eq_sub_div hn (by omega)]
      have e2 : q % n = (q - n) % n := by rw [Nat.mod_eq_sub_mod (by omega)]
      exact ⟨r, by rw [e1]; simpa using h1, by rw [e2]; exact h2⟩

theorem flat_get' {α : Type} {sz : Nat} : ∀ (ls : List (List α)) (i j : Nat) (l : List α), (∀ x ∈ ls, x.length = sz) → ls[i]? = some l → j < sz → ls.flatten[i * sz + j]? = l[j]?
  | [], i, j, l, _, h, _ => by simp at h
  | x :: ls, i, j, l, hs, h, hj => by
    have hx : x.length = sz := hs x (by simp)
    cases i with
    | zero =>
      simp at h; subst h
      rw [List.flatten_cons, Nat.zero_mul, Nat.zero_add, List.getElem?_append_left (by omega)]
    | succ i =>
      rw [List.flatten_cons, List.getElem?_append_right (by rw [hx, Nat.succ_mul]; omega), hx]
      have e : (i + 1) * sz + j - sz = i * sz + j := by rw [Nat.succ_mul]; omega
      rw [e]
      exact flat_get' ls i j l (fun y hy => hs y (by simp [hy])) (by simpa using h) hj

theorem flat_length {α : Type} {sz : Nat} (ls : List (List α)) (hs : ∀ x ∈ ls, x.length = sz) : ls.flatten.length = ls.length * sz := by
  induction ls with
  | nil => simp
  | cons l ls ih => rw [List.flatten_cons, List.length_append, ih (fun x hx => hs x (by simp [hx])), hs l (by simp), List.length_cons, Nat.succ_mul, Nat.add_comm]

theorem src_of0 (hm : Mem Γ H w μ) {n : Nat} (hn : 0 < n) {x : V} {v : Value} {ys : List (List F)} (hne : ∀ b lo k, x ≠ .bv b lo k) (h : Rep Γ w μ x v) (hy : rowsOf n x H = some ys) : ∃ news, Src Γ w μ n ys v news := by
  unfold rowsOf at hy
  split at hy
  · rename_i m nb es
    split at hy
    · rename_i hmn
      cases hy
      have := Nat.eq_of_beq_eq_true hmn
      subst this
      cases h with
      | fr f v h =>
        cases h with
        | nil m nb ad c =>
          refine ⟨[], by simp, by simp, by simp, by simp, ?_⟩
          cases ad with
          | none => exact .inr ⟨rfl, c, rfl⟩
          | some ad => exact .inl ⟨ad, c, rfl, by simp⟩
        | sl m nb es k q c cv hk hcl hb1 hl hc hr =>
          have hrows : ∀ r ∈ ys, r.length = m := fun r hr => by obtain ⟨i, hi⟩ := List.getElem?_of_mem hr; exact hl i r hi
          let ls : List (List Value) := (List.range ys.length).map fun i => (List.range m).map (cv i)
          have hls : ∀ l ∈ ls, l.length = m := by intro l hl'; simp only [ls, List.mem_map] at hl'; obtain ⟨i, _, rfl⟩ := hl'; simp
          have hget : ∀ i j, i < ys.length → j < m → ls.flatten[i * m + j]? = some (cv i j) := fun i j hi hj => by
            rw [flat_get' ls i j ((List.range m).map (cv i)) hls (by simp [ls, hi]) hj]; simp [hj]
          have hel : ∀ i j, i < ys.length → j < m → ∃ e f, ys[i]? = some e ∧ e[j]? = some f := fun i j hi hj => by
            refine ⟨ys[i], (ys[i])[j]'(by rw [hrows _ (List.getElem_mem hi)]; exact hj), by simp, by simp⟩
          have hinv : ∀ (p : Nat) (u : Value), ls.flatten[p]? = some u → p / m < ys.length ∧ u = cv (p / m) (p % m) ∧ p = p / m * m + p % m := fun p u hp => by
            have hlt := (List.getElem?_eq_some_iff.1 hp).1
            rw [flat_length ls hls] at hlt
            have h1 : p / m < ys.length := by rw [Nat.div_lt_iff_lt_mul hn]; simpa [ls] using hlt
            have h2 : p = p / m * m + p % m := by rw [Nat.mul_comm]; exact (Nat.div_add_mod p m).symm
            rw [h2, hget _ _ h1 (Nat.mod_lt _ hn)] at hp
            cases hp
            exact ⟨h1, rfl, h2⟩
          refine ⟨ls.flatten, by rw [flat_length ls hls]; simp [ls], hrows, ?_, ?_, .inl ⟨⟨k, q, none⟩, c, rfl, ?_⟩⟩
          · intro p f hp
            obtain ⟨r, h1, h2⟩ := flat_div hn ys p f hrows hp
            have hi := (List.getElem?_eq_some_iff.1 h1).1
            refine ⟨cv (p / m) (p % m), ?_, hr _ _ _ _ h1 h2⟩
            have := hget (p / m) (p % m) hi (Nat.mod_lt _ hn)
            rw [Nat.mul_comm, Nat.div_add_mod] at this
            exact this
          · intro u hu
            obtain ⟨p, hp⟩ := List.getElem?_of_mem hu
            obtain ⟨h1, rfl, h3⟩ := hinv p u hp
            obtain ⟨e, f, e1, e2⟩ := hel _ _ h1 (Nat.mod_lt p hn)
            exact (hr _ _ _ _ e1 e2).one
          · intro p u hp
            obtain ⟨h1, rfl, h3⟩ := hinv p u hp
            obtain ⟨e, f, e1, e2⟩ := hel _ _ h1 (Nat.mod_lt p hn)
            rw [Addr.add_mid, ← hc _ _ _ _ e1 e2, Nat.add_assoc, ← h3]
    · cases hy
  · cases hy
    rw [rep_sc h]
    exact ⟨[], by simp, by simp, by simp, by simp, .inr ⟨rfl, 0, rfl⟩⟩
  · rename_i b
    split at hy
    · rename_i e m nb es hb
      split at hy
      · rename_i hmn
        cases hy
        have := Nat.eq_of_beq_eq_true hmn
        subst this
        rw [nth_eq] at hb
        cases h with
        | buf b q c ad hl =>
          obtain ⟨h1, _, h2, vs, h3, h4⟩ := hm.blk _ _ _ hb hl
          subst h1
          have hfl := flat_length ys h2
          have hrep : ∀ (i : Nat) (f : F), ys.flatten[i]? = some f → ∃ u, vs[i]? = some u ∧ RepFr Γ w μ f u := fun i f hf => by
            have hi : i < vs.length := by have := (List.getElem?_eq_some_iff.1 hf).1; rw [h3.1]; omega
            exact ⟨vs[i], by simp, by have := h4 i f hf; simpa [List.getD, hi] using this⟩
          refine ⟨vs, h3.1, h2, hrep, ?_, ?_⟩
          · intro u hu
            obtain ⟨p, hp⟩ := List.getElem?_of_mem hu
            have hlt := (List.getElem?_eq_some_iff.1 hp).1
            obtain ⟨u', e1, e2⟩ := hrep p (ys.flatten[p]'(by rw [hfl, ← h3.1]; exact hlt)) (by simp)
            rw [hp] at e1; cases e1; exact e2.one
          · rcases h3.2 with ⟨hv, h0⟩ | ⟨g, cap, cur, hv, _⟩
            · exact .inr ⟨List.eq_nil_of_length_eq_zero h0, 0, by rw [hv]⟩
            · refine .inl ⟨⟨g, 0, none⟩, cap, hv, ?_⟩
              exact World.ownsRow.cells h3 (by rw [hv]; rfl)
        | bdead b v hl h1 => exact (hm.blk _ _ _ hb hl).elim
      · cases hy
    · cases hy
  · exact absurd rfl (hne _ _ _)
  · cases hy

theorem flat_drop {α : Type} {sz : Nat} : ∀ (ls : List (List α)) (i : Nat), (∀ x ∈ ls, x.length = sz) → (ls.drop i).flatten = ls.flatten.drop (i * sz)
  | [], i, _ => by simp
  | l :: ls, 0, _ => by simp
  | l :: ls, i + 1, h => by
    have hl := h l (by simp)
    rw [List.drop_succ_cons, List.flatten_cons, flat_drop ls i (fun x hx => h x (by simp [hx]))]
    have : (i + 1) * sz = l.length + i * sz := by rw [hl, Nat.succ_mul]; omega
    rw [this, List.drop_length_add_append]

theorem src_of (hm : Mem Γ H w μ) {n : Nat} (hn : 0 < n) {x : V} {v : Value} {ys : List (List F)} (h : Rep Γ w μ x v) (hy : rowsOf n x H = some ys) : ∃ news, Src Γ w μ n ys v news := by
  by_cases hne : ∀ b lo k, x ≠ .bv b lo k
  · exact src_of0 hm hn hne h hy
  · obtain ⟨b, lo, k, rfl⟩ : ∃ b lo k, x = .bv b lo k := by
      apply Classical.byContradiction
      intro hc
      exact hne fun b lo k e => hc ⟨b, lo, k, e⟩
    simp only [rowsOf] at hy
    split at hy
    · rename_i e m nb es hk hb
      split at hy
      · rename_i hmn hlo
        cases hy
        have e1 := Nat.eq_of_beq_eq_true hk
        have e2 := Nat.eq_of_beq_eq_true hmn
        subst e1
        subst e2
        have hlo' : lo ≤ es.length := Nat.le_of_ble_eq_true hlo
        cases h with
        | bvd b lo n v hl h1 => rw [nth_eq] at hb; exact (hm.blk _ _ _ hb hl).elim
        | bv b lo n q c ad hl hle =>
          have hb0 := hb
          rw [nth_eq] at hb0
          obtain ⟨g1, _, _, vs0, g3, _⟩ := hm.blk _ _ _ hb0 hl
          have hqc : q ≤ c := by
            rcases g3.2 with ⟨hnil, h0⟩ | ⟨g, cap0, cur, hvv, hbg, hg, hcap, hcm, hcs, htake⟩
            · rw [h0]; exact Nat.zero_le _
            · cases ad with
              | none => simp [hdrV] at hvv
              | some g' =>
                simp only [hdrV, Option.map_some, Value.slice.injEq] at hvv
                rw [hvv.2.2]; exact hcap
          obtain ⟨news, S⟩ := src_of0 hm hn (x := .buf b) (v := hdrV ad q c) (ys := es) (fun _ _ _ h => by cases h) (.buf _ _ _ _ hl) (by simp only [rowsOf, hb, Nat.beq_refl])
          rw [dropL_eq]
          refine ⟨news.drop (lo * m), ?_, fun r hr => S.rows r (List.mem_of_mem_drop hr), fun i f hf => ?_, fun u hu => S.one u (List.mem_of_mem_drop hu), ?_⟩
          · rw [List.length_drop, S.len, List.length_drop, Nat.sub_mul]
          · rw [flat_drop es lo S.rows, List.getElem?_drop] at hf
            obtain ⟨u, e3, e4⟩ := S.rep _ f hf
            exact ⟨u, by rw [List.getElem?_drop]; exact e3, e4⟩
          · rcases S.val with ⟨a, c', e3, e4⟩ | ⟨e3, c', e4⟩
            · cases ad with
              | none => simp [hdrV] at e3
              | some g =>
                simp only [hdrV, Option.map_some, Value.slice.injEq, Option.some.injEq] at e3
                obtain ⟨rfl, _, _⟩ := e3
                left
                by_cases hc : c = lo
                · refine ⟨⟨g, 0, none⟩, c - lo, by rw [if_pos hc, List.length_drop, g1]; rfl, fun j u hj => ?_⟩
                  have h9 : (news.drop (lo * m)).length = 0 := by
                    rw [List.length_drop, S.len, ← g1]
                    have : q = lo := by omega
                    rw [this]; omega
                  rw [List.eq_nil_of_length_eq_zero h9] at hj
                  cases hj
                · refine ⟨(⟨g, 0, none⟩ : Addr).add (lo * m), c - lo, by rw [if_neg hc, List.length_drop, g1]; rfl, fun j u hj => ?_⟩
                  rw [List.getElem?_drop] at hj
                  have := e4 _ u hj
                  rw [Addr.add_lit] at this ⊢
                  rw [Addr.add_lit, Nat.add_assoc]
                  exact this
            · cases ad with
              | some g => simp [hdrV] at e4
              | none =>
                right
                subst e3
                refine ⟨by simp, c - lo, ?_⟩
                have : q - lo = 0 := by rw [g1]; simp
                rw [this]
                split <;> rfl
      · cases hy
    · cases hy

end Go.AW

/- AW, part 11: blocks that come, and the append itself. -/
namespace Go.AW
open Go Go.RowKit
variable {Γ : Ctx} {H : Heap} {w : World} {μ : List Plc} {a : Act} {o : Oper}

/-- A block more. -/
theorem Mem.push {w' : World} {nb : Blk} {l : Plc} (hm : Mem Γ H w μ) (hs : w.heap.size ≤ w'.heap.size) (hb : ∀ k, k < w.heap.size → w'.heap[k]? = w.heap[k]?) (h1 : w'.os = w.os) (h2 : w'.tape = w.tape) (h3 : w'.output = w.output)
    (hl : ∀ k, l.block = some k → w.heap.size ≤ k ∧ k < w'.heap.size) (hx : Pres Γ w μ w' (μ ++ [l]) → BlkOk Γ w' (μ ++ [l]) nb l) : Mem Γ (H ++ [nb]) w' (μ ++ [l]) ∧ Pres Γ w μ w' (μ ++ [l]) := by
  have hget : ∀ i l', (μ ++ [l])[i]? = some l' → μ[i]? = some l' ∨ (i = μ.length ∧ l' = l) := by
    intro i l' h
    by_cases hi : i < μ.length
    · rw [List.getElem?_append_left hi] at h; exact .inl h
    · rw [List.getElem?_append_right (by omega)] at h
      by_cases h0 : i - μ.length = 0
      · rw [h0] at h; simp at h; exact .inr ⟨by omega, h.symm⟩
      · rw [List.getElem?_eq_none (by simp; omega)] at h; cases h
  have hold : ∀ i l', μ[i]? = some l' → (μ ++ [l])[i]? = some l' := fun i l' h => by rw [List.getElem?_append_left (List.getElem?_eq_some_iff.1 h).1]; exact h
  have hown : ∀ k, owned (μ ++ [l]) k → owned μ k ∨ l.block = some k := by
    rintro k ⟨i, l', h, hk⟩
    rcases hget i l' h with h | ⟨_, rfl⟩
    · exact .inl ⟨i, l', h, hk⟩
    · exact .inr hk
  have hp : Pres Γ w μ w' (μ ++ [l]) := ⟨fun k ⟨i1, i2, i3⟩ => ⟨i1, Nat.lt_of_lt_of_le i2 hs, fun h => by
    rcases hown k h with h | h
    · exact i3 h
    · have := (hl k h).1; omega⟩, fun k hk => hb k hk.2.1, fun i l' h => .inl (hold i l' h)⟩
  refine ⟨⟨by simp [hm.len], fun k hk => ?_, fun k hk => ?_, fun i j l1 l2 k hi hj hik hjk => ?_, fun i b l' hi hl' => ?_, ?_, hm.i0, fun i k hi => ?_⟩, hp⟩
  · rcases hown k hk with h | h
    · exact Nat.lt_of_lt_of_le (hm.below k h) hs
    · exact (hl k h).2
  · rcases hown k hk with h | h
    · exact hm.own0 k h
    · exact .inr (Nat.le_trans hm.ext.size (hl k h).1)
  · rcases hget i l1 hi with hi2 | ⟨ei, rfl⟩ <;> rcases hget j l2 hj with hj2 | ⟨ej, rfl⟩
    · exact hm.inj i j l1 l2 k hi2 hj2 hik hjk
    · have := hm.below k ⟨i, l1, hi2, hik⟩; have := (hl k hjk).1; omega
    · have := hm.below k ⟨j, l2, hj2, hjk⟩; have := (hl k hik).1; omega
    · rw [ei, ej]
  · rcases hget i l' hl' with h | ⟨rfl, rfl⟩
    · have hi' : i < H.length := by rw [← hm.len]; exact (List.getElem?_eq_some_iff.1 h).1
      rw [List.getElem?_append_left hi'] at hi
      exact (hm.blk i b l' hi h).pres hp (fun k hk => hb k (hm.below k ⟨i, l', h, hk⟩))
    · rw [hm.len, List.getElem?_append_right (Nat.le_refl _)] at hi
      simp at hi; subst hi
      exact hx hp
  · exact ⟨h1.trans hm.ext.os, h2.trans hm.ext.tape, h3.trans hm.ext.output, Nat.le_trans hm.ext.size hs, fun k hk ho => (hb k (Nat.lt_of_lt_of_le hk hm.ext.size)).trans (hm.ext.block k hk ho)⟩
  · obtain ⟨h4, ys, h5⟩ := hm.pin i k hi
    exact ⟨hold i _ h4, ys, by rw [List.getElem?_append_left (List.getElem?_eq_some_iff.1 h5).1]; exact h5⟩

/-- A free number is given a block. -/
theorem Mem.fill {w' : World} {nb : Blk} {l : Plc} {s : Nat} (hm : Mem Γ H w μ) (hf : μ[s]? = some .free) (hs : w.heap.size ≤ w'.heap.size) (hb : ∀ k, k < w.heap.size → w'.heap[k]? = w.heap[k]?) (h1 : w'.os = w.os) (h2 : w'.tape = w.tape) (h3 : w'.output = w.output)
    (hl : ∀ k, l.block = some k → w.heap.size ≤ k ∧ k < w'.heap.size) (hx : Pres Γ w μ w' (μ.set s l) → BlkOk Γ w' (μ.set s l) nb l) : Mem Γ (setB H s nb) w' (μ.set s l) ∧ Pres Γ w μ w' (μ.set s l) := by
  have hlt : s < μ.length := (List.getElem?_eq_some_iff.1 hf).1
  have hget : ∀ i l', (μ.set s l)[i]? = some l' → (i ≠ s ∧ μ[i]? = some l') ∨ (i = s ∧ l' = l) := by
    intro i l' h
    by_cases hi : i = s
    · subst hi; rw [List.getElem?_set_self hlt] at h; cases h; exact .inr ⟨rfl, rfl⟩
    · rw [List.getElem?_set_ne (Ne.symm hi)] at h; exact .inl ⟨hi, h⟩
  have hold : ∀ i l', i ≠ s → μ[i]? = some l' → (μ.set s l)[i]? = some l' := fun i l' hi h => by rw [List.getElem?_set_ne (Ne.symm hi)]; exact h
  have hown : ∀ k, owned (μ.set s l) k → owned μ k ∨ l.block = some k := by
    rintro k ⟨i, l', h, hk⟩
    rcases hget i l' h with ⟨_, h⟩ | ⟨_, rfl⟩
    · exact .inl ⟨i, l', h, hk⟩
    · exact .inr hk
  have hp : Pres Γ w μ w' (μ.set s l) := ⟨fun k ⟨i1, i2, i3⟩ => ⟨i1, Nat.lt_of_lt_of_le i2 hs, fun h => by
    rcases hown k h with h | h
    · exact i3 h
    · have := (hl k h).1; omega⟩, fun k hk => hb k hk.2.1, fun i l' h => by
      by_cases hi : i = s
      · subst hi; rw [hf] at h; cases h; exact .inr (.inr rfl)
      · exact .inl (hold i l' hi h)⟩
  refine ⟨⟨by rw [setB_eq]; simp [hm.len], fun k hk => ?_, fun k hk => ?_, fun i j l1 l2 k hi hj hik hjk => ?_, fun i b l' hi hl' => ?_, ?_, hm.i0, fun i k hi => ?_⟩, hp⟩
  · rcases hown k hk with h | h
    · exact Nat.lt_of_lt_of_le (hm.below k h) hs
    · exact (hl k h).2
  · rcases hown k hk with h | h
    · exact hm.own0 k h
    · exact .inr (Nat.le_trans hm.ext.size (hl k h).1)
  · rcases hget i l1 hi with ⟨ni, hi2⟩ | ⟨ei, rfl⟩ <;> rcases hget j l2 hj with ⟨nj, hj2⟩ | ⟨ej, rfl⟩
    · exact hm.inj i j l1 l2 k hi2 hj2 hik hjk
    · have := hm.below k ⟨i, l1, hi2, hik⟩; have := (hl k hjk).1; omega
    · have := hm.below k ⟨j, l2, hj2, hjk⟩; have := (hl k hik).1; omega
    · rw [ei, ej]
  · rw [setB_eq] at hi
    rcases hget i l' hl' with ⟨ni, h⟩ | ⟨rfl, rfl⟩
    · rw [List.getElem?_set_ne (Ne.symm ni)] at hi
      exact (hm.blk i b l' hi h).pres hp (fun k hk => hb k (hm.below k ⟨i, l', h, hk⟩))
    · rw [List.getElem?_set_self (by rw [← hm.len]; exact hlt)] at hi
      cases hi
      exact hx hp
  · exact ⟨h1.trans hm.ext.os, h2.trans hm.ext.tape, h3.trans hm.ext.output, Nat.le_trans hm.ext.size hs, fun k hk ho => (hb k (Nat.lt_of_lt_of_le hk hm.ext.size)).trans (hm.ext.block k hk ho)⟩
  · obtain ⟨h4, ys, h5⟩ := hm.pin i k hi
    have hne : i ≠ s := fun e => by rw [e, hf] at h4; cases h4
    exact ⟨hold i _ hne h4, ys, by rw [setB_eq, List.getElem?_set_ne (Ne.symm hne)]; exact h5⟩

theorem Mem.newAt {xs : List V} {c : Array Value} {e : TypeId} {s : Nat} (hm : Mem Γ H w μ) (hf : μ[s]? = some .free) (h1 : c.size = xs.length) (h2 : ∀ v ∈ c.toList, v.oneCell' = true) (h3 : ∀ (i : Nat) (x : V), xs[i]? = some x → Rep Γ w μ x (c.getD i undef)) :
    ∃ l, Mem Γ (setB H s (.cells xs)) (w.alloc (.cells c e)) (μ.set s l) ∧ Pres Γ w μ (w.alloc (.cells c e)) (μ.set s l) ∧ Rep Γ (w.alloc (.cells c e)) (μ.set s l) (.ptr s 0) (.pointer (some ⟨w.heap.size, 0, none⟩)) := by
  obtain ⟨h4, h5⟩ := hm.fill (w' := w.alloc (.cells c e)) (nb := .cells xs) (l := .at_ w.heap.size) hf (by simp) (fun k hk => Below.heap_alloc w _ k hk) rfl rfl rfl (fun k hk => by cases hk; simp)
    (fun hp => ⟨c, e, heap_new w _, h1, h2, fun i x hx => hp.rep (h3 i x hx)⟩)
  exact ⟨_, h4, h5, .ptr _ _ _ (List.getElem?_set_self (List.getElem?_eq_some_iff.1 hf).1)⟩

/-- A buffer that has grown, in place or into a new block: it has another number now; the elder handle is let go. -/
theorem Mem.regrow {w' : World} {b m c s : Nat} {ad : Option Nat} {l : Plc} {nb : Blk} (hm : Mem Γ H w μ) (hf : μ[s]? = some .free) (hl : μ[b]? = some (.hdr ad m c)) (hs : w.heap.size ≤ w'.heap.size) (hb : ∀ k, k < w.heap.size → ad ≠ some k → w'.heap[k]? = w.heap[k]?)
    (h1 : w'.os = w.os) (h2 : w'.tape = w.tape) (h3 : w'.output = w.output) (hk : ∀ k, l.block = some k → ad = some k ∨ (w.heap.size ≤ k ∧ k < w'.heap.size))
    (hx : Pres Γ w μ w' ((μ.set b .none).set s l) → BlkOk Γ w' ((μ.set b .none).set s l) nb l) :
    Mem Γ (setB (setB H b .dead) s nb) w' ((μ.set b .none).set s l) ∧ Pres Γ w μ w' ((μ.set b .none).set s l) := by
  have hlt : b < μ.length := (List.getElem?_eq_some_iff.1 hl).1
  have hlts : s < μ.length := (List.getElem?_eq_some_iff.1 hf).1
  have hsb : s ≠ b := fun e => by subst e; rw [hf] at hl; cases hl
  have hother : ∀ i l', i ≠ b → i ≠ s → μ[i]? = some l' → ((μ.set b .none).set s l)[i]? = some l' := fun i l' hi hi2 h => by
    rw [List.getElem?_set_ne (Ne.symm hi2), List.getElem?_set_ne (Ne.symm hi)]; exact h
  have hb0 : ((μ.set b .none).set s l)[b]? = some .none := by
    rw [List.getElem?_set_ne hsb, List.getElem?_set_self hlt]
  have hs0 : ((μ.set b .none).set s l)[s]? = some l := List.getElem?_set_self (by simpa using hlts)
  have hget : ∀ i l', ((μ.set b .none).set s l)[i]? = some l' → (i ≠ b ∧ i ≠ s ∧ μ[i]? = some l') ∨ (i = b ∧ l' = .none) ∨ (i = s ∧ l' = l) := fun i l' h => by
    by_cases hi : i = s
    · subst hi; rw [hs0] at h; cases h; exact .inr (.inr ⟨rfl, rfl⟩)
    · by_cases hib : i = b
      · subst hib; rw [hb0] at h; cases h; exact .inr (.inl ⟨rfl, rfl⟩)
      · rw [List.getElem?_set_ne (Ne.symm hi), List.getElem?_set_ne (Ne.symm hib)] at h; exact .inl ⟨hib, hi, h⟩
  have hadown : ∀ k, ad = some k → owned μ k := fun k h => ⟨b, _, hl, h⟩
  have hown : ∀ k, owned ((μ.set b .none).set s l) k → owned μ k ∨ (w.heap.size ≤ k ∧ k < w'.heap.size) := by
    rintro k ⟨i, l', h, hk'⟩
    rcases hget i l' h with ⟨_, _, h⟩ | ⟨_, rfl⟩ | ⟨_, rfl⟩
    · exact .inl ⟨i, l', h, hk'⟩
    · cases hk'
    · exact (hk k hk').imp (hadown k) id
  have hp : Pres Γ w μ w' ((μ.set b .none).set s l) := ⟨fun k ⟨i1, i2, i3⟩ => ⟨i1, Nat.lt_of_lt_of_le i2 hs, fun h => by
      rcases hown k h with h | h
      · exact i3 h
      · omega⟩, fun k hk' => hb k hk'.2.1 (fun e => hk'.2.2 (hadown k e)), fun i l' h => by
      by_cases hib : i = b
      · subst hib; rw [hl] at h; cases h; exact .inr (.inl ⟨⟨_, _, _, rfl⟩, hb0⟩)
      · by_cases his : i = s
        · subst his; rw [hf] at h; cases h; exact .inr (.inr rfl)
        · exact .inl (hother i l' hib his h)⟩
  refine ⟨⟨?_, fun k hk' => ?_, fun k hk' => ?_, fun i j l1 l2 k hi hj hik hjk => ?_, fun i bl l' hi hl' => ?_, ?_, hm.i0, fun i k hi => ?_⟩, hp⟩
  · rw [setB_eq, setB_eq]; simp [hm.len]
  · rcases hown k hk' with h | h
    · exact Nat.lt_of_lt_of_le (hm.below k h) hs
    · exact h.2
  · rcases hown k hk' with h | h
    · exact hm.own0 k h
    · exact .inr (Nat.le_trans hm.ext.size h.1)
  · rcases hget i l1 hi with ⟨ni, _, hi2⟩ | ⟨_, rfl⟩ | ⟨ei, rfl⟩
    · rcases hget j l2 hj with ⟨nj, _, hj2⟩ | ⟨_, rfl⟩ | ⟨ej, rfl⟩
      · exact hm.inj i j l1 l2 k hi2 hj2 hik hjk
      · cases hjk
      · rcases hk k hjk with h | h
        · exact absurd (hm.inj i b l1 _ k hi2 hl hik h) ni
        · have := hm.below k ⟨i, l1, hi2, hik⟩; omega
    · cases hik
    · rcases hget j l2 hj with ⟨nj, _, hj2⟩ | ⟨_, rfl⟩ | ⟨ej, rfl⟩
      · rcases hk k hik with h | h
        · exact absurd (hm.inj j b l2 _ k hj2 hl hjk h) nj
        · have := hm.below k ⟨j, l2, hj2, hjk⟩; omega
      · cases hjk
      · rw [ei, ej]
  · rw [setB_eq, setB_eq] at hi
    rcases hget i l' hl' with ⟨ni, nis, h⟩ | ⟨rfl, rfl⟩ | ⟨rfl, rfl⟩
    · rw [List.getElem?_set_ne (Ne.symm nis), List.getElem?_set_ne (Ne.symm ni)] at hi
      exact (hm.blk i bl l' hi h).pres hp (fun k hk' => hb k (hm.below k ⟨i, l', h, hk'⟩) (fun e => ni (hm.inj i b l' _ k h hl hk' e)))
    · rw [List.getElem?_set_ne hsb, List.getElem?_set_self (by rw [← hm.len]; exact hlt)] at hi
      cases hi; trivial
    · rw [List.getElem?_set_self (by simp [← hm.len]; exact hlts)] at hi
      cases hi
      exact hx hp
  · refine ⟨h1.trans hm.ext.os, h2.trans hm.ext.tape, h3.trans hm.ext.output, Nat.le_trans hm.ext.size hs, fun k hk' ho => ?_⟩
    rw [hb k (Nat.lt_of_lt_of_le hk' hm.ext.size) ?_]
    · exact hm.ext.block k hk' ho
    · intro e
      rcases hm.own0 k (hadown k e) with h | h
      · exact ho h
      · omega
  · obtain ⟨h4, ys, h5⟩ := hm.pin i k hi
    have hne : i ≠ s := fun e => by rw [e, hf] at h4; cases h4
    have hne2 : i ≠ b := fun e => by rw [e, hl] at h4; cases h4
    exact ⟨hother i _ hne2 hne h4, ys, by rw [setB_eq, setB_eq, List.getElem?_set_ne (Ne.symm hne), List.getElem?_set_ne (Ne.symm hne2)]; exact h5⟩

/-- A free number more. -/
theorem Mem.pad (hm : Mem Γ H w μ) : Mem Γ (H ++ [.dead]) w (μ ++ [.free]) ∧ Pres Γ w μ w (μ ++ [.free]) :=
  hm.push (w' := w) (nb := .dead) (l := .free) (Nat.le_refl _) (fun _ _ => rfl) rfl rfl rfl (fun k hk => by cases hk) (fun _ => trivial)

/-- The append, told by what becomes of the row: it stays where it is, or lies in a new block. -/
theorem app_run {P : Program} {t ty e : Nat} {ti : TI} (hd : P.underlying t = some (.slice e)) (ht : TiOk P e ti) {base m q : Nat} {ad : Option Nat} {cap : Nat} {vs news : List Value} {v : Value} (hbase : base ≤ w.heap.size)
    (hown : w.ownsRow base e ti.sz (hdrV ad m cap) m vs) (hl : news.length = q * ti.sz) (h1 : ∀ u ∈ news, u.oneCell' = true)
    (hv : (∃ ad c, v = .slice (some ad) q c ∧ ∀ (j : Nat) (u : Value), news[j]? = some u → w.cell? (ad.add j) = some u) ∨ (q = 0 ∧ ∃ c, v = .slice none 0 c))
    (hby0 : 0 < ti.by_) (hfit : (m + q) * ti.by_ ≤ 140737488355328) :
    ∃ ad' cap' w', (Builtin.append_ #[t, t] ty #[hdrV ad m cap, v]).run P w = .ok (hdrV ad' (m + q) cap') w' ∧ w'.ownsRow base e ti.sz (hdrV ad' (m + q) cap') (m + q) (vs ++ news) ∧
      w.heap.size ≤ w'.heap.size ∧ (∀ k, k < w.heap.size → ad ≠ some k → w'.heap[k]? = w.heap[k]?) ∧ w'.os = w.os ∧ w'.tape = w.tape ∧ w'.output = w.output ∧
      ∀ k, ad' = some k → ad = some k ∨ (w.heap.size ≤ k ∧ k < w'.heap.size) := by
  obtain ⟨i, z, hi, hsz', hby, hz, hzs, _, _⟩ := ht.info
  have hfit' : m + q ≤ (m + q) * ti.by_ := Nat.le_mul_of_pos_right _ hby0
  have hml : m + q ≤ maxLen := by unfold maxLen; omega
  have hlen : (vs ++ news).length = (m + q) * ti.sz := by rw [List.length_append, hown.1, hl, Nat.add_mul]
  have hsame0 : q = 0 → news = [] := fun h => List.eq_nil_of_length_eq_zero (by rw [hl, h, Nat.zero_mul])
  rcases hv with ⟨sa, c, rfl, hnews⟩ | ⟨rfl, c, rfl⟩
  · rcases hown.2 with ⟨hnil, rfl⟩ | ⟨g, cap0, cur, hvv, hbg, hg, hnc, hcm, hcs, htake⟩
    · -- nil
      cases ad with
      | some g => simp [hdrV] at hnil
      | none =>
        simp only [hdrV, Option.map_none, Value.slice.injEq, true_and] at hnil
        subst hnil
        have hvs : vs = [] := List.eq_nil_of_length_eq_zero (by simpa using hown.1)
        subst hvs
        by_cases hq : q = 0
        · subst hq
          have := hsame0 rfl; subst this
          refine ⟨none, 0, w, ?_, hown, Nat.le_refl _, fun _ _ _ => rfl, rfl, rfl, rfl, by intro k h; cases h⟩
          simp [hdrV, Builtin.append_, run_underlying hd, sizeOf, typeInfo, hi, Builtin.lenOf, Builtin.firstCells, loadCells, loadCellsFrom]
        · have hr := run_append_nil (P := P) w t ty e i z hd hi hz sa q c news (by rw [hsz']; exact hl) hnews (by omega) (by unfold maxLen at hml; omega) (by rw [hby]; simp only [Nat.zero_add] at hfit hfit'; omega)
          have hcm := grownCap_le_maxLen w q 0 e (by simpa using hml)
          have hge := grownCap_ge w q 0 e
          refine ⟨some w.heap.size, grownCap w q 0 e, _, by simpa [hdrV] using hr, ⟨hlen, .inr ⟨w.heap.size, _, _, by simp [hdrV], hbase, heap_alloc_new w.drew _, by simpa using hge, hcm, ?_, ?_⟩⟩, by simp, fun k hk _ => heap_alloc_old w.drew _ k hk, rfl, rfl, rfl, fun k hk => .inr ?_⟩
          · simp only [Array.size_append, List.size_toArray, size_zeroCells, hzs, hl, ← Nat.add_mul]
            congr 1; omega
          · rw [← hlen]; simp
          · cases hk; simp
    · cases ad with
      | none => simp [hdrV] at hvv
      | some g' =>
        simp only [hdrV, Option.map_some, Value.slice.injEq, Option.some.injEq, Addr.mk.injEq] at hvv
        obtain ⟨⟨rfl, _⟩, _, rfl⟩ := hvv
        by_cases hroom : m + q ≤ cap
        · have hfitc : m * ti.sz + news.length ≤ cur.size := by rw [hl, hcs, ← Nat.add_mul]; exact Nat.mul_le_mul_right _ hroom
          have hr := run_append_room (P := P) w t ty e i hd hi g' m cap cur hg sa q c news (by rw [hsz']; exact hl) hnews h1 hroom (by rw [hsz']; exact hfitc)
          rw [hsz'] at hr
          refine ⟨some g', cap, _, hr, ⟨hlen, .inr ⟨g', cap, _, rfl, hbg, setRow_heap w g' cur _ e _ hg, hroom, hcm, ?_, ?_⟩⟩, by simp [World.setRow], fun k _ hk => setRow_other w g' k _ (fun e => hk (by rw [e])), rfl, rfl, rfl, fun k hk => .inl hk⟩
          · simp only [List.size_toArray, List.length_append, List.length_take, List.length_drop, Array.length_toList]
            omega
          · rw [htake, ← hlen]
            show List.take _ ((vs ++ news) ++ _) = _
            exact List.take_left
        · have holds : ∀ (j : Nat) (u : Value), vs[j]? = some u → w.cell? ((⟨g', 0, none⟩ : Addr).add j) = some u := hown.cells (g := g') rfl
          have hr := run_append_grow (P := P) w t ty e i z hd hi hz ⟨g', 0, none⟩ m cap vs (by rw [hsz']; exact hown.1) holds sa q c news (by rw [hsz']; exact hl) hnews (by omega) (by unfold maxLen at hml; omega) (growslice_fits (by omega) (by rw [hby]; omega))
          have hcm' := grownCap_le_maxLen w (m + q) cap e hml
          have hge := grownCap_ge w (m + q) cap e
          refine ⟨some w.heap.size, grownCap w (m + q) cap e, _, hr, ⟨hlen, .inr ⟨w.heap.size, _, _, rfl, hbase, heap_alloc_new w.drew _, hge, hcm', ?_, ?_⟩⟩, by simp, fun k hk _ => heap_alloc_old w.drew _ k hk, rfl, rfl, rfl, fun k hk => .inr ?_⟩
          · simp only [Array.size_append, List.size_toArray, size_zeroCells, hzs, hown.1, hl, ← Nat.add_mul]
            congr 1; omega
          · simp only [Array.toList_append, List.append_assoc]
            rw [← List.append_assoc, ← hlen]
            exact List.take_left
          · cases hk; simp
  · have := hsame0 rfl; subst this
    refine ⟨ad, cap, w, ?_, by simpa using hown, Nat.le_refl _, fun _ _ _ => rfl, rfl, rfl, rfl, fun k h => .inl h⟩
    rcases hown.2 with ⟨hnil, rfl⟩ | ⟨g, cap0, cur, hvv, _, _, hnc, _⟩
    · have hnil' : hdrV ad 0 cap = .slice none 0 0 := hnil
      show (Builtin.append_ #[t, t] ty #[hdrV ad 0 cap, .slice none 0 c]).run P w = .ok (hdrV ad 0 cap) w
      rw [hnil']
      simp [Builtin.append_, run_underlying hd, sizeOf, typeInfo, hi, Builtin.lenOf, Builtin.firstCells]
    · rw [hvv]
      simp [Builtin.append_, run_underlying hd, sizeOf, typeInfo, hi, Builtin.lenOf, Builtin.firstCells, hnc, storeCells, hvv]

end Go.AW

/- AW, part 12: what calls come to; the evaluator's word on one operation, in a state. -/
namespace Go.AW
open Go Go.RowKit
variable {Γ : Ctx} {H : Heap} {w : World} {μ : List Plc} {a : Act} {o : Oper}

/-- What a call comes to: a function's body runs, or the model answers for it at once. -/
def Invokes (P : Program) (g : Nat) (cargs : Array Value) (w : World) (R : Value → World → Prop) : Prop :=
  ((callFunc g cargs).run P w = .ok (.enter g cargs) w ∧ Calls P g cargs w fun e w' => ∃ v, e = .returned v ∧ R v w') ∨
  (∃ v w', (callFunc g cargs).run P w = .ok (.value v) w' ∧ R v w')

theorem Invokes.mono {P : Program} {g : Nat} {cargs : Array Value} {R R' : Value → World → Prop} (h : Invokes P g cargs w R) (hr : ∀ v w', R v w' → R' v w') : Invokes P g cargs w R' := by
  rcases h with ⟨h1, h2⟩ | ⟨v, w', h1, h2⟩
  · exact .inl ⟨h1, h2.mono fun e w' ⟨v, h3, h4⟩ => ⟨v, h3, hr _ _ h4⟩⟩
  · exact .inr ⟨v, w', h1, hr _ _ h2⟩

/-- A call out of a state whose heap is H: what it answers, and what the state is then. -/
structure ACall (P : Program) (g : Nat) (args : List V) (E : Env) (H : Heap) (K : V → Env → Heap → Prop) : Prop where
  go : ∀ Γ w μ cargs tmps, Γ.P = P → Mem Γ H w μ → EnvOk Γ w μ E tmps → RepArgs Γ w μ args cargs → Invokes P g cargs w fun cv w' => ∃ v E' H' μ', K v E' H' ∧ Mem Γ H' w' μ' ∧ EnvOk Γ w' μ' E' tmps ∧ Rep Γ w' μ' v cv

/-- An operation that the evaluator does not know: what it comes to. -/
structure AOp (P : Program) (op : Op) (E : Env) (H : Heap) (K : V → Heap → Prop) : Prop where
  go : ∀ (Γ : Ctx) (w : World) (μ : List Plc) (a : Act) (o : Oper) (next : Act → World → Prop) (Q : Exit → Act → World → Prop), Γ.P = P → o.op = op → Mem Γ H w μ → (∀ x ∈ op.operands.toList, Rep Γ w μ (opd E x) (a.eval x)) →
    (∀ w' μ' cv v H', K v H' → Mem Γ H' w' μ' → Pres Γ w μ w' μ' → Rep Γ w' μ' v cv → next (a.put o.dst cv) w') → o.wp P a w next Q

/-- A call that answers v and leaves every heap as it was. -/
structure PCall (P : Program) (g : Nat) (args : List V) (v : V) : Prop where
  go : ∀ Γ H w μ cargs, Γ.P = P → Mem Γ H w μ → RepArgs Γ w μ args cargs → Invokes P g cargs w fun cv w' => Mem Γ H w' μ ∧ Pres Γ w μ w' μ ∧ Rep Γ w' μ v cv

theorem EnvOk.pres {w' : World} {μ' : List Plc} {E : Env} {tmps : Array Value} (h : EnvOk Γ w μ E tmps) (hp : Pres Γ w μ w' μ') : EnvOk Γ w' μ' E tmps := fun t => hp.rep (h t)

theorem acall {P : Program} {g : Nat} {args : List V} {E : Env} {H : Heap} {K : V → Env → Heap → Prop} {v : V} (h : PCall P g args v) (k : K v E H) : ACall P g args E H K :=
  ⟨fun Γ w μ cargs _ hP hm hE hr => (h.go Γ H w μ cargs hP hm hr).mono fun _ _ ⟨h1, h2, h3⟩ => ⟨v, E, H, μ, k, h1, hE.pres h2, h3⟩⟩

/-! ### Effects -/
inductive Eff where
  | none
  | set (b : Nat) (x : Blk)
  | new (x : Blk)
  | app (b : Nat) (x : Blk)

def Eff.news : Eff → Bool
  | .new _ => true
  | .app _ _ => true
  | _ => false

noncomputable def Eff.run (H : Heap) : Eff → Heap
  | .none => H
  | .set b x => setB H b x
  | .new x => H ++ [x]
  | .app b x => setB H b .dead ++ [x]

/-- The same where a free number stands ready. -/
noncomputable def Eff.at_ (s : Nat) (H : Heap) : Eff → Heap
  | .none => H
  | .set b x => setB H b x
  | .new x => setB H s x
  | .app b x => setB (setB H b .dead) s x

inductive SX (T : TTab) (E : Env) (H : Heap) : Op → V → Eff → Prop where
  | store {t : TypeId} {x y : Operand} {b q : Nat} {xs c ys : List V} {ti : TI} (h1 : opd E x = .ptr b q) (h2 : H[b]? = some (.cells xs)) (h3 : T.get t = some ti) (h4 : cellsN ti.sz (opd E y) = some c) (h5 : splice q c xs = some ys) :
      SX T E H (.store t x y) (.tup []) (.set b (.cells ys))
  | app {c : Call} {x y : Operand} {t e b z1 z2 : Nat} {z3 : List F} {ti : TI} {ys es : List (List F)} (hc : c = ⟨.builtin .append, #[x, y], #[t, t]⟩) (ht : T.get t = some ⟨.sli e, z1, z2, z3⟩) (hti : T.get e = some ti) (hs : 0 < ti.sz) (hb : 0 < ti.by_)
      (hy : rowsOf ti.sz (opd E y) H = some ys) (hx : opd E x = .buf b) (hH : H[b]? = some (.buf e ti.sz ti.by_ es)) (hf : (es.length + ys.length) * ti.by_ ≤ 140737488355328) :
      SX T E H (.call c) (.buf H.length) (.app b (.buf e ti.sz ti.by_ (es ++ ys)))
  | app0 {c : Call} {x y : Operand} {t e z1 z2 : Nat} {z3 : List F} {ti : TI} {ys : List (List F)} (hc : c = ⟨.builtin .append, #[x, y], #[t, t]⟩) (ht : T.get t = some ⟨.sli e, z1, z2, z3⟩) (hti : T.get e = some ti) (hs : 0 < ti.sz) (hb : 0 < ti.by_)
      (hy : rowsOf ti.sz (opd E y) H = some ys) (hx : opd E x = .fr (.sc (.slice none 0 0))) (hf : ys.length * ti.by_ ≤ 140737488355328) :
      SX T E H (.call c) (.buf H.length) (.new (.buf e ti.sz ti.by_ ys))
  | cut {t : TypeId} {x h : Operand} {k : IntKind} {i : Int} {e b n nb z1 z2 : Nat} {z3 : List F} {es : List (List F)} (hx : opd E x = .buf b) (hh : opd E h = .fr (.sc (.int k i))) {ti : TI} (ht : T.get t = some ⟨.sli e, z1, z2, z3⟩) (hti : T.get e = some ti) (hH : H[b]? = some (.buf e n nb es)) (hi : 0 ≤ i ∧ i ≤ (es.length : Int)) :
      SX T E H (.slice t x none (some h) none) (.buf H.length) (.app b (.buf e n nb (es.take i.toNat)))

theorem evalX_spec {T : TTab} {E : Env} {op : Op} {K : V → Heap → Prop} {R : Prop} (h : evalX T E H op K R) : (∃ v eff, SX T E H op v eff ∧ K v (eff.run H)) ∨ R := by
  unfold evalX at h
  simp only [fcL_eq, fcH_eq] at h
  split at h
  · split at h
    · rename_i b q hbx
      split at h
      · rename_i xs hb
        rw [nth_eq] at hb
        split at h
        · rename_i ti hti
          split at h
          · rename_i c hc
            split at h
            · rename_i ys hs
              exact .inl ⟨_, _, .store hbx hb hti hc hs, h⟩
            · exact .inr h
          · exact .inr h
        · exact .inr h
      · exact .inr h
    · exact .inr h
  · rename_i c
    obtain ⟨callee, args, ats⟩ := c
    split at h
    · rename_i hcal
      simp only at hcal
      subst hcal
      split at h
      · rename_i x y t t' hargs hats
        obtain ⟨args⟩ := args
        obtain ⟨ats⟩ := ats
        obtain rfl : args = [x, y] := hargs
        obtain rfl : ats = [t, t'] := hats
        split at h
        · rename_i e _ _ _ htt ht
          obtain rfl := Nat.eq_of_beq_eq_true htt
          split at h
          · rename_i ti hti
            split at h
            · rename_i n n2 ys hsz hby1 hys
              split at h
              · rename_i b hbx
                split at h
                · rename_i e' n' nb es hb
                  rw [nth_eq] at hb
                  split at h
                  · rename_i he hn' hnb
                    obtain rfl := Nat.eq_of_beq_eq_true he
                    obtain rfl := Nat.eq_of_beq_eq_true hn'
                    obtain rfl := Nat.eq_of_beq_eq_true hnb
                    exact .inl ⟨_, _, .app rfl ht hti (by omega) (by omega) hys hbx hb h.1, h.2⟩
                  · exact .inr h
                · exact .inr h
              · rename_i hbx
                exact .inl ⟨_, _, .app0 rfl ht hti (by omega) (by omega) hys hbx h.1, h.2⟩
              · exact .inr h
            · exact .inr h
          · exact .inr h
        · exact .inr h
      · exact .inr h
    · exact .inr h
  · split at h
    · rename_i b k i e _ _ _ hx hh ht
      split at h
      · rename_i e' n nb es hb
        rw [nth_eq] at hb
        split at h
        · rename_i he hti
          obtain rfl := Nat.eq_of_beq_eq_true he
          exact .inl ⟨_, _, .cut hx hh ht hti hb h.1, h.2⟩
        · exact .inr h
      · exact .inr h
    · exact .inr h
  · exact .inr h

theorem undef_rep {I : Nat → Prop} : RepV w I μ (.tup []) undef := .tup [] #[] rfl (by intro i x h; simp at h)

/-! ### What passes a buffer's contents on -/
noncomputable def fz0 (H : Heap) : V → V
  | .fr f => .fr f
  | .buf b => (match nth H b with | some (.buf _ n nb es) => .fr (.sl n nb es) | _ => .bad)
  | .ptr b o => (match nth H b with | some (.cells xs) => (match allF xs with | some es => .fptr es o | none => .bad) | _ => .bad)
  | .fptr es o => .fptr es o
  | _ => .bad

def fzc : V → V
  | .fr f => .fr f
  | _ => .bad
/-- What an interface's value holds, if it is flat. -/
def fzI : V → V
  | .agg xs => .agg (xs.map fzc)
  | .fr f => .fr f
  | _ => .bad
noncomputable def fz1 (H : Heap) : V → V
  | .ifc t x => .ifc t (fzI x)
  | .agg xs => .agg (xs.map (fz0 H))
  | .tup xs => .tup (xs.map (fz0 H))
  | .clo f xs => .clo f (xs.map (fz0 H))
  | v => fz0 H v

theorem rep_fz0 (hm : Mem Γ H w μ) {x : V} {v : Value} (h : Rep Γ w μ x v) : RepV w (Imm Γ w []) [] (fz0 H x) v := by
  have himm : ∀ k, Imm Γ w μ k → Imm Γ w [] k := fun k ⟨i1, i2, _⟩ => ⟨i1, i2, fun ⟨i, l, h, _⟩ => by simp at h⟩
  cases h with
  | fr f v h => exact .fr f v (h.mono himm (fun _ _ => rfl))
  | buf b m c ad hl =>
    simp only [fz0]
    split
    · rename_i e n nb es hb
      rw [nth_eq] at hb
      obtain ⟨h1, h00, h2, vs, h3, h4⟩ := hm.blk _ _ _ hb hl
      subst h1
      by_cases h0 : es = []
      · subst h0; exact .fr _ _ (.nil _ _ _ _)
      · rcases h3.2 with ⟨hv, hz⟩ | ⟨g, cap, cur, hv, hg, hh, hcap, _, hcs, htake⟩
        · exact absurd (List.eq_nil_of_length_eq_zero hz) h0
        · rw [hv]
          have hgo : owned μ g := by
            cases ad with
            | none => simp [hdrV] at hv
            | some g' => simp only [hdrV, Option.map_some, Value.slice.injEq, Option.some.injEq, Addr.mk.injEq] at hv; exact ⟨b, _, hl, by rw [← hv.1.1]; rfl⟩
          have hgi : Imm Γ w [] g := ⟨.inr (hm.own0 g hgo), by have := (Array.getElem?_eq_some_iff.1 hh).1; exact this, fun ⟨i, l, h, _⟩ => by simp at h⟩
          have hn : ∀ (i : Nat) (r : List F), es[i]? = some r → r.length = n := fun i r hr => h2 r (List.mem_of_getElem? hr)
          have key : ∀ (i : Nat) (r : List F) (j : Nat) (f : F), es[i]? = some r → r[j]? = some f → w.cell? ⟨g, 0 + i * n + j, none⟩ = some (vs.getD (i * n + j) undef) ∧ RepFr Γ w μ f (vs.getD (i * n + j) undef) := by
            intro i r j f hr hf
            have hj : j < n := by have := (List.getElem?_eq_some_iff.1 hf).1; rw [hn i r hr] at this; exact this
            have hfl := flat_get' es i j r h2 hr hj
            rw [hf] at hfl
            refine ⟨?_, h4 _ f hfl⟩
            have hlt : i * n + j < vs.length := by rw [h3.1, ← flat_length es h2]; exact (List.getElem?_eq_some_iff.1 hfl).1
            have hcell := World.ownsRow.cells h3 (g := g) (by rw [hv]; rfl) (i * n + j) vs[i * n + j] (by simp)
            rw [Addr.add_mid] at hcell
            rw [Nat.add_assoc, hcell]
            simp [List.getD, hlt]
          exact .fr _ _ (.sl n nb es g 0 cap (fun i j => vs.getD (i * n + j) undef) hgi hcap h00 hn (fun i r j f hr hf => (key i r j f hr hf).1) (fun i r j f hr hf => (key i r j f hr hf).2.mono himm (fun _ _ => rfl)))
    · exact .bad _
  | bdead b v hl h1 =>
    simp only [fz0]
    split
    · rename_i e n nb es hb
      rw [nth_eq] at hb
      exact (hm.blk _ _ _ hb hl).elim
    · exact .bad _
  | ptr b o k hl =>
    simp only [fz0]
    split
    · rename_i xs hb
      split
      · rename_i es he
        rw [nth_eq] at hb
        obtain ⟨c, e, h1, h2, h3, h4⟩ := hm.blk _ _ _ hb hl
        have hx := allF_some he
        have hgi : Imm Γ w [] k := ⟨.inr (hm.own0 k ⟨b, _, hl, rfl⟩), hm.below k ⟨b, _, hl, rfl⟩, fun ⟨i, l, h, _⟩ => by simp at h⟩
        have hget : ∀ (j : Nat) (f : F), es[j]? = some f → xs[j]? = some (.fr f) := fun j f hj => by rw [hx, List.getElem?_map, hj]; rfl
        have := RepV.fptr (w := w) (I := Imm Γ w []) (μ := []) es o k 0 (fun j => c.getD j undef) hgi (fun j f hj => by
          have hj' : j < c.size := by have := (List.getElem?_eq_some_iff.1 (hget j f hj)).1; omega
          rw [Nat.zero_add]; exact cell_of h1 _ hj') (fun j f hj => by
          have h5 := h4 j _ (hget j f hj)
          cases h5 with
          | fr f v h => exact h.mono himm (fun _ _ => rfl))
        simpa using this
      · exact .bad _
    · exact .bad _
  | fptr es o k o0 cv hk hcc hr => exact .fptr es o k o0 cv (himm _ hk) hcc (fun j f hj => (hr j f hj).mono himm (fun _ _ => rfl))
  | _ => exact .bad _

theorem rep_fz1 (hm : Mem Γ H w μ) {x : V} {v : Value} (h : Rep Γ w μ x v) : RepV w (Imm Γ w []) [] (fz1 H x) v := by
  cases h with
  | agg xs vs hl h1 h =>
    refine .agg _ _ (by simpa using hl) h1 (fun i y hy => ?_)
    rw [List.getElem?_map] at hy
    cases hq : xs[i]? with
    | none => rw [hq] at hy; cases hy
    | some z => rw [hq] at hy; cases hy; exact rep_fz0 hm (h i z hq)
  | fr f v h => exact rep_fz0 hm (.fr f v h)
  | ptr b o k hl => exact rep_fz0 hm (.ptr b o k hl)
  | fptr es o k o0 cv hk hcc hr => exact rep_fz0 hm (.fptr es o k o0 cv hk hcc hr)
  | buf b m c a hl => exact rep_fz0 hm (.buf b m c a hl)
  | bdead b v hl h1 => exact rep_fz0 hm (.bdead b v hl h1)
  | bp c q k m cap hl => exact rep_fz0 hm (.bp c q k m cap hl)
  | bpd c q k hl => exact rep_fz0 hm (.bpd c q k hl)
  | bv b lo n m c a hl hle => exact rep_fz0 hm (.bv b lo n m c a hl hle)
  | bvd b lo n v hl h1 => exact rep_fz0 hm (.bvd b lo n v hl h1)
  | clo f xs vs hl h =>
    refine .clo _ _ _ (by simpa using hl) (fun i y hy => ?_)
    rw [List.getElem?_map] at hy
    cases hq : xs[i]? with
    | none => rw [hq] at hy; cases hy
    | some z => rw [hq] at hy; cases hy; exact rep_fz0 hm (h i z hq)
  | ifc t x v h =>
    refine .ifc _ _ _ ?_
    cases h with
    | agg xs vs hl h1 h =>
      refine .agg _ _ (by simpa using hl) h1 (fun i y hy => ?_)
      rw [List.getElem?_map] at hy
      cases hq : xs[i]? with
      | none => rw [hq] at hy; cases hy
      | some z =>
        rw [hq] at hy; cases hy
        have h2 := h i z hq
        cases z with
        | fr f => exact rep_fz0 hm h2
        | _ => exact .bad _
    | fr f v h => exact rep_fz0 hm (.fr f v h)
    | _ => exact .bad _
  | mth m t x v h => exact rep_fz0 hm (.mth m t x v h)
  | tup xs vs hl h =>
    refine .tup _ _ (by simpa using hl) (fun i y hy => ?_)
    rw [List.getElem?_map] at hy
    cases hq : xs[i]? with
    | none => rw [hq] at hy; cases hy
    | some z => rw [hq] at hy; cases hy; exact rep_fz0 hm (h i z hq)
  | bad v => exact .bad v


/-- Such an answer points nowhere. -/
def flat0 : V → Bool
  | .fr (.sc _) => true
  | .bad => true
  | _ => false

def flatA : V → Bool
  | .agg xs => xs.all flat0
  | v => flat0 v

def flat1 : V → Bool
  | .agg xs => xs.all flat0
  | .tup xs => xs.all flatA
  | v => flat0 v

theorem flat0_rep {w w' : World} {I I' : Nat → Prop} {μ μ' : List Plc} {x : V} {v : Value} (h : RepV w I μ x v) (hf : flat0 x = true) : RepV w' I' μ' x v := by
  cases h with
  | fr f v h =>
    cases h with
    | sc v h => exact .fr _ _ (.sc v h)
    | _ => cases hf
  | bad v => exact .bad v
  | _ => cases hf

theorem flatA_rep {w w' : World} {I I' : Nat → Prop} {μ μ' : List Plc} {x : V} {v : Value} (h : RepV w I μ x v) (hf : flatA x = true) : RepV w' I' μ' x v := by
  cases h with
  | agg xs vs hl h1 h => exact .agg xs vs hl h1 (fun i x hx => flat0_rep (h i x hx) (List.all_eq_true.1 hf x (List.mem_of_getElem? hx)))
  | fr f v h => exact flat0_rep (μ := μ) (.fr f v h) hf
  | bad v => exact .bad v
  | _ => cases hf

theorem flat1_rep {w w' : World} {I I' : Nat → Prop} {μ μ' : List Plc} {x : V} {v : Value} (h : RepV w I μ x v) (hf : flat1 x = true) : RepV w' I' μ' x v := by
  cases h with
  | agg xs vs hl h1 h => exact .agg xs vs hl h1 (fun i x hx => flat0_rep (h i x hx) (List.all_eq_true.1 hf x (List.mem_of_getElem? hx)))
  | tup xs vs hl h => exact .tup xs vs hl (fun i x hx => flatA_rep (h i x hx) (List.all_eq_true.1 hf x (List.mem_of_getElem? hx)))
  | fr f v h => exact flat0_rep (μ := μ) (.fr f v h) hf
  | bad v => exact .bad v
  | _ => cases hf

/-- An answer without what may point anywhere. -/
def thin0 : V → V
  | .fr (.sc x) => .fr (.sc x)
  | _ => .bad
def thin1 : V → V
  | .agg xs => .agg (xs.map thin0)
  | v => thin0 v
def thin2 : V → V
  | .tup xs => .tup (xs.map thin1)
  | v => thin1 v
theorem rep_thin0 {I : Nat → Prop} {x : V} {v : Value} (h : RepV w I μ x v) : RepV w I μ (thin0 x) v := by
  unfold thin0; split
  · exact h
  · exact .bad _
theorem rep_thin1 {I : Nat → Prop} {x : V} {v : Value} (h : RepV w I μ x v) : RepV w I μ (thin1 x) v := by
  by_cases hc : ∃ xs, x = .agg xs
  · obtain ⟨xs, rfl⟩ := hc
    cases h with
    | agg xs vs hl h1 h => exact .agg _ vs (by simpa using hl) h1 (fun i y hy => by
        rw [List.getElem?_map] at hy
        cases hq : xs[i]? with
        | none => rw [hq] at hy; cases hy
        | some z => rw [hq] at hy; cases hy; exact rep_thin0 (h i z hq))
  · have e : thin1 x = thin0 x := by cases x <;> first | rfl | exact absurd ⟨_, rfl⟩ hc
    rw [e]; exact rep_thin0 h
theorem rep_thin2 {I : Nat → Prop} {x : V} {v : Value} (h : RepV w I μ x v) : RepV w I μ (thin2 x) v := by
  by_cases hc : ∃ xs, x = .tup xs
  · obtain ⟨xs, rfl⟩ := hc
    cases h with
    | tup xs vs hl h => exact .tup _ vs (by simpa using hl) (fun i y hy => by
        rw [List.getElem?_map] at hy
        cases hq : xs[i]? with
        | none => rw [hq] at hy; cases hy
        | some z => rw [hq] at hy; cases hy; exact rep_thin1 (h i z hq))
  · have e : thin2 x = thin1 x := by cases x <;> first | rfl | exact absurd ⟨_, rfl⟩ hc
    rw [e]; exact rep_thin1 h

/-- The blocks that a call is shown are there. -/
noncomputable def live0 (H : Heap) : V → Bool
  | .buf b => (match nth H b with | some _ => true | none => false)
  | .ptr b _ => (match nth H b with | some _ => true | none => false)
  | _ => true

noncomputable def live1 (H : Heap) : V → Bool
  | .agg xs => xs.all (live0 H)
  | .tup xs => xs.all (live0 H)
  | .clo _ xs => xs.all (live0 H)
  | v => live0 H v

/-- A call from a heap that leaves it as it is: with no buffers among what it is given, or with some that it only reads, and a flat answer. -/
inductive PC (P : Program) (g : Nat) (args : List V) (H : Heap) (v : V) : Prop where
  | own (h : PCall P g args v)
  | lend (h : PCall P g (args.map (fz1 H)) v) (hf : flat1 v = true) (hl : args.all (live1 H) = true)

theorem PC.go {P : Program} {g : Nat} {args : List V} {v : V} {cargs : Array Value} (h : PC P g args H v) (hP : Γ.P = P) (hm : Mem Γ H w μ) (hr : RepArgs Γ w μ args cargs) :
    Invokes P g cargs w fun cv w' => Mem Γ H w' μ ∧ Pres Γ w μ w' μ ∧ Rep Γ w' μ v cv := by
  cases h with
  | own h => exact h.go Γ H w μ cargs hP hm hr
  | lend h hf _ =>
    let Γ' : Ctx := ⟨Γ.P, w, Imm Γ w [], []⟩
    have hno : ∀ k, ¬ owned ([] : List Plc) k := fun k ⟨i, l, h, _⟩ => by simp at h
    have hm' : Mem Γ' [] w [] := Mem.start _ _ _ (fun k hk => hk.2.1)
    have hr' : RepArgs Γ' w [] (args.map (fz1 H)) cargs := by
      refine ⟨by simpa using hr.1, fun i x hx => ?_⟩
      rw [List.getElem?_map] at hx
      cases hq : args[i]? with
      | none => rw [hq] at hx; cases hx
      | some y =>
        rw [hq] at hx; cases hx
        exact (rep_fz1 hm (hr.2 i y hq)).mono (fun k hk => ⟨.inl hk, hk.2.1, hno k⟩) (fun _ _ => rfl) (.refl _)
    refine (h.go Γ' [] w [] cargs hP hm' hr').mono fun cv w' ⟨h1, h2, h3⟩ => ?_
    obtain ⟨h4, h5⟩ := hm.grow (w' := w') h1.ext.size (fun k hk => h1.ext.block k hk (hno k)) h1.ext.os h1.ext.tape h1.ext.output
    exact ⟨h4, h5, flat1_rep h3 hf⟩

theorem acallP {P : Program} {g : Nat} {args : List V} {E : Env} {H : Heap} {K : V → Env → Heap → Prop} {v : V} (h : PC P g args H v) (k : K v E H) : ACall P g args E H K :=
  ⟨fun _ _ μ _ _ hP hm hE hr => (h.go hP hm hr).mono fun _ _ ⟨h1, h2, h3⟩ => ⟨v, E, H, μ, k, h1, hE.pres h2, h3⟩⟩

theorem acallB {P : Program} {g : Nat} {args : List V} {E : Env} {H : Heap} {K : V → Env → Heap → Prop} {v : V} (h : PCall P g (args.map (fz1 H)) v) (k : K v E H) (hf : flat1 v = true := by rfl) (hl : args.all (live1 H) = true := by rfl) : ACall P g args E H K := acallP (.lend h hf hl) k

structure DCall (P : Program) (g : Nat) (args : List V) (E : Env) (H : Heap) (K : V → Env → Heap → Prop) : Prop where
  h : ∃ u, PC P g args H u ∧ K u E H

/-- An operation beside the evaluator that answers, and leaves all as it was. -/
structure POp (P : Program) (op : Op) (E : Env) (v : V) : Prop where
  go : ∀ (Γ : Ctx) (H : Heap) (w : World) (μ : List Plc) (a : Act) (o : Oper) (next : Act → World → Prop) (Q : Exit → Act → World → Prop), Γ.P = P → o.op = op → Mem Γ H w μ → (∀ x ∈ op.operands.toList, Rep Γ w μ (opd E x) (a.eval x)) →
    (∀ w' cv, Mem Γ H w' μ → Pres Γ w μ w' μ → Rep Γ w' μ v cv → next (a.put o.dst cv) w') → o.wp P a w next Q
structure DOp (P : Program) (op : Op) (E : Env) (H : Heap) (K : V → Heap → Prop) : Prop where
  h : ∃ v, POp P op E v ∧ K v H
theorem aop_pop {P : Program} {op : Op} {E : Env} {H : Heap} {K : V → Heap → Prop} {v : V} (h : POp P op E v) (k : K v H) : AOp P op E H K :=
  ⟨fun Γ w μ a o next Q hP ho hm hr hn => h.go Γ H w μ a o next Q hP ho hm hr fun w' cv h1 h2 h3 => hn w' μ cv v H k h1 h2 h3⟩
theorem dop {P : Program} {op : Op} {E : Env} {H : Heap} {K : V → Heap → Prop} {v : V} (h : POp P op E v) (k : K v H) : DOp P op E H K := ⟨v, h, k⟩

/-- Calls in the text's order, and in an order that is drawn. -/
noncomputable def callA (P : Program) : Calling := ⟨ACall P, AOp P⟩
noncomputable def callD (P : Program) : Calling := ⟨DCall P, DOp P⟩

theorem dcall {P : Program} {g : Nat} {args : List V} {E : Env} {H : Heap} {K : V → Env → Heap → Prop} {v : V} (h : PCall P g args v) (k : K v E H) : DCall P g args E H K := ⟨v, .own h, k⟩
theorem dcallB {P : Program} {g : Nat} {args : List V} {E : Env} {H : Heap} {K : V → Env → Heap → Prop} {v : V} (h : PCall P g (args.map (fz1 H)) v) (k : K v E H) (hf : flat1 v = true := by rfl) (hl : args.all (live1 H) = true := by rfl) : DCall P g args E H K := ⟨v, .lend h hf hl, k⟩

/-! ### One operation, as told -/
inductive SOp (P : Program) (T : TTab) (n0 : Nat) (E : Env) (H : Heap) (op : Op) : V → Eff → Prop where
  | val {v : V} (h : evalP T n0 E H op = .val v) : SOp P T n0 E H op v .none
  | side {p : Prop} {v : V} (h : evalP T n0 E H op = .side p v) (hp : p) : SOp P T n0 E H op v .none
  | pick {c : Bool} {x y : V} (h : evalP T n0 E H op = .pick c x y) : SOp P T n0 E H op (if c then x else y) .none
  | idx {es : List (List F)} {i : Int} {e : List F} (h : evalP T n0 E H op = .idx es i) (h0 : 0 ≤ i) (h1 : es[i.toNat]? = some e) : SOp P T n0 E H op (.fptr e 0) .none
  | str {s : ByteArray} {i : Int} (h : evalP T n0 E H op = .str s i) (h1 : i.toNat < s.size) (h0 : 0 ≤ i) : SOp P T n0 E H op (.fr (.sc (.int .u8 (s[i.toNat]'h1).toNat))) .none
  | ex {p : V → Prop} {v : V} (h : evalP T n0 E H op = .ex p) (hp : p v) : SOp P T n0 E H op v .none
  | new {xs : List V} (h : evalP T n0 E H op = .new xs) : SOp P T n0 E H op (.ptr H.length 0) (.new (.cells xs))
  | call {g : Nat} {args : List V} {v : V} (h : evalP T n0 E H op = .call g args) (hc : PC P g args H v) : SOp P T n0 E H op v .none
  | no {v : V} {eff : Eff} (h : evalP T n0 E H op = .no) (hx : SX T E H op v eff) : SOp P T n0 E H op v eff
  | pop {v : V} (hx : POp P op E v) : SOp P T n0 E H op v .none

theorem xopR_spec {P : Program} {C : Calling} {T : TTab} {n0 : Nat} {E : Env} {r : PR} {op : Op} {K : V → Env → Heap → Prop} (h : xopR C T E H r op K) (he : evalP T n0 E H op = r) :
    (∃ g args, evalP T n0 E H op = .call g args ∧ C.call g args E H K) ∨ (C.raw op E H fun v H => K v E H) ∨ ∃ v eff, SOp P T n0 E H op v eff ∧ K v E (eff.run H) := by
  subst he
  unfold xopR at h
  simp only [fc1_eq, fcL_eq, fcH_eq] at h
  cases he : evalP T n0 E H op with
  | val v => rw [he] at h; exact .inr (.inr ⟨_, _, .val he, h⟩)
  | side p v => rw [he] at h; exact .inr (.inr ⟨_, _, .side he h.1, h.2⟩)
  | pick c x y =>
    rw [he] at h
    cases c with
    | true => exact .inr (.inr ⟨_, _, .pick he, h⟩)
    | false => exact .inr (.inr ⟨_, _, .pick he, h⟩)
  | idx es i => rw [he] at h; obtain ⟨e, h1, h2, h3⟩ := h.h; exact .inr (.inr ⟨_, _, .idx he h1 h2, h3⟩)
  | str s i => rw [he] at h; obtain ⟨h1, h2, h3⟩ := h.h; exact .inr (.inr ⟨_, _, .str he h1 h2, h3⟩)
  | ex p => rw [he] at h; obtain ⟨v, h1, h2⟩ := h.h; exact .inr (.inr ⟨_, _, .ex he h1, h2⟩)
  | new xs => rw [he] at h; exact .inr (.inr ⟨_, _, .new he, h⟩)
  | call g args => rw [he] at h; exact .inl ⟨g, args, rfl, h⟩
  | no =>
    rw [he] at h
    rcases evalX_spec h with ⟨v, eff, h1, h2⟩ | h1
    · exact .inr (.inr ⟨v, eff, .no he h1, h2⟩)
    · exact .inr (.inl h1)

theorem pcall_thin {P : Program} {g : Nat} {args : List V} {v : V} (h : PCall P g args v) : PCall P g args (thin2 v) :=
  ⟨fun Γ H w μ cargs hP hm hr => (h.go Γ H w μ cargs hP hm hr).mono fun _ _ ⟨h1, h2, h3⟩ => ⟨h1, h2, rep_thin2 h3⟩⟩

end Go.AW

/- AW, part 12B: an operation told of one state, carried out in another that is like it. -/
namespace Go.AW
open Go Go.RowKit
variable {Γ : Ctx} {H HS : Heap} {w : World} {μ : List Plc} {a : Act} {o : Oper} {E : Env}

theorem mem_touchL {wr : Bool} {xs : List V} {x : V} {p : Nat × Bool} (hx : x ∈ xs) (hp : p ∈ touch0 wr x) : p ∈ touchL wr xs := by
  induction xs with
  | nil => cases hx
  | cons y ys ih =>
    show p ∈ touch0 wr y ++ touchL wr ys
    rcases List.mem_cons.1 hx with rfl | hx
    · exact List.mem_append_left _ hp
    · exact List.mem_append_right _ (ih hx)

theorem mem_touchA {l : List Operand} {x : Operand} {p : Nat × Bool} (hx : x ∈ l) (hp : p ∈ touchV false (opd E x)) : p ∈ touchA E l := by
  induction l with
  | nil => cases hx
  | cons y ys ih =>
    show p ∈ touchV false (opd E y) ++ touchA E ys
    rcases List.mem_cons.1 hx with rfl | hx
    · exact List.mem_append_left _ hp
    · exact List.mem_append_right _ (ih hx)

/-- The one heap shows what the other does, where it is looked at. -/
def Shows (H HS : Heap) (ts : List (Nat × Bool)) : Prop := ∀ b wr x, (b, wr) ∈ ts → nth H b = some x → nth HS b = some x

theorem fz0_shows {x : V} (hs : Shows H HS (touch0 false x)) (hl : live0 H x = true) : fz0 HS x = fz0 H x := by
  cases x with
  | buf b =>
    simp only [live0] at hl
    split at hl
    · rename_i y hy
      have := hs b false y (by simp [touch0]) hy
      simp only [fz0, this, hy]
    · cases hl
  | ptr b o =>
    simp only [live0] at hl
    split at hl
    · rename_i y hy
      have := hs b false y (by simp [touch0]) hy
      simp only [fz0, this, hy]
    · cases hl
  | _ => rfl

theorem fz1_shows {x : V} (hs : Shows H HS (touch1 false x)) (hl : live1 H x = true) : fz1 HS x = fz1 H x := by
  cases x with
  | agg xs =>
    have hl' := List.all_eq_true.1 hl
    simp only [fz1]
    congr 1
    exact List.map_congr_left fun y hy => fz0_shows (fun b wr z hb => hs b wr z (mem_touchL hy hb)) (hl' y hy)
  | tup xs =>
    have hl' := List.all_eq_true.1 hl
    simp only [fz1]
    congr 1
    exact List.map_congr_left fun y hy => fz0_shows (fun b wr z hb => hs b wr z (mem_touchL hy hb)) (hl' y hy)
  | clo f xs =>
    have hl' := List.all_eq_true.1 hl
    simp only [fz1]
    congr 1
    exact List.map_congr_left fun y hy => fz0_shows (fun b wr z hb => hs b wr z (mem_touchL hy hb)) (hl' y hy)
  | buf b => exact fz0_shows (x := .buf b) hs hl
  | ptr b o => exact fz0_shows (x := .ptr b o) hs hl
  | _ => rfl

theorem touch_nrm1 {f : F} {x : V} {p : Nat × Bool} (h : p ∈ touch0 false (nrm1 f x)) : p ∈ touch0 false x := by
  unfold nrm1 at h
  split at h
  · cases h
  · exact h

theorem touch_nrmL : ∀ {z : List F} {xs : List V} {p : Nat × Bool}, p ∈ touchL false (nrmL z xs) → p ∈ touchL false xs
  | [], _, _, h => h
  | f :: z, [], _, h => h
  | f :: z, x :: xs, p, h => by
    have h' : p ∈ touch0 false (nrm1 f x) ++ touchL false (nrmL z xs) := h
    show p ∈ touch0 false x ++ touchL false xs
    rcases List.mem_append.1 h' with h | h
    · exact List.mem_append_left _ (touch_nrm1 h)
    · exact List.mem_append_right _ (touch_nrmL h)

theorem touch_nrmV {T : TTab} {t : Nat} {x : V} {p : Nat × Bool} (h : p ∈ touch1 false (nrmV T t x)) : p ∈ touch1 false x := by
  unfold nrmV at h
  split at h
  · split at h
    · exact touch_nrmL h
    · rename_i hx
      split at h
      · rename_i ti _ f _ _
        cases x with
        | agg xs => exact absurd rfl (hx xs)
        | fr g => exact (by
            unfold nrm1 at h
            split at h
            · cases h
            · exact h)
        | _ => simpa [nrm1] using h
      · exact h
  · exact h

theorem touch01 {wr : Bool} {x : V} {p : Nat × Bool} (h : p ∈ touch0 wr x) : p ∈ touch1 wr x := by
  cases x with
  | agg => cases h
  | tup => cases h
  | clo => cases h
  | _ => exact h

theorem touch1_V {x : V} {p : Nat × Bool} (h : p ∈ touch1 false x) : p ∈ touchV false x := by
  cases x with
  | clo f xs =>
    have h' : p ∈ touchL false xs := h
    clear h
    induction xs with
    | nil => cases h'
    | cons y ys ih =>
      have h2 : p ∈ touch0 false y ++ touchL false ys := h'
      show p ∈ touch1 false y ++ touchV false (.clo f ys)
      rcases List.mem_append.1 h2 with h | h
      · exact List.mem_append_left _ (touch01 h)
      · exact List.mem_append_right _ (ih h)
  | _ => exact h

theorem touch_caps {f : Nat} {xs : List V} {x : V} {p : Nat × Bool} (hx : x ∈ xs) (h : p ∈ touch1 false x) : p ∈ touchV false (.clo f xs) := by
  induction xs with
  | nil => cases hx
  | cons y ys ih =>
    show p ∈ touch1 false y ++ touchV false (.clo f ys)
    rcases List.mem_cons.1 hx with rfl | hx
    · exact List.mem_append_left _ h
    · exact List.mem_append_right _ (ih hx)

theorem PC.shows {P : Program} {g : Nat} {args : List V} {v : V} (h : PC P g args H v) (hs : ∀ x ∈ args, Shows H HS (touch1 false x)) : PC P g args HS v := by
  cases h with
  | own h => exact .own h
  | lend h hf hl =>
    have hl' := List.all_eq_true.1 hl
    have e : args.map (fz1 HS) = args.map (fz1 H) := List.map_congr_left fun x hx => fz1_shows (hs x hx) (hl' x hx)
    refine .lend (by rw [e]; exact h) hf (List.all_eq_true.2 fun x hx => ?_)
    have h0 : ∀ y, live0 H y = true → Shows H HS (touch0 false y) → live0 HS y = true := by
      intro y hy hs
      cases y with
      | buf b =>
        simp only [live0] at hy
        split at hy
        · rename_i z hz
          have := hs b false z (by simp [touch0]) hz
          simp only [live0, this]
        · cases hy
      | ptr b o =>
        simp only [live0] at hy
        split at hy
        · rename_i z hz
          have := hs b false z (by simp [touch0]) hz
          simp only [live0, this]
        · cases hy
      | _ => rfl
    have hx1 := hl' x hx
    have hsx := hs x hx
    cases x with
    | agg xs => exact List.all_eq_true.2 fun y hy => h0 y (List.all_eq_true.1 hx1 y hy) (fun b wr z hb => hsx b wr z (mem_touchL hy hb))
    | tup xs => exact List.all_eq_true.2 fun y hy => h0 y (List.all_eq_true.1 hx1 y hy) (fun b wr z hb => hsx b wr z (mem_touchL hy hb))
    | clo f xs => exact List.all_eq_true.2 fun y hy => h0 y (List.all_eq_true.1 hx1 y hy) (fun b wr z hb => hsx b wr z (mem_touchL hy hb))
    | buf b => exact h0 (.buf b) hx1 hsx
    | ptr b o => exact h0 (.ptr b o) hx1 hsx
    | _ => rfl

theorem binP_call {T : TTab} {op : BinOp} {t : Nat} {x y : V} {g : Nat} {args : List V} (h : binP T op t x y = .call g args) : False := by
  unfold binP at h
  split at h
  · split at h
    · cases h
    · cases h
    · split at h
      · unfold intOp at h; split at h <;> cases h
      · cases h
  · unfold strOp at h; split at h <;> cases h
  · split at h
    · split at h <;> cases h
    · cases h
  · split at h
    · split at h <;> cases h
    · split at h <;> cases h
    · cases h
  · split at h
    · split at h
      · split at h <;> cases h
      · cases h
    · cases h
  · cases h

/-- What a call is given is looked at. -/
theorem call_touch {T : TTab} {n0 : Nat} {op : Op} {g : Nat} {args : List V} (h : evalP T n0 E H op = .call g args) {x : V} (hx : x ∈ args) {p : Nat × Bool} (hp : p ∈ touch1 false x) : p ∈ touch E op := by
  cases op with
  | call c =>
    have h : evalC T n0 E H c = .call g args := h
    unfold evalC at h
    split at h
    · rename_i f hf
      split at h
      · rename_i g' caps hfe
        split at h
        · cases h
          simp only [touch, hf]
          rcases List.mem_append.1 hx with hx | hx
          · obtain ⟨q, hq, rfl⟩ := List.mem_map.1 hx
            exact mem_touchA (List.mem_cons_of_mem _ (List.of_mem_zip hq).1) (touch1_V (touch_nrmV hp))
          · refine mem_touchA (x := f) (by simp) ?_
            rw [hfe]
            exact touch_caps hx hp
        · cases h
      · cases h
    all_goals (repeat' split at h)
    all_goals cases h
  | binOp b t x y u => exact (binP_call (show binP T b t (opd E x) (opd E y) = _ from h)).elim
  | move => cases h
  | assign => cases h
  | slice t x lo hi m => cases m <;> simp only [evalP] at h <;> (repeat' split at h) <;> cases h
  | makeFunc f ps cs => cases f <;> simp only [evalP] at h <;> (repeat' split at h) <;> cases h
  | _ =>
    simp only [evalP] at h <;> (repeat' split at h) <;> cases h


/-! ### Carried out in another state -/
theorem ValOk.next {v : V} (h : ValOk Γ HS w μ a o v) (next : Act → World → Prop) (Q : Exit → Act → World → Prop)
    (hn : ∀ w' cv, Mem Γ HS w' μ → Pres Γ w μ w' μ → Rep Γ w' μ v cv → next (a.put o.dst cv) w') : o.wp Γ.P a w next Q := by
  obtain ⟨cv, w', h1, h2, h3, h4⟩ := h
  unfold Oper.wp
  rw [h1]
  exact hn w' cv h2 h3 h4

theorem append_exec {c : Call} {x y : Operand} {t : Nat} (ho : o.op = .call c) (hc : c = ⟨.builtin .append, #[x, y], #[t, t]⟩) {P : Program} {r : Value} {w' : World}
    (hr : (Builtin.append_ #[t, t] o.type #[a.eval x, a.eval y]).run P w = .ok r w') : (execOp a.eval o).run P w = .ok (.value r) w' := by
  subst hc
  unfold execOp
  simp only [ho, resolve, Sem.run_bind, Sem.run_pure, Result.andThen_ok, invoke, builtin]
  have e1 : (#[x, y] : Array Operand).map a.eval = #[a.eval x, a.eval y] := by simp
  rw [e1, hr]
  rfl

theorem rowsOf_shows {n : Nat} {x : V} {ys : List (List F)} (h : rowsOf n x H = some ys) (hs : Shows H HS (touchV false x)) : rowsOf n x HS = some ys := by
  unfold rowsOf at h ⊢
  split at h
  · exact h
  · exact h
  · rename_i b
    split at h
    · rename_i hb
      have := hs b false _ (by simp [touchV, touch1, touch0]) hb
      simp only [this]
      exact h
    · cases h
  · rename_i b lo k
    split at h
    · rename_i hk hb
      have := hs b false _ (by simp [touchV, touch1, touch0]) hb
      simp only [this, hk]
      exact h
    · cases h
  · cases h

theorem SOp.replay {T : TTab} (hT : TOk Γ.P T) {n0 s : Nat} {v : V} {eff : Eff} (h : SOp Γ.P T n0 E H o.op v eff) (hm : Mem Γ HS w μ) (hop : ∀ x ∈ o.op.operands.toList, Rep Γ w μ (opd E x) (a.eval x)) (hs : Shows H HS (touch E o.op))
    (hsl : eff.news = true → s = H.length ∧ μ[s]? = some .free) (next : Act → World → Prop) (Q : Exit → Act → World → Prop)
    (hn : ∀ w' μ' cv, Mem Γ (eff.at_ s HS) w' μ' → Pres Γ w μ w' μ' → (∀ i, (eff.news = true → i ≠ s) → μ[i]? = some .free → μ'[i]? = some .free) → Rep Γ w' μ' v cv → next (a.put o.dst cv) w') : o.wp Γ.P a w next Q := by
  have hE := evalP_sound hT (n0 := n0) (E := E) (H := H) hm hop (fun b x hb hx => hs b false x hb hx)
  have pure : ∀ {u : V}, eff = .none → ValOk Γ HS w μ a o u → u = v → o.wp Γ.P a w next Q := fun he hv huv => by
    subst huv; subst he
    exact hv.next next Q fun w' cv h1 h2 h3 => hn w' μ cv h1 h2 (fun i _ h => h) h3
  cases h with
  | val h => rw [h] at hE; exact pure rfl hE rfl
  | side h hp => rw [h] at hE; exact pure rfl (hE hp) rfl
  | pick h => rw [h] at hE; exact pure rfl hE rfl
  | idx h h0 h1 => rw [h] at hE; exact pure rfl (hE _ h0 h1) rfl
  | str h h1 h0 => rw [h] at hE; exact pure rfl (hE h1 h0) rfl
  | ex h hp => rw [h] at hE; exact pure rfl (hE _ hp) rfl
  | new h =>
    rw [h] at hE
    obtain ⟨c, e, h1, h2, h3, h4⟩ := hE
    obtain ⟨rfl, hf⟩ := hsl rfl
    obtain ⟨l, h5, h6, h7⟩ := hm.newAt (e := e) hf h2 h3 h4
    unfold Oper.wp
    rw [h1]
    refine hn _ _ _ h5 h6 (fun i hi h => ?_) h7
    rw [List.getElem?_set_ne (Ne.symm (hi rfl))]; exact h
  | pop hx => exact hx.go Γ HS w μ a o next Q rfl rfl hm hop fun w' cv h1 h2 h3 => hn w' μ cv h1 h2 (fun i _ h => h) h3
  | call h hc =>
    rw [h] at hE
    obtain ⟨cargs, h1, h2⟩ := hE
    have hc' := hc.shows (HS := HS) fun x hx b wr y hb hy => hs b wr y (call_touch h hx hb) hy
    unfold Oper.wp
    rw [h1]
    rcases hc'.go rfl hm h2 with ⟨h3, h4⟩ | ⟨v, w', h3, h5, h6, h7⟩
    · rw [h3]
      refine Calls.mono h4 fun e w' ⟨cv, he, h5, h6, h7⟩ => ?_
      subst he
      exact hn w' μ cv h5 h6 (fun i _ h => h) h7
    · rw [h3]
      exact hn w' μ v h5 h6 (fun i _ h => h) h7
  | no h hx =>
    generalize hoo : o.op = op at hx
    cases hx with
    | store h1 h2 h3 h4 h5 =>
      rename_i t x y b q xs c ys ti
      have hx := hop x (by simp [hoo, Op.operands])
      have hy := hop y (by simp [hoo, Op.operands])
      rw [h1] at hx
      have hb : HS[b]? = some (.cells xs) := by
        rw [← nth_eq]; rw [← nth_eq] at h2
        exact hs b true _ (by rw [hoo]; simp [touch, h1, touchV, touch1, touch0]) h2
      obtain ⟨w', g1, g2, g3⟩ := store_ok hT hm hoo hx hy hb h3 h4 h5
      unfold Oper.wp
      rw [g1]
      exact hn w' μ undef g2 g3 (fun i _ h => h) undef_rep
    | app hc ht hti hpos hby0 hy0 hxb hb hfit =>
      rename_i c x y t e b z1 z2 z3 ti ys es
      obtain ⟨rfl, hfree⟩ := hsl rfl
      have hx := hop x (by simp [hoo, hc, Op.operands, Call.operands])
      have hy := hop y (by simp [hoo, hc, Op.operands, Call.operands])
      have hts : touch E o.op = touchV true (opd E x) ++ touchV false (opd E y) := by rw [hoo, hc]; rfl
      have hys := rowsOf_shows hy0 (fun b wr z hb hz => hs b wr z (by rw [hts]; exact List.mem_append_right _ hb) hz)
      have hb' : HS[b]? = some (.buf e ti.sz ti.by_ es) := by
        rw [← nth_eq]; rw [← nth_eq] at hb
        exact hs b true _ (by rw [hts, hxb]; simp [touchV, touch1, touch0]) hb
      obtain ⟨d, hd, hk⟩ := (hT t _ ht).kind
      cases d <;> try exact hk.elim
      rename_i e'
      obtain rfl : e = e' := hk
      obtain ⟨news, hsrc⟩ := src_of hm hpos hy hys
      have hval : (∃ ad c, a.eval y = .slice (some ad) ys.length c ∧ ∀ (j : Nat) (u : Value), news[j]? = some u → w.cell? (ad.add j) = some u) ∨ (ys.length = 0 ∧ ∃ c, a.eval y = .slice none 0 c) := hsrc.val.imp id (fun ⟨h1, h2⟩ => ⟨by rw [h1]; rfl, h2⟩)
      rw [hxb] at hx
      generalize hcx : a.eval x = cx at hx
      cases hx with
      | bdead b v hl h1 => exact (hm.blk _ _ _ hb' hl).elim
      | buf b m cp ad hl =>
        obtain ⟨g1, g0, g2, vs, g3, g4⟩ := hm.blk _ _ _ hb' hl
        subst g1
        obtain ⟨ad', cap', w', h1, h2, h3, h4, h5, h6, h7, h8⟩ := app_run (ty := o.type) hd (hT e ti hti) (Nat.zero_le _) g3 hsrc.len hsrc.one hval hby0 hfit
        have hreg := hm.regrow (w' := w') (l := .hdr ad' (es.length + ys.length) cap') (nb := .buf e ti.sz ti.by_ (es ++ ys)) hfree hl h3 h4 h5 h6 h7 h8 (fun hp => by
          refine ⟨by simp, by rw [List.length_append]; exact hfit, ?_, vs ++ news, h2, ?_⟩
          · intro r hr
            rcases List.mem_append.1 hr with hr | hr
            · exact g2 r hr
            · exact hsrc.rows r hr
          · intro i f hf
            rw [List.flatten_append] at hf
            have hle := flat_length es g2
            have hlv : vs.length = es.length * ti.sz := g3.1
            by_cases hi : i < es.flatten.length
            · rw [List.getElem?_append_left hi] at hf
              have := g4 i f hf
              have e1 : (vs ++ news).getD i undef = vs.getD i undef := by
                simp only [List.getD_eq_getElem?_getD]
                rw [List.getElem?_append_left (by omega)]
              rw [e1]; exact hp.repF this
            · rw [List.getElem?_append_right (by omega)] at hf
              obtain ⟨u, e2, e3⟩ := hsrc.rep _ f hf
              have e1 : (vs ++ news).getD i undef = u := by
                simp only [List.getD_eq_getElem?_getD]
                rw [List.getElem?_append_right (by omega), hlv, ← hle, e2]; rfl
              rw [e1]; exact hp.repF e3)
        unfold Oper.wp
        rw [append_exec hoo hc (by rw [hcx]; exact h1)]
        have hsb : H.length ≠ b := fun e => by rw [← e, hfree] at hl; cases hl
        refine hn w' _ _ hreg.1 hreg.2 (fun i hi h => ?_) (.buf _ _ _ _ ?_)
        · have hib : i ≠ b := fun e => by rw [e, hl] at h; cases h
          rw [List.getElem?_set_ne (Ne.symm (hi rfl)), List.getElem?_set_ne (Ne.symm hib)]; exact h
        · rw [List.getElem?_set_self (by simp only [List.length_set]; exact (List.getElem?_eq_some_iff.1 hfree).1)]
    | app0 hc ht hti hpos hby0 hy0 hxb hfit =>
      rename_i c x y t e z1 z2 z3 ti ys
      obtain ⟨rfl, hfree⟩ := hsl rfl
      have hx := hop x (by simp [hoo, hc, Op.operands, Call.operands])
      have hy := hop y (by simp [hoo, hc, Op.operands, Call.operands])
      have hts : touch E o.op = touchV true (opd E x) ++ touchV false (opd E y) := by rw [hoo, hc]; rfl
      have hys := rowsOf_shows hy0 (fun b wr z hb hz => hs b wr z (by rw [hts]; exact List.mem_append_right _ hb) hz)
      obtain ⟨d, hd, hk⟩ := (hT t _ ht).kind
      cases d <;> try exact hk.elim
      rename_i e'
      obtain rfl : e = e' := hk
      obtain ⟨news, hsrc⟩ := src_of hm hpos hy hys
      have hval : (∃ ad c, a.eval y = .slice (some ad) ys.length c ∧ ∀ (j : Nat) (u : Value), news[j]? = some u → w.cell? (ad.add j) = some u) ∨ (ys.length = 0 ∧ ∃ c, a.eval y = .slice none 0 c) := hsrc.val.imp id (fun ⟨h1, h2⟩ => ⟨by rw [h1]; rfl, h2⟩)
      rw [hxb] at hx
      have hcx := rep_sc hx
      obtain ⟨ad', cap', w', h1, h2, h3, h4, h5, h6, h7, h8⟩ := app_run (ty := o.type) (ad := none) (m := 0) (cap := 0) (vs := []) hd (hT e ti hti) (Nat.zero_le _) (World.ownsRow_nil w _ e ti.sz) hsrc.len hsrc.one hval hby0 (by simpa using hfit)
      simp only [Nat.zero_add, List.nil_append] at h1 h2
      obtain ⟨hm', hp⟩ := hm.fill (w' := w') (nb := .buf e ti.sz ti.by_ ys) (l := .hdr ad' ys.length cap') hfree h3 (fun k hk => h4 k hk (by simp)) h5 h6 h7 (fun k hk => by
          rcases h8 k hk with h | h
          · cases h
          · exact h) (fun hp => ⟨rfl, hfit, hsrc.rows, news, h2, fun i f hf => by
            obtain ⟨u, e2, e3⟩ := hsrc.rep i f hf
            have e1 : news.getD i undef = u := by simp [List.getD_eq_getElem?_getD, e2]
            rw [e1]; exact hp.repF e3⟩)
      unfold Oper.wp
      rw [append_exec hoo hc (by rw [hcx]; exact h1)]
      refine hn w' _ _ hm' hp (fun i hi h => ?_) (.buf _ _ _ _ ?_)
      · rw [List.getElem?_set_ne (Ne.symm (hi rfl))]; exact h
      · rw [List.getElem?_set_self (List.getElem?_eq_some_iff.1 hfree).1]

    | cut hxb hh ht hti hb hi =>
      rename_i t x h k i e b n nb z1 z2 z3 es ti
      obtain ⟨rfl, hfree⟩ := hsl rfl
      have hx := hop x (by simp [hoo, Op.operands])
      have hhr := hop h (by simp [hoo, Op.operands])
      rw [hh] at hhr
      have hhv := rep_sc hhr
      have hb' : HS[b]? = some (.buf e n nb es) := by
        rw [← nth_eq]; rw [← nth_eq] at hb
        exact hs b true _ (by rw [hoo]; simp [touch, hxb]) hb
      obtain ⟨d, hd, hk⟩ := (hT t _ ht).kind
      cases d <;> try exact hk.elim
      rename_i e'
      obtain rfl : e = e' := hk
      rw [hxb] at hx
      generalize hcx : a.eval x = cx at hx
      cases hx with
      | bdead b v hl h1 => exact (hm.blk _ _ _ hb' hl).elim
      | buf b m cp ad hl =>
        obtain ⟨g1, g0, g2, vs, g3, g4⟩ := hm.blk _ _ _ hb' hl
        subst g1
        have hin : i.toNat ≤ es.length := by omega
        have hlc : es.length ≤ cp := by
          rcases g3.2 with ⟨hnil, h0⟩ | ⟨g, cap0, cur, hvv, hbg, hg, hcap, hcm, hcs, htake⟩
          · rw [h0]; exact Nat.zero_le _
          · cases ad with
            | none => simp [hdrV] at hvv
            | some g' =>
              simp only [hdrV, Option.map_some, Value.slice.injEq] at hvv
              rw [hvv.2.2]; exact hcap
        have hbd := bounds_ok (P := Γ.P) (w := w) (a := a) (isS := true) (n := es.length) (c := cp) (lo := none) (hi := some h) (l := 0) (h := i) (.inl ⟨rfl, rfl⟩) (.inr ⟨h, k, rfl, hhv⟩) (Int.le_refl 0) hi.1 (by omega)
        have hval : (if cp = 0 then ad.map (fun g => (⟨g, 0, Option.none⟩ : Addr)) else (ad.map (fun g => (⟨g, 0, Option.none⟩ : Addr))).map (·.add (0 * ti.sz))) = ad.map (fun g => (⟨g, 0, Option.none⟩ : Addr)) := by
          split
          · rfl
          · cases ad with
            | none => rfl
            | some g => simp [Addr.add_lit]
        have hrun : (execOp a.eval o).run Γ.P w = .ok (.value (hdrV ad i.toNat cp)) w := by
          unfold execOp
          simp only [Int.toNat_zero, Option.map_none] at hbd
          simp only [hoo, hcx, hdrV, Instr.sliceAt, Instr.slice, Sem.run_bind, run_underlying hd w, Result.andThen_ok, Option.map_none, hbd, Sem.run_pure, (hT _ _ hti).size w, Nat.sub_zero, hval]
        have hreg := hm.regrow (w' := w) (l := .hdr ad i.toNat cp) (nb := .buf e n nb (es.take i.toNat)) hfree hl (Nat.le_refl _) (fun _ _ _ => rfl) rfl rfl rfl (fun k hk => .inl hk) (fun hp => by
          refine ⟨by rw [List.length_take]; omega, by rw [List.length_take]; exact Nat.le_trans (Nat.mul_le_mul_right _ (by omega)) g0, fun r hr => g2 r (List.mem_of_mem_take hr), vs.take (i.toNat * n), ?_, ?_⟩
          · have hvl : vs.length = es.length * n := g3.1
            have hmul : i.toNat * n ≤ es.length * n := Nat.mul_le_mul_right _ hin
            refine ⟨by rw [List.length_take]; omega, ?_⟩
            rcases g3.2 with ⟨hnil, h0⟩ | ⟨g, cap0, cur, hvv, hbg, hg, hcap, hcm, hcs, htake⟩
            · have hi0 : i.toNat = 0 := by omega
              left
              cases ad with
              | some g => simp [hdrV] at hnil
              | none =>
                simp only [hdrV, Option.map_none, Value.slice.injEq] at hnil
                refine ⟨?_, hi0⟩
                rw [hi0]
                simp only [hdrV, Option.map_none, Value.slice.injEq]
                exact ⟨trivial, trivial, hnil.2.2⟩
            · cases ad with
              | none => simp [hdrV] at hvv
              | some g' =>
                simp only [hdrV, Option.map_some, Value.slice.injEq, Option.some.injEq, Addr.mk.injEq] at hvv
                obtain ⟨⟨rfl, _⟩, _, rfl⟩ := hvv
                refine .inr ⟨g', cp, cur, rfl, hbg, hg, by omega, hcm, hcs, ?_⟩
                rw [← htake, List.take_take, Nat.min_eq_left hmul]
          · intro j f hf
            have h1 : ∀ (ls : List (List F)) (q : Nat), (∀ r ∈ ls, r.length = n) → (ls.take q).flatten = ls.flatten.take (q * n) := fun ls => by
              induction ls with
              | nil => intro q _; simp
              | cons l ls ih =>
                intro q hq
                cases q with
                | zero => simp
                | succ q =>
                  have hl0 := hq l (by simp)
                  rw [List.take_succ_cons, List.flatten_cons, List.flatten_cons, ih q (fun x hx => hq x (by simp [hx]))]
                  have : (q + 1) * n = l.length + q * n := by rw [hl0, Nat.succ_mul]; omega
                  rw [this, List.take_length_add_append]
            rw [h1 es i.toNat g2, List.getElem?_take] at hf
            split at hf
            · rename_i hj
              have e1 : (vs.take (i.toNat * n)).getD j undef = vs.getD j undef := by
                simp only [List.getD_eq_getElem?_getD]
                rw [List.getElem?_take, if_pos hj]
              rw [e1]; exact hp.repF (g4 j f hf)
            · cases hf)
        unfold Oper.wp
        rw [hrun]
        have hsb : H.length ≠ b := fun e => by rw [← e, hfree] at hl; cases hl
        refine hn w _ _ hreg.1 hreg.2 (fun i hi h => ?_) (.buf _ _ _ _ ?_)
        · have hib : i ≠ b := fun e => by rw [e, hl] at h; cases h
          rw [List.getElem?_set_ne (Ne.symm (hi rfl)), List.getElem?_set_ne (Ne.symm hib)]; exact h
        · rw [List.getElem?_set_self (by simp only [List.length_set]; exact (List.getElem?_eq_some_iff.1 hfree).1)]

theorem SOp.app_lt {P : Program} {T : TTab} {n0 b : Nat} {op : Op} {v : V} {x : Blk} (h : SOp P T n0 E H op v (.app b x)) : b < H.length := by
  cases h with
  | no h hx => cases hx with
    | app hc ht hti hs hb hy hx hH hf => exact (List.getElem?_eq_some_iff.1 hH).1
    | cut hx hh ht hti hH hi => exact (List.getElem?_eq_some_iff.1 hH).1

/-- What calls mean to the evaluator: K follows where the call goes. -/
def CallsOk (Γ : Ctx) (C : Calling) : Prop := (∀ g args E H K, C.call g args E H K → ACall Γ.P g args E H K) ∧ ∀ op E H K, C.raw op E H K → AOp Γ.P op E H K

/-- In the text's order: blocks come at the end. -/
theorem SOp.goes {T : TTab} (hT : TOk Γ.P T) {n0 : Nat} {v : V} {eff : Eff} (hs : SOp Γ.P T n0 E H o.op v eff) (hm : Mem Γ H w μ) (hop : ∀ x ∈ o.op.operands.toList, Rep Γ w μ (opd E x) (a.eval x))
    (next : Act → World → Prop) (Q : Exit → Act → World → Prop) (hn : ∀ w' μ' cv, Mem Γ (eff.run H) w' μ' → Pres Γ w μ w' μ' → Rep Γ w' μ' v cv → next (a.put o.dst cv) w') : o.wp Γ.P a w next Q := by
  cases hnew : eff.news with
  | false =>
    refine hs.replay hT (s := 0) hm hop (fun _ _ _ _ h => h) (fun h => by rw [hnew] at h; cases h) next Q fun w' μ' cv h1 h2 _ h3 => ?_
    have e : eff.at_ 0 H = eff.run H := by cases eff <;> first | rfl | cases hnew
    rw [e] at h1
    exact hn w' μ' cv h1 h2 h3
  | true =>
    obtain ⟨hm1, hp1⟩ := hm.pad
    refine hs.replay hT (s := H.length) hm1 (fun x hx => hp1.rep (hop x hx)) (fun b wr x _ h => ?_) (fun _ => ⟨rfl, ?_⟩) next Q fun w' μ' cv h1 h2 _ h3 => ?_
    · rw [nth_eq] at h ⊢
      rw [List.getElem?_append_left (List.getElem?_eq_some_iff.1 h).1]; exact h
    · rw [← hm.len]; simp
    · have e : eff.at_ H.length (H ++ [.dead]) = eff.run H := by
        cases eff with
        | none => cases hnew
        | set => cases hnew
        | new x => simp only [Eff.at_, Eff.run, setB_eq]; simp
        | app b x =>
          simp only [Eff.at_, Eff.run, setB_eq]
          by_cases hb : b < H.length
          · rw [List.set_append_left _ _ hb]; simp
          · exact absurd hs.app_lt hb
      rw [e] at h1
      exact hn w' μ' cv h1 (hp1.trans h2) h3

theorem call_goes {T : TTab} (hT : TOk Γ.P T) {C : Calling} (hC : CallsOk Γ C) {n0 : Nat} {E0 : Env} {g : Nat} {args : List V} {K : V → Env → Heap → Prop} (he : evalP T n0 E H o.op = .call g args) (hc : C.call g args E0 H K) (hm : Mem Γ H w μ) (hE : EnvOk Γ w μ E0 a.tmps)
    (hop : ∀ x ∈ o.op.operands.toList, Rep Γ w μ (opd E x) (a.eval x)) (next : Act → World → Prop) (Q : Exit → Act → World → Prop)
    (hn : ∀ v E' H' w' μ' cv, K v E' H' → Mem Γ H' w' μ' → EnvOk Γ w' μ' E' a.tmps → Rep Γ w' μ' v cv → next (a.put o.dst cv) w') : o.wp Γ.P a w next Q := by
  have hs := evalP_sound hT (n0 := n0) (E := E) (H := H) hm hop (fun _ _ _ h => h)
  rw [he] at hs
  obtain ⟨cargs, h1, h2⟩ := hs
  unfold Oper.wp
  rw [h1]
  rcases (hC.1 _ _ _ _ _ hc).go Γ w μ cargs a.tmps rfl hm hE h2 with ⟨h3, h4⟩ | ⟨v, w', h3, v', E', H', μ', h5, h6, h7, h8⟩
  · rw [h3]
    refine Calls.mono h4 fun e w' ⟨cv, he, v', E', H', μ', h5, h6, h7, h8⟩ => ?_
    subst he
    exact hn v' E' H' w' μ' cv h5 h6 h7 h8
  · rw [h3]
    exact hn v' E' H' w' μ' v h5 h6 h7 h8

end Go.AW

