/- AW, part 0: abstract values and states, and the evaluator of operations and of code (recursors, no compiled recursion: 'conv => whnf' and the kernel then go the same way). -/
import Derived.Calls
import Derived.Below
import Derived.Orders
namespace Go.AW
open Go

/-- A cell of what nobody writes any more. -/
inductive F : Type where
  | sc (v : Value)
  | sl (n b : Nat) (es : List (List F))

/-- What stands in a slot, or in a cell of the call's own. -/
inductive V : Type where
  | fr (f : F)
  | agg (xs : List V)
  | ptr (b o : Nat)
  | fptr (es : List F) (o : Nat)
  | buf (b : Nat)
  | clo (fn : Nat) (caps : List V)
  | ifc (t : Nat) (x : V)
  | tup (xs : List V)
  | bad

inductive Blk : Type where
  | cells (xs : List V)
  | buf (e n b : Nat) (es : List (List F))
  | dead

inductive TK : Type where
  | int (k : IntKind) | bool | str | flt (k : FloatKind) | ptr (e : Nat) | sli (e : Nat) | arr (n e : Nat)
  | st (fs : List (Nat × Nat)) (q : Bool) | map (k e : Nat) | fn | ifc | tup | oth

/-- A type's row: its kind, its cells, its bytes, its zero value's cells. -/
structure TI where
  k : TK
  sz : Nat
  by_ : Nat
  zero : List F

abbrev TTab := List (Nat × TI)
abbrev Env := List (Nat × V)
abbrev Heap := List Blk

noncomputable def TTab.get (T : TTab) (u : Nat) : Option TI :=
  List.rec (motive := fun _ => Option TI) none (fun p _ ih => match Nat.beq p.1 u with | true => some p.2 | false => ih) T

noncomputable def look (E : Env) (u : Nat) : V :=
  List.rec (motive := fun _ => V) .bad (fun p _ ih => match Nat.beq p.1 u with | true => p.2 | false => ih) E

abbrev I64 (n : Int) : V := .fr (.sc (.int .i64 n))
abbrev B1 (b : Bool) : V := .fr (.sc (.bool b))
abbrev S1 (s : ByteArray) : V := .fr (.sc (.string s))
/-- A struct all of whose cells are such. -/
abbrev fv (l : List F) : V := .agg (l.map .fr)

def constV : Value → V
  | .agg cs => .agg (cs.toList.map fun v => .fr (.sc v))
  | .tuple _ => .bad
  | v => .fr (.sc v)

noncomputable def opd (E : Env) : Operand → V
  | .tmp t => look E t
  | .const v => constV v
  | .global _ => .bad
  | .func f => .clo f []

/-- A zero cell as it stands in memory: a nil slice is exactly nil. -/
def zeroC : F → V
  | .sl _ _ _ => .fr (.sc (.slice none 0 0))
  | f => .fr f

/-- A cell at a type's cell: a nil slice as the empty list of elements of that size. -/
def nrm1 : F → V → V
  | .sl k b _, .fr (.sc (.slice none 0 0)) => .fr (.sl k b [])
  | _, v => v

noncomputable def nrmL (z : List F) : List V → List V :=
  List.rec (motive := fun _ => List V → List V) (fun xs => xs) (fun f _ ih xs => match xs with | [] => [] | x :: r => nrm1 f x :: ih r) z

/-- An operand as an argument of a type. -/
noncomputable def nrmV (T : TTab) (t : Nat) (v : V) : V := match T.get t with
  | some ti => (match v with
    | .agg xs => .agg (nrmL ti.zero xs)
    | v => (match ti.zero with | f :: _ => nrm1 f v | [] => v))
  | none => v

def bsel (b : Bool) (x y : Prop) : Prop := match b with | true => x | false => y

def cellsV : V → List V
  | .agg xs => xs
  | v => [v]

/-- The cells of a value that has n of them. -/
noncomputable def cellsN (n : Nat) (v : V) : Option (List V) := match v with
  | .bad => none
  | .tup _ => none
  | v => (match Nat.beq (cellsV v).length n with | true => some (cellsV v) | false => none)

noncomputable def takeL {α : Type} (n : Nat) : List α → Option (List α) :=
  Nat.rec (motive := fun _ => List α → Option (List α)) (fun _ => some []) (fun _ ih l => match l with
    | [] => none
    | x :: r => match ih r with | some s => some (x :: s) | none => none) n

noncomputable def dropL {α : Type} (n : Nat) : List α → List α :=
  Nat.rec (motive := fun _ => List α → List α) (fun l => l) (fun _ ih l => match l with
    | [] => []
    | _ :: r => ih r) n

noncomputable def nth {α : Type} (l : List α) (n : Nat) : Option α := match dropL n l with | x :: _ => some x | [] => none

/-- The list with the piece from o on replaced. -/
noncomputable def splice {α : Type} (o : Nat) (vs : List α) (xs : List α) : Option (List α) :=
  Nat.rec (motive := fun _ => List α → Option (List α))
    (fun xs => List.rec (motive := fun _ => List α → Option (List α)) (fun xs => some xs) (fun v _ ih xs => match xs with
      | [] => none
      | _ :: r => match ih r with | some s => some (v :: s) | none => none) vs xs)
    (fun _ ih xs => match xs with
      | [] => none
      | x :: r => match ih r with | some s => some (x :: s) | none => none) o xs

def isAggK : TK → Bool
  | .st _ _ | .arr _ _ => true
  | _ => false

noncomputable def loadV (ti : TI) (xs : List V) : Option V :=
  match isAggK ti.k with
  | true => (match takeL ti.sz xs with | some l => some (.agg l) | none => none)
  | false => (match xs with | v :: _ => some v | [] => none)

def frF : V → Option F
  | .fr f => some f
  | _ => none

noncomputable def allF (l : List V) : Option (List F) :=
  List.rec (motive := fun _ => Option (List F)) (some []) (fun v _ ih => match v with
    | .fr f => (match ih with | some s => some (f :: s) | none => none)
    | _ => none) l

noncomputable def rowsF (z : List F) (n : Nat) (l : List V) : Option (List (List F)) :=
  List.rec (motive := fun _ => Option (List (List F))) (some []) (fun v _ ih => match cellsN n v with
    | some c => (match allF (nrmL z c), ih with
      | some e, some s => some (e :: s)
      | _, _ => none)
    | none => none) l

noncomputable def setB (H : Heap) (n : Nat) (b : Blk) : Heap :=
  Nat.rec (motive := fun _ => Heap → Heap) (fun H => match H with | [] => [] | _ :: r => b :: r) (fun _ ih H => match H with | [] => [] | x :: r => x :: ih r) n H

def sless (a b : ByteArray) : Bool := Op.bytesLess a.toList b.toList

/-! ### Forcing: a value is brought to its head before it goes on -/
def fcF (f : F) (K : F → Prop) : Prop := match f with
  | .sc x => (match x with
    | .int k n => K (.sc (.int k n))
    | .bool b => K (.sc (.bool b))
    | .string s => K (.sc (.string s))
    | x => K (.sc x))
  | .sl n b es => K (.sl n b es)

def fc0 (v : V) (K : V → Prop) : Prop := match v with
  | .fr f => fcF f fun f => K (.fr f)
  | v => K v

noncomputable def fcL (l : List V) : (List V → Prop) → Prop := List.rec (motive := fun _ => (List V → Prop) → Prop) (fun K => K []) (fun x _ ih K => fc0 x fun x => ih fun r => K (x :: r)) l

noncomputable def fc1 (v : V) (K : V → Prop) : Prop := match v with
  | .agg xs => fcL xs fun xs => K (.agg xs)
  | .tup xs => fcL xs fun xs => K (.tup xs)
  | .clo f xs => fcL xs fun xs => K (.clo f xs)
  | .ifc t x => fc0 x fun x => K (.ifc t x)
  | v => fc0 v K

def fcB (b : Blk) (K : Blk → Prop) : Prop := match b with
  | .cells xs => K (.cells xs)
  | .buf e n nb es => K (.buf e n nb es)
  | .dead => K .dead

noncomputable def fcH (H : Heap) : (Heap → Prop) → Prop := List.rec (motive := fun _ => (Heap → Prop) → Prop) (fun K => K []) (fun x _ ih K => fcB x fun x => ih fun r => K (x :: r)) H

theorem fcF_eq (f : F) (K : F → Prop) : fcF f K = K f := by unfold fcF; split <;> (try split) <;> rfl
theorem fc0_eq (v : V) (K : V → Prop) : fc0 v K = K v := by
  unfold fc0; split
  · exact fcF_eq _ _
  · rfl
theorem fcL_eq (l : List V) (K : List V → Prop) : fcL l K = K l := by
  induction l generalizing K with
  | nil => rfl
  | cons x r ih => show fc0 x (fun x => fcL r fun r => K (x :: r)) = K (x :: r); rw [fc0_eq, ih]
theorem fc1_eq (v : V) (K : V → Prop) : fc1 v K = K v := by
  unfold fc1; split
  · exact fcL_eq _ _
  · exact fcL_eq _ _
  · exact fcL_eq _ _
  · exact fc0_eq _ _
  · exact fc0_eq _ _
theorem fcB_eq (b : Blk) (K : Blk → Prop) : fcB b K = K b := by unfold fcB; split <;> rfl
theorem fcH_eq (H : Heap) (K : Heap → Prop) : fcH H K = K H := by
  induction H generalizing K with
  | nil => rfl
  | cons x r ih => show fcB x (fun x => fcH r fun r => K (x :: r)) = K (x :: r); rw [fcB_eq, ih]

inductive PR where
  | val (v : V)
  | side (p : Prop) (v : V)
  | pick (c : Bool) (a b : V)
  | idx (es : List (List F)) (i : Int)
  | str (s : ByteArray) (i : Int)
  | ex (p : V → Prop)
  | new (xs : List V)
  | call (f : Nat) (args : List V)
  | no

def intOp (op : BinOp) (i : IntKind) (a b : Int) : PR :=
  match op with
  | .add => .val (.fr (.sc (.int i (i.wrap (a + b)))))
  | .sub => .val (.fr (.sc (.int i (i.wrap (a - b)))))
  | .mul => .val (.fr (.sc (.int i (i.wrap (a * b)))))
  | .eql => .val (B1 (a == b))
  | .neq => .val (B1 (a != b))
  | .lss => .val (B1 (decide (a < b)))
  | .leq => .val (B1 (decide (a ≤ b)))
  | .gtr => .val (B1 (decide (a > b)))
  | .geq => .val (B1 (decide (a ≥ b)))
  | .quo => .side (b ≠ 0) (.fr (.sc (.int i (i.wrap (a.tdiv b)))))
  | .rem => .side (b ≠ 0) (.fr (.sc (.int i (a.tmod b))))
  | .and => .val (.fr (.sc (.int i (i.wrap (BitVec.ofInt i.bits a &&& BitVec.ofInt i.bits b).toNat))))
  | .or => .val (.fr (.sc (.int i (i.wrap (BitVec.ofInt i.bits a ||| BitVec.ofInt i.bits b).toNat))))
  | .xor => .val (.fr (.sc (.int i (i.wrap (BitVec.ofInt i.bits a ^^^ BitVec.ofInt i.bits b).toNat))))
  | _ => .no

def strOp (op : BinOp) (a b : ByteArray) : PR :=
  match op with
  | .eql => .val (B1 (decide (a = b)))
  | .neq => .val (B1 (!decide (a = b)))
  | .lss => .val (B1 (sless a b))
  | .leq => .val (B1 (sless a b || decide (a = b)))
  | .gtr => .val (B1 (!(sless a b || decide (a = b))))
  | .geq => .val (B1 (!sless a b))
  | .add => .side ((a.size + b.size : Nat) ≤ 9223372036854775807) (S1 (a ++ b))
  | _ => .no

def kCode : IntKind → Nat
  | .i8 => 0 | .i16 => 1 | .i32 => 2 | .i64 => 3 | .u8 => 4 | .u16 => 5 | .u32 => 6 | .u64 => 7

def eqV : Nat → V → V → Option Bool
  | 0, .fr (.sc (.int k a)), .fr (.sc (.int k' b)) => (match Nat.beq (kCode k) (kCode k') with | true => some (a == b) | false => none)
  | 1, .fr (.sc (.bool a)), .fr (.sc (.bool b)) => some (a == b)
  | 2, .fr (.sc (.string a)), .fr (.sc (.string b)) => some (decide (a = b))
  | _, _, _ => none

/-- Two structs of a type, field by field. -/
noncomputable def eqT (T : TTab) (n : Nat) : Nat → List V → List V → Option Bool :=
  Nat.rec (motive := fun _ => Nat → List V → List V → Option Bool) (fun _ _ _ => none) (fun _ ih t xs ys => match T.get t with
    | some ⟨.st fs true, _, _, _⟩ => List.rec (motive := fun _ => Option Bool) (some true) (fun p _ r => match T.get p.2 with
        | some ti => (match ti.k with
          | .st _ _ => (match takeL ti.sz (dropL p.1 xs), takeL ti.sz (dropL p.1 ys) with
            | some l, some m => (match ih p.2 l m, r with | some a, some b => some (a && b) | _, _ => none)
            | _, _ => none)
          | .int _ => (match nth xs p.1, nth ys p.1 with | some x, some y => (match eqV 0 x y, r with | some a, some b => some (a && b) | _, _ => none) | _, _ => none)
          | .bool => (match nth xs p.1, nth ys p.1 with | some x, some y => (match eqV 1 x y, r with | some a, some b => some (a && b) | _, _ => none) | _, _ => none)
          | .str => (match nth xs p.1, nth ys p.1 with | some x, some y => (match eqV 2 x y, r with | some a, some b => some (a && b) | _, _ => none) | _, _ => none)
          | _ => none)
        | none => none) fs
    | _ => none) n

noncomputable def binP (T : TTab) (op : BinOp) (t : Nat) (x y : V) : PR :=
  match x, y with
  | .fr (.sc (.int i a)), .fr (.sc (.int j b)) => (match op with
    | .shl => .no
    | .shr => .no
    | op => (match Nat.beq (kCode i) (kCode j) with | true => intOp op i a b | false => .no))
  | .fr (.sc (.string a)), .fr (.sc (.string b)) => strOp op a b
  | .fr (.sc (.bool a)), .fr (.sc (.bool b)) => (match T.get t with
    | some ⟨.bool, _, _, _⟩ => (match op with
      | .eql => .val (B1 (a == b))
      | .neq => .val (B1 (a != b))
      | _ => .no)
    | _ => .no)
  | .agg xs, .agg ys => (match op with
    | .eql => (match eqT T 8 t xs ys with | some b => .val (B1 b) | none => .no)
    | .neq => (match eqT T 8 t xs ys with | some b => .val (B1 (!b)) | none => .no)
    | _ => .no)
  | .fr (.sc (.float k a)), .fr (.sc (.float k' b)) => (match T.get t with
    | some ⟨.flt _, _, _, _⟩ => (match k, k' with
      | .f64, .f64 => (match op with
        | .eql => .val (B1 (Op.floatEq .f64 a b))
        | .neq => .val (B1 (!Op.floatEq .f64 a b))
        | _ => .no)
      | _, _ => .no)
    | _ => .no)
  | _, _ => .no

noncomputable def fillC (zero : List V) (ps : List (Nat × List V)) : Option (List V) :=
  List.rec (motive := fun _ => List V → Option (List V)) (fun z => some z) (fun p _ ih z => match splice p.1 p.2 z with
    | some z' => ih z'
    | none => none) ps zero

noncomputable def partsAt (f : Nat → Option (Nat × Nat)) (E : Env) (ps : List (Nat × Operand)) : Option (List (Nat × List V)) :=
  List.rec (motive := fun _ => Option (List (Nat × List V))) (some []) (fun p _ ih => match f p.1, ih with
    | some (o, n), some r => (match cellsN n (opd E p.2) with | some c => some ((o, c) :: r) | none => none)
    | _, _ => none) ps

/-- n, n + 1, .. -/
noncomputable def seqB (n : Nat) (l : List Nat) : Bool := List.rec (motive := fun _ => Nat → Bool) (fun _ => true) (fun i _ ih n => match Nat.beq i n with | true => ih (n + 1) | false => false) l n

noncomputable def allT (T : TTab) (fs : List (Nat × Nat)) : Bool := List.rec (motive := fun _ => Bool) true (fun p _ ih => match T.get p.2 with | some _ => ih | none => false) fs

noncomputable def szOf (T : TTab) (t : Nat) : Nat := match T.get t with | some i => i.sz | none => 0

noncomputable def boundI (E : Env) (x : Option Operand) (d : Int) : Option Int := match x with
  | none => some d
  | some x => (match opd E x with
    | .fr (.sc (.int _ i)) => some i
    | _ => none)

/-- A call, of a function or of what reads alone. -/
noncomputable def evalC (T : TTab) (n0 : Nat) (E : Env) (H : Heap) (c : Call) : PR :=
  match c.callee with
  | .value f => (match opd E f with
    | .clo g caps => (match Nat.beq c.args.toList.length c.argTypes.toList.length with
      | true => .call g ((c.args.toList.zip c.argTypes.toList).map (fun p => nrmV T p.2 (opd E p.1)) ++ caps)
      | false => .no)
    | _ => .no)
  | .builtin .min => (match c.args.toList with
    | [x, y] => (match opd E x, opd E y with
      | .fr (.sc (.int i p)), .fr (.sc (.int j q)) => (match Nat.beq (kCode i) (kCode j) with | true => .val (.fr (.sc (.int i (min p q)))) | false => .no)
      | _, _ => .no)
    | _ => .no)
  | .builtin .max => (match c.args.toList with
    | [x, y] => (match opd E x, opd E y with
      | .fr (.sc (.int i p)), .fr (.sc (.int j q)) => (match Nat.beq (kCode i) (kCode j) with | true => .val (.fr (.sc (.int i (max p q)))) | false => .no)
      | _, _ => .no)
    | _ => .no)
  | .builtin .len => (match c.args.toList with
    | [x] => (match c.argTypes.toList with
      | [t] => (match T.get t with
        | some ⟨.sli _, _, _, _⟩ => (match opd E x with
          | .fr (.sl _ _ es) => .val (I64 es.length)
          | .fr (.sc (.slice none 0 0)) => .val (I64 0)
          | .buf b => (match Nat.blt b n0, nth H b with
            | true, some (.buf _ _ _ es) => .val (I64 es.length)
            | _, _ => .no)
          | _ => .no)
        | some ⟨.str, _, _, _⟩ => (match opd E x with
          | .fr (.sc (.string s)) => .val (I64 s.size)
          | _ => .no)
        | some ⟨.arr n _, _, _, _⟩ => .val (I64 n)
        | _ => .no)
      | _ => .no)
    | _ => .no)
  | _ => .no

/-- The operations that change nothing that was there: what they come to. n0: a load goes to blocks below it alone. -/
noncomputable def evalP (T : TTab) (n0 : Nat) (E : Env) (H : Heap) (op : Op) : PR :=
  match op with
  | .move x => .val (opd E x)
  | .assign x => .val (opd E x)
  | .pick c a b => (match opd E c with
    | .fr (.sc (.bool c)) => .pick c (opd E a) (opd E b)
    | _ => .no)
  | .alloc t => (match T.get t with
    | some ti => .new (ti.zero.map zeroC)
    | none => .no)
  | .box t x => (match cellsN (szOf T t) (opd E x) with | some c => .new c | none => .no)
  | .load t a => (match T.get t with
    | some ti => (match opd E a with
      | .ptr b o => (match Nat.blt b n0 with
        | true => (match nth H b with
          | some (.cells xs) => (match loadV ti (dropL o xs) with
            | some v => .val v
            | none => .no)
          | _ => .no)
        | false => .no)
      | .fptr es o => (match loadV ti (dropL o (es.map .fr)) with
        | some v => .val v
        | none => .no)
      | _ => .no)
    | none => .no)
  | .fieldAddr s x f => (match T.get s with
    | some ⟨.st fs _, _, _, _⟩ => (match nth fs f with
      | some (o', t') => (match szOf T t' with
        | 0 => .no
        | _ + 1 => (match opd E x with
          | .ptr b o => .val (.ptr b (o + o'))
          | .fptr es o => .val (.fptr es (o + o'))
          | _ => .no))
      | none => .no)
    | _ => .no)
  | .field s x f => (match T.get s with
    | some ⟨.st fs _, _, _, _⟩ => (match nth fs f with
      | some (o', t') => (match T.get t', opd E x with
        | some ti, .agg xs => (match loadV ti (dropL o' xs) with
          | some v => .val v
          | none => .no)
        | _, _ => .no)
      | none => .no)
    | _ => .no)
  | .indexAddr t x i => (match T.get t with
    | some ⟨.arr n e, _, _, _⟩ => (match T.get e, opd E i with
      | some ti, .fr (.sc (.int _ (.ofNat q))) => (match Nat.blt q n, opd E x with
        | true, .ptr b o => .val (.ptr b (o + q * ti.sz))
        | true, .fptr es o => .val (.fptr es (o + q * ti.sz))
        | _, _ => .no)
      | _, _ => .no)
    | some ⟨.sli e, _, _, _⟩ => (match T.get e, opd E x, opd E i with
      | some ti, .fr (.sl n _ es), .fr (.sc (.int _ i)) => (match Nat.beq n ti.sz with | true => .idx es i | false => .no)
      | _, _, _ => .no)
    | _ => .no)
  | .index t x i => (match T.get t with
    | some ⟨.str, _, _, _⟩ => (match opd E x, opd E i with
      | .fr (.sc (.string s)), .fr (.sc (.int _ i)) => .str s i
      | _, _ => .no)
    | some ⟨.arr n e, _, _, _⟩ => (match T.get e, opd E i, opd E x with
      | some ti, .fr (.sc (.int _ (.ofNat q))), .agg xs => (match Nat.blt q n, loadV ti (dropL (q * ti.sz) xs) with
        | true, some v => .val v
        | _, _ => .no)
      | _, _, _ => .no)
    | _ => .no)
  | .binOp op t x y _ => binP T op t (opd E x) (opd E y)
  | .unOp op _ x => (match op, opd E x with
    | .not, .fr (.sc (.bool b)) => .val (B1 (!b))
    | .neg, .fr (.sc (.int k n)) => .val (.fr (.sc (.int k (k.wrap (0 - n)))))
    | _, _ => .no)
  | .convert a b x => (match T.get b with
    | some ⟨.int k, _, _, _⟩ => (match T.get a, opd E x with
      | some _, .fr (.sc (.int _ n)) => .val (.fr (.sc (.int k (k.wrap n))))
      | _, _ => .no)
    | some ⟨.str, _, _, _⟩ => (match T.get a, opd E x with
      | some _, .fr (.sc (.string s)) => .val (S1 s)
      | _, _ => .no)
    | _ => .no)
  | .build t ps => (match T.get t with
    | some ⟨.st fs _, _, _, z⟩ => (match allT T fs, partsAt (fun i => match nth fs i with | some (o, t') => some (o, szOf T t') | none => none) E ps.toList with
      | true, some l => (match fillC (z.map zeroC) l with
        | some xs => .val (.agg xs)
        | none => .no)
      | _, _ => .no)
    | some ⟨.arr _ e, _, _, z⟩ => (match T.get e with
      | some ti => (match partsAt (fun i => some (i * ti.sz, ti.sz)) E ps.toList with
        | some l => (match fillC (z.map zeroC) l with
          | some xs => .val (.agg xs)
          | none => .no)
        | none => .no)
      | none => .no)
    | _ => .no)
  | .buildSlice t len ps => (match T.get t with
    | some ⟨.sli e, _, _, _⟩ => (match T.get e with
      | some ti => (match seqB 0 (ps.toList.map Prod.fst), (match Nat.beq ps.toList.length len with | true => (match Nat.ble (len * ti.sz) 16777216 with | true => Nat.ble (len * ti.by_) 140737488355328 | false => false) | false => false), rowsF ti.zero ti.sz (ps.toList.map fun p => opd E p.2) with
        | true, true, some es => .val (.fr (.sl ti.sz ti.by_ es))
        | _, _, _ => .no)
      | none => .no)
    | _ => .no)
  | .slice t x lo hi none => (match T.get t with
    | some ⟨.str, _, _, _⟩ => (match opd E x with
      | .fr (.sc (.string s)) => (match boundI E lo 0, boundI E hi s.size with
        | some l, some h => .side (0 ≤ l ∧ l ≤ h ∧ h ≤ (s.size : Int)) (S1 (s.extract l.toNat h.toNat))
        | _, _ => .no)
      | _ => .no)
    | some ⟨.sli e, _, _, _⟩ => (match T.get e with
      | some ti => (match opd E x with
        | .fr (.sl n b es) => (match Nat.beq n ti.sz, boundI E lo 0, boundI E hi es.length with
          | true, some l, some h => .side (0 ≤ l ∧ l ≤ h ∧ h ≤ (es.length : Int)) (.fr (.sl n b ((es.take h.toNat).drop l.toNat)))
          | _, _, _ => .no)
        | _ => .no)
      | none => .no)
    | _ => .no)
  | .extract x i => (match opd E x with
    | .tup xs => (match nth xs i with
      | some v => .val v
      | none => .no)
    | _ => .no)
  | .makeInterface t x => (match T.get t with
    | some ⟨.ifc, _, _, _⟩ => .no
    | some ⟨.oth, _, _, _⟩ => .no
    | some _ => .val (.ifc t (opd E x))
    | none => .no)
  | .makeFunc (.func f) first cs => (match first.toList with | [] => .val (.clo f (cs.toList.map (opd E))) | _ => .no)
  | .nilCheck x => (match opd E x with
    | .ptr b o => .val (.ptr b o)
    | .fptr es o => .val (.fptr es o)
    | .ifc t v => .val (.ifc t v)
    | .clo f c => .val (.clo f c)
    | _ => .no)
  | .call c => evalC T n0 E H c
  | _ => .no

/-- What is appended: the elements' size, and they. -/
noncomputable def rowsOf (n : Nat) (v : V) (H : Heap) : Option (List (List F)) := match v with
  | .fr (.sl m _ es) => (match Nat.beq m n with | true => some es | false => none)
  | .fr (.sc (.slice none 0 0)) => some []
  | .buf b => (match nth H b with
    | some (.buf _ m _ es) => (match Nat.beq m n with | true => some es | false => none)
    | _ => none)
  | _ => none

/-- The operations that write. -/
noncomputable def evalX (T : TTab) (E : Env) (H : Heap) (op : Op) (K : V → Heap → Prop) : Prop :=
  match op with
  | .store t a x => (match opd E a with
    | .ptr b o => (match nth H b with
      | some (.cells xs) => (match T.get t with
        | some ti => (match cellsN ti.sz (opd E x) with
          | some c => (match splice o c xs with
            | some ys => fcL ys fun ys => fcH (setB H b (.cells ys)) fun H' => K (.tup []) H'
            | none => False)
          | none => False)
        | none => False)
      | _ => False)
    | _ => False)
  | .call c => (match c.callee with
    | .builtin .append => (match c.args.toList, c.argTypes.toList with
      | [x, y], [t, t'] => (match Nat.beq t t', T.get t with
        | true, some ⟨.sli e, _, _, _⟩ => (match T.get e with
          | some ti => (match ti.sz, ti.by_, rowsOf ti.sz (opd E y) H with
            | _ + 1, _ + 1, some ys => (match opd E x with
              | .buf b => (match nth H b with
                | some (.buf e' n by_ es) => (match Nat.beq e e', Nat.beq n ti.sz, Nat.beq by_ ti.by_ with
                  | true, true, true => (es.length + ys.length) * by_ ≤ 140737488355328 ∧ fcH (setB H b .dead ++ [.buf e n by_ (es ++ ys)]) fun H' => K (.buf H.length) H'
                  | _, _, _ => False)
                | _ => False)
              | .fr (.sc (.slice none 0 0)) => ys.length * ti.by_ ≤ 140737488355328 ∧ fcH (H ++ [.buf e ti.sz ti.by_ ys]) fun H' => K (.buf H.length) H'
              | _ => False)
            | _, _, _ => False)
          | none => False)
        | _, _ => False)
      | _, _ => False)
    | _ => False)
  | _ => False

/-! ### The evaluator -/
structure AIdx (es : List (List F)) (i : Int) (k : List F → Prop) : Prop where
  h : ∃ e, 0 ≤ i ∧ es[i.toNat]? = some e ∧ k e
structure AStr (s : ByteArray) (i : Int) (k : Nat → Prop) : Prop where
  h : ∃ h : i.toNat < s.size, 0 ≤ i ∧ k (s[i.toNat]'h).toNat
structure AEx (p : V → Prop) (k : V → Prop) : Prop where
  h : ∃ v, p v ∧ k v

/-- What an operation reads (false) or writes (true) of the blocks. -/
noncomputable def touch0 (wr : Bool) : V → List (Nat × Bool)
  | .buf b => [(b, wr)]
  | .ptr b _ => [(b, wr)]
  | _ => []

noncomputable def touchL (wr : Bool) (l : List V) : List (Nat × Bool) := List.rec (motive := fun _ => List (Nat × Bool)) [] (fun x _ ih => List.append (touch0 wr x) ih) l

noncomputable def touch1 (wr : Bool) : V → List (Nat × Bool)
  | .agg xs => touchL wr xs
  | .tup xs => touchL wr xs
  | v => touch0 wr v

noncomputable def touchV (wr : Bool) : V → List (Nat × Bool)
  | .clo _ xs => List.rec (motive := fun _ => List (Nat × Bool)) [] (fun x _ ih => List.append (touch1 wr x) ih) xs
  | v => touch1 wr v

noncomputable def touchA (E : Env) (l : List Operand) : List (Nat × Bool) := List.rec (motive := fun _ => List (Nat × Bool)) [] (fun x _ ih => List.append (touchV false (opd E x)) ih) l

noncomputable def touch (E : Env) : Op → List (Nat × Bool)
  | .load _ x => touchV false (opd E x)
  | .store _ x _ => touchV true (opd E x)
  | .call c => (match c.callee with
    | .builtin .append => (match c.args.toList with
      | [x, y] => List.append (touchV true (opd E x)) (touchV false (opd E y))
      | _ => [])
    | .value f => touchA E (f :: c.args.toList)
    | _ => touchA E c.args.toList)
  | _ => []

/-- What is known of a call: C, with the state it begins in and what is to hold then. -/
abbrev Calling := Nat → List V → Env → Heap → (V → Env → Heap → Prop) → Prop

/-- On from what an operation comes to. -/
noncomputable def xopR (C : Calling) (T : TTab) (E : Env) (H : Heap) (r : PR) (op : Op) (K : V → Env → Heap → Prop) : Prop :=
  match r with
  | .val v => fc1 v fun v => K v E H
  | .side p v => p ∧ fc1 v fun v => K v E H
  | .pick c x y => bsel c (fc1 x fun x => K x E H) (fc1 y fun y => K y E H)
  | .idx es i => AIdx es i fun e => K (.fptr e 0) E H
  | .str s i => AStr s i fun b => K (.fr (.sc (.int .u8 b))) E H
  | .ex p => AEx p fun v => K v E H
  | .new xs => fcL xs fun xs => fcH (H ++ [.cells xs]) fun H' => K (.ptr H.length 0) E H'
  | .call f args => fcL args fun args => C f args E H K
  | .no => evalX T E H op fun v H => K v E H

noncomputable def dstOf (ops : List Oper) (j : Nat) : Option Nat := match nth ops j with | some o => o.dst | none => none

def setE (E : Env) : Option Nat → V → Env
  | some d, v => (d, v) :: E
  | none, _ => E

/-! ### A region whose order is drawn -/
abbrev Tch := List (Nat × List (Nat × Bool))

def bindsB (e : Edge) : Bool := match e.ground with
  | .textOnly _ => false
  | .gcOnly _ => false
  | _ => true

/-- What comes before each operation, as bits. -/
noncomputable def masks (ops : List Oper) : List Nat :=
  List.rec (motive := fun _ => List Nat → List Nat) (fun m => m)
    (fun o _ ih m => ih (List.append m [List.rec (motive := fun _ => Nat) 0 (fun e _ r => match bindsB e with
      | true => Nat.lor (Nat.lor r (Nat.pow 2 e.on)) (match nth m e.on with | some x => x | none => 0)
      | false => r) o.after.toList])) ops []

noncomputable def before (ops : List Oper) (j i : Nat) : Bool := match nth (masks ops) i with
  | some m => (match Nat.beq (Nat.land (Nat.shiftRight m j) 1) 0 with | true => false | false => true)
  | none => false

/-- Two such are at odds: the same block, and one writes. -/
noncomputable def odds1 (p : Nat × Bool) (l : List (Nat × Bool)) : Bool := List.rec (motive := fun _ => Bool) false (fun q _ ih => match Nat.beq p.1 q.1 with
  | true => (match p.2, q.2 with | false, false => ih | _, _ => true)
  | false => ih) l

noncomputable def odds (l m : List (Nat × Bool)) : Bool := List.rec (motive := fun _ => Bool) false (fun p _ ih => match odds1 p m with | true => true | false => ih) l

noncomputable def agree (all : List Oper) (i : Nat) (ts : List (Nat × Bool)) (acc : Tch) : Bool := List.rec (motive := fun _ => Bool) true (fun p _ ih => match odds ts p.2 with
  | true => (match before all p.1 i with | true => ih | false => false)
  | false => ih) acc

/-! ### Guards -/
/-- Slots whose content hangs on another one: (t, d, w, v): t holds v if d holds w, else nothing. -/
abbrev GEnv := List (Nat × Nat × Bool × V)

noncomputable def findG (G : GEnv) (t : Nat) : Option (Nat × Bool × V) := List.rec (motive := fun _ => Option (Nat × Bool × V)) none (fun p _ ih => match Nat.beq p.1 t with | true => some p.2 | false => ih) G

noncomputable def memA (d : Nat) (w : Bool) (A : List (Nat × Bool)) : Bool := List.rec (motive := fun _ => Bool) false (fun p _ ih => match Nat.beq p.1 d with
  | true => (match p.2, w with | true, true => true | false, false => true | _, _ => ih)
  | false => ih) A

/-- What holds if d holds w. -/
noncomputable def asm (G : GEnv) (n : Nat) : Nat → Bool → List (Nat × Bool) := Nat.rec (motive := fun _ => Nat → Bool → List (Nat × Bool)) (fun d w => [(d, w)])
  (fun _ ih d w => (d, w) :: (match findG G d with | some (d2, w2, _) => ih d2 w2 | none => [])) n

noncomputable def envB (A : List (Nat × Bool)) (E : Env) : Env := List.rec (motive := fun _ => Env) E (fun p _ ih => (p.1, B1 p.2) :: ih) A

noncomputable def envA (G : GEnv) (A : List (Nat × Bool)) (E : Env) : Env := List.rec (motive := fun _ => Env) (envB A E) (fun p _ ih => match memA p.2.1 p.2.2.1 A with | true => (p.1, p.2.2.2) :: ih | false => ih) G

def eqw (b w : Bool) : Bool := match w with | true => b | false => !b

noncomputable def condB (E : Env) (G : GEnv) (n : Nat) : Nat → Bool → Option Bool := Nat.rec (motive := fun _ => Nat → Bool → Option Bool) (fun _ _ => none)
  (fun _ ih d w => match findG G d with
    | some (d2, w2, v) => (match v with
      | .fr (.sc (.bool b)) => (match ih d2 w2 with | some g => some (g && eqw b w) | none => none)
      | _ => none)
    | none => (match look E d with | .fr (.sc (.bool b)) => some (eqw b w) | _ => none)) n

noncomputable def dropG (G : GEnv) : Option Nat → GEnv
  | none => G
  | some t => List.rec (motive := fun _ => GEnv) [] (fun p _ ih => match Nat.beq p.1 t with | true => ih | false => (match Nat.beq p.2.1 t with | true => ih | false => p :: ih)) G

noncomputable def addG (G : GEnv) (d : Nat) (w : Bool) (v : V) : Option Nat → GEnv
  | none => G
  | some t => (t, d, w, v) :: dropG G (some t)

noncomputable def fcG (G : GEnv) : (GEnv → Prop) → Prop := List.rec (motive := fun _ => (GEnv → Prop) → Prop) (fun K => K []) (fun x _ ih K => ih fun r => K (x :: r)) G

theorem fcG_eq (G : GEnv) (K : GEnv → Prop) : fcG G K = K G := by
  induction G generalizing K with
  | nil => rfl
  | cons x r ih => show fcG r (fun r => K (x :: r)) = K (x :: r); rw [ih]

/-- A slot is set, and what hangs on it is let go; then on. -/
noncomputable def setK (E : Env) (G : GEnv) (dst : Option Nat) (v : V) (K : Env → GEnv → Prop) : Prop := match dst with
  | some d => fcG (dropG G (some d)) fun G => K ((d, v) :: E) G
  | none => K E G

noncomputable def addK (E : Env) (G : GEnv) (d : Nat) (w : Bool) (v : V) (dst : Option Nat) (K : Env → GEnv → Prop) : Prop := match dst with
  | some t => fc1 v fun v => fcG (addG G d w v (some t)) fun G => K ((t, .bad) :: E) G
  | none => K E G

theorem setK_eq (E : Env) (G : GEnv) (dst : Option Nat) (v : V) (K : Env → GEnv → Prop) : setK E G dst v K = K (setE E dst v) (dropG G dst) := by
  cases dst with
  | none => rfl
  | some d => exact fcG_eq _ _

theorem addK_eq (E : Env) (G : GEnv) (d : Nat) (w : Bool) (v : V) (dst : Option Nat) (K : Env → GEnv → Prop) : addK E G d w v dst K = K (setE E dst .bad) (addG G d w v dst) := by
  cases dst with
  | none => rfl
  | some t => simp only [addK, fc1_eq, fcG_eq, addG, setE]

/-- One of two. -/
noncomputable def mrg (b : Bool) (x y : V) : Option V := match x, y with
  | .fr (.sc (.bool p)), .fr (.sc (.bool q)) => some (B1 (bif b then p else q))
  | .fr (.sc (.int k p)), .fr (.sc (.int k' q)) => (match Nat.beq (kCode k) (kCode k') with | true => some (.fr (.sc (.int k (bif b then p else q)))) | false => none)
  | .fr (.sc (.string p)), .fr (.sc (.string q)) => some (S1 (bif b then p else q))
  | _, _ => none

noncomputable def asmO (G : GEnv) (w : Bool) : Operand → List (Nat × Bool)
  | .tmp d => asm G 6 d w
  | _ => []

noncomputable def evalG (T : TTab) (n0 : Nat) (E : Env) (G : GEnv) (A : List (Nat × Bool)) (H : Heap) (op : Op) : PR := match op with
  | .pick c x y => (match opd (envA G A E) c with
    | .fr (.sc (.bool b)) => (match mrg b (opd (envA G (List.append (asmO G true c) A) E) x) (opd (envA G (List.append (asmO G false c) A) E) y) with
      | some v => .val v
      | none => .pick b (opd (envA G (List.append (asmO G true c) A) E) x) (opd (envA G (List.append (asmO G false c) A) E) y))
    | _ => .no)
  | op => evalP T n0 (envA G A E) H op

structure GIdx (g : Bool) (es : List (List F)) (i : Int) (k : List F → Prop) : Prop where
  h : ∃ e, (g = true → 0 ≤ i ∧ es[i.toNat]? = some e) ∧ k e
structure GStr (g : Bool) (s : ByteArray) (i : Int) (k : Nat → Prop) : Prop where
  h : ∃ b, (g = true → ∃ h : i.toNat < s.size, 0 ≤ i ∧ b = (s[i.toNat]'h).toNat) ∧ k b
structure GEx (g : Bool) (p : V → Prop) (k : V → Prop) : Prop where
  h : ∃ v, (g = true → p v) ∧ k v

inductive AExit where
  | normal | exit (id : Nat) | ret

def blockK (id : Nat) (K : AExit → Env → Heap → Prop) : AExit → Env → Heap → Prop
  | .exit j, e, h => (match Nat.beq j id with | true => K .normal e h | false => K (.exit j) e h)
  | .normal, e, h => K .normal e h
  | .ret, e, h => K .ret e h

theorem bsplit {b : Bool} {x y : Prop} (h : b = true → x) (k : b = false → y) : bsel b x y := by
  cases b
  · exact k rfl
  · exact h rfl

end Go.AW
