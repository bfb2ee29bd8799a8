/- AW, part 15: the types' table, asked of a program. -/
import Derived.Test.YtalkhhfinogecaaA14C
namespace Go.AW
open Go Go.RowKit

def valB : Value → Value → Bool
  | .int k n, .int k' n' => decide (k = k') && n == n'
  | .bool a, .bool b => a == b
  | .string a, .string b => a.data == b.data
  | .float k n, .float k' n' => decide (k = k') && n == n'
  | .pointer none, .pointer none => true
  | .nilFunc, .nilFunc => true
  | .nilIface, .nilIface => true
  | .map none, .map none => true
  | .chan none, .chan none => true
  | _, _ => false

theorem valB_eq {u v : Value} (h : valB u v = true) : u = v ∧ u.oneCell' = true := by
  unfold valB at h
  split at h <;> first | (cases h; done) | skip
  · simp at h; obtain ⟨rfl, rfl⟩ := h; exact ⟨rfl, rfl⟩
  · simp at h; subst h; exact ⟨rfl, rfl⟩
  · rename_i a b
    have h' : a.data = b.data := by simpa using h
    obtain ⟨a⟩ := a; obtain ⟨b⟩ := b
    simp at h'; subst h'; exact ⟨rfl, rfl⟩
  · simp at h; obtain ⟨rfl, rfl⟩ := h; exact ⟨rfl, rfl⟩
  all_goals exact ⟨rfl, rfl⟩

def cellB : F → Value → Bool
  | .sc v, v' => valB v v'
  | .sl _ _ [], .slice none 0 0 => true
  | _, _ => false

theorem cellB_ok {f : F} {v : Value} (h : cellB f v = true) : cellOk f v := by
  unfold cellB at h
  split at h
  · exact valB_eq h
  · exact ⟨rfl, rfl⟩
  · cases h

def cellsB : List F → List Value → Bool
  | [], [] => true
  | f :: fs, v :: vs => cellB f v && cellsB fs vs
  | _, _ => false

theorem cellsB_ok : ∀ {fs : List F} {vs : List Value}, cellsB fs vs = true → ∀ (j : Nat) (f : F), fs[j]? = some f → cellOk f (vs.getD j undef)
  | [], [], _, j, f, h => by simp at h
  | [], _ :: _, h, _, _, _ => by cases h
  | _ :: _, [], h, _, _, _ => by cases h
  | g :: fs, v :: vs, h, j, f, hj => by
    simp only [cellsB, Bool.and_eq_true] at h
    cases j with
    | zero => simp at hj; subst hj; exact cellB_ok h.1
    | succ j => simpa using cellsB_ok h.2 j f (by simpa using hj)

def pairsB : List (Nat × Nat) → List (Nat × Nat) → Bool
  | [], [] => true
  | (a, b) :: r, (c, d) :: s => a == c && b == d && pairsB r s
  | _, _ => false

theorem pairsB_ok : ∀ {l m : List (Nat × Nat)}, pairsB l m = true → l = m
  | [], [], _ => rfl
  | [], _ :: _, h => by cases h
  | _ :: _, [], h => by cases h
  | (a, b) :: r, (c, d) :: s, h => by
    simp only [pairsB, Bool.and_eq_true, beq_iff_eq] at h
    obtain ⟨⟨rfl, rfl⟩, h⟩ := h
    rw [pairsB_ok h]

def kindB : TK → TypeDesc → Bool
  | .int k, .int k' => decide (k = k')
  | .bool, .bool => true
  | .str, .string => true
  | .flt k, .float k' => decide (k = k')
  | .ptr e, .pointer e' => e == e'
  | .sli e, .slice e' => e == e'
  | .arr n e, .array n' e' => n == n' && e == e'
  | .st fs _, .struct gs => pairsB (gs.toList.map (fun f => (f.offset, f.type))) fs
  | .map k e, .map k' e' => k == k' && e == e'
  | .fn, .func _ _ _ => true
  | .ifc, .interface _ => true
  | .tup, .tuple _ => true
  | .oth, d => !d.isRow
  | _, _ => false

theorem kindB_ok {k : TK} {d : TypeDesc} (h : kindB k d = true) : KindOk k d := by
  cases k <;> cases d <;> first
    | (cases h; done)
    | trivial
    | (have h' := of_decide_eq_true h; exact h')
    | (have h' := eq_of_beq h; exact h')
    | (have h' : _ = true := h; simp only [kindB, Bool.and_eq_true, beq_iff_eq] at h'; exact h')
    | exact pairsB_ok h
    | rfl

def tiB (P : Program) (t : Nat) (ti : TI) : Bool :=
  (match P.info? t with
  | some i => i.size == ti.sz && i.bytes == ti.by_ && (match i.zero with
    | some z => z.cells.size == ti.sz && ti.zero.length == ti.sz && cellsB ti.zero z.cells.toList
    | none => false)
  | none => false) &&
  (match P.underlying t with
  | some d => kindB ti.k d
  | none => false) &&
  (match ti.k with
  | .st _ true => !P.stoodInHeld t && !P.eqGuardType P.depth t && (P.fieldsOf t).toList.all (fun f => f.name != "_")
  | _ => true)

theorem tiB_ok {P : Program} {t : Nat} {ti : TI} (h : tiB P t ti = true) : TiOk P t ti := by
  unfold tiB at h
  simp only [Bool.and_eq_true] at h
  obtain ⟨⟨h1, h2⟩, h0⟩ := h
  constructor
  · split at h1
    · rename_i i hi
      simp only [Bool.and_eq_true, beq_iff_eq] at h1
      obtain ⟨⟨h3, h4⟩, h5⟩ := h1
      split at h5
      · rename_i z hz
        simp only [Bool.and_eq_true, beq_iff_eq] at h5
        obtain ⟨⟨h6, h7⟩, h8⟩ := h5
        refine ⟨i, z, hi, h3, h4, hz, h6, h7, fun j f hf => ?_⟩
        have := cellsB_ok h8 j f hf
        simpa [Array.getD_eq_getD_getElem?, List.getD_eq_getElem?_getD] using this
      · cases h5
    · cases h1
  · split at h2
    · rename_i d hd; exact ⟨d, hd, kindB_ok h2⟩
    · cases h2
  · intro fs hk
    rw [hk] at h0
    simp only [Bool.and_eq_true, Bool.not_eq_true', List.all_eq_true, bne_iff_ne, ne_eq] at h0
    exact ⟨h0.1.1, h0.1.2, h0.2⟩

def tB (P : Program) (T : TTab) : Bool := T.all fun p => tiB P p.1 p.2

theorem tok_of {P : Program} {T : TTab} (h : tB P T = true) : TOk P T := by
  intro t ti ht
  induction T with
  | nil => cases ht
  | cons p T ih =>
    simp only [tB, List.all_cons, Bool.and_eq_true] at h
    have ht' : (match Nat.beq p.1 t with | true => some p.2 | false => TTab.get T t) = some ti := ht
    cases hb : Nat.beq p.1 t with
    | true =>
      rw [hb] at ht'; cases ht'
      rw [← Nat.eq_of_beq_eq_true hb]
      exact tiB_ok h.1
    | false => rw [hb] at ht'; exact ih h.2 ht'

end Go.AW
