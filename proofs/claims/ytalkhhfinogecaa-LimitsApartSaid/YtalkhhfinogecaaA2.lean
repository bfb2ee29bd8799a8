/- AW, part 2: the types' table, lists, and the operations that change nothing that was there. -/
import Derived.Test.YtalkhhfinogecaaA1
import Derived.Laws.Entries
import Derived.Laws.StructEq
namespace Go.AW
open Go Go.RowKit

/-! ### Lists, by recursors -/
section lists
variable {α : Type}
theorem dropL_eq (n : Nat) (l : List α) : dropL n l = l.drop n := by
  induction n generalizing l with
  | zero => rfl
  | succ n ih => cases l with
    | nil => rfl
    | cons x r => exact ih r
theorem nth_eq (l : List α) (n : Nat) : nth l n = l[n]? := by
  unfold nth; rw [dropL_eq]
  rw [← List.head?_drop]
  cases l.drop n <;> rfl
theorem takeL_some {n : Nat} {l s : List α} (h : takeL n l = some s) : s = l.take n ∧ s.length = n := by
  induction n generalizing l s with
  | zero => simp only [takeL] at h; cases h; simp
  | succ n ih =>
    cases l with
    | nil => simp [takeL] at h
    | cons x r =>
      have h' : (match takeL n r with | some s => some (x :: s) | none => none) = some s := h
      cases hr : takeL n r with
      | none => rw [hr] at h'; cases h'
      | some s' => rw [hr] at h'; cases h'; obtain ⟨h1, h2⟩ := ih hr; exact ⟨by simp [h1], by simp [h2]⟩
theorem splice_some {o : Nat} {vs xs ys : List α} (h : splice o vs xs = some ys) : o + vs.length ≤ xs.length ∧ ys = xs.take o ++ vs ++ xs.drop (o + vs.length) := by
  induction o generalizing xs ys with
  | zero =>
    induction vs generalizing xs ys with
    | nil => have h' : some xs = some ys := h; cases h'; simp
    | cons v vs ih =>
      cases xs with
      | nil => simp [splice] at h
      | cons x r =>
        have h' : (match splice 0 vs r with | some s => some (v :: s) | none => none) = some ys := h
        cases hr : splice 0 vs r with
        | none => rw [hr] at h'; cases h'
        | some s => rw [hr] at h'; cases h'; obtain ⟨h1, h2⟩ := ih hr; simp at h1 h2; subst h2; simp; omega
  | succ o ih =>
    cases xs with
    | nil => simp [splice] at h
    | cons x r =>
      have h' : (match splice o vs r with | some s => some (x :: s) | none => none) = some ys := h
      cases hr : splice o vs r with
      | none => rw [hr] at h'; cases h'
      | some s =>
        rw [hr] at h'; cases h'; obtain ⟨h1, h2⟩ := ih hr
        subst h2
        have e : o + 1 + vs.length = o + vs.length + 1 := by omega
        exact ⟨by simp; omega, by simp [e]⟩
theorem setB_eq (H : Heap) (n : Nat) (b : Blk) : setB H n b = H.set n b := by
  induction n generalizing H with
  | zero => cases H <;> rfl
  | succ n ih => cases H with
    | nil => rfl
    | cons x r => show x :: setB r n b = _; rw [ih]; rfl
end lists

theorem look_nil (u : Nat) : look [] u = .bad := rfl
theorem look_cons (t : Nat) (v : V) (r : Env) (u : Nat) : look ((t, v) :: r) u = if t = u then v else look r u := by
  show (match Nat.beq t u with | true => v | false => look r u) = _
  cases h : Nat.beq t u with
  | true => rw [if_pos (Nat.eq_of_beq_eq_true h)]
  | false => rw [if_neg (Nat.ne_of_beq_eq_false h)]

/-! ### The types' table -/
def cellOk : F → Value → Prop
  | .sc v, v' => v = v' ∧ v.oneCell' = true
  | .sl _ _ es, v' => es = [] ∧ v' = .slice none 0 0

def KindOk : TK → TypeDesc → Prop
  | .int k, .int k' => k = k'
  | .bool, .bool => True
  | .str, .string => True
  | .flt k, .float k' => k = k'
  | .ptr e, .pointer e' => e = e'
  | .sli e, .slice e' => e = e'
  | .arr n e, .array n' e' => n = n' ∧ e = e'
  | .st fs _, .struct gs => gs.toList.map (fun f => (f.offset, f.type)) = fs
  | .map k e, .map k' e' => k = k' ∧ e = e'
  | .fn, .func _ _ _ => True
  | .ifc, .interface _ => True
  | .tup, .tuple _ => True
  | .oth, d => d.isRow = false
  | _, _ => False

structure TiOk (P : Program) (t : Nat) (ti : TI) : Prop where
  info : ∃ i z, P.info? t = some i ∧ i.size = ti.sz ∧ i.bytes = ti.by_ ∧ i.zero = some z ∧ z.cells.size = ti.sz ∧ ti.zero.length = ti.sz ∧ ∀ j f, ti.zero[j]? = some f → cellOk f (z.cells.getD j undef)
  kind : ∃ d, P.underlying t = some d ∧ KindOk ti.k d
  eq : ∀ fs, ti.k = .st fs true → P.stoodInHeld t = false ∧ P.eqGuardType P.depth t = false ∧ ∀ f ∈ (P.fieldsOf t).toList, f.name ≠ "_"

def TOk (P : Program) (T : TTab) : Prop := ∀ t ti, T.get t = some ti → TiOk P t ti

theorem KindOk.agg {k : TK} {d : TypeDesc} (h : KindOk k d) : d.isRow = isAggK k := by
  cases k <;> cases d <;> first | rfl | exact h.elim | exact h

theorem TiOk.size {P : Program} {t : Nat} {ti : TI} (h : TiOk P t ti) (w : World) : (sizeOf t).run P w = .ok ti.sz w := by
  obtain ⟨i, z, h1, h2, _⟩ := h.info
  simp [sizeOf, typeInfo, h1, h2]
theorem TiOk.size' {P : Program} {t : Nat} {ti : TI} (h : TiOk P t ti) : (P.info? t).map (·.size) = some ti.sz := by
  obtain ⟨i, z, h1, h2, _⟩ := h.info
  simp [h1, h2]
theorem TiOk.isAgg {P : Program} {t : Nat} {ti : TI} (h : TiOk P t ti) (w : World) : (Go.isAgg t).run P w = .ok (isAggK ti.k) w := by
  obtain ⟨d, h1, h2⟩ := h.kind
  have := h2.agg
  unfold Go.isAgg
  rw [Sem.run_bind, run_underlying h1 w]
  cases d <;> simp_all

/-! ### A slot's value as an operand -/
def EnvOk (Γ : Ctx) (w : World) (μ : List Plc) (E : Env) (tmps : Array Value) : Prop := ∀ t, Rep Γ w μ (look E t) (tmps.getD t undef)

theorem rep_const (w : World) (I : Nat → Prop) (μ : List Plc) (v : Value) (h : ∀ cs, v = .agg cs → ∀ x ∈ cs.toList, x.oneCell' = true) : RepV w I μ (constV v) v := by
  cases v with
  | agg cs =>
    have h' := h cs rfl
    refine .agg _ _ (by simp) (fun i hi => h' _ ?_) (fun i x hx => ?_)
    · simp [Array.getD, hi]
    · rw [List.getElem?_map] at hx
      cases hc : cs.toList[i]? with
      | none => rw [hc] at hx; simp at hx
      | some u =>
        rw [hc] at hx; simp at hx; subst hx
        have hu : cs.getD i undef = u := by simp at hc; simp [Array.getD_eq_getD_getElem?, hc]
        rw [hu]
        exact .fr _ _ (.sc _ (h' _ (List.mem_of_getElem? hc)))
  | tuple => exact .bad _
  | _ => exact .fr _ _ (.sc _ rfl)

/-- Constants in the code are of plain cells. -/
def constOk : Operand → Prop
  | .const (.agg cs) => ∀ x ∈ cs.toList, x.oneCell' = true
  | _ => True

theorem rep_opd {Γ : Ctx} {w : World} {μ : List Plc} {E : Env} {a : Act} {x : Operand} (h : ∀ t, x = .tmp t → Rep Γ w μ (look E t) (a.tmps.getD t undef)) (hc : constOk x) : Rep Γ w μ (opd E x) (a.eval x) := by
  cases x with
  | tmp t => exact h t rfl
  | const v => exact rep_const _ _ _ v (fun cs e => by subst e; exact hc)
  | global g => exact .bad _
  | func f => exact .clo f [] #[] rfl (by intro i x h; simp at h)

/-- A nil slice is the empty list of whatever elements. -/
theorem rep_nrm1 {w : World} {I : Nat → Prop} {μ : List Plc} (f : F) {x : V} {v : Value} (h : RepV w I μ x v) : RepV w I μ (nrm1 f x) v := by
  unfold nrm1
  split
  · cases h with
    | fr f v h => cases h with | sc v h => exact .fr _ _ (.nil _ _ _ _)
  · exact h

theorem nrmL_get (z : List F) (xs : List V) (i : Nat) : (nrmL z xs)[i]? = (xs[i]?).map fun x => match z[i]? with | some f => nrm1 f x | none => x := by
  induction z generalizing xs i with
  | nil => show xs[i]? = _; cases xs[i]? <;> rfl
  | cons f z ih =>
    cases xs with
    | nil => rfl
    | cons x r =>
      show (nrm1 f x :: nrmL z r)[i]? = _
      cases i with
      | zero => rfl
      | succ i => simpa using ih r i

theorem nrmL_length (z : List F) (xs : List V) : (nrmL z xs).length = xs.length := by
  induction z generalizing xs with
  | nil => rfl
  | cons f z ih => cases xs with
    | nil => rfl
    | cons x r => show (nrm1 f x :: nrmL z r).length = _; simp [ih]

theorem rep_nrmL {w : World} {I : Nat → Prop} {μ : List Plc} (z : List F) {xs : List V} {g : Nat → Value} (h : ∀ (i : Nat) (x : V), xs[i]? = some x → RepV w I μ x (g i)) :
    ∀ (i : Nat) (x : V), (nrmL z xs)[i]? = some x → RepV w I μ x (g i) := by
  intro i x hx
  rw [nrmL_get] at hx
  cases hq : xs[i]? with
  | none => rw [hq] at hx; simp at hx
  | some y =>
    rw [hq] at hx; simp at hx; subst hx
    cases hz : z[i]? with
    | none => exact h i y hq
    | some f => exact rep_nrm1 f (h i y hq)

theorem rep_nrmV {w : World} {I : Nat → Prop} {μ : List Plc} (T : TTab) (t : Nat) {x : V} {v : Value} (h : RepV w I μ x v) : RepV w I μ (nrmV T t x) v := by
  unfold nrmV
  split
  · split
    · cases h with
      | agg xs vs hl h1 h => exact .agg _ _ (by rw [nrmL_length]; exact hl) h1 (rep_nrmL _ h)
    · split
      · exact rep_nrm1 _ h
      · exact h
  · exact h

end Go.AW
