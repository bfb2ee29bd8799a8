/- AW, part 5: values that are built, and all pure operations together. -/
import Derived.Test.YtalkhhfinogecaaA4
namespace Go.AW
open Go Go.RowKit
variable {Γ : Ctx} {H : Heap} {w : World} {μ : List Plc} {a : Act} {o : Oper}

/-- Two lists, place by place. -/
def PW (R : V → Value → Prop) (xs : List V) (vs : List Value) : Prop := xs.length = vs.length ∧ ∀ (i : Nat) (x : V), xs[i]? = some x → ∃ v, vs[i]? = some v ∧ R x v

section pw
variable {R : V → Value → Prop}
theorem PW.nil : PW R [] [] := ⟨rfl, by intro i x h; simp at h⟩
theorem PW.cons {x : V} {v : Value} {xs : List V} {vs : List Value} (h : R x v) (t : PW R xs vs) : PW R (x :: xs) (v :: vs) :=
  ⟨by simp [t.1], fun i y hy => by cases i with
    | zero => simp at hy; subst hy; exact ⟨v, rfl, h⟩
    | succ i => simpa using t.2 i y (by simpa using hy)⟩
theorem PW.append {xs ys : List V} {vs us : List Value} (h : PW R xs vs) (t : PW R ys us) : PW R (xs ++ ys) (vs ++ us) :=
  ⟨by simp [h.1, t.1], fun i y hy => by
    by_cases hi : i < xs.length
    · rw [List.getElem?_append_left hi] at hy
      rw [List.getElem?_append_left (by rw [← h.1]; exact hi)]
      exact h.2 i y hy
    · rw [List.getElem?_append_right (by omega)] at hy
      rw [List.getElem?_append_right (by rw [← h.1]; omega), ← h.1]
      exact t.2 _ y hy⟩
theorem PW.take {xs : List V} {vs : List Value} (h : PW R xs vs) (n : Nat) : PW R (xs.take n) (vs.take n) :=
  ⟨by simp [h.1], fun i y hy => by
    rw [List.getElem?_take] at hy ⊢
    by_cases hi : i < n
    · rw [if_pos hi] at hy ⊢; exact h.2 i y hy
    · rw [if_neg hi] at hy; cases hy⟩
theorem PW.drop {xs : List V} {vs : List Value} (h : PW R xs vs) (n : Nat) : PW R (xs.drop n) (vs.drop n) :=
  ⟨by simp [h.1], fun i y hy => by
    rw [List.getElem?_drop] at hy ⊢
    exact h.2 _ y hy⟩
theorem PW.splice {xs ys zs : List V} {vs us : List Value} {o : Nat} (h : PW R xs vs) (k : PW R ys us) (hs : splice o ys xs = some zs) : PW R zs (vs.take o ++ us ++ vs.drop (o + us.length)) ∧ o + us.length ≤ vs.length := by
  obtain ⟨h1, rfl⟩ := splice_some hs
  rw [← k.1]
  exact ⟨((h.take o).append k).append (h.drop _), by rw [← h.1]; exact h1⟩
theorem PW.mono {R' : V → Value → Prop} {xs : List V} {vs : List Value} (h : PW R xs vs) (hr : ∀ x v, R x v → R' x v) : PW R' xs vs :=
  ⟨h.1, fun i x hx => let ⟨v, h1, h2⟩ := h.2 i x hx; ⟨v, h1, hr _ _ h2⟩⟩
end pw

/-- A cell: what stands for it, and that it is one. -/
def Rep1 (Γ : Ctx) (w : World) (μ : List Plc) (x : V) (v : Value) : Prop := Rep Γ w μ x v ∧ v.oneCell' = true

theorem pw_get {xs : List V} {c : Array Value} (h : PW (Rep1 Γ w μ) xs c.toList) : c.size = xs.length ∧ (∀ v ∈ c.toList, v.oneCell' = true) ∧ ∀ (i : Nat) (x : V), xs[i]? = some x → Rep Γ w μ x (c.getD i undef) := by
  have hl : c.size = xs.length := by rw [h.1]; simp
  refine ⟨hl, fun v hv => ?_, fun i x hx => ?_⟩
  · obtain ⟨i, hi⟩ := List.getElem?_of_mem hv
    have hlt : i < xs.length := by have := (List.getElem?_eq_some_iff.1 hi).1; rw [h.1]; exact this
    obtain ⟨v', h1, h2⟩ := h.2 i xs[i] (by simp)
    rw [hi] at h1; cases h1; exact h2.2
  · obtain ⟨v, h1, h2⟩ := h.2 i x hx
    have : c.getD i undef = v := by simp at h1; simp [Array.getD_eq_getD_getElem?, h1]
    rw [this]; exact h2.1

theorem get_pw {xs : List V} {c : Array Value} (h1 : c.size = xs.length) (h2 : ∀ v ∈ c.toList, v.oneCell' = true) (h3 : ∀ (i : Nat) (x : V), xs[i]? = some x → Rep Γ w μ x (c.getD i undef)) : PW (Rep1 Γ w μ) xs c.toList :=
  ⟨by simp [h1], fun i x hx => by
    have hi : i < c.size := by have := (List.getElem?_eq_some_iff.1 hx).1; omega
    refine ⟨c[i], by simp [hi], ?_, h2 _ (by simp)⟩
    have := h3 i x hx
    simpa [Array.getD, hi] using this⟩

theorem pw_cells {x : V} {v : Value} (h : Rep Γ w μ x v) (hb : x ≠ .bad) (ht : ∀ xs, x ≠ .tup xs) : PW (Rep1 Γ w μ) (cellsV x) v.cells.toList := by
  have one : ∀ {x : V} {v : Value}, Rep Γ w μ x v → v.oneCell' = true → PW (Rep1 Γ w μ) [x] [v] := fun h h1 => .cons ⟨h, h1⟩ .nil
  cases h with
  | fr f v h =>
    have h1 := h.one
    have : v.cells.toList = [v] := by cases v <;> first | rfl | (simp [Value.oneCell'] at h1)
    rw [this]; exact one (.fr _ _ h) h1
  | agg xs vs hl h1 h => exact get_pw hl (fun v hv => by
      obtain ⟨i, hi⟩ := List.getElem?_of_mem hv
      have hi' : vs[i]? = some v := by simpa [Value.cells] using hi
      have hlt : i < vs.size := (Array.getElem?_eq_some_iff.1 hi').1
      have := h1 i hlt
      simpa [Array.getD_eq_getD_getElem?, hi'] using this) h
  | ptr b o k hl => exact one (.ptr _ _ _ hl) rfl
  | fptr es o k o0 cv hk hc hr => exact one (.fptr _ _ _ _ cv hk hc hr) rfl
  | buf b m c a hl => exact one (.buf _ _ _ _ hl) rfl
  | bdead b v hl h1 =>
    have : v.cells.toList = [v] := by cases v <;> first | rfl | (simp [Value.oneCell'] at h1)
    rw [this]; exact one (.bdead _ _ hl h1) h1
  | clo f xs vs hl h => exact one (.clo _ _ _ hl h) rfl
  | ifc t x v h => exact one (.ifc _ _ _ h) rfl
  | tup xs vs hl h => exact absurd rfl (ht xs)
  | bad v => exact absurd rfl hb

theorem cellsN_some {n : Nat} {x : V} {c : List V} (h : cellsN n x = some c) : c = cellsV x ∧ c.length = n ∧ x ≠ .bad ∧ ∀ xs, x ≠ .tup xs := by
  unfold cellsN at h
  split at h
  · cases h
  · cases h
  · rename_i v h1 h2
    split at h
    · rename_i hq
      cases h
      exact ⟨rfl, Nat.eq_of_beq_eq_true hq, h1, h2⟩
    · cases h

theorem pw_cellsN {n : Nat} {x : V} {v : Value} {c : List V} (h : Rep Γ w μ x v) (hc : cellsN n x = some c) : PW (Rep1 Γ w μ) c v.cells.toList ∧ v.cells.size = n := by
  obtain ⟨rfl, h1, h2, h3⟩ := cellsN_some hc
  have := pw_cells h h2 h3
  exact ⟨this, by rw [← h1, this.1]; simp⟩

theorem fold_zip (off : Nat) : ∀ (l : List Value) (s : Nat) (arr : Array Value), off + s + l.length ≤ arr.size →
    ((l.zipIdx s).foldl (fun (cs : Array Value) (x : Value × Nat) => cs.setIfInBounds (off + x.2) x.1) arr).toList = arr.toList.take (off + s) ++ l ++ arr.toList.drop (off + s + l.length)
  | [], s, arr, h => by simp
  | v :: l, s, arr, h => by
    simp only [List.zipIdx_cons, List.foldl_cons]
    simp only [List.length_cons] at h
    rw [fold_zip off l (s + 1) (arr.setIfInBounds (off + s) v) (by simp; omega)]
    simp only [Array.toList_setIfInBounds]
    have hlt : off + s < arr.toList.length := by simp; omega
    have e1 : off + (s + 1) = off + s + 1 := by omega
    rw [e1, List.take_set, List.drop_set_of_lt (by omega)]
    have e2 : (arr.toList.take (off + s + 1)).set (off + s) v = arr.toList.take (off + s) ++ [v] := by
      rw [List.take_succ_eq_append_getElem hlt, List.set_append_right _ _ (by simp; omega)]
      have : off + s - min (off + s) arr.size = 0 := by simp at hlt; omega
      simp [this]
    rw [e2]
    have e3 : off + s + 1 + l.length = off + s + (l.length + 1) := by omega
    simp [e3]

theorem fill_step {place : Nat → Option (Nat × Nat)} {cells : Array Value} {i off sz : Nat} {v : Value} {rest : List (Nat × Value)} (hp : place i = some (off, sz)) (hs : v.cells.size = sz) (hb : off + sz ≤ cells.size) :
    ∃ cells' : Array Value, Instr.fill place cells ((i, v) :: rest) = Instr.fill place cells' rest ∧ cells'.toList = cells.toList.take off ++ v.cells.toList ++ cells.toList.drop (off + v.cells.toList.length) := by
  refine ⟨v.cells.zipIdx.foldl (fun cs (c, j) => cs.setIfInBounds (off + j) c) cells, ?_, ?_⟩
  · conv => lhs; unfold Instr.fill
    rw [hp]
    have : ¬ (v.cells.size ≠ sz ∨ off + v.cells.size > cells.size) := by omega
    simp only [Bool.or_eq_true, decide_eq_true_eq, this, if_false]
  · rw [← Array.foldl_toList, Array.toList_zipIdx, fold_zip off v.cells.toList 0 cells (by simp; omega)]
    simp


theorem partsAt_cons {f : Nat → Option (Nat × Nat)} {E : Env} {p : Nat × Operand} {ps : List (Nat × Operand)} {l : List (Nat × List V)} (h : partsAt f E (p :: ps) = some l) :
    ∃ q n c r, f p.1 = some (q, n) ∧ cellsN n (opd E p.2) = some c ∧ partsAt f E ps = some r ∧ l = (q, c) :: r := by
  have h' : (match f p.1, partsAt f E ps with
    | some (o, n), some r => (match cellsN n (opd E p.2) with | some c => some ((o, c) :: r) | none => none)
    | _, _ => none) = some l := h
  cases hf : f p.1 with
  | none => rw [hf] at h'; cases h'
  | some q =>
    obtain ⟨q, n⟩ := q
    cases hr : partsAt f E ps with
    | none => rw [hf, hr] at h'; cases h'
    | some r =>
      cases hc : cellsN n (opd E p.2) with
      | none => rw [hf, hr] at h'; simp only [hc] at h'; cases h'
      | some c => rw [hf, hr] at h'; simp only [hc] at h'; cases h'; exact ⟨q, n, c, r, rfl, hc, rfl, rfl⟩

theorem fillC_cons {z xs : List V} {q : Nat} {c : List V} {l : List (Nat × List V)} (h : fillC z ((q, c) :: l) = some xs) : ∃ z', splice q c z = some z' ∧ fillC z' l = some xs := by
  have h' : (match splice q c z with | some z' => fillC z' l | none => none) = some xs := h
  cases hs : splice q c z with
  | none => rw [hs] at h'; cases h'
  | some z' => rw [hs] at h'; exact ⟨z', rfl, h'⟩

theorem fill_ok {E : Env} {f place : Nat → Option (Nat × Nat)} (hp : ∀ i o n, f i = some (o, n) → place i = some (o, n)) : ∀ (ps : List (Nat × Operand)) (l : List (Nat × List V)) (z xs : List V) (cells : Array Value),
    (∀ p ∈ ps, Rep Γ w μ (opd E p.2) (a.eval p.2)) → partsAt f E ps = some l → fillC z l = some xs → PW (Rep1 Γ w μ) z cells.toList →
    ∃ cells' : Array Value, Instr.fill place cells (ps.map fun p => (p.1, a.eval p.2)) = some cells' ∧ PW (Rep1 Γ w μ) xs cells'.toList
  | [], l, z, xs, cells, _, hl, hx, hz => by
    have h1 : some [] = some l := hl
    cases h1
    have h2 : some z = some xs := hx
    cases h2
    exact ⟨cells, rfl, hz⟩
  | p :: ps, l, z, xs, cells, hE, hl, hx, hz => by
    obtain ⟨q, n, c, r, h1, h2, h3, rfl⟩ := partsAt_cons hl
    obtain ⟨z', h4, h5⟩ := fillC_cons hx
    obtain ⟨h6, h7⟩ := pw_cellsN (hE p (by simp)) h2
    obtain ⟨h8, h9⟩ := hz.splice h6 h4
    have hsz : (a.eval p.2).cells.toList.length = n := by simpa using h7
    obtain ⟨cells', h10, h11⟩ := fill_step (place := place) (cells := cells) (i := p.1) (rest := ps.map fun p => (p.1, a.eval p.2)) (hp _ _ _ h1) h7 (by rw [hsz] at h9; simpa using h9)
    obtain ⟨c2, h12, h13⟩ := fill_ok hp ps r z' xs cells' (fun p hp => hE p (by simp [hp])) h3 h5 (by rw [h11]; exact h8)
    exact ⟨c2, by simp only [List.map_cons]; rw [h10]; exact h12, h13⟩

/-- A type's zero value. -/
theorem zero_pw {t : Nat} {ti : TI} (ht : TiOk Γ.P t ti) : ∃ z, (zeroValue t).run Γ.P w = .ok z w ∧ PW (Rep1 Γ w μ) (ti.zero.map zeroC) z.cells.toList ∧ z.cells.size = ti.sz := by
  obtain ⟨i, z, h1, h2, h3, h4, h5, h6, h7⟩ := ht.info
  refine ⟨z, by simp [zeroValue, typeInfo, h1, h4], ⟨by simp [h5, h6], fun j x hx => ?_⟩, h5⟩
  rw [List.getElem?_map] at hx
  cases hq : ti.zero[j]? with
  | none => rw [hq] at hx; cases hx
  | some f =>
    rw [hq] at hx
    have hj : j < z.cells.size := by have := (List.getElem?_eq_some_iff.1 hq).1; omega
    have h8 := h7 j f hq
    have hg : z.cells.getD j undef = z.cells[j] := by simp [Array.getD, hj]
    rw [hg] at h8
    refine ⟨z.cells[j], by simp [hj], ?_⟩
    cases f with
    | sc v => obtain ⟨rfl, h9⟩ := h8; cases hx; exact ⟨rep_mk _ h9, h9⟩
    | sl n nb es => obtain ⟨rfl, h9⟩ := h8; cases hx; rw [h9]; exact ⟨rep_mk _ rfl, rfl⟩

theorem allT_spec {T : TTab} {fs : List (Nat × Nat)} (h : allT T fs = true) : ∀ p ∈ fs, ∃ ti, T.get p.2 = some ti := by
  induction fs with
  | nil => intro p hp; cases hp
  | cons q fs ih =>
    have h' : (match T.get q.2 with | some _ => allT T fs | none => false) = true := h
    intro p hp
    cases hq : T.get q.2 with
    | none => rw [hq] at h'; cases h'
    | some ti =>
      rw [hq] at h'
      rcases List.mem_cons.1 hp with rfl | hp
      · exact ⟨ti, hq⟩
      · exact ih h' p hp

theorem build_ok {T : TTab} (hT : TOk Γ.P T) {E : Env} {t : Nat} {ps : Array (Nat × Operand)} {fs : List (Nat × Nat)} {qq : Bool} {n1 n2 : Nat} {z : List F} {l : List (Nat × List V)} {xs : List V} (hm : Mem Γ H w μ)
    (ho : o.op = .build t ps) (hE : ∀ p ∈ ps.toList, Rep Γ w μ (opd E p.2) (a.eval p.2)) (ht : T.get t = some ⟨.st fs qq, n1, n2, z⟩)
    (hT2 : allT T fs = true)
    (hl : partsAt (fun i => match nth fs i with | some (o, t') => some (o, szOf T t') | none => none) E ps.toList = some l) (hx : fillC (z.map zeroC) l = some xs) : ValOk Γ H w μ a o (.agg xs) := by
  obtain ⟨d, hd, hk⟩ := (hT t _ ht).kind
  cases d <;> try exact hk.elim
  rename_i gs
  have hk' : gs.toList.map (fun f => (f.offset, f.type)) = fs := hk
  obtain ⟨zv, hz1, hz2, hz3⟩ := zero_pw (w := w) (μ := μ) (hT t _ ht)
  have hplaces : (gs.mapM (m := Sem) fun f => do pure (f.offset, ← sizeOf f.type)).run Γ.P w = .ok (gs.map fun f => (f.offset, szOf T f.type)) w := by
    have key : ∀ (l : List Field), (∀ f ∈ l, ∃ ti, T.get f.type = some ti) → (l.mapM (m := Sem) fun f => do pure (f.offset, ← sizeOf f.type)).run Γ.P w = .ok (l.map fun f => (f.offset, szOf T f.type)) w := by
      intro l
      induction l with
      | nil => intro _; simp
      | cons f l ih =>
        intro hf
        obtain ⟨ti, hti⟩ := hf f (by simp)
        have e : szOf T f.type = ti.sz := by unfold szOf; rw [hti]
        simp only [List.mapM_cons, Sem.run_bind, (hT _ ti hti).size w, Result.andThen_ok, Sem.run_pure, ih (fun g hg => hf g (by simp [hg])), List.map_cons, e]
    have := key gs.toList (fun f hf => allT_spec hT2 (f.offset, f.type) (by rw [← hk']; exact List.mem_map.2 ⟨f, hf, rfl⟩))
    rw [Array.mapM_eq_mapM_toList, Sem.run_map, this]
    simp only [Result.andThen_ok]
    congr 1
    apply Array.ext'
    simp
  obtain ⟨cells', h1, h2⟩ := fill_ok (Γ := Γ) (w := w) (μ := μ) (a := a) (E := E) (f := fun i => match nth fs i with | some (o, t') => some (o, szOf T t') | none => none)
    (place := fun i => (gs.map fun f => (f.offset, szOf T f.type))[i]?) (fun i o n h => by
      rw [nth_eq, ← hk', List.getElem?_map] at h
      cases hg : gs.toList[i]? with
      | none => rw [hg] at h; simp at h
      | some g =>
        rw [hg] at h; simp at h
        have hg' : gs[i]? = some g := by simpa using hg
        simp [hg', h]) ps.toList l _ xs zv.cells hE hl hx hz2
  obtain ⟨h3, h4, h5⟩ := pw_get h2
  refine .same (cv := .agg cells') hm ?_ (.agg _ _ h3 (fun i hi => h4 _ (by simp [Array.getD, hi])) h5)
  unfold execOp
  have hmap : (ps.map fun x => (x.1, a.eval x.2)).toList = ps.toList.map fun p => (p.1, a.eval p.2) := by simp
  simp only [ho, Instr.build, Sem.run_bind, hz1, Result.andThen_ok, run_underlying hd w, hplaces, hmap, h1, Sem.run_pure]

end Go.AW
