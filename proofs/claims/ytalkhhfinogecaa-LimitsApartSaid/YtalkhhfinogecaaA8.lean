/- AW, part 8: the evaluator's word on pure operations holds. -/
import Derived.Test.YtalkhhfinogecaaA7
namespace Go.AW
open Go Go.RowKit
variable {Γ : Ctx} {H : Heap} {w : World} {μ : List Plc} {a : Act} {o : Oper}

theorem arr_index {T : TTab} (hT : TOk Γ.P T) {t e' : Nat} {x i : Operand} {n n1 n2 q : Nat} {z : List F} {ti : TI} {k : IntKind} {xs : List V} {v : V} (hm : Mem Γ H w μ) (ho : o.op = .index t x i) (ht : T.get t = some ⟨.arr n e', n1, n2, z⟩) (he : T.get e' = some ti)
    (hi : Rep Γ w μ (.fr (.sc (.int k (.ofNat q)))) (a.eval i)) (hq : q < n) (hx : Rep Γ w μ (.agg xs) (a.eval x)) (hv : loadV ti (dropL (q * ti.sz) xs) = some v) : ValOk Γ H w μ a o v := by
  have hi' := rep_int hi
  obtain ⟨d, hd, hk⟩ := (hT t _ ht).kind
  cases d <;> try exact hk.elim
  obtain ⟨rfl, rfl⟩ := hk
  have h1 : (0 : Int) ≤ Int.ofNat q := Int.natCast_nonneg q
  have h2 : Int.ofNat q < (n : Int) := by simpa using hq
  generalize hcx : a.eval x = cx at hx
  cases hx with
  | agg xs vs hl h3 h =>
    have hT' := hT _ ti he
    have hrun : (execOp a.eval o).run Γ.P w = ((part e' vs (q * ti.sz)).run Γ.P w).andThen fun v w' => .ok (.value v) w' := by
      unfold execOp
      simp only [ho, hcx, hi', Instr.index, asIntOf, Sem.run_bind, Sem.run_pure, Result.andThen_ok, run_underlying hd w, h1, h2, and_self, if_true, hT'.size w]
      rfl
    unfold loadV at hv
    split at hv
    · rename_i hk2
      cases hl2 : takeL ti.sz (dropL (q * ti.sz) xs) with
      | none => rw [hl2] at hv; cases hv
      | some l =>
        rw [hl2] at hv; cases hv
        obtain ⟨rfl, hlen⟩ := takeL_some hl2
        rw [dropL_eq] at hlen ⊢
        have hext : (vs.extract (q * ti.sz) (q * ti.sz + ti.sz)).size = ti.sz := by rw [List.length_take, List.length_drop] at hlen; rw [Array.size_extract]; omega
        have hgd : ∀ i, i < ti.sz → (vs.extract (q * ti.sz) (q * ti.sz + ti.sz)).getD i undef = vs.getD (q * ti.sz + i) undef := fun i hi => by
          have hb : i < min (q * ti.sz + ti.sz) vs.size - q * ti.sz := by rw [← Array.size_extract, hext]; exact hi
          have hc : q * ti.sz + i < vs.size := by omega
          simp [Array.getD_eq_getD_getElem?, hb, hc]
        refine .same (cv := .agg (vs.extract (q * ti.sz) (q * ti.sz + ti.sz))) hm ?_ (.agg _ _ (by rw [hext, hlen]) ?_ ?_)
        · rw [hrun]
          simp only [part, Sem.run_bind, hT'.isAgg w, Result.andThen_ok, hk2, if_true, hT'.size w, Sem.run_pure]
        · intro i hi
          rw [hext] at hi
          rw [hgd i hi]; exact h3 _ (by rw [List.length_take, List.length_drop] at hlen; omega)
        · intro i y hy
          rw [List.getElem?_take] at hy
          by_cases hi : i < ti.sz
          · rw [if_pos hi, List.getElem?_drop] at hy
            rw [hgd i hi]; exact h _ _ hy
          · rw [if_neg hi] at hy; cases hy
    · rename_i hk2
      rw [dropL_eq] at hv
      cases hq2 : xs.drop (q * ti.sz) with
      | nil => rw [hq2] at hv; cases hv
      | cons y r =>
        rw [hq2] at hv; cases hv
        have hy : xs[q * ti.sz]? = some v := by rw [← List.head?_drop, hq2]; rfl
        have hlt : q * ti.sz < vs.size := by have := (List.getElem?_eq_some_iff.1 hy).1; omega
        refine .same (cv := vs.getD (q * ti.sz) undef) hm ?_ (h _ _ hy)
        rw [hrun]
        simp only [part, Sem.run_bind, hT'.isAgg w, Result.andThen_ok, hk2, Bool.false_eq_true, if_false]
        simp [hlt, Array.getD]

theorem buildArr_ok {T : TTab} (hT : TOk Γ.P T) {E : Env} {t n e' : Nat} {ps : Array (Nat × Operand)} {n1 n2 : Nat} {z : List F} {ti : TI} {l : List (Nat × List V)} {xs : List V} (hm : Mem Γ H w μ)
    (ho : o.op = .build t ps) (hE : ∀ p ∈ ps.toList, Rep Γ w μ (opd E p.2) (a.eval p.2)) (ht : T.get t = some ⟨.arr n e', n1, n2, z⟩) (he : T.get e' = some ti)
    (hl : partsAt (fun i => some (i * ti.sz, ti.sz)) E ps.toList = some l) (hx : fillC (z.map zeroC) l = some xs) : ValOk Γ H w μ a o (.agg xs) := by
  obtain ⟨d, hd, hk⟩ := (hT t _ ht).kind
  cases d <;> try exact hk.elim
  obtain ⟨rfl, rfl⟩ := hk
  obtain ⟨zv, hz1, hz2, hz3⟩ := zero_pw (w := w) (μ := μ) (hT t _ ht)
  obtain ⟨cells', h1, h2⟩ := fill_ok (Γ := Γ) (w := w) (μ := μ) (a := a) (E := E) (f := fun i => some (i * ti.sz, ti.sz)) (place := fun i => some (i * ti.sz, ti.sz)) (fun i o n h => h) ps.toList l _ xs zv.cells hE hl hx hz2
  obtain ⟨h3, h4, h5⟩ := pw_get h2
  refine .same (cv := .agg cells') hm ?_ (.agg _ _ h3 (fun i hi => h4 _ (by simp [Array.getD, hi])) h5)
  unfold execOp
  have hmap : (ps.map fun x => (x.1, a.eval x.2)).toList = ps.toList.map fun p => (p.1, a.eval p.2) := by simp
  simp only [ho, Instr.build, Sem.run_bind, hz1, Result.andThen_ok, run_underlying hd w, (hT _ _ he).size w, hmap, h1, Sem.run_pure]

theorem alloc_ok {T : TTab} (hT : TOk Γ.P T) {t : Nat} {ti : TI} (ho : o.op = .alloc t) (ht : T.get t = some ti) : PRok Γ H w μ a o (.new (ti.zero.map zeroC)) := by
  obtain ⟨z, hz1, hz2, hz3⟩ := zero_pw (w := w) (μ := μ) (hT t ti ht)
  obtain ⟨h1, h2, h3⟩ := pw_get hz2
  refine ⟨z.cells, t, ?_, h1, h2, h3⟩
  unfold execOp
  simp only [ho, Instr.alloc, Sem.run_bind, hz1, Result.andThen_ok, newVar, newRow, newObj, Sem.run_pure]
  rfl

theorem box_ok {E : Env} {t n : Nat} {x : Operand} {c : List V} (ho : o.op = .box t x) (hx : Rep Γ w μ (opd E x) (a.eval x)) (hc : cellsN n (opd E x) = some c) : PRok Γ H w μ a o (.new c) := by
  obtain ⟨h0, _⟩ := pw_cellsN hx hc
  obtain ⟨h1, h2, h3⟩ := pw_get h0
  refine ⟨(a.eval x).cells, t, ?_, h1, h2, h3⟩
  unfold execOp
  simp only [ho, Instr.box, Sem.run_bind, newVar, newRow, newObj, Sem.run_pure]
  rfl

theorem convInt_ok {T : TTab} (hT : TOk Γ.P T) {s t : Nat} {x : Operand} {ti : TI} {n1 n2 : Nat} {z : List F} {k k' : IntKind} {n : Int} (hm : Mem Γ H w μ) (ho : o.op = .convert s t x) (ht : T.get t = some ⟨.int k, n1, n2, z⟩)
    (hs : T.get s = some ti) (hx : Rep Γ w μ (.fr (.sc (.int k' n))) (a.eval x)) : ValOk Γ H w μ a o (.fr (.sc (.int k (k.wrap n)))) := by
  obtain ⟨d, hd, hk⟩ := (hT t _ ht).kind
  cases d <;> try exact hk.elim
  obtain rfl : k = _ := hk
  obtain ⟨d', hd', _⟩ := (hT s _ hs).kind
  have hx' := rep_int hx
  refine .same (cv := .int k (k.wrap n)) hm ?_ (rep_mk _ rfl)
  unfold execOp
  simp only [ho, hx', convert, Sem.run_bind, run_underlying hd w, run_underlying hd' w, Result.andThen_ok, Conv.intToInt, Sem.run_pure]

theorem convStr_ok {T : TTab} (hT : TOk Γ.P T) {s t : Nat} {x : Operand} {ti : TI} {n1 n2 : Nat} {z : List F} {b : ByteArray} (hm : Mem Γ H w μ) (ho : o.op = .convert s t x) (ht : T.get t = some ⟨.str, n1, n2, z⟩)
    (hs : T.get s = some ti) (hx : Rep Γ w μ (.fr (.sc (.string b))) (a.eval x)) : ValOk Γ H w μ a o (S1 b) := by
  obtain ⟨d, hd, hk⟩ := (hT t _ ht).kind
  cases d <;> try exact hk.elim
  obtain ⟨d', hd', _⟩ := (hT s _ hs).kind
  have hx' := rep_sc hx
  refine .same (cv := .string b) hm ?_ (rep_mk _ rfl)
  unfold execOp
  simp only [ho, hx', convert, Sem.run_bind, run_underlying hd w, run_underlying hd' w, Result.andThen_ok, Sem.run_pure]

theorem len_run {args : Array Operand} {ats : Array TypeId} {x : Operand} {t : Nat} {d : TypeDesc} {n : Nat} (ho : o.op = .call ⟨.builtin .len, args, ats⟩) (ha : args.toList = [x]) (hat : ats.toList = [t]) (hd : Γ.P.underlying t = some d)
    (h : (∃ s, d = .string ∧ a.eval x = .string s ∧ s.size = n) ∨ (∃ e, d = .array n e) ∨ ∃ e ad c, d = .slice e ∧ a.eval x = .slice ad n c) : (execOp a.eval o).run Γ.P w = .ok (.value (goInt n)) w := by
  obtain ⟨args⟩ := args
  obtain ⟨ats⟩ := ats
  obtain rfl : args = [x] := ha
  obtain rfl : ats = [t] := hat
  unfold execOp
  simp only [ho, resolve, Sem.run_bind, Sem.run_pure, Result.andThen_ok, invoke, builtin, Builtin.len_]
  have e1 : (([x].toArray.map a.eval)[0]? : Option Value) = some (a.eval x) := by simp
  have e2 : (([t].toArray)[0]? : Option TypeId) = some t := by simp
  simp only [e1, e2, Sem.run_bind, run_underlying hd w, Result.andThen_ok]
  rcases h with ⟨s, rfl, hx, rfl⟩ | ⟨e, rfl⟩ | ⟨e, ad, c, rfl, hx⟩
  · simp only [hx, Sem.run_pure, Result.andThen_ok]
  · simp only [Sem.run_pure, Result.andThen_ok]
  · simp only [hx, Sem.run_pure, Result.andThen_ok]

theorem call_ok {T : TTab} {E : Env} {f : Operand} {args : Array Operand} {ats : Array TypeId} {g : Nat} {caps : List V} (ho : o.op = .call ⟨.value f, args, ats⟩) (hf : Rep Γ w μ (.clo g caps) (a.eval f))
    (hE : ∀ x ∈ args.toList, Rep Γ w μ (opd E x) (a.eval x)) (hl : args.toList.length = ats.toList.length) :
    PRok Γ H w μ a o (.call g ((args.toList.zip ats.toList).map (fun p => nrmV T p.2 (opd E p.1)) ++ caps)) := by
  generalize hcf : a.eval f = cf at hf
  cases hf with
  | clo g xs vs hvl hv =>
    refine ⟨args.map a.eval ++ vs, ?_, ?_, ?_⟩
    · unfold execOp
      simp only [ho, resolve, hcf, Deferred.ofValue, Sem.run_bind, Sem.run_pure, Result.andThen_ok, invoke, Array.empty_append]
    · simp only [Array.size_append, Array.size_map, List.length_append, List.length_map, List.length_zip, hvl]
      simp only [Array.length_toList] at hl ⊢
      omega
    · intro i x hx
      have hal : (args.map a.eval).size = args.toList.length := by simp
      by_cases hi : i < args.toList.length
      · rw [List.getElem?_append_left (by simp only [List.length_map, List.length_zip]; omega)] at hx
        rw [List.getElem?_map, (List.getElem?_zip_eq_some (z := (args.toList[i], ats.toList[i]'(by omega)))).2 ⟨List.getElem?_eq_getElem hi, List.getElem?_eq_getElem (by omega)⟩] at hx
        simp only [Option.map_some, Option.some.injEq] at hx
        subst hx
        have hg : (args.map a.eval ++ vs).getD i undef = a.eval args.toList[i] := by
          rw [Array.getD_eq_getD_getElem?, Array.getElem?_append_left (by rw [hal]; exact hi)]
          simp only [Array.length_toList] at hi
          simp [hi]
        rw [hg]
        exact rep_nrmV T _ (hE _ (List.getElem_mem hi))
      · rw [List.getElem?_append_right (by simp only [List.length_map, List.length_zip]; omega)] at hx
        have hg : (args.map a.eval ++ vs).getD i undef = vs.getD (i - args.toList.length) undef := by
          rw [Array.getD_eq_getD_getElem?, Array.getElem?_append_right (by rw [hal]; omega), hal, Array.getD_eq_getD_getElem?]
        rw [hg]
        have e : ((args.toList.zip ats.toList).map fun p => nrmV T p.2 (opd E p.1)).length = args.toList.length := by simp only [List.length_map, List.length_zip]; omega
        rw [e] at hx
        exact hv _ _ hx


theorem minmax_ok {mx : Bool} {args : Array Operand} {ats : Array TypeId} {x y : Operand} {k : IntKind} {p q : Int} (hm : Mem Γ H w μ) (ho : o.op = .call ⟨.builtin (if mx then .max else .min), args, ats⟩) (ha : args.toList = [x, y])
    (hx : Rep Γ w μ (.fr (.sc (.int k p))) (a.eval x)) (hy : Rep Γ w μ (.fr (.sc (.int k q))) (a.eval y)) : ValOk Γ H w μ a o (.fr (.sc (.int k (if mx then max p q else min p q)))) := by
  have hx' := rep_int hx
  have hy' := rep_int hy
  obtain ⟨args⟩ := args
  obtain rfl : args = [x, y] := ha
  refine .same (cv := .int k (if mx then max p q else min p q)) hm ?_ (rep_mk _ rfl)
  unfold execOp
  cases mx with
  | true =>
    simp only [if_true] at ho ⊢
    simp [ho, resolve, invoke, builtin, Builtin.max_, hx', hy', Builtin.max2]
    omega
  | false =>
    simp only [Bool.false_eq_true, if_false] at ho ⊢
    simp [ho, resolve, invoke, builtin, Builtin.min_, hx', hy', Builtin.min2]
    omega

end Go.AW
