/- AW, part 4: the other pure operations. -/
import Derived.Test.YtalkhhfinogecaaA3
import Derived.Laws.StructEq
import Derived.Laws.Strings
namespace Go.AW
open Go Go.RowKit
variable {Γ : Ctx} {H : Heap} {w : World} {μ : List Plc} {a : Act} {o : Oper}

theorem kCode_inj {i j : IntKind} (h : kCode i = kCode j) : i = j := by cases i <;> cases j <;> first | rfl | (simp [kCode] at h)

theorem bytes_eq (a b : ByteArray) : (a.toList == b.toList) = decide (a = b) := by
  rw [Bool.eq_iff_iff, beq_iff_eq, decide_eq_true_iff]
  constructor
  · intro h
    rw [ByteArray.toList_eq, ByteArray.toList_eq] at h
    obtain ⟨⟨x⟩⟩ := a
    obtain ⟨⟨y⟩⟩ := b
    simpa using h
  · intro h; rw [h]

theorem intOp_ok {op : BinOp} {x y : Operand} {t t' : Nat} {i : IntKind} {p q : Int} (hm : Mem Γ H w μ) (ho : o.op = .binOp op t x y t') (hx : Rep Γ w μ (.fr (.sc (.int i p))) (a.eval x)) (hy : Rep Γ w μ (.fr (.sc (.int i q))) (a.eval y))
    (h1 : op ≠ .shl) (h2 : op ≠ .shr) : PRok Γ H w μ a o (intOp op i p q) := by
  have hx' := rep_int hx
  have hy' := rep_int hy
  have key : ∀ cv, (binOp op t (.int i p) (.int i q)).run Γ.P w = .ok cv w → (execOp a.eval o).run Γ.P w = .ok (.value cv) w := by
    intro cv h
    have hg : (eqGuard op t x y (.int i p) (.int i q)).run Γ.P w = .ok () w := by
      unfold eqGuard
      cases op <;> rfl
    unfold execOp
    simp only [ho, hx', hy', Sem.run_bind, hg, Result.andThen_ok, h, Sem.run_pure]
  have done : ∀ cv : Value, cv.oneCell' = true → (binOp op t (.int i p) (.int i q)).run Γ.P w = .ok cv w → ValOk Γ H w μ a o (.fr (.sc cv)) := fun cv h1 h => .same hm (key cv h) (rep_mk cv h1)
  cases op with
  | shl => exact absurd rfl h1
  | shr => exact absurd rfl h2
  | quo => exact fun hq => done _ rfl (by simp [binOp, Op.intDiv, hq])
  | rem => exact fun hq => done _ rfl (by simp [binOp, Op.intDiv, hq])
  | andNot => trivial
  | _ => exact done _ rfl (by simp [binOp, Op.intArith, Op.intCmp, Op.intBits])

theorem strOp_ok {op : BinOp} {x y : Operand} {t t' : Nat} {p q : ByteArray} (hm : Mem Γ H w μ) (ho : o.op = .binOp op t x y t') (hx : Rep Γ w μ (.fr (.sc (.string p))) (a.eval x)) (hy : Rep Γ w μ (.fr (.sc (.string q))) (a.eval y)) :
    PRok Γ H w μ a o (strOp op p q) := by
  have hx' := rep_sc hx
  have hy' := rep_sc hy
  have key : ∀ cv, (binOp op t (.string p) (.string q)).run Γ.P w = .ok cv w → (execOp a.eval o).run Γ.P w = .ok (.value cv) w := by
    intro cv h
    have hg : (eqGuard op t x y (.string p) (.string q)).run Γ.P w = .ok () w := by
      unfold eqGuard
      cases op <;> rfl
    unfold execOp
    simp only [ho, hx', hy', Sem.run_bind, hg, Result.andThen_ok, h, Sem.run_pure]
  have done : ∀ cv : Value, cv.oneCell' = true → (binOp op t (.string p) (.string q)).run Γ.P w = .ok cv w → ValOk Γ H w μ a o (.fr (.sc cv)) := fun cv h1 h => .same hm (key cv h) (rep_mk cv h1)
  cases op with
  | eql => exact done _ rfl (by simp [binOp, Op.stringOp, bytes_eq])
  | neq => exact done _ rfl (by simp [binOp, Op.stringOp, bytes_eq])
  | lss => exact done _ rfl (by simp [binOp, Op.stringOp, sless])
  | leq => exact done _ rfl (by simp [binOp, Op.stringOp, bytes_eq, sless])
  | gtr => exact done _ rfl (by simp [binOp, Op.stringOp, bytes_eq, sless])
  | geq => exact done _ rfl (by simp [binOp, Op.stringOp, sless])
  | add => exact fun h => done _ rfl (by
      have : ¬ ((p.size + q.size : Nat) : Int) > IntKind.i64.max := by
        have e : IntKind.i64.max = 9223372036854775807 := by decide
        rw [e]; omega
      simp only [binOp, Op.stringOp, this, if_false, Sem.run_pure])
  | _ => trivial

theorem eqT_zero (T : TTab) (t : Nat) (xs ys : List V) : eqT T 0 t xs ys = none := rfl

noncomputable def eqFs (T : TTab) (n : Nat) (xs ys : List V) (fs : List (Nat × Nat)) : Option Bool := List.rec (motive := fun _ => Option Bool) (some true) (fun p _ r => match T.get p.2 with
        | some ti => (match ti.k with
          | .st _ _ => (match takeL ti.sz (dropL p.1 xs), takeL ti.sz (dropL p.1 ys) with
            | some l, some m => (match eqT T n p.2 l m, r with | some a, some b => some (a && b) | _, _ => none)
            | _, _ => none)
          | .int _ => (match nth xs p.1, nth ys p.1 with | some x, some y => (match eqV 0 x y, r with | some a, some b => some (a && b) | _, _ => none) | _, _ => none)
          | .bool => (match nth xs p.1, nth ys p.1 with | some x, some y => (match eqV 1 x y, r with | some a, some b => some (a && b) | _, _ => none) | _, _ => none)
          | .str => (match nth xs p.1, nth ys p.1 with | some x, some y => (match eqV 2 x y, r with | some a, some b => some (a && b) | _, _ => none) | _, _ => none)
          | _ => none)
        | none => none) fs

theorem eqT_succ (T : TTab) (n t : Nat) (xs ys : List V) : eqT T (n + 1) t xs ys = (match T.get t with
    | some ⟨.st fs true, _, _, _⟩ => eqFs T n xs ys fs
    | _ => none) := rfl

theorem eqFs_cons (T : TTab) (n : Nat) (xs ys : List V) (p : Nat × Nat) (fs : List (Nat × Nat)) : eqFs T n xs ys (p :: fs) = (match T.get p.2 with
        | some ti => (match ti.k with
          | .st _ _ => (match takeL ti.sz (dropL p.1 xs), takeL ti.sz (dropL p.1 ys) with
            | some l, some m => (match eqT T n p.2 l m, eqFs T n xs ys fs with | some a, some b => some (a && b) | _, _ => none)
            | _, _ => none)
          | .int _ => (match nth xs p.1, nth ys p.1 with | some x, some y => (match eqV 0 x y, eqFs T n xs ys fs with | some a, some b => some (a && b) | _, _ => none) | _, _ => none)
          | .bool => (match nth xs p.1, nth ys p.1 with | some x, some y => (match eqV 1 x y, eqFs T n xs ys fs with | some a, some b => some (a && b) | _, _ => none) | _, _ => none)
          | .str => (match nth xs p.1, nth ys p.1 with | some x, some y => (match eqV 2 x y, eqFs T n xs ys fs with | some a, some b => some (a && b) | _, _ => none) | _, _ => none)
          | _ => none)
        | none => none) := rfl

theorem eqV_run {P : Program} {w : World} {I : Nat → Prop} {μ : List Plc} {c : Nat} {x y : V} {cx cy : Value} {b : Bool} (hx : RepV w I μ x cx) (hy : RepV w I μ y cy) (h : eqV c x y = some b) {t : Nat} {d : TypeDesc} (ht : P.underlying t = some d)
    (hd : (c = 0 ∧ ∃ k, d = .int k) ∨ (c = 1 ∧ d = .bool) ∨ (c = 2 ∧ d = .string)) (n : Nat) : (Op.equalIn (n + 1) t cx cy).run P w = .ok b w := by
  unfold eqV at h
  split at h
  · rename_i k p k' q
    split at h
    · rename_i hk
      cases h
      obtain rfl := kCode_inj (Nat.eq_of_beq_eq_true hk)
      rw [rep_sc hx, rep_sc hy]
      rcases hd with ⟨_, k2, rfl⟩ | ⟨e, _⟩ | ⟨e, _⟩
      · exact run_equalIn_int w n t k k2 p q ht
      · cases e
      · cases e
    · cases h
  · cases h
    rw [rep_sc hx, rep_sc hy]
    rcases hd with ⟨e, _⟩ | ⟨_, rfl⟩ | ⟨e, _⟩
    · cases e
    · exact run_equalIn_bool' w n t _ _ ht
    · cases e
  · rename_i p q
    cases h
    rw [rep_sc hx, rep_sc hy]
    rcases hd with ⟨e, _⟩ | ⟨e, _⟩ | ⟨_, rfl⟩
    · cases e
    · cases e
    · rw [run_equalIn_string w n t _ _ ht, bytes_eq]
  · cases h

/-- The piece of a struct's cells. -/
theorem rep_piece {I : Nat → Prop} {w : World} {μ : List Plc} {xs l : List V} {vs : Array Value} {o n : Nat} (hl : vs.size = xs.length) (h1 : ∀ i, i < vs.size → (vs.getD i undef).oneCell' = true) (h : ∀ (i : Nat) (x : V), xs[i]? = some x → RepV w I μ x (vs.getD i undef))
    (ht : takeL n (dropL o xs) = some l) : RepV w I μ (.agg l) (.agg (vs.extract o (o + n))) := by
  obtain ⟨rfl, hlen⟩ := takeL_some ht
  rw [dropL_eq] at hlen ⊢
  have hsz : n + o ≤ xs.length ∨ n = 0 := by rw [List.length_take, List.length_drop] at hlen; omega
  have hext : (vs.extract o (o + n)).size = n := by rw [Array.size_extract]; omega
  have hgd : ∀ i, i < n → (vs.extract o (o + n)).getD i undef = vs.getD (o + i) undef := fun i hi => by
    have hb : i < min (o + n) vs.size - o := by omega
    have hc : o + i < vs.size := by omega
    simp [Array.getD_eq_getD_getElem?, hb, hc]
  refine .agg _ _ (by rw [hext, List.length_take, List.length_drop]; omega) (fun i hi => ?_) (fun i y hy => ?_)
  · rw [hext] at hi
    rw [hgd i hi]; exact h1 _ (by omega)
  · rw [List.getElem?_take] at hy
    by_cases hi : i < n
    · rw [if_pos hi, List.getElem?_drop] at hy
      rw [hgd i hi]; exact h _ _ hy
    · rw [if_neg hi] at hy; cases hy

theorem eqT_run {T : TTab} {P : Program} (hT : TOk P T) {I : Nat → Prop} {w : World} {μ : List Plc} : ∀ (n t : Nat) (xs ys : List V) (vs us : Array Value) (b : Bool), eqT T n t xs ys = some b → RepV w I μ (.agg xs) (.agg vs) → RepV w I μ (.agg ys) (.agg us) →
    ∀ d, n + 1 ≤ d → (Op.equalIn d t (.agg vs) (.agg us)).run P w = .ok b w
  | 0, t, xs, ys, vs, us, b, h, _, _, _, _ => by rw [eqT_zero] at h; cases h
  | n + 1, t, xs, ys, vs, us, b, h, hx, hy, d, hd => by
    obtain ⟨d, rfl⟩ : ∃ d', d = d' + 1 := ⟨d - 1, by omega⟩
    rw [eqT_succ] at h
    split at h
    · rename_i fs n1 n2 z ht
      obtain ⟨h2, h3, h4⟩ := (hT t _ ht).eq fs rfl
      obtain ⟨ds, hds, hk⟩ := (hT t _ ht).kind
      cases ds <;> try exact hk.elim
      rename_i gs
      have hk' : gs.toList.map (fun f => (f.offset, f.type)) = fs := hk
      have hfo : P.fieldsOf t = gs := by simp [Program.fieldsOf, hds]
      rw [hfo] at h4
      rw [run_equalIn_struct w d t vs us (by rw [hfo]; exact hds) h2, hfo]
      clear hds hk ht hfo
      generalize gs.toList = gl at hk' h4
      induction gl generalizing fs b with
      | nil => subst hk'; cases h; rfl
      | cons g gl ih =>
        subst hk'
        rw [List.map_cons, eqFs_cons] at h
        have hname := h4 g List.mem_cons_self
        simp only at h
        -- the rest
        have rest : ∀ {a r : Bool} {cv cu : Value}, (part g.type vs g.offset).run P w = .ok cv w → (part g.type us g.offset).run P w = .ok cu w → (Op.equalIn d g.type cv cu).run P w = .ok a w →
            eqFs T n xs ys (gl.map fun f => (f.offset, f.type)) = some r → (Op.eqFields d vs us (g :: gl)).run P w = .ok (a && r) w := by
          intro a r cv cu e1 e2 e3 e4
          have := ih r _ e4 rfl (fun f hf => h4 f (List.mem_cons_of_mem _ hf))
          simp only [Op.eqFields, Sem.run_bind, hname, ne_eq, not_false_iff, if_true, e1, e2, e3, Result.andThen_ok]
          cases a with
          | true => simpa using this
          | false => simp
        cases hx with
        | agg xs vs hl1 ho1 hr1 =>
          cases hy with
          | agg ys us hl2 ho2 hr2 =>
            have scal : ∀ {ti : TI} {c : Nat} {x y : V} {a r : Bool} {dd : TypeDesc}, T.get g.type = some ti → isAggK ti.k = false → P.underlying g.type = some dd → nth xs g.offset = some x → nth ys g.offset = some y → eqV c x y = some a →
                ((c = 0 ∧ ∃ k, dd = .int k) ∨ (c = 1 ∧ dd = .bool) ∨ (c = 2 ∧ dd = .string)) →
                eqFs T n xs ys (gl.map fun f => (f.offset, f.type)) = some r → (Op.eqFields d vs us (g :: gl)).run P w = .ok (a && r) w := by
              intro ti c x y a r dd e1 e2 e3 e4 e5 e6 e7 e8
              rw [nth_eq] at e4 e5
              have l1 : g.offset < vs.size := by have := (List.getElem?_eq_some_iff.1 e4).1; omega
              have l2 : g.offset < us.size := by have := (List.getElem?_eq_some_iff.1 e5).1; omega
              obtain ⟨d', rfl⟩ : ∃ d', d = d' + 1 := ⟨d - 1, by omega⟩
              refine rest (cv := vs.getD g.offset undef) (cu := us.getD g.offset undef) ?_ ?_ (eqV_run (hr1 _ _ e4) (hr2 _ _ e5) e6 e3 e7 d') e8
              · simp only [part, Sem.run_bind, (hT _ ti e1).isAgg w, Result.andThen_ok, e2, Bool.false_eq_true, if_false]
                simp [l1, Array.getD]
              · simp only [part, Sem.run_bind, (hT _ ti e1).isAgg w, Result.andThen_ok, e2, Bool.false_eq_true, if_false]
                simp [l2, Array.getD]
            split at h
            · rename_i ti hti
              obtain ⟨dd, hdd, hkk⟩ := (hT _ ti hti).kind
              split at h
              · rename_i hk1
                split at h
                · rename_i l m hl hm
                  split at h
                  · rename_i a r ha hr
                    cases h
                    have p1 := rep_piece hl1 ho1 hr1 hl
                    have p2 := rep_piece hl2 ho2 hr2 hm
                    refine rest ?_ ?_ (eqT_run hT n g.type l m _ _ a ha p1 p2 d (by omega)) hr
                    · simp only [part, Sem.run_bind, (hT _ ti hti).isAgg w, Result.andThen_ok, hk1, isAggK, if_true, (hT _ ti hti).size w, Sem.run_pure]
                    · simp only [part, Sem.run_bind, (hT _ ti hti).isAgg w, Result.andThen_ok, hk1, isAggK, if_true, (hT _ ti hti).size w, Sem.run_pure]
                  · cases h
                · cases h
              · rename_i k hk1
                split at h
                · rename_i x y hx hy
                  split at h
                  · rename_i a r ha hr
                    cases h
                    rw [hk1] at hkk
                    cases dd <;> try exact hkk.elim
                    exact scal hti (by rw [hk1]; rfl) hdd hx hy ha (.inl ⟨rfl, _, rfl⟩) hr
                  · cases h
                · cases h
              · rename_i hk1
                split at h
                · rename_i x y hx hy
                  split at h
                  · rename_i a r ha hr
                    cases h
                    rw [hk1] at hkk
                    cases dd <;> try exact hkk.elim
                    exact scal hti (by rw [hk1]; rfl) hdd hx hy ha (.inr (.inl ⟨rfl, rfl⟩)) hr
                  · cases h
                · cases h
              · rename_i hk1
                split at h
                · rename_i x y hx hy
                  split at h
                  · rename_i a r ha hr
                    cases h
                    rw [hk1] at hkk
                    cases dd <;> try exact hkk.elim
                    exact scal hti (by rw [hk1]; rfl) hdd hx hy ha (.inr (.inr ⟨rfl, rfl⟩)) hr
                  · cases h
                · cases h
              · cases h
            · cases h
    · cases h

theorem bin_ok {T : TTab} (hT : TOk Γ.P T) {op : BinOp} {x y : Operand} {t t' : Nat} {u v : V} (hm : Mem Γ H w μ) (ho : o.op = .binOp op t x y t') (hx : Rep Γ w μ u (a.eval x)) (hy : Rep Γ w μ v (a.eval y)) :
    PRok Γ H w μ a o (binP T op t u v) := by
  unfold binP
  split
  · split
    · trivial
    · trivial
    · split
      · rename_i h
        obtain rfl := kCode_inj (Nat.eq_of_beq_eq_true h)
        exact intOp_ok hm ho hx hy (by assumption) (by assumption)
      · trivial
  · exact strOp_ok hm ho hx hy
  · split
    · rename_i p q _ n1 n2 z ht
      have hx' := rep_sc hx
      have hy' := rep_sc hy
      obtain ⟨d, hd, hk⟩ := (hT t _ ht).kind
      cases d <;> try exact hk.elim
      have he : (Op.equal t (.bool p) (.bool q)).run Γ.P w = .ok (p == q) w := by
        exact run_equalIn_bool' w 9999 t p q hd
      have hg : ∀ op, (eqGuard op t x y (.bool p) (.bool q)).run Γ.P w = .ok () w := by intro op; cases op <;> rfl
      split
      · refine .same (cv := .bool (p == q)) hm ?_ (rep_mk _ rfl)
        unfold execOp
        simp only [ho, hx', hy', binOp, Sem.run_bind, hg, Sem.run_pure, Result.andThen_ok, he]
      · refine .same (cv := .bool (p != q)) hm ?_ (rep_mk _ rfl)
        unfold execOp
        simp only [ho, hx', hy', binOp, Sem.run_bind, hg, Sem.run_pure, Result.andThen_ok, he]; rfl
      · trivial
    · trivial
  · rename_i xs ys
    have key : ∀ b, eqT T 8 t xs ys = some b → ∃ vs us fs, a.eval x = .agg vs ∧ a.eval y = .agg us ∧ (∃ n1 n2 z, T.get t = some ⟨.st fs true, n1, n2, z⟩) ∧ (Op.equalIn 10000 t (.agg vs) (.agg us)).run Γ.P w = .ok b w := by
      intro b hb
      generalize a.eval x = cx at hx
      generalize a.eval y = cy at hy
      have hst : ∃ fs n1 n2 z, T.get t = some ⟨.st fs true, n1, n2, z⟩ := by
        rw [eqT_succ] at hb
        split at hb
        · exact ⟨_, _, _, _, by assumption⟩
        · cases hb
      obtain ⟨fs, n1, n2, z, hst⟩ := hst
      cases hx with
      | agg _ vs h1 h2 h3 =>
        cases hy with
        | agg _ us h4 h5 h6 => exact ⟨vs, us, fs, rfl, rfl, ⟨n1, n2, z, hst⟩, eqT_run hT 8 t xs ys vs us b hb (.agg _ _ h1 h2 h3) (.agg _ _ h4 h5 h6) 10000 (by omega)⟩
    split
    · split
      · rename_i b hb
        obtain ⟨vs, us, fs, e1, e2, ⟨n1, n2, z, e3⟩, e4⟩ := key b hb
        have hg := ((hT t _ e3).eq fs rfl).2.1
        refine .same (cv := .bool b) hm ?_ (rep_mk _ rfl)
        unfold execOp
        simp only [ho, e1, e2, Sem.run_bind, run_eqGuard_agg w _ t _ _ vs us hg, Result.andThen_ok, run_eql_struct, e4, Sem.run_pure]
      · trivial
    · split
      · rename_i b hb
        obtain ⟨vs, us, fs, e1, e2, ⟨n1, n2, z, e3⟩, e4⟩ := key b hb
        have hg := ((hT t _ e3).eq fs rfl).2.1
        refine .same (cv := .bool (!b)) hm ?_ (rep_mk _ rfl)
        unfold execOp
        simp only [ho, e1, e2, Sem.run_bind, run_eqGuard_agg w _ t _ _ vs us hg, Result.andThen_ok, run_neq_struct, e4, Sem.run_pure]
      · trivial
    · trivial
  · split
    · rename_i ht
      have hx' := rep_sc hx
      have hy' := rep_sc hy
      obtain ⟨d, hd, hk⟩ := (hT t _ ht).kind
      cases d <;> try exact hk.elim
      split
      · have hg : ∀ op p q, (eqGuard op t x y (.float .f64 p) (.float .f64 q)).run Γ.P w = .ok () w := by intro op p q; cases op <;> rfl
        split
        · refine .same (cv := .bool _) hm ?_ (rep_mk _ rfl)
          unfold execOp
          simp only [ho, hx', hy', binOp, Sem.run_bind, hg, Sem.run_pure, Result.andThen_ok, ne_eq, not_true, if_false]
          rfl
        · refine .same (cv := .bool _) hm ?_ (rep_mk _ rfl)
          unfold execOp
          simp only [ho, hx', hy', binOp, Sem.run_bind, hg, Sem.run_pure, Result.andThen_ok, ne_eq, not_true, if_false]
          rfl
        · trivial
      · trivial
    · trivial
  · trivial

theorem extract_ok {x : Operand} {i : Nat} {xs : List V} {v : V} (hm : Mem Γ H w μ) (ho : o.op = .extract x i) (hx : Rep Γ w μ (.tup xs) (a.eval x)) (hv : xs[i]? = some v) : ValOk Γ H w μ a o v := by
  obtain ⟨vs, h1, h2, h3⟩ := rep_tup_one hx
  have hi : i < vs.size := by have := (List.getElem?_eq_some_iff.1 hv).1; omega
  refine .same (cv := vs.getD i undef) hm ?_ (h3 i v hv)
  unfold execOp
  simp only [ho, h1, Instr.extract, Sem.run_bind]
  simp [hi, Array.getD]

theorem field_ok {T : TTab} (hT : TOk Γ.P T) {s f : Nat} {x : Operand} {fs : List (Nat × Nat)} {qq : Bool} {n1 n2 : Nat} {z : List F} {o' t' : Nat} {ti : TI} {xs : List V} {v : V} (hm : Mem Γ H w μ) (ho : o.op = .field s x f)
    (hs : T.get s = some ⟨.st fs qq, n1, n2, z⟩) (hf : fs[f]? = some (o', t')) (ht : T.get t' = some ti) (hx : Rep Γ w μ (.agg xs) (a.eval x)) (hv : loadV ti (dropL o' xs) = some v) : ValOk Γ H w μ a o v := by
  obtain ⟨d, hd, hk⟩ := (hT s _ hs).kind
  cases d <;> try exact hk.elim
  rename_i gs
  have hk' : gs.toList.map (fun f => (f.offset, f.type)) = fs := hk
  rw [← hk', List.getElem?_map] at hf
  generalize hcx : a.eval x = cx at hx
  cases hx with
  | agg xs vs hl h1 h =>
    cases hg : gs.toList[f]? with
    | none => rw [hg] at hf; simp at hf
    | some g =>
      rw [hg] at hf; simp at hf
      obtain ⟨rfl, rfl⟩ := hf
      have hg' : gs[f]? = some g := by simpa using hg
      have hT' := hT _ ti ht
      have hrun : (execOp a.eval o).run Γ.P w = ((part g.type vs g.offset).run Γ.P w).andThen fun v w' => .ok (.value v) w' := by
        unfold execOp
        simp only [ho, hcx, Instr.field, Sem.run_bind, run_underlying hd w, Result.andThen_ok, asAgg, Sem.run_pure, hg']
      unfold loadV at hv
      split at hv
      · rename_i hk2
        cases hl2 : takeL ti.sz (dropL g.offset xs) with
        | none => rw [hl2] at hv; cases hv
        | some l =>
          rw [hl2] at hv; cases hv
          obtain ⟨rfl, hlen⟩ := takeL_some hl2
          rw [dropL_eq] at hlen ⊢
          have hsz : ti.sz + g.offset ≤ xs.length ∨ ti.sz = 0 := by rw [List.length_take, List.length_drop] at hlen; omega
          have hext : (vs.extract g.offset (g.offset + ti.sz)).size = ti.sz := by rw [Array.size_extract]; omega
          have hgd : ∀ i, i < ti.sz → (vs.extract g.offset (g.offset + ti.sz)).getD i undef = vs.getD (g.offset + i) undef := fun i hi => by
            have hb : i < min (g.offset + ti.sz) vs.size - g.offset := by omega
            have hc : g.offset + i < vs.size := by omega
            simp [Array.getD_eq_getD_getElem?, hb, hc]
          refine .same (cv := .agg (vs.extract g.offset (g.offset + ti.sz))) hm ?_ (.agg _ _ (by rw [hext, List.length_take, List.length_drop]; omega) ?_ ?_)
          · rw [hrun]
            simp only [part, Sem.run_bind, hT'.isAgg w, Result.andThen_ok, hk2, if_true, hT'.size w, Sem.run_pure]
          · intro i hi
            rw [hext] at hi
            rw [hgd i hi]; exact h1 _ (by omega)
          · intro i y hy
            rw [List.getElem?_take] at hy
            by_cases hi : i < ti.sz
            · rw [if_pos hi, List.getElem?_drop] at hy
              rw [hgd i hi]; exact h _ _ hy
            · rw [if_neg hi] at hy; cases hy
      · rename_i hk2
        rw [dropL_eq] at hv
        cases hq : xs.drop g.offset with
        | nil => rw [hq] at hv; cases hv
        | cons y r =>
          rw [hq] at hv; cases hv
          have hy : xs[g.offset]? = some v := by rw [← List.head?_drop, hq]; rfl
          have hlt : g.offset < vs.size := by have := (List.getElem?_eq_some_iff.1 hy).1; omega
          refine .same (cv := vs.getD g.offset undef) hm ?_ (h _ _ hy)
          rw [hrun]
          simp only [part, Sem.run_bind, hT'.isAgg w, Result.andThen_ok, hk2, Bool.false_eq_true, if_false]
          simp [hlt, Array.getD]

end Go.AW
