/- AW, part 3: what the pure operations come to is what the evaluator says. -/
import Derived.Test.YtalkhhfinogecaaA2
import Derived.Laws.Slices
import Derived.RowKit3
namespace Go.AW
open Go Go.RowKit

def RepArgs (Γ : Ctx) (w : World) (μ : List Plc) (args : List V) (cargs : Array Value) : Prop :=
  cargs.size = args.length ∧ ∀ (i : Nat) (x : V), args[i]? = some x → Rep Γ w μ x (cargs.getD i undef)

def ValOk (Γ : Ctx) (H : Heap) (w : World) (μ : List Plc) (a : Act) (o : Oper) (v : V) : Prop :=
  ∃ cv w', (execOp a.eval o).run Γ.P w = .ok (.value cv) w' ∧ Mem Γ H w' μ ∧ Pres Γ w μ w' μ ∧ Rep Γ w' μ v cv

def PRok (Γ : Ctx) (H : Heap) (w : World) (μ : List Plc) (a : Act) (o : Oper) : PR → Prop
  | .val v => ValOk Γ H w μ a o v
  | .side p v => p → ValOk Γ H w μ a o v
  | .pick c x y => ValOk Γ H w μ a o (if c then x else y)
  | .idx es i => ∀ e, 0 ≤ i → es[i.toNat]? = some e → ValOk Γ H w μ a o (.fptr e 0)
  | .str s i => ∀ h : i.toNat < s.size, 0 ≤ i → ValOk Γ H w μ a o (.fr (.sc (.int .u8 (s[i.toNat]'h).toNat)))
  | .new xs => ∃ c e, (execOp a.eval o).run Γ.P w = .ok (.value (.pointer (some ⟨w.heap.size, 0, none⟩))) (w.alloc (.cells c e)) ∧ c.size = xs.length ∧ (∀ v ∈ c.toList, v.oneCell' = true) ∧
      ∀ (i : Nat) (x : V), xs[i]? = some x → Rep Γ w μ x (c.getD i undef)
  | .call g args => ∃ cargs, (execOp a.eval o).run Γ.P w = (callFunc g cargs).run Γ.P w ∧ RepArgs Γ w μ args cargs
  | .ex p => ∀ v, p v → ValOk Γ H w μ a o v
  | .no => True

variable {Γ : Ctx} {H : Heap} {w : World} {μ : List Plc} {a : Act} {o : Oper}

theorem ValOk.same {v : V} {cv : Value} (hm : Mem Γ H w μ) (h : (execOp a.eval o).run Γ.P w = .ok (.value cv) w) (r : Rep Γ w μ v cv) : ValOk Γ H w μ a o v :=
  ⟨cv, w, h, hm, .refl _ _ _, r⟩

theorem rep_tup_one {I : Nat → Prop} {xs : List V} {v : Value} (h : RepV w I μ (.tup xs) v) : ∃ vs, v = .tuple vs ∧ vs.size = xs.length ∧ ∀ (i : Nat) (x : V), xs[i]? = some x → RepV w I μ x (vs.getD i undef) := by
  cases h with
  | tup xs vs hl h => exact ⟨vs, rfl, hl, h⟩

theorem rep_int {I : Nat → Prop} {k : IntKind} {n : Int} {v : Value} (h : RepV w I μ (.fr (.sc (.int k n))) v) : v = .int k n := by
  cases h with
  | fr f v h => cases h with | sc v h => rfl
theorem rep_sc {I : Nat → Prop} {u v : Value} (h : RepV w I μ (.fr (.sc u)) v) : v = u := by
  cases h with
  | fr f v h => cases h with | sc v h => rfl
theorem rep_mk {I : Nat → Prop} (u : Value) (h : u.oneCell' = true) : RepV w I μ (.fr (.sc u)) u := .fr _ _ (.sc _ h)

/-- What a load finds. -/
theorem run_loadV {P : Program} {t : Nat} {ti : TI} (ht : TiOk P t ti) {I : Nat → Prop} {xs : List V} {v : V} (hv : loadV ti xs = some v) (k o : Nat) (cv : Nat → Value)
    (h : ∀ (j : Nat) (x : V), xs[j]? = some x → w.cell? ⟨k, o + j, none⟩ = some (cv j) ∧ RepV w I μ x (cv j) ∧ (cv j).oneCell' = true) :
    ∃ r, (Instr.loadAt t (.pointer (some ⟨k, o, none⟩))).run P w = .ok r w ∧ RepV w I μ v r := by
  unfold loadV at hv
  split at hv
  · rename_i hk
    cases hl : takeL ti.sz xs with
    | none => rw [hl] at hv; cases hv
    | some l =>
      rw [hl] at hv; cases hv
      obtain ⟨rfl, hlen⟩ := takeL_some hl
      obtain ⟨d, hd, hkd⟩ := ht.kind
      have hxl : ti.sz ≤ xs.length := by rw [List.length_take] at hlen; omega
      let cs := (List.range ti.sz).map cv
      have hcs : cs.length = ti.sz := by simp [cs]
      have hget : ∀ j, j < ti.sz → cs[j]? = some (cv j) := fun j hj => by simp [cs, hj]
      have hx : ∀ j, j < ti.sz → ∃ x, xs[j]? = some x := fun j hj => ⟨xs[j]'(by omega), by simp⟩
      refine ⟨.agg cs.toArray, run_loadAt_mid w k o t cs d ?_ hd (by rw [hkd.agg, hk]) (by rw [hcs]; exact ht.size'), .agg _ _ (by simp [hcs]; omega) ?_ ?_⟩
      · intro j u hu
        have hj : j < ti.sz := by have := (List.getElem?_eq_some_iff.1 hu).1; omega
        rw [hget j hj] at hu; cases hu
        obtain ⟨x, hx'⟩ := hx j hj
        exact (h j x hx').1
      · intro i hi
        have hi' : i < ti.sz := by simpa [hcs] using hi
        obtain ⟨x, hx'⟩ := hx i hi'
        have : cs.toArray.getD i undef = cv i := by rw [Array.getD_eq_getD_getElem?, List.getElem?_toArray, hget i hi']; rfl
        rw [this]; exact (h i x hx').2.2
      · intro i x hx'
        rw [List.getElem?_take] at hx'
        by_cases hi : i < ti.sz
        · rw [if_pos hi] at hx'
          have : cs.toArray.getD i undef = cv i := by rw [Array.getD_eq_getD_getElem?, List.getElem?_toArray, hget i hi]; rfl
          rw [this]; exact (h i x hx').2.1
        · rw [if_neg hi] at hx'; cases hx'
  · rename_i hk
    cases xs with
    | nil => cases hv
    | cons x r =>
      cases hv
      obtain ⟨h1, h2, h3⟩ := h 0 _ rfl
      refine ⟨cv 0, ?_, h2⟩
      simp only [Instr.loadAt, Instr.sureAddr, loadVar, Sem.run_bind, Sem.run_pure, Result.andThen_ok, ht.isAgg w, hk, Bool.false_eq_true, if_false, run_load]
      simp only [Nat.add_zero] at h1
      rw [h1]


theorem Mem.heap {i : Nat} {b : Blk} (hm : Mem Γ H w μ) (h : H[i]? = some b) : ∃ l, μ[i]? = some l ∧ BlkOk Γ w μ b l := by
  have hi : i < H.length := (List.getElem?_eq_some_iff.1 h).1
  obtain ⟨l, hl⟩ : ∃ l, μ[i]? = some l := ⟨μ[i]'(by rw [hm.len]; exact hi), by simp⟩
  exact ⟨l, hl, hm.blk i b l h hl⟩

theorem cell_of {c : Array Value} {e : TypeId} {k : Nat} (h : w.heap[k]? = some (.cells c e (0, 0))) (j : Nat) (hj : j < c.size) : w.cell? ⟨k, j, none⟩ = some (c.getD j undef) := by
  simp only [World.cell?, h, Option.isSome_none, Bool.false_eq_true, if_false]
  simp [Array.getD, hj]

/-- The cells of a block, from an offset on. -/
theorem block_cells {xs : List V} {k o : Nat} (hb : BlkOk Γ w μ (.cells xs) (.at_ k)) :
    ∃ cv : Nat → Value, ∀ (j : Nat) (x : V), (dropL o xs)[j]? = some x → w.cell? ⟨k, o + j, none⟩ = some (cv j) ∧ Rep Γ w μ x (cv j) ∧ (cv j).oneCell' = true := by
  obtain ⟨c, e, h1, h2, h3, h4⟩ := hb
  refine ⟨fun j => c.getD (o + j) undef, fun j x hx => ?_⟩
  rw [dropL_eq, List.getElem?_drop] at hx
  have hj : o + j < c.size := by have := (List.getElem?_eq_some_iff.1 hx).1; omega
  refine ⟨cell_of h1 _ hj, h4 _ _ hx, h3 _ ?_⟩
  simp [Array.getD, hj]

theorem load_block {T : TTab} (hT : TOk Γ.P T) (hm : Mem Γ H w μ) {t : Nat} {x : Operand} {ti : TI} {b o' : Nat} {xs : List V} {v : V} (ho : o.op = .load t x) (hti : T.get t = some ti)
    (hx : Rep Γ w μ (.ptr b o') (a.eval x)) (hb : H[b]? = some (.cells xs)) (hv : loadV ti (dropL o' xs) = some v) : ValOk Γ H w μ a o v := by
  generalize hcx : a.eval x = cx at hx
  cases hx with
  | ptr b o' k hl =>
    have hok := hm.blk b _ _ hb hl
    obtain ⟨cv, hcv⟩ := block_cells (o := o') hok
    obtain ⟨r, hr, hrep⟩ := run_loadV (P := Γ.P) (hT t ti hti) hv _ o' cv hcv
    refine .same hm ?_ hrep
    unfold execOp
    simp only [ho, hcx, Sem.run_bind, hr, Result.andThen_ok, Sem.run_pure]

theorem load_frozen {T : TTab} (hT : TOk Γ.P T) (hm : Mem Γ H w μ) {t : Nat} {x : Operand} {ti : TI} {o' : Nat} {es : List F} {v : V} (ho : o.op = .load t x) (hti : T.get t = some ti)
    (hx : Rep Γ w μ (.fptr es o') (a.eval x)) (hv : loadV ti (dropL o' (es.map .fr)) = some v) : ValOk Γ H w μ a o v := by
  generalize hcx : a.eval x = cx at hx
  cases hx with
  | fptr es o' k o0 cv hk hc hr =>
    obtain ⟨r, hr, hrep⟩ := run_loadV (P := Γ.P) (w := w) (μ := μ) (I := Imm Γ w μ) (hT t ti hti) hv k (o0 + o') (fun j => cv (o' + j)) (fun j y hy => by
      rw [dropL_eq, List.getElem?_drop, List.getElem?_map] at hy
      cases hq : es[o' + j]? with
      | none => rw [hq] at hy; simp at hy
      | some f =>
        rw [hq] at hy; simp at hy; subst hy
        have := hc _ _ hq
        exact ⟨by rw [Nat.add_assoc]; exact this, .fr _ _ (hr _ _ hq), (hr _ _ hq).one⟩)
    refine .same hm ?_ hrep
    unfold execOp
    simp only [ho, hcx, Sem.run_bind, hr, Result.andThen_ok, Sem.run_pure]

theorem fieldAddr_ok {T : TTab} (hT : TOk Γ.P T) {s f : Nat} {x : Operand} {fs : List (Nat × Nat)} {qq : Bool} {n1 n2 : Nat} {z : List F} {o' t' : Nat} (ho : o.op = .fieldAddr s x f)
    (hs : T.get s = some ⟨.st fs qq, n1, n2, z⟩) (hf : fs[f]? = some (o', t')) (hz : szOf T t' ≠ 0) {k q : Nat} (hx : a.eval x = .pointer (some ⟨k, q, none⟩)) :
    (execOp a.eval o).run Γ.P w = .ok (.value (.pointer (some ⟨k, q + o', none⟩))) w := by
  obtain ⟨d, hd, hk⟩ := (hT s _ hs).kind
  cases d <;> try exact hk.elim
  rename_i gs
  have hk' : gs.toList.map (fun f => (f.offset, f.type)) = fs := hk
  rw [← hk'] at hf
  rw [List.getElem?_map] at hf
  cases hg : gs.toList[f]? with
  | none => rw [hg] at hf; simp at hf
  | some g =>
    rw [hg] at hf; simp at hf
    obtain ⟨rfl, rfl⟩ := hf
    have hg' : gs[f]? = some g := by simpa using hg
    have hsz : ∃ ti, T.get g.type = some ti ∧ ti.sz ≠ 0 := by
      unfold szOf at hz
      cases h : T.get g.type with
      | none => rw [h] at hz; simp at hz
      | some ti => rw [h] at hz; exact ⟨ti, rfl, hz⟩
    obtain ⟨ti, h1, h2⟩ := hsz
    unfold execOp
    simp only [ho, hx, Instr.fieldAt, Sem.run_bind, run_underlying hd w, Result.andThen_ok, hg', Instr.sureAddr, Sem.run_pure, fieldPlace, (hT _ ti h1).size w, h2, if_false, Addr.add_mid]

theorem idx_ok {T : TTab} (hT : TOk Γ.P T) (hm : Mem Γ H w μ) {t e' : Nat} {x i : Operand} {n1 n2 : Nat} {z : List F} {n nb : Nat} {es : List (List F)} {k : IntKind} {q : Int} (ho : o.op = .indexAddr t x i)
    (ht : T.get t = some ⟨.sli e', n1, n2, z⟩) (hn : n = szOf T e') (hx : Rep Γ w μ (.fr (.sl n nb es)) (a.eval x)) (hi : Rep Γ w μ (.fr (.sc (.int k q))) (a.eval i))
    {e : List F} (h0 : 0 ≤ q) (he : es[q.toNat]? = some e) (hsz : ∃ ti, T.get e' = some ti) : ValOk Γ H w μ a o (.fptr e 0) := by
  have hi' := rep_int hi
  obtain ⟨ti, hti⟩ := hsz
  have hn' : n = ti.sz := by rw [hn]; unfold szOf; rw [hti]
  obtain ⟨d, hd, hk⟩ := (hT t _ ht).kind
  cases d <;> try exact hk.elim
  rename_i e''
  obtain rfl : e' = e'' := hk
  generalize hcx : a.eval x = cx at hx
  cases hx with
  | fr f v h =>
    cases h with
    | nil => simp at he
    | sl n nb es b o1 c cv hk1 hcl hb1 hl hc hr =>
      have hlt : q.toNat < es.length := (List.getElem?_eq_some_iff.1 he).1
      refine .same (cv := .pointer (some ⟨b, o1 + q.toNat * n, none⟩)) hm ?_ ?_
      · unfold execOp
        have hq : q < (es.length : Int) := by omega
        simp only [ho, hcx, hi', Instr.indexAt, asIntOf, Sem.run_bind, Sem.run_pure, Result.andThen_ok, run_underlying hd w, h0, hq, and_self, if_true, (hT _ ti hti).size w, Addr.add_mid, hn']
      · have := RepV.fptr (w := w) (I := Imm Γ w μ) (μ := μ) e 0 b (o1 + q.toNat * n) (fun j => cv q.toNat j) hk1 (fun j f hj => by rw [← hc q.toNat e j f he hj]) (fun j f hj => hr q.toNat e j f he hj)
        simpa using this

theorem str_ok {T : TTab} (hT : TOk Γ.P T) (hm : Mem Γ H w μ) {t : Nat} {x i : Operand} {n1 n2 : Nat} {z : List F} {s : ByteArray} {k : IntKind} {q : Int} (ho : o.op = .index t x i)
    (ht : T.get t = some ⟨.str, n1, n2, z⟩) (hx : Rep Γ w μ (.fr (.sc (.string s))) (a.eval x)) (hi : Rep Γ w μ (.fr (.sc (.int k q))) (a.eval i)) (h : q.toNat < s.size) (h0 : 0 ≤ q) :
    ValOk Γ H w μ a o (.fr (.sc (.int .u8 (s[q.toNat]'h).toNat))) := by
  have hi' := rep_int hi
  have hx' := rep_sc hx
  obtain ⟨d, hd, hk⟩ := (hT t _ ht).kind
  cases d <;> try exact hk.elim
  refine .same (cv := .int .u8 (s[q.toNat]'h).toNat) hm ?_ (rep_mk _ rfl)
  unfold execOp
  simp only [ho, hx', hi', Instr.index, asIntOf, Sem.run_bind, Sem.run_pure, Result.andThen_ok, run_underlying hd w, h0, if_true]
  simp [h]

end Go.AW
