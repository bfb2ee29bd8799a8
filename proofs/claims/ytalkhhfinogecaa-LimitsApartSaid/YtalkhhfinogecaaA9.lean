/- AW, part 9: the evaluator's word on every pure operation. -/
import Derived.Test.YtalkhhfinogecaaA8
namespace Go.AW
open Go Go.RowKit
variable {Γ : Ctx} {H H' : Heap} {w : World} {μ : List Plc} {a : Act} {o : Oper}

theorem rep_ptr {I : Nat → Prop} {b q : Nat} {v : Value} (h : RepV w I μ (.ptr b q) v) : ∃ k, v = .pointer (some ⟨k, q, none⟩) ∧ μ[b]? = some (.at_ k) := by
  cases h with
  | ptr b q k hl => exact ⟨k, rfl, hl⟩

theorem rep_fptr {I : Nat → Prop} {es : List F} {q : Nat} {v : Value} (h : RepV w I μ (.fptr es q) v) : ∃ k o0, v = .pointer (some ⟨k, o0 + q, none⟩) ∧ ∀ q', RepV w I μ (.fptr es q') (.pointer (some ⟨k, o0 + q', none⟩)) := by
  cases h with
  | fptr es q k o0 cv hk hc hr => exact ⟨k, o0, rfl, fun q' => .fptr es q' k o0 cv hk hc hr⟩

theorem buf_value (hm : Mem Γ H w μ) {b e n nb : Nat} {es : List (List F)} (hb : H[b]? = some (.buf e n nb es)) {v : Value} (h : Rep Γ w μ (.buf b) v) : ∃ ad c, v = .slice ad es.length c := by
  cases h with
  | buf b m c ad hl =>
    obtain ⟨h1, _⟩ := hm.blk _ _ _ hb hl
    exact ⟨_, _, by rw [← h1]; rfl⟩
  | bdead b v hl h1 => exact (hm.blk _ _ _ hb hl).elim

set_option maxHeartbeats 1000000 in
theorem evalP_sound {T : TTab} (hT : TOk Γ.P T) {n0 : Nat} {E : Env} (hm : Mem Γ H' w μ) (hE : ∀ x ∈ o.op.operands.toList, Rep Γ w μ (opd E x) (a.eval x)) (hH : ∀ b x, (b, false) ∈ touch E o.op → nth H b = some x → nth H' b = some x) :
    PRok Γ H' w μ a o (evalP T n0 E H o.op) := by
  cases hop : o.op with
  | move x =>
    have h1 := hE x (by simp [hop, Op.operands])
    exact .same hm (by unfold execOp; simp only [hop]; rfl) h1
  | assign x =>
    have h1 := hE x (by simp [hop, Op.operands])
    exact .same hm (by unfold execOp; simp only [hop]; rfl) h1
  | pick c x y =>
    have h1 := hE c (by simp [hop, Op.operands])
    have h2 := hE x (by simp [hop, Op.operands])
    have h3 := hE y (by simp [hop, Op.operands])
    simp only [evalP]
    split
    · rename_i b he
      rw [he] at h1
      have h1' := rep_sc h1
      cases b with
      | true => exact .same hm (by unfold execOp; simp only [hop, h1', asBool, Sem.run_bind, Sem.run_pure, Result.andThen_ok, if_true]) h2
      | false => exact .same hm (by unfold execOp; simp only [hop, h1', asBool, Sem.run_bind, Sem.run_pure, Result.andThen_ok, Bool.false_eq_true, if_false]) h3
    · trivial
  | alloc t =>
    simp only [evalP]
    split
    · rename_i ti ht; exact alloc_ok hT hop ht
    · trivial
  | box t x =>
    have h1 := hE x (by simp [hop, Op.operands])
    simp only [evalP]
    split
    · rename_i c hc; exact box_ok hop h1 hc
    · trivial
  | load t x =>
    have h1 := hE x (by simp [hop, Op.operands])
    simp only [evalP]
    split
    · rename_i ti ht
      split
      · rename_i b q he
        rw [he] at h1
        have hr := fun x => hH b x (by simp only [hop, touch, he, touchV, touch1, touch0]; simp)
        split
        · split
          · rename_i xs hx
            split
            · rename_i v hv
              exact load_block hT hm hop ht h1 (by rw [← nth_eq]; exact hr _ hx) hv
            · trivial
          · trivial
        · trivial
      · rename_i es q he
        rw [he] at h1
        split
        · rename_i v hv; exact load_frozen hT hm hop ht h1 hv
        · trivial
      · trivial
    · trivial
  | fieldAddr s x f =>
    have h1 := hE x (by simp [hop, Op.operands])
    simp only [evalP]
    split
    · rename_i fs _ _ _ hs
      split
      · rename_i q t' hf
        rw [nth_eq] at hf
        split
        · trivial
        · rename_i hz
          have hz' : szOf T t' ≠ 0 := by rw [hz]; omega
          split
          · rename_i b p he
            rw [he] at h1
            obtain ⟨k, hv, hl⟩ := rep_ptr h1
            exact .same hm (fieldAddr_ok hT hop hs hf hz' hv) (.ptr _ _ _ hl)
          · rename_i es p he
            rw [he] at h1
            obtain ⟨k, o0, hv, hr⟩ := rep_fptr h1
            exact .same hm (fieldAddr_ok hT hop hs hf hz' hv) (by rw [Nat.add_assoc]; exact hr _)
          · trivial
      · trivial
    · trivial
  | field s x f =>
    have h1 := hE x (by simp [hop, Op.operands])
    simp only [evalP]
    split
    · rename_i fs _ _ _ hs
      split
      · rename_i q t' hf
        rw [nth_eq] at hf
        split
        · rename_i ti xs ht he
          rw [he] at h1
          split
          · rename_i v hv; exact field_ok hT hm hop hs hf ht h1 hv
          · trivial
        · trivial
      · trivial
    · trivial
  | indexAddr t x i =>
    have h1 := hE x (by simp [hop, Op.operands])
    have h2 := hE i (by simp [hop, Op.operands])
    simp only [evalP]
    split
    · rename_i n e _ _ _ ht
      split
      · rename_i ti k q he hi
        rw [hi] at h2
        split
        · rename_i b p hq hx
          rw [hx] at h1
          obtain ⟨k', hv, hl⟩ := rep_ptr h1
          exact .same hm (arr_field hT hop ht he h2 (by simpa [Nat.blt_eq] using hq) hv) (.ptr _ _ _ hl)
        · rename_i es p hq hx
          rw [hx] at h1
          obtain ⟨k', o0, hv, hr⟩ := rep_fptr h1
          exact .same hm (arr_field hT hop ht he h2 (by simpa [Nat.blt_eq] using hq) hv) (by rw [Nat.add_assoc]; exact hr _)
        · trivial
      · trivial
    · rename_i e _ _ _ ht
      split
      · rename_i ti n nb es k q he hx hi
        rw [hx] at h1
        rw [hi] at h2
        split
        · rename_i hn
          have hn' := Nat.eq_of_beq_eq_true hn
          intro r h0 hr
          exact idx_ok hT hm hop ht (by rw [hn']; unfold szOf; rw [he]) h1 h2 h0 hr ⟨ti, he⟩
        · trivial
      · trivial
    · trivial
  | index t x i =>
    have h1 := hE x (by simp [hop, Op.operands])
    have h2 := hE i (by simp [hop, Op.operands])
    simp only [evalP]
    split
    · rename_i ht
      split
      · rename_i s k q hx hi
        rw [hx] at h1
        rw [hi] at h2
        intro h h0
        exact str_ok hT hm hop ht h1 h2 h h0
      · trivial
    · rename_i n e _ _ _ ht
      split
      · rename_i ti k q xs he hi hx
        rw [hx] at h1
        rw [hi] at h2
        split
        · rename_i v hq hv
          exact arr_index hT hm hop ht he h2 (by simpa [Nat.blt_eq] using hq) h1 hv
        · trivial
      · trivial
    · trivial
  | binOp op t x y t' =>
    have h1 := hE x (by simp [hop, Op.operands])
    have h2 := hE y (by simp [hop, Op.operands])
    exact bin_ok hT hm hop h1 h2
  | unOp op t x =>
    have h1 := hE x (by simp [hop, Op.operands])
    simp only [evalP]
    split
    · rename_i b hx
      rw [hx] at h1
      have h1' := rep_sc h1
      exact .same (cv := .bool (!b)) hm (by unfold execOp; simp only [hop, h1', Op.unary, Sem.run_bind, Sem.run_pure, Result.andThen_ok]) (rep_mk _ rfl)
    · rename_i k n hx
      rw [hx] at h1
      have h1' := rep_int h1
      exact .same (cv := .int k (k.wrap (0 - n))) hm (by unfold execOp; simp only [hop, h1', Op.unary, Op.intArith, Sem.run_bind, Sem.run_pure, Result.andThen_ok]) (rep_mk _ rfl)
    · trivial
  | convert s t x =>
    have h1 := hE x (by simp [hop, Op.operands])
    simp only [evalP]
    split
    · rename_i k _ _ _ ht
      split
      · rename_i ti k' n hs hx
        rw [hx] at h1
        exact convInt_ok hT hm hop ht hs h1
      · trivial
    · rename_i ht
      split
      · rename_i ti b hs hx
        rw [hx] at h1
        exact convStr_ok hT hm hop ht hs h1
      · trivial
    · trivial
  | build t ps =>
    have h1 : ∀ p ∈ ps.toList, Rep Γ w μ (opd E p.2) (a.eval p.2) := fun p hp => hE p.2 (by simp only [hop, Op.operands, List.toList_toArray]; exact List.mem_map.2 ⟨p, hp, rfl⟩)
    simp only [evalP]
    split
    · rename_i fs _ _ z ht
      split
      · rename_i l hT2 hl
        split
        · rename_i xs hx; exact build_ok hT hm hop h1 ht hT2 hl hx
        · trivial
      · trivial
    · rename_i n e _ _ z ht
      split
      · rename_i ti he
        split
        · rename_i l hl
          split
          · rename_i xs hx; exact buildArr_ok hT hm hop h1 ht he hl hx
          · trivial
        · trivial
      · trivial
    · trivial
  | buildSlice t len ps =>
    have h1 : ∀ p ∈ ps.toList, Rep Γ w μ (opd E p.2) (a.eval p.2) := fun p hp => hE p.2 (by simp only [hop, Op.operands, List.toList_toArray]; exact List.mem_map.2 ⟨p, hp, rfl⟩)
    simp only [evalP]
    split
    · rename_i e _ _ z ht
      split
      · rename_i ti he
        split
        · rename_i es hs hl hr
          have h2 : ps.toList.length = len ∧ len * ti.sz ≤ 16777216 ∧ len * ti.by_ ≤ 140737488355328 := by
            split at hl
            · rename_i hb
              split at hl
              · rename_i hb2; exact ⟨Nat.eq_of_beq_eq_true hb, by simpa [Nat.ble_eq] using hb2, by simpa [Nat.ble_eq] using hl⟩
              · cases hl
            · cases hl
          exact buildSlice_ok hT hm hop h1 ht he hs h2.1 h2.2.1 h2.2.2 hr
        · trivial
      · trivial
    · trivial
  | slice t x lo hi mx =>
    cases mx with
    | some m => simp only [evalP]; trivial
    | none =>
      have h1 := hE x (by simp [hop, Op.operands])
      have h2 : ∀ y, lo = some y → Rep Γ w μ (opd E y) (a.eval y) := fun y hy => hE y (by simp [hop, Op.operands, hy])
      have h3 : ∀ y, hi = some y → Rep Γ w μ (opd E y) (a.eval y) := fun y hy => hE y (by simp [hop, Op.operands, hy])
      simp only [evalP]
      split
      · rename_i ht
        split
        · rename_i s hx
          rw [hx] at h1
          split
          · rename_i l h hl hh
            intro h0
            exact sliceStr_ok hT hm hop ht h1 h2 h3 hl hh h0
          · trivial
        · trivial
      · rename_i e _ _ z ht
        split
        · rename_i ti he
          split
          · rename_i n nb es hx
            rw [hx] at h1
            split
            · rename_i l h hn hl hh
              have hn' := Nat.eq_of_beq_eq_true hn
              subst hn'
              intro h0
              exact sliceSl_ok hT hm hop ht he h1 h2 h3 hl hh h0
            · trivial
          · trivial
        · trivial
      · trivial
  | extract x i =>
    have h1 := hE x (by simp [hop, Op.operands])
    simp only [evalP]
    split
    · rename_i xs hx
      rw [hx] at h1
      split
      · rename_i v hv
        rw [nth_eq] at hv
        exact extract_ok hm hop h1 hv
      · trivial
    · trivial
  | makeInterface t x =>
    have h1 := hE x (by simp [hop, Op.operands])
    simp only [evalP]
    split
    · trivial
    · trivial
    · rename_i ti hn1 hn2 ht
      obtain ⟨d, hd, hk⟩ := (hT t _ ht).kind
      refine .same (cv := .iface t (a.eval x)) hm ?_ (.ifc _ _ _ h1)
      unfold execOp
      simp only [hop, Instr.makeInterface, Sem.run_bind, run_underlying hd w, Result.andThen_ok]
      cases d <;> first | rfl | skip
      rename_i ms
      obtain ⟨kk, s1, s2, s3⟩ := ti
      cases kk <;> first | exact hk.elim | exact absurd rfl (hn1 _ _ _) | exact absurd rfl (hn2 _ _ _) | skip
    · trivial
  | makeFunc fn first caps =>
    cases fn with
    | func f =>
      simp only [evalP]
      split
      · rename_i hf
        have hf' : first = #[] := by obtain ⟨l⟩ := first; simpa using hf
        subst hf'
        have h1 : ∀ x ∈ caps.toList, Rep Γ w μ (opd E x) (a.eval x) := fun x hx => hE x (by simp [hop, Op.operands]; simpa using hx)
        refine .same (cv := .func (.func f) #[] (caps.map a.eval)) hm ?_ (.clo f _ _ (by simp) ?_)
        · unfold execOp
          simp only [hop, Instr.makeFunc, Sem.run_bind, Sem.run_pure, Result.andThen_ok]; simp
        · intro i x hx
          rw [List.getElem?_map] at hx
          cases hq : caps.toList[i]? with
          | none => rw [hq] at hx; cases hx
          | some y =>
            rw [hq] at hx; cases hx
            have hg : (caps.map a.eval).getD i undef = a.eval y := by
              have hq' : caps[i]? = some y := by simpa using hq
              simp [Array.getD_eq_getD_getElem?, hq']
            rw [hg]
            exact h1 y (List.mem_of_getElem? hq)
      · trivial
    | _ => simp only [evalP]; trivial
  | nilCheck x =>
    have h1 := hE x (by simp [hop, Op.operands])
    simp only [evalP]
    split
    · rename_i b q hx
      rw [hx] at h1
      obtain ⟨k, hv, hl⟩ := rep_ptr h1
      exact .same (cv := .pointer (some ⟨k, q, none⟩)) hm (by unfold execOp; simp only [hop, hv]; rfl) (.ptr _ _ _ hl)
    · rename_i es q hx
      rw [hx] at h1
      obtain ⟨k, o0, hv, hr⟩ := rep_fptr h1
      exact .same hm (by unfold execOp; simp only [hop, hv]; rfl) (hr q)
    · rename_i t v hx
      rw [hx] at h1
      generalize hcx : a.eval x = cx at h1
      cases h1 with
      | ifc t x v h => exact .same (cv := .iface t v) hm (by unfold execOp; simp only [hop, hcx]; rfl) (.ifc _ _ _ h)
    · rename_i f c hx
      rw [hx] at h1
      generalize hcx : a.eval x = cx at h1
      cases h1 with
      | clo f xs vs hl h => exact .same (cv := .func (.func f) #[] vs) hm (by unfold execOp; simp only [hop, hcx]; rfl) (.clo _ _ _ hl h)
    · trivial
  | call c =>
    obtain ⟨callee, args, ats⟩ := c
    cases callee with
    | value f =>
      have h1 := hE f (by simp [hop, Op.operands, Call.operands])
      have h2 : ∀ x ∈ args.toList, Rep Γ w μ (opd E x) (a.eval x) := fun x hx => hE x (by simp [hop, Op.operands, Call.operands]; right; simpa using hx)
      simp only [evalP, evalC]
      split
      · rename_i g caps hf
        rw [hf] at h1
        split
        · rename_i hl; exact call_ok hop h1 h2 (Nat.eq_of_beq_eq_true hl)
        · trivial
      · trivial
    | invoke r m => simp only [evalP, evalC]; trivial
    | builtin b =>
      have h2 : ∀ x ∈ args.toList, Rep Γ w μ (opd E x) (a.eval x) := fun x hx => hE x (by simp [hop, Op.operands, Call.operands]; simpa using hx)
      cases b with
      | min =>
        simp only [evalP, evalC]
        split
        · rename_i x y ha
          split
          · rename_i i p j q hx hy
            split
            · rename_i hk
              obtain rfl := kCode_inj (Nat.eq_of_beq_eq_true hk)
              have hx1 := h2 x (by rw [ha]; simp)
              have hy1 := h2 y (by rw [ha]; simp)
              rw [hx] at hx1; rw [hy] at hy1
              exact minmax_ok (mx := false) hm hop ha hx1 hy1
            · trivial
          · trivial
        · trivial
      | max =>
        simp only [evalP, evalC]
        split
        · rename_i x y ha
          split
          · rename_i i p j q hx hy
            split
            · rename_i hk
              obtain rfl := kCode_inj (Nat.eq_of_beq_eq_true hk)
              have hx1 := h2 x (by rw [ha]; simp)
              have hy1 := h2 y (by rw [ha]; simp)
              rw [hx] at hx1; rw [hy] at hy1
              exact minmax_ok (mx := true) hm hop ha hx1 hy1
            · trivial
          · trivial
        · trivial
      | len =>
        simp only [evalP, evalC]
        split
        · rename_i x ha
          have hx1 := h2 x (by rw [ha]; simp)
          split
          · rename_i t hat
            have fin : ∀ (d : TypeDesc) (n : Nat), Γ.P.underlying t = some d → ((∃ s, d = .string ∧ a.eval x = .string s ∧ s.size = n) ∨ (∃ e, d = .array n e) ∨ ∃ e ad c, d = .slice e ∧ a.eval x = .slice ad n c) → ValOk Γ H' w μ a o (I64 n) :=
              fun d n hd h => .same hm (len_run hop ha hat hd h) (rep_mk _ rfl)
            split
            · rename_i e _ _ _ ht
              obtain ⟨d, hd, hk⟩ := (hT t _ ht).kind
              cases d <;> try exact hk.elim
              split
              · rename_i n nb es hx
                rw [hx] at hx1
                refine fin _ es.length hd (.inr (.inr ?_))
                generalize a.eval x = cx at hx1
                cases hx1 with
                | fr f v hf =>
                  cases hf with
                  | nil n nb ad c => exact ⟨_, _, _, rfl, rfl⟩
                  | sl => exact ⟨_, _, _, rfl, rfl⟩
              · rename_i hx
                rw [hx] at hx1
                exact fin _ 0 hd (.inr (.inr ⟨_, _, _, rfl, rep_sc hx1⟩))
              · rename_i b hx
                rw [hx] at hx1
                have hr := fun x => hH b x (by simp only [hop, touch, ha, touchA, hx, touchV, touch1, touch0]; simp)
                split
                · rename_i e' n' nb es hb hn
                  have hn := hr _ hn
                  rw [nth_eq] at hn
                  obtain ⟨ad, c, hv⟩ := buf_value hm hn hx1
                  exact fin _ es.length hd (.inr (.inr ⟨_, _, _, rfl, hv⟩))
                · trivial
              · trivial
            · rename_i ht
              obtain ⟨d, hd, hk⟩ := (hT t _ ht).kind
              cases d <;> try exact hk.elim
              split
              · rename_i s hx
                rw [hx] at hx1
                exact fin _ s.size hd (.inl ⟨s, rfl, rep_sc hx1, rfl⟩)
              · trivial
            · rename_i n e _ _ _ ht
              obtain ⟨d, hd, hk⟩ := (hT t _ ht).kind
              cases d <;> try exact hk.elim
              obtain ⟨rfl, rfl⟩ := hk
              exact fin _ n hd (.inr (.inl ⟨_, rfl⟩))
            · trivial
          · trivial
        · trivial
      | _ => simp only [evalP, evalC]; trivial
  | _ => simp only [evalP]; trivial

end Go.AW
