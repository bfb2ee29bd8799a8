/- AW, part 12B: an operation told of one state, carried out in another that is like it. -/
import Derived.Test.YtalkhhfinogecaaA12
namespace Go.AW
open Go Go.RowKit
variable {Γ : Ctx} {H HS : Heap} {w : World} {μ : List Plc} {a : Act} {o : Oper} {E : Env}

theorem mem_touchL {wr : Bool} {xs : List V} {x : V} {p : Nat × Bool} (hx : x ∈ xs) (hp : p ∈ touch0 wr x) : p ∈ touchL wr xs := by
  induction xs with
  | nil => cases hx
  | cons y ys ih =>
    show p ∈ touch0 wr y ++ touchL wr ys
    rcases List.mem_cons.1 hx with rfl | hx
    · exact List.mem_append_left _ hp
    · exact List.mem_append_right _ (ih hx)

theorem mem_touchA {l : List Operand} {x : Operand} {p : Nat × Bool} (hx : x ∈ l) (hp : p ∈ touchV false (opd E x)) : p ∈ touchA E l := by
  induction l with
  | nil => cases hx
  | cons y ys ih =>
    show p ∈ touchV false (opd E y) ++ touchA E ys
    rcases List.mem_cons.1 hx with rfl | hx
    · exact List.mem_append_left _ hp
    · exact List.mem_append_right _ (ih hx)

/-- The one heap shows what the other does, where it is looked at. -/
def Shows (H HS : Heap) (ts : List (Nat × Bool)) : Prop := ∀ b wr x, (b, wr) ∈ ts → nth H b = some x → nth HS b = some x

theorem fz0_shows {x : V} (hs : Shows H HS (touch0 false x)) (hl : live0 H x = true) : fz0 HS x = fz0 H x := by
  cases x with
  | buf b =>
    simp only [live0] at hl
    split at hl
    · rename_i y hy
      have := hs b false y (by simp [touch0]) hy
      simp only [fz0, this, hy]
    · cases hl
  | _ => rfl

theorem fz1_shows {x : V} (hs : Shows H HS (touch1 false x)) (hl : live1 H x = true) : fz1 HS x = fz1 H x := by
  cases x with
  | agg xs =>
    have hl' := List.all_eq_true.1 hl
    simp only [fz1]
    congr 1
    exact List.map_congr_left fun y hy => fz0_shows (fun b wr z hb => hs b wr z (mem_touchL hy hb)) (hl' y hy)
  | tup xs =>
    have hl' := List.all_eq_true.1 hl
    simp only [fz1]
    congr 1
    exact List.map_congr_left fun y hy => fz0_shows (fun b wr z hb => hs b wr z (mem_touchL hy hb)) (hl' y hy)
  | buf b => exact fz0_shows (x := .buf b) hs hl
  | _ => rfl

theorem touch_nrm1 {f : F} {x : V} {p : Nat × Bool} (h : p ∈ touch0 false (nrm1 f x)) : p ∈ touch0 false x := by
  unfold nrm1 at h
  split at h
  · cases h
  · exact h

theorem touch_nrmL : ∀ {z : List F} {xs : List V} {p : Nat × Bool}, p ∈ touchL false (nrmL z xs) → p ∈ touchL false xs
  | [], _, _, h => h
  | f :: z, [], _, h => h
  | f :: z, x :: xs, p, h => by
    have h' : p ∈ touch0 false (nrm1 f x) ++ touchL false (nrmL z xs) := h
    show p ∈ touch0 false x ++ touchL false xs
    rcases List.mem_append.1 h' with h | h
    · exact List.mem_append_left _ (touch_nrm1 h)
    · exact List.mem_append_right _ (touch_nrmL h)

theorem touch_nrmV {T : TTab} {t : Nat} {x : V} {p : Nat × Bool} (h : p ∈ touch1 false (nrmV T t x)) : p ∈ touch1 false x := by
  unfold nrmV at h
  split at h
  · split at h
    · exact touch_nrmL h
    · rename_i hx
      split at h
      · rename_i ti _ f _ _
        cases x with
        | agg xs => exact absurd rfl (hx xs)
        | fr g => exact (by
            unfold nrm1 at h
            split at h
            · cases h
            · exact h)
        | _ => simpa [nrm1] using h
      · exact h
  · exact h

theorem touch1_V {x : V} {p : Nat × Bool} (h : p ∈ touch1 false x) : p ∈ touchV false x := by
  cases x with
  | clo => cases h
  | _ => exact h

theorem touch_caps {f : Nat} {xs : List V} {x : V} {p : Nat × Bool} (hx : x ∈ xs) (h : p ∈ touch1 false x) : p ∈ touchV false (.clo f xs) := by
  induction xs with
  | nil => cases hx
  | cons y ys ih =>
    show p ∈ touch1 false y ++ touchV false (.clo f ys)
    rcases List.mem_cons.1 hx with rfl | hx
    · exact List.mem_append_left _ h
    · exact List.mem_append_right _ (ih hx)

theorem PC.shows {P : Program} {g : Nat} {args : List V} {v : V} (h : PC P g args H v) (hs : ∀ x ∈ args, Shows H HS (touch1 false x)) : PC P g args HS v := by
  cases h with
  | own h => exact .own h
  | lend h hf hl =>
    have hl' := List.all_eq_true.1 hl
    have e : args.map (fz1 HS) = args.map (fz1 H) := List.map_congr_left fun x hx => fz1_shows (hs x hx) (hl' x hx)
    refine .lend (by rw [e]; exact h) hf (List.all_eq_true.2 fun x hx => ?_)
    have h0 : ∀ y, live0 H y = true → Shows H HS (touch0 false y) → live0 HS y = true := by
      intro y hy hs
      cases y with
      | buf b =>
        simp only [live0] at hy
        split at hy
        · rename_i z hz
          have := hs b false z (by simp [touch0]) hz
          simp only [live0, this]
        · cases hy
      | _ => rfl
    have hx1 := hl' x hx
    have hsx := hs x hx
    cases x with
    | agg xs => exact List.all_eq_true.2 fun y hy => h0 y (List.all_eq_true.1 hx1 y hy) (fun b wr z hb => hsx b wr z (mem_touchL hy hb))
    | tup xs => exact List.all_eq_true.2 fun y hy => h0 y (List.all_eq_true.1 hx1 y hy) (fun b wr z hb => hsx b wr z (mem_touchL hy hb))
    | buf b => exact h0 (.buf b) hx1 hsx
    | _ => rfl

theorem binP_call {T : TTab} {op : BinOp} {t : Nat} {x y : V} {g : Nat} {args : List V} (h : binP T op t x y = .call g args) : False := by
  unfold binP at h
  split at h
  · split at h
    · cases h
    · cases h
    · split at h
      · unfold intOp at h; split at h <;> cases h
      · cases h
  · unfold strOp at h; split at h <;> cases h
  · split at h
    · split at h <;> cases h
    · cases h
  · split at h
    · split at h <;> cases h
    · split at h <;> cases h
    · cases h
  · split at h
    · split at h
      · split at h <;> cases h
      · cases h
    · cases h
  · cases h

/-- What a call is given is looked at. -/
theorem call_touch {T : TTab} {n0 : Nat} {op : Op} {g : Nat} {args : List V} (h : evalP T n0 E H op = .call g args) {x : V} (hx : x ∈ args) {p : Nat × Bool} (hp : p ∈ touch1 false x) : p ∈ touch E op := by
  cases op with
  | call c =>
    have h : evalC T n0 E H c = .call g args := h
    unfold evalC at h
    split at h
    · rename_i f hf
      split at h
      · rename_i g' caps hfe
        split at h
        · cases h
          simp only [touch, hf]
          rcases List.mem_append.1 hx with hx | hx
          · obtain ⟨q, hq, rfl⟩ := List.mem_map.1 hx
            exact mem_touchA (List.mem_cons_of_mem _ (List.of_mem_zip hq).1) (touch1_V (touch_nrmV hp))
          · refine mem_touchA (x := f) (by simp) ?_
            rw [hfe]
            exact touch_caps hx hp
        · cases h
      · cases h
    all_goals (repeat' split at h)
    all_goals cases h
  | binOp b t x y u => exact (binP_call (show binP T b t (opd E x) (opd E y) = _ from h)).elim
  | move => cases h
  | assign => cases h
  | slice t x lo hi m => cases m <;> simp only [evalP] at h <;> (repeat' split at h) <;> cases h
  | makeFunc f ps cs => cases f <;> simp only [evalP] at h <;> (repeat' split at h) <;> cases h
  | _ =>
    simp only [evalP] at h <;> (repeat' split at h) <;> cases h


/-! ### Carried out in another state -/
theorem ValOk.next {v : V} (h : ValOk Γ HS w μ a o v) (next : Act → World → Prop) (Q : Exit → Act → World → Prop)
    (hn : ∀ w' cv, Mem Γ HS w' μ → Pres Γ w μ w' μ → Rep Γ w' μ v cv → next (a.put o.dst cv) w') : o.wp Γ.P a w next Q := by
  obtain ⟨cv, w', h1, h2, h3, h4⟩ := h
  unfold Oper.wp
  rw [h1]
  exact hn w' cv h2 h3 h4

theorem append_exec {c : Call} {x y : Operand} {t : Nat} (ho : o.op = .call c) (hc : c = ⟨.builtin .append, #[x, y], #[t, t]⟩) {P : Program} {r : Value} {w' : World}
    (hr : (Builtin.append_ #[t, t] o.type #[a.eval x, a.eval y]).run P w = .ok r w') : (execOp a.eval o).run P w = .ok (.value r) w' := by
  subst hc
  unfold execOp
  simp only [ho, resolve, Sem.run_bind, Sem.run_pure, Result.andThen_ok, invoke, builtin]
  have e1 : (#[x, y] : Array Operand).map a.eval = #[a.eval x, a.eval y] := by simp
  rw [e1, hr]
  rfl

theorem rowsOf_shows {n : Nat} {x : V} {ys : List (List F)} (h : rowsOf n x H = some ys) (hs : Shows H HS (touchV false x)) : rowsOf n x HS = some ys := by
  unfold rowsOf at h ⊢
  split at h
  · exact h
  · exact h
  · rename_i b
    split at h
    · rename_i hb
      have := hs b false _ (by simp [touchV, touch1, touch0]) hb
      simp only [this]
      exact h
    · cases h
  · cases h

theorem SOp.replay {T : TTab} (hT : TOk Γ.P T) {n0 s : Nat} {v : V} {eff : Eff} (h : SOp Γ.P T n0 E H o.op v eff) (hm : Mem Γ HS w μ) (hop : ∀ x ∈ o.op.operands.toList, Rep Γ w μ (opd E x) (a.eval x)) (hs : Shows H HS (touch E o.op))
    (hsl : eff.news = true → s = H.length ∧ μ[s]? = some .free) (next : Act → World → Prop) (Q : Exit → Act → World → Prop)
    (hn : ∀ w' μ' cv, Mem Γ (eff.at_ s HS) w' μ' → Pres Γ w μ w' μ' → (∀ i, (eff.news = true → i ≠ s) → μ[i]? = some .free → μ'[i]? = some .free) → Rep Γ w' μ' v cv → next (a.put o.dst cv) w') : o.wp Γ.P a w next Q := by
  have hE := evalP_sound hT (n0 := n0) (E := E) (H := H) hm hop (fun b x hb hx => hs b false x hb hx)
  have pure : ∀ {u : V}, eff = .none → ValOk Γ HS w μ a o u → u = v → o.wp Γ.P a w next Q := fun he hv huv => by
    subst huv; subst he
    exact hv.next next Q fun w' cv h1 h2 h3 => hn w' μ cv h1 h2 (fun i _ h => h) h3
  cases h with
  | val h => rw [h] at hE; exact pure rfl hE rfl
  | side h hp => rw [h] at hE; exact pure rfl (hE hp) rfl
  | pick h => rw [h] at hE; exact pure rfl hE rfl
  | idx h h0 h1 => rw [h] at hE; exact pure rfl (hE _ h0 h1) rfl
  | str h h1 h0 => rw [h] at hE; exact pure rfl (hE h1 h0) rfl
  | ex h hp => rw [h] at hE; exact pure rfl (hE _ hp) rfl
  | new h =>
    rw [h] at hE
    obtain ⟨c, e, h1, h2, h3, h4⟩ := hE
    obtain ⟨rfl, hf⟩ := hsl rfl
    obtain ⟨l, h5, h6, h7⟩ := hm.newAt (e := e) hf h2 h3 h4
    unfold Oper.wp
    rw [h1]
    refine hn _ _ _ h5 h6 (fun i hi h => ?_) h7
    rw [List.getElem?_set_ne (Ne.symm (hi rfl))]; exact h
  | call h hc =>
    rw [h] at hE
    obtain ⟨cargs, h1, h2⟩ := hE
    have hc' := hc.shows (HS := HS) fun x hx b wr y hb hy => hs b wr y (call_touch h hx hb) hy
    unfold Oper.wp
    rw [h1]
    rcases hc'.go rfl hm h2 with ⟨h3, h4⟩ | ⟨v, w', h3, h5, h6, h7⟩
    · rw [h3]
      refine Calls.mono h4 fun e w' ⟨cv, he, h5, h6, h7⟩ => ?_
      subst he
      exact hn w' μ cv h5 h6 (fun i _ h => h) h7
    · rw [h3]
      exact hn w' μ v h5 h6 (fun i _ h => h) h7
  | no h hx =>
    generalize hoo : o.op = op at hx
    cases hx with
    | store h1 h2 h3 h4 h5 =>
      rename_i t x y b q xs c ys ti
      have hx := hop x (by simp [hoo, Op.operands])
      have hy := hop y (by simp [hoo, Op.operands])
      rw [h1] at hx
      have hb : HS[b]? = some (.cells xs) := by
        rw [← nth_eq]; rw [← nth_eq] at h2
        exact hs b true _ (by rw [hoo]; simp [touch, h1, touchV, touch1, touch0]) h2
      obtain ⟨w', g1, g2, g3⟩ := store_ok hT hm hoo hx hy hb h3 h4 h5
      unfold Oper.wp
      rw [g1]
      exact hn w' μ undef g2 g3 (fun i _ h => h) undef_rep
    | app hc ht hti hpos hby0 hy0 hxb hb hfit =>
      rename_i c x y t e b z1 z2 z3 ti ys es
      obtain ⟨rfl, hfree⟩ := hsl rfl
      have hx := hop x (by simp [hoo, hc, Op.operands, Call.operands])
      have hy := hop y (by simp [hoo, hc, Op.operands, Call.operands])
      have hts : touch E o.op = touchV true (opd E x) ++ touchV false (opd E y) := by rw [hoo, hc]; rfl
      have hys := rowsOf_shows hy0 (fun b wr z hb hz => hs b wr z (by rw [hts]; exact List.mem_append_right _ hb) hz)
      have hb' : HS[b]? = some (.buf e ti.sz ti.by_ es) := by
        rw [← nth_eq]; rw [← nth_eq] at hb
        exact hs b true _ (by rw [hts, hxb]; simp [touchV, touch1, touch0]) hb
      obtain ⟨d, hd, hk⟩ := (hT t _ ht).kind
      cases d <;> try exact hk.elim
      rename_i e'
      obtain rfl : e = e' := hk
      obtain ⟨news, hsrc⟩ := src_of hm hpos hy hys
      have hval : (∃ ad c, a.eval y = .slice (some ad) ys.length c ∧ ∀ (j : Nat) (u : Value), news[j]? = some u → w.cell? (ad.add j) = some u) ∨ (ys.length = 0 ∧ ∃ c, a.eval y = .slice none 0 c) := hsrc.val.imp id (fun ⟨h1, h2⟩ => ⟨by rw [h1]; rfl, h2⟩)
      rw [hxb] at hx
      generalize hcx : a.eval x = cx at hx
      cases hx with
      | bdead b v hl h1 => exact (hm.blk _ _ _ hb' hl).elim
      | buf b m cp ad hl =>
        obtain ⟨g1, g0, g2, vs, g3, g4⟩ := hm.blk _ _ _ hb' hl
        subst g1
        obtain ⟨ad', cap', w', h1, h2, h3, h4, h5, h6, h7, h8⟩ := app_run (ty := o.type) hd (hT e ti hti) hm.ext.size g3 hsrc.len hsrc.one hval hby0 hfit
        have hreg := hm.regrow (w' := w') (l := .hdr ad' (es.length + ys.length) cap') (nb := .buf e ti.sz ti.by_ (es ++ ys)) hfree hl h3 h4 h5 h6 h7 h8 (fun hp => by
          refine ⟨by simp, by rw [List.length_append]; exact hfit, ?_, vs ++ news, h2, ?_⟩
          · intro r hr
            rcases List.mem_append.1 hr with hr | hr
            · exact g2 r hr
            · exact hsrc.rows r hr
          · intro i f hf
            rw [List.flatten_append] at hf
            have hle := flat_length es g2
            have hlv : vs.length = es.length * ti.sz := g3.1
            by_cases hi : i < es.flatten.length
            · rw [List.getElem?_append_left hi] at hf
              have := g4 i f hf
              have e1 : (vs ++ news).getD i undef = vs.getD i undef := by
                simp only [List.getD_eq_getElem?_getD]
                rw [List.getElem?_append_left (by omega)]
              rw [e1]; exact hp.repF this
            · rw [List.getElem?_append_right (by omega)] at hf
              obtain ⟨u, e2, e3⟩ := hsrc.rep _ f hf
              have e1 : (vs ++ news).getD i undef = u := by
                simp only [List.getD_eq_getElem?_getD]
                rw [List.getElem?_append_right (by omega), hlv, ← hle, e2]; rfl
              rw [e1]; exact hp.repF e3)
        unfold Oper.wp
        rw [append_exec hoo hc (by rw [hcx]; exact h1)]
        have hsb : H.length ≠ b := fun e => by rw [← e, hfree] at hl; cases hl
        refine hn w' _ _ hreg.1 hreg.2 (fun i hi h => ?_) (.buf _ _ _ _ ?_)
        · have hib : i ≠ b := fun e => by rw [e, hl] at h; cases h
          rw [List.getElem?_set_ne (Ne.symm (hi rfl)), List.getElem?_set_ne (Ne.symm hib)]; exact h
        · rw [List.getElem?_set_self (by simp only [List.length_set]; exact (List.getElem?_eq_some_iff.1 hfree).1)]
    | app0 hc ht hti hpos hby0 hy0 hxb hfit =>
      rename_i c x y t e z1 z2 z3 ti ys
      obtain ⟨rfl, hfree⟩ := hsl rfl
      have hx := hop x (by simp [hoo, hc, Op.operands, Call.operands])
      have hy := hop y (by simp [hoo, hc, Op.operands, Call.operands])
      have hts : touch E o.op = touchV true (opd E x) ++ touchV false (opd E y) := by rw [hoo, hc]; rfl
      have hys := rowsOf_shows hy0 (fun b wr z hb hz => hs b wr z (by rw [hts]; exact List.mem_append_right _ hb) hz)
      obtain ⟨d, hd, hk⟩ := (hT t _ ht).kind
      cases d <;> try exact hk.elim
      rename_i e'
      obtain rfl : e = e' := hk
      obtain ⟨news, hsrc⟩ := src_of hm hpos hy hys
      have hval : (∃ ad c, a.eval y = .slice (some ad) ys.length c ∧ ∀ (j : Nat) (u : Value), news[j]? = some u → w.cell? (ad.add j) = some u) ∨ (ys.length = 0 ∧ ∃ c, a.eval y = .slice none 0 c) := hsrc.val.imp id (fun ⟨h1, h2⟩ => ⟨by rw [h1]; rfl, h2⟩)
      rw [hxb] at hx
      have hcx := rep_sc hx
      obtain ⟨ad', cap', w', h1, h2, h3, h4, h5, h6, h7, h8⟩ := app_run (ty := o.type) (ad := none) (m := 0) (cap := 0) (vs := []) hd (hT e ti hti) hm.ext.size (World.ownsRow_nil w _ e ti.sz) hsrc.len hsrc.one hval hby0 (by simpa using hfit)
      simp only [Nat.zero_add, List.nil_append] at h1 h2
      obtain ⟨hm', hp⟩ := hm.fill (w' := w') (nb := .buf e ti.sz ti.by_ ys) (l := .hdr ad' ys.length cap') hfree h3 (fun k hk => h4 k hk (by simp)) h5 h6 h7 (fun k hk => by
          rcases h8 k hk with h | h
          · cases h
          · exact h) (fun hp => ⟨rfl, hfit, hsrc.rows, news, h2, fun i f hf => by
            obtain ⟨u, e2, e3⟩ := hsrc.rep i f hf
            have e1 : news.getD i undef = u := by simp [List.getD_eq_getElem?_getD, e2]
            rw [e1]; exact hp.repF e3⟩)
      unfold Oper.wp
      rw [append_exec hoo hc (by rw [hcx]; exact h1)]
      refine hn w' _ _ hm' hp (fun i hi h => ?_) (.buf _ _ _ _ ?_)
      · rw [List.getElem?_set_ne (Ne.symm (hi rfl))]; exact h
      · rw [List.getElem?_set_self (List.getElem?_eq_some_iff.1 hfree).1]

theorem SOp.app_lt {P : Program} {T : TTab} {n0 b : Nat} {op : Op} {v : V} {x : Blk} (h : SOp P T n0 E H op v (.app b x)) : b < H.length := by
  cases h with
  | no h hx => cases hx with
    | app hc ht hti hs hb hy hx hH hf => exact (List.getElem?_eq_some_iff.1 hH).1

/-- What calls mean to the evaluator: K follows where the call goes. -/
def CallsOk (Γ : Ctx) (C : Calling) : Prop := ∀ g args E H K, C g args E H K → ACall Γ.P g args E H K

/-- In the text's order: blocks come at the end. -/
theorem SOp.goes {T : TTab} (hT : TOk Γ.P T) {n0 : Nat} {v : V} {eff : Eff} (hs : SOp Γ.P T n0 E H o.op v eff) (hm : Mem Γ H w μ) (hop : ∀ x ∈ o.op.operands.toList, Rep Γ w μ (opd E x) (a.eval x))
    (next : Act → World → Prop) (Q : Exit → Act → World → Prop) (hn : ∀ w' μ' cv, Mem Γ (eff.run H) w' μ' → Pres Γ w μ w' μ' → Rep Γ w' μ' v cv → next (a.put o.dst cv) w') : o.wp Γ.P a w next Q := by
  cases hnew : eff.news with
  | false =>
    refine hs.replay hT (s := 0) hm hop (fun _ _ _ _ h => h) (fun h => by rw [hnew] at h; cases h) next Q fun w' μ' cv h1 h2 _ h3 => ?_
    have e : eff.at_ 0 H = eff.run H := by cases eff <;> first | rfl | cases hnew
    rw [e] at h1
    exact hn w' μ' cv h1 h2 h3
  | true =>
    obtain ⟨hm1, hp1⟩ := hm.pad
    refine hs.replay hT (s := H.length) hm1 (fun x hx => hp1.rep (hop x hx)) (fun b wr x _ h => ?_) (fun _ => ⟨rfl, ?_⟩) next Q fun w' μ' cv h1 h2 _ h3 => ?_
    · rw [nth_eq] at h ⊢
      rw [List.getElem?_append_left (List.getElem?_eq_some_iff.1 h).1]; exact h
    · rw [← hm.len]; simp
    · have e : eff.at_ H.length (H ++ [.dead]) = eff.run H := by
        cases eff with
        | none => cases hnew
        | set => cases hnew
        | new x => simp only [Eff.at_, Eff.run, setB_eq]; simp
        | app b x =>
          simp only [Eff.at_, Eff.run, setB_eq]
          by_cases hb : b < H.length
          · rw [List.set_append_left _ _ hb]; simp
          · exact absurd hs.app_lt hb
      rw [e] at h1
      exact hn w' μ' cv h1 (hp1.trans h2) h3

theorem call_goes {T : TTab} (hT : TOk Γ.P T) {C : Calling} (hC : CallsOk Γ C) {n0 : Nat} {E0 : Env} {g : Nat} {args : List V} {K : V → Env → Heap → Prop} (he : evalP T n0 E H o.op = .call g args) (hc : C g args E0 H K) (hm : Mem Γ H w μ) (hE : EnvOk Γ w μ E0 a.tmps)
    (hop : ∀ x ∈ o.op.operands.toList, Rep Γ w μ (opd E x) (a.eval x)) (next : Act → World → Prop) (Q : Exit → Act → World → Prop)
    (hn : ∀ v E' H' w' μ' cv, K v E' H' → Mem Γ H' w' μ' → EnvOk Γ w' μ' E' a.tmps → Rep Γ w' μ' v cv → next (a.put o.dst cv) w') : o.wp Γ.P a w next Q := by
  have hs := evalP_sound hT (n0 := n0) (E := E) (H := H) hm hop (fun _ _ _ h => h)
  rw [he] at hs
  obtain ⟨cargs, h1, h2⟩ := hs
  unfold Oper.wp
  rw [h1]
  rcases (hC _ _ _ _ _ hc).go Γ w μ cargs a.tmps rfl hm hE h2 with ⟨h3, h4⟩ | ⟨v, w', h3, v', E', H', μ', h5, h6, h7, h8⟩
  · rw [h3]
    refine Calls.mono h4 fun e w' ⟨cv, he, v', E', H', μ', h5, h6, h7, h8⟩ => ?_
    subst he
    exact hn v' E' H' w' μ' cv h5 h6 h7 h8
  · rw [h3]
    exact hn v' E' H' w' μ' v h5 h6 h7 h8

end Go.AW
