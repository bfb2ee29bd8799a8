/- AW, part 12: what calls come to; the evaluator's word on one operation, in a state. -/
import Derived.Test.YtalkhhfinogecaaA11
namespace Go.AW
open Go Go.RowKit
variable {Γ : Ctx} {H : Heap} {w : World} {μ : List Plc} {a : Act} {o : Oper}

/-- What a call comes to: a function's body runs, or the model answers for it at once. -/
def Invokes (P : Program) (g : Nat) (cargs : Array Value) (w : World) (R : Value → World → Prop) : Prop :=
  ((callFunc g cargs).run P w = .ok (.enter g cargs) w ∧ Calls P g cargs w fun e w' => ∃ v, e = .returned v ∧ R v w') ∨
  (∃ v w', (callFunc g cargs).run P w = .ok (.value v) w' ∧ R v w')

theorem Invokes.mono {P : Program} {g : Nat} {cargs : Array Value} {R R' : Value → World → Prop} (h : Invokes P g cargs w R) (hr : ∀ v w', R v w' → R' v w') : Invokes P g cargs w R' := by
  rcases h with ⟨h1, h2⟩ | ⟨v, w', h1, h2⟩
  · exact .inl ⟨h1, h2.mono fun e w' ⟨v, h3, h4⟩ => ⟨v, h3, hr _ _ h4⟩⟩
  · exact .inr ⟨v, w', h1, hr _ _ h2⟩

/-- A call out of a state whose heap is H: what it answers, and what the state is then. -/
structure ACall (P : Program) (g : Nat) (args : List V) (E : Env) (H : Heap) (K : V → Env → Heap → Prop) : Prop where
  go : ∀ Γ w μ cargs tmps, Γ.P = P → Mem Γ H w μ → EnvOk Γ w μ E tmps → RepArgs Γ w μ args cargs → Invokes P g cargs w fun cv w' => ∃ v E' H' μ', K v E' H' ∧ Mem Γ H' w' μ' ∧ EnvOk Γ w' μ' E' tmps ∧ Rep Γ w' μ' v cv

/-- A call that answers v and leaves every heap as it was. -/
structure PCall (P : Program) (g : Nat) (args : List V) (v : V) : Prop where
  go : ∀ Γ H w μ cargs, Γ.P = P → Mem Γ H w μ → RepArgs Γ w μ args cargs → Invokes P g cargs w fun cv w' => Mem Γ H w' μ ∧ Pres Γ w μ w' μ ∧ Rep Γ w' μ v cv

theorem EnvOk.pres {w' : World} {μ' : List Plc} {E : Env} {tmps : Array Value} (h : EnvOk Γ w μ E tmps) (hp : Pres Γ w μ w' μ') : EnvOk Γ w' μ' E tmps := fun t => hp.rep (h t)

theorem acall {P : Program} {g : Nat} {args : List V} {E : Env} {H : Heap} {K : V → Env → Heap → Prop} {v : V} (h : PCall P g args v) (k : K v E H) : ACall P g args E H K :=
  ⟨fun Γ w μ cargs _ hP hm hE hr => (h.go Γ H w μ cargs hP hm hr).mono fun _ _ ⟨h1, h2, h3⟩ => ⟨v, E, H, μ, k, h1, hE.pres h2, h3⟩⟩

/-! ### Effects -/
inductive Eff where
  | none
  | set (b : Nat) (x : Blk)
  | new (x : Blk)
  | app (b : Nat) (x : Blk)

def Eff.news : Eff → Bool
  | .new _ => true
  | .app _ _ => true
  | _ => false

noncomputable def Eff.run (H : Heap) : Eff → Heap
  | .none => H
  | .set b x => setB H b x
  | .new x => H ++ [x]
  | .app b x => setB H b .dead ++ [x]

/-- The same where a free number stands ready. -/
noncomputable def Eff.at_ (s : Nat) (H : Heap) : Eff → Heap
  | .none => H
  | .set b x => setB H b x
  | .new x => setB H s x
  | .app b x => setB (setB H b .dead) s x

inductive SX (T : TTab) (E : Env) (H : Heap) : Op → V → Eff → Prop where
  | store {t : TypeId} {x y : Operand} {b q : Nat} {xs c ys : List V} {ti : TI} (h1 : opd E x = .ptr b q) (h2 : H[b]? = some (.cells xs)) (h3 : T.get t = some ti) (h4 : cellsN ti.sz (opd E y) = some c) (h5 : splice q c xs = some ys) :
      SX T E H (.store t x y) (.tup []) (.set b (.cells ys))
  | app {c : Call} {x y : Operand} {t e b z1 z2 : Nat} {z3 : List F} {ti : TI} {ys es : List (List F)} (hc : c = ⟨.builtin .append, #[x, y], #[t, t]⟩) (ht : T.get t = some ⟨.sli e, z1, z2, z3⟩) (hti : T.get e = some ti) (hs : 0 < ti.sz) (hb : 0 < ti.by_)
      (hy : rowsOf ti.sz (opd E y) H = some ys) (hx : opd E x = .buf b) (hH : H[b]? = some (.buf e ti.sz ti.by_ es)) (hf : (es.length + ys.length) * ti.by_ ≤ 140737488355328) :
      SX T E H (.call c) (.buf H.length) (.app b (.buf e ti.sz ti.by_ (es ++ ys)))
  | app0 {c : Call} {x y : Operand} {t e z1 z2 : Nat} {z3 : List F} {ti : TI} {ys : List (List F)} (hc : c = ⟨.builtin .append, #[x, y], #[t, t]⟩) (ht : T.get t = some ⟨.sli e, z1, z2, z3⟩) (hti : T.get e = some ti) (hs : 0 < ti.sz) (hb : 0 < ti.by_)
      (hy : rowsOf ti.sz (opd E y) H = some ys) (hx : opd E x = .fr (.sc (.slice none 0 0))) (hf : ys.length * ti.by_ ≤ 140737488355328) :
      SX T E H (.call c) (.buf H.length) (.new (.buf e ti.sz ti.by_ ys))

theorem evalX_spec {T : TTab} {E : Env} {op : Op} {K : V → Heap → Prop} (h : evalX T E H op K) : ∃ v eff, SX T E H op v eff ∧ K v (eff.run H) := by
  unfold evalX at h
  simp only [fcL_eq, fcH_eq] at h
  split at h
  · split at h
    · rename_i b q hbx
      split at h
      · rename_i xs hb
        rw [nth_eq] at hb
        split at h
        · rename_i ti hti
          split at h
          · rename_i c hc
            split at h
            · rename_i ys hs
              exact ⟨_, _, .store hbx hb hti hc hs, h⟩
            · exact h.elim
          · exact h.elim
        · exact h.elim
      · exact h.elim
    · exact h.elim
  · rename_i c
    obtain ⟨callee, args, ats⟩ := c
    split at h
    · rename_i hcal
      simp only at hcal
      subst hcal
      split at h
      · rename_i x y t t' hargs hats
        obtain ⟨args⟩ := args
        obtain ⟨ats⟩ := ats
        obtain rfl : args = [x, y] := hargs
        obtain rfl : ats = [t, t'] := hats
        split at h
        · rename_i e _ _ _ htt ht
          obtain rfl := Nat.eq_of_beq_eq_true htt
          split at h
          · rename_i ti hti
            split at h
            · rename_i n n2 ys hsz hby1 hys
              split at h
              · rename_i b hbx
                split at h
                · rename_i e' n' nb es hb
                  rw [nth_eq] at hb
                  split at h
                  · rename_i he hn' hnb
                    obtain rfl := Nat.eq_of_beq_eq_true he
                    obtain rfl := Nat.eq_of_beq_eq_true hn'
                    obtain rfl := Nat.eq_of_beq_eq_true hnb
                    exact ⟨_, _, .app rfl ht hti (by omega) (by omega) hys hbx hb h.1, h.2⟩
                  · exact h.elim
                · exact h.elim
              · rename_i hbx
                exact ⟨_, _, .app0 rfl ht hti (by omega) (by omega) hys hbx h.1, h.2⟩
              · exact h.elim
            · exact h.elim
          · exact h.elim
        · exact h.elim
      · exact h.elim
    · exact h.elim
  · exact h.elim

theorem undef_rep {I : Nat → Prop} : RepV w I μ (.tup []) undef := .tup [] #[] rfl (by intro i x h; simp at h)

/-! ### What passes a buffer's contents on -/
noncomputable def fz0 (H : Heap) : V → V
  | .fr f => .fr f
  | .buf b => (match nth H b with | some (.buf _ n nb es) => .fr (.sl n nb es) | _ => .bad)
  | _ => .bad

noncomputable def fz1 (H : Heap) : V → V
  | .agg xs => .agg (xs.map (fz0 H))
  | .tup xs => .tup (xs.map (fz0 H))
  | v => fz0 H v

theorem rep_fz0 (hm : Mem Γ H w μ) {x : V} {v : Value} (h : Rep Γ w μ x v) : RepV w (Imm Γ w []) [] (fz0 H x) v := by
  have himm : ∀ k, Imm Γ w μ k → Imm Γ w [] k := fun k ⟨i1, i2, _⟩ => ⟨i1, i2, fun ⟨i, l, h, _⟩ => by simp at h⟩
  cases h with
  | fr f v h => exact .fr f v (h.mono himm (fun _ _ => rfl))
  | buf b m c ad hl =>
    simp only [fz0]
    split
    · rename_i e n nb es hb
      rw [nth_eq] at hb
      obtain ⟨h1, h00, h2, vs, h3, h4⟩ := hm.blk _ _ _ hb hl
      subst h1
      by_cases h0 : es = []
      · subst h0; exact .fr _ _ (.nil _ _ _ _)
      · rcases h3.2 with ⟨hv, hz⟩ | ⟨g, cap, cur, hv, hg, hh, hcap, _, hcs, htake⟩
        · exact absurd (List.eq_nil_of_length_eq_zero hz) h0
        · rw [hv]
          have hgi : Imm Γ w [] g := ⟨.inr hg, by have := (Array.getElem?_eq_some_iff.1 hh).1; exact this, fun ⟨i, l, h, _⟩ => by simp at h⟩
          have hn : ∀ (i : Nat) (r : List F), es[i]? = some r → r.length = n := fun i r hr => h2 r (List.mem_of_getElem? hr)
          have key : ∀ (i : Nat) (r : List F) (j : Nat) (f : F), es[i]? = some r → r[j]? = some f → w.cell? ⟨g, 0 + i * n + j, none⟩ = some (vs.getD (i * n + j) undef) ∧ RepFr Γ w μ f (vs.getD (i * n + j) undef) := by
            intro i r j f hr hf
            have hj : j < n := by have := (List.getElem?_eq_some_iff.1 hf).1; rw [hn i r hr] at this; exact this
            have hfl := flat_get' es i j r h2 hr hj
            rw [hf] at hfl
            refine ⟨?_, h4 _ f hfl⟩
            have hlt : i * n + j < vs.length := by rw [h3.1, ← flat_length es h2]; exact (List.getElem?_eq_some_iff.1 hfl).1
            have hcell := World.ownsRow.cells h3 (g := g) (by rw [hv]; rfl) (i * n + j) vs[i * n + j] (by simp)
            rw [Addr.add_mid] at hcell
            rw [Nat.add_assoc, hcell]
            simp [List.getD, hlt]
          exact .fr _ _ (.sl n nb es g 0 cap (fun i j => vs.getD (i * n + j) undef) hgi hcap h00 hn (fun i r j f hr hf => (key i r j f hr hf).1) (fun i r j f hr hf => (key i r j f hr hf).2.mono himm (fun _ _ => rfl)))
    · exact .bad _
  | bdead b v hl h1 =>
    simp only [fz0]
    split
    · rename_i e n nb es hb
      rw [nth_eq] at hb
      exact (hm.blk _ _ _ hb hl).elim
    · exact .bad _
  | _ => exact .bad _

theorem rep_fz1 (hm : Mem Γ H w μ) {x : V} {v : Value} (h : Rep Γ w μ x v) : RepV w (Imm Γ w []) [] (fz1 H x) v := by
  cases h with
  | agg xs vs hl h1 h =>
    refine .agg _ _ (by simpa using hl) h1 (fun i y hy => ?_)
    rw [List.getElem?_map] at hy
    cases hq : xs[i]? with
    | none => rw [hq] at hy; cases hy
    | some z => rw [hq] at hy; cases hy; exact rep_fz0 hm (h i z hq)
  | fr f v h => exact rep_fz0 hm (.fr f v h)
  | ptr b o k hl => exact rep_fz0 hm (.ptr b o k hl)
  | fptr es o k o0 cv hk hcc hr => exact rep_fz0 hm (.fptr es o k o0 cv hk hcc hr)
  | buf b m c a hl => exact rep_fz0 hm (.buf b m c a hl)
  | bdead b v hl h1 => exact rep_fz0 hm (.bdead b v hl h1)
  | clo f xs vs hl h => exact rep_fz0 hm (.clo f xs vs hl h)
  | ifc t x v h => exact rep_fz0 hm (.ifc t x v h)
  | tup xs vs hl h =>
    refine .tup _ _ (by simpa using hl) (fun i y hy => ?_)
    rw [List.getElem?_map] at hy
    cases hq : xs[i]? with
    | none => rw [hq] at hy; cases hy
    | some z => rw [hq] at hy; cases hy; exact rep_fz0 hm (h i z hq)
  | bad v => exact .bad v


/-- Such an answer points nowhere. -/
def flat0 : V → Bool
  | .fr (.sc _) => true
  | _ => false

def flat1 : V → Bool
  | .agg xs => xs.all flat0
  | .tup xs => xs.all flat0
  | v => flat0 v

theorem flat0_rep {w w' : World} {I I' : Nat → Prop} {μ μ' : List Plc} {x : V} {v : Value} (h : RepV w I μ x v) (hf : flat0 x = true) : RepV w' I' μ' x v := by
  cases h with
  | fr f v h =>
    cases h with
    | sc v h => exact .fr _ _ (.sc v h)
    | _ => cases hf
  | _ => cases hf

theorem flat1_rep {w w' : World} {I I' : Nat → Prop} {μ μ' : List Plc} {x : V} {v : Value} (h : RepV w I μ x v) (hf : flat1 x = true) : RepV w' I' μ' x v := by
  cases h with
  | agg xs vs hl h1 h => exact .agg xs vs hl h1 (fun i x hx => flat0_rep (h i x hx) (List.all_eq_true.1 hf x (List.mem_of_getElem? hx)))
  | tup xs vs hl h => exact .tup xs vs hl (fun i x hx => flat0_rep (h i x hx) (List.all_eq_true.1 hf x (List.mem_of_getElem? hx)))
  | fr f v h => exact flat0_rep (μ := μ) (.fr f v h) hf
  | _ => cases hf

/-- The blocks that a call is shown are there. -/
noncomputable def live0 (H : Heap) : V → Bool
  | .buf b => (match nth H b with | some _ => true | none => false)
  | _ => true

noncomputable def live1 (H : Heap) : V → Bool
  | .agg xs => xs.all (live0 H)
  | .tup xs => xs.all (live0 H)
  | v => live0 H v

/-- A call from a heap that leaves it as it is: with no buffers among what it is given, or with some that it only reads, and a flat answer. -/
inductive PC (P : Program) (g : Nat) (args : List V) (H : Heap) (v : V) : Prop where
  | own (h : PCall P g args v)
  | lend (h : PCall P g (args.map (fz1 H)) v) (hf : flat1 v = true) (hl : args.all (live1 H) = true)

theorem PC.go {P : Program} {g : Nat} {args : List V} {v : V} {cargs : Array Value} (h : PC P g args H v) (hP : Γ.P = P) (hm : Mem Γ H w μ) (hr : RepArgs Γ w μ args cargs) :
    Invokes P g cargs w fun cv w' => Mem Γ H w' μ ∧ Pres Γ w μ w' μ ∧ Rep Γ w' μ v cv := by
  cases h with
  | own h => exact h.go Γ H w μ cargs hP hm hr
  | lend h hf _ =>
    let Γ' : Ctx := ⟨Γ.P, w, Imm Γ w [], []⟩
    have hno : ∀ k, ¬ owned ([] : List Plc) k := fun k ⟨i, l, h, _⟩ => by simp at h
    have hm' : Mem Γ' [] w [] := ⟨rfl, fun k h => absurd h (hno k), fun k h => absurd h (hno k), fun i j l l' k h => by simp at h, fun i b l h => by simp at h,
      ⟨rfl, rfl, rfl, Nat.le_refl _, fun _ _ _ => rfl⟩, fun k hk => ⟨hk.2.1, hno k⟩⟩
    have hr' : RepArgs Γ' w [] (args.map (fz1 H)) cargs := by
      refine ⟨by simpa using hr.1, fun i x hx => ?_⟩
      rw [List.getElem?_map] at hx
      cases hq : args[i]? with
      | none => rw [hq] at hx; cases hx
      | some y =>
        rw [hq] at hx; cases hx
        exact (rep_fz1 hm (hr.2 i y hq)).mono (fun k hk => ⟨.inl hk, hk.2.1, hno k⟩) (fun _ _ => rfl) (.refl _)
    refine (h.go Γ' [] w [] cargs hP hm' hr').mono fun cv w' ⟨h1, h2, h3⟩ => ?_
    obtain ⟨h4, h5⟩ := hm.grow (w' := w') h1.ext.size (fun k hk => h1.ext.block k hk (hno k)) h1.ext.os h1.ext.tape h1.ext.output
    exact ⟨h4, h5, flat1_rep h3 hf⟩

theorem acallP {P : Program} {g : Nat} {args : List V} {E : Env} {H : Heap} {K : V → Env → Heap → Prop} {v : V} (h : PC P g args H v) (k : K v E H) : ACall P g args E H K :=
  ⟨fun _ _ μ _ _ hP hm hE hr => (h.go hP hm hr).mono fun _ _ ⟨h1, h2, h3⟩ => ⟨v, E, H, μ, k, h1, hE.pres h2, h3⟩⟩

theorem acallB {P : Program} {g : Nat} {args : List V} {E : Env} {H : Heap} {K : V → Env → Heap → Prop} {v : V} (h : PCall P g (args.map (fz1 H)) v) (k : K v E H) (hf : flat1 v = true := by rfl) (hl : args.all (live1 H) = true := by rfl) : ACall P g args E H K := acallP (.lend h hf hl) k

structure DCall (P : Program) (g : Nat) (args : List V) (E : Env) (H : Heap) (K : V → Env → Heap → Prop) : Prop where
  h : ∃ u, PC P g args H u ∧ K u E H

theorem dcall {P : Program} {g : Nat} {args : List V} {E : Env} {H : Heap} {K : V → Env → Heap → Prop} {v : V} (h : PCall P g args v) (k : K v E H) : DCall P g args E H K := ⟨v, .own h, k⟩
theorem dcallB {P : Program} {g : Nat} {args : List V} {E : Env} {H : Heap} {K : V → Env → Heap → Prop} {v : V} (h : PCall P g (args.map (fz1 H)) v) (k : K v E H) (hf : flat1 v = true := by rfl) (hl : args.all (live1 H) = true := by rfl) : DCall P g args E H K := ⟨v, .lend h hf hl, k⟩

/-! ### One operation, as told -/
inductive SOp (P : Program) (T : TTab) (n0 : Nat) (E : Env) (H : Heap) (op : Op) : V → Eff → Prop where
  | val {v : V} (h : evalP T n0 E H op = .val v) : SOp P T n0 E H op v .none
  | side {p : Prop} {v : V} (h : evalP T n0 E H op = .side p v) (hp : p) : SOp P T n0 E H op v .none
  | pick {c : Bool} {x y : V} (h : evalP T n0 E H op = .pick c x y) : SOp P T n0 E H op (if c then x else y) .none
  | idx {es : List (List F)} {i : Int} {e : List F} (h : evalP T n0 E H op = .idx es i) (h0 : 0 ≤ i) (h1 : es[i.toNat]? = some e) : SOp P T n0 E H op (.fptr e 0) .none
  | str {s : ByteArray} {i : Int} (h : evalP T n0 E H op = .str s i) (h1 : i.toNat < s.size) (h0 : 0 ≤ i) : SOp P T n0 E H op (.fr (.sc (.int .u8 (s[i.toNat]'h1).toNat))) .none
  | ex {p : V → Prop} {v : V} (h : evalP T n0 E H op = .ex p) (hp : p v) : SOp P T n0 E H op v .none
  | new {xs : List V} (h : evalP T n0 E H op = .new xs) : SOp P T n0 E H op (.ptr H.length 0) (.new (.cells xs))
  | call {g : Nat} {args : List V} {v : V} (h : evalP T n0 E H op = .call g args) (hc : PC P g args H v) : SOp P T n0 E H op v .none
  | no {v : V} {eff : Eff} (h : evalP T n0 E H op = .no) (hx : SX T E H op v eff) : SOp P T n0 E H op v eff

theorem xopR_spec {P : Program} {C : Calling} {T : TTab} {n0 : Nat} {E : Env} {r : PR} {op : Op} {K : V → Env → Heap → Prop} (h : xopR C T E H r op K) (he : evalP T n0 E H op = r) :
    (∃ g args, evalP T n0 E H op = .call g args ∧ C g args E H K) ∨ ∃ v eff, SOp P T n0 E H op v eff ∧ K v E (eff.run H) := by
  subst he
  unfold xopR at h
  simp only [fc1_eq, fcL_eq, fcH_eq] at h
  cases he : evalP T n0 E H op with
  | val v => rw [he] at h; exact .inr ⟨_, _, .val he, h⟩
  | side p v => rw [he] at h; exact .inr ⟨_, _, .side he h.1, h.2⟩
  | pick c x y =>
    rw [he] at h
    cases c with
    | true => exact .inr ⟨_, _, .pick he, h⟩
    | false => exact .inr ⟨_, _, .pick he, h⟩
  | idx es i => rw [he] at h; obtain ⟨e, h1, h2, h3⟩ := h.h; exact .inr ⟨_, _, .idx he h1 h2, h3⟩
  | str s i => rw [he] at h; obtain ⟨h1, h2, h3⟩ := h.h; exact .inr ⟨_, _, .str he h1 h2, h3⟩
  | ex p => rw [he] at h; obtain ⟨v, h1, h2⟩ := h.h; exact .inr ⟨_, _, .ex he h1, h2⟩
  | new xs => rw [he] at h; exact .inr ⟨_, _, .new he, h⟩
  | call g args => rw [he] at h; exact .inl ⟨g, args, rfl, h⟩
  | no =>
    rw [he] at h
    obtain ⟨v, eff, h1, h2⟩ := evalX_spec h
    exact .inr ⟨v, eff, .no he h1, h2⟩

end Go.AW
