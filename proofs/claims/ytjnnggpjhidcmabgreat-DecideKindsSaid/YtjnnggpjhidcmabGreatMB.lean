
/- AW, part 13: operations in their text's order. -/
import Derived.Test.YtjnnggpjhidcmabGreatMA
import Derived.Scope
import Derived.Lib.AppendStr
import Derived.Lib.SliceRun
namespace Go.AW
open Go Go.RowKit

/-! ### What is asked of the code's text -/
def constB : Operand → Bool
  | .const (.agg cs) => cs.toList.all (·.oneCell')
  | _ => true

def operOK (nt : Nat) (o : Oper) : Bool := (match o.dst with | some d => Nat.blt d nt | none => true) && o.op.operands.toList.all constB

section
variable {Γ : Ctx} {nt : Nat} {E : Env} {H : Heap} {w : World} {μ : List Plc} {a : Act}

theorem rep_operand {x : Operand} (hE : EnvOk Γ w μ E a.tmps) (hc : constB x = true) : Rep Γ w μ (opd E x) (a.eval x) :=
  rep_opd (fun t _ => hE t) (by
    cases x with
    | const v =>
      cases v with
      | agg cs => intro y hy; simp only [constB, List.all_eq_true] at hc; exact hc y hy
      | _ => trivial
    | _ => trivial)

theorem EnvOk.put {d : Nat} {v : V} {cv : Value} (hE : EnvOk Γ w μ E a.tmps) (hd : d < a.tmps.size) (h : Rep Γ w μ v cv) : EnvOk Γ w μ ((d, v) :: E) (a.put (some d) cv).tmps := by
  intro t
  rw [look_cons]
  simp only [Act.put]
  split
  · rename_i he
    subst he
    have : (a.tmps.setIfInBounds d cv).getD d undef = cv := by simp [Array.getD_eq_getD_getElem?, hd]
    rw [this]; exact h
  · rename_i hne
    have : (a.tmps.setIfInBounds d cv).getD t undef = a.tmps.getD t undef := by simp [Array.getD_eq_getD_getElem?, hne]
    rw [this]; exact hE t

theorem EnvOk.cons {d : Nat} {v : V} {tmps : Array Value} (hE : EnvOk Γ w μ E tmps) (h : Rep Γ w μ v (tmps.getD d undef)) : EnvOk Γ w μ ((d, v) :: E) tmps := by
  intro t
  rw [look_cons]
  split
  · rename_i he; subst he; exact h
  · exact hE t

theorem put_ok {o : Oper} {v : V} {cv : Value} (hE : EnvOk Γ w μ E a.tmps) (hd : operOK a.tmps.size o = true) (h : Rep Γ w μ v cv) : EnvOk Γ w μ (setE E o.dst v) (a.put o.dst cv).tmps := by
  cases hdst : o.dst with
  | none => exact hE
  | some d =>
    refine hE.put ?_ h
    simp only [operOK, hdst, Bool.and_eq_true, Nat.blt_eq] at hd
    exact hd.1

theorem put_size (o : Option Tmp) (v : Value) : (a.put o v).tmps.size = a.tmps.size := by cases o <;> simp [Act.put]
theorem put_defers (o : Option Tmp) (v : Value) : (a.put o v).defers = a.defers := by cases o <;> rfl

theorem yielded_some {ops : Array Oper} {j d : Nat} {b : Bool} (hd : dstOf ops.toList j = some d) (hb : a.tmps.getD d undef = .bool b) : yielded ops a.tmps j = some b := by
  unfold dstOf at hd
  rw [nth_eq] at hd
  cases ho : ops.toList[j]? with
  | none => rw [ho] at hd; cases hd
  | some o =>
    rw [ho] at hd
    have ho' : ops[j]? = some o := by simpa using ho
    simp only at hd
    have : a.tmps[d]? = some (.bool b) := by
      rw [Array.getD_eq_getD_getElem?] at hb
      cases hq : a.tmps[d]? with
      | none => rw [hq] at hb; simp [undef] at hb
      | some u => rw [hq] at hb; simp at hb; rw [hb]
    simp [yielded, ho', hd, this]

theorem yielded_undef {ops : Array Oper} {j d : Nat} (hd : dstOf ops.toList j = some d) (hb : a.tmps.getD d undef = .tuple #[]) : yielded ops a.tmps j = none := by
  unfold dstOf at hd
  rw [nth_eq] at hd
  cases ho : ops.toList[j]? with
  | none => rw [ho] at hd; cases hd
  | some o =>
    rw [ho] at hd
    have ho' : ops[j]? = some o := by simpa using ho
    simp only at hd
    rw [Array.getD_eq_getD_getElem?] at hb
    cases hq : a.tmps[d]? with
    | none => simp [yielded, ho', hd, hq]
    | some u => rw [hq] at hb; simp at hb; simp [yielded, ho', hd, hq, hb]

theorem yielded_none {ops : Array Oper} {j : Nat} (hd : dstOf ops.toList j = none) : yielded ops a.tmps j = none := by
  unfold dstOf at hd
  rw [nth_eq] at hd
  cases ho : ops.toList[j]? with
  | none =>
    have ho' : ops[j]? = none := by simpa using ho
    simp only [yielded, ho', Option.bind_none]
  | some o =>
    rw [ho] at hd
    have ho' : ops[j]? = some o := by simpa using ho
    simp only at hd
    simp [yielded, ho', hd]

theorem rep_tup0 {I : Nat → Prop} {v : Value} (h : RepV w I μ (.tup []) v) : v = .tuple #[] := by
  obtain ⟨vs, rfl, hl, _⟩ := rep_tup_one h
  have : vs = #[] := by apply Array.eq_empty_of_size_eq_zero; simpa using hl
  rw [this]


end

/-! ### The evaluator, guards and all -/
/-- A call under a guard: with what it answers if it is made; or each way by itself. -/
inductive GCall (P : Program) (g : Bool) (f : Nat) (args : List V) (H : Heap) (sym : V → Prop) (run skip : Prop) : Prop where
  | sym (v : V) (h : g = true → PC P f args H v) (k : sym v)
  | split (h1 : g = true → run) (h2 : g = false → skip)

noncomputable def tchk (chk : Bool) (all : List Oper) (i : Nat) (ts : List (Nat × Bool)) (acc : Tch) (k : Tch → Prop) : Prop := match chk with
  | false => k acc
  | true => (match agree all i ts acc with | true => k ((i, ts) :: acc) | false => False)

noncomputable def dstIs (dst : Option Nat) (d : Nat) : Bool := match dst with | some t => Nat.beq t d | none => false

noncomputable def skipE (E : Env) (G : GEnv) (d : Nat) (w : Bool) : Env := match findG G d with
  | none => (d, B1 (match w with | true => false | false => true)) :: E
  | some _ => E

noncomputable def keepG (chk : Bool) (r : PR) (G : GEnv) : GEnv := match chk with
  | true => G
  | false => (match r with | .call _ _ => [] | _ => G)

noncomputable def xgo (P : Program) (g : Bool) (r : PR) (d : Nat) (dst : Option Nat) (H : Heap) (sym : V → Prop) (run skip : Prop) : Prop := match dstIs dst d with
  | true => bsel g run skip
  | false => (match r with
    | .val v => sym v
    | .side p v => (g = true → p) ∧ sym v
    | .idx es i => GIdx g es i fun e => sym (.fptr e 0)
    | .str s i => GStr g s i fun b => sym (.fr (.sc (.int .u8 b)))
    | .ex p => GEx g p sym
    | .call f args => fcL args fun args => GCall P g f args H sym run skip
    | _ => bsel g run skip)

noncomputable def xg (P : Program) (chk : Bool) (C : Calling) (T : TTab) (n0 : Nat) (all ops : List Oper) : Nat → Tch → Env → GEnv → Heap → (Env → Heap → Prop) → Prop :=
  List.rec (motive := fun _ => Nat → Tch → Env → GEnv → Heap → (Env → Heap → Prop) → Prop) (fun _ _ E _ H K => K E H)
    (fun o _ ih i acc E G H K => match o.guard with
      | none => tchk chk all i (touch E o.op) acc fun acc' =>
          xopR C T E H (evalG T n0 E G [] H o.op) o.op fun v E2 H2 => setK E2 (keepG chk (evalG T n0 E G [] H o.op) G) o.dst v fun E3 G3 => ih (i + 1) acc' E3 G3 H2 K
      | some (j, w) => (match dstOf all j with
        | none => setK E G o.dst (.tup []) fun E3 G3 => ih (i + 1) acc E3 G3 H K
        | some d => (match condB E G 6 d w with
          | none => (match look E d with
            | .tup [] => setK E G o.dst (.tup []) fun E3 G3 => ih (i + 1) acc E3 G3 H K
            | _ => False)
          | some g => tchk chk all i (touch (envA G (asm G 6 d w) E) o.op) acc fun acc' =>
              xgo P g (evalG T n0 E G (asm G 6 d w) H o.op) d o.dst H (fun v => addK E G d w v o.dst fun E3 G3 => ih (i + 1) acc' E3 G3 H K)
                (xopR C T (envA G (asm G 6 d w) E) H (evalG T n0 E G (asm G 6 d w) H o.op) o.op fun v E2 H2 =>
                  setK E2 (keepG chk (evalG T n0 E G (asm G 6 d w) H o.op) G) o.dst v fun E3 G3 => ih (i + 1) acc' E3 G3 H2 K)
                (setK (skipE E G d w) G o.dst (.tup []) fun E3 G3 => ih (i + 1) acc' E3 G3 H K)))) ops

/-! ### What the guards say -/
theorem look_same {E : Env} {d : Nat} {v : V} (h : look E d = v) (t : Nat) : look ((d, v) :: E) t = look E t := by
  rw [look_cons]
  split
  · rename_i he; subst he; exact h.symm
  · rfl

structure Agr (E : Env) (G : GEnv) (L : Nat → V) : Prop where
  e : ∀ t, look E t = .bad ∨ look E t = L t
  g : ∀ p ∈ G, (L p.2.1 = B1 p.2.2.1 ∧ L p.1 = p.2.2.2) ∨ (L p.2.1 ≠ B1 p.2.2.1 ∧ L p.1 = .tup [])

def updL (L : Nat → V) (dst : Option Nat) (v : V) (t : Nat) : V := match dst with
  | some d => if d = t then v else L t
  | none => L t

theorem findG_mem {G : GEnv} {t : Nat} {x : Nat × Bool × V} (h : findG G t = some x) : (t, x) ∈ G := by
  induction G with
  | nil => cases h
  | cons p G ih =>
    have h' : (match Nat.beq p.1 t with | true => some p.2 | false => findG G t) = some x := h
    cases hb : Nat.beq p.1 t with
    | true =>
      rw [hb] at h'; cases h'
      have := Nat.eq_of_beq_eq_true hb
      subst this
      exact List.mem_cons_self
    | false => rw [hb] at h'; exact List.mem_cons_of_mem _ (ih h')

theorem B1_inj {a b : Bool} (h : B1 a = B1 b) : a = b := by injection h with h; injection h with h; injection h

theorem asm_zero (G : GEnv) (d : Nat) (w : Bool) : asm G 0 d w = [(d, w)] := rfl
theorem asm_succ (G : GEnv) (n d : Nat) (w : Bool) : asm G (n + 1) d w = (d, w) :: (match findG G d with | some (d2, w2, _) => asm G n d2 w2 | none => []) := rfl

theorem asm_head (G : GEnv) (n d : Nat) (w : Bool) : (d, w) ∈ asm G n d w := by
  cases n with
  | zero => rw [asm_zero]; exact List.mem_cons_self
  | succ n => rw [asm_succ]; exact List.mem_cons_self

theorem asm_spec {E : Env} {G : GEnv} {L : Nat → V} (ha : Agr E G L) : ∀ (n d : Nat) (w : Bool), L d = B1 w → ∀ q ∈ asm G n d w, L q.1 = B1 q.2
  | 0, d, w, h, q, hq => by rw [asm_zero] at hq; simp at hq; subst hq; exact h
  | n + 1, d, w, h, q, hq => by
    rw [asm_succ] at hq
    rcases List.mem_cons.1 hq with rfl | hq
    · exact h
    · cases hf : findG G d with
      | none => rw [hf] at hq; cases hq
      | some x =>
        obtain ⟨d2, w2, v⟩ := x
        rw [hf] at hq
        rcases ha.g _ (findG_mem hf) with ⟨h1, _⟩ | ⟨_, h2⟩
        · exact asm_spec ha n d2 w2 h1 q hq
        · rw [h] at h2; cases h2

theorem condB_zero (E : Env) (G : GEnv) (d : Nat) (w : Bool) : condB E G 0 d w = none := rfl
theorem condB_succ (E : Env) (G : GEnv) (n d : Nat) (w : Bool) : condB E G (n + 1) d w = (match findG G d with
    | some (d2, w2, v) => (match v with
      | .fr (.sc (.bool b)) => (match condB E G n d2 w2 with | some g => some (g && eqw b w) | none => none)
      | _ => none)
    | none => (match look E d with | .fr (.sc (.bool b)) => some (eqw b w) | _ => none)) := rfl

theorem eqw_true {b w : Bool} (h : eqw b w = true) : b = w := by cases b <;> cases w <;> first | rfl | cases h
theorem eqw_false {b w : Bool} (h : eqw b w = false) : b = !w := by cases b <;> cases w <;> first | rfl | cases h

theorem condB_spec {E : Env} {G : GEnv} {L : Nat → V} (ha : Agr E G L) : ∀ (n d : Nat) (w g : Bool), condB E G n d w = some g → (g = true ∧ L d = B1 w) ∨ (g = false ∧ (L d = B1 (!w) ∨ L d = .tup []))
  | 0, d, w, g, h => by cases h
  | n + 1, d, w, g, h => by
    rw [condB_succ] at h
    cases hf : findG G d with
    | none =>
      rw [hf] at h
      simp only at h
      split at h
      · rename_i b hb
        cases h
        have hL : L d = B1 b := by
          rcases ha.e d with h | h
          · rw [hb] at h; cases h
          · rw [← h, hb]
        cases he : eqw b w with
        | true => rw [eqw_true he] at hL; exact .inl ⟨rfl, hL⟩
        | false => rw [eqw_false he] at hL; exact .inr ⟨rfl, .inl hL⟩
      · cases h
    | some x =>
      obtain ⟨d2, w2, v⟩ := x
      rw [hf] at h
      simp only at h
      split at h
      · rename_i b
        cases hc : condB E G n d2 w2 with
        | none => rw [hc] at h; cases h
        | some g2 =>
          rw [hc] at h
          cases h
          have ih := condB_spec ha n d2 w2 g2 hc
          rcases ha.g _ (findG_mem hf) with ⟨h1, h2⟩ | ⟨h1, h2⟩
          · have h1' : L d2 = B1 w2 := h1
            have h2' : L d = B1 b := h2
            have hg : g2 = true := by
              rcases ih with ⟨h, _⟩ | ⟨_, h | h⟩
              · exact h
              · rw [h1'] at h; have := B1_inj h; cases w2 <;> cases this
              · rw [h1'] at h; cases h
            rw [hg, Bool.true_and]
            cases he : eqw b w with
            | true => rw [eqw_true he] at h2'; exact .inl ⟨rfl, h2'⟩
            | false => rw [eqw_false he] at h2'; exact .inr ⟨rfl, .inl h2'⟩
          · have hg : g2 = false := by
              rcases ih with ⟨_, h⟩ | ⟨h, _⟩
              · exact absurd h h1
              · exact h
            rw [hg]
            exact .inr ⟨rfl, .inr h2⟩
      · cases h

theorem memA_mem {d : Nat} {w : Bool} {A : List (Nat × Bool)} (h : memA d w A = true) : (d, w) ∈ A := by
  induction A with
  | nil => cases h
  | cons p A ih =>
    have h' : (match (generalizing := false) Nat.beq p.1 d with
      | true => (match (generalizing := false) p.2, w with | true, true => true | false, false => true | _, _ => memA d w A)
      | false => memA d w A) = true := h
    cases hb : Nat.beq p.1 d with
    | false => rw [hb] at h'; exact List.mem_cons_of_mem _ (ih h')
    | true =>
      rw [hb] at h'
      have := Nat.eq_of_beq_eq_true hb
      obtain ⟨p1, p2⟩ := p
      simp only at this h'
      subst this
      cases p2 <;> cases w <;> first | exact List.mem_cons_self | exact List.mem_cons_of_mem _ (ih h')

theorem envB_spec {E : Env} {G : GEnv} {L : Nat → V} (ha : Agr E G L) {A : List (Nat × Bool)} (hA : ∀ q ∈ A, L q.1 = B1 q.2) (t : Nat) : look (envB A E) t = .bad ∨ look (envB A E) t = L t := by
  induction A with
  | nil => exact ha.e t
  | cons p A ih =>
    show look ((p.1, B1 p.2) :: envB A E) t = .bad ∨ look ((p.1, B1 p.2) :: envB A E) t = L t
    rw [look_cons]
    split
    · rename_i he; subst he; exact .inr (hA p List.mem_cons_self).symm
    · exact ih fun q hq => hA q (List.mem_cons_of_mem _ hq)

theorem envA_spec {E : Env} {G : GEnv} {L : Nat → V} (ha : Agr E G L) {A : List (Nat × Bool)} (hA : ∀ q ∈ A, L q.1 = B1 q.2) (t : Nat) : look (envA G A E) t = .bad ∨ look (envA G A E) t = L t := by
  have key : ∀ G' : GEnv, (∀ p ∈ G', p ∈ G) → (look (envA G' A E) t = .bad ∨ look (envA G' A E) t = L t) := by
    intro G'
    induction G' with
    | nil => intro _; exact envB_spec ha hA t
    | cons p G' ih =>
      intro hsub
      have ih' := ih fun q hq => hsub q (List.mem_cons_of_mem _ hq)
      have e : envA (p :: G') A E = (match memA p.2.1 p.2.2.1 A with | true => (p.1, p.2.2.2) :: envA G' A E | false => envA G' A E) := rfl
      rw [e]
      cases hm : memA p.2.1 p.2.2.1 A with
      | false => exact ih'
      | true =>
        simp only [look_cons]
        split
        · rename_i he; subst he
          have hL := hA _ (memA_mem hm)
          rcases ha.g p (hsub p List.mem_cons_self) with ⟨_, h⟩ | ⟨h, _⟩
          · exact .inr h.symm
          · exact absurd hL h
        · exact ih'
  exact key G fun _ h => h

theorem envB_hit {E : Env} {L : Nat → V} {A : List (Nat × Bool)} (hA : ∀ q ∈ A, L q.1 = B1 q.2) {d : Nat} {w : Bool} (h : (d, w) ∈ A) : look (envB A E) d = L d := by
  induction A with
  | nil => cases h
  | cons p A ih =>
    show look ((p.1, B1 p.2) :: envB A E) d = L d
    rw [look_cons]
    split
    · rename_i he; subst he; exact (hA p List.mem_cons_self).symm
    · rename_i hne
      rcases List.mem_cons.1 h with rfl | h
      · exact absurd rfl hne
      · exact ih (fun q hq => hA q (List.mem_cons_of_mem _ hq)) h

theorem envA_hit {E : Env} {G : GEnv} {L : Nat → V} (ha : Agr E G L) {A : List (Nat × Bool)} (hA : ∀ q ∈ A, L q.1 = B1 q.2) {d : Nat} {w : Bool} (h : (d, w) ∈ A) : look (envA G A E) d = L d := by
  have key : ∀ G' : GEnv, (∀ p ∈ G', p ∈ G) → look (envA G' A E) d = L d := by
    intro G'
    induction G' with
    | nil => intro _; exact envB_hit hA h
    | cons p G' ih =>
      intro hsub
      have ih' := ih fun q hq => hsub q (List.mem_cons_of_mem _ hq)
      have e : envA (p :: G') A E = (match memA p.2.1 p.2.2.1 A with | true => (p.1, p.2.2.2) :: envA G' A E | false => envA G' A E) := rfl
      rw [e]
      cases hm : memA p.2.1 p.2.2.1 A with
      | false => exact ih'
      | true =>
        simp only [look_cons]
        split
        · rename_i he; subst he
          have hL := hA _ (memA_mem hm)
          rcases ha.g p (hsub p List.mem_cons_self) with ⟨_, h⟩ | ⟨h, _⟩
          · exact h.symm
          · exact absurd hL h
        · exact ih'
  exact key G fun _ h => h

theorem envA_nil (G : GEnv) (E : Env) : envA G [] E = E := by
  induction G with
  | nil => rfl
  | cons p G ih => exact ih

theorem mrg_true {x y u : V} (h : mrg true x y = some u) : u = x := by
  unfold mrg at h
  split at h
  · cases h; rfl
  · split at h
    · cases h; rfl
    · cases h
  · cases h; rfl
  · cases h

theorem mrg_false {x y u : V} (h : mrg false x y = some u) : u = y := by
  unfold mrg at h
  split at h
  · cases h; rfl
  · split at h
    · rename_i hk
      cases h
      rw [kCode_inj (Nat.eq_of_beq_eq_true hk)]
      rfl
    · cases h
  · cases h; rfl
  · cases h

/-- What evalG says is what evalP says somewhere below L. -/
theorem evalG_spec {T : TTab} {n0 : Nat} {E : Env} {G : GEnv} {L : Nat → V} {H : Heap} (ha : Agr E G L) {A : List (Nat × Bool)} (hA : ∀ q ∈ A, L q.1 = B1 q.2) (op : Op) :
    (evalP T n0 (envA G A E) H op = evalG T n0 E G A H op) ∨
    (∃ E1 b x1 y1 c x y, op = .pick c x y ∧ (∀ t, look E1 t = .bad ∨ look E1 t = L t) ∧ evalP T n0 E1 H op = .pick b x1 y1 ∧
      (evalG T n0 E G A H op = .val (if b then x1 else y1) ∨ ∃ x y, evalG T n0 E G A H op = .pick b x y ∧ (if b then x else y) = (if b then x1 else y1))) ∨ evalG T n0 E G A H op = .no ∧ ∃ c x y, op = .pick c x y := by
  cases op with
  | pick c x y =>
    right
    simp only [evalG]
    cases hc : opd (envA G A E) c with
    | fr f =>
      cases f with
      | sc v =>
        cases v with
        | bool b =>
          left
          -- the condition's truth
          have hcond : ∀ t, c = .tmp t → L t = B1 b := fun t e => by
            subst e
            rcases envA_spec ha hA t with h | h
            · have : opd (envA G A E) (.tmp t) = .bad := h
              rw [hc] at this; cases this
            · rw [← h]; exact hc
          have hA2 : ∀ q ∈ List.append (asmO G b c) A, L q.1 = B1 q.2 := fun q hq => by
            rcases List.mem_append.1 hq with hq | hq
            · cases c with
              | tmp t => exact asm_spec ha 6 t b (hcond t rfl) q hq
              | _ => cases hq
            · exact hA q hq
          have hc2 : opd (envA G (List.append (asmO G b c) A) E) c = B1 b := by
            cases c with
            | tmp t =>
              show look (envA G (List.append (asmO G b (.tmp t)) A) E) t = B1 b
              rw [envA_hit ha hA2 (List.mem_append_left _ (asm_head G 6 t b))]
              exact hcond t rfl
            | const v => exact hc
            | global g => cases hc
            | func f => cases hc
          refine ⟨envA G (List.append (asmO G b c) A) E, b, opd (envA G (List.append (asmO G b c) A) E) x, opd (envA G (List.append (asmO G b c) A) E) y, c, x, y, rfl, envA_spec ha hA2, by simp only [evalP, hc2], ?_⟩
          simp only
          cases b with
          | true =>
            split
            · rename_i u hu; rw [mrg_true hu]; exact .inl rfl
            · exact .inr ⟨_, _, rfl, rfl⟩
          | false =>
            split
            · rename_i u hu; rw [mrg_false hu]; exact .inl rfl
            · exact .inr ⟨_, _, rfl, rfl⟩
        | _ => exact .inr ⟨rfl, _, _, _, rfl⟩
      | sl => exact .inr ⟨rfl, _, _, _, rfl⟩
    | _ => exact .inr ⟨rfl, _, _, _, rfl⟩
  | _ => exact .inl rfl

/-! ### One step -/
/-- What the guard says, told by the slots. -/
def Grd (all : List Oper) (L : Nat → V) (o : Oper) (b : Bool) : Prop := match o.guard with
  | none => b = true
  | some (j, want) => match dstOf all j with
    | none => b = false
    | some d => (∃ c, L d = .fr (.sc (.bool c)) ∧ b = (c == want)) ∨ (L d = .tup [] ∧ b = false)



theorem dropG_mem {G : GEnv} {t : Nat} {p : Nat × Nat × Bool × V} (h : p ∈ dropG G (some t)) : p ∈ G ∧ p.1 ≠ t ∧ p.2.1 ≠ t := by
  induction G with
  | nil => cases h
  | cons q G ih =>
    have h' : p ∈ (match Nat.beq q.1 t with | true => dropG G (some t) | false => (match Nat.beq q.2.1 t with | true => dropG G (some t) | false => q :: dropG G (some t))) := h
    cases h1 : Nat.beq q.1 t with
    | true => rw [h1] at h'; have := ih h'; exact ⟨List.mem_cons_of_mem _ this.1, this.2⟩
    | false =>
      rw [h1] at h'
      cases h2 : Nat.beq q.2.1 t with
      | true => rw [h2] at h'; have := ih h'; exact ⟨List.mem_cons_of_mem _ this.1, this.2⟩
      | false =>
        rw [h2] at h'
        rcases List.mem_cons.1 h' with rfl | h'
        · exact ⟨List.mem_cons_self, Nat.ne_of_beq_eq_false h1, Nat.ne_of_beq_eq_false h2⟩
        · have := ih h'; exact ⟨List.mem_cons_of_mem _ this.1, this.2⟩

theorem Agr.upd {E E0 : Env} {G : GEnv} {L : Nat → V} (ha : Agr E G L) (h0 : ∀ t, look E0 t = .bad ∨ look E0 t = L t) (dst : Option Nat) (v : V) : Agr (setE E0 dst v) (dropG G dst) (updL L dst v) := by
  cases dst with
  | none => exact ⟨h0, ha.g⟩
  | some d =>
    refine ⟨fun t => ?_, fun p hp => ?_⟩
    · simp only [setE, updL, look_cons]
      split
      · exact .inr rfl
      · exact h0 t
    · obtain ⟨h1, h2, h3⟩ := dropG_mem hp
      simp only [updL]
      rw [if_neg (Ne.symm h2), if_neg (Ne.symm h3)]
      exact ha.g p h1

theorem Agr.add {E : Env} {G : GEnv} {L : Nat → V} (ha : Agr E G L) {dst : Option Nat} {d : Nat} {w : Bool} {v v' : V} (hd : dstIs dst d = false) (h : (L d = B1 w ∧ v' = v) ∨ (L d ≠ B1 w ∧ v' = .tup [])) :
    Agr (setE E dst .bad) (addG G d w v dst) (updL L dst v') := by
  cases dst with
  | none => exact ha
  | some t =>
    have hne : t ≠ d := Nat.ne_of_beq_eq_false hd
    refine ⟨fun u => ?_, fun p hp => ?_⟩
    · simp only [setE, updL, look_cons]
      split
      · exact .inl rfl
      · exact ha.e u
    · have hp' : p ∈ (t, d, w, v) :: dropG G (some t) := hp
      rcases List.mem_cons.1 hp' with rfl | hp'
      · simp only [updL, if_true]
        rw [if_neg hne]
        exact h
      · obtain ⟨h1, h2, h3⟩ := dropG_mem hp'
        simp only [updL]
        rw [if_neg (Ne.symm h2), if_neg (Ne.symm h3)]
        exact ha.g p h1

theorem Agr.nilG {E : Env} {G : GEnv} {L : Nat → V} (ha : Agr E G L) : Agr E [] L := ⟨ha.e, fun p hp => by cases hp⟩

theorem Agr.keep {E : Env} {G : GEnv} {L : Nat → V} (ha : Agr E G L) (chk : Bool) (r : PR) : Agr E (keepG chk r G) L := by
  unfold keepG
  split
  · exact ha
  · split
    · exact ha.nilG
    · exact ha

theorem condB_none {E : Env} {G : GEnv} {L : Nat → V} (ha : Agr E G L) {n d : Nat} {w g : Bool} (hf : findG G d = none) (h : condB E G (n + 1) d w = some g) : ∃ b, L d = B1 b := by
  rw [condB_succ, hf] at h
  simp only at h
  split at h
  · rename_i b hb
    rcases ha.e d with h' | h'
    · rw [hb] at h'; cases h'
    · exact ⟨b, by rw [← h', hb]⟩
  · cases h

theorem skipE_spec {E : Env} {G : GEnv} {L : Nat → V} (ha : Agr E G L) {d : Nat} {w : Bool} (hc : condB E G 6 d w = some false) (t : Nat) : look (skipE E G d w) t = .bad ∨ look (skipE E G d w) t = L t := by
  unfold skipE
  cases hf : findG G d with
  | some x => exact ha.e t
  | none =>
    simp only [look_cons]
    split
    · rename_i he
      subst he
      obtain ⟨b, hb⟩ := condB_none ha hf hc
      rcases condB_spec ha _ _ _ _ hc with ⟨h, _⟩ | ⟨_, h | h⟩
      · cases h
      · right; rw [h]; cases w <;> rfl
      · rw [hb] at h; cases h
    · exact ha.e t

theorem xopG_spec {P : Program} {C : Calling} {T : TTab} {n0 : Nat} {E : Env} {G : GEnv} {L : Nat → V} {H : Heap} {A : List (Nat × Bool)} {op : Op} {K : V → Env → Heap → Prop} (ha : Agr E G L) (hA : ∀ q ∈ A, L q.1 = B1 q.2)
    (h : xopR C T (envA G A E) H (evalG T n0 E G A H op) op K) :
    (∃ f args, evalP T n0 (envA G A E) H op = .call f args ∧ evalG T n0 E G A H op = .call f args ∧ C.call f args (envA G A E) H K) ∨ (C.raw op (envA G A E) H fun v H => K v (envA G A E) H) ∨
    ∃ E1 v eff, (∀ t, look E1 t = .bad ∨ look E1 t = L t) ∧ touch E1 op = touch (envA G A E) op ∧ SOp P T n0 E1 H op v eff ∧ K v (envA G A E) (eff.run H) := by
  rcases evalG_spec (T := T) (n0 := n0) (H := H) ha hA op with he | ⟨E1, b, x1, y1, c, x, y, hop, hE1, he, hr⟩ | ⟨he, c, x, y, hop⟩
  · rcases xopR_spec (P := P) h he with ⟨f, args, h1, h2⟩ | h1 | ⟨v, eff, h1, h2⟩
    · exact .inl ⟨f, args, h1, he ▸ h1, h2⟩
    · exact .inr (.inl h1)
    · exact .inr (.inr ⟨_, v, eff, envA_spec ha hA, rfl, h1, h2⟩)
  · right; right
    refine ⟨E1, if b then x1 else y1, .none, hE1, by rw [hop]; rfl, .pick he, ?_⟩
    rcases hr with hr | ⟨x', y', hr, hxy⟩
    · rw [hr] at h
      have h' : fc1 _ (fun v => K v (envA G A E) H) := h
      rw [fc1_eq] at h'; exact h'
    · rw [hr] at h
      rw [← hxy]
      have h' : bsel b (fc1 x' fun x => K x (envA G A E) H) (fc1 y' fun y => K y (envA G A E) H) := h
      simp only [fc1_eq] at h'
      cases b with
      | true => exact h'
      | false => exact h'
  · rw [he] at h
    subst hop
    exact .inr (.inl h)

theorem xg_cons (P : Program) (chk : Bool) (C : Calling) (T : TTab) (n0 : Nat) (all : List Oper) (o : Oper) (r : List Oper) (i : Nat) (acc : Tch) (E : Env) (G : GEnv) (H : Heap) (K : Env → Heap → Prop) :
    xg P chk C T n0 all (o :: r) i acc E G H K = (match o.guard with
      | none => tchk chk all i (touch E o.op) acc fun acc' =>
          xopR C T E H (evalG T n0 E G [] H o.op) o.op fun v E2 H2 => xg P chk C T n0 all r (i + 1) acc' (setE E2 o.dst v) (dropG (keepG chk (evalG T n0 E G [] H o.op) G) o.dst) H2 K
      | some (j, w) => (match dstOf all j with
        | none => xg P chk C T n0 all r (i + 1) acc (setE E o.dst (.tup [])) (dropG G o.dst) H K
        | some d => (match condB E G 6 d w with
          | none => (match look E d with
            | .tup [] => xg P chk C T n0 all r (i + 1) acc (setE E o.dst (.tup [])) (dropG G o.dst) H K
            | _ => False)
          | some g => tchk chk all i (touch (envA G (asm G 6 d w) E) o.op) acc fun acc' =>
              xgo P g (evalG T n0 E G (asm G 6 d w) H o.op) d o.dst H (fun v => xg P chk C T n0 all r (i + 1) acc' (setE E o.dst .bad) (addG G d w v o.dst) H K)
                (xopR C T (envA G (asm G 6 d w) E) H (evalG T n0 E G (asm G 6 d w) H o.op) o.op fun v E2 H2 =>
                  xg P chk C T n0 all r (i + 1) acc' (setE E2 o.dst v) (dropG (keepG chk (evalG T n0 E G (asm G 6 d w) H o.op) G) o.dst) H2 K)
                (xg P chk C T n0 all r (i + 1) acc' (setE (skipE E G d w) o.dst (.tup [])) (dropG G o.dst) H K)))) := by
  show (match o.guard with
      | none => tchk chk all i (touch E o.op) acc fun acc' =>
          xopR C T E H (evalG T n0 E G [] H o.op) o.op fun v E2 H2 => setK E2 (keepG chk (evalG T n0 E G [] H o.op) G) o.dst v fun E3 G3 => xg P chk C T n0 all r (i + 1) acc' E3 G3 H2 K
      | some (j, w) => (match dstOf all j with
        | none => setK E G o.dst (.tup []) fun E3 G3 => xg P chk C T n0 all r (i + 1) acc E3 G3 H K
        | some d => (match condB E G 6 d w with
          | none => (match look E d with
            | .tup [] => setK E G o.dst (.tup []) fun E3 G3 => xg P chk C T n0 all r (i + 1) acc E3 G3 H K
            | _ => False)
          | some g => tchk chk all i (touch (envA G (asm G 6 d w) E) o.op) acc fun acc' =>
              xgo P g (evalG T n0 E G (asm G 6 d w) H o.op) d o.dst H (fun v => addK E G d w v o.dst fun E3 G3 => xg P chk C T n0 all r (i + 1) acc' E3 G3 H K)
                (xopR C T (envA G (asm G 6 d w) E) H (evalG T n0 E G (asm G 6 d w) H o.op) o.op fun v E2 H2 =>
                  setK E2 (keepG chk (evalG T n0 E G (asm G 6 d w) H o.op) G) o.dst v fun E3 G3 => xg P chk C T n0 all r (i + 1) acc' E3 G3 H2 K)
                (setK (skipE E G d w) G o.dst (.tup []) fun E3 G3 => xg P chk C T n0 all r (i + 1) acc' E3 G3 H K)))) = _
  simp only [setK_eq, addK_eq]

/-- What a step comes to. -/
def StepTo (P : Program) (chk : Bool) (C : Calling) (T : TTab) (n0 : Nat) (all : List Oper) (o : Oper) (r : List Oper) (i : Nat) (acc : Tch) (H : Heap) (K : Env → Heap → Prop) (L : Nat → V) : Prop :=
  (∃ E1 acc', Grd all L o true ∧ (∀ t, look E1 t = .bad ∨ look E1 t = L t) ∧ (∀ q ∈ acc, q ∈ acc') ∧ (chk = true → agree all i (touch E1 o.op) acc = true ∧ (i, touch E1 o.op) ∈ acc') ∧
     ((∃ f args E0 G2, evalP T n0 E1 H o.op = .call f args ∧ (∀ t, look E0 t = .bad ∨ look E0 t = L t) ∧ (chk = false → G2 = []) ∧
        C.call f args E0 H (fun v E2 H2 => xg P chk C T n0 all r (i + 1) acc' (setE E2 o.dst v) G2 H2 K) ∧ (∀ v, Agr (setE E0 o.dst v) G2 (updL L o.dst v)))
      ∨ (∃ E2 G2, (C.raw o.op E1 H fun v H2 => xg P chk C T n0 all r (i + 1) acc' (setE E2 o.dst v) G2 H2 K) ∧ (∀ v, Agr (setE E2 o.dst v) G2 (updL L o.dst v)))
      ∨ ∃ v eff E2 G2, SOp P T n0 E1 H o.op v eff ∧ xg P chk C T n0 all r (i + 1) acc' E2 G2 (eff.run H) K ∧ Agr E2 G2 (updL L o.dst v)))
  ∨ (∃ E2 G2 acc', Grd all L o false ∧ (∀ q ∈ acc, q ∈ acc') ∧ xg P chk C T n0 all r (i + 1) acc' E2 G2 H K ∧ Agr E2 G2 (updL L o.dst (.tup [])))

theorem tchk_spec {chk : Bool} {all : List Oper} {i : Nat} {ts : List (Nat × Bool)} {acc : Tch} {k : Tch → Prop} (h : tchk chk all i ts acc k) :
    ∃ acc', (∀ q ∈ acc, q ∈ acc') ∧ (chk = true → agree all i ts acc = true ∧ (i, ts) ∈ acc') ∧ k acc' := by
  unfold tchk at h
  cases chk with
  | false => exact ⟨acc, fun _ h => h, (fun h => by cases h), h⟩
  | true =>
    simp only at h
    split at h
    · rename_i ha; exact ⟨_, fun _ h => List.mem_cons_of_mem _ h, fun _ => ⟨ha, List.mem_cons_self⟩, h⟩
    · exact h.elim

/-- An operation that is carried out. -/
theorem run_step {P : Program} {chk : Bool} {C : Calling} {T : TTab} {n0 : Nat} {all : List Oper} {o : Oper} {r : List Oper} {i : Nat} {acc acc' : Tch} {E : Env} {G : GEnv} {H : Heap} {K : Env → Heap → Prop} {L : Nat → V} {A : List (Nat × Bool)}
    (ha : Agr E G L) (hA : ∀ q ∈ A, L q.1 = B1 q.2) (hg : Grd all L o true) (h1 : ∀ q ∈ acc, q ∈ acc') (h2 : chk = true → agree all i (touch (envA G A E) o.op) acc = true ∧ (i, touch (envA G A E) o.op) ∈ acc')
    (h : xopR C T (envA G A E) H (evalG T n0 E G A H o.op) o.op fun v E2 H2 => xg P chk C T n0 all r (i + 1) acc' (setE E2 o.dst v) (dropG (keepG chk (evalG T n0 E G A H o.op) G) o.dst) H2 K) :
    StepTo P chk C T n0 all o r i acc H K L := by
  left
  rcases xopG_spec (P := P) ha hA h with ⟨f, args, h3, h4, h5⟩ | h3 | ⟨E1, v, eff, h3, h4, h5, h6⟩
  · refine ⟨envA G A E, acc', hg, envA_spec ha hA, h1, h2, .inl ⟨f, args, envA G A E, _, h3, envA_spec ha hA, fun hc => ?_, h5, fun v => (ha.keep chk _).upd (envA_spec ha hA) _ _⟩⟩
    subst hc
    rw [h4]
    cases o.dst <;> rfl
  · exact ⟨envA G A E, acc', hg, envA_spec ha hA, h1, h2, .inr (.inl ⟨envA G A E, _, h3, fun v => (ha.keep chk _).upd (envA_spec ha hA) _ _⟩)⟩
  · exact ⟨E1, acc', hg, h3, h1, by rw [h4]; exact h2, .inr (.inr ⟨v, eff, _, _, h5, h6, (ha.keep chk _).upd (envA_spec ha hA) _ _⟩)⟩

theorem xg_step {P : Program} {chk : Bool} {C : Calling} {T : TTab} {n0 : Nat} {all : List Oper} {o : Oper} {r : List Oper} {i : Nat} {acc : Tch} {E : Env} {G : GEnv} {H : Heap} {K : Env → Heap → Prop} {L : Nat → V}
    (h : xg P chk C T n0 all (o :: r) i acc E G H K) (ha : Agr E G L) : StepTo P chk C T n0 all o r i acc H K L := by
  rw [xg_cons] at h
  have hnone : ∀ q ∈ ([] : List (Nat × Bool)), L q.1 = B1 q.2 := fun q hq => by cases hq
  cases hg : o.guard with
  | none =>
    rw [hg] at h
    obtain ⟨acc', h1, h2, h3⟩ := tchk_spec h
    exact run_step (A := []) ha hnone (by unfold Grd; rw [hg]) h1 (by rw [envA_nil]; exact h2) (by rw [envA_nil]; exact h3)
  | some gd =>
    obtain ⟨j, w⟩ := gd
    rw [hg] at h
    simp only at h
    have hskip : ∀ E2 : Env, (∀ t, look E2 t = .bad ∨ look E2 t = L t) → Grd all L o false → xg P chk C T n0 all r (i + 1) acc (setE E2 o.dst (.tup [])) (dropG G o.dst) H K → StepTo P chk C T n0 all o r i acc H K L :=
      fun E2 h0 hgd h => .inr ⟨_, _, acc, hgd, fun _ h => h, h, ha.upd h0 _ _⟩
    cases hd : dstOf all j with
    | none => rw [hd] at h; exact hskip E ha.e (by unfold Grd; rw [hg]; simp only [hd]) h
    | some d =>
      rw [hd] at h
      simp only at h
      cases hc : condB E G 6 d w with
      | none =>
        rw [hc] at h
        simp only at h
        split at h
        · rename_i hb
          refine hskip E ha.e ?_ h
          unfold Grd; rw [hg]; simp only [hd]
          refine .inr ⟨?_, trivial⟩
          rcases ha.e d with h' | h'
          · rw [hb] at h'; cases h'
          · rw [← h', hb]
        · exact h.elim
      | some g =>
        rw [hc] at h
        simp only at h
        obtain ⟨acc', h1, h2, h3⟩ := tchk_spec h
        have hcb := condB_spec ha _ _ _ _ hc
        have hrun : g = true → Grd all L o true ∧ (∀ q ∈ asm G 6 d w, L q.1 = B1 q.2) ∧ L d = B1 w := fun hgt => by
          rcases hcb with ⟨_, hL⟩ | ⟨hf, _⟩
          · refine ⟨?_, asm_spec ha 6 d w hL, hL⟩
            unfold Grd; rw [hg]; simp only [hd]
            exact .inl ⟨w, hL, by simp⟩
          · rw [hgt] at hf; cases hf
        have hno : g = false → Grd all L o false ∧ L d ≠ B1 w := fun hgf => by
          rcases hcb with ⟨ht, _⟩ | ⟨_, hL⟩
          · rw [hgf] at ht; cases ht
          · constructor
            · unfold Grd; rw [hg]; simp only [hd]
              rcases hL with hL | hL
              · exact .inl ⟨!w, hL, by cases w <;> rfl⟩
              · exact .inr ⟨hL, trivial⟩
            · rcases hL with hL | hL
              · rw [hL]; intro e; have := B1_inj e; cases w <;> cases this
              · rw [hL]; intro e; cases e
        have hskip2 : g = false → xg P chk C T n0 all r (i + 1) acc' (setE (skipE E G d w) o.dst (.tup [])) (dropG G o.dst) H K → StepTo P chk C T n0 all o r i acc H K L := fun hgf hx => by
          subst hgf
          exact .inr ⟨_, _, acc', (hno rfl).1, h1, hx, ha.upd (skipE_spec ha hc) _ _⟩
        have hrun2 : g = true → _ → StepTo P chk C T n0 all o r i acc H K L := fun hgt hx => run_step (A := asm G 6 d w) ha (hrun hgt).2.1 (hrun hgt).1 h1 h2 hx
        -- with its answer
        have hsym : dstIs o.dst d = false → ∀ v : V, (g = true → ∃ E1, (∀ t, look E1 t = .bad ∨ look E1 t = L t) ∧ touch E1 o.op = touch (envA G (asm G 6 d w) E) o.op ∧ SOp P T n0 E1 H o.op v .none) →
            xg P chk C T n0 all r (i + 1) acc' (setE E o.dst .bad) (addG G d w v o.dst) H K → StepTo P chk C T n0 all o r i acc H K L := fun hdd v hs hx => by
          cases hgv : g with
          | true =>
            obtain ⟨E1, h4, h5, h6⟩ := hs hgv
            exact .inl ⟨E1, acc', (hrun hgv).1, h4, h1, by rw [h5]; exact h2, .inr (.inr ⟨v, .none, _, _, h6, hx, ha.add hdd (.inl ⟨(hrun hgv).2.2, rfl⟩)⟩)⟩
          | false => exact .inr ⟨_, _, acc', (hno hgv).1, h1, hx, ha.add hdd (.inr ⟨(hno hgv).2, rfl⟩)⟩
        have hbs : bsel g _ _ → StepTo P chk C T n0 all o r i acc H K L := fun hb => by
          cases hgv : g with
          | true => rw [hgv] at hb; exact hrun2 hgv hb
          | false => rw [hgv] at hb; exact hskip2 hgv hb
        unfold xgo at h3
        cases hdd : dstIs o.dst d with
        | true => rw [hdd] at h3; exact hbs h3
        | false =>
          rw [hdd] at h3
          have hval : ∀ {u : V} {r' : PR}, evalG T n0 E G (asm G 6 d w) H o.op = r' → (∀ E1, evalP T n0 E1 H o.op = r' → SOp P T n0 E1 H o.op u .none) → (∀ b x1 y1, r' = .val (if b = true then x1 else y1) → u = if b = true then x1 else y1) → (∀ b x y, r' ≠ .pick b x y) → r' ≠ .no →
              g = true → ∃ E1, (∀ t, look E1 t = .bad ∨ look E1 t = L t) ∧ touch E1 o.op = touch (envA G (asm G 6 d w) E) o.op ∧ SOp P T n0 E1 H o.op u .none := fun {u r'} he hso hpk hnp hnn hgt => by
            rcases evalG_spec (T := T) (n0 := n0) (H := H) ha (hrun hgt).2.1 o.op with h4 | ⟨E1, b, x1, y1, c, x, y, hop, hE1, h4, hr⟩ | ⟨h4, _⟩
            · exact ⟨_, envA_spec ha (hrun hgt).2.1, rfl, hso _ (h4.trans he)⟩
            · refine ⟨E1, hE1, by rw [hop]; rfl, ?_⟩
              rcases hr with hr | ⟨x', y', hr, _⟩
              · rw [hpk b x1 y1 (he.symm.trans hr)]
                exact .pick h4
              · exact absurd (he.symm.trans hr) (hnp _ _ _)
            · exact absurd (he.symm.trans h4) hnn
          cases he : evalG T n0 E G (asm G 6 d w) H o.op with
          | val v =>
            rw [he] at h3
            exact hsym hdd v (hval he (fun _ h => .val h) (fun b x1 y1 h => by injection h) (fun _ _ _ h => by cases h) (fun h => by cases h)) h3
          | side p v =>
            rw [he] at h3
            exact hsym hdd v (fun hgt => hval he (fun _ h => .side h (h3.1 hgt)) (fun b x1 y1 h => by cases h) (fun _ _ _ h => by cases h) (fun h => by cases h) hgt) h3.2
          | pick b x y => rw [he] at h3 hrun2 hbs; exact hbs h3
          | idx es q =>
            rw [he] at h3
            obtain ⟨e, h4, h5⟩ := h3.h
            exact hsym hdd _ (fun hgt => hval he (fun _ h => .idx h (h4 hgt).1 (h4 hgt).2) (fun b x1 y1 h => by cases h) (fun _ _ _ h => by cases h) (fun h => by cases h) hgt) h5
          | str st q =>
            rw [he] at h3
            obtain ⟨b, h4, h5⟩ := h3.h
            exact hsym hdd _ (fun hgt => by
              obtain ⟨h6, h7, rfl⟩ := h4 hgt
              exact hval he (fun _ h => .str h h6 h7) (fun b x1 y1 h => by cases h) (fun _ _ _ h => by cases h) (fun h => by cases h) hgt) h5
          | ex p =>
            rw [he] at h3
            obtain ⟨v, h4, h5⟩ := h3.h
            exact hsym hdd v (fun hgt => hval he (fun _ h => .ex h (h4 hgt)) (fun b x1 y1 h => by cases h) (fun _ _ _ h => by cases h) (fun h => by cases h) hgt) h5
          | new xs => rw [he] at h3 hrun2 hbs; exact hbs h3
          | call f args =>
            rw [he] at h3 hrun2 hbs
            have h3' : fcL args (fun args => GCall P g f args H _ _ _) := h3
            rw [fcL_eq] at h3'
            cases h3' with
            | sym v hv hk => exact hsym hdd v (fun hgt => hval he (fun _ h => .call h (hv hgt)) (fun b x1 y1 h => by cases h) (fun _ _ _ h => by cases h) (fun h => by cases h) hgt) hk
            | split h4 h5 =>
              cases hgv : g with
              | true => exact hrun2 hgv (h4 hgv)
              | false => exact hskip2 hgv (h5 hgv)
          | no => rw [he] at h3 hrun2 hbs; exact hbs h3

/-- The slots that an operation looks at. -/
noncomputable def namesOf (all : List Oper) (o : Oper) : List Nat :=
  List.append (List.rec (motive := fun _ => List Nat) [] (fun x _ ih => match x with | .tmp t => t :: ih | _ => ih) o.op.operands.toList)
    (match o.guard with | some (j, _) => (match dstOf all j with | some d => [d] | none => []) | none => [])

theorem names_operand {all : List Oper} {o : Oper} {t : Nat} (h : .tmp t ∈ o.op.operands.toList) : t ∈ namesOf all o := by
  refine List.mem_append_left _ ?_
  generalize o.op.operands.toList = l at h
  induction l with
  | nil => cases h
  | cons y ys ih =>
    rcases List.mem_cons.1 h with rfl | h
    · exact List.mem_cons_self
    · have := ih h
      cases y <;> first | exact List.mem_cons_of_mem _ this | exact this

theorem names_guard {all : List Oper} {o : Oper} {j : Nat} {want : Bool} {d : Nat} (hg : o.guard = some (j, want)) (hd : dstOf all j = some d) : d ∈ namesOf all o := by
  refine List.mem_append_right _ ?_
  rw [hg]; simp only [hd]; simp


section
variable {Γ : Ctx} {nt : Nat} {w : World} {μ : List Plc} {a : Act}

theorem grd_wanted {all : Array Oper} {L : Nat → V} {o : Oper} {b : Bool} (h : Grd all.toList L o b) (hr : ∀ t ∈ namesOf all.toList o, Rep Γ w μ (L t) (a.tmps.getD t undef)) : Region.wanted o (yielded all a.tmps) = b := by
  unfold Grd at h
  cases hg : o.guard with
  | none => rw [hg] at h; simp only at h; subst h; simp [Region.wanted, hg]
  | some g =>
    obtain ⟨j, want⟩ := g
    rw [hg] at h
    simp only at h
    cases hdj : dstOf all.toList j with
    | none => rw [hdj] at h; simp only at h; subst h; simp [Region.wanted, hg, yielded_none hdj]
    | some d =>
      rw [hdj] at h
      simp only at h
      have hd := hr d (names_guard hg hdj)
      rcases h with ⟨c, hc, rfl⟩ | ⟨hc, rfl⟩
      · rw [hc] at hd
        have hy := yielded_some hdj (rep_sc hd)
        cases c <;> cases want <;> simp [Region.wanted, hg, hy]
      · rw [hc] at hd
        simp [Region.wanted, hg, yielded_undef hdj (rep_tup0 hd)]

/-! ### The text's order -/
def LOk (Γ : Ctx) (w : World) (μ : List Plc) (L : Nat → V) (tmps : Array Value) : Prop := ∀ t, Rep Γ w μ (L t) (tmps.getD t undef)

theorem LOk.env {L : Nat → V} {tmps : Array Value} {E : Env} (h : LOk Γ w μ L tmps) (he : ∀ t, look E t = .bad ∨ look E t = L t) : EnvOk Γ w μ E tmps := fun t => by
  rcases he t with h1 | h1
  · rw [h1]; exact .bad _
  · rw [h1]; exact h t

theorem LOk.put {L : Nat → V} {o : Oper} {v : V} {cv : Value} (h : LOk Γ w μ L a.tmps) (hd : operOK a.tmps.size o = true) (hr : Rep Γ w μ v cv) : LOk Γ w μ (updL L o.dst v) (a.put o.dst cv).tmps := by
  cases hdst : o.dst with
  | none => exact h
  | some d =>
    intro t
    simp only [operOK, hdst, Bool.and_eq_true, Nat.blt_eq] at hd
    simp only [updL, Act.put]
    by_cases hdt : d = t
    · subst hdt
      have : (a.tmps.setIfInBounds d cv).getD d undef = cv := by simp [Array.getD_eq_getD_getElem?, hd.1]
      rw [this, if_pos rfl]; exact hr
    · have : (a.tmps.setIfInBounds d cv).getD t undef = a.tmps.getD t undef := by simp [Array.getD_eq_getD_getElem?, hdt]
      rw [this, if_neg hdt]; exact h t

theorem LOk.pres {L : Nat → V} {tmps : Array Value} {w' : World} {μ' : List Plc} (h : LOk Γ w μ L tmps) (hp : Pres Γ w μ w' μ') : LOk Γ w' μ' L tmps := fun t => hp.rep (h t)

/-- A region in its text's order. -/
theorem xg_sound {T : TTab} (hT : TOk Γ.P T) {C : Calling} (hC : CallsOk Γ C) {n0 : Nat} {all : Array Oper} {Q : Exit → Act → World → Prop} {K : Env → Heap → Prop} :
    ∀ (r : List Oper) (i : Nat) (acc : Tch) (E : Env) (G : GEnv) (H : Heap) (L : Nat → V) (a : Act) (w : World) (μ : List Plc), all.toList.drop i = r → (∀ o ∈ r, operOK nt o = true) → xg Γ.P false C T n0 all.toList r i acc E G H K →
      Agr E G L → Mem Γ H w μ → a.tmps.size = nt → LOk Γ w μ L a.tmps → a.defers = [] →
      (∀ E' H' a' w' μ', K E' H' → Ok Γ nt E' H' a' w' μ' → Q .normal a' w') → wpOps Γ.P all Q (List.range' i r.length) a w
  | [], i, acc, E, G, H, L, a, w, μ, _, _, h, ha, hm, hs, hL, hdf, hq => hq E H a w μ h ⟨hm, hs, hL.env ha.e, hdf⟩
  | o :: r, i, acc, E, G, H, L, a, w, μ, hd, hall, h, ha, hm, hs, hL, hdf, hq => by
    have ho : all[i]? = some o := by
      have : all.toList[i]? = some o := by rw [← List.head?_drop, hd]; rfl
      simpa using this
    have hd' : all.toList.drop (i + 1) = r := by have := congrArg List.tail hd; rw [List.tail_drop] at this; exact this
    have hall' : ∀ o ∈ r, operOK nt o = true := fun o h => hall o (by simp [h])
    have hoo := hall o (by simp)
    have hcs : ∀ x ∈ o.op.operands.toList, constB x = true := by
      simp only [operOK, Bool.and_eq_true, List.all_eq_true] at hoo
      exact hoo.2
    have hoo' : operOK a.tmps.size o = true := by rw [hs]; exact hoo
    rcases xg_step h ha with ⟨E1, acc', hg, hE1, _, _, hk⟩ | ⟨E2, G2, acc', hg, _, hk, ha2⟩
    · have hw := grd_wanted hg (fun t _ => hL t)
      have hop : ∀ x ∈ o.op.operands.toList, Rep Γ w μ (opd E1 x) (a.eval x) := fun x hx => rep_operand (hL.env hE1) (hcs x hx)
      simp only [List.length_cons, List.range'_succ, wpOps, ho, hw, if_true]
      refine .inl ?_
      rcases hk with ⟨f, args, E0, G2, he, hE0, hG2, hc, _⟩ | ⟨E2, G2, hraw, ha2⟩ | ⟨v, eff, E2, G2, hso, hk, ha2⟩
      · refine call_goes hT hC he hc hm (hL.env hE0) hop _ _ fun v E2 H2 w' μ' cv hk hm' hE2 hr => ?_
        have hL2 : LOk Γ w' μ' (look E2) a.tmps := hE2
        rw [hG2 rfl] at hk
        exact xg_sound hT hC r (i + 1) _ _ _ H2 _ _ w' μ' hd' hall' hk ((⟨fun t => .inr rfl, fun p hp => by cases hp⟩ : Agr E2 [] (look E2)).upd (fun _ => .inr rfl) o.dst v |> fun h => by
          have e : dropG [] o.dst = [] := by cases o.dst <;> rfl
          rw [e] at h; exact h) hm' (by rw [put_size]; exact hs) (hL2.put hoo' hr) (by rw [put_defers]; exact hdf) hq
      · refine (hC.2 _ _ _ _ hraw).go Γ w μ a o _ _ rfl rfl hm hop fun w' μ' cv v H2 hk hm' hp hr => ?_
        exact xg_sound hT hC r (i + 1) _ _ G2 _ _ _ w' μ' hd' hall' hk (ha2 v) hm' (by rw [put_size]; exact hs) ((hL.pres hp).put hoo' hr) (by rw [put_defers]; exact hdf) hq
      · refine hso.goes hT hm hop _ _ fun w' μ' cv hm' hp hr => ?_
        exact xg_sound hT hC r (i + 1) _ E2 G2 _ _ _ w' μ' hd' hall' hk ha2 hm' (by rw [put_size]; exact hs) ((hL.pres hp).put hoo' hr) (by rw [put_defers]; exact hdf) hq
    · have hw := grd_wanted hg (fun t _ => hL t)
      simp only [List.length_cons, List.range'_succ, wpOps, ho, hw, Bool.false_eq_true, if_false]
      exact xg_sound hT hC r (i + 1) _ E2 G2 H _ _ w μ hd' hall' hk ha2 hm (by rw [put_size]; exact hs) (hL.put hoo' undef_rep) (by rw [put_defers]; exact hdf) hq

end

end Go.AW

/- AW, part 13B: a region whose order is drawn. -/
namespace Go.AW
open Go Go.RowKit

/-! ### What comes before what -/
theorem bindsB_eq (e : Edge) : bindsB e = Region.binds .any e := by
  unfold bindsB Region.binds
  cases e.ground <;> rfl

noncomputable def maskOf (m : List Nat) (l : List Edge) : Nat := List.rec (motive := fun _ => Nat) 0 (fun e _ r => match bindsB e with
  | true => Nat.lor (Nat.lor r (Nat.pow 2 e.on)) (match nth m e.on with | some x => x | none => 0)
  | false => r) l

noncomputable def mgo (ops : List Oper) : List Nat → List Nat :=
  List.rec (motive := fun _ => List Nat → List Nat) (fun m => m) (fun o _ ih m => ih (List.append m [maskOf m o.after.toList])) ops

theorem masks_eq (ops : List Oper) : masks ops = mgo ops [] := rfl

theorem maskOf_bit {m : List Nat} {l : List Edge} {j : Nat} (h : (maskOf m l).testBit j = true) : ∃ e ∈ l, bindsB e = true ∧ (e.on = j ∨ ∃ x, m[e.on]? = some x ∧ x.testBit j = true) := by
  induction l with
  | nil => simp [maskOf] at h
  | cons e l ih =>
    have h' : (match bindsB e with
      | true => Nat.lor (Nat.lor (maskOf m l) (Nat.pow 2 e.on)) (match nth m e.on with | some x => x | none => 0)
      | false => maskOf m l).testBit j = true := h
    cases hb : bindsB e with
    | false =>
      rw [hb] at h'
      obtain ⟨e', he', r⟩ := ih h'
      exact ⟨e', List.mem_cons_of_mem _ he', r⟩
    | true =>
      rw [hb] at h'
      have h2 : ((maskOf m l ||| 2 ^ e.on) ||| (match nth m e.on with | some x => x | none => 0)).testBit j = true := h'
      rw [Nat.testBit_or, Nat.testBit_or, Bool.or_eq_true, Bool.or_eq_true] at h2
      rcases h2 with (h2 | h2) | h2
      · obtain ⟨e', he', r⟩ := ih h2
        exact ⟨e', List.mem_cons_of_mem _ he', r⟩
      · rw [Nat.testBit_two_pow] at h2
        exact ⟨e, List.mem_cons_self, hb, .inl (of_decide_eq_true h2)⟩
      · refine ⟨e, List.mem_cons_self, hb, .inr ?_⟩
        rw [nth_eq] at h2
        cases hm : m[e.on]? with
        | none => rw [hm] at h2; simp at h2
        | some x => rw [hm] at h2; exact ⟨x, rfl, h2⟩

def MOk (all : List Oper) (m : List Nat) : Prop := ∀ i x, m[i]? = some x → ∀ j, x.testBit j = true →
  ∃ o e, all[i]? = some o ∧ e ∈ o.after.toList ∧ bindsB e = true ∧ (e.on = j ∨ ∃ y, m[e.on]? = some y ∧ e.on < i ∧ y.testBit j = true)

theorem mgo_ok (all : List Oper) : ∀ (r : List Oper) (m : List Nat), MOk all m → all.drop m.length = r → MOk all (mgo r m)
  | [], m, h, _ => h
  | o :: r, m, h, hd => by
    have ho : all[m.length]? = some o := by rw [← List.head?_drop, hd]; rfl
    have hd' : all.drop (m.length + 1) = r := by have := congrArg List.tail hd; rw [List.tail_drop] at this; exact this
    refine mgo_ok all r (m ++ [maskOf m o.after.toList]) ?_ (by simpa using hd')
    intro i x hx j hj
    by_cases hi : i < m.length
    · rw [List.getElem?_append_left hi] at hx
      obtain ⟨o', e, h1, h2, h3, h4⟩ := h i x hx j hj
      refine ⟨o', e, h1, h2, h3, h4.imp id ?_⟩
      rintro ⟨y, h5, h6⟩
      exact ⟨y, by rw [List.getElem?_append_left (List.getElem?_eq_some_iff.1 h5).1]; exact h5, h6⟩
    · rw [List.getElem?_append_right (by omega)] at hx
      have hi0 : i - m.length = 0 := by
        by_cases h0 : i - m.length = 0
        · exact h0
        · rw [List.getElem?_eq_none (by simp; omega)] at hx; cases hx
      rw [hi0] at hx
      simp only [List.length_cons, List.getElem?_cons_zero, Option.some.injEq] at hx
      subst hx
      have hie : i = m.length := by omega
      obtain ⟨e, h1, h2, h3⟩ := maskOf_bit hj
      refine ⟨o, e, by rw [hie]; exact ho, h1, h2, h3.imp id ?_⟩
      rintro ⟨y, h5, h6⟩
      have hlt := (List.getElem?_eq_some_iff.1 h5).1
      exact ⟨y, by rw [List.getElem?_append_left hlt]; exact h5, by omega, h6⟩

theorem masks_ok (all : List Oper) : MOk all (masks all) := by
  rw [masks_eq]
  exact mgo_ok all all [] (by intro i x h; simp at h) (by simp)

theorem before_mask {all : List Oper} {j i : Nat} (h : beforeM all j i = true) : ∃ x, (masks all)[i]? = some x ∧ x.testBit j = true := by
  unfold beforeM at h
  rw [nth_eq] at h
  cases hm : (masks all)[i]? with
  | none => rw [hm] at h; cases h
  | some x =>
    rw [hm] at h
    refine ⟨x, rfl, ?_⟩
    simp only at h
    have h' : (match Nat.beq ((x >>> j) &&& 1) 0 with | true => false | false => true) = true := h
    rw [Nat.testBit_eq_decide_div_mod_eq, decide_eq_true_eq]
    cases hb : Nat.beq ((x >>> j) &&& 1) 0 with
    | true => rw [hb] at h'; cases h'
    | false =>
      have := Nat.ne_of_beq_eq_false hb
      rw [Nat.and_one_is_mod, Nat.shiftRight_eq_div_pow] at this
      omega

theorem before_closed {all : List Oper} {S : Nat → Prop} (hS : ∀ i o e, S i → all[i]? = some o → e ∈ o.after.toList → bindsB e = true → S e.on) :
    ∀ (i : Nat) (x j : Nat), (masks all)[i]? = some x → x.testBit j = true → (∀ o e, all[i]? = some o → e ∈ o.after.toList → bindsB e = true → S e.on) → S j := by
  intro i
  induction i using Nat.strongRecOn with
  | _ i ih =>
    intro x j hx hj hi
    obtain ⟨o, e, h1, h2, h3, h4⟩ := masks_ok all i x hx j hj
    have hon := hi o e h1 h2 h3
    rcases h4 with rfl | ⟨y, h5, h6, h7⟩
    · exact hon
    · exact ih e.on h6 y j h5 h7 (fun o' e' g1 g2 g3 => hS e.on o' e' hon g1 g2 g3)

theorem edgeB_spec {l : List Edge} {j : Nat} (h : edgeB l j = true) : ∃ e ∈ l, bindsB e = true ∧ e.on = j := by
  induction l with
  | nil => cases h
  | cons e l ih =>
    have h' : (match Nat.beq e.on j with | true => (match bindsB e with | true => true | false => edgeB l j) | false => edgeB l j) = true := h
    cases h1 : Nat.beq e.on j with
    | false => rw [h1] at h'; obtain ⟨e', h2, h3⟩ := ih h'; exact ⟨e', List.mem_cons_of_mem _ h2, h3⟩
    | true =>
      rw [h1] at h'
      cases h4 : bindsB e with
      | true => exact ⟨e, List.mem_cons_self, h4, Nat.eq_of_beq_eq_true h1⟩
      | false => rw [h4] at h'; obtain ⟨e', h2, h3⟩ := ih h'; exact ⟨e', List.mem_cons_of_mem _ h2, h3⟩

theorem before_in {all : List Oper} {j i : Nat} (h : before all j i = true) {S : Nat → Prop} (hS : ∀ i o e, S i → all[i]? = some o → e ∈ o.after.toList → bindsB e = true → S e.on)
    (hi : ∀ o e, all[i]? = some o → e ∈ o.after.toList → bindsB e = true → S e.on) : S j := by
  unfold before at h
  rw [nth_eq] at h
  cases ho : all[i]? with
  | none => rw [ho] at h; cases h
  | some o =>
    rw [ho] at h
    have h' : (match edgeB o.after.toList j with | true => true | false => beforeM all j i) = true := h
    cases he : edgeB o.after.toList j with
    | true => obtain ⟨e, h1, h2, rfl⟩ := edgeB_spec he; exact hi o e ho h1 h2
    | false =>
      rw [he] at h'
      obtain ⟨x, h1, h2⟩ := before_mask h'
      exact before_closed hS i x j h1 h2 hi

/-! ### Odds -/
theorem odds1_of {p q : Nat × Bool} {m : List (Nat × Bool)} (hq : q ∈ m) (he : p.1 = q.1) (hw : p.2 = true ∨ q.2 = true) : odds1 p m = true := by
  induction m with
  | nil => cases hq
  | cons r m ih =>
    show (match Nat.beq p.1 r.1 with | true => (match p.2, r.2 with | false, false => odds1 p m | _, _ => true) | false => odds1 p m) = true
    rcases List.mem_cons.1 hq with rfl | hq
    · rw [he, Nat.beq_refl]
      rcases hw with h | h
      · rw [h]
      · rw [h]; cases p.2 <;> rfl
    · cases Nat.beq p.1 r.1 with
      | false => exact ih hq
      | true =>
        cases p.2 <;> cases r.2 <;> first | rfl | exact ih hq

theorem odds_of {l m : List (Nat × Bool)} {p q : Nat × Bool} (hp : p ∈ l) (hq : q ∈ m) (he : p.1 = q.1) (hw : p.2 = true ∨ q.2 = true) : odds l m = true := by
  induction l with
  | nil => cases hp
  | cons r l ih =>
    show (match odds1 r m with | true => true | false => odds l m) = true
    cases h : odds1 r m with
    | true => rfl
    | false =>
      rcases List.mem_cons.1 hp with rfl | hp
      · rw [odds1_of hq he hw] at h; cases h
      · exact ih hp

theorem odds1_nil (p : Nat × Bool) : odds1 p [] = false := rfl
theorem odds_nil (l : List (Nat × Bool)) : odds l [] = false := by
  induction l with
  | nil => rfl
  | cons r l ih => exact ih

theorem agree_spec {all : List Oper} {i : Nat} {ts : List (Nat × Bool)} {acc : Tch} (h : agree all i ts acc = true) : ∀ q ∈ acc, odds ts q.2 = true → before all q.1 i = true := by
  induction acc with
  | nil => intro q hq; cases hq
  | cons r acc ih =>
    have h' : (match odds ts r.2 with | true => (match before all r.1 i with | true => agree all i ts acc | false => false) | false => agree all i ts acc) = true := h
    intro q hq ho
    cases h1 : odds ts r.2 with
    | true =>
      rw [h1] at h'
      cases h2 : before all r.1 i with
      | false => rw [h2] at h'; cases h'
      | true =>
        rw [h2] at h'
        rcases List.mem_cons.1 hq with rfl | hq
        · exact h2
        · exact ih h' q hq ho
    | false =>
      rw [h1] at h'
      rcases List.mem_cons.1 hq with rfl | hq
      · rw [h1] at ho; cases ho
      · exact ih h' q hq ho

/-! ### What was written last -/
def lastW {α : Type} (wr : Nat → Option α) (S : Nat → Bool) (init : α) : Nat → α
  | 0 => init
  | n + 1 => if S n then (wr n).getD (lastW wr S init n) else lastW wr S init n

theorem lastW_congr {α : Type} {wr : Nat → Option α} {S S' : Nat → Bool} {init : α} : ∀ {n : Nat}, (∀ j, j < n → wr j ≠ none → S j = S' j) → lastW wr S init n = lastW wr S' init n
  | 0, _ => rfl
  | n + 1, h => by
    have ih := lastW_congr (n := n) (init := init) fun j hj => h j (by omega)
    simp only [lastW, ih]
    cases hw : wr n with
    | none => simp
    | some x => rw [h n (by omega) (by rw [hw]; simp)]

theorem lastW_cut {α : Type} {wr : Nat → Option α} {init : α} {i : Nat} : ∀ {n : Nat}, i ≤ n → lastW wr (fun j => decide (j < i)) init n = lastW wr (fun _ => true) init i
  | 0, h => by obtain rfl : i = 0 := by omega
               rfl
  | n + 1, h => by
    by_cases hi : i = n + 1
    · subst hi
      exact lastW_congr fun j hj _ => by simpa using hj
    · have ih := lastW_cut (wr := wr) (init := init) (i := i) (n := n) (by omega)
      simp only [lastW]
      rw [if_neg (by simp; omega)]
      exact ih

/-- What is there when an operation's turn has come is what was there in the text's order. -/
theorem lastW_turn {α : Type} {wr : Nat → Option α} {S : Nat → Bool} {init : α} {n i : Nat} (hi : i ≤ n) (h : ∀ j, j < n → wr j ≠ none → (S j = true ↔ j < i)) : lastW wr S init n = lastW wr (fun _ => true) init i := by
  rw [← lastW_cut hi]
  refine lastW_congr fun j hj hw => ?_
  have := h j hj hw
  by_cases hji : j < i
  · rw [this.2 hji]; simp [hji]
  · have : S j = false := by
      cases hs : S j with
      | false => rfl
      | true => exact absurd (this.1 hs) hji
    rw [this]; simp [hji]

theorem lastW_add {α : Type} {wr : Nat → Option α} {S S' : Nat → Bool} {init : α} {i : Nat} (hS : ∀ j, S' j = (S j || decide (j = i))) : ∀ {n : Nat}, i < n → (wr i ≠ none → ∀ j, j < n → S j = true → wr j ≠ none → j < i) → S i = false →
    lastW wr S' init n = (wr i).getD (lastW wr S init n)
  | 0, h, _, _ => by omega
  | n + 1, h, hw, h0 => by
    by_cases hi : i = n
    · subst hi
      have e : lastW wr S' init i = lastW wr S init i := by
        refine lastW_congr fun j hj _ => ?_
        have : j ≠ i := by omega
        rw [hS]; simp [this]
      simp only [lastW, hS, h0, e]
      simp
    · have ih := lastW_add hS (n := n) (init := init) (by omega) (fun hi j hj => hw hi j (by omega)) h0
      simp only [lastW]
      rw [ih, hS]
      have hne : n ≠ i := Ne.symm hi
      simp only [hne, decide_false, Bool.or_false]
      cases hs : S n with
      | false => simp
      | true =>
        simp only [if_true]
        cases hwi : wr i with
        | none => simp
        | some x =>
          have : wr n = none := by
            cases hwn : wr n with
            | none => rfl
            | some y => exact absurd (hw (by rw [hwi]; simp) n (by omega) hs (by rw [hwn]; simp)) (by omega)
          rw [this]; simp

/-! ### The text's order, told -/
structure Trace (P : Program) (T : TTab) (n0 : Nat) (all r : List Oper) (base : Nat) (acc : Tch) (L : Nat → V) (H : Heap) (K : Env → Heap → Prop)
    (Ls : Nat → Nat → V) (Es : Nat → Env) (Hs : Nat → Heap) (v : Nat → V) (eff : Nat → Eff) (ts : Nat → List (Nat × Bool)) (run : Nat → Bool) : Prop where
  l0 : Ls 0 = L
  h0 : Hs 0 = H
  step : ∀ p o, r[p]? = some o → Ls (p + 1) = updL (Ls p) o.dst (v p) ∧ Hs (p + 1) = (eff p).run (Hs p) ∧ Grd all (Ls p) o (run p) ∧ (∀ t, look (Es p) t = .bad ∨ look (Es p) t = Ls p t) ∧
    ((run p = true ∧ SOp P T n0 (Es p) (Hs p) o.op (v p) (eff p) ∧ ts p = touch (Es p) o.op) ∨ (run p = false ∧ v p = .tup [] ∧ eff p = .none ∧ ts p = []))
  agr0 : ∀ p, p < r.length → ∀ q ∈ acc, odds (ts p) q.2 = true → before all q.1 (base + p) = true
  agr : ∀ p, p < r.length → ∀ q, q < p → odds (ts p) (ts q) = true → before all (base + q) (base + p) = true
  fin : ∃ E', (∀ t, look E' t = .bad ∨ look E' t = Ls r.length t) ∧ K E' (Hs r.length)

def cons0 {α : Type} (x : α) (f : Nat → α) : Nat → α
  | 0 => x
  | n + 1 => f n

theorem Trace.cons {P : Program} {T : TTab} {n0 : Nat} {all r : List Oper} {o : Oper} {base : Nat} {acc acc' : Tch} {E0 : Env} {L L1 : Nat → V} {H H1 : Heap} {K : Env → Heap → Prop}
    {Ls : Nat → Nat → V} {Es : Nat → Env} {Hs : Nat → Heap} {v : Nat → V} {eff : Nat → Eff} {ts : Nat → List (Nat × Bool)} {run : Nat → Bool} {v0 : V} {eff0 : Eff} {ts0 : List (Nat × Bool)} {run0 : Bool}
    (ht : Trace P T n0 all r (base + 1) acc' L1 H1 K Ls Es Hs v eff ts run) (h0 : ∀ t, look E0 t = .bad ∨ look E0 t = L t) (h1 : L1 = updL L o.dst v0) (h2 : H1 = eff0.run H) (hg : Grd all L o run0)
    (hs : (run0 = true ∧ SOp P T n0 E0 H o.op v0 eff0 ∧ ts0 = touch E0 o.op) ∨ (run0 = false ∧ v0 = .tup [] ∧ eff0 = .none ∧ ts0 = []))
    (ha : ∀ q ∈ acc, odds ts0 q.2 = true → before all q.1 base = true) (hacc : ∀ q ∈ acc, q ∈ acc') (hacc0 : ts0 = [] ∨ (base, ts0) ∈ acc') :
    Trace P T n0 all (o :: r) base acc L H K (cons0 L Ls) (cons0 E0 Es) (cons0 H Hs) (cons0 v0 v) (cons0 eff0 eff) (cons0 ts0 ts) (cons0 run0 run) := by
  refine ⟨rfl, rfl, fun p o' hp => ?_, fun p hp q hq ho => ?_, fun p hp q hq ho => ?_, ht.fin⟩
  · cases p with
    | zero =>
      simp only [List.getElem?_cons_zero, Option.some.injEq] at hp
      subst hp
      refine ⟨?_, ?_, hg, h0, hs⟩
      · show Ls 0 = updL L o.dst v0
        rw [ht.l0, h1]
      · show Hs 0 = eff0.run H
        rw [ht.h0, h2]
    | succ p => exact ht.step p o' (by simpa using hp)
  · cases p with
    | zero => exact ha q hq ho
    | succ p =>
      have := ht.agr0 p (by simpa using hp) q (hacc q hq) ho
      rwa [show base + 1 + p = base + (p + 1) by omega] at this
  · cases p with
    | zero => omega
    | succ p =>
      cases q with
      | zero =>
        rcases hacc0 with h | h
        · have ho' : odds (ts p) ts0 = true := ho
          rw [h, odds_nil] at ho'; cases ho'
        · have := ht.agr0 p (by simpa using hp) _ h ho
          rw [show base + 1 + p = base + (p + 1) by omega] at this
          exact this
      | succ q =>
        have := ht.agr p (by simpa using hp) q (by omega) ho
        rwa [show base + 1 + p = base + (p + 1) by omega, show base + 1 + q = base + (q + 1) by omega] at this

theorem xdraw_trace {P : Program} {T : TTab} {n0 : Nat} {all : List Oper} {K : Env → Heap → Prop} : ∀ (r : List Oper) (base : Nat) (acc : Tch) (E : Env) (G : GEnv) (L : Nat → V) (H : Heap), xg P true (callD P) T n0 all r base acc E G H K → Agr E G L →
    ∃ Ls Es Hs v eff ts run, Trace P T n0 all r base acc L H K Ls Es Hs v eff ts run
  | [], base, acc, E, G, L, H, h, ha => ⟨fun _ => L, fun _ => E, fun _ => H, fun _ => .bad, fun _ => .none, fun _ => [], fun _ => false, rfl, rfl, fun p o hp => by simp at hp, fun p hp => by simp at hp, fun p hp => by simp at hp, E, ha.e, h⟩
  | o :: r, base, acc, E, G, L, H, h, ha => by
    rcases xg_step h ha with ⟨E1, acc', hg, hE1, hacc, hag, hk⟩ | ⟨E2, G2, acc', hg, hacc, hk, ha2⟩
    · obtain ⟨hag1, hag2⟩ := hag rfl
      have key : ∃ v0 eff0 E2 G2, SOp P T n0 E1 H o.op v0 eff0 ∧ xg P true (callD P) T n0 all r (base + 1) acc' E2 G2 (eff0.run H) K ∧ Agr E2 G2 (updL L o.dst v0) := by
        rcases hk with ⟨f, args, E0, G2, he, hE0, _, hc, ha2⟩ | ⟨_, _, hc, ha2⟩ | h
        · obtain ⟨u, hu, hk⟩ := (show DCall P _ _ _ _ _ from hc).h
          exact ⟨u, .none, _, _, .call he hu, hk, ha2 u⟩
        · obtain ⟨u, hu, hk⟩ := (show DOp P _ _ _ _ from hc).h
          exact ⟨u, .none, _, _, .pop hu, hk, ha2 u⟩
        · exact h
      obtain ⟨v0, eff0, E2, G2, hs, hk, ha2⟩ := key
      obtain ⟨Ls, Es, Hs, v, eff, ts, run, ht⟩ := xdraw_trace r (base + 1) _ _ _ _ _ hk ha2
      exact ⟨_, _, _, _, _, _, _, ht.cons hE1 rfl rfl hg (.inl ⟨rfl, hs, rfl⟩) (agree_spec hag1) hacc (.inr hag2)⟩
    · obtain ⟨Ls, Es, Hs, v, eff, ts, run, ht⟩ := xdraw_trace r (base + 1) _ _ _ _ _ hk ha2
      exact ⟨_, _, _, _, _, _, _, ht.cons (E0 := []) (v0 := .tup []) (eff0 := .none) (ts0 := []) (fun _ => .inl rfl) rfl rfl hg (.inr ⟨rfl, rfl, rfl, rfl⟩) (fun q _ h => by cases h) hacc (.inl rfl)⟩

/-! ### What is asked of the region's text -/
def memB (d : Nat) (l : List Nat) : Bool := l.any (Nat.beq d)
def optB (d : Option Nat) (l : List Nat) : Bool := match d with | some d => memB d l | none => false

/-- The slots of two operations meet. -/
def meet (p q : Option Nat × List Nat) : Bool := optB p.1 q.2 || optB q.1 p.2 || (match p.1 with | some d => optB q.1 [d] | none => false)

def pairsOK (bef : Nat → Nat → Bool) : List (Option Nat × List Nat) → Nat → List (Nat × Option Nat × List Nat) → Bool
  | [], _, _ => true
  | p :: r, i, prev => prev.all (fun q => match meet q.2 p with | true => bef q.1 i | false => true) && pairsOK bef r (i + 1) ((i, p) :: prev)

def upB : List Oper → Nat → Bool
  | [], _ => true
  | o :: r, i => o.after.toList.all (fun e => match bindsB e with | true => Nat.blt e.on i | false => true) && upB r (i + 1)

noncomputable def drawOK (ops : List Oper) : Bool := upB ops 0 && pairsOK (before ops) (ops.map fun o => (o.dst, namesOf ops o)) 0 []

theorem memB_of {d : Nat} {l : List Nat} (h : d ∈ l) : memB d l = true := List.any_eq_true.2 ⟨d, h, Nat.beq_refl d⟩

theorem pairsOK_spec {bef : Nat → Nat → Bool} : ∀ (l : List (Option Nat × List Nat)) (i : Nat) (prev : List (Nat × Option Nat × List Nat)), pairsOK bef l i prev = true →
    (∀ k p, l[k]? = some p → ∀ q ∈ prev, meet q.2 p = true → bef q.1 (i + k) = true) ∧ (∀ k p k' p', k' < k → l[k]? = some p → l[k']? = some p' → meet p' p = true → bef (i + k') (i + k) = true)
  | [], i, prev, _ => ⟨fun k p h => by simp at h, fun k p k' p' _ h => by simp at h⟩
  | p0 :: r, i, prev, h => by
    simp only [pairsOK, Bool.and_eq_true, List.all_eq_true] at h
    obtain ⟨h1, h2⟩ := pairsOK_spec r (i + 1) _ h.2
    refine ⟨fun k p hp q hq hm => ?_, fun k p k' p' hk hp hp' hm => ?_⟩
    · cases k with
      | zero =>
        simp at hp; subst hp
        have := h.1 q hq
        rw [hm] at this
        exact this
      | succ k =>
        have := h1 k p (by simpa using hp) q (List.mem_cons_of_mem _ hq) hm
        rwa [show i + 1 + k = i + (k + 1) by omega] at this
    · cases k with
      | zero => omega
      | succ k =>
        cases k' with
        | zero =>
          simp at hp'; subst hp'
          have := h1 k p (by simpa using hp) _ List.mem_cons_self hm
          rw [show i + 1 + k = i + (k + 1) by omega] at this
          exact this
        | succ k' =>
          have := h2 k p k' p' (by omega) (by simpa using hp) (by simpa using hp') hm
          rwa [show i + 1 + k = i + (k + 1) by omega, show i + 1 + k' = i + (k' + 1) by omega] at this

theorem upB_spec : ∀ (l : List Oper) (i : Nat), upB l i = true → ∀ k o e, l[k]? = some o → e ∈ o.after.toList → bindsB e = true → e.on < i + k
  | [], _, _, k, o, e, h, _, _ => by simp at h
  | o0 :: r, i, h, k, o, e, hk, he, hb => by
    simp only [upB, Bool.and_eq_true, List.all_eq_true] at h
    cases k with
    | zero =>
      simp at hk; subst hk
      have := h.1 e he
      rw [hb] at this
      simpa [Nat.blt_eq] using this
    | succ k =>
      have := upB_spec r (i + 1) h.2 k o e (by simpa using hk) he hb
      omega

theorem draw_pairs {ops : List Oper} (h : drawOK ops = true) {j i : Nat} {x y : Oper} (hji : j < i) (hx : ops[j]? = some x) (hy : ops[i]? = some y) (hm : meet (x.dst, namesOf ops x) (y.dst, namesOf ops y) = true) : before ops j i = true := by
  simp only [drawOK, Bool.and_eq_true] at h
  have := (pairsOK_spec _ 0 [] h.2).2 i (y.dst, namesOf ops y) j (x.dst, namesOf ops x) hji (by simp [hy]) (by simp [hx]) hm
  simpa using this

/-! ### A state on the way -/
def wrT (all : List Oper) (v : Nat → V) (t j : Nat) : Option V := match all[j]? with
  | some o => (match o.dst with | some d => if d = t then some (v j) else none | none => none)
  | none => none

noncomputable def wrB (Hs : Nat → Heap) (eff : Nat → Eff) (b j : Nat) : Option Blk := match eff j with
  | .none => none
  | .set b' x => if b' = b then some x else none
  | .new x => if (Hs j).length = b then some x else none
  | .app b' x => if (Hs j).length = b then some x else if b' = b then some .dead else none

def ini (H : Heap) (b : Nat) : Blk := (H[b]?).getD .dead

section
variable {Γ : Ctx} {T : TTab} {n0 : Nat} {all : List Oper} {E : Env} {H : Heap} {K : Env → Heap → Prop} {L : Nat → V} {Ls : Nat → Nat → V} {Es : Nat → Env} {Hs : Nat → Heap} {v : Nat → V} {eff : Nat → Eff} {ts : Nat → List (Nat × Bool)} {run : Nat → Bool}

theorem wrT_some {t j : Nat} (h : wrT all v t j ≠ none) : ∃ o, all[j]? = some o ∧ o.dst = some t := by
  unfold wrT at h
  cases ho : all[j]? with
  | none => rw [ho] at h; exact absurd rfl h
  | some o =>
    rw [ho] at h
    simp only at h
    cases hd : o.dst with
    | none => rw [hd] at h; exact absurd rfl h
    | some d =>
      rw [hd] at h
      by_cases hdt : d = t
      · subst hdt; exact ⟨o, rfl, hd⟩
      · simp [hdt] at h

variable (ht : Trace Γ.P T n0 all all 0 [] L H K Ls Es Hs v eff ts run)
include ht

theorem text_env (t : Nat) : ∀ p, p ≤ all.length → Ls p t = lastW (wrT all v t) (fun _ => true) (L t) p
  | 0, _ => by rw [ht.l0]; rfl
  | p + 1, hp => by
    have ho : all[p]? = some all[p] := by simp
    obtain ⟨h1, _⟩ := ht.step p _ ho
    have ih := text_env t p (by omega)
    rw [h1]
    simp only [lastW, if_true, wrT, ho]
    cases hd : all[p].dst with
    | none => exact ih
    | some d =>
      simp only [updL]
      by_cases hdt : d = t
      · simp [hdt]
      · simp [hdt, ih]

theorem step_len {p : Nat} (hp : p < all.length) : (Hs (p + 1)).length = (Hs p).length + (if (eff p).news then 1 else 0) := by
  obtain ⟨_, h2, _⟩ := ht.step p _ (by simp : all[p]? = some all[p])
  rw [h2]
  cases eff p <;> simp [Eff.run, Eff.news, setB_eq]

theorem len_mono {p q : Nat} (hpq : p ≤ q) (hq : q ≤ all.length) : (Hs p).length ≤ (Hs q).length := by
  induction q with
  | zero => obtain rfl : p = 0 := by omega
            exact Nat.le_refl _
  | succ q ih =>
    by_cases h : p = q + 1
    · subst h; exact Nat.le_refl _
    · have := ih (by omega) (by omega)
      have := step_len ht (p := q) (by omega)
      omega

theorem text_heap : ∀ p, p ≤ all.length → ∀ b, b < (Hs p).length → (Hs p)[b]? = some (lastW (wrB Hs eff b) (fun _ => true) (ini H b) p)
  | 0, _, b, hb => by
    rw [ht.h0] at hb ⊢
    simp [lastW, ini, hb]
  | p + 1, hp, b, hb => by
    have ih := text_heap p (by omega) b
    have hl := step_len ht (p := p) (by omega)
    obtain ⟨_, h2, _⟩ := ht.step p _ (by simp : all[p]? = some all[p])
    rw [h2]
    simp only [lastW, if_true, wrB]
    cases he : eff p with
    | none =>
      rw [he] at hl
      simp only [Eff.news, Bool.false_eq_true, if_false] at hl
      simp only [Eff.run, Option.getD_none]
      exact ih (by omega)
    | set b' x =>
      rw [he] at hl
      simp only [Eff.news, Bool.false_eq_true, if_false] at hl
      have hb' : b < (Hs p).length := by omega
      simp only [Eff.run, setB_eq, List.getElem?_set]
      by_cases hbb : b' = b
      · subst hbb; simp [hb']
      · simp [hbb, ih hb']
    | new x =>
      rw [he] at hl
      simp only [Eff.news, if_true] at hl
      simp only [Eff.run]
      by_cases hbl : (Hs p).length = b
      · subst hbl; simp
      · rw [List.getElem?_append_left (by omega), ih (by omega)]; simp [hbl]
    | app b' x =>
      rw [he] at hl
      simp only [Eff.news, if_true] at hl
      simp only [Eff.run, setB_eq]
      by_cases hbl : (Hs p).length = b
      · subst hbl; simp
      · have hb' : b < (Hs p).length := by omega
        rw [List.getElem?_append_left (by simpa using hb'), List.getElem?_set]
        by_cases hbb : b' = b
        · subst hbb; simp [hb', hbl]
        · simp [hbb, hbl, ih hb']

omit ht
noncomputable def heapAt (Hs : Nat → Heap) (eff : Nat → Eff) (H : Heap) (n : Nat) (S : Nat → Bool) : Heap := (List.range (Hs n).length).map fun b => lastW (wrB Hs eff b) S (ini H b) n

theorem heapAt_get {n : Nat} {S : Nat → Bool} {b : Nat} (hb : b < (Hs n).length) : (heapAt Hs eff H n S)[b]? = some (lastW (wrB Hs eff b) S (ini H b) n) := by
  simp [heapAt, hb]

theorem heapAt_length {n : Nat} {S : Nat → Bool} : (heapAt Hs eff H n S).length = (Hs n).length := by simp [heapAt]

theorem Mem.pads {w : World} {μ : List Plc} (hm : Mem Γ H w μ) : ∀ n, Mem Γ (H ++ List.replicate n .dead) w (μ ++ List.replicate n .free) ∧ Pres Γ w μ w (μ ++ List.replicate n .free)
  | 0 => by simpa using ⟨hm, Pres.refl _ _ _⟩
  | n + 1 => by
    obtain ⟨h1, h2⟩ := Mem.pads hm n
    obtain ⟨h3, h4⟩ := h1.pad
    rw [List.replicate_succ', List.replicate_succ', ← List.append_assoc, ← List.append_assoc]
    exact ⟨h3, h2.trans h4⟩

/-- What is looked at is there. -/
theorem rep_there {w : World} {I : Nat → Prop} {μ : List Plc} {x : V} {cv : Value} {b : Nat} {wr wr' : Bool} (h : RepV w I μ x cv) (hb : (b, wr) ∈ touch0 wr' x) : ∃ l, μ[b]? = some l ∧ l ≠ .free := by
  cases h with
  | ptr b o k hl => simp [touch0] at hb; rw [hb.1]; exact ⟨_, hl, by simp⟩
  | buf b m c a hl => simp [touch0] at hb; rw [hb.1]; exact ⟨_, hl, by simp⟩
  | bdead b v hl h1 => simp [touch0] at hb; rw [hb.1]; exact ⟨_, hl, by simp⟩
  | bp b o k m c hl => simp [touch0] at hb; rw [hb.1]; exact ⟨_, hl, by simp⟩
  | bpd b o k hl => simp [touch0] at hb; rw [hb.1]; exact ⟨_, hl, by simp⟩
  | bv b lo n m c a hl hle => simp [touch0] at hb; rw [hb.1]; exact ⟨_, hl, by simp⟩
  | bvd b lo n v hl h1 => simp [touch0] at hb; rw [hb.1]; exact ⟨_, hl, by simp⟩
  | _ => cases hb

theorem touchL_mem {wr : Bool} {xs : List V} {p : Nat × Bool} (h : p ∈ touchL wr xs) : ∃ (i : Nat) (x : V), xs[i]? = some x ∧ p ∈ touch0 wr x := by
  induction xs with
  | nil => cases h
  | cons y ys ih =>
    have h' : p ∈ touch0 wr y ++ touchL wr ys := h
    rcases List.mem_append.1 h' with h | h
    · exact ⟨0, y, rfl, h⟩
    · obtain ⟨i, x, h1, h2⟩ := ih h
      exact ⟨i + 1, x, by simpa using h1, h2⟩

theorem rep_there1 {w : World} {I : Nat → Prop} {μ : List Plc} {x : V} {cv : Value} {b : Nat} {wr wr' : Bool} (h : RepV w I μ x cv) (hb : (b, wr) ∈ touch1 wr' x) : ∃ l, μ[b]? = some l ∧ l ≠ .free := by
  cases h with
  | agg xs vs hl h1 h => obtain ⟨i, x, h1, h2⟩ := touchL_mem hb; exact rep_there (h i x h1) h2
  | tup xs vs hl h => obtain ⟨i, x, h1, h2⟩ := touchL_mem hb; exact rep_there (h i x h1) h2
  | clo f xs vs hl h => obtain ⟨i, x, h1, h2⟩ := touchL_mem hb; exact rep_there (h i x h1) h2
  | ptr b o k hl => exact rep_there (RepV.ptr (w := w) (I := I) b o k hl) hb
  | buf b m c a hl => exact rep_there (RepV.buf (w := w) (I := I) b m c a hl) hb
  | bdead b v hl h1 => exact rep_there (RepV.bdead (w := w) (I := I) b _ hl h1) hb
  | bp b o k m c hl => exact rep_there (RepV.bp (w := w) (I := I) b o k m c hl) hb
  | bpd b o k hl => exact rep_there (RepV.bpd (w := w) (I := I) b o k hl) hb
  | bv b lo n m c a hl hle => exact rep_there (RepV.bv (w := w) (I := I) b lo n m c a hl hle) hb
  | bvd b lo n v hl h1 => exact rep_there (RepV.bvd (w := w) (I := I) b lo n _ hl h1) hb
  | _ => cases hb

theorem rep_thereV {w : World} {I : Nat → Prop} {μ : List Plc} {x : V} {cv : Value} {b : Nat} {wr wr' : Bool} (h : RepV w I μ x cv) (hb : (b, wr) ∈ touchV wr' x) : ∃ l, μ[b]? = some l ∧ l ≠ .free := by
  by_cases hc : ∃ f xs, x = .clo f xs
  · obtain ⟨f, xs, rfl⟩ := hc
    cases h with
    | clo f xs vs hl h =>
      have : ∃ (i : Nat) (x : V), xs[i]? = some x ∧ (b, wr) ∈ touch1 wr' x := by
        clear hl h
        induction xs with
        | nil => cases hb
        | cons y ys ih =>
          have h' : (b, wr) ∈ touch1 wr' y ++ touchV wr' (.clo f ys) := hb
          rcases List.mem_append.1 h' with h | h
          · exact ⟨0, y, rfl, h⟩
          · obtain ⟨i, x, h1, h2⟩ := ih h
            exact ⟨i + 1, x, by simpa using h1, h2⟩
      obtain ⟨i, x, h1, h2⟩ := this
      exact rep_there1 (h i x h1) h2
  · refine rep_there1 h (wr := wr) (wr' := wr') ?_
    cases x with
    | clo f xs => exact absurd ⟨f, xs, rfl⟩ hc
    | _ => exact hb

theorem touchA_mem {E : Env} {l : List Operand} {p : Nat × Bool} (h : p ∈ touchA E l) : ∃ x ∈ l, p ∈ touchV false (opd E x) := by
  induction l with
  | nil => cases h
  | cons y ys ih =>
    have h' : p ∈ touchV false (opd E y) ++ touchA E ys := h
    rcases List.mem_append.1 h' with h | h
    · exact ⟨y, List.mem_cons_self, h⟩
    · obtain ⟨x, h1, h2⟩ := ih h
      exact ⟨x, List.mem_cons_of_mem _ h1, h2⟩

theorem touch_there {w : World} {μ : List Plc} {a : Act} {op : Op} {b : Nat} {wr : Bool} (hop : ∀ x ∈ op.operands.toList, Rep Γ w μ (opd E x) (a.eval x)) (hb : (b, wr) ∈ touch E op) : ∃ l, μ[b]? = some l ∧ l ≠ .free := by
  cases op with
  | load t x => exact rep_thereV (hop x (by simp [Op.operands])) hb
  | store t x y => exact rep_thereV (hop x (by simp [Op.operands])) hb
  | indexAddr t x i =>
    have h1 := hop x (by simp [Op.operands])
    simp only [touch] at hb
    split at hb
    · rename_i b' he
      rw [he] at h1
      exact rep_thereV h1 (wr := wr) (wr' := false) (by simpa [touchV, touch1, touch0] using hb)
    · cases hb
  | slice t x lo hi mx =>
    have h1 := hop x (by simp [Op.operands])
    simp only [touch] at hb
    split at hb
    · rename_i b' he
      rw [he] at h1
      split at hb
      · exact rep_thereV h1 (wr := wr) (wr' := true) (by simpa [touchV, touch1, touch0] using hb)
      · exact rep_thereV h1 (wr := wr) (wr' := false) (by simpa [touchV, touch1, touch0] using hb)
    · cases hb
  | call c =>
    obtain ⟨callee, args, ats⟩ := c
    obtain ⟨args⟩ := args
    have all : ∀ l : List Operand, (∀ x ∈ l, x ∈ (Op.call ⟨callee, ⟨args⟩, ats⟩).operands.toList) → (b, wr) ∈ touchA E l → ∃ l, μ[b]? = some l ∧ l ≠ .free := fun l hl h => by
      obtain ⟨x, h1, h2⟩ := touchA_mem h
      exact rep_thereV (hop x (hl x h1)) h2
    cases callee with
    | value f => exact all (f :: args) (fun x hx => by simpa [Op.operands, Call.operands, or_comm] using hx) hb
    | invoke r m => exact all args (fun x hx => by simp [Op.operands, Call.operands, hx]) hb
    | builtin bi =>
      have hargs : ∀ x ∈ args, x ∈ (Op.call ⟨.builtin bi, ⟨args⟩, ats⟩).operands.toList := fun x hx => by simp [Op.operands, Call.operands, hx]
      cases bi with
      | append =>
        have hb' : (b, wr) ∈ (match args with | [x, y] => List.append (touchV true (opd E x)) (touchV false (opd E y)) | _ => []) := hb
        split at hb'
        · rename_i x y
          rcases List.mem_append.1 hb' with h | h
          · exact rep_thereV (hop x (hargs x (by simp))) h
          · exact rep_thereV (hop y (hargs y (by simp))) h
        · cases hb'
      | _ => exact all args hargs hb
  | _ => cases hb

end

end Go.AW

/- AW, part 13C: a region whose order is drawn, carried out. -/
namespace Go.AW
open Go Go.RowKit
variable {Γ : Ctx} {nt : Nat} {T : TTab} {n0 : Nat} {all : Array Oper} {E : Env} {H : Heap} {K : Env → Heap → Prop} {L : Nat → V} {Ls : Nat → Nat → V} {Es : Nat → Env} {Hs : Nat → Heap} {v : Nat → V} {eff : Nat → Eff} {ts : Nat → List (Nat × Bool)} {run : Nat → Bool}

abbrev seen (listed : Array Bool) (j : Nat) : Bool := listed.getD j false

structure Inv (Γ : Ctx) (nt : Nat) (all : Array Oper) (L : Nat → V) (H : Heap) (Hs : Nat → Heap) (v : Nat → V) (eff : Nat → Eff) (ts : Nat → List (Nat × Bool)) (listed : Array Bool) (a : Act) (w : World) (μ : List Plc) : Prop where
  size : listed.size = all.size
  closed : ∀ i o e, seen listed i = true → all.toList[i]? = some o → e ∈ o.after.toList → bindsB e = true → seen listed e.on = true
  mem : Mem Γ (heapAt Hs eff H all.size (seen listed)) w μ
  env : ∀ t, Rep Γ w μ (lastW (wrT all.toList v t) (seen listed) (L t) all.size) (a.tmps.getD t undef)
  tsize : a.tmps.size = nt
  defers : a.defers = []
  free : ∀ i, i < all.size → (eff i).news = true → seen listed i = false → μ[(Hs i).length]? = some .free
  shown : ∀ j, j < all.size → seen listed j = true → ∀ b wr, (b, wr) ∈ ts j → ∀ i, i < all.size → (eff i).news = true → (Hs i).length = b → seen listed i = true

theorem seen_set {listed : Array Bool} {i : Nat} (hi : i < listed.size) (j : Nat) : seen (listed.setIfInBounds i true) j = (seen listed j || decide (j = i)) := by
  by_cases h : i = j
  · subst h; simp [seen, hi]
  · have h' : j ≠ i := Ne.symm h
    simp [seen, Array.getElem?_setIfInBounds_ne h, h']

theorem seen_lt {listed : Array Bool} {j : Nat} (h : seen listed j = true) : j < listed.size := by
  by_cases hj : j < listed.size
  · exact hj
  · simp [seen, Array.getElem?_eq_none (by omega : listed.size ≤ j)] at h

def left (n : Nat) (listed : Array Bool) : Nat := ((List.range n).filter fun i => !seen listed i).length

theorem left_zero {n : Nat} {listed : Array Bool} (h : left n listed = 0) {i : Nat} (hi : i < n) : seen listed i = true := by
  have h1 : (List.range n).filter (fun i => !seen listed i) = [] := List.eq_nil_of_length_eq_zero h
  rw [List.filter_eq_nil_iff] at h1
  have := h1 i (by simpa using hi)
  simpa using this

theorem filter_lt {α : Type} {l : List α} {p q : α → Bool} {x : α} (hx : x ∈ l) (hp : p x = true) (hq : q x = false) (h : ∀ y, q y = true → p y = true) : (l.filter q).length < (l.filter p).length := by
  induction l with
  | nil => cases hx
  | cons y l ih =>
    have hle : (l.filter q).length ≤ (l.filter p).length := by
      clear ih hx
      induction l with
      | nil => simp
      | cons z l ih =>
        simp only [List.filter_cons]
        cases hqz : q z with
        | true => rw [h z hqz]; simp only [if_true, List.length_cons]; omega
        | false => cases p z <;> simp <;> omega
    simp only [List.filter_cons]
    rcases List.mem_cons.1 hx with rfl | hx
    · rw [hp, hq]; simp; omega
    · have := ih hx
      cases hqy : q y with
      | true => rw [h y hqy]; simp only [if_true, List.length_cons]; omega
      | false => cases p y <;> simp <;> omega

theorem left_set {n : Nat} {listed : Array Bool} {i : Nat} (hn : listed.size = n) (hi : i < n) (h : seen listed i = false) : left n (listed.setIfInBounds i true) < left n listed := by
  refine filter_lt (x := i) (by simpa using hi) (by simp [h]) (by rw [seen_set (by omega)]; simp) (fun y hy => ?_)
  rw [seen_set (by omega)] at hy
  cases hs : seen listed y with
  | false => rfl
  | true => rw [hs] at hy; simp at hy

theorem draw_fin {Q : Exit → Act → World → Prop} (ht : Trace Γ.P T n0 all.toList all.toList 0 [] L H K Ls Es Hs v eff ts run) (hq : ∀ E' H' a' w' μ', K E' H' → Ok Γ nt E' H' a' w' μ' → Q .normal a' w')
    {listed : Array Bool} {a : Act} {w : World} {μ : List Plc} (hi : Inv Γ nt all L H Hs v eff ts listed a w μ) (hall : ∀ i, i < all.size → seen listed i = true) : Q .normal a w := by
  have hn : all.toList.length = all.size := by simp
  obtain ⟨E', hE', hK⟩ := ht.fin
  rw [hn] at hE' hK
  have hL : LOk Γ w μ (Ls all.size) a.tmps := fun t => by
    have := hi.env t
    rw [text_env ht t all.size (by omega), ← lastW_congr (S := seen listed) fun j hj _ => hall j hj]
    exact this
  refine hq E' (Hs all.size) a w μ hK ⟨?_, hi.tsize, hL.env hE', hi.defers⟩
  have e : heapAt Hs eff H all.size (seen listed) = Hs all.size := by
    refine List.ext_getElem? fun b => ?_
    by_cases hb : b < (Hs all.size).length
    · rw [heapAt_get hb, text_heap ht all.size (by omega) b hb]
      congr 1
      exact lastW_congr fun j hj _ => hall j hj
    · rw [List.getElem?_eq_none (by rw [heapAt_length]; omega), List.getElem?_eq_none (by omega)]
  rw [← e]; exact hi.mem

theorem meet_dn {p q : Option Nat × List Nat} {d : Nat} (h1 : p.1 = some d) (h2 : d ∈ q.2) : meet p q = true := by
  simp [meet, optB, h1, memB_of h2]
theorem meet_nd {p q : Option Nat × List Nat} {d : Nat} (h1 : q.1 = some d) (h2 : d ∈ p.2) : meet p q = true := by
  simp [meet, optB, h1, memB_of h2]
theorem meet_dd {p q : Option Nat × List Nat} {d : Nat} (h1 : p.1 = some d) (h2 : q.1 = some d) : meet p q = true := by
  simp [meet, optB, h1, h2, memB, Nat.beq_refl]

theorem SOp.set_touch {P : Program} {op : Op} {u : V} {b : Nat} {x : Blk} (h : SOp P T n0 E H op u (.set b x)) : (b, true) ∈ touch E op ∧ b < H.length := by
  cases h with
  | no h hx => cases hx with
    | store h1 h2 h3 h4 h5 => exact ⟨by simp [touch, h1, touchV, touch1, touch0], (List.getElem?_eq_some_iff.1 h2).1⟩

theorem SOp.app_touch {P : Program} {op : Op} {u : V} {b : Nat} {x : Blk} (h : SOp P T n0 E H op u (.app b x)) : (b, true) ∈ touch E op ∧ b < H.length := by
  cases h with
  | no h hx => cases hx with
    | app hc h1 h2 h3 h4 h5 h6 h7 h8 =>
      refine ⟨?_, (List.getElem?_eq_some_iff.1 h7).1⟩
      rw [hc]
      show _ ∈ touchV true _ ++ touchV false _
      rw [h6]; simp [touchV, touch1, touch0]
    | cut hx hh ht hti hH hi => exact ⟨by simp [touch, hx], (List.getElem?_eq_some_iff.1 hH).1⟩

theorem wrB_cases {b j : Nat} (ht : Trace Γ.P T n0 all.toList all.toList 0 [] L H K Ls Es Hs v eff ts run) (hj : j < all.size) (h : wrB Hs eff b j ≠ none) :
    ((b, true) ∈ ts j ∧ b < (Hs j).length) ∨ ((eff j).news = true ∧ (Hs j).length = b) := by
  have ho : all.toList[j]? = some all[j] := by simp [hj]
  obtain ⟨_, _, _, _, h4⟩ := ht.step j _ ho
  unfold wrB at h
  rcases h4 with ⟨_, hs, hts⟩ | ⟨_, _, he, _⟩
  · cases he : eff j with
    | none => rw [he] at h; exact absurd rfl h
    | set b' x =>
      rw [he] at h hs
      simp only at h
      by_cases hb : b' = b
      · subst hb
        rw [hts]
        exact .inl hs.set_touch
      · simp [hb] at h
    | new x =>
      rw [he] at h
      simp only at h
      by_cases hb : (Hs j).length = b
      · exact .inr ⟨rfl, hb⟩
      · simp [hb] at h
    | app b' x =>
      rw [he] at h hs
      simp only at h
      by_cases hb : (Hs j).length = b
      · exact .inr ⟨rfl, hb⟩
      · by_cases hb' : b' = b
        · subst hb'
          rw [hts]
          exact .inl hs.app_touch
        · simp [hb, hb'] at h
  · rw [he] at h; exact absurd rfl h

/-- An operation whose turn has come. -/
theorem draw_step {Q : Exit → Act → World → Prop} {next : Act → World → Prop} (hT : TOk Γ.P T) (ht : Trace Γ.P T n0 all.toList all.toList 0 [] L H K Ls Es Hs v eff ts run) (hd : drawOK all.toList = true) (hall : ∀ o ∈ all.toList, operOK nt o = true)
    {listed : Array Bool} {a : Act} {w : World} {μ : List Plc} (hi : Inv Γ nt all L H Hs v eff ts listed a w μ) {i : Nat} (hr : i ∈ Region.ready .any all listed)
    (hn : ∀ a' w' μ', Inv Γ nt all L H Hs v eff ts (listed.setIfInBounds i true) a' w' μ' → next a' w') : wpOp Γ.P all Q i next a w := by
  obtain ⟨hl, o, ho, haft⟩ := mem_ready.1 hr
  have hin : i < all.size := (Array.getElem?_eq_some_iff.1 ho).1
  have hn' : all.toList.length = all.size := by simp
  have hsi : seen listed i = false := by
    have : i < listed.size := by rw [hi.size]; exact hin
    simpa [seen, this] using hl
  have hoL : all.toList[i]? = some o := by simpa using ho
  have haft' : ∀ o' e, all.toList[i]? = some o' → e ∈ o'.after.toList → bindsB e = true → seen listed e.on = true := fun o' e h1 h2 h3 => by
    rw [hoL] at h1; cases h1
    exact haft e (by simpa using h2) (by rw [← bindsB_eq]; exact h3)
  have hbef : ∀ j, before all.toList j i = true → seen listed j = true := fun j h => by
    exact before_in h (S := fun j => seen listed j = true) hi.closed haft'
  have hnaf : ∀ j, seen listed j = true → before all.toList i j = true → False := fun j hj h => by
    have := before_in h (S := fun j => seen listed j = true) hi.closed (fun o' e g1 g2 g3 => hi.closed j o' e hj g1 g2 g3)
    rw [hsi] at this; cases this
  -- slots
  have hslot : ∀ t, (∀ j, j < all.size → ∀ o', all.toList[j]? = some o' → o'.dst = some t → j ≠ i → (if j < i then before all.toList j i = true else before all.toList i j = true)) →
      lastW (wrT all.toList v t) (seen listed) (L t) all.size = Ls i t := fun t h => by
    rw [text_env ht t i (by omega)]
    refine lastW_turn (by omega) fun j hj hw => ?_
    obtain ⟨o', h1, h2⟩ := wrT_some hw
    by_cases hji : j = i
    · subst hji; rw [hsi]; simp
    · have := h j hj o' h1 h2 hji
      by_cases hlt : j < i
      · rw [if_pos hlt] at this; exact ⟨fun _ => hlt, fun _ => hbef j this⟩
      · rw [if_neg hlt] at this; exact ⟨fun hs => (hnaf j hs this).elim, fun h => absurd h hlt⟩
  have hpair : ∀ {j : Nat} {o' : Oper}, all.toList[j]? = some o' → j ≠ i → (meet (o'.dst, namesOf all.toList o') (o.dst, namesOf all.toList o) = true ∧ meet (o.dst, namesOf all.toList o) (o'.dst, namesOf all.toList o') = true) →
      (if j < i then before all.toList j i = true else before all.toList i j = true) := fun {j o'} h1 hji hm => by
    by_cases hlt : j < i
    · rw [if_pos hlt]; exact draw_pairs hd hlt h1 hoL hm.1
    · rw [if_neg hlt]; exact draw_pairs hd (by omega) hoL h1 hm.2
  have hnames : ∀ t ∈ namesOf all.toList o, Rep Γ w μ (Ls i t) (a.tmps.getD t undef) := fun t htn => by
    rw [← hslot t (fun j hj o' h1 h2 hji => hpair h1 hji ⟨meet_dn h2 htn, meet_nd h2 htn⟩)]
    exact hi.env t
  obtain ⟨hE1, hH1, hG, hEs, hstep⟩ := ht.step i o hoL
  have hw := grd_wanted hG hnames
  have hoo := hall o (List.mem_of_getElem? hoL)
  have hcs : ∀ x ∈ o.op.operands.toList, constB x = true := by
    simp only [operOK, Bool.and_eq_true, List.all_eq_true] at hoo
    exact hoo.2
  have hop : ∀ x ∈ o.op.operands.toList, Rep Γ w μ (opd (Es i) x) (a.eval x) := fun x hx =>
    rep_opd (fun t e => by
      rcases hEs t with h1 | h1
      · rw [h1]; exact .bad _
      · rw [h1]; exact hnames t (names_operand (e ▸ hx))) (by
      have hc := hcs x hx
      cases x with
      | const v =>
        cases v with
        | agg cs => intro y hy; simp only [constB, List.all_eq_true] at hc; exact hc y hy
        | _ => trivial
      | _ => trivial)
  -- creators and touches
  have hcre : ∀ {j : Nat}, j < all.size → (eff j).news = true → ∀ {k : Nat}, k ≤ all.size → j < k → (Hs j).length < (Hs k).length := fun {j} hj he {k} hk hjk => by
    have h1 := step_len ht (p := j) (by omega)
    rw [he] at h1
    have h2 := len_mono ht (p := j + 1) (q := k) (by omega) (by omega)
    simp only [if_true] at h1
    omega
  have hcre1 : ∀ {j k : Nat}, j < all.size → k < all.size → (eff j).news = true → (eff k).news = true → (Hs j).length = (Hs k).length → j = k := fun {j k} hj hk h1 h2 he => by
    rcases Nat.lt_trichotomy j k with h | h | h
    · have := hcre hj h1 (k := k) (by omega) h; omega
    · exact h
    · have := hcre hk h2 (k := j) (by omega) h; omega
  have hodd : ∀ {j : Nat} {b : Nat} {wr wr' : Bool}, j < all.size → j ≠ i → (b, wr) ∈ ts j → (b, wr') ∈ ts i → (wr = true ∨ wr' = true) → (seen listed j = true ↔ j < i) := fun {j b wr wr'} hj hji h1 h2 hww => by
    by_cases hlt : j < i
    · have := ht.agr i (by omega) j hlt (odds_of h2 h1 rfl hww.symm)
      rw [Nat.zero_add, Nat.zero_add] at this
      exact ⟨fun _ => hlt, fun _ => hbef j this⟩
    · have := ht.agr j (by omega) i (by omega) (odds_of h1 h2 rfl hww)
      rw [Nat.zero_add, Nat.zero_add] at this
      exact ⟨fun hs => (hnaf j hs this).elim, fun h => absurd h hlt⟩
  have hsz : i < listed.size := by rw [hi.size]; exact hin
  have hset := seen_set (listed := listed) hsz
  have hclosed : ∀ k o' e, seen (listed.setIfInBounds i true) k = true → all.toList[k]? = some o' → e ∈ o'.after.toList → bindsB e = true → seen (listed.setIfInBounds i true) e.on = true := fun k o' e hk h1 h2 h3 => by
    rw [hset] at hk ⊢
    rw [Bool.or_eq_true] at hk ⊢
    refine .inl ?_
    rcases hk with hk | hk
    · exact hi.closed k o' e hk h1 h2 h3
    · have := of_decide_eq_true hk; subst this; exact haft' o' e h1 h2 h3
  have henv : ∀ {w' : World} {μ' : List Plc} {cv : Value}, Pres Γ w μ w' μ' → Rep Γ w' μ' (v i) cv → ∀ t, Rep Γ w' μ' (lastW (wrT all.toList v t) (seen (listed.setIfInBounds i true)) (L t) all.size) ((a.put o.dst cv).tmps.getD t undef) := fun {w' μ' cv} hp hrv t => by
    rw [lastW_add hset hin (fun hwi j hj hsj hwj => by
      obtain ⟨o1, h1, h2⟩ := wrT_some hwi
      rw [hoL] at h1; cases h1
      obtain ⟨o2, h3, h4⟩ := wrT_some hwj
      have hji : j ≠ i := fun e => by rw [e, hsi] at hsj; cases hsj
      have := hpair h3 hji ⟨meet_dd h4 h2, meet_dd h2 h4⟩
      by_cases hlt : j < i
      · exact hlt
      · rw [if_neg hlt] at this; exact (hnaf j hsj this).elim) hsi]
    have he := hp.rep (hi.env t)
    have hwT : wrT all.toList v t i = (match o.dst with | some d => if d = t then some (v i) else none | none => none) := by
      unfold wrT; rw [hoL]; try rfl
    rw [hwT]
    cases hdst : o.dst with
    | none => exact he
    | some d =>
      have hdn : d < a.tmps.size := by
        simp only [operOK, hdst, Bool.and_eq_true, Nat.blt_eq] at hoo
        rw [hi.tsize]; exact hoo.1
      simp only [Act.put]
      by_cases hdt : d = t
      · subst hdt
        have : (a.tmps.setIfInBounds d cv).getD d undef = cv := by simp [Array.getD_eq_getD_getElem?, hdn]
        rw [this]; simpa using hrv
      · have : (a.tmps.setIfInBounds d cv).getD t undef = a.tmps.getD t undef := by simp [Array.getD_eq_getD_getElem?, hdt]
        rw [this]; simpa [hdt] using he
  unfold wpOp
  simp only [ho, hw]
  rcases hstep with ⟨hrun, hs, hts⟩ | ⟨hrun, hv, he, hts⟩
  · rw [hrun]
    simp only [if_true]
    refine .inl ?_
    have hth : ∀ b wr, (b, wr) ∈ ts i → ∀ k, k < all.size → (eff k).news = true → (Hs k).length = b → seen listed k = true := fun b wr hb k hk hkn hkb => by
      rw [hts] at hb
      obtain ⟨l, hl1, hl2⟩ := touch_there hop hb
      cases hsk : seen listed k with
      | true => rfl
      | false =>
        have := hi.free k hk hkn hsk
        rw [hkb, hl1] at this
        cases this
        exact absurd rfl hl2
    have hshows : Shows (Hs i) (heapAt Hs eff H all.size (seen listed)) (touch (Es i) o.op) := fun b wr x hb hx => by
      rw [nth_eq] at hx ⊢
      have hbi : b < (Hs i).length := (List.getElem?_eq_some_iff.1 hx).1
      have hbn : b < (Hs all.size).length := by have := len_mono ht (p := i) (q := all.size) (by omega) (by omega); omega
      rw [text_heap ht i (by omega) b hbi] at hx
      rw [heapAt_get hbn, ← hx]
      congr 1
      refine lastW_turn (by omega) fun j hj hwj => ?_
      rcases wrB_cases ht hj hwj with ⟨h1, _⟩ | ⟨h1, h2⟩
      · by_cases hji : j = i
        · subst hji; rw [hsi]; simp
        · exact hodd hj hji h1 (by rw [hts]; exact hb) (.inl rfl)
      · have hsj := hth b wr (by rw [hts]; exact hb) j hj h1 h2
        have hji : j < i := by
          by_cases hlt : j < i
          · exact hlt
          · have := len_mono ht (p := i) (q := j) (by omega) (by omega); omega
        exact ⟨fun _ => hji, fun _ => hsj⟩
    refine hs.replay (s := (Hs i).length) hT hi.mem hop hshows (fun hnew => ⟨rfl, hi.free i hin hnew hsi⟩) next Q fun w' μ' cv hm' hp hfree hrv => hn _ _ μ' ?_
    refine ⟨by simp [hi.size], hclosed, ?_, henv hp hrv, by rw [put_size]; exact hi.tsize, by rw [put_defers]; exact hi.defers, fun k hk hkn hks => ?_, fun j hj hjs b wr hb k hk hkn hkb => ?_⟩
    · have e : (eff i).at_ (Hs i).length (heapAt Hs eff H all.size (seen listed)) = heapAt Hs eff H all.size (seen (listed.setIfInBounds i true)) := by
        have hadd : ∀ b, b < (Hs all.size).length → lastW (wrB Hs eff b) (seen (listed.setIfInBounds i true)) (ini H b) all.size = (wrB Hs eff b i).getD (lastW (wrB Hs eff b) (seen listed) (ini H b) all.size) := fun b hb => by
          refine lastW_add hset hin (fun hwi j hj hsj hwj => ?_) hsi
          have hji : j ≠ i := fun e => by rw [e, hsi] at hsj; cases hsj
          rcases wrB_cases ht hin hwi with ⟨h1, h2⟩ | ⟨h1, h2⟩
          · rcases wrB_cases ht hj hwj with ⟨h3, h4⟩ | ⟨h3, h4⟩
            · exact (hodd hj hji h3 h1 (.inl rfl)).1 hsj
            · by_cases hlt : j < i
              · exact hlt
              · have := len_mono ht (p := i) (q := j) (by omega) (by omega); omega
          · rcases wrB_cases ht hj hwj with ⟨h3, h4⟩ | ⟨h3, h4⟩
            · have := hi.shown j hj hsj b true h3 i hin h1 h2
              rw [hsi] at this; cases this
            · exact absurd (hcre1 hj hin h3 h1 (by omega)) hji
        refine List.ext_getElem? fun b => ?_
        by_cases hb : b < (Hs all.size).length
        · have hlen : (heapAt Hs eff H all.size (seen listed)).length = (Hs all.size).length := heapAt_length
          have hget := heapAt_get (eff := eff) (H := H) (S := seen listed) hb
          rw [heapAt_get hb, hadd b hb]
          cases he : eff i with
          | none =>
            have hw : wrB Hs eff b i = none := by unfold wrB; rw [he]
            rw [hw]; simp only [Eff.at_, Option.getD_none]; exact hget
          | set b' x =>
            have hw : wrB Hs eff b i = if b' = b then some x else none := by unfold wrB; rw [he]
            rw [hw]
            simp only [Eff.at_, setB_eq, List.getElem?_set]
            by_cases hbb : b' = b
            · subst hbb; simp [hlen, hb]
            · simp [hbb, hget]
          | new x =>
            have hw : wrB Hs eff b i = if (Hs i).length = b then some x else none := by unfold wrB; rw [he]
            rw [hw]
            simp only [Eff.at_, setB_eq, List.getElem?_set]
            by_cases hbb : (Hs i).length = b
            · simp [hbb, hlen, hb]
            · simp [hbb, hget]
          | app b' x =>
            have hw : wrB Hs eff b i = if (Hs i).length = b then some x else if b' = b then some .dead else none := by unfold wrB; rw [he]
            rw [hw]
            simp only [Eff.at_, setB_eq, List.getElem?_set, List.length_set]
            by_cases hbb : (Hs i).length = b
            · simp [hbb, hlen, hb]
            · by_cases hb2 : b' = b
              · subst hb2; simp [hbb, hlen, hb]
              · simp [hbb, hb2, hget]
        · rw [List.getElem?_eq_none (by
            have : ((eff i).at_ (Hs i).length (heapAt Hs eff H all.size (seen listed))).length = (heapAt Hs eff H all.size (seen listed)).length := by cases eff i <;> simp [Eff.at_, setB_eq]
            rw [this, heapAt_length]; omega), List.getElem?_eq_none (by rw [heapAt_length]; omega)]
      rw [← e]; exact hm'
    · rw [hset, Bool.or_eq_false_iff] at hks
      refine hfree _ (fun hnew he => ?_) (hi.free k hk hkn hks.1)
      have := hcre1 hk hin hkn hnew he
      have h2 := of_decide_eq_false hks.2
      exact h2 this
    · rw [hset, Bool.or_eq_true] at hjs
      rw [hset, Bool.or_eq_true]
      refine .inl ?_
      rcases hjs with hjs | hjs
      · exact hi.shown j hj hjs b wr hb k hk hkn hkb
      · have := of_decide_eq_true hjs; subst this
        exact hth b wr hb k hk hkn hkb
  · rw [hrun]
    simp only [Bool.false_eq_true, if_false]
    refine hn _ _ μ ⟨by simp [hi.size], hclosed, ?_, henv (.refl _ _ _) (by rw [hv]; exact undef_rep), by rw [put_size]; exact hi.tsize, by rw [put_defers]; exact hi.defers, fun k hk hkn hks => ?_, fun j hj hjs b wr hb k hk hkn hkb => ?_⟩
    · have e : heapAt Hs eff H all.size (seen listed) = heapAt Hs eff H all.size (seen (listed.setIfInBounds i true)) := by
        refine List.map_congr_left fun b _ => ?_
        refine lastW_congr fun j hj hwj => ?_
        rw [hset]
        by_cases hji : j = i
        · subst hji; unfold wrB at hwj; rw [he] at hwj; exact absurd rfl hwj
        · simp [hji]
      rw [← e]; exact hi.mem
    · rw [hset, Bool.or_eq_false_iff] at hks
      exact hi.free k hk hkn hks.1
    · rw [hset, Bool.or_eq_true] at hjs
      rw [hset, Bool.or_eq_true]
      refine .inl ?_
      rcases hjs with hjs | hjs
      · exact hi.shown j hj hjs b wr hb k hk hkn hkb
      · have := of_decide_eq_true hjs; subst this
        rw [hts] at hb; cases hb

theorem draw_any {Q : Exit → Act → World → Prop} (hT : TOk Γ.P T) (ht : Trace Γ.P T n0 all.toList all.toList 0 [] L H K Ls Es Hs v eff ts run) (hd : drawOK all.toList = true) (hall : ∀ o ∈ all.toList, operOK nt o = true)
    (hq : ∀ E' H' a' w' μ', K E' H' → Ok Γ nt E' H' a' w' μ' → Q .normal a' w') : ∀ (fuel : Nat) (listed : Array Bool) (a : Act) (w : World) (μ : List Plc), Inv Γ nt all L H Hs v eff ts listed a w μ → left all.size listed ≤ fuel →
      wpAny Γ.P .any all Q fuel listed a w := by
  have hdone : ∀ (listed : Array Bool) (a : Act) (w : World) (μ : List Plc), Inv Γ nt all L H Hs v eff ts listed a w μ → Region.ready .any all listed = [] → ∀ i, i < all.size → seen listed i = true := by
    intro listed a w μ hi hr i
    induction i using Nat.strongRecOn with
    | _ i ih =>
      intro hin
      cases hs : seen listed i with
      | true => rfl
      | false =>
        have hmem : i ∈ Region.ready .any all listed := by
          rw [mem_ready]
          have hsz : i < listed.size := by rw [hi.size]; exact hin
          refine ⟨by simpa [seen, hsz] using hs, all[i], by simp [hin], fun e he hb => ?_⟩
          simp only [drawOK, Bool.and_eq_true] at hd
          have hlt := upB_spec _ 0 hd.1 i all[i] e (by simp [hin]) (by simpa using he) (by rw [bindsB_eq]; exact hb)
          exact ih e.on (by omega) (by omega)
        rw [hr] at hmem; cases hmem
  intro fuel
  induction fuel with
  | zero =>
    intro listed a w μ hi hl
    have hall' := fun i (h : i < all.size) => left_zero (n := all.size) (Nat.le_zero.1 hl) h
    refine ⟨?_, draw_fin ht hq hi hall'⟩
    cases hr : Region.ready .any all listed with
    | nil => rfl
    | cons i r =>
      obtain ⟨h1, o, h2, _⟩ := mem_ready.1 (by rw [hr]; exact List.mem_cons_self : i ∈ Region.ready .any all listed)
      have hin : i < all.size := (Array.getElem?_eq_some_iff.1 h2).1
      have := hall' i hin
      have hsz := seen_lt this
      simp [seen, hsz] at this h1
      rw [this] at h1; cases h1
  | succ fuel ih =>
    intro listed a w μ hi hl
    refine ⟨fun hr => draw_fin ht hq hi (hdone listed a w μ hi hr), fun i hir => ?_⟩
    have hsi : seen listed i = false ∧ i < all.size := by
      obtain ⟨h1, o, h2, _⟩ := mem_ready.1 hir
      have hin : i < all.size := (Array.getElem?_eq_some_iff.1 h2).1
      have : i < listed.size := by rw [hi.size]; exact hin
      exact ⟨by simpa [seen, this] using h1, hin⟩
    refine draw_step hT ht hd hall hi hir fun a' w' μ' hi' => ih _ a' w' μ' hi' ?_
    have := left_set hi.size hsi.2 hsi.1
    omega

theorem xreg_draw {ops : Array Oper} {id : Nat} {Q : Exit → Act → World → Prop} {a : Act} {w : World} {μ : List Plc} (hF : Γ.P.follows .mixedOrders = true) (hT : TOk Γ.P T) (hd : drawOK ops.toList = true) (hall : ∀ o ∈ ops.toList, operOK nt o = true)
    (h : xg Γ.P true (callD Γ.P) T n0 ops.toList ops.toList 0 [] E [] H K) (hok : Ok Γ nt E H a w μ) (hq : ∀ E' H' a' w' μ', K E' H' → Ok Γ nt E' H' a' w' μ' → Q .normal a' w') : (Code.region id ops true).wp Γ.P Q a w := by
  obtain ⟨Ls, Es, Hs, v, eff, ts, run, ht⟩ := xdraw_trace _ _ _ _ _ (look E) _ h ⟨fun _ => .inr rfl, fun p hp => by cases hp⟩
  refine wp_region_any hF ?_
  obtain ⟨hm1, hp1⟩ := hok.mem.grow (w' := { w with drawn := w.drawn + 1 }) (Nat.le_refl _) (fun _ _ => rfl) rfl rfl rfl
  obtain ⟨hm2, hp2⟩ := hm1.pads ((Hs ops.size).length - H.length)
  have hle : H.length ≤ (Hs ops.size).length := by have := len_mono ht (p := 0) (q := ops.size) (by omega) (by simp); rwa [ht.h0] at this
  have hno : ∀ j, seen (Array.replicate ops.size false) j = false := fun j => by
    by_cases hj : j < ops.size <;> simp [seen, hj]
  have h0 : ∀ {α : Type} (wr : Nat → Option α) (init : α) (n : Nat), lastW wr (seen (Array.replicate ops.size false)) init n = init := fun wr init n => by
    induction n with
    | zero => rfl
    | succ n ih => simp only [lastW, hno, ih]; simp
  refine draw_any hT ht hd hall hq _ _ a _ (μ ++ List.replicate ((Hs ops.size).length - H.length) .free) ⟨by simp, (fun i o e hs => by rw [hno] at hs; cases hs), ?_, fun t => ?_, hok.size, hok.defers, fun i hi hn _ => ?_, (fun j hj hs => by rw [hno] at hs; cases hs)⟩ ?_
  · have e : heapAt Hs eff H ops.size (seen (Array.replicate ops.size false)) = H ++ List.replicate ((Hs ops.size).length - H.length) .dead := by
      refine List.ext_getElem? fun b => ?_
      by_cases hb : b < (Hs ops.size).length
      · rw [heapAt_get hb, h0]
        by_cases hbH : b < H.length
        · rw [List.getElem?_append_left hbH]; simp [ini, hbH]
        · rw [List.getElem?_append_right (by omega), List.getElem?_replicate, if_pos (by omega)]
          simp [ini, List.getElem?_eq_none (by omega : H.length ≤ b)]
      · rw [List.getElem?_eq_none (by rw [heapAt_length]; omega), List.getElem?_eq_none (by simp; omega)]
    rw [e]; exact hm2
  · rw [h0]; exact (hp1.trans hp2).rep (hok.env t)
  · have h1 := len_mono ht (p := 0) (q := i) (by omega) (by simp; omega)
    rw [ht.h0] at h1
    have h2 := step_len ht (p := i) (by simpa using hi)
    rw [hn] at h2
    have h3 := len_mono ht (p := i + 1) (q := ops.size) (by omega) (by simp)
    simp only [if_true] at h2
    rw [List.getElem?_append_right (by rw [hok.mem.len]; exact h1), List.getElem?_replicate, if_pos (by rw [hok.mem.len]; omega)]
  · have : (List.filter (fun i => !seen (Array.replicate ops.size false) i) (List.range ops.size)).length ≤ ops.size := by
      have := List.length_filter_le (fun i => !seen (Array.replicate ops.size false) i) (List.range ops.size)
      simpa using this
    exact this

end Go.AW

/- AW, part 13D: a region whose order is drawn, with an end that stands in order behind a head. -/
namespace Go.AW
open Go Go.RowKit
variable {Γ : Ctx} {nt : Nat} {T : TTab} {n0 : Nat} {all hd : Array Oper} {E : Env} {H : Heap} {K K1 : Env → Heap → Prop} {L : Nat → V} {Ls : Nat → Nat → V} {Es : Nat → Env} {Hs : Nat → Heap} {v : Nat → V} {eff : Nat → Eff} {ts : Nat → List (Nat × Bool)} {run : Nat → Bool}

def waitsB (all : List Oper) (j i : Nat) : Bool := match all[j]? with
  | some o => o.after.toList.any fun e => bindsB e && Nat.beq e.on i
  | none => false

def isMove (o : Oper) : Bool := match o.op, o.guard with
  | .move _, none => true
  | _, _ => false

/-- Moves that are carried out first. -/
def exB (all : Array Oper) : List Nat → Array Bool → Bool
  | [], _ => true
  | i :: r, l => (match all[i]? with | some o => isMove o | none => false) && Region.free .any all l i && (Region.ready .any all l).contains i && exB all r (l.setIfInBounds i true)

def guardB (n : Nat) (o : Oper) : Bool := match o.guard with
  | some (j, _) => Nat.blt j n
  | none => true

noncomputable def tailB (ops : List Oper) (n : Nat) (exs : List Nat) : Bool :=
  Nat.blt n ops.length && exs.all (fun i => Nat.blt i n) && drawOK (ops.take n) && (ops.take n).all (guardB n) && Region.noSelect ops.toArray &&
  (List.range n).all (fun i => exs.any (Nat.beq i) || (List.range (n + 1)).any fun j => Nat.blt i j && waitsB ops j i) &&
  (List.range ops.length).all (fun t => Nat.ble t n || waitsB ops t (t - 1)) && exB ops.toArray exs (Array.replicate ops.length false)

theorem waitsB_spec {l : List Oper} {j i : Nat} (h : waitsB l j i = true) : ∃ o, l[j]? = some o ∧ ∃ e ∈ o.after.toList, bindsB e = true ∧ e.on = i := by
  unfold waitsB at h
  split at h
  · rename_i o ho
    obtain ⟨e, he, hb⟩ := List.any_eq_true.1 h
    simp only [Bool.and_eq_true] at hb
    exact ⟨o, ho, e, he, hb.1, Nat.eq_of_beq_eq_true hb.2⟩
  · cases h

theorem getD_seen {l : Array Bool} {j : Nat} (h : j < l.size) (d : Bool) : l.getD j d = seen l j := by simp [seen, h]

theorem ready_iff {l : Array Bool} (hs : l.size = all.size) {i : Nat} : i ∈ Region.ready .any all l ↔ i < all.size ∧ seen l i = false ∧ ∀ o e, all.toList[i]? = some o → e ∈ o.after.toList → bindsB e = true → seen l e.on = true := by
  rw [mem_ready]
  constructor
  · rintro ⟨h1, o, h2, h3⟩
    have hi : i < all.size := (Array.getElem?_eq_some_iff.1 h2).1
    refine ⟨hi, by rw [← getD_seen (by omega) true]; exact h1, fun o' e h4 h5 h6 => ?_⟩
    have : o' = o := by have h2' : all.toList[i]? = some o := by simpa using h2
                        rw [h4] at h2'; exact Option.some.inj h2'
    subst this
    exact h3 e (by simpa using h5) (by rw [← bindsB_eq]; exact h6)
  · rintro ⟨hi, h1, h2⟩
    refine ⟨by rw [getD_seen (by omega)]; exact h1, all[i], by simp [hi], fun e he hb => h2 all[i] e (by simp [hi]) (by simpa using he) (by rw [bindsB_eq]; exact hb)⟩

/-- The end, in order. -/
theorem any_tail {Q : Exit → Act → World → Prop} {n : Nat} (hd : drawOK all.toList = true) (hch : ∀ t, n < t → t < all.size → waitsB all.toList t (t - 1) = true) : ∀ (m k fuel : Nat) (l : Array Bool) (a : Act) (w : World),
    n ≤ k → k + m = all.size → m ≤ fuel → l.size = all.size → (∀ j, seen l j = decide (j < k)) → wpOps Γ.P all Q (List.range' k m) a w → wpAny Γ.P .any all Q fuel l a w
  | 0, k, fuel, l, a, w, hnk, hk, hf, hs, hl, h => by
    have hr : Region.ready .any all l = [] := by
      rw [List.eq_nil_iff_forall_not_mem]
      intro i hi
      obtain ⟨h1, h2, _⟩ := (ready_iff hs).1 hi
      rw [hl] at h2
      simp at h2; omega
    exact wpAny_done hr h fuel
  | m + 1, k, 0, l, a, w, hnk, hk, hf, hs, hl, h => by omega
  | m + 1, k, fuel + 1, l, a, w, hnk, hk, hf, hs, hl, h => by
    have hkr : k ∈ Region.ready .any all l := by
      rw [ready_iff hs]
      refine ⟨by omega, by rw [hl]; simp, fun o e h1 h2 h3 => ?_⟩
      simp only [drawOK, Bool.and_eq_true] at hd
      have := upB_spec _ 0 hd.1 k o e h1 h2 h3
      rw [hl]; simp; omega
    refine ⟨fun h0 => (by rw [h0] at hkr; cases hkr), fun i hi => ?_⟩
    obtain ⟨h1, h2, h3⟩ := (ready_iff hs).1 hi
    rw [hl] at h2
    have hik : k ≤ i := by simpa using h2
    have : i = k := by
      rcases Nat.lt_or_ge k i with hlt | hge
      · obtain ⟨o, h4, e, h5, h6, h7⟩ := waitsB_spec (hch i (by omega) h1)
        have := h3 o e h4 h5 h6
        rw [h7, hl] at this
        have := of_decide_eq_true this
        omega
      · omega
    subst this
    rw [List.range'_succ, wpOps_cons] at h
    refine wpOp_mono (fun a' w' h' => any_tail hd hch m (i + 1) fuel _ a' w' (by omega) (by omega) (by omega) (by simpa using hs) (fun j => ?_) h') h
    rw [seen_set (by omega), hl]
    by_cases hj : j < i
    · simp [hj]; omega
    · by_cases hji : j = i
      · simp [hji]
      · simp [hj, hji]; omega

theorem wpOp_head {P : Program} {Q : Exit → Act → World → Prop} {n i : Nat} {a : Act} {w : World} {next : Act → World → Prop} (hsub : ∀ j, j < n → hd[j]? = all[j]?) (hi : i < n) (hg : ∀ o, all[i]? = some o → guardB n o = true)
    (h : wpOp P hd Q i next a w) : wpOp P all Q i next a w := by
  unfold wpOp at h ⊢
  rw [hsub i hi] at h
  cases ho : all[i]? with
  | none => rw [ho] at h; exact h
  | some o =>
    rw [ho] at h
    have e : Region.wanted o (yielded hd a.tmps) = Region.wanted o (yielded all a.tmps) := by
      unfold Region.wanted
      cases hgo : o.guard with
      | none => rfl
      | some g =>
        obtain ⟨j, want⟩ := g
        have := hg o ho
        unfold guardB at this
        rw [hgo] at this
        have hj : j < n := by simpa [Nat.blt_eq] using this
        simp only [yielded, hsub j hj]
    simp only [e] at h
    exact h

section
variable {n : Nat} {exs : List Nat} {C : Calling}

/-- The head in any order, then the end. -/
theorem draw_head {Q : Exit → Act → World → Prop} {m : Nat} (hT : TOk Γ.P T) (ht : Trace Γ.P T n0 hd.toList hd.toList 0 [] L H K1 Ls Es Hs v eff ts run) (hd1 : drawOK hd.toList = true) (hd2 : drawOK all.toList = true) (hall : ∀ o ∈ hd.toList, operOK nt o = true)
    (hn : hd.size = n) (hm : n + m = all.size) (hsub : ∀ j, j < n → hd[j]? = all[j]?) (hg : ∀ i, i < n → ∀ o, all[i]? = some o → guardB n o = true)
    (hsink : ∀ i, i < n → i ∈ exs ∨ ∃ j, i < j ∧ j ≤ n ∧ waitsB all.toList j i = true) (hch : ∀ t, n < t → t < all.size → waitsB all.toList t (t - 1) = true)
    (hq : ∀ E' H' a' w' μ', K1 E' H' → Ok Γ nt E' H' a' w' μ' → wpOps Γ.P all Q (List.range' n m) a' w') : ∀ (fuel : Nat) (l full : Array Bool) (a : Act) (w : World) (μ : List Plc), Inv Γ nt hd L H Hs v eff ts l a w μ → full.size = all.size → (∀ j, seen full j = seen l j) →
      (∀ i ∈ exs, seen l i = true) → left n l + m ≤ fuel → wpAny Γ.P .any all Q fuel full a w := by
  intro fuel
  induction fuel with
  | zero =>
    intro l full a w μ hi hfs hrel hex hf
    have hs : ∀ i, i < n → seen l i = true := fun i h => left_zero (by omega : left n l = 0) h
    have h1 := draw_fin (Q := fun e a w => e = .normal → wpOps Γ.P all Q (List.range' n m) a w) ht (fun E' H' a' w' μ' hk hok _ => hq E' H' a' w' μ' hk hok) hi (fun i h => hs i (by omega))
    refine any_tail hd2 hch m n 0 full a w (Nat.le_refl _) hm (by omega) hfs (fun j => ?_) (h1 rfl)
    rw [hrel]
    by_cases hj : j < n
    · rw [hs j hj]; simp [hj]
    · cases hsj : seen l j with
      | false => simp [hj]
      | true => exact absurd (seen_lt hsj) (by rw [hi.size, hn]; exact hj)
  | succ fuel ih =>
    intro l full a w μ hi hfs hrel hex hf
    have hout : ∀ j, n ≤ j → seen l j = false := fun j hj => by
      cases hsj : seen l j with
      | false => rfl
      | true => exact absurd (seen_lt hsj) (by rw [hi.size, hn]; omega)
    by_cases hdone : ∀ i, i < n → seen l i = true
    · have h1 := draw_fin (Q := fun e a w => e = .normal → wpOps Γ.P all Q (List.range' n m) a w) ht (fun E' H' a' w' μ' hk hok _ => hq E' H' a' w' μ' hk hok) hi (fun i h => hdone i (by omega))
      refine any_tail hd2 hch m n (fuel + 1) full a w (Nat.le_refl _) hm (by omega) hfs (fun j => ?_) (h1 rfl)
      rw [hrel]
      by_cases hj : j < n
      · rw [hdone j hj]; simp [hj]
      · rw [hout j (by omega)]; simp [hj]
    · -- some head is left: what is ready is a head
      have hclosed : ∀ j o e, seen full j = true → all.toList[j]? = some o → e ∈ o.after.toList → bindsB e = true → seen full e.on = true := fun j o e h1 h2 h3 h4 => by
        rw [hrel] at h1 ⊢
        have hjn : j < n := by have := seen_lt h1; rw [hi.size, hn] at this; exact this
        refine hi.closed j o e h1 ?_ h3 h4
        have := hsub j hjn
        have h2' : all[j]? = some o := by simpa using h2
        rw [h2'] at this
        simpa using this
      have hhead : ∀ i ∈ Region.ready .any all full, i < n := fun i hir => by
        obtain ⟨h1, h2, h3⟩ := (ready_iff hfs).1 hir
        rcases Nat.lt_or_ge i n with h | h
        · exact h
        · exfalso
          rcases Nat.lt_or_ge n i with h4 | h4
          · obtain ⟨o, h5, e, h6, h7, h8⟩ := waitsB_spec (hch i h4 h1)
            have := h3 o e h5 h6 h7
            rw [h8, hrel, hout _ (by omega)] at this
            cases this
          · have hin : i = n := by omega
            subst hin
            have hback : ∀ d k, k + d = i → k < i → seen full k = true := by
              intro d
              induction d using Nat.strongRecOn with
              | _ d ihd =>
                intro k hk hki
                rcases hsink k hki with h5 | ⟨j, h5, h6, h7⟩
                · rw [hrel]; exact hex k h5
                · obtain ⟨o, h8, e, h9, h10, h11⟩ := waitsB_spec h7
                  rw [← h11]
                  rcases Nat.lt_or_ge j i with hji | hji
                  · exact hclosed j o e (ihd (i - j) (by omega) j (by omega) hji) h8 h9 h10
                  · have : j = i := by omega
                    subst this
                    exact h3 o e h8 h9 h10
            exact hdone fun k hk => by rw [← hrel]; exact hback (i - k) k (by omega) hk
      refine ⟨fun hr => ?_, fun i hir => ?_⟩
      · exfalso
        refine hdone fun i => ?_
        induction i using Nat.strongRecOn with
        | _ i ih =>
          intro hin
          cases hs : seen l i with
          | true => rfl
          | false =>
            have hmem : i ∈ Region.ready .any all full := by
              rw [ready_iff hfs]
              refine ⟨by omega, by rw [hrel]; exact hs, fun o e h1 h2 h3 => ?_⟩
              simp only [drawOK, Bool.and_eq_true] at hd2
              have := upB_spec _ 0 hd2.1 i o e h1 h2 h3
              rw [hrel]; exact ih e.on (by omega) (by omega)
            rw [hr] at hmem; cases hmem
      · have hin := hhead i hir
        obtain ⟨h1, h2, h3⟩ := (ready_iff hfs).1 hir
        have hir' : i ∈ Region.ready .any hd l := by
          rw [ready_iff hi.size]
          refine ⟨by omega, by rw [← hrel]; exact h2, fun o e h4 h5 h6 => ?_⟩
          rw [← hrel]
          refine h3 o e ?_ h5 h6
          have := hsub i hin
          have h4' : hd[i]? = some o := by simpa using h4
          rw [h4'] at this
          simpa using this.symm
        refine wpOp_head hsub hin (hg i hin) (draw_step hT ht hd1 hall hi hir' fun a' w' μ' hi' => ih _ _ a' w' μ' hi' (by simpa using hfs) (fun j => ?_) (fun k hk => ?_) ?_)
        · rw [seen_set (by omega), seen_set (by rw [hi.size]; omega), hrel]
        · rw [seen_set (by rw [hi.size]; omega), hex k hk]; rfl
        · have := left_set (n := n) (by rw [hi.size, hn]) hin (by rw [← hrel]; exact h2)
          omega

theorem isMove_spec {o : Oper} (h : isMove o = true) : o.guard = none ∧ ∃ x, o.op = .move x := by
  unfold isMove at h
  split at h
  · rename_i x h1 h2; exact ⟨h2, x, h1⟩
  · cases h

theorem move_yields {P : Program} {o : Oper} (h : isMove o = true) (a : Act) : ∃ u, (∀ w, (execOp a.eval o).run P w = .ok (.value u) w) ∧ ∀ ops : Array Oper, Region.wanted o (yielded ops a.tmps) = true := by
  obtain ⟨h1, x, h2⟩ := isMove_spec h
  refine ⟨a.eval x, fun w => ?_, fun ops => by simp [Region.wanted, h1]⟩
  unfold execOp
  simp only [h2]
  rfl

/-- First the moves that nothing of the end waits for. -/
theorem draw_ex {Q : Exit → Act → World → Prop} {m : Nat} (hT : TOk Γ.P T) (ht : Trace Γ.P T n0 hd.toList hd.toList 0 [] L H K1 Ls Es Hs v eff ts run) (hd1 : drawOK hd.toList = true) (hall : ∀ o ∈ hd.toList, operOK nt o = true)
    (hn : hd.size = n) (hsub : ∀ j, j < n → hd[j]? = all[j]?) (hsel : Region.noSelect all = true) (hQ : ∀ c a w, ¬ Q (.panic c) a w) (hexn : ∀ i ∈ exs, i < n)
    (hgo : ∀ (fuel : Nat) (l full : Array Bool) (a : Act) (w : World) (μ : List Plc), Inv Γ nt hd L H Hs v eff ts l a w μ → full.size = all.size → (∀ j, seen full j = seen l j) →
      (∀ i ∈ exs, seen l i = true) → left n l + m ≤ fuel → wpAny Γ.P .any all Q fuel full a w) : ∀ (r : List Nat) (fuel : Nat) (l full : Array Bool) (a : Act) (w : World) (μ : List Plc), (∀ i ∈ r, i ∈ exs) → exB all r full = true → Inv Γ nt hd L H Hs v eff ts l a w μ → full.size = all.size → (∀ j, seen full j = seen l j) →
      (∀ i ∈ exs, seen l i = true ∨ i ∈ r) → left n l + m ≤ fuel → wpAny Γ.P .any all Q fuel full a w
  | [], fuel, l, full, a, w, μ, _, _, hi, hfs, hrel, hex, hf => hgo fuel l full a w μ hi hfs hrel (fun i h => (hex i h).resolve_right (by simp)) hf
  | i :: r, fuel, l, full, a, w, μ, hr, hB, hi, hfs, hrel, hex, hf => by
    simp only [exB, Bool.and_eq_true] at hB
    obtain ⟨⟨⟨h1, h2⟩, h3⟩, h4⟩ := hB
    have hin := hexn i (hr i List.mem_cons_self)
    have hir : i ∈ Region.ready .any all full := by simpa using h3
    obtain ⟨g1, g2, g3⟩ := (ready_iff hfs).1 hir
    have hsi : seen l i = false := by rw [← hrel]; exact g2
    have hir' : i ∈ Region.ready .any hd l := by
      rw [ready_iff hi.size]
      refine ⟨by omega, hsi, fun o e h4 h5 h6 => ?_⟩
      rw [← hrel]
      refine g3 o e ?_ h5 h6
      have := hsub i hin
      have h4' : hd[i]? = some o := by simpa using h4
      rw [h4'] at this
      simpa using this.symm
    cases ho : all[i]? with
    | none => rw [ho] at h1; cases h1
    | some o =>
      rw [ho] at h1
      obtain ⟨u, hu, hw⟩ := move_yields (P := Γ.P) h1 a
      have hlt := left_set (n := n) (by rw [hi.size, hn]) hin hsi
      have hst : wpOp Γ.P hd (fun _ _ _ => False) i (fun a' w' => ∃ μ', Inv Γ nt hd L H Hs v eff ts (l.setIfInBounds i true) a' w' μ') a w :=
        draw_step hT ht hd1 hall hi hir' fun a' w' μ' hi' => ⟨μ', hi'⟩
      unfold wpOp at hst
      rw [hsub i hin, ho] at hst
      simp only [hw hd, if_true] at hst
      have hinv : ∃ μ', Inv Γ nt hd L H Hs v eff ts (l.setIfInBounds i true) (a.put o.dst u) w μ' := by
        rcases hst with hst | ⟨_, hst⟩
        · unfold Oper.wp at hst; rw [hu w] at hst; exact hst
        · exact absurd hst (by unfold LetsOut; simp)
      obtain ⟨μ', hi'⟩ := hinv
      cases fuel with
      | zero => omega
      | succ fuel =>
        refine wpAny_take ho hsel h2 h3 (fun c a w h => absurd h (hQ c _ _)) (.inl ⟨hw all, hu⟩) ?_
        refine draw_ex hT ht hd1 hall hn hsub hsel hQ hexn hgo r fuel _ _ _ w μ' (fun k hk => hr k (List.mem_cons_of_mem _ hk)) h4 hi' (by simpa using hfs) (fun j => ?_) (fun k hk => ?_) (by omega)
        · rw [seen_set (by omega), seen_set (by rw [hi.size]; omega), hrel]
        · rw [seen_set (by rw [hi.size]; omega)]
          rcases hex k hk with h | h
          · left; rw [h]; rfl
          · rcases List.mem_cons.1 h with h | h
            · left; subst h; simp
            · exact .inr h

theorem xreg_tail {ops : Array Oper} {id : Nat} {Q : Exit → Act → World → Prop} {a : Act} {w : World} {μ : List Plc} (hF : Γ.P.follows .mixedOrders = true) (hT : TOk Γ.P T) (hC : CallsOk Γ C) (hd : drawOK ops.toList = true) (hall : ∀ o ∈ ops.toList, operOK nt o = true)
    (hB : tailB ops.toList n exs = true) (hQ : ∀ c a w, ¬ Q (.panic c) a w)
    (h : xg Γ.P true (callD Γ.P) T n0 (ops.toList.take n) (ops.toList.take n) 0 [] E [] H (fun E2 H2 => xg Γ.P false C T n0 ops.toList (ops.toList.drop n) n [] E2 [] H2 K)) (hok : Ok Γ nt E H a w μ)
    (hq : ∀ E' H' a' w' μ', K E' H' → Ok Γ nt E' H' a' w' μ' → Q .normal a' w') : (Code.region id ops true).wp Γ.P Q a w := by
  simp only [tailB, Bool.and_eq_true, List.all_eq_true, List.mem_range, Bool.or_eq_true, List.any_eq_true, Nat.blt_eq, Nat.ble_eq] at hB
  obtain ⟨⟨⟨⟨⟨⟨⟨hnl, hexn⟩, hdt⟩, hgt⟩, hsel⟩, hsink⟩, hch⟩, hex⟩ := hB
  have hnl' : n < ops.size := by simpa using hnl
  obtain ⟨hd', rfl⟩ : ∃ l : Array Oper, l = (ops.toList.take n).toArray := ⟨_, rfl⟩
  have eL : ((ops.toList.take n).toArray).toList = ops.toList.take n := rfl
  have hdn : ((ops.toList.take n).toArray).size = n := by simp; omega
  have hsub : ∀ j, j < n → ((ops.toList.take n).toArray)[j]? = ops[j]? := fun j hj => by simp [hj]
  obtain ⟨Ls, Es, Hs, v, eff, ts, run, ht⟩ := xdraw_trace _ _ _ _ _ (look E) _ h ⟨fun _ => .inr rfl, fun p hp => by cases hp⟩
  rw [← eL] at ht
  refine wp_region_any hF ?_
  obtain ⟨hm1, hp1⟩ := hok.mem.grow (w' := { w with drawn := w.drawn + 1 }) (Nat.le_refl _) (fun _ _ => rfl) rfl rfl rfl
  obtain ⟨hm2, hp2⟩ := hm1.pads ((Hs n).length - H.length)
  have hle : H.length ≤ (Hs n).length := by have := len_mono ht (p := 0) (q := n) (by omega) (by simp; omega); rwa [ht.h0] at this
  have hno : ∀ (N j : Nat), seen (Array.replicate N false) j = false := fun N j => by
    by_cases hj : j < N <;> simp [seen, hj]
  have h0 : ∀ {α : Type} (wr : Nat → Option α) (init : α) (N k : Nat), lastW wr (seen (Array.replicate N false)) init k = init := fun wr init N k => by
    induction k with
    | zero => rfl
    | succ k ih => simp only [lastW, hno, ih]; simp
  have hinv : Inv Γ nt (ops.toList.take n).toArray (look E) H Hs v eff ts (Array.replicate n false) a { w with drawn := w.drawn + 1 } (μ ++ List.replicate ((Hs n).length - H.length) .free) := by
    refine ⟨by simp; omega, (fun i o e hs => by rw [hno] at hs; cases hs), ?_, fun t => ?_, hok.size, hok.defers, fun i hi hn _ => ?_, (fun j hj hs => by rw [hno] at hs; cases hs)⟩
    · rw [hdn]
      have e : heapAt Hs eff H n (seen (Array.replicate n false)) = H ++ List.replicate ((Hs n).length - H.length) .dead := by
        refine List.ext_getElem? fun b => ?_
        by_cases hb : b < (Hs n).length
        · rw [heapAt_get hb, h0]
          by_cases hbH : b < H.length
          · rw [List.getElem?_append_left hbH]; simp [ini, hbH]
          · rw [List.getElem?_append_right (by omega), List.getElem?_replicate, if_pos (by omega)]
            simp [ini, List.getElem?_eq_none (by omega : H.length ≤ b)]
        · rw [List.getElem?_eq_none (by rw [heapAt_length]; omega), List.getElem?_eq_none (by simp; omega)]
      rw [e]; exact hm2
    · rw [h0]; exact (hp1.trans hp2).rep (hok.env t)
    · rw [hdn] at hi
      have h1 := len_mono ht (p := 0) (q := i) (by omega) (by simp; omega)
      rw [ht.h0] at h1
      have h2 := step_len ht (p := i) (by simp; omega)
      rw [hn] at h2
      have h3 := len_mono ht (p := i + 1) (q := n) (by omega) (by simp; omega)
      simp only [if_true] at h2
      rw [List.getElem?_append_right (by rw [hok.mem.len]; exact h1), List.getElem?_replicate, if_pos (by rw [hok.mem.len]; omega)]
  have hch' : ∀ t, n < t → t < ops.size → waitsB ops.toList t (t - 1) = true := fun t h1 h2 => by
    rcases hch t (by simpa using h2) with h3 | h3
    · omega
    · exact h3
  have hsink' : ∀ i, i < n → i ∈ exs ∨ ∃ j, i < j ∧ j ≤ n ∧ waitsB ops.toList j i = true := fun i hi => by
    rcases hsink i hi with ⟨x, hx, hxi⟩ | ⟨j, hj, h1, h2⟩
    · rw [Nat.eq_of_beq_eq_true hxi]; exact .inl hx
    · exact .inr ⟨j, h1, by omega, h2⟩
  have hgt' : ∀ i, i < n → ∀ o, ops[i]? = some o → guardB n o = true := fun i hi o ho => hgt o (by
    have : (ops.toList.take n)[i]? = some o := by rw [List.getElem?_take, if_pos hi]; simpa using ho
    exact List.mem_of_getElem? this)
  have hall' : ∀ o ∈ ((ops.toList.take n).toArray).toList, operOK nt o = true := fun o ho => hall o (List.mem_of_mem_take ho)
  have hgo := draw_head (all := ops) (m := ops.size - n) (exs := exs) (Q := Q) hT ht hdt hd hall' hdn (by omega) hsub hgt' hsink' hch' (fun E' H' a' w' μ' hk hok' => by
    have := xg_sound (nt := nt) (Q := Q) hT hC (ops.toList.drop n) n [] E' [] H' (look E') a' w' μ' rfl (fun o ho => hall o (List.mem_of_mem_drop ho)) hk ⟨fun _ => .inr rfl, fun p hp => by cases hp⟩ hok'.mem hok'.size hok'.env hok'.defers hq
    simpa using this)
  refine draw_ex (m := ops.size - n) hT ht hdt hall' hdn hsub hsel hQ hexn hgo exs ops.size (Array.replicate n false) (Array.replicate ops.size false) a _ _ (fun _ h => h) (by simpa using hex) hinv (by simp) (fun j => by rw [hno, hno]) (fun i h => .inr h) ?_
  have : left n (Array.replicate n false) ≤ n := by
    have := List.length_filter_le (fun i => !seen (Array.replicate n false) i) (List.range n)
    simpa [left] using this
  omega
end

end Go.AW

/- AW, part 14: the same state, seen otherwise. -/
namespace Go.AW
open Go Go.RowKit
variable {Γ : Ctx} {nt : Nat} {E : Env} {H : Heap} {w : World} {μ : List Plc} {a : Act}

/-! ### Views -/
noncomputable def SubE (A E : Env) : Prop := List.rec (motive := fun _ => Prop) True (fun p _ ih => look E p.1 = p.2 ∧ ih) A

theorem subE_look {A E : Env} (h : SubE A E) (t : Nat) : look A t = .bad ∨ look A t = look E t := by
  induction A with
  | nil => exact .inl rfl
  | cons p A ih =>
    have h' : look E p.1 = p.2 ∧ SubE A E := h
    obtain ⟨u, v⟩ := p
    rw [look_cons]
    split
    · rename_i he; subst he; exact .inr h'.1.symm
    · exact ih h'.2

def cl0 (n : Nat) : V → Bool
  | .fr _ => true
  | .fptr _ _ => true
  | .ptr b _ => Nat.blt b n
  | .buf b => Nat.blt b n
  | .bad => true
  | _ => false

def cl1 (n : Nat) : V → Bool
  | .agg xs => xs.all (cl0 n)
  | .clo _ xs => xs.all (cl0 n)
  | .tup xs => xs.all (cl0 n)
  | .ifc _ x => cl0 n x
  | v => cl0 n v

def clE (n : Nat) (E : Env) : Bool := E.all fun p => cl1 n p.2
def clH (n : Nat) (H : Heap) : Bool := H.all fun
  | .cells xs => xs.all (cl0 n)
  | _ => true

/-- A buffer is given another one's number, which is free. -/
noncomputable def rn0 (b' b : Nat) : V → V
  | .buf c => (match Nat.beq c b' with | true => .buf b | false => (match Nat.beq c b with | true => .bad | false => .buf c))
  | .ptr c o => (match Nat.beq c b' with | true => .bad | false => (match Nat.beq c b with | true => .bad | false => .ptr c o))
  | .fr f => .fr f
  | .fptr e o => .fptr e o
  | _ => .bad

noncomputable def rn1 (b' b : Nat) : V → V
  | .agg xs => .agg (xs.map (rn0 b' b))
  | .clo f xs => .clo f (xs.map (rn0 b' b))
  | .tup xs => .tup (xs.map (rn0 b' b))
  | .ifc t x => .ifc t (rn0 b' b x)
  | v => rn0 b' b v

noncomputable def rnB (b' b : Nat) : Blk → Blk
  | .cells xs => .cells (xs.map (rn0 b' b))
  | x => x

noncomputable def rnE (b' b : Nat) (E : Env) : Env := E.map fun p => (p.1, rn1 b' b p.2)
noncomputable def rnH (b' b : Nat) (H : Heap) : Heap := match nth H b' with
  | some x => setB (setB (H.map (rnB b' b)) b x) b' .dead
  | none => H

noncomputable def rnOK (b' b : Nat) (H : Heap) : Bool := match Nat.beq b b' with
  | true => false
  | false => (match nth H b, nth H b' with
    | some .dead, some (.buf _ _ _ _) => true
    | _, _ => false)

/-- A buffer counts as settled. -/
def fr0 (b n nb : Nat) (es : List (List F)) : V → V
  | .buf c => (match Nat.beq c b with | true => .fr (.sl n nb es) | false => .buf c)
  | .ptr c o => .ptr c o
  | .fr f => .fr f
  | .fptr e o => .fptr e o
  | _ => .bad

def fr1 (b n nb : Nat) (es : List (List F)) : V → V
  | .agg xs => .agg (xs.map (fr0 b n nb es))
  | .clo f xs => .clo f (xs.map (fr0 b n nb es))
  | .tup xs => .tup (xs.map (fr0 b n nb es))
  | .ifc t x => .ifc t (fr0 b n nb es x)
  | v => fr0 b n nb es v

def frB (b n nb : Nat) (es : List (List F)) : Blk → Blk
  | .cells xs => .cells (xs.map (fr0 b n nb es))
  | x => x

noncomputable def frV (b : Nat) (H : Heap) (v : V) : V := match nth H b with
  | some (.buf _ n nb es) => fr1 b n nb es v
  | _ => v
noncomputable def frE (b : Nat) (H : Heap) (E : Env) : Env := match nth H b with
  | some (.buf _ n nb es) => E.map fun p => (p.1, fr1 b n nb es p.2)
  | _ => E
noncomputable def frH (b : Nat) (H : Heap) : Heap := match nth H b with
  | some (.buf _ n nb es) => setB (H.map (frB b n nb es)) b .dead
  | _ => H

/-- The state, seen otherwise: A and B instead of E and H. -/
inductive ANx (N : Nat) (A : Env) (B : Heap) : Env → Heap → Prop where
  | refl : ANx N A B A B
  | same {E : Env} {H : Heap} (h : SubE A E) (hh : B = H) : ANx N A B E H
  | trunc {E : Env} {H : Heap} (J : Heap) (h : SubE A E) (hh : H = B ++ J) (cE : clE B.length A = true) (cH : clH B.length B = true) (hN : Nat.ble N B.length = true) : ANx N A B E H
  | move {E : Env} {H : Heap} (b' b : Nat) (hb : rnOK b' b H = true) (h : ANx N A B (rnE b' b E) (rnH b' b H)) : ANx N A B E H
  | frz {E : Env} {H : Heap} (b : Nat) (h : ANx N A B (frE b H E) (frH b H)) : ANx N A B E H
  | thaw {E : Env} {H : Heap} (d e n nb : Nat) (hn : look E d = .fr (.sc (.slice none 0 0))) (h : ANx N A B ((d, .buf H.length) :: E) (H ++ [.buf e n nb []])) : ANx N A B E H
  | let_ {E : Env} {H : Heap} (d : Nat) {v : V} (hv : look E d = v) (h : ANx N A B ((d, v) :: E) H) : ANx N A B E H
  | thawC {E : Env} {H : Heap} (b i e n nb : Nat) {xs : List V} (hb : nth H b = some (.cells xs)) (hx : nth xs i = some (.fr (.sc (.slice none 0 0)))) (h : ANx N A B E (setB (H ++ [.buf e n nb []]) b (.cells (xs.set i (.buf H.length))))) : ANx N A B E H

theorem rep_cl0 {I I' : Nat → Prop} {μ : List Plc} {n : Nat} {x : V} {v : Value} (h : RepV w I μ x v) (hc : cl0 n x = true) (hI : ∀ k, I k → I' k) : RepV w I' (μ.take n) x v := by
  have hg : ∀ (b : Nat) (l : Plc), Nat.blt b n = true → μ[b]? = some l → (μ.take n)[b]? = some l := fun b l hb hl => by
    rw [List.getElem?_take, if_pos (by simpa [Nat.blt_eq] using hb)]; exact hl
  cases h with
  | fr f v h => exact .fr f v (h.mono hI (fun _ _ => rfl))
  | ptr b o k hl => exact .ptr b o k (hg _ _ hc hl)
  | fptr es o k o0 cv hk hcc hr => exact .fptr es o k o0 cv (hI _ hk) hcc (fun j f hj => (hr j f hj).mono hI (fun _ _ => rfl))
  | buf b m c a hl => exact .buf b m c a (hg _ _ hc hl)
  | bdead b v hl h1 => exact .bdead b v (hg _ _ hc hl) h1
  | bad v => exact .bad v
  | _ => cases hc

theorem rep_cl1 {I I' : Nat → Prop} {μ : List Plc} {n : Nat} {x : V} {v : Value} (h : RepV w I μ x v) (hc : cl1 n x = true) (hI : ∀ k, I k → I' k) : RepV w I' (μ.take n) x v := by
  cases h with
  | agg xs vs hl h1 h => exact .agg xs vs hl h1 (fun i y hy => rep_cl0 (h i y hy) (List.all_eq_true.1 hc y (List.mem_of_getElem? hy)) hI)
  | clo f xs vs hl h => exact .clo f xs vs hl (fun i y hy => rep_cl0 (h i y hy) (List.all_eq_true.1 hc y (List.mem_of_getElem? hy)) hI)
  | tup xs vs hl h => exact .tup xs vs hl (fun i y hy => rep_cl0 (h i y hy) (List.all_eq_true.1 hc y (List.mem_of_getElem? hy)) hI)
  | ifc t x v h => exact .ifc t x v (rep_cl0 h hc hI)
  | mth m t x v h => exact rep_cl0 (.mth m t x v h) hc hI
  | fr f v h => exact rep_cl0 (.fr f v h) hc hI
  | ptr b o k hl => exact rep_cl0 (.ptr b o k hl) hc hI
  | fptr es o k o0 cv hk hcc hr => exact rep_cl0 (.fptr es o k o0 cv hk hcc hr) hc hI
  | buf b m c a hl => exact rep_cl0 (.buf b m c a hl) hc hI
  | bdead b v hl h1 => exact rep_cl0 (.bdead b v hl h1) hc hI
  | bp c q k m cap hl => exact rep_cl0 (.bp c q k m cap hl) hc hI
  | bpd c q k hl => exact rep_cl0 (.bpd c q k hl) hc hI
  | bv b lo n m c a hl hle => exact rep_cl0 (.bv b lo n m c a hl hle) hc hI
  | bvd b lo n v hl h1 => exact rep_cl0 (.bvd b lo n v hl h1) hc hI
  | bad v => exact .bad v

theorem look_mem {P : V → Bool} (hP : P .bad = true) {E : Env} (h : E.all (fun p => P p.2) = true) (t : Nat) : P (look E t) = true := by
  induction E with
  | nil => exact hP
  | cons p E ih =>
    obtain ⟨u, v⟩ := p
    simp only [List.all_cons, Bool.and_eq_true] at h
    rw [look_cons]
    split
    · exact h.1
    · exact ih h.2

/-- Blocks that nobody needs any more are let go. -/
theorem Mem.take {J : Heap} (hm : Mem Γ (H ++ J) w μ) (hN : Γ.μ0.length ≤ H.length) (hc : clH H.length H = true) : Mem Γ H w (μ.take H.length) ∧ (∀ k, Imm Γ w μ k → Imm Γ w (μ.take H.length) k) := by
  have hget : ∀ i l, (μ.take H.length)[i]? = some l → i < H.length ∧ μ[i]? = some l := fun i l h => by
    rw [List.getElem?_take] at h
    by_cases hi : i < H.length
    · rw [if_pos hi] at h; exact ⟨hi, h⟩
    · rw [if_neg hi] at h; cases h
  have hown : ∀ k, owned (μ.take H.length) k → owned μ k := fun k ⟨i, l, h, hk⟩ => ⟨i, l, (hget i l h).2, hk⟩
  have himm : ∀ k, Imm Γ w μ k → Imm Γ w (μ.take H.length) k := fun k ⟨i1, i2, i3⟩ => ⟨i1, i2, fun h => i3 (hown k h)⟩
  refine ⟨⟨by rw [List.length_take, hm.len]; simp, fun k hk => hm.below k (hown k hk), fun k hk => hm.own0 k (hown k hk), fun i j l1 l2 k hi hj => hm.inj i j l1 l2 k (hget i l1 hi).2 (hget j l2 hj).2, fun i b l hi hl => ?_, hm.ext, hm.i0, fun i k hi => by
    obtain ⟨h4, ys, h5⟩ := hm.pin i k hi
    have hlt : i < H.length := Nat.lt_of_lt_of_le (List.getElem?_eq_some_iff.1 hi).1 hN
    exact ⟨by rw [List.getElem?_take, if_pos hlt]; exact h4, ys, by rw [List.getElem?_append_left hlt] at h5; exact h5⟩⟩, himm⟩
  obtain ⟨hlt, hl'⟩ := hget i l hl
  have hb := hm.blk i b l (by rw [List.getElem?_append_left hlt]; exact hi) hl'
  cases b with
  | cells xs =>
    cases l with
    | at_ k =>
      obtain ⟨c, e, h1, h2, h3, h4⟩ := hb
      have hcx := List.all_eq_true.1 hc _ (List.mem_of_getElem? hi)
      exact ⟨c, e, h1, h2, h3, fun j x hx => rep_cl0 (h4 j x hx) (List.all_eq_true.1 hcx x (List.mem_of_getElem? hx)) himm⟩
    | hdr => exact hb.elim
    | none => exact hb.elim
    | free => exact hb.elim
  | buf e n nb es =>
    cases l with
    | at_ => exact hb.elim
    | hdr ad m c =>
      obtain ⟨h1, h0, h2, vs, h3, h4⟩ := hb
      exact ⟨h1, h0, h2, vs, h3, fun j f hf => (h4 j f hf).mono himm (fun _ _ => rfl)⟩
    | none => exact hb.elim
    | free => exact hb.elim
  | dead => trivial

theorem look_map (g : V → V) (hg : g .bad = .bad) (E : Env) (t : Nat) : look (E.map fun p => (p.1, g p.2)) t = g (look E t) := by
  induction E with
  | nil => exact hg.symm
  | cons p E ih =>
    obtain ⟨u, v⟩ := p
    rw [List.map_cons, look_cons, look_cons]
    split
    · rfl
    · exact ih

theorem rep_rn0 {I : Nat → Prop} {μ μ' : List Plc} {b' b : Nat} (ho : ∀ i l, i ≠ b → i ≠ b' → μ[i]? = some l → μ'[i]? = some l) (hb : ∀ l, μ[b']? = some l → μ'[b]? = some l) {x : V} {v : Value} (h : RepV w I μ x v) : RepV w I μ' (rn0 b' b x) v := by
  cases h with
  | fr f v h => exact .fr f v h
  | ptr c o k hl =>
    simp only [rn0]
    split
    · exact .bad _
    · rename_i h1
      split
      · exact .bad _
      · rename_i h2
        exact .ptr _ _ _ (ho _ _ (Nat.ne_of_beq_eq_false h2) (Nat.ne_of_beq_eq_false h1) hl)
  | fptr es o k o0 cv hk hcc hr => exact .fptr es o k o0 cv hk hcc hr
  | buf c m cap a hl =>
    simp only [rn0]
    split
    · rename_i h1
      have := Nat.eq_of_beq_eq_true h1
      subst this
      exact .buf _ _ _ _ (hb _ hl)
    · rename_i h1
      split
      · exact .bad _
      · rename_i h2
        exact .buf _ _ _ _ (ho _ _ (Nat.ne_of_beq_eq_false h2) (Nat.ne_of_beq_eq_false h1) hl)
  | bdead c v hl h0 =>
    simp only [rn0]
    split
    · rename_i h1
      have := Nat.eq_of_beq_eq_true h1
      subst this
      exact .bdead _ _ (hb _ hl) h0
    · rename_i h1
      split
      · exact .bad _
      · rename_i h2
        exact .bdead _ _ (ho _ _ (Nat.ne_of_beq_eq_false h2) (Nat.ne_of_beq_eq_false h1) hl) h0
  | _ => exact .bad _

theorem rep_rn1 {I : Nat → Prop} {μ μ' : List Plc} {b' b : Nat} (ho : ∀ i l, i ≠ b → i ≠ b' → μ[i]? = some l → μ'[i]? = some l) (hb : ∀ l, μ[b']? = some l → μ'[b]? = some l) {x : V} {v : Value} (h : RepV w I μ x v) : RepV w I μ' (rn1 b' b x) v := by
  have many : ∀ {xs : List V} {g : Nat → Value}, (∀ (i : Nat) (x : V), xs[i]? = some x → RepV w I μ x (g i)) → ∀ (i : Nat) (x : V), (xs.map (rn0 b' b))[i]? = some x → RepV w I μ' x (g i) := by
    intro xs g hx i x hi
    rw [List.getElem?_map] at hi
    cases hq : xs[i]? with
    | none => rw [hq] at hi; cases hi
    | some y => rw [hq] at hi; cases hi; exact rep_rn0 ho hb (hx i y hq)
  cases h with
  | agg xs vs hl h1 h => exact .agg _ _ (by simpa using hl) h1 (many h)
  | clo f xs vs hl h => exact .clo _ _ _ (by simpa using hl) (many h)
  | ifc t x v h => exact .ifc _ _ _ (rep_rn0 ho hb h)
  | mth m t x v h => exact rep_rn0 ho hb (.mth m t x v h)
  | tup xs vs hl h => exact .tup _ _ (by simpa using hl) (many h)
  | fr f v h => exact rep_rn0 ho hb (.fr f v h)
  | ptr c q k hl => exact rep_rn0 ho hb (.ptr c q k hl)
  | fptr es q k o0 cv hk hc hr => exact rep_rn0 ho hb (.fptr es q k o0 cv hk hc hr)
  | buf c m cap ad hl => exact rep_rn0 ho hb (.buf c m cap ad hl)
  | bdead c v hl h1 => exact rep_rn0 ho hb (.bdead c v hl h1)
  | bp c q k m cap hl => exact rep_rn0 ho hb (.bp c q k m cap hl)
  | bpd c q k hl => exact rep_rn0 ho hb (.bpd c q k hl)
  | bv b lo n m c a hl hle => exact rep_rn0 ho hb (.bv b lo n m c a hl hle)
  | bvd b lo n v hl h1 => exact rep_rn0 ho hb (.bvd b lo n v hl h1)
  | bad v => exact .bad v

theorem Ok.move {b' b : Nat} (hok : Ok Γ nt E H a w μ) (hb : rnOK b' b H = true) : ∃ μ', Ok Γ nt (rnE b' b E) (rnH b' b H) a w μ' := by
  unfold rnOK at hb
  split at hb
  · cases hb
  · rename_i hne
    have hne := Nat.ne_of_beq_eq_false hne
    split at hb
    · rename_i e n nb es h1 h2
      have hm := hok.mem
      have e2 := h2
      rw [nth_eq] at h1 h2
      have hblt : b < μ.length := by rw [hm.len]; exact (List.getElem?_eq_some_iff.1 h1).1
      have hblt' : b' < μ.length := by rw [hm.len]; exact (List.getElem?_eq_some_iff.1 h2).1
      obtain ⟨l, hl⟩ : ∃ l, μ[b']? = some l := ⟨μ[b'], by simp⟩
      let μ' := (μ.set b l).set b' .none
      have ho : ∀ i l', i ≠ b → i ≠ b' → μ[i]? = some l' → μ'[i]? = some l' := fun i l' h1 h2 h => by
        simp only [μ']; rw [List.getElem?_set_ne (Ne.symm h2), List.getElem?_set_ne (Ne.symm h1)]; exact h
      have hbb : μ'[b]? = some l := by simp only [μ']; rw [List.getElem?_set_ne (Ne.symm hne), List.getElem?_set_self hblt]
      have hb'b : μ'[b']? = some .none := by simp only [μ']; rw [List.getElem?_set_self (by simpa using hblt')]
      have hget : ∀ i l', μ'[i]? = some l' → (i ≠ b ∧ i ≠ b' ∧ μ[i]? = some l') ∨ (i = b ∧ l' = l) ∨ (i = b' ∧ l' = .none) := fun i l' h => by
        by_cases e1 : i = b'
        · subst e1; rw [hb'b] at h; cases h; exact .inr (.inr ⟨rfl, rfl⟩)
        · by_cases e2 : i = b
          · subst e2; rw [hbb] at h; cases h; exact .inr (.inl ⟨rfl, rfl⟩)
          · refine .inl ⟨e2, e1, ?_⟩
            simp only [μ'] at h
            rwa [List.getElem?_set_ne (Ne.symm e1), List.getElem?_set_ne (Ne.symm e2)] at h
      -- what the free number owned: nothing
      have hown : ∀ k, owned μ' k → owned μ k := by
        rintro k ⟨i, l', h, hk⟩
        rcases hget i l' h with ⟨_, _, h⟩ | ⟨rfl, rfl⟩ | ⟨_, rfl⟩
        · exact ⟨i, l', h, hk⟩
        · exact ⟨b', _, hl, hk⟩
        · cases hk
      have himm : ∀ k, Imm Γ w μ k → Imm Γ w μ' k := fun k ⟨i1, i2, i3⟩ => ⟨i1, i2, fun h => i3 (hown k h)⟩
      have hr0 : ∀ {x : V} {v : Value}, Rep Γ w μ x v → Rep Γ w μ' (rn0 b' b x) v := fun h => rep_rn0 ho (fun l' h' => by rw [hl] at h'; cases h'; exact hbb) (h.mono himm (fun _ _ => rfl) (.refl _))
      have hr1 : ∀ {x : V} {v : Value}, Rep Γ w μ x v → Rep Γ w μ' (rn1 b' b x) v := fun h => rep_rn1 ho (fun l' h' => by rw [hl] at h'; cases h'; exact hbb) (h.mono himm (fun _ _ => rfl) (.refl _))
      have hrH : rnH b' b H = ((H.map (rnB b' b)).set b (.buf e n nb es)).set b' .dead := by
        unfold rnH; rw [e2]; simp only [setB_eq]
      refine ⟨μ', ⟨?_, hok.size, fun t => ?_, hok.defers⟩⟩
      · rw [hrH]
        refine ⟨by simp [μ', hm.len], fun k hk => hm.below k (hown k hk), fun k hk => hm.own0 k (hown k hk), fun i j l1 l2 k hi hj hik hjk => ?_, fun i bl l' hi hl' => ?_, hm.ext, hm.i0, fun i k hi => by
          obtain ⟨h4, ys, h5⟩ := hm.pin i k hi
          have n1 : i ≠ b := fun e => by rw [e, h1] at h5; cases h5
          have n2 : i ≠ b' := fun e => by rw [e, h2] at h5; cases h5
          exact ⟨ho i _ n1 n2 h4, _, by rw [List.getElem?_set_ne (Ne.symm n2), List.getElem?_set_ne (Ne.symm n1), List.getElem?_map, h5]; rfl⟩⟩
        · rcases hget i l1 hi with ⟨n1, n2, hi2⟩ | ⟨ei, rfl⟩ | ⟨_, rfl⟩
          · rcases hget j l2 hj with ⟨m1, m2, hj2⟩ | ⟨ej, rfl⟩ | ⟨_, rfl⟩
            · exact hm.inj i j l1 l2 k hi2 hj2 hik hjk
            · exact absurd (hm.inj i b' l1 _ k hi2 hl hik hjk) n2
            · cases hjk
          · rcases hget j l2 hj with ⟨m1, m2, hj2⟩ | ⟨ej, rfl⟩ | ⟨_, rfl⟩
            · exact absurd (hm.inj j b' l2 _ k hj2 hl hjk hik) m2
            · rw [ei, ej]
            · cases hjk
          · cases hik
        · rcases hget i l' hl' with ⟨n1, n2, h⟩ | ⟨rfl, rfl⟩ | ⟨rfl, rfl⟩
          · rw [List.getElem?_set_ne (Ne.symm n2), List.getElem?_set_ne (Ne.symm n1), List.getElem?_map] at hi
            cases hq : H[i]? with
            | none => rw [hq] at hi; cases hi
            | some bl0 =>
              rw [hq] at hi; simp only [Option.map_some, Option.some.injEq] at hi; subst hi
              have hbo := hm.blk i bl0 l' hq h
              cases bl0 with
              | cells xs =>
                cases l' with
                | at_ k =>
                  obtain ⟨cc, e, g1, g2, g3, g4⟩ := hbo
                  refine ⟨cc, e, g1, by simpa using g2, g3, fun j x hx' => ?_⟩
                  rw [List.getElem?_map] at hx'
                  cases hq2 : xs[j]? with
                  | none => rw [hq2] at hx'; cases hx'
                  | some y => rw [hq2] at hx'; cases hx'; exact hr0 (g4 j y hq2)
                | hdr => exact hbo.elim
                | none => exact hbo.elim
                | free => exact hbo.elim
              | buf e n nb es =>
                cases l' with
                | at_ => exact hbo.elim
                | hdr a' m' c' =>
                  obtain ⟨g1, g0, g2, vs, g3, g4⟩ := hbo
                  exact ⟨g1, g0, g2, vs, g3, fun j f hf => (g4 j f hf).mono himm (fun _ _ => rfl)⟩
                | none => exact hbo.elim
                | free => exact hbo.elim
              | dead => trivial
          · rw [List.getElem?_set_ne (Ne.symm hne), List.getElem?_set_self (by simpa [hm.len] using hblt)] at hi
            cases hi
            have hbo := hm.blk b' _ l' h2 hl
            cases l' with
            | at_ => exact hbo.elim
            | hdr a' m' c' =>
              obtain ⟨g1, g0, g2, vs, g3, g4⟩ := hbo
              exact ⟨g1, g0, g2, vs, g3, fun j f hf => (g4 j f hf).mono himm (fun _ _ => rfl)⟩
            | none => exact hbo.elim
            | free => exact hbo.elim
          · rw [List.getElem?_set_self (by simpa [hm.len] using hblt')] at hi
            cases hi; trivial
      · unfold rnE
        rw [look_map (rn1 b' b) rfl]
        exact hr1 (hok.env t)
    · cases hb


/-! ### Freezing -/
theorem rep_fr0 {I I' : Nat → Prop} {μ μ' : List Plc} {b n nb : Nat} {es : List (List F)} (ho : ∀ i l, i ≠ b → μ[i]? = some l → μ'[i]? = some l) (hpt : ∀ k, μ[b]? ≠ some (.at_ k)) (hI : ∀ k, I k → I' k)
    (hb : ∀ v, RepV w I μ (.buf b) v → RepV w I' μ' (.fr (.sl n nb es)) v) {x : V} {v : Value} (h : RepV w I μ x v) : RepV w I' μ' (fr0 b n nb es x) v := by
  cases h with
  | fr f v h => exact .fr f v (h.mono hI (fun _ _ => rfl))
  | ptr c o k hl =>
    by_cases hc : c = b
    · subst hc; exact absurd hl (hpt k)
    · exact .ptr _ _ _ (ho _ _ hc hl)
  | fptr es o k o0 cv hk hcc hr => exact .fptr es o k o0 cv (hI _ hk) hcc (fun j f hj => (hr j f hj).mono hI (fun _ _ => rfl))
  | buf c m cap a hl =>
    simp only [fr0]
    split
    · rename_i h1
      have := Nat.eq_of_beq_eq_true h1
      subst this
      exact hb _ (.buf _ _ _ _ hl)
    · rename_i h1
      exact .buf _ _ _ _ (ho _ _ (Nat.ne_of_beq_eq_false h1) hl)
  | bdead c v hl h0 =>
    simp only [fr0]
    split
    · rename_i h1
      have := Nat.eq_of_beq_eq_true h1
      subst this
      exact hb _ (.bdead _ _ hl h0)
    · rename_i h1
      exact .bdead _ _ (ho _ _ (Nat.ne_of_beq_eq_false h1) hl) h0
  | _ => exact .bad _

theorem rep_fr1 {I I' : Nat → Prop} {μ μ' : List Plc} {b n nb : Nat} {es : List (List F)} (ho : ∀ i l, i ≠ b → μ[i]? = some l → μ'[i]? = some l) (hpt : ∀ k, μ[b]? ≠ some (.at_ k)) (hI : ∀ k, I k → I' k)
    (hb : ∀ v, RepV w I μ (.buf b) v → RepV w I' μ' (.fr (.sl n nb es)) v) {x : V} {v : Value} (h : RepV w I μ x v) : RepV w I' μ' (fr1 b n nb es x) v := by
  have many : ∀ {xs : List V} {g : Nat → Value}, (∀ (i : Nat) (x : V), xs[i]? = some x → RepV w I μ x (g i)) → ∀ (i : Nat) (x : V), (xs.map (fr0 b n nb es))[i]? = some x → RepV w I' μ' x (g i) := by
    intro xs g hx i x hi
    rw [List.getElem?_map] at hi
    cases hq : xs[i]? with
    | none => rw [hq] at hi; cases hi
    | some y => rw [hq] at hi; cases hi; exact rep_fr0 ho hpt hI hb (hx i y hq)
  cases h with
  | agg xs vs hl h1 h => exact .agg _ _ (by simpa using hl) h1 (many h)
  | clo f xs vs hl h => exact .clo _ _ _ (by simpa using hl) (many h)
  | ifc t x v h => exact .ifc _ _ _ (rep_fr0 ho hpt hI hb h)
  | mth m t x v h => exact rep_fr0 ho hpt hI hb (.mth m t x v h)
  | tup xs vs hl h => exact .tup _ _ (by simpa using hl) (many h)
  | fr f v h => exact rep_fr0 ho hpt hI hb (.fr f v h)
  | ptr c q k hl => exact rep_fr0 ho hpt hI hb (.ptr c q k hl)
  | fptr es q k o0 cv hk hc hr => exact rep_fr0 ho hpt hI hb (.fptr es q k o0 cv hk hc hr)
  | buf c m cap ad hl => exact rep_fr0 ho hpt hI hb (.buf c m cap ad hl)
  | bdead c v hl h1 => exact rep_fr0 ho hpt hI hb (.bdead c v hl h1)
  | bp c q k m cap hl => exact rep_fr0 ho hpt hI hb (.bp c q k m cap hl)
  | bpd c q k hl => exact rep_fr0 ho hpt hI hb (.bpd c q k hl)
  | bv b lo n m c a hl hle => exact rep_fr0 ho hpt hI hb (.bv b lo n m c a hl hle)
  | bvd b lo n v hl h1 => exact rep_fr0 ho hpt hI hb (.bvd b lo n v hl h1)
  | bad v => exact .bad v

theorem Mem.freeze {b e n nb : Nat} {es : List (List F)} (hm : Mem Γ H w μ) (h1 : H[b]? = some (.buf e n nb es)) :
    ∃ μ', Mem Γ ((H.map (frB b n nb es)).set b .dead) w μ' ∧ ∀ x v, Rep Γ w μ x v → Rep Γ w μ' (fr1 b n nb es x) v := by
  have hblt : b < μ.length := by rw [hm.len]; exact (List.getElem?_eq_some_iff.1 h1).1
  obtain ⟨l, hl⟩ : ∃ l, μ[b]? = some l := ⟨μ[b], by simp⟩
  have hbo := hm.blk b _ l h1 hl
  cases l with
  | at_ => exact hbo.elim
  | none => exact hbo.elim
  | free => exact hbo.elim
  | hdr ad m c =>
    obtain ⟨g1, g0, g2, vs, g3, g4⟩ := hbo
    subst g1
    have ho : ∀ i l', i ≠ b → μ[i]? = some l' → (μ.set b .none)[i]? = some l' := fun i l' hi h => by rw [List.getElem?_set_ne (Ne.symm hi)]; exact h
    have hb0 : (μ.set b .none)[b]? = some .none := List.getElem?_set_self hblt
    have hget : ∀ i l', (μ.set b .none)[i]? = some l' → (i ≠ b ∧ μ[i]? = some l') ∨ (i = b ∧ l' = .none) := fun i l' h => by
      by_cases hi : i = b
      · subst hi; rw [hb0] at h; cases h; exact .inr ⟨rfl, rfl⟩
      · rw [List.getElem?_set_ne (Ne.symm hi)] at h; exact .inl ⟨hi, h⟩
    have hown : ∀ k, owned (μ.set b .none) k → owned μ k := by
      rintro k ⟨i, l', h, hk⟩
      rcases hget i l' h with ⟨_, h⟩ | ⟨_, rfl⟩
      · exact ⟨i, l', h, hk⟩
      · cases hk
    have himm : ∀ k, Imm Γ w μ k → Imm Γ w (μ.set b .none) k := fun k ⟨i1, i2, i3⟩ => ⟨i1, i2, fun h => i3 (hown k h)⟩
    have hpt : ∀ k, μ[b]? ≠ some (.at_ k) := fun k h => by rw [hl] at h; cases h
    have hbuf : ∀ v, RepV w (Imm Γ w μ) μ (.buf b) v → RepV w (Imm Γ w (μ.set b .none)) (μ.set b .none) (.fr (.sl n nb es)) v := by
      intro v hv
      cases hv with
      | bdead b v hl' _ => rw [hl] at hl'; cases hl'
      | buf b m' c' ad' hl' =>
        rw [hl] at hl'
        cases hl'
        by_cases h0 : es = []
        · subst h0; exact .fr _ _ (.nil _ _ _ _)
        · rcases g3.2 with ⟨hv, hz⟩ | ⟨g, cap, cur, hv, hg, hh, hcap, _, hcs, htake⟩
          · exact absurd (List.eq_nil_of_length_eq_zero hz) h0
          · have hgo : owned μ g := by
              cases ad with
              | none => simp [hdrV] at hv
              | some g' => simp only [hdrV, Option.map_some, Value.slice.injEq, Option.some.injEq, Addr.mk.injEq] at hv; exact ⟨b, _, hl, by rw [← hv.1.1]; rfl⟩
            have hng : ¬ owned (μ.set b .none) g := by
              rintro ⟨i, l', h, hk⟩
              rcases hget i l' h with ⟨hi, h⟩ | ⟨_, rfl⟩
              · refine hi (hm.inj i b l' _ g h hl hk ?_)
                cases ad with
                | none => simp [hdrV] at hv
                | some g' => simp only [hdrV, Option.map_some, Value.slice.injEq, Option.some.injEq, Addr.mk.injEq] at hv; rw [← hv.1.1]; rfl
              · cases hk
            rw [hv]
            have hgi : Imm Γ w (μ.set b .none) g := ⟨.inr (hm.own0 g hgo), by have := (Array.getElem?_eq_some_iff.1 hh).1; exact this, hng⟩
            have hn : ∀ (i : Nat) (r : List F), es[i]? = some r → r.length = n := fun i r hr => g2 r (List.mem_of_getElem? hr)
            have key : ∀ (i : Nat) (r : List F) (j : Nat) (f : F), es[i]? = some r → r[j]? = some f → w.cell? ⟨g, 0 + i * n + j, none⟩ = some (vs.getD (i * n + j) undef) ∧ RepFr Γ w μ f (vs.getD (i * n + j) undef) := by
              intro i r j f hr hf
              have hj : j < n := by have := (List.getElem?_eq_some_iff.1 hf).1; rw [hn i r hr] at this; exact this
              have hfl := flat_get' es i j r g2 hr hj
              rw [hf] at hfl
              refine ⟨?_, g4 _ f hfl⟩
              have hlt : i * n + j < vs.length := by rw [g3.1, ← flat_length es g2]; exact (List.getElem?_eq_some_iff.1 hfl).1
              have hcell := World.ownsRow.cells g3 (g := g) (by rw [hv]; rfl) (i * n + j) vs[i * n + j] (by simp)
              rw [Addr.add_mid] at hcell
              rw [Nat.add_assoc, hcell]
              simp [List.getD, hlt]
            exact .fr _ _ (.sl n nb es g 0 cap (fun i j => vs.getD (i * n + j) undef) hgi hcap g0 hn (fun i r j f hr hf => (key i r j f hr hf).1) (fun i r j f hr hf => (key i r j f hr hf).2.mono himm (fun _ _ => rfl)))
    have hr0 : ∀ {x : V} {v : Value}, Rep Γ w μ x v → Rep Γ w (μ.set b .none) (fr0 b n nb es x) v := fun h => rep_fr0 ho hpt himm hbuf h
    refine ⟨μ.set b .none, ⟨by simp [hm.len], fun k hk => hm.below k (hown k hk), fun k hk => hm.own0 k (hown k hk), fun i j l1 l2 k hi hj hik hjk => ?_, fun i bl l' hi hl' => ?_, hm.ext, hm.i0, fun i k hi => by
      obtain ⟨h5, ys, h6⟩ := hm.pin i k hi
      have n1 : i ≠ b := fun e => by rw [e, h1] at h6; cases h6
      exact ⟨ho i _ n1 h5, _, by rw [List.getElem?_set_ne (Ne.symm n1), List.getElem?_map, h6]; rfl⟩⟩, fun x v h => rep_fr1 ho hpt himm hbuf h⟩
    · rcases hget i l1 hi with ⟨n1, hi2⟩ | ⟨_, rfl⟩
      · rcases hget j l2 hj with ⟨m1, hj2⟩ | ⟨_, rfl⟩
        · exact hm.inj i j l1 l2 k hi2 hj2 hik hjk
        · cases hjk
      · cases hik
    · rcases hget i l' hl' with ⟨n1, h⟩ | ⟨rfl, rfl⟩
      · rw [List.getElem?_set_ne (Ne.symm n1), List.getElem?_map] at hi
        cases hq : H[i]? with
        | none => rw [hq] at hi; cases hi
        | some bl0 =>
          rw [hq] at hi; simp only [Option.map_some, Option.some.injEq] at hi; subst hi
          have hbo := hm.blk i bl0 l' hq h
          cases bl0 with
          | cells xs =>
            cases l' with
            | at_ k =>
              obtain ⟨cc, e, q1, q2, q3, q4⟩ := hbo
              refine ⟨cc, e, q1, by simpa using q2, q3, fun j x hx' => ?_⟩
              rw [List.getElem?_map] at hx'
              cases hq2 : xs[j]? with
              | none => rw [hq2] at hx'; cases hx'
              | some y => rw [hq2] at hx'; cases hx'; exact hr0 (q4 j y hq2)
            | hdr => exact hbo.elim
            | none => exact hbo.elim
            | free => exact hbo.elim
          | buf e n nb es =>
            cases l' with
            | at_ => exact hbo.elim
            | hdr a' m' c' =>
              obtain ⟨q1, q0, q2, vs, q3, q4⟩ := hbo
              exact ⟨q1, q0, q2, vs, q3, fun j f hf => (q4 j f hf).mono himm (fun _ _ => rfl)⟩
            | none => exact hbo.elim
            | free => exact hbo.elim
          | dead => trivial
      · rw [List.getElem?_set_self (by simpa [hm.len] using hblt)] at hi
        cases hi; trivial

theorem Ok.freeze {b : Nat} (hok : Ok Γ nt E H a w μ) : ∃ μ', Ok Γ nt (frE b H E) (frH b H) a w μ' := by
  unfold frE frH
  rw [nth_eq]
  cases hb : H[b]? with
  | none => exact ⟨μ, hok⟩
  | some x =>
    cases x with
    | buf e n nb es =>
      obtain ⟨μ', h1, h2⟩ := hok.mem.freeze hb
      refine ⟨μ', ⟨by show Mem Γ (setB (H.map (frB b n nb es)) b .dead) w μ'; rw [setB_eq]; exact h1, hok.size, fun t => ?_, hok.defers⟩⟩
      have := h2 _ _ (hok.env t)
      show Rep Γ w μ' (look (E.map fun p => (p.1, fr1 b n nb es p.2)) t) _
      rw [look_map (fr1 b n nb es) rfl]
      exact this
    | _ => exact ⟨μ, hok⟩

/-- A buffer is frozen ahead of a call. -/
theorem acallZ {P : Program} {g : Nat} {args : List V} {E : Env} {H : Heap} {K : V → Env → Heap → Prop} (b : Nat) (h : ACall P g (args.map (frV b H)) (frE b H E) (frH b H) K) : ACall P g args E H K := by
  constructor
  intro Γ w μ cargs tmps hP hm hE hr
  have key : ∃ μ', Mem Γ (frH b H) w μ' ∧ EnvOk Γ w μ' (frE b H E) tmps ∧ RepArgs Γ w μ' (args.map (frV b H)) cargs := by
    unfold frE frH
    have e : ∀ x, frV b H x = (match H[b]? with | some (.buf _ n nb es) => fr1 b n nb es x | _ => x) := fun x => by unfold frV; rw [nth_eq]
    rw [nth_eq]
    cases hb : H[b]? with
    | none =>
      refine ⟨μ, hm, hE, ?_⟩
      have : args.map (frV b H) = args := by
        conv => rhs; rw [← List.map_id args]
        exact List.map_congr_left fun x _ => by rw [e, hb]; rfl
      rw [this]; exact hr
    | some x =>
      cases x with
      | buf e' n nb es =>
        obtain ⟨μ', h1, h2⟩ := hm.freeze hb
        refine ⟨μ', by show Mem Γ (setB (H.map (frB b n nb es)) b .dead) w μ'; rw [setB_eq]; exact h1, fun t => ?_, by simpa using hr.1, fun i x hx => ?_⟩
        · show Rep Γ w μ' (look (E.map fun p => (p.1, fr1 b n nb es p.2)) t) _
          rw [look_map (fr1 b n nb es) rfl]
          exact h2 _ _ (hE t)
        · rw [List.getElem?_map] at hx
          cases hq : args[i]? with
          | none => rw [hq] at hx; cases hx
          | some y => rw [hq] at hx; cases hx; rw [e, hb]; exact h2 _ _ (hr.2 i y hq)
      | _ =>
        refine ⟨μ, hm, hE, ?_⟩
        have : args.map (frV b H) = args := by
          conv => rhs; rw [← List.map_id args]
          exact List.map_congr_left fun x _ => by rw [e, hb]; rfl
        rw [this]; exact hr
  obtain ⟨μ', h1, h2, h3⟩ := key
  exact h.go Γ w μ' cargs tmps hP h1 h2 h3

theorem acallF {P : Program} {g : Nat} {args : List V} {E : Env} {H : Heap} {K : V → Env → Heap → Prop} {v : V} (b : Nat) (h : PCall P g (args.map (frV b H)) v) (k : K v (frE b H E) (frH b H)) : ACall P g args E H K := acallZ b (acall h k)

theorem Ok.thaw {d e n nb : Nat} (hok : Ok Γ nt E H a w μ) (hn : look E d = .fr (.sc (.slice none 0 0))) : ∃ μ', Ok Γ nt ((d, .buf H.length) :: E) (H ++ [.buf e n nb []]) a w μ' := by
  have hr := hok.env d
  rw [hn] at hr
  have hv := rep_sc hr
  obtain ⟨h1, h2⟩ := hok.mem.push (w' := w) (nb := .buf e n nb []) (l := .hdr none 0 0) (Nat.le_refl _) (fun _ _ => rfl) rfl rfl rfl (by intro k hk; cases hk)
    (fun _ => ⟨rfl, by simp, by simp, [], World.ownsRow_nil w _ e n, by intro i f hf; simp at hf⟩)
  refine ⟨_, h1, hok.size, fun t => ?_, hok.defers⟩
  rw [look_cons]
  split
  · rename_i he; subst he
    rw [hv]
    exact .buf H.length 0 0 none (by rw [← hok.mem.len]; simp)
  · exact h2.rep (hok.env t)

/-- A cell's empty slice counts as a buffer. -/
theorem Ok.thawC {b i e n nb : Nat} {xs : List V} (hok : Ok Γ nt E H a w μ) (hb : nth H b = some (.cells xs)) (hx : nth xs i = some (.fr (.sc (.slice none 0 0)))) :
    ∃ μ', Ok Γ nt E (setB (H ++ [.buf e n nb []]) b (.cells (xs.set i (.buf H.length)))) a w μ' := by
  obtain ⟨h1, h2⟩ := hok.mem.push (w' := w) (nb := .buf e n nb []) (l := .hdr none 0 0) (Nat.le_refl _) (fun _ _ => rfl) rfl rfl rfl (by intro k hk; cases hk)
    (fun _ => ⟨rfl, by simp, by simp, [], World.ownsRow_nil w _ e n, by intro i f hf; simp at hf⟩)
  rw [nth_eq] at hb hx
  have hlt : b < H.length := (List.getElem?_eq_some_iff.1 hb).1
  have hb' : (H ++ [Blk.buf e n nb []])[b]? = some (.cells xs) := by rw [List.getElem?_append_left hlt]; exact hb
  have hlm : b < (μ ++ [Plc.hdr none 0 0]).length := by rw [List.length_append, hok.mem.len]; omega
  obtain ⟨l, hl⟩ : ∃ l, (μ ++ [Plc.hdr none 0 0])[b]? = some l := ⟨_, List.getElem?_eq_getElem hlm⟩
  have hok2 := h1.blk b _ l hb' hl
  cases l with
  | hdr => exact hok2.elim
  | none => exact hok2.elim
  | free => exact hok2.elim
  | at_ k =>
    obtain ⟨c, e', g1, g2, g3, g4⟩ := hok2
    have hnew : (μ ++ [Plc.hdr none 0 0])[H.length]? = some (.hdr none 0 0) := by rw [← hok.mem.len]; simp
    obtain ⟨h3, h4⟩ := h1.write (w' := w) (x := .cells (xs.set i (.buf H.length))) hl rfl rfl (fun _ _ => rfl) rfl rfl rfl (fun _ _ => ⟨_, rfl⟩) (fun hp => ⟨c, e', g1, by rw [g2]; simp, g3, fun j y hy => by
      rw [List.getElem?_set] at hy
      split at hy
      · rename_i hij
        subst hij
        split at hy
        · cases hy
          have := g4 i _ hx
          have hv := rep_sc this
          rw [hv]
          exact .buf H.length 0 0 none hnew
        · cases hy
      · exact g4 j y hy⟩)
    exact ⟨_, h3, hok.size, fun t => (h2.trans h4).rep (hok.env t), hok.defers⟩

theorem ANx.ok {N : Nat} (hN : Γ.μ0.length ≤ N) {A : Env} {B : Heap} {E : Env} {H : Heap} (h : ANx N A B E H) : ∀ {μ : List Plc}, Ok Γ nt E H a w μ → ∃ μ', Ok Γ nt A B a w μ' := by
  induction h with
  | refl => exact fun hok => ⟨_, hok⟩
  | same h hh =>
    intro μ hok
    refine ⟨μ, ⟨by rw [hh]; exact hok.mem, hok.size, fun t => ?_, hok.defers⟩⟩
    rcases subE_look h t with h | h
    · rw [h]; exact .bad _
    · rw [h]; exact hok.env t
  | trunc J hsub hh cE cH hNB =>
    intro μ hok
    subst hh
    obtain ⟨h1, h2⟩ := hok.mem.take (Nat.le_trans hN (Nat.le_of_ble_eq_true hNB)) cH
    refine ⟨_, ⟨h1, hok.size, fun t => ?_, hok.defers⟩⟩
    rcases subE_look hsub t with h | h
    · rw [h]; exact .bad _
    · have h3 := hok.env t
      rw [← h] at h3
      exact rep_cl1 h3 (look_mem (P := cl1 B.length) rfl cE t) h2
  | move b' b hb h ih =>
    intro μ hok
    obtain ⟨μ', hok'⟩ := hok.move hb
    exact ih hok'
  | frz b h ih =>
    intro μ hok
    obtain ⟨μ', hok'⟩ := hok.freeze (b := b)
    exact ih hok'
  | thaw d e n nb hn h ih =>
    intro μ hok
    obtain ⟨μ', hok'⟩ := hok.thaw (e := e) (n := n) (nb := nb) hn
    exact ih hok'
  | thawC b i e n nb hb hx h ih =>
    intro μ hok
    obtain ⟨μ', hok'⟩ := hok.thawC (e := e) (n := n) (nb := nb) hb hx
    exact ih hok'
  | let_ d hv h ih =>
    intro μ hok
    exact ih ⟨hok.mem, hok.size, fun t => by rw [look_same hv]; exact hok.env t, hok.defers⟩

end Go.AW

/- AW, part 14B: code, loops. -/
namespace Go.AW
open Go Go.RowKit

noncomputable def codeOK (nt : Nat) : Code → Bool
  | .region _ ops draw => ops.toList.all (operOK nt) && (match draw with | true => drawOK ops.toList | false => true)
  | .seq a b => codeOK nt a && codeOK nt b
  | .cond _ a b => codeOK nt a && codeOK nt b
  | .block _ a => codeOK nt a
  | .loop a => codeOK nt a
  | .scope a => codeOK nt a
  | _ => true

structure POk (P : Program) (T : TTab) : Prop where
  tok : TOk P T
  mix : P.follows .mixedOrders = true

/-- What is to be shown of a region whose order is drawn. -/
structure ADraw (P : Program) (T : TTab) (N : Nat) (ops : List Oper) (E : Env) (H : Heap) (K : Env → Heap → Prop) : Prop where
  h : ∃ E' H', ANx N E' H' E H ∧ (xg P true (callD P) T 4294967296 ops ops 0 [] E' [] H' K ∨
    ∃ n exs, tailB ops n exs = true ∧ xg P true (callD P) T 4294967296 (ops.take n) (ops.take n) 0 [] E' [] H' fun E2 H2 => xg P false (callA P) T 4294967296 ops (ops.drop n) n [] E2 [] H2 K)

theorem adraw {P : Program} {T : TTab} {N : Nat} {ops : List Oper} {E : Env} {H : Heap} {K : Env → Heap → Prop} (h : xg P true (callD P) T 4294967296 ops ops 0 [] E [] H K) : ADraw P T N ops E H K := ⟨E, H, .refl, .inl h⟩
theorem adrawV {P : Program} {T : TTab} {N : Nat} {ops : List Oper} {E : Env} {H : Heap} {K : Env → Heap → Prop} (E' : Env) (H' : Heap) (hv : ANx N E' H' E H) (h : xg P true (callD P) T 4294967296 ops ops 0 [] E' [] H' K) : ADraw P T N ops E H K := ⟨E', H', hv, .inl h⟩
/-- Its end stands in order. -/
theorem adrawT {P : Program} {T : TTab} {N : Nat} {ops : List Oper} {E : Env} {H : Heap} {K : Env → Heap → Prop} (n : Nat) (exs : List Nat) (hB : tailB ops n exs = true)
    (h : xg P true (callD P) T 4294967296 (ops.take n) (ops.take n) 0 [] E [] H fun E2 H2 => xg P false (callA P) T 4294967296 ops (ops.drop n) n [] E2 [] H2 K) : ADraw P T N ops E H K := ⟨E, H, .refl, .inr ⟨n, exs, hB, h⟩⟩

section
variable {Γ : Ctx} {nt : Nat} {E : Env} {H : Heap} {w : World} {μ : List Plc} {a : Act}

/-! ### Code -/
inductive AEq : AExit → Exit → Prop where
  | normal : AEq .normal .normal
  | exit (id : Nat) : AEq (.exit id) (.exit id)
  | ret : AEq .ret .ret

def liftK (Γ : Ctx) (nt : Nat) (K : AExit → Env → Heap → Prop) : Exit → Act → World → Prop := fun e a w => ∃ x E H μ, AEq x e ∧ K x E H ∧ Ok Γ nt E H a w μ

/-- What is to be shown of a loop. -/
structure ALoop (P : Program) (T : TTab) (N : Nat) (c : Code) (E : Env) (H : Heap) (K : AExit → Env → Heap → Prop) : Prop where
  go : ∀ Γ nt a w μ, Γ.P = P → Γ.μ0.length ≤ N → POk P T → codeOK nt c = true → Ok Γ nt E H a w μ → (Code.loop c).wp P (liftK Γ nt K) a w

noncomputable def xcode (P : Program) (T : TTab) (N : Nat) (c : Code) : Env → Heap → (AExit → Env → Heap → Prop) → Prop :=
  Code.rec (motive := fun _ => Env → Heap → (AExit → Env → Heap → Prop) → Prop)
    (fun E H K => K .normal E H)
    (fun _ ops draw E H K => (match draw with | true => ADraw P T N ops.toList E H (K .normal) | false => xg P false (callA P) T 4294967296 ops.toList ops.toList 0 [] E [] H (K .normal)))
    (fun _ _ iha ihb E H K => iha E H fun x e h => match x with
      | .normal => ihb e h K
      | .exit j => K (.exit j) e h
      | .ret => K .ret e h)
    (fun c _ _ iha ihb E H K => match c with
      | .tmp t => (match look E t with
        | .fr (.sc (.bool v)) => bsel v (iha ((t, B1 true) :: E) H K) (ihb ((t, B1 false) :: E) H K)
        | _ => False)
      | .const (.bool v) => bsel v (iha E H K) (ihb E H K)
      | _ => False)
    (fun id _ ih E H K => ih E H (blockK id K))
    (fun a _ E H K => ALoop P T N a E H K)
    (fun _ _ _ _ _ _ _ _ _ => False)
    (fun id E H K => K (.exit id) E H)
    (fun _ ih E H K => ih E H K)
    (fun _ E H K => K .normal E H)
    (fun _ _ _ _ => False)
    (fun E H K => K .ret E H)
    (fun _ _ _ _ => False) c

theorem callsOk_acall : CallsOk Γ (callA Γ.P) := ⟨fun _ _ _ _ _ h => h, fun _ _ _ _ h => h⟩

theorem xcode_sound {P : Program} {T : TTab} {N : Nat} (hT : POk P T) : ∀ (c : Code) (Γ : Ctx) (nt : Nat) (E : Env) (H : Heap) (K : AExit → Env → Heap → Prop) (a : Act) (w : World) (μ : List Plc),
    Γ.P = P → Γ.μ0.length ≤ N → codeOK nt c = true → xcode P T N c E H K → Ok Γ nt E H a w μ → c.wp P (liftK Γ nt K) a w
  | .skip, Γ, nt, E, H, K, a, w, μ, hP, hN, hc, h, hok => wp_skip ⟨_, E, H, μ, .normal, h, hok⟩
  | .region id ops draw, Γ, nt, E, H, K, a, w, μ, hP, hN, hc, h, hok => by
    subst hP
    simp only [codeOK, Bool.and_eq_true, List.all_eq_true] at hc
    cases draw with
    | false =>
      have h' : xg Γ.P false (callA Γ.P) T 4294967296 ops.toList ops.toList 0 [] E [] H (K .normal) := h
      refine wp_region ?_
      have := xg_sound (nt := nt) (Q := liftK Γ nt K) hT.tok callsOk_acall ops.toList 0 [] E [] H (look E) a w μ (by simp) hc.1 h' ⟨fun _ => .inr rfl, fun p hp => by cases hp⟩ hok.mem hok.size hok.env hok.defers (fun E' H' a' w' μ' hk ho => ⟨_, E', H', μ', .normal, hk, ho⟩)
      rw [List.range_eq_range']
      simpa using this
    | true =>
      have h' : ADraw Γ.P T N ops.toList E H (K .normal) := h
      obtain ⟨E1, H1, hv, hx⟩ := h'.h
      obtain ⟨μ1, hok1⟩ := hv.ok hN hok
      rcases hx with hx | ⟨n, exs, hB, hx⟩
      · exact xreg_draw hT.mix hT.tok hc.2 hc.1 hx hok1 (fun E' H' a' w' μ' hk ho => ⟨_, E', H', μ', .normal, hk, ho⟩)
      · exact xreg_tail (Q := liftK Γ nt K) hT.mix hT.tok callsOk_acall hc.2 hc.1 hB (fun c a w ⟨_, _, _, _, he, _⟩ => by cases he) hx hok1 (fun E' H' a' w' μ' hk ho => ⟨_, E', H', μ', .normal, hk, ho⟩)
  | .seq x y, Γ, nt, E, H, K, a, w, μ, hP, hN, hc, h, hok => by
    simp only [codeOK, Bool.and_eq_true] at hc
    refine wp_seq (wp_mono (xcode_sound hT x Γ nt E H _ a w μ hP hN hc.1 h hok) ?_)
    rintro e a' w' ⟨x', E', H', μ', he, hk, hok'⟩
    cases he with
    | normal => exact xcode_sound hT y Γ nt E' H' K a' w' μ' hP hN hc.2 hk hok'
    | exit id => exact ⟨_, E', H', μ', .exit id, hk, hok'⟩
    | ret => exact ⟨_, E', H', μ', .ret, hk, hok'⟩
  | .cond c x y, Γ, nt, E, H, K, a, w, μ, hP, hN, hc, h, hok => by
    simp only [codeOK, Bool.and_eq_true] at hc
    cases c with
    | tmp t =>
      have h' : (match look E t with
        | .fr (.sc (.bool v)) => bsel v (xcode P T N x ((t, B1 true) :: E) H K) (xcode P T N y ((t, B1 false) :: E) H K)
        | _ => False) := h
      have hr := hok.env t
      split at h'
      · rename_i b hb
        rw [hb] at hr
        have hv : a.eval (.tmp t) = .bool b := rep_sc hr
        have hok' : Ok Γ nt ((t, B1 b) :: E) H a w μ := ⟨hok.mem, hok.size, hok.env.cons hr, hok.defers⟩
        cases b with
        | true => exact wp_cond_true hv (xcode_sound hT x Γ nt _ H K a w μ hP hN hc.1 h' hok')
        | false => exact wp_cond_false hv (xcode_sound hT y Γ nt _ H K a w μ hP hN hc.2 h' hok')
      · exact h'.elim
    | const v =>
      cases v with
      | bool b =>
        have h' : bsel b (xcode P T N x E H K) (xcode P T N y E H K) := h
        cases b with
        | true => exact wp_cond_true rfl (xcode_sound hT x Γ nt _ H K a w μ hP hN hc.1 h' hok)
        | false => exact wp_cond_false rfl (xcode_sound hT y Γ nt _ H K a w μ hP hN hc.2 h' hok)
      | _ => exact False.elim h
    | global g => exact False.elim h
    | func f => exact False.elim h
  | .block id x, Γ, nt, E, H, K, a, w, μ, hP, hN, hc, h, hok => by
    refine wp_block (wp_mono (xcode_sound hT x Γ nt E H _ a w μ hP hN hc h hok) ?_)
    rintro e a' w' ⟨x', E', H', μ', he, hk, hok'⟩
    cases he with
    | normal => exact ⟨_, E', H', μ', .normal, hk, hok'⟩
    | exit j =>
      simp only [Exit.inBlock]
      have hk' : (match Nat.beq j id with | true => K .normal E' H' | false => K (.exit j) E' H') := hk
      cases hj : Nat.beq j id with
      | true => rw [hj] at hk'; rw [if_pos (Nat.eq_of_beq_eq_true hj)]; exact ⟨_, E', H', μ', .normal, hk', hok'⟩
      | false => rw [hj] at hk'; rw [if_neg (Nat.ne_of_beq_eq_false hj)]; exact ⟨_, E', H', μ', .exit j, hk', hok'⟩
    | ret => exact ⟨_, E', H', μ', .ret, hk, hok'⟩
  | .loop x, Γ, nt, E, H, K, a, w, μ, hP, hN, hc, h, hok => by
    have h' : ALoop P T N x E H K := h
    exact h'.go Γ nt a w μ hP hN hT hc hok
  | .rangeFunc f ps x y, Γ, nt, E, H, K, a, w, μ, hP, hN, hc, h, hok => False.elim h
  | .exit id, Γ, nt, E, H, K, a, w, μ, hP, hN, hc, h, hok => wp_exit ⟨_, E, H, μ, .exit id, h, hok⟩
  | .scope x, Γ, nt, E, H, K, a, w, μ, hP, hN, hc, h, hok => by
    refine wp_scope_straight (wp_mono (xcode_sound hT x Γ nt E H K a w μ hP hN hc h hok) ?_)
    rintro e a' w' ⟨x', E', H', μ', he, hk, hok'⟩
    cases he with
    | normal => exact ⟨_, E', H', μ', .normal, hk, hok'⟩
    | exit j => exact ⟨_, E', H', μ', .exit j, hk, hok'⟩
    | ret => exact ⟨_, E', H', μ', .ret, hk, hok'⟩
  | .label l, Γ, nt, E, H, K, a, w, μ, hP, hN, hc, h, hok => wp_label ⟨_, E, H, μ, .normal, h, hok⟩
  | .goto l, Γ, nt, E, H, K, a, w, μ, hP, hN, hc, h, hok => False.elim h
  | .ret, Γ, nt, E, H, K, a, w, μ, hP, hN, hc, h, hok => wp_ret ⟨_, E, H, μ, .ret, h, hok⟩
  | .refuse s, Γ, nt, E, H, K, a, w, μ, hP, hN, hc, h, hok => False.elim h


/-! ### A loop -/
/-- A round's end: the loop's head again, nearer to its end. -/
structure ANext (N : Nat) {α : Type} (EE : α → Env) (HH : α → Heap) (m : α → Nat) (x : α) (E : Env) (H : Heap) : Prop where
  h : ∃ y, m y < m x ∧ ANx N (EE y) (HH y) E H

/-- A loop is left. -/
structure ALeave (N : Nat) (K : Env → Heap → Prop) (E : Env) (H : Heap) : Prop where
  h : ∃ E' H', ANx N E' H' E H ∧ K E' H'

theorem leave {N : Nat} {K : Env → Heap → Prop} {E : Env} {H : Heap} (h : K E H) : ALeave N K E H := ⟨E, H, .refl, h⟩
theorem leaveV {N : Nat} {K : Env → Heap → Prop} {E : Env} {H : Heap} (E' : Env) (H' : Heap) (hv : ANx N E' H' E H) (h : K E' H') : ALeave N K E H := ⟨E', H', hv, h⟩

def loopK (N : Nat) {α : Type} (EE : α → Env) (HH : α → Heap) (m : α → Nat) (x : α) (K : AExit → Env → Heap → Prop) : AExit → Env → Heap → Prop
  | .normal, E, H => ANext N EE HH m x E H
  | .exit j, E, H => ALeave N (K (.exit j)) E H
  | .ret, E, H => K .ret E H

theorem aloop {P : Program} {T : TTab} {N : Nat} {c : Code} {K : AExit → Env → Heap → Prop} {α : Type} (EE : α → Env) (HH : α → Heap) (m : α → Nat) (x0 : α) (h0 : ANx N (EE x0) (HH x0) E H)
    (round : ∀ x, xcode P T N c (EE x) (HH x) (loopK N EE HH m x K)) : ALoop P T N c E H K := by
  constructor
  intro Γ nt a w μ hP hN hT hc hok
  have h1 : ∃ x μ', Ok Γ nt (EE x) (HH x) a w μ' ∧ m x = m x0 := by
    obtain ⟨μ', hok'⟩ := h0.ok hN hok
    exact ⟨x0, μ', hok', rfl⟩
  have hwp : (Code.loop c).wp P (liftK Γ nt K) a w := by
    let I : Act → World → Prop := fun a w => ∃ x μ, Ok Γ nt (EE x) (HH x) a w μ
    classical
    let ms : Act → World → Nat → Prop := fun a w n => ∃ x μ, Ok Γ nt (EE x) (HH x) a w μ ∧ m x = n
    have key : ∀ n a w, ms a w n → ∀ (b : Frame) (k : List Item) (cs : List Frame), ∃ e a' w', liftK Γ nt K e a' w' ∧ Arrives P (lone (b.at a (.code c :: .inLoop c :: k)) cs w) b k cs e a' w' := by
      intro n
      induction n using Nat.strongRecOn with
      | _ n ih =>
        rintro a w ⟨x, μ, hok, hm⟩ b k cs
        obtain ⟨e, a₁, w₁, hq, harr⟩ := xcode_sound hT c Γ nt (EE x) (HH x) _ a w μ hP hN hc (round x) hok b (.inLoop c :: k) cs
        obtain ⟨x', E', H', μ', he, hk, hok'⟩ := hq
        cases he with
        | normal =>
          obtain ⟨y, hlt, hnx⟩ := hk.h
          obtain ⟨μ2, hok2⟩ := hnx.ok hN hok'
          have hnext : ms a₁ w₁ (m y) := ⟨y, μ2, hok2, rfl⟩
          obtain ⟨e₂, a₂, w₂, hq₂, harr₂⟩ := ih (m y) (by omega) a₁ w₁ hnext b k cs
          exact ⟨e₂, a₂, w₂, hq₂, .of_steps (Steps.trans harr (.one step_inLoop)) harr₂⟩
        | exit id =>
          obtain ⟨E2, H2, hv, hk2⟩ := hk.h
          obtain ⟨μ2, hok2⟩ := hv.ok hN hok'
          exact ⟨_, a₁, w₁, ⟨_, E2, H2, μ2, .exit id, hk2, hok2⟩, .pass (x := .inLoop c) rfl (fun _ _ => .inl (by simp)) harr⟩
        | ret => exact ⟨_, a₁, w₁, ⟨_, E', H', μ', .ret, hk, hok'⟩, .pass (x := .inLoop c) rfl (fun _ _ => .inl (by simp)) harr⟩
    intro b k cs
    obtain ⟨x, μ', hok', hm⟩ := h1
    obtain ⟨e, a', w', hq, harr⟩ := key (m x0) a w ⟨x, μ', hok', hm⟩ b k cs
    exact ⟨e, a', w', hq, .of_steps (.one step_loop) harr⟩
  exact hwp


end

end Go.AW

/- AW, part 14C: a function by its body. -/
namespace Go.AW
open Go Go.RowKit
variable {Γ : Ctx} {nt : Nat} {E : Env} {H : Heap} {w : World} {μ : List Plc} {a : Act}

/-! ### A function -/
/-- One result. -/
noncomputable def resV (T : TTab) (E : Env) (H : Heap) (r : ResultVar) (t : Nat) : Option V := match r with
  | .tmp d => some (nrmV T t (fz1 H (look E d)))
  | .cell d t' => (match Nat.beq t t', T.get t' with
    | true, some ti => (match look E d with
      | .ptr b o => (match nth H b with
        | some (.cells xs) => (match loadV ti (dropL o xs) with | some v => some (nrmV T t (fz1 H v)) | none => none)
        | _ => none)
      | _ => none)
    | _, _ => none)

noncomputable def resL (T : TTab) (E : Env) (H : Heap) (rs : List (ResultVar × Nat)) : Option (List V) :=
  List.rec (motive := fun _ => Option (List V)) (some []) (fun p _ ih => match resV T E H p.1 p.2, ih with | some v, some l => some (v :: l) | _, _ => none) rs

def oneOf : List V → V
  | [v] => v
  | l => .tup l

/-- What is answered, and what is to be answered. -/
structure ARes (x v : V) : Prop where
  h : x = v

noncomputable def fcV (l : List V) : (List V → Prop) → Prop := List.rec (motive := fun _ => (List V → Prop) → Prop) (fun K => K []) (fun x _ ih K => fc1 x fun x => ih fun r => K (x :: r)) l

theorem fcV_eq (l : List V) (K : List V → Prop) : fcV l K = K l := by
  induction l generalizing K with
  | nil => rfl
  | cons x r ih => show fc1 x (fun x => fcV r fun r => K (x :: r)) = K (x :: r); rw [fc1_eq, ih]

noncomputable def ARet (x : Option (List V)) (v : V) : Prop := match x with
  | some l => fcV l fun l => (match l with | [x] => ARes x v | l => ARes (.tup l) v)
  | none => False

theorem ARet.h {x : Option (List V)} {v : V} (h : ARet x v) : ∃ l, x = some l ∧ oneOf l = v := by
  unfold ARet at h
  split at h
  · rw [fcV_eq] at h
    split at h
    · exact ⟨_, rfl, h.h⟩
    · rename_i l hne
      refine ⟨_, rfl, ?_⟩
      rw [← h.h]
      unfold oneOf
      split
      · exact absurd rfl (hne _)
      · rfl
  · exact h.elim

noncomputable def retK (T : TTab) (rs : List (ResultVar × Nat)) (v : V) : AExit → Env → Heap → Prop
  | .exit _, _, _ => False
  | .normal, E, H => ARet (resL T E H rs) v
  | .ret, E, H => ARet (resL T E H rs) v

noncomputable def argE (n : Nat) (args : List V) : Env :=
  List.rec (motive := fun _ => Nat → Env) (fun _ => []) (fun v _ ih n => (n, v) :: ih (n + 1)) args n

def resRun (tmps : Array Value) : ResultVar → Sem Value
  | .tmp t => pure (tmps.getD t undef)
  | .cell a t => do loadVar t (← asAddr (tmps.getD a undef))

theorem resV_ok {T : TTab} (hT : TOk Γ.P T) (hm : Mem Γ H w μ) {tmps : Array Value} (hE : EnvOk Γ w μ E tmps) {r : ResultVar} {t : Nat} {v : V} (h : resV T E H r t = some v) :
    ∃ cv, (resRun tmps r).run Γ.P w = .ok cv w ∧ RepV w (Imm Γ w []) [] v cv := by
  cases r with
  | tmp d =>
    cases h
    exact ⟨_, rfl, rep_nrmV T t (rep_fz1 hm (hE d))⟩
  | cell d t' =>
    simp only [resV] at h
    split at h
    · rename_i ti htt hti
      split at h
      · rename_i b o hb
        have hr := hE d
        rw [hb] at hr
        obtain ⟨k, hv, hl⟩ := rep_ptr hr
        split at h
        · rename_i xs hx
          rw [nth_eq] at hx
          have hok := hm.blk b _ _ hx hl
          split at h
          · rename_i u hu
            cases h
            obtain ⟨cv, hcv⟩ := block_cells (o := o) hok
            obtain ⟨r, h1, h2⟩ := run_loadV (P := Γ.P) (hT t' ti hti) hu _ o cv hcv
            refine ⟨r, ?_, rep_nrmV T t (rep_fz1 hm h2)⟩
            simp only [resRun, hv, asAddr, Sem.run_bind, Sem.run_pure, Result.andThen_ok]
            simpa [Instr.loadAt, Instr.sureAddr] using h1
          · cases h
        · cases h
      · cases h
    · cases h

theorem resL_ok {T : TTab} (hT : TOk Γ.P T) (hm : Mem Γ H w μ) {tmps : Array Value} (hE : EnvOk Γ w μ E tmps) : ∀ (rs : List (ResultVar × Nat)) (l : List V), resL T E H rs = some l →
    ∃ cvs : List Value, ((rs.map Prod.fst).mapM (resRun tmps)).run Γ.P w = .ok cvs w ∧ cvs.length = l.length ∧ ∀ (i : Nat) (x : V), l[i]? = some x → RepV w (Imm Γ w []) [] x (cvs.getD i undef)
  | [], l, h => by
    have h' : some [] = some l := h
    cases h'
    exact ⟨[], by simp, rfl, by intro i x h; simp at h⟩
  | p :: rs, l, h => by
    have h' : (match resV T E H p.1 p.2, resL T E H rs with | some v, some l => some (v :: l) | _, _ => none) = some l := h
    cases h1 : resV T E H p.1 p.2 with
    | none => rw [h1] at h'; cases h'
    | some v =>
      cases h2 : resL T E H rs with
      | none => rw [h1, h2] at h'; cases h'
      | some l' =>
        rw [h1, h2] at h'; cases h'
        obtain ⟨cv, h3, h4⟩ := resV_ok hT hm hE h1
        obtain ⟨cvs, h5, h6, h7⟩ := resL_ok hT hm hE rs l' h2
        refine ⟨cv :: cvs, ?_, by simp [h6], fun i x hx => ?_⟩
        · simp only [List.map_cons, List.mapM_cons, Sem.run_bind, h3, h5, Result.andThen_ok, Sem.run_pure]
        · cases i with
          | zero => simp at hx; subst hx; exact h4
          | succ i => simpa using h7 i x (by simpa using hx)

theorem argE_look (args : List V) : ∀ (n t : Nat), look (argE n args) t = if n ≤ t then (match args[t - n]? with | some v => v | none => .bad) else .bad := by
  induction args with
  | nil => intro n t; show V.bad = _; split <;> simp
  | cons v args ih =>
    intro n t
    show look ((n, v) :: argE (n + 1) args) t = _
    rw [look_cons, ih]
    by_cases h : n = t
    · subst h; simp
    · rw [if_neg h]
      by_cases h1 : n ≤ t
      · rw [if_pos (by omega), if_pos h1]
        have : t - n = (t - (n + 1)) + 1 := by omega
        rw [this]; simp
      · rw [if_neg (by omega), if_neg h1]

theorem results_eq (fn : Func) (tmps : Array Value) : results fn tmps = (do
    let vs ← fn.results.mapM (resRun tmps)
    pure (if h : vs.size = 1 then vs[0] else .tuple vs)) := by
  unfold results
  congr 1

/-- What lies in memory fits into it. -/
inductive FitF : F → Prop where
  | sc (v : Value) : FitF (.sc v)
  | sl (n b : Nat) (es : List (List F)) (h : es.length * b ≤ 140737488355328) (k : ∀ (i : Nat) (e : List F) (j : Nat) (f : F), es[i]? = some e → e[j]? = some f → FitF f) : FitF (.sl n b es)

theorem RepF.fit {I : Nat → Prop} {f : F} {v : Value} (h : RepF w I f v) : FitF f := by
  induction h with
  | sc v h => exact .sc v
  | nil n b a c => exact .sl _ _ _ (by simp) (by intro i e j f h; simp at h)
  | sl n b es k o c cv hk hcl hb hn hc hr ih => exact .sl _ _ _ hb ih

def Fit (l : List F) : Prop := ∀ f ∈ l, FitF f

def FitV : V → Prop
  | .fr f => FitF f
  | .agg xs => ∀ x ∈ xs, ∀ f, x = .fr f → FitF f
  | _ => True

def FitL : List V → Prop
  | [] => True
  | x :: r => FitV x ∧ FitL r

theorem fitL_of {l : List V} (h : ∀ x ∈ l, FitV x) : FitL l := by
  induction l with
  | nil => trivial
  | cons x r ih => exact ⟨h x (by simp), ih fun y hy => h y (by simp [hy])⟩

theorem fitV_fv {l : List F} (h : FitV (fv l)) : Fit l := fun f hf => h (.fr f) (List.mem_map.2 ⟨f, hf, rfl⟩) f rfl

theorem rep_fit {I : Nat → Prop} {μ : List Plc} {x : V} {v : Value} (h : RepV w I μ x v) : FitV x := by
  cases h with
  | fr f v h => exact h.fit
  | agg xs vs hl h1 h =>
    intro x hx f hf
    subst hf
    obtain ⟨i, hi⟩ := List.getElem?_of_mem hx
    have := h i _ hi
    cases this with
    | fr f v h => exact h.fit
  | _ => trivial

/-- A FUNCTION BY ITS BODY: what the evaluator says of it, it answers, out of whatever state. -/
theorem pcall_of {P : Program} {T : TTab} (hT : POk P T) {g : Nat} {fn : Func} {c : Code} {args : List V} {v : V} (hf : P.funcs[g]? = some fn) (hb : fn.body = some c) (hn : (fn.name == "runtime.NumGoroutine") = false)
    (hc : codeOK fn.ntmps c = true) (ha : Nat.ble args.length fn.ntmps = true) (hcl : args.all (cl1 0) = true) (hl : fn.results.toList.length = fn.resultTypes.toList.length)
    (h : FitL args → xcode P T 0 c (argE 0 args) [] (retK T (fn.results.toList.zip fn.resultTypes.toList) v)) : PCall P g args v := by
  constructor
  intro Γ H w μ cargs hP hm hr
  subst hP
  refine .inl ⟨?_, ?_⟩
  · unfold callFunc
    simp only [Sem.run_bind, run_program, Result.andThen_ok, hf, hn, Bool.false_eq_true, if_false, hb, Option.isNone_some, Sem.run_pure]
  · let Γ' : Ctx := ⟨Γ.P, w, Imm Γ w μ, []⟩
    have hno : ∀ k, ¬ owned ([] : List Plc) k := fun k ⟨i, l, h, _⟩ => by simp at h
    have hm' : Mem Γ' [] w [] := Mem.start _ _ _ (fun k hk => hk.2.1)
    have himm : ∀ k, Imm Γ w μ k → Imm Γ' w [] k := fun k hk => ⟨.inl hk, hk.2.1, hno k⟩
    have hle : args.length ≤ fn.ntmps := by simpa [Nat.ble_eq] using ha
    have hsz : (cargs ++ Array.replicate (fn.ntmps - cargs.size) undef).size = fn.ntmps := by
      have := hr.1
      simp only [Array.size_append, Array.size_replicate]; omega
    have hE : EnvOk Γ' w [] (argE 0 args) (cargs ++ Array.replicate (fn.ntmps - cargs.size) undef) := by
      intro t
      rw [argE_look, if_pos (Nat.zero_le _), Nat.sub_zero]
      cases hq : args[t]? with
      | none => exact .bad _
      | some x =>
        have hlt : t < cargs.size := by have := (List.getElem?_eq_some_iff.1 hq).1; rw [hr.1]; exact this
        have e : (cargs ++ Array.replicate (fn.ntmps - cargs.size) undef).getD t undef = cargs.getD t undef := by
          simp [Array.getD_eq_getD_getElem?, Array.getElem?_append, hlt]
        rw [e]
        have h1 := rep_cl1 (n := 0) (I' := Imm Γ' w []) (hr.2 t x hq) (List.all_eq_true.1 hcl x (List.mem_of_getElem? hq)) himm
        simpa using h1
    refine calls_of_wp hf hb ?_
    refine wp_mono (xcode_sound hT c Γ' fn.ntmps _ _ _ _ w [] rfl (Nat.le_refl 0) hc (h (fitL_of fun x hx => by obtain ⟨i, hi⟩ := List.getElem?_of_mem hx; exact rep_fit (hr.2 i x hi))) ⟨hm', hsz, hE, rfl⟩) ?_
    rintro e a' w' ⟨x, E', H', μ', he, hk, hok⟩
    have fin : ARet (resL T E' H' (fn.results.toList.zip fn.resultTypes.toList)) v → a'.defers = [] ∧ ∃ cv, (results fn a'.tmps).run Γ.P w' = .ok cv w' ∧ ∃ v', Ending.returned cv = .returned v' ∧ Mem Γ H w' μ ∧ Pres Γ w μ w' μ ∧ Rep Γ w' μ v v' := by
      intro hret
      obtain ⟨l, hl1, rfl⟩ := hret.h
      obtain ⟨cvs, h1, h2, h3⟩ := resL_ok (Γ := Γ') hT.tok hok.mem hok.env _ l hl1
      rw [List.map_fst_zip (by omega)] at h1
      obtain ⟨h4, h5⟩ := hm.grow (w' := w') hok.mem.ext.size (fun k hk => hok.mem.ext.block k hk (hno k)) hok.mem.ext.os hok.mem.ext.tape hok.mem.ext.output
      have himm' : ∀ k, Imm Γ' w' [] k → Imm Γ w' μ k := by
        rintro k ⟨i1, i2, _⟩
        rcases i1 with i1 | ⟨i, l, i1, _⟩ | i1
        · exact h5.imm k i1
        · have i2 : ([] : List Plc)[i]? = some l := i1
          simp at i2
        · exact ⟨.inr (.inr (Nat.le_trans hm.ext.size i1)), i2, fun ho => by have := hm.below k ho; have : w.heap.size ≤ k := i1; omega⟩
      have hrun : (results fn a'.tmps).run Γ.P w' = .ok (if h : cvs.toArray.size = 1 then cvs.toArray[0] else .tuple cvs.toArray) w' := by
        rw [results_eq, Sem.run_bind, Array.mapM_eq_mapM_toList, Sem.run_map]
        have h1' : (List.mapM (resRun a'.tmps) fn.results.toList).run Γ.P w' = .ok cvs w' := h1
        rw [h1']
        rfl
      refine ⟨hok.defers, _, hrun, _, rfl, h4, h5, ?_⟩
      have hrep : RepV w' (Imm Γ' w' []) [] (oneOf l) (if h : cvs.toArray.size = 1 then cvs.toArray[0] else .tuple cvs.toArray) := by
        by_cases h6 : cvs.toArray.size = 1
        · rw [dif_pos h6]
          have h7 : cvs.length = 1 := by simpa using h6
          obtain ⟨x, rfl⟩ : ∃ x, l = [x] := List.length_eq_one_iff.1 (by omega)
          obtain ⟨u, rfl⟩ : ∃ u, cvs = [u] := List.length_eq_one_iff.1 h7
          simpa [oneOf] using h3 0 x rfl
        · rw [dif_neg h6]
          have h7 : oneOf l = .tup l := by
            unfold oneOf
            split
            · simp at h2; simp [h2] at h6
            · rfl
          rw [h7]
          exact .tup _ _ (by simpa using h2) (fun i x hx => by
            have := h3 i x hx
            simpa [List.getD_eq_getElem?_getD, Array.getD_eq_getD_getElem?] using this)
      exact hrep.mono himm' (fun _ _ => rfl) (fun i l h => by simp at h)
    cases he with
    | normal => exact fin hk
    | exit j => exact hk.elim
    | ret => exact fin hk

end Go.AW

/- AW, part 14D: a call that is handed blocks of the caller's own. -/
namespace Go.AW
open Go Go.RowKit

/-- A call from a heap of the caller's, by numbers of its own: what it answers, and what the heap is then. -/
structure HCall (P : Program) (g : Nat) (args : List V) (Hin : Heap) (v : V) (Hout : Heap) : Prop where
  go : ∀ (w : World) (I : Nat → Prop) (μ0 : List Plc) (cargs : Array Value), Mem ⟨P, w, I, μ0⟩ Hin w μ0 → RepArgs ⟨P, w, I, μ0⟩ w μ0 args cargs →
    Invokes P g cargs w fun cv w' => ∃ μ', Mem ⟨P, w, I, μ0⟩ Hout w' μ' ∧ Rep ⟨P, w, I, μ0⟩ w' μ' v cv

/-! ### By its body -/
noncomputable def resVH (T : TTab) (E : Env) (H : Heap) (r : ResultVar) (t : Nat) : Option V := match r with
  | .tmp d => some (nrmV T t (look E d))
  | .cell d t' => (match Nat.beq t t', T.get t' with
    | true, some ti => (match look E d with
      | .ptr b o => (match nth H b with
        | some (.cells xs) => (match loadV ti (dropL o xs) with | some v => some (nrmV T t v) | none => none)
        | _ => none)
      | _ => none)
    | _, _ => none)

noncomputable def resLH (T : TTab) (E : Env) (H : Heap) (rs : List (ResultVar × Nat)) : Option (List V) :=
  List.rec (motive := fun _ => Option (List V)) (some []) (fun p _ ih => match resVH T E H p.1 p.2, ih with | some v, some l => some (v :: l) | _, _ => none) rs

/-- A handed call's end: seen as it is to be. -/
structure ARetH (T : TTab) (N : Nat) (rs : List (ResultVar × Nat)) (v : V) (Hout : Heap) (E : Env) (H : Heap) : Prop where
  h : ∃ E' l, ANx N E' Hout E H ∧ resLH T E' Hout rs = some l ∧ oneOf l = v

noncomputable def retH (T : TTab) (N : Nat) (rs : List (ResultVar × Nat)) (v : V) (Hout : Heap) : AExit → Env → Heap → Prop
  | .exit _, _, _ => False
  | .normal, E, H => ARetH T N rs v Hout E H
  | .ret, E, H => ARetH T N rs v Hout E H

section
variable {Γ : Ctx} {nt : Nat} {E : Env} {H : Heap} {w : World} {μ : List Plc} {a : Act}

theorem resVH_ok {T : TTab} (hT : TOk Γ.P T) (hm : Mem Γ H w μ) {tmps : Array Value} (hE : EnvOk Γ w μ E tmps) {r : ResultVar} {t : Nat} {v : V} (h : resVH T E H r t = some v) :
    ∃ cv, (resRun tmps r).run Γ.P w = .ok cv w ∧ Rep Γ w μ v cv := by
  cases r with
  | tmp d =>
    cases h
    exact ⟨_, rfl, rep_nrmV T t (hE d)⟩
  | cell d t' =>
    simp only [resVH] at h
    split at h
    · rename_i ti htt hti
      split at h
      · rename_i b o hb
        have hr := hE d
        rw [hb] at hr
        obtain ⟨k, hv, hl⟩ := rep_ptr hr
        split at h
        · rename_i xs hx
          rw [nth_eq] at hx
          have hok := hm.blk b _ _ hx hl
          split at h
          · rename_i u hu
            cases h
            obtain ⟨cv, hcv⟩ := block_cells (o := o) hok
            obtain ⟨r, h1, h2⟩ := run_loadV (P := Γ.P) (hT t' ti hti) hu _ o cv hcv
            refine ⟨r, ?_, rep_nrmV T t h2⟩
            simp only [resRun, hv, asAddr, Sem.run_bind, Sem.run_pure, Result.andThen_ok]
            simpa [Instr.loadAt, Instr.sureAddr] using h1
          · cases h
        · cases h
      · cases h
    · cases h

theorem resLH_ok {T : TTab} (hT : TOk Γ.P T) (hm : Mem Γ H w μ) {tmps : Array Value} (hE : EnvOk Γ w μ E tmps) : ∀ (rs : List (ResultVar × Nat)) (l : List V), resLH T E H rs = some l →
    ∃ cvs : List Value, ((rs.map Prod.fst).mapM (resRun tmps)).run Γ.P w = .ok cvs w ∧ cvs.length = l.length ∧ ∀ (i : Nat) (x : V), l[i]? = some x → Rep Γ w μ x (cvs.getD i undef)
  | [], l, h => by
    have h' : some [] = some l := h
    cases h'
    exact ⟨[], by simp, rfl, by intro i x h; simp at h⟩
  | p :: rs, l, h => by
    have h' : (match resVH T E H p.1 p.2, resLH T E H rs with | some v, some l => some (v :: l) | _, _ => none) = some l := h
    cases h1 : resVH T E H p.1 p.2 with
    | none => rw [h1] at h'; cases h'
    | some v =>
      cases h2 : resLH T E H rs with
      | none => rw [h1, h2] at h'; cases h'
      | some l' =>
        rw [h1, h2] at h'; cases h'
        obtain ⟨cv, h3, h4⟩ := resVH_ok hT hm hE h1
        obtain ⟨cvs, h5, h6, h7⟩ := resLH_ok hT hm hE rs l' h2
        refine ⟨cv :: cvs, ?_, by simp [h6], fun i x hx => ?_⟩
        · rw [List.map_cons, List.mapM_cons]
          simp only [Sem.run_bind, h3, h5, Result.andThen_ok, Sem.run_pure]
        · cases i with
          | zero => simp at hx; subst hx; exact h4
          | succ i => exact h7 i x (by simpa using hx)

end

/-- A FUNCTION THAT IS HANDED BLOCKS, by its body. -/
theorem hcall_of {P : Program} {T : TTab} (hT : POk P T) {g : Nat} {fn : Func} {c : Code} {args : List V} {Hin : Heap} {v : V} {Hout : Heap} (hf : P.funcs[g]? = some fn) (hb : fn.body = some c) (hn : (fn.name == "runtime.NumGoroutine") = false)
    (hc : codeOK fn.ntmps c = true) (ha : Nat.ble args.length fn.ntmps = true) (hl : fn.results.toList.length = fn.resultTypes.toList.length)
    (h : FitL args → xcode P T Hin.length c (argE 0 args) Hin (retH T Hin.length (fn.results.toList.zip fn.resultTypes.toList) v Hout)) : HCall P g args Hin v Hout := by
  constructor
  intro w I μ0 cargs hm hr
  let Γ : Ctx := ⟨P, w, I, μ0⟩
  refine .inl ⟨?_, ?_⟩
  · unfold callFunc
    simp only [Sem.run_bind, run_program, Result.andThen_ok, hf, hn, Bool.false_eq_true, if_false, hb, Option.isNone_some, Sem.run_pure]
  · have hle : args.length ≤ fn.ntmps := by simpa [Nat.ble_eq] using ha
    have hsz : (cargs ++ Array.replicate (fn.ntmps - cargs.size) undef).size = fn.ntmps := by
      have := hr.1
      simp only [Array.size_append, Array.size_replicate]; omega
    have hE : EnvOk Γ w μ0 (argE 0 args) (cargs ++ Array.replicate (fn.ntmps - cargs.size) undef) := by
      intro t
      rw [argE_look, if_pos (Nat.zero_le _), Nat.sub_zero]
      cases hq : args[t]? with
      | none => exact .bad _
      | some x =>
        have hlt : t < cargs.size := by have := (List.getElem?_eq_some_iff.1 hq).1; rw [hr.1]; exact this
        have e : (cargs ++ Array.replicate (fn.ntmps - cargs.size) undef).getD t undef = cargs.getD t undef := by
          simp [Array.getD_eq_getD_getElem?, Array.getElem?_append, hlt]
        rw [e]
        exact hr.2 t x hq
    refine calls_of_wp hf hb ?_
    refine wp_mono (xcode_sound hT c Γ fn.ntmps _ _ _ _ w μ0 rfl (by rw [show Γ.μ0 = μ0 from rfl, hm.len]; exact Nat.le_refl _) hc (h (fitL_of fun x hx => by obtain ⟨i, hi⟩ := List.getElem?_of_mem hx; exact rep_fit (hr.2 i x hi))) ⟨hm, hsz, hE, rfl⟩) ?_
    rintro e a' w' ⟨x, E', H', μ', he, hk, hok⟩
    have fin : ARetH T Hin.length (fn.results.toList.zip fn.resultTypes.toList) v Hout E' H' → a'.defers = [] ∧ ∃ cv, (results fn a'.tmps).run P w' = .ok cv w' ∧ ∃ v', Ending.returned cv = .returned v' ∧ ∃ μ', Mem Γ Hout w' μ' ∧ Rep Γ w' μ' v v' := by
      intro hret
      obtain ⟨E2, l, hv, hl1, rfl⟩ := hret.h
      obtain ⟨μ2, hok2⟩ := hv.ok (by rw [show Γ.μ0 = μ0 from rfl, hm.len]; exact Nat.le_refl _) hok
      obtain ⟨cvs, h1, h2, h3⟩ := resLH_ok (Γ := Γ) hT.tok hok2.mem hok2.env _ l hl1
      rw [List.map_fst_zip (by omega)] at h1
      have hrun : (results fn a'.tmps).run P w' = .ok (if h : cvs.toArray.size = 1 then cvs.toArray[0] else .tuple cvs.toArray) w' := by
        rw [results_eq, Sem.run_bind, Array.mapM_eq_mapM_toList, Sem.run_map]
        have h1' : (List.mapM (resRun a'.tmps) fn.results.toList).run P w' = .ok cvs w' := h1
        rw [h1']
        rfl
      refine ⟨hok.defers, _, hrun, _, rfl, μ2, hok2.mem, ?_⟩
      by_cases h6 : cvs.toArray.size = 1
      · rw [dif_pos h6]
        have h7 : cvs.length = 1 := by simpa using h6
        obtain ⟨x, rfl⟩ : ∃ x, l = [x] := List.length_eq_one_iff.1 (by omega)
        obtain ⟨u, rfl⟩ : ∃ u, cvs = [u] := List.length_eq_one_iff.1 h7
        simpa [oneOf] using h3 0 x rfl
      · rw [dif_neg h6]
        have h7 : oneOf l = .tup l := by
          unfold oneOf
          split
          · simp at h2; simp [h2] at h6
          · rfl
        rw [h7]
        exact .tup _ _ (by simpa using h2) (fun i x hx => by
          have := h3 i x hx
          simpa [List.getD_eq_getElem?_getD, Array.getD_eq_getD_getElem?] using this)
    cases he with
    | normal => exact fin hk
    | exit j => exact hk.elim
    | ret => exact fin hk

end Go.AW

/- AW, part 14E: blocks are handed over, from the caller's side. -/
namespace Go.AW
open Go Go.RowKit

/-! ### The caller's numbers and the callee's -/
noncomputable def idxR (r : List Nat) (b : Nat) : Option Nat := List.rec (motive := fun _ => Option Nat) none (fun c _ ih => match Nat.beq c b with
  | true => some 0
  | false => (match ih with | some n => some (n + 1) | none => none)) r

noncomputable def loc0 (r : List Nat) : V → V
  | .buf b => (match idxR r b with | some i => .buf i | none => .bad)
  | .ptr b o => (match idxR r b with | some i => .ptr i o | none => .bad)
  | .fr f => .fr f
  | .fptr e o => .fptr e o
  | _ => .bad

noncomputable def loc1 (r : List Nat) : V → V
  | .agg xs => .agg (xs.map (loc0 r))
  | .clo f xs => .clo f (xs.map (loc0 r))
  | .tup xs => .tup (xs.map (loc0 r))
  | .ifc t x => .ifc t (loc0 r x)
  | v => loc0 r v

/-- What is handed over. -/
noncomputable def hin (r : List Nat) (H : Heap) : Heap := r.map fun b => match nth H b with
  | some (.cells xs) => .cells (xs.map (loc0 r))
  | some (.buf e n nb es) => .buf e n nb es
  | _ => .dead

noncomputable def isCells (H : Heap) (b : Nat) : Bool := match nth H b with | some (.cells _) => true | _ => false

noncomputable def glo0 (r : List Nat) (H : Heap) : V → V
  | .buf i => (match nth r i with
    | some b => (match isCells H b with | true => .bad | false => .buf (H.length + i))
    | none => .buf (H.length + i))
  | .ptr i o => (match nth r i with
    | some b => (match isCells H b with | true => .ptr b o | false => .ptr (H.length + i) o)
    | none => .ptr (H.length + i) o)
  | .fr f => .fr f
  | .fptr e o => .fptr e o
  | _ => .bad

noncomputable def glo1 (r : List Nat) (H : Heap) : V → V
  | .agg xs => .agg (xs.map (glo0 r H))
  | .clo f xs => .clo f (xs.map (glo0 r H))
  | .tup xs => .tup (xs.map (glo0 r H))
  | .ifc t x => .ifc t (glo0 r H x)
  | v => glo0 r H v

noncomputable def gloB (r : List Nat) (H : Heap) : Blk → Blk
  | .cells xs => .cells (xs.map (glo0 r H))
  | x => x

/-- The caller's heap behind the call. -/
noncomputable def outB (r : List Nat) (H Hout : Heap) (b : Nat) (x : Blk) : Blk := match idxR r b with
  | some i => (match isCells H b with | true => (match nth Hout i with | some y => gloB r H y | none => .dead) | false => .dead)
  | none => x

noncomputable def mapN (f : Nat → Blk → Blk) (H : Heap) : Nat → Heap := List.rec (motive := fun _ => Nat → Heap) (fun _ => []) (fun x _ ih n => f n x :: ih (n + 1)) H

/-- Handed cells stay; all else comes behind. -/
noncomputable def stays (r : List Nat) (H : Heap) (i : Nat) : Bool := match nth r i with | some b => isCells H b | none => false

noncomputable def newB (r : List Nat) (H : Heap) (i : Nat) (x : Blk) : Blk := match stays r H i with | true => .dead | false => gloB r H x

noncomputable def hout (r : List Nat) (H Hout : Heap) : Heap := List.append (mapN (outB r H Hout) H 0) (mapN (newB r H) Hout 0)

theorem idxR_some {r : List Nat} {b i : Nat} (h : idxR r b = some i) : r[i]? = some b := by
  induction r generalizing i with
  | nil => cases h
  | cons c r ih =>
    have h' : (match Nat.beq c b with | true => some 0 | false => (match idxR r b with | some n => some (n + 1) | none => none)) = some i := h
    cases hb : Nat.beq c b with
    | true => rw [hb] at h'; cases h'; simp [Nat.eq_of_beq_eq_true hb]
    | false =>
      rw [hb] at h'
      cases hr : idxR r b with
      | none => rw [hr] at h'; cases h'
      | some n => rw [hr] at h'; cases h'; simpa using ih hr

theorem idxR_none {r : List Nat} {b : Nat} (h : idxR r b = none) : ∀ i : Nat, r[i]? ≠ some b := by
  induction r with
  | nil => intro i; simp
  | cons c r ih =>
    have h' : (match Nat.beq c b with | true => some 0 | false => (match idxR r b with | some n => some (n + 1) | none => none)) = none := h
    cases hb : Nat.beq c b with
    | true => rw [hb] at h'; cases h'
    | false =>
      rw [hb] at h'
      cases hr : idxR r b with
      | some n => rw [hr] at h'; cases h'
      | none =>
        intro i
        cases i with
        | zero => simp; exact Nat.ne_of_beq_eq_false hb
        | succ i => simpa using ih hr i

theorem mapN_get (f : Nat → Blk → Blk) : ∀ (H : Heap) (n i : Nat), (mapN f H n)[i]? = (H[i]?).map (f (n + i))
  | [], n, i => by show ([] : Heap)[i]? = _; simp
  | x :: H, n, i => by
    show (f n x :: mapN f H (n + 1))[i]? = _
    cases i with
    | zero => simp
    | succ i => simp only [List.getElem?_cons_succ]; rw [mapN_get f H (n + 1) i]; congr 2; omega

theorem mapN_length (f : Nat → Blk → Blk) : ∀ (H : Heap) (n : Nat), (mapN f H n).length = H.length
  | [], _ => rfl
  | x :: H, n => by show (f n x :: mapN f H (n + 1)).length = _; simp [mapN_length f H]


theorem idxR_get {r : List Nat} (hr : r.Nodup) {b i : Nat} (h : r[i]? = some b) : idxR r b = some i := by
  cases hq : idxR r b with
  | none => exact absurd h (idxR_none hq i)
  | some j =>
    have h2 := idxR_some hq
    obtain ⟨h3, h4⟩ := List.getElem?_eq_some_iff.1 h
    obtain ⟨h5, h6⟩ := List.getElem?_eq_some_iff.1 h2
    congr 1
    exact (List.getElem_inj hr).1 (h6.trans h4.symm)

section
variable {Γ : Ctx} {H : Heap} {w : World} {μ : List Plc} {r : List Nat}

def plcs (r : List Nat) (μ : List Plc) : List Plc := r.map fun b => (μ[b]?).getD .none

abbrev Γh (Γ : Ctx) (w : World) (μ : List Plc) (r : List Nat) : Ctx := ⟨Γ.P, w, Imm Γ w μ, plcs r μ⟩

theorem plcs_get {i : Nat} {l : Plc} (h : (plcs r μ)[i]? = some l) : ∃ b, r[i]? = some b ∧ l = (μ[b]?).getD .none := by
  unfold plcs at h
  rw [List.getElem?_map] at h
  cases hq : r[i]? with
  | none => rw [hq] at h; cases h
  | some b => rw [hq] at h; cases h; exact ⟨b, rfl, rfl⟩

theorem plcs_of {i b : Nat} {l : Plc} (h : r[i]? = some b) (hl : μ[b]? = some l) : (plcs r μ)[i]? = some l := by
  unfold plcs; rw [List.getElem?_map, h]; simp [hl]

theorem plcs_own {k : Nat} (h : owned (plcs r μ) k) : ∃ (i b : Nat) (l : Plc), r[i]? = some b ∧ μ[b]? = some l ∧ l.block = some k := by
  obtain ⟨i, l, h1, h2⟩ := h
  obtain ⟨b, h3, rfl⟩ := plcs_get h1
  cases hq : μ[b]? with
  | none => rw [hq] at h2; cases h2
  | some l => rw [hq] at h2; exact ⟨i, b, l, h3, hq, h2⟩

theorem rep_loc0 {I' : Nat → Prop} (hI : ∀ k, Imm Γ w μ k → I' k) {x : V} {v : Value} (h : Rep Γ w μ x v) : RepV w I' (plcs r μ) (loc0 r x) v := by
  cases h with
  | fr f v h => exact .fr f v (h.mono hI (fun _ _ => rfl))
  | ptr b o k hl =>
    simp only [loc0]
    split
    · rename_i i hi; exact .ptr _ _ _ (plcs_of (idxR_some hi) hl)
    · exact .bad _
  | fptr es o k o0 cv hk hcc hr => exact .fptr es o k o0 cv (hI _ hk) hcc (fun j f hj => (hr j f hj).mono hI (fun _ _ => rfl))
  | buf b m c a hl =>
    simp only [loc0]
    split
    · rename_i i hi; exact .buf _ _ _ _ (plcs_of (idxR_some hi) hl)
    · exact .bad _
  | bdead b v hl h1 =>
    simp only [loc0]
    split
    · rename_i i hi; exact .bdead _ _ (plcs_of (idxR_some hi) hl) h1
    · exact .bad _
  | _ => exact .bad _

theorem rep_loc1 {I' : Nat → Prop} (hI : ∀ k, Imm Γ w μ k → I' k) {x : V} {v : Value} (h : Rep Γ w μ x v) : RepV w I' (plcs r μ) (loc1 r x) v := by
  have many : ∀ {xs : List V} {g : Nat → Value}, (∀ (i : Nat) (x : V), xs[i]? = some x → Rep Γ w μ x (g i)) → ∀ (i : Nat) (x : V), (xs.map (loc0 r))[i]? = some x → RepV w I' (plcs r μ) x (g i) := by
    intro xs g hx i x hi
    rw [List.getElem?_map] at hi
    cases hq : xs[i]? with
    | none => rw [hq] at hi; cases hi
    | some y => rw [hq] at hi; cases hi; exact rep_loc0 hI (hx i y hq)
  cases h with
  | agg xs vs hl h1 h => exact .agg _ _ (by simpa using hl) h1 (many h)
  | clo f xs vs hl h => exact .clo _ _ _ (by simpa using hl) (many h)
  | ifc t x v h => exact .ifc _ _ _ (rep_loc0 hI h)
  | mth m t x v h => exact rep_loc0 hI (.mth m t x v h)
  | tup xs vs hl h => exact .tup _ _ (by simpa using hl) (many h)
  | fr f v h => exact rep_loc0 hI (.fr f v h)
  | ptr c q k hl => exact rep_loc0 hI (.ptr c q k hl)
  | fptr es q k o0 cv hk hc hr => exact rep_loc0 hI (.fptr es q k o0 cv hk hc hr)
  | buf c m cap ad hl => exact rep_loc0 hI (.buf c m cap ad hl)
  | bdead c v hl h1 => exact rep_loc0 hI (.bdead c v hl h1)
  | bp c q k m cap hl => exact rep_loc0 hI (.bp c q k m cap hl)
  | bpd c q k hl => exact rep_loc0 hI (.bpd c q k hl)
  | bv b lo n m c a hl hle => exact rep_loc0 hI (.bv b lo n m c a hl hle)
  | bvd b lo n v hl h1 => exact rep_loc0 hI (.bvd b lo n v hl h1)
  | bad v => exact .bad v

theorem imm_hand (hm : Mem Γ H w μ) {k : Nat} (h : Imm Γ w μ k) : Imm (Γh Γ w μ r) w (plcs r μ) k :=
  ⟨.inl h, h.2.1, fun ho => by obtain ⟨i, b, l, _, h2, h3⟩ := plcs_own ho; exact h.2.2 ⟨b, l, h2, h3⟩⟩

theorem hand_over (hm : Mem Γ H w μ) (hr : r.Nodup) (hlt : ∀ b ∈ r, b < H.length) (hld : ∀ b ∈ r, H[b]? ≠ some .dead) : Mem (Γh Γ w μ r) (hin r H) w (plcs r μ) := by
  refine ⟨by simp [plcs, hin], fun k hk => ?_, fun k hk => .inl hk, fun i j l l' k hi hj hik hjk => ?_, fun i b l hi hl => ?_, ⟨rfl, rfl, rfl, Nat.le_refl _, fun _ _ _ => rfl⟩, fun k hk => ⟨hk.2.1, fun ho => ?_⟩, fun i k hi => ⟨hi, ?_⟩⟩
  · obtain ⟨i, b, l, _, h2, h3⟩ := plcs_own hk
    exact hm.below k ⟨b, l, h2, h3⟩
  · obtain ⟨b, h1, rfl⟩ := plcs_get hi
    obtain ⟨b', h2, rfl⟩ := plcs_get hj
    cases hq : μ[b]? with
    | none => rw [hq] at hik; cases hik
    | some l =>
      cases hq' : μ[b']? with
      | none => rw [hq'] at hjk; cases hjk
      | some l' =>
        rw [hq] at hik; rw [hq'] at hjk
        have := hm.inj b b' l l' k hq hq' hik hjk
        subst this
        have e1 := idxR_get hr h1
        have e2 := idxR_get hr h2
        rw [e1] at e2; cases e2; rfl
  · obtain ⟨c, h1, rfl⟩ := plcs_get hl
    have hc : c < H.length := hlt c (List.mem_of_getElem? h1)
    obtain ⟨l, hl'⟩ : ∃ l, μ[c]? = some l := ⟨μ[c]'(by rw [hm.len]; exact hc), by simp⟩
    rw [hl']
    show BlkOk _ w _ b l
    unfold hin at hi
    rw [List.getElem?_map, h1, Option.map_some, nth_eq] at hi
    cases hq : H[c]? with
    | none => rw [List.getElem?_eq_none_iff] at hq; omega
    | some x =>
      have hbo := hm.blk c x l hq hl'
      rw [hq] at hi
      cases x with
      | cells xs =>
        cases hi
        cases l with
        | at_ k =>
          obtain ⟨cc, e, g1, g2, g3, g4⟩ := hbo
          refine ⟨cc, e, g1, by simpa using g2, g3, fun j x hx => ?_⟩
          rw [List.getElem?_map] at hx
          cases hq2 : xs[j]? with
          | none => rw [hq2] at hx; cases hx
          | some y => rw [hq2] at hx; cases hx; exact rep_loc0 (fun _ h => imm_hand hm h) (g4 j y hq2)
        | _ => exact hbo.elim
      | buf e n nb es =>
        cases hi
        cases l with
        | hdr ad m c =>
          obtain ⟨g1, g0, g2, vs, g3, g4⟩ := hbo
          exact ⟨g1, g0, g2, vs, g3, fun j f hf => (g4 j f hf).mono (fun _ h => imm_hand hm h) (fun _ _ => rfl)⟩
        | _ => exact hbo.elim
      | dead => cases hi; trivial
  · obtain ⟨i, b, l, _, h2, h3⟩ := plcs_own ho
    exact hk.2.2 ⟨b, l, h2, h3⟩
  · obtain ⟨c, h1, h2⟩ := plcs_get hi
    have hc : c < H.length := hlt c (List.mem_of_getElem? h1)
    obtain ⟨l, hl'⟩ : ∃ l, μ[c]? = some l := ⟨μ[c]'(by rw [hm.len]; exact hc), by simp⟩
    rw [hl'] at h2
    have h2' : Plc.at_ k = l := h2
    subst h2'
    unfold hin
    rw [List.getElem?_map, h1, Option.map_some, nth_eq]
    cases hq : H[c]? with
    | none => rw [List.getElem?_eq_none_iff] at hq; omega
    | some x =>
      have hbo := hm.blk c x _ hq hl'
      cases x with
      | cells xs => exact ⟨_, rfl⟩
      | buf => exact hbo.elim
      | dead => exact absurd hq (hld c (List.mem_of_getElem? h1))

/-- The places behind the call. -/
noncomputable def plcB (r : List Nat) (H : Heap) (b : Nat) (l : Plc) : Plc := match idxR r b with
  | some _ => (match isCells H b with | true => l | false => .none)
  | none => l

noncomputable def newP (r : List Nat) (H : Heap) (i : Nat) (l : Plc) : Plc := match stays r H i with | true => .none | false => l

noncomputable def plcsB (r : List Nat) (H : Heap) (μ μ' : List Plc) : List Plc := (List.range μ.length).map (fun b => plcB r H b ((μ[b]?).getD .none)) ++ (List.range μ'.length).map (fun i => newP r H i ((μ'[i]?).getD .none))

theorem plcsB_old {μ' : List Plc} {b : Nat} {l : Plc} (h : μ[b]? = some l) : (plcsB r H μ μ')[b]? = some (plcB r H b l) := by
  have hb := (List.getElem?_eq_some_iff.1 h).1
  unfold plcsB
  rw [List.getElem?_append_left (by simpa using hb), List.getElem?_map, List.getElem?_range hb, Option.map_some, h]
  rfl

theorem blt_false {i n : Nat} (h : Nat.blt i n = false) : n ≤ i := by
  rcases Nat.lt_or_ge i n with h1 | h1
  · rw [← Nat.blt_eq] at h1; rw [h1] at h; cases h
  · exact h1

theorem plcsB_new {μ' : List Plc} {i : Nat} {l : Plc} (h : μ'[i]? = some l) : (plcsB r H μ μ')[μ.length + i]? = some (newP r H i l) := by
  have hi := (List.getElem?_eq_some_iff.1 h).1
  unfold plcsB
  rw [List.getElem?_append_right (by simp)]
  simp only [List.length_map, List.length_range]
  rw [show μ.length + i - μ.length = i by omega, List.getElem?_map, List.getElem?_range hi, Option.map_some, h]
  rfl

theorem plcsB_cases {μ' : List Plc} {b : Nat} {l : Plc} (h : (plcsB r H μ μ')[b]? = some l) :
    (∃ l0, μ[b]? = some l0 ∧ l = plcB r H b l0) ∨ (μ.length ≤ b ∧ ∃ l0, μ'[b - μ.length]? = some l0 ∧ l = newP r H (b - μ.length) l0) := by
  unfold plcsB at h
  by_cases hb : b < μ.length
  · rw [List.getElem?_append_left (by simpa using hb)] at h
    simp [hb] at h
    exact .inl ⟨μ[b], by simp, h.symm⟩
  · rw [List.getElem?_append_right (by simp; omega)] at h
    simp only [List.length_map, List.length_range] at h
    rw [List.getElem?_map] at h
    have hi : b - μ.length < μ'.length := by
      by_cases hi : b - μ.length < μ'.length
      · exact hi
      · rw [List.getElem?_eq_none (by simp; omega)] at h; cases h
    rw [List.getElem?_range hi, Option.map_some] at h
    cases h
    exact .inr ⟨by omega, μ'[b - μ.length], by simp, by simp [hi]⟩

theorem newP_block {i k : Nat} {l : Plc} (h : (newP r H i l).block = some k) : l.block = some k ∧ stays r H i = false := by
  unfold newP at h
  split at h
  · cases h
  · rename_i hs; exact ⟨h, hs⟩

theorem isCells_spec {b : Nat} (h : isCells H b = true) : ∃ xs, H[b]? = some (.cells xs) := by
  unfold isCells at h
  rw [nth_eq] at h
  split at h
  · exact ⟨_, by assumption⟩
  · cases h

theorem plcB_block {b k : Nat} {l : Plc} (h : (plcB r H b l).block = some k) : l.block = some k ∧ (∀ i, idxR r b = some i → isCells H b = true) := by
  unfold plcB at h
  split at h
  · split at h
    · rename_i hc; exact ⟨h, fun _ _ => hc⟩
    · cases h
  · rename_i hn; exact ⟨h, fun i hi => by rw [hn] at hi; cases hi⟩

section
variable {w' : World} {μ' : List Plc} {Hout : Heap}

/-- A handed block that is cells lies where it lay. -/
theorem pinned (hm : Mem Γ H w μ) (hm' : Mem (Γh Γ w μ r) Hout w' μ') {i b : Nat} (hi : r[i]? = some b) (hc : isCells H b = true) : ∃ k ys, μ[b]? = some (.at_ k) ∧ μ'[i]? = some (.at_ k) ∧ Hout[i]? = some (.cells ys) := by
  obtain ⟨xs, hx⟩ := isCells_spec hc
  have hb : b < μ.length := by rw [hm.len]; exact (List.getElem?_eq_some_iff.1 hx).1
  obtain ⟨l, hl⟩ : ∃ l, μ[b]? = some l := ⟨μ[b], by simp⟩
  have hbo := hm.blk b _ l hx hl
  cases l with
  | at_ k =>
    obtain ⟨h1, ys, h2⟩ := hm'.pin i k (plcs_of hi hl)
    exact ⟨k, ys, hl, h1, h2⟩
  | _ => exact hbo.elim

theorem own_new (hm : Mem Γ H w μ) (hm' : Mem (Γh Γ w μ r) Hout w' μ') {k : Nat} (h : owned μ' k) : owned μ k ∨ w.heap.size ≤ k := by
  rcases hm'.own0 k h with h | h
  · obtain ⟨i, b, l, _, h2, h3⟩ := plcs_own h
    exact .inl ⟨b, l, h2, h3⟩
  · exact .inr h

theorem own_out (hm : Mem Γ H w μ) (hm' : Mem (Γh Γ w μ r) Hout w' μ') {k : Nat} (h : owned (plcsB r H μ μ') k) : owned μ k ∨ w.heap.size ≤ k := by
  obtain ⟨b, l, h1, h2⟩ := h
  rcases plcsB_cases h1 with ⟨l0, h3, rfl⟩ | ⟨_, l0, h3, rfl⟩
  · exact .inl ⟨b, l0, h3, (plcB_block h2).1⟩
  · exact own_new hm hm' ⟨_, l0, h3, (newP_block h2).1⟩

theorem imm_out (hm : Mem Γ H w μ) (hr : r.Nodup) (hm' : Mem (Γh Γ w μ r) Hout w' μ') {k : Nat} (h : Imm (Γh Γ w μ r) w' μ' k) : Imm Γ w' (plcsB r H μ μ') k := by
  obtain ⟨i1, i2, i3⟩ := h
  refine ⟨?_, i2, ?_⟩
  · rcases i1 with i1 | i1 | i1
    · exact i1.1
    · obtain ⟨i, b, l, _, h2, h3⟩ := plcs_own i1
      exact .inr (hm.own0 k ⟨b, l, h2, h3⟩)
    · exact .inr (.inr (Nat.le_trans hm.ext.size i1))
  · rintro ⟨b, l, h1, h2⟩
    rcases plcsB_cases h1 with ⟨l0, h3, rfl⟩ | ⟨_, l0, h3, rfl⟩
    · obtain ⟨h4, h5⟩ := plcB_block h2
      have hown : owned μ k := ⟨b, l0, h3, h4⟩
      rcases i1 with i1 | i1 | i1
      · exact i1.2.2 hown
      · obtain ⟨i, b', l', h6, h7, h8⟩ := plcs_own i1
        have := hm.inj b b' l0 l' k h3 h7 h4 h8
        subst this
        obtain ⟨k', ys, g1, g2, _⟩ := pinned hm hm' h6 (h5 i (idxR_get hr h6))
        rw [h3] at g1; cases g1
        cases h4
        exact i3 ⟨i, _, g2, rfl⟩
      · have := hm.below k hown
        have i1' : w.heap.size ≤ k := i1
        omega
    · exact i3 ⟨_, l0, h3, (newP_block h2).1⟩

theorem rep_glo0 (hm : Mem Γ H w μ) (hr : r.Nodup) (hm' : Mem (Γh Γ w μ r) Hout w' μ') {x : V} {v : Value} (h : Rep (Γh Γ w μ r) w' μ' x v) : Rep Γ w' (plcsB r H μ μ') (glo0 r H x) v := by
  have hI := fun k (hk : Imm (Γh Γ w μ r) w' μ' k) => imm_out hm hr hm' hk
  cases h with
  | fr f v h => exact .fr f v (h.mono hI (fun _ _ => rfl))
  | ptr i o k hl =>
    have new : stays r H i = false → Rep Γ w' (plcsB r H μ μ') (.ptr (H.length + i) o) (.pointer (some ⟨k, o, none⟩)) := fun hs => by
      refine .ptr _ _ _ ?_
      rw [← hm.len, plcsB_new hl]
      unfold newP; rw [hs]
    simp only [glo0]
    split
    · rename_i b hb
      split
      · rename_i hc
        rw [nth_eq] at hb
        obtain ⟨k', ys, g1, g2, _⟩ := pinned hm hm' hb hc
        rw [hl] at g2; cases g2
        refine .ptr _ _ _ ?_
        rw [plcsB_old g1]
        unfold plcB
        rw [idxR_get hr hb, hc]
      · rename_i hc; exact new (by unfold stays; rw [hb]; exact hc)
    · rename_i hb; exact new (by unfold stays; rw [hb])
  | fptr es o k o0 cv hk hcc hr' => exact .fptr es o k o0 cv (hI _ hk) hcc (fun j f hj => (hr' j f hj).mono hI (fun _ _ => rfl))
  | buf i m c a hl =>
    have new : stays r H i = false → Rep Γ w' (plcsB r H μ μ') (.buf (H.length + i)) (hdrV a m c) := fun hs => by
      refine .buf _ _ _ _ ?_
      rw [← hm.len, plcsB_new hl]
      unfold newP; rw [hs]
    simp only [glo0]
    split
    · rename_i b hb
      split
      · exact .bad _
      · rename_i hc; exact new (by unfold stays; rw [hb]; exact hc)
    · rename_i hb; exact new (by unfold stays; rw [hb])
  | bdead i v hl h1 =>
    have new : stays r H i = false → Rep Γ w' (plcsB r H μ μ') (.buf (H.length + i)) v := fun hs => by
      refine .bdead _ _ ?_ h1
      rw [← hm.len, plcsB_new hl]
      unfold newP; rw [hs]
    simp only [glo0]
    split
    · rename_i b hb
      split
      · exact .bad _
      · rename_i hc; exact new (by unfold stays; rw [hb]; exact hc)
    · rename_i hb; exact new (by unfold stays; rw [hb])
  | _ => exact .bad _

theorem rep_glo1 (hm : Mem Γ H w μ) (hr : r.Nodup) (hm' : Mem (Γh Γ w μ r) Hout w' μ') {x : V} {v : Value} (h : Rep (Γh Γ w μ r) w' μ' x v) : Rep Γ w' (plcsB r H μ μ') (glo1 r H x) v := by
  have many : ∀ {xs : List V} {g : Nat → Value}, (∀ (i : Nat) (x : V), xs[i]? = some x → Rep (Γh Γ w μ r) w' μ' x (g i)) → ∀ (i : Nat) (x : V), (xs.map (glo0 r H))[i]? = some x → Rep Γ w' (plcsB r H μ μ') x (g i) := by
    intro xs g hx i x hi
    rw [List.getElem?_map] at hi
    cases hq : xs[i]? with
    | none => rw [hq] at hi; cases hi
    | some y => rw [hq] at hi; cases hi; exact rep_glo0 hm hr hm' (hx i y hq)
  cases h with
  | agg xs vs hl h1 h => exact .agg _ _ (by simpa using hl) h1 (many h)
  | clo f xs vs hl h => exact .clo _ _ _ (by simpa using hl) (many h)
  | ifc t x v h => exact .ifc _ _ _ (rep_glo0 hm hr hm' h)
  | mth m t x v h => exact rep_glo0 hm hr hm' (.mth m t x v h)
  | tup xs vs hl h => exact .tup _ _ (by simpa using hl) (many h)
  | fr f v h => exact rep_glo0 hm hr hm' (.fr f v h)
  | ptr c q k hl => exact rep_glo0 hm hr hm' (.ptr c q k hl)
  | fptr es q k o0 cv hk hc hr' => exact rep_glo0 hm hr hm' (.fptr es q k o0 cv hk hc hr')
  | buf c m cap ad hl => exact rep_glo0 hm hr hm' (.buf c m cap ad hl)
  | bdead c v hl h1 => exact rep_glo0 hm hr hm' (.bdead c v hl h1)
  | bp c q k m cap hl => exact rep_glo0 hm hr hm' (.bp c q k m cap hl)
  | bpd c q k hl => exact rep_glo0 hm hr hm' (.bpd c q k hl)
  | bv b lo n m c a hl hle => exact rep_glo0 hm hr hm' (.bv b lo n m c a hl hle)
  | bvd b lo n v hl h1 => exact rep_glo0 hm hr hm' (.bvd b lo n v hl h1)
  | bad v => exact .bad v

theorem blk_glo (hm : Mem Γ H w μ) (hr : r.Nodup) (hm' : Mem (Γh Γ w μ r) Hout w' μ') {x : Blk} {l : Plc} (h : BlkOk (Γh Γ w μ r) w' μ' x l) : BlkOk Γ w' (plcsB r H μ μ') (gloB r H x) l := by
  cases x with
  | cells xs =>
    cases l with
    | at_ k =>
      obtain ⟨cc, e, g1, g2, g3, g4⟩ := h
      refine ⟨cc, e, g1, by simpa using g2, g3, fun j x hx => ?_⟩
      rw [List.getElem?_map] at hx
      cases hq2 : xs[j]? with
      | none => rw [hq2] at hx; cases hx
      | some y => rw [hq2] at hx; cases hx; exact rep_glo0 hm hr hm' (g4 j y hq2)
    | _ => exact h.elim
  | buf e n nb es =>
    cases l with
    | hdr ad m c =>
      obtain ⟨g1, g0, g2, vs, g3, g4⟩ := h
      exact ⟨g1, g0, g2, vs, g3, fun j f hf => (g4 j f hf).mono (fun _ h => imm_out hm hr hm' h) (fun _ _ => rfl)⟩
    | _ => exact h.elim
  | dead => trivial

theorem pres_out (hm : Mem Γ H w μ) (hld : ∀ b ∈ r, H[b]? ≠ some .dead) (hm' : Mem (Γh Γ w μ r) Hout w' μ') : Pres Γ w μ w' (plcsB r H μ μ') := by
  refine ⟨fun k hk => ⟨hk.1, Nat.lt_of_lt_of_le hk.2.1 hm'.ext.size, fun ho => ?_⟩, fun k hk => hm'.ext.block k hk.2.1 (fun ho => ?_), fun b l hl => ?_⟩
  · rcases own_out hm hm' ho with h | h
    · exact hk.2.2 h
    · have := hk.2.1; omega
  · obtain ⟨i, b, l, _, h2, h3⟩ := plcs_own ho
    exact hk.2.2 ⟨b, l, h2, h3⟩
  · rw [plcsB_old hl]
    unfold plcB
    split
    · rename_i hir
      split
      · exact .inl rfl
      · rename_i hc
        have hb : b < H.length := by rw [← hm.len]; exact (List.getElem?_eq_some_iff.1 hl).1
        have hx : H[b]? = some H[b] := by simp
        have hbo := hm.blk b _ l hx hl
        cases l with
        | hdr a m c => exact .inr (.inl ⟨⟨a, m, c, rfl⟩, rfl⟩)
        | none => exact .inl rfl
        | free => exact .inr (.inr rfl)
        | at_ k =>
          exfalso
          cases hxx : H[b] with
          | cells xs => unfold isCells at hc; rw [nth_eq, hx, hxx] at hc; cases hc
          | buf => rw [hxx] at hbo; exact hbo.elim
          | dead => exact hld b (List.mem_of_getElem? (idxR_some hir)) (by rw [hx, hxx])
    · exact .inl rfl

theorem hout_old {b : Nat} {x : Blk} (h : H[b]? = some x) : (hout r H Hout)[b]? = some (outB r H Hout b x) := by
  have hb := (List.getElem?_eq_some_iff.1 h).1
  unfold hout
  rw [List.append_eq, List.getElem?_append_left (by rw [mapN_length]; exact hb), mapN_get, h, Nat.zero_add]; rfl

theorem hout_new {b : Nat} (hb : H.length ≤ b) : (hout r H Hout)[b]? = (Hout[b - H.length]?).map (newB r H (b - H.length)) := by
  unfold hout
  rw [List.append_eq, List.getElem?_append_right (by rw [mapN_length]; exact hb), mapN_length, mapN_get, Nat.zero_add]

theorem isCells_of {b : Nat} {xs : List V} (h : H[b]? = some (.cells xs)) : isCells H b = true := by
  unfold isCells; rw [nth_eq, h]

theorem take_back (hm : Mem Γ H w μ) (hr : r.Nodup) (hld : ∀ b ∈ r, H[b]? ≠ some .dead) (hm' : Mem (Γh Γ w μ r) Hout w' μ') : Mem Γ (hout r H Hout) w' (plcsB r H μ μ') := by
  have hp := pres_out hm hld hm'
  have hnr : r.length ≤ μ'.length ∨ μ'.length < r.length := by omega
  have hlen' : μ'.length = Hout.length := hm'.len
  refine ⟨?_, fun k hk => ?_, fun k hk => ?_, fun i j l l' k hi hj hik hjk => ?_, fun i b l hi hl => ?_, ?_, hm.i0, fun i k hi => ?_⟩
  · simp only [plcsB, hout, List.length_append, List.length_map, List.length_range, List.append_eq, mapN_length, hm.len, hlen']
  · rcases own_out hm hm' hk with h | h
    · exact Nat.lt_of_lt_of_le (hm.below k h) hm'.ext.size
    · obtain ⟨b, l, h1, h2⟩ := hk
      rcases plcsB_cases h1 with ⟨l0, h3, rfl⟩ | ⟨_, l0, h3, rfl⟩
      · exact Nat.lt_of_lt_of_le (hm.below k ⟨b, l0, h3, (plcB_block h2).1⟩) hm'.ext.size
      · exact hm'.below k ⟨_, l0, h3, (newP_block h2).1⟩
  · rcases own_out hm hm' hk with h | h
    · exact hm.own0 k h
    · exact .inr (Nat.le_trans hm.ext.size h)
  · have mixed : ∀ {b q : Nat} {l0 l' : Plc}, μ[b]? = some l0 → (plcB r H b l0).block = some k → μ'[q]? = some l' → (newP r H q l').block = some k → False := by
      intro b q l0 l' h3 h4 h5 h6
      obtain ⟨h7, h8⟩ := plcB_block h4
      obtain ⟨h6, hst⟩ := newP_block h6
      rcases hm'.own0 k ⟨_, l', h5, h6⟩ with h9 | h9
      · obtain ⟨p, b2, l2, g1, g2, g3⟩ := plcs_own h9
        have := hm.inj b b2 l0 l2 k h3 g2 h7 g3
        subst this
        have hcb := h8 p (idxR_get hr g1)
        obtain ⟨k', ys, e1, e2, _⟩ := pinned hm hm' g1 hcb
        rw [h3] at e1; cases e1; cases h7
        have := hm'.inj p _ _ l' k e2 h5 rfl h6
        subst this
        unfold stays at hst
        rw [nth_eq, g1] at hst
        simp only at hst
        rw [hcb] at hst; cases hst
      · have := hm.below k ⟨b, l0, h3, h7⟩
        have h9' : w.heap.size ≤ k := h9
        omega
    rcases plcsB_cases hi with ⟨l0, h3, rfl⟩ | ⟨hb, l0, h3, rfl⟩
    · rcases plcsB_cases hj with ⟨l0', h3', rfl⟩ | ⟨hb', l0', h3', rfl⟩
      · exact hm.inj i j l0 l0' k h3 h3' (plcB_block hik).1 (plcB_block hjk).1
      · exact (mixed h3 hik h3' hjk).elim
    · rcases plcsB_cases hj with ⟨l0', h3', rfl⟩ | ⟨hb', l0', h3', rfl⟩
      · exact (mixed h3' hjk h3 hik).elim
      · have := hm'.inj _ _ l0 l0' k h3 h3' (newP_block hik).1 (newP_block hjk).1
        omega
  · rcases plcsB_cases hl with ⟨l0, h3, rfl⟩ | ⟨hb, l0, h3, rfl⟩
    · have hiH : i < H.length := by rw [← hm.len]; exact (List.getElem?_eq_some_iff.1 h3).1
      have hx : H[i]? = some H[i] := by simp
      rw [hout_old hx] at hi
      cases hi
      have hbo := hm.blk i _ l0 hx h3
      unfold outB plcB
      cases hir : idxR r i with
      | none =>
        refine hbo.pres hp (fun k hk => hm'.ext.block k (hm.below k ⟨i, l0, h3, hk⟩) (fun ho => ?_))
        obtain ⟨p, b2, l2, g1, g2, g3⟩ := plcs_own ho
        have := hm.inj i b2 l0 l2 k h3 g2 hk g3
        subst this
        rw [idxR_get hr g1] at hir; cases hir
      | some p =>
        cases hc : isCells H i with
        | false => trivial
        | true =>
          obtain ⟨k, ys, g1, g2, g3⟩ := pinned hm hm' (idxR_some hir) hc
          rw [h3] at g1; cases g1
          simp only [nth_eq, g3]
          exact blk_glo hm hr hm' (hm'.blk p _ _ g3 g2)
    · rw [hout_new (by rw [← hm.len]; exact hb), ← hm.len] at hi
      cases hq : Hout[i - μ.length]? with
      | none => rw [hq] at hi; cases hi
      | some y =>
        rw [hq] at hi; cases hi
        unfold newB newP
        cases hs : stays r H (i - μ.length) with
        | true => trivial
        | false => exact blk_glo hm hr hm' (hm'.blk _ y l0 hq h3)
  · exact ⟨hm'.ext.os.trans hm.ext.os, hm'.ext.tape.trans hm.ext.tape, hm'.ext.output.trans hm.ext.output, Nat.le_trans hm.ext.size hm'.ext.size, fun k hk ho => by
      rw [← hm.ext.block k hk ho]
      refine hm'.ext.block k (Nat.lt_of_lt_of_le hk hm.ext.size) (fun hk2 => ?_)
      obtain ⟨i, b, l, _, h2, h3⟩ := plcs_own hk2
      rcases hm.own0 k ⟨b, l, h2, h3⟩ with h | h
      · exact ho h
      · omega⟩
  · obtain ⟨h4, xs, h5⟩ := hm.pin i k hi
    rw [plcsB_old h4, hout_old h5]
    unfold plcB outB
    cases hir : idxR r i with
    | none => exact ⟨rfl, xs, rfl⟩
    | some p =>
      rw [isCells_of h5]
      obtain ⟨k', ys, g1, g2, g3⟩ := pinned hm hm' (idxR_some hir) (isCells_of h5)
      simp only [nth_eq, g3]
      exact ⟨trivial, _, rfl⟩

end

end

noncomputable def distinct (r : List Nat) : Bool := List.rec (motive := fun _ => Bool) true (fun b r ih => match idxR r b with | some _ => false | none => ih) r
noncomputable def liveR (r : List Nat) (H : Heap) : Bool := List.rec (motive := fun _ => Bool) true (fun b _ ih => match nth H b with | some .dead => false | some _ => ih | none => false) r

theorem distinct_nodup {r : List Nat} (h : distinct r = true) : r.Nodup := by
  induction r with
  | nil => exact List.nodup_nil
  | cons b r ih =>
    have h' : (match idxR r b with | some _ => false | none => distinct r) = true := h
    cases hq : idxR r b with
    | some _ => rw [hq] at h'; cases h'
    | none =>
      rw [hq] at h'
      refine List.nodup_cons.2 ⟨fun hm => ?_, ih h'⟩
      obtain ⟨i, hi⟩ := List.getElem?_of_mem hm
      exact idxR_none hq i hi

theorem liveR_spec {r : List Nat} {H : Heap} (h : liveR r H = true) : ∀ b ∈ r, b < H.length ∧ H[b]? ≠ some .dead := by
  induction r with
  | nil => intro b hb; cases hb
  | cons c r ih =>
    have h' : (match nth H c with | some .dead => false | some _ => liveR r H | none => false) = true := h
    rw [nth_eq] at h'
    have hc : (c < H.length ∧ H[c]? ≠ some .dead) ∧ liveR r H = true := by
      cases hq : H[c]? with
      | none => rw [hq] at h'; cases h'
      | some x =>
        rw [hq] at h'
        have hlt := (List.getElem?_eq_some_iff.1 hq).1
        cases x with
        | dead => cases h'
        | _ => exact ⟨⟨hlt, by simp⟩, h'⟩
    intro b hb
    rcases List.mem_cons.1 hb with rfl | hb
    · exact hc.1
    · exact ih hc.2 b hb

/-- A tuple's parts, each with its cells. -/
noncomputable def glo2 (r : List Nat) (H : Heap) : V → V
  | .tup xs => .tup (xs.map (glo1 r H))
  | v => glo1 r H v
theorem rep_glo2 {Γ : Ctx} {H Hout : Heap} {w w' : World} {μ μ' : List Plc} {r : List Nat} (hm : Mem Γ H w μ) (hr : r.Nodup) (hm' : Mem (Γh Γ w μ r) Hout w' μ') {x : V} {v : Value} (h : Rep (Γh Γ w μ r) w' μ' x v) : Rep Γ w' (plcsB r H μ μ') (glo2 r H x) v := by
  cases x with
  | tup xs =>
    cases h with
    | tup xs vs hl h =>
      refine .tup _ _ (by simpa using hl) (fun i y hy => ?_)
      rw [List.getElem?_map] at hy
      cases hq : xs[i]? with
      | none => rw [hq] at hy; cases hy
      | some z => rw [hq] at hy; cases hy; exact rep_glo1 hm hr hm' (h i z hq)
  | _ => exact rep_glo1 hm hr hm' h

/-- A CALL THAT IS HANDED the blocks r. -/
theorem ahcall {P : Program} {g : Nat} {args : List V} {E : Env} {H : Heap} {K : V → Env → Heap → Prop} {v : V} {Hout : Heap} (r : List Nat) (h : HCall P g (args.map (loc1 r)) (hin r H) v Hout) (k : K (glo2 r H v) E (hout r H Hout))
    (hd : distinct r = true := by rfl) (hl : liveR r H = true := by rfl) : ACall P g args E H K := by
  constructor
  intro Γ w μ cargs tmps hP hm hE hra
  subst hP
  have hr := distinct_nodup hd
  have hlv := liveR_spec hl
  have hm0 := hand_over (r := r) hm hr (fun b hb => (hlv b hb).1) (fun b hb => (hlv b hb).2)
  have hra' : RepArgs (Γh Γ w μ r) w (plcs r μ) (args.map (loc1 r)) cargs := by
    refine ⟨by simpa using hra.1, fun i x hx => ?_⟩
    rw [List.getElem?_map] at hx
    cases hq : args[i]? with
    | none => rw [hq] at hx; cases hx
    | some y => rw [hq] at hx; cases hx; exact rep_loc1 (fun _ h => imm_hand hm h) (hra.2 i y hq)
  refine (h.go w (Imm Γ w μ) (plcs r μ) cargs hm0 hra').mono fun cv w' ⟨μ', h1, h2⟩ => ?_
  exact ⟨_, E, _, plcsB r H μ μ', k, take_back hm hr (fun b hb => (hlv b hb).2) h1, hE.pres (pres_out hm (fun b hb => (hlv b hb).2) h1), rep_glo2 hm hr h1 h2⟩

end Go.AW

/- AW, part 15: the types' table, asked of a program. -/
namespace Go.AW
open Go Go.RowKit

def valB : Value → Value → Bool
  | .int k n, .int k' n' => decide (k = k') && n == n'
  | .bool a, .bool b => a == b
  | .string a, .string b => a.data == b.data
  | .float k n, .float k' n' => decide (k = k') && n == n'
  | .pointer none, .pointer none => true
  | .nilFunc, .nilFunc => true
  | .nilIface, .nilIface => true
  | .map none, .map none => true
  | .chan none, .chan none => true
  | _, _ => false

theorem valB_eq {u v : Value} (h : valB u v = true) : u = v ∧ u.oneCell' = true := by
  unfold valB at h
  split at h <;> first | (cases h; done) | skip
  · simp at h; obtain ⟨rfl, rfl⟩ := h; exact ⟨rfl, rfl⟩
  · simp at h; subst h; exact ⟨rfl, rfl⟩
  · rename_i a b
    have h' : a.data = b.data := by simpa using h
    obtain ⟨a⟩ := a; obtain ⟨b⟩ := b
    simp at h'; subst h'; exact ⟨rfl, rfl⟩
  · simp at h; obtain ⟨rfl, rfl⟩ := h; exact ⟨rfl, rfl⟩
  all_goals exact ⟨rfl, rfl⟩

def cellB : F → Value → Bool
  | .sc v, v' => valB v v'
  | .sl _ _ [], .slice none 0 0 => true
  | _, _ => false

theorem cellB_ok {f : F} {v : Value} (h : cellB f v = true) : cellOk f v := by
  unfold cellB at h
  split at h
  · exact valB_eq h
  · exact ⟨rfl, rfl⟩
  · cases h

def cellsB : List F → List Value → Bool
  | [], [] => true
  | f :: fs, v :: vs => cellB f v && cellsB fs vs
  | _, _ => false

theorem cellsB_ok : ∀ {fs : List F} {vs : List Value}, cellsB fs vs = true → ∀ (j : Nat) (f : F), fs[j]? = some f → cellOk f (vs.getD j undef)
  | [], [], _, j, f, h => by simp at h
  | [], _ :: _, h, _, _, _ => by cases h
  | _ :: _, [], h, _, _, _ => by cases h
  | g :: fs, v :: vs, h, j, f, hj => by
    simp only [cellsB, Bool.and_eq_true] at h
    cases j with
    | zero => simp at hj; subst hj; exact cellB_ok h.1
    | succ j => simpa using cellsB_ok h.2 j f (by simpa using hj)

def pairsB : List (Nat × Nat) → List (Nat × Nat) → Bool
  | [], [] => true
  | (a, b) :: r, (c, d) :: s => a == c && b == d && pairsB r s
  | _, _ => false

theorem pairsB_ok : ∀ {l m : List (Nat × Nat)}, pairsB l m = true → l = m
  | [], [], _ => rfl
  | [], _ :: _, h => by cases h
  | _ :: _, [], h => by cases h
  | (a, b) :: r, (c, d) :: s, h => by
    simp only [pairsB, Bool.and_eq_true, beq_iff_eq] at h
    obtain ⟨⟨rfl, rfl⟩, h⟩ := h
    rw [pairsB_ok h]

def kindB : TK → TypeDesc → Bool
  | .int k, .int k' => decide (k = k')
  | .bool, .bool => true
  | .str, .string => true
  | .flt k, .float k' => decide (k = k')
  | .ptr e, .pointer e' => e == e'
  | .sli e, .slice e' => e == e'
  | .arr n e, .array n' e' => n == n' && e == e'
  | .st fs _, .struct gs => pairsB (gs.toList.map (fun f => (f.offset, f.type))) fs
  | .map k e, .map k' e' => k == k' && e == e'
  | .fn, .func _ _ _ => true
  | .ifc, .interface _ => true
  | .tup, .tuple _ => true
  | .oth, d => !d.isRow
  | _, _ => false

theorem kindB_ok {k : TK} {d : TypeDesc} (h : kindB k d = true) : KindOk k d := by
  cases k <;> cases d <;> first
    | (cases h; done)
    | trivial
    | (have h' := of_decide_eq_true h; exact h')
    | (have h' := eq_of_beq h; exact h')
    | (have h' : _ = true := h; simp only [kindB, Bool.and_eq_true, beq_iff_eq] at h'; exact h')
    | exact pairsB_ok h
    | rfl

def tiB (P : Program) (t : Nat) (ti : TI) : Bool :=
  (match P.info? t with
  | some i => i.size == ti.sz && i.bytes == ti.by_ && (match i.zero with
    | some z => z.cells.size == ti.sz && ti.zero.length == ti.sz && cellsB ti.zero z.cells.toList
    | none => false)
  | none => false) &&
  (match P.underlying t with
  | some d => kindB ti.k d
  | none => false) &&
  (match ti.k with
  | .st _ true => !P.stoodInHeld t && !P.eqGuardType P.depth t && (P.fieldsOf t).toList.all (fun f => f.name != "_")
  | _ => true)

theorem tiB_ok {P : Program} {t : Nat} {ti : TI} (h : tiB P t ti = true) : TiOk P t ti := by
  unfold tiB at h
  simp only [Bool.and_eq_true] at h
  obtain ⟨⟨h1, h2⟩, h0⟩ := h
  constructor
  · split at h1
    · rename_i i hi
      simp only [Bool.and_eq_true, beq_iff_eq] at h1
      obtain ⟨⟨h3, h4⟩, h5⟩ := h1
      split at h5
      · rename_i z hz
        simp only [Bool.and_eq_true, beq_iff_eq] at h5
        obtain ⟨⟨h6, h7⟩, h8⟩ := h5
        refine ⟨i, z, hi, h3, h4, hz, h6, h7, fun j f hf => ?_⟩
        have := cellsB_ok h8 j f hf
        simpa [Array.getD_eq_getD_getElem?, List.getD_eq_getElem?_getD] using this
      · cases h5
    · cases h1
  · split at h2
    · rename_i d hd; exact ⟨d, hd, kindB_ok h2⟩
    · cases h2
  · intro fs hk
    rw [hk] at h0
    simp only [Bool.and_eq_true, Bool.not_eq_true', List.all_eq_true, bne_iff_ne, ne_eq] at h0
    exact ⟨h0.1.1, h0.1.2, h0.2⟩

def tB (P : Program) (T : TTab) : Bool := T.all fun p => tiB P p.1 p.2

theorem tok_of {P : Program} {T : TTab} (h : tB P T = true) : TOk P T := by
  intro t ti ht
  induction T with
  | nil => cases ht
  | cons p T ih =>
    simp only [tB, List.all_cons, Bool.and_eq_true] at h
    have ht' : (match Nat.beq p.1 t with | true => some p.2 | false => TTab.get T t) = some ti := ht
    cases hb : Nat.beq p.1 t with
    | true =>
      rw [hb] at ht'; cases ht'
      rw [← Nat.eq_of_beq_eq_true hb]
      exact tiB_ok h.1
    | false => rw [hb] at ht'; exact ih h.2 ht'

end Go.AW

/- AW, part 16: operations beside the evaluator: a string appended to bytes. -/
namespace Go.AW
open Go Go.RowKit
variable {Γ : Ctx} {H : Heap} {w : World} {μ : List Plc} {a : Act} {o : Oper}

def strE (s : ByteArray) : List (List F) := s.data.toList.map fun b => [.sc (.int .u8 b.toNat)]
theorem strE_length (s : ByteArray) : (strE s).length = s.size := by simp [strE]
theorem strE_flat (s : ByteArray) : (strE s).flatten = s.data.toList.map fun b => F.sc (.int .u8 b.toNat) := by
  unfold strE
  induction s.data.toList with
  | nil => rfl
  | cons x r ih => simp [ih]

/-- The append of a string to bytes, told by what becomes of the row. -/
theorem app_run_str {P : Program} {t u ty e : Nat} {i : TypeInfo} {z : Value} (hd : P.underlying t = some (.slice e)) (hu : P.underlying u = some .string) (hi : P.info? e = some i) (hz : i.zero = some z) (hzs : z.cells.size = 1) (hsz : i.size = 1) (hby : i.bytes = 1)
    {base m : Nat} {ad : Option Nat} {cap : Nat} {vs : List Value} {s : ByteArray} (hbase : base ≤ w.heap.size) (hown : w.ownsRow base e 1 (hdrV ad m cap) m vs) (hne : ad ≠ none) (hfit : m + s.size ≤ 140737488355328) :
    ∃ ad' cap' w', (Builtin.append_ #[t, u] ty #[hdrV ad m cap, .string s]).run P w = .ok (hdrV ad' (m + s.size) cap') w' ∧ w'.ownsRow base e 1 (hdrV ad' (m + s.size) cap') (m + s.size) (vs ++ Lib.strCells s) ∧
      w.heap.size ≤ w'.heap.size ∧ (∀ k, k < w.heap.size → ad ≠ some k → w'.heap[k]? = w.heap[k]?) ∧ w'.os = w.os ∧ w'.tape = w.tape ∧ w'.output = w.output ∧
      ∀ k, ad' = some k → ad = some k ∨ (w.heap.size ≤ k ∧ k < w'.heap.size) := by
  have hml : m + s.size ≤ maxLen := by unfold maxLen; omega
  have hvl : vs.length = m := by simpa using hown.1
  have hlen : (vs ++ Lib.strCells s).length = (m + s.size) * 1 := by rw [List.length_append, hvl, Lib.strCells_length, Nat.mul_one]
  rcases hown.2 with ⟨hnil, rfl⟩ | ⟨g, cap0, cur, hvv, hbg, hg, hnc, hcm, hcs, htake⟩
  · cases ad with
    | some g => simp [hdrV] at hnil
    | none => exact absurd rfl hne
  · cases ad with
    | none => simp [hdrV] at hvv
    | some g' =>
      simp only [hdrV, Option.map_some, Value.slice.injEq, Option.some.injEq, Addr.mk.injEq] at hvv
      obtain ⟨⟨rfl, _⟩, _, rfl⟩ := hvv
      have hcs' : cur.size = cap := by simpa using hcs
      by_cases hroom : m + s.size ≤ cap
      · have hr := Lib.run_append_room_string (P := P) w t u ty e i hd hu hi hsz g' m cap cur hg s hroom (by omega)
        refine ⟨some g', cap, _, hr, ⟨hlen, .inr ⟨g', cap, _, rfl, hbg, setRow_heap w g' cur _ e _ hg, hroom, hcm, ?_, ?_⟩⟩, by simp [World.setRow], fun k _ hk => setRow_other w g' k _ (fun e => hk (by rw [e])), rfl, rfl, rfl, fun k hk => .inl hk⟩
        · simp only [List.size_toArray, List.length_append, List.length_take, List.length_drop, Array.length_toList, Lib.strCells_length]
          omega
        · have ht' : cur.toList.take m = vs := by simpa using htake
          rw [ht', ← hlen]
          exact List.take_left
      · have holds : ∀ (j : Nat) (u : Value), vs[j]? = some u → w.cell? ((⟨g', 0, none⟩ : Addr).add j) = some u := hown.cells (g := g') rfl
        have hr := Lib.run_append_grow_string (P := P) w t u ty e i z hd hu hi hz ⟨g', 0, none⟩ m cap vs (by rw [hsz]; simpa using hown.1) holds s (by omega) (by unfold maxLen at hml; omega) (by rw [hby]; exact growslice_fits (by omega) (by omega))
        have hcm' := grownCap_le_maxLen w (m + s.size) cap e hml
        have hge := grownCap_ge w (m + s.size) cap e
        refine ⟨some w.heap.size, grownCap w (m + s.size) cap e, _, hr, ⟨hlen, .inr ⟨w.heap.size, _, _, rfl, hbase, heap_alloc_new w.drew _, hge, hcm', ?_, ?_⟩⟩, by simp, fun k hk _ => heap_alloc_old w.drew _ k hk, rfl, rfl, rfl, fun k hk => .inr ?_⟩
        · simp only [Array.size_append, List.size_toArray, size_zeroCells, hzs, hvl, Lib.strCells_length]
          omega
        · simp only [Array.toList_append, List.append_assoc]
          rw [← List.append_assoc, ← hlen]
          exact List.take_left
        · cases hk; simp

/-- A buffer of the call's own grows, at a number of its own. -/
theorem Mem.growB {w' : World} {b m c : Nat} {ad : Option Nat} {l : Plc} {nb : Blk} (hm : Mem Γ H w μ) (hl : μ[b]? = some (.hdr ad m c)) (hs : w.heap.size ≤ w'.heap.size) (hb : ∀ k, k < w.heap.size → ad ≠ some k → w'.heap[k]? = w.heap[k]?)
    (h1 : w'.os = w.os) (h2 : w'.tape = w.tape) (h3 : w'.output = w.output) (hk : ∀ k, l.block = some k → ad = some k ∨ (w.heap.size ≤ k ∧ k < w'.heap.size))
    (hx : ∀ μ', Pres Γ w μ w' μ' → BlkOk Γ w' μ' nb l) :
    ∃ μ', Mem Γ (setB H b .dead ++ [nb]) w' μ' ∧ Pres Γ w μ w' μ' ∧ μ'[H.length]? = some l := by
  obtain ⟨hm1, hp1⟩ := hm.pad
  have hbl : b < μ.length := (List.getElem?_eq_some_iff.1 hl).1
  have hl1 : (μ ++ [Plc.free])[b]? = some (.hdr ad m c) := by rw [List.getElem?_append_left hbl]; exact hl
  have hf : (μ ++ [Plc.free])[H.length]? = some .free := by rw [← hm.len]; simp
  have hx1 : Pres Γ w (μ ++ [Plc.free]) w' (((μ ++ [Plc.free]).set b .none).set H.length l) → BlkOk Γ w' (((μ ++ [Plc.free]).set b .none).set H.length l) nb l := fun hp => hx _ (hp1.trans hp)
  obtain ⟨hm2, hp2⟩ := hm1.regrow (nb := nb) (l := l) hf hl1 hs hb h1 h2 h3 hk hx1
  have e : setB (setB (H ++ [.dead]) b .dead) H.length nb = setB H b .dead ++ [nb] := by
    simp only [setB_eq]
    rw [List.set_append_left _ _ (by rw [← hm.len]; exact hbl)]
    simp
  rw [e] at hm2
  exact ⟨_, hm2, hp1.trans hp2, by rw [List.getElem?_set_self]; simp [hm.len]⟩

theorem aop_appstr {P : Program} {T : TTab} (hT : TOk P T) {E : Env} {H : Heap} {K : V → Heap → Prop} {x y : Operand} {t u e b z1 z2 z4 z5 : Nat} {z3 z6 : List F} {k : TK} {zf : F} {es : List (List F)} {s : ByteArray}
    (ht : T.get t = some ⟨.sli e, z1, z2, z3⟩) (hu : T.get u = some ⟨.str, z4, z5, z6⟩) (hti : T.get e = some ⟨k, 1, 1, [zf]⟩)
    (hx : opd E x = .buf b) (hH : nth H b = some (.buf e 1 1 es)) (hne : es ≠ []) (hy : opd E y = S1 s) (hf : es.length + s.size ≤ 140737488355328)
    (hk : K (.buf H.length) (setB H b .dead ++ [.buf e 1 1 (es ++ strE s)])) : AOp P (.call ⟨.builtin .append, #[x, y], #[t, u]⟩) E H K := by
  constructor
  intro Γ w μ a o next Q hP hop hm hr hn
  subst hP
  rw [nth_eq] at hH
  have hrx := hr x (by simp [Op.operands, Call.operands])
  have hry := hr y (by simp [Op.operands, Call.operands])
  rw [hx] at hrx
  rw [hy] at hry
  have hcy := rep_sc hry
  obtain ⟨d, hd, hkk⟩ := (hT t _ ht).kind
  cases d <;> try exact hkk.elim
  rename_i e'
  obtain rfl : e = e' := hkk
  obtain ⟨du, hdu, hku⟩ := (hT u _ hu).kind
  cases du <;> try exact hku.elim
  obtain ⟨i, z, hi, hsz, hby, hz, hzs, _, _⟩ := (hT e _ hti).info
  generalize hcx : a.eval x = cx at hrx
  cases hrx with
  | bdead b v hl h1 => exact (hm.blk _ _ _ hH hl).elim
  | buf b m cp ad hl =>
    obtain ⟨g1, g0, g2, vs, g3, g4⟩ := hm.blk _ _ _ hH hl
    subst g1
    have hadn : ad ≠ none := by
      intro h
      subst h
      rcases g3.2 with ⟨_, h0⟩ | ⟨g, cap0, cur, hvv, _⟩
      · exact hne (List.eq_nil_of_length_eq_zero h0)
      · simp [hdrV] at hvv
    obtain ⟨ad', cap', w', h1, h2, h3, h4, h5, h6, h7, h8⟩ := app_run_str (ty := o.type) hd hdu hi hz hzs hsz hby (Nat.zero_le _) g3 hadn hf
    obtain ⟨μ', hm', hp', hl'⟩ := hm.growB (w' := w') (l := .hdr ad' (es.length + s.size) cap') (nb := .buf e 1 1 (es ++ strE s)) hl h3 h4 h5 h6 h7 h8 (fun μ' hp => by
      refine ⟨by simp [strE_length], by simp [strE_length]; omega, ?_, vs ++ Lib.strCells s, h2, ?_⟩
      · intro r hr
        rcases List.mem_append.1 hr with hr | hr
        · exact g2 r hr
        · simp only [strE, List.mem_map] at hr; obtain ⟨_, _, rfl⟩ := hr; rfl
      · intro i f hf
        rw [List.flatten_append] at hf
        have hle := flat_length es g2
        have hlv : vs.length = es.length * 1 := g3.1
        by_cases hi : i < es.flatten.length
        · rw [List.getElem?_append_left hi] at hf
          have := g4 i f hf
          have e1 : (vs ++ Lib.strCells s).getD i undef = vs.getD i undef := by
            simp only [List.getD_eq_getElem?_getD]
            rw [List.getElem?_append_left (by omega)]
          rw [e1]; exact hp.repF this
        · rw [List.getElem?_append_right (by omega), strE_flat, List.getElem?_map] at hf
          cases hq : s.data.toList[i - es.flatten.length]? with
          | none => rw [hq] at hf; cases hf
          | some b =>
            rw [hq] at hf; cases hf
            have e1 : (vs ++ Lib.strCells s).getD i undef = .int .u8 b.toNat := by
              simp only [List.getD_eq_getElem?_getD]
              rw [List.getElem?_append_right (by omega), hlv, ← hle, Lib.strCells, List.getElem?_map, hq]; rfl
            rw [e1]; exact .sc _ rfl)
    have hrun : (execOp a.eval o).run Γ.P w = .ok (.value (hdrV ad' (es.length + s.size) cap')) w' := by
      unfold execOp
      simp only [hop, resolve, Sem.run_bind, Sem.run_pure, Result.andThen_ok, invoke, builtin]
      have e1 : (#[x, y] : Array Operand).map a.eval = #[hdrV ad es.length cp, .string s] := by simp [hcx, hcy]
      rw [e1, h1]
      rfl
    unfold Oper.wp
    rw [hrun]
    exact hn w' μ' _ _ _ hk hm' hp' (.buf _ _ _ _ hl')

/-- An operation that answers, and leaves all as it was. -/
theorem aop_val {P : Program} {op : Op} {E : Env} {H : Heap} {K : V → Heap → Prop} {v : V} (hk : K v H)
    (h : ∀ (Γ : Ctx) (w : World) (μ : List Plc) (a : Act) (o : Oper), Γ.P = P → o.op = op → Mem Γ H w μ → (∀ x ∈ op.operands.toList, Rep Γ w μ (opd E x) (a.eval x)) → ValOk Γ H w μ a o v) : AOp P op E H K := by
  constructor
  intro Γ w μ a o next Q hP hop hm hr hn
  obtain ⟨cv, w', h1, h2, h3, h4⟩ := h Γ w μ a o hP hop hm hr
  subst hP
  unfold Oper.wp
  rw [h1]
  exact hn w' μ cv v H hk h2 h3 h4

end Go.AW

/- AW, part 17: a call by what it hands back; an empty slice; a slice held against nil. -/
namespace Go.AW
open Go Go.RowKit
variable {Γ : Ctx} {H : Heap} {w : World} {μ : List Plc} {a : Act} {o : Oper}

/-- What a handed call hands back, frozen. -/
theorem pcall_of_hcall {P : Program} {g : Nat} {args : List V} {v : V} {Hout : Heap} (h : HCall P g args [] v Hout) (hc : args.all (cl1 0) = true) : PCall P g args (fz1 Hout v) := by
  constructor
  intro Γ H w μ cargs hP hm hr
  subst hP
  let Γ' : Ctx := ⟨Γ.P, w, Imm Γ w μ, []⟩
  have hno : ∀ k, ¬ owned ([] : List Plc) k := fun k ⟨i, l, h, _⟩ => by simp at h
  have hm' : Mem Γ' [] w [] := Mem.start _ _ _ (fun k hk => hk.2.1)
  have himm : ∀ k, Imm Γ w μ k → Imm Γ' w [] k := fun k hk => ⟨.inl hk, hk.2.1, hno k⟩
  have hr' : RepArgs Γ' w [] args cargs := ⟨hr.1, fun i x hx => by
    have h1 := rep_cl1 (n := 0) (I' := Imm Γ' w []) (hr.2 i x hx) (List.all_eq_true.1 hc x (List.mem_of_getElem? hx)) himm
    simpa using h1⟩
  refine (h.go w (Imm Γ w μ) [] cargs hm' hr').mono fun cv w' ⟨μ', h1, h2⟩ => ?_
  obtain ⟨h4, h5⟩ := hm.grow (w' := w') h1.ext.size (fun k hk => h1.ext.block k hk (hno k)) h1.ext.os h1.ext.tape h1.ext.output
  have himm' : ∀ k, Imm Γ' w' [] k → Imm Γ w' μ k := by
    rintro k ⟨i1, i2, _⟩
    rcases i1 with i1 | ⟨i, l, i1, _⟩ | i1
    · exact h5.imm k i1
    · have i2 : ([] : List Plc)[i]? = some l := i1
      simp at i2
    · exact ⟨.inr (.inr (Nat.le_trans hm.ext.size i1)), i2, fun ho => by have := hm.below k ho; have : w.heap.size ≤ k := i1; omega⟩
  have h6 := rep_fz1 h1 h2
  exact ⟨h4, h5, h6.mono himm' (fun _ _ => rfl) (fun i l h => by simp at h)⟩

/-- An empty slice: a buffer of the call's own. -/
theorem aop_make0 {P : Program} {T : TTab} (hT : TOk P T) {E : Env} {H : Heap} {K : V → Heap → Prop} {t e z1 z2 : Nat} {z3 : List F} {ti : TI} (ht : T.get t = some ⟨.sli e, z1, z2, z3⟩) (hti : T.get e = some ti)
    (hk : K (.buf H.length) (H ++ [.buf e ti.sz ti.by_ []])) : AOp P (.buildSlice t 0 #[]) E H K := by
  constructor
  intro Γ w μ a o next Q hP hop hm hr hn
  subst hP
  obtain ⟨d, hd, hkk⟩ := (hT t _ ht).kind
  cases d <;> try exact hkk.elim
  rename_i e'
  obtain rfl : e = e' := hkk
  have hrun : (execOp a.eval o).run Γ.P w = .ok (.value (hdrV (some w.heap.size) 0 0)) (w.alloc (.cells #[] e)) := by
    unfold execOp
    simp only [hop, Instr.buildSlice, Sem.run_bind, run_underlying hd w, Result.andThen_ok, (hT _ _ hti).size w]
    rw [if_neg (by omega), if_pos (by omega)]
    have hf : Instr.fill (fun i => some (i * ti.sz, ti.sz)) (Array.map (fun x => (#[] : Array Value)[x % (#[] : Array Value).size]!) (Array.range (0 * ti.sz))) (Array.map (fun x => (x.1, a.eval x.2)) (#[] : Array (Nat × Operand))).toList = some #[] := by
      simp [Instr.fill]
    simp only [Sem.run_bind, Sem.run_pure, Result.andThen_ok, newRow, newObj, hf]
    rfl
  obtain ⟨hm', hp'⟩ := hm.push (w' := w.alloc (.cells #[] e)) (nb := .buf e ti.sz ti.by_ []) (l := .hdr (some w.heap.size) 0 0) (by simp) (fun k hk => Below.heap_alloc w _ k hk) rfl rfl rfl (fun k hk => by cases hk; simp)
    (fun hp => ⟨rfl, by simp, by simp, [], ⟨by simp, .inr ⟨w.heap.size, 0, #[], rfl, Nat.zero_le _, heap_new w _, Nat.le_refl _, by simp [maxLen], by simp, by simp⟩⟩, fun i f hf => by simp at hf⟩)
  unfold Oper.wp
  rw [hrun]
  exact hn _ _ _ _ _ hk hm' hp' (.buf _ _ _ _ (by rw [← hm.len]; simp))

/-- A slice held against nil. -/
theorem aop_eqnil {P : Program} {T : TTab} (hT : TOk P T) {E : Env} {H : Heap} {K : V → Heap → Prop} {t t' e z1 z2 n b : Nat} {z3 : List F} {x : Operand} {es : List (List F)} (ht : T.get t = some ⟨.sli e, z1, z2, z3⟩)
    (hx : opd E x = .fr (.sl n b es)) (hk : ∀ r : Bool, (r = true → es = []) → K (B1 r) H) : AOp P (.binOp .eql t x (.const (.slice none 0 0)) t') E H K := by
  constructor
  intro Γ w μ a o next Q hP hop hm hr hn
  subst hP
  have hrx := hr x (by simp [Op.operands])
  rw [hx] at hrx
  obtain ⟨d, hd, hkk⟩ := (hT t _ ht).kind
  cases d <;> try exact hkk.elim
  rename_i e'
  obtain rfl : e = e' := hkk
  have hrun : ∀ ad l c, a.eval x = .slice ad l c → (execOp a.eval o).run Γ.P w = .ok (.value (.bool ad.isNone)) w := by
    intro ad l c he
    unfold execOp
    have e0 : a.eval (.const (.slice none 0 0)) = .slice none 0 0 := rfl
    have hg : (eqGuard .eql t x (.const (.slice none 0 0)) (.slice ad l c) (.slice none 0 0)).run Γ.P w = .ok () w := rfl
    simp only [hop, he, e0, Sem.run_bind, hg, Result.andThen_ok, Lib.run_eql_slice_nil w t e ad l c 0 0 hd, Sem.run_pure]
  generalize hcx : a.eval x = cx at hrx
  cases hrx with
  | fr f v h =>
    cases h with
    | nil n b ad c =>
      unfold Oper.wp
      rw [hrun ad 0 c hcx]
      exact hn w μ _ _ H (hk ad.isNone (fun _ => rfl)) hm (.refl _ _ _) (.fr _ _ (.sc _ rfl))
    | sl n b es k q c cv hk1 hcl hb1 hl hc hr =>
      unfold Oper.wp
      rw [hrun _ _ c hcx]
      exact hn w μ _ _ H (hk false (fun h => by cases h)) hm (.refl _ _ _) (.fr _ _ (.sc _ rfl))

end Go.AW

/- AW, part 19: a store into a buffer's element. -/
namespace Go.AW
open Go Go.RowKit
variable {Γ : Ctx} {H : Heap} {w : World} {μ : List Plc} {a : Act} {o : Oper}

/-- A list, with a piece of it replaced. -/
theorem rep_put {fs c : List F} {vs us : List Value} {q : Nat} (h1 : ∀ (i : Nat) (f : F), fs[i]? = some f → RepFr Γ w μ f (vs.getD i undef)) (h2 : ∀ (i : Nat) (f : F), c[i]? = some f → RepFr Γ w μ f (us.getD i undef)) (hl : vs.length = fs.length) (hu : us.length = c.length) (hq : q + c.length ≤ fs.length) :
    ∀ (i : Nat) (f : F), (fs.take q ++ c ++ fs.drop (q + c.length))[i]? = some f → RepFr Γ w μ f ((vs.take q ++ us ++ vs.drop (q + c.length)).getD i undef) := by
  intro i f hi
  have e1 : (fs.take q).length = q := by simp; omega
  have e2 : (vs.take q).length = q := by simp; omega
  rcases Nat.lt_or_ge i q with h | h
  · rw [List.append_assoc, List.getElem?_append_left (by omega), List.getElem?_take, if_pos h] at hi
    have := h1 i f hi
    have e : (vs.take q ++ us ++ vs.drop (q + c.length)).getD i undef = vs.getD i undef := by
      simp only [List.getD_eq_getElem?_getD]
      rw [List.append_assoc, List.getElem?_append_left (by omega), List.getElem?_take, if_pos h]
    rw [e]; exact this
  · rcases Nat.lt_or_ge i (q + c.length) with h' | h'
    · rw [List.append_assoc, List.getElem?_append_right (by omega), e1, List.getElem?_append_left (by omega)] at hi
      have := h2 _ f hi
      have e : (vs.take q ++ us ++ vs.drop (q + c.length)).getD i undef = us.getD (i - q) undef := by
        simp only [List.getD_eq_getElem?_getD]
        rw [List.append_assoc, List.getElem?_append_right (by omega), e2, List.getElem?_append_left (by omega)]
      rw [e]; exact this
    · rw [List.getElem?_append_right (by simp; omega), List.length_append, e1, List.getElem?_drop] at hi
      have := h1 _ f hi
      have e : (vs.take q ++ us ++ vs.drop (q + c.length)).getD i undef = vs.getD (q + c.length + (i - (q + c.length))) undef := by
        simp only [List.getD_eq_getElem?_getD]
        rw [List.getElem?_append_right (by simp; omega), List.length_append, e2, hu, List.getElem?_drop]
      rw [e]; exact this

theorem aop_bpstore {P : Program} {T : TTab} (hT : TOk P T) {E : Env} {K : V → Heap → Prop} {t : Nat} {x y : Operand} {b q e n nb : Nat} {es : List (List F)} {c : List F} {ti : TI} (es' : List (List F)) (ht : T.get t = some ti) (hx : opd E x = .bp b q)
    (hH : nth H b = some (.buf e n nb es)) (hc : cellsN ti.sz (opd E y) = some (c.map .fr)) (hl : es'.length = es.length) (hr : ∀ r ∈ es', r.length = n) (hq : q + c.length ≤ es.flatten.length)
    (hf : es'.flatten = es.flatten.take q ++ c ++ es.flatten.drop (q + c.length)) (hk : K (.tup []) (setB H b (.buf e n nb es'))) : AOp P (.store t x y) E H K := by
  constructor
  intro Γ w μ a o next Q hP hop hm hrr hn
  subst hP
  rw [nth_eq] at hH
  have hrx := hrr x (by simp [Op.operands])
  have hry := hrr y (by simp [Op.operands])
  rw [hx] at hrx
  generalize hcx : a.eval x = cx at hrx
  cases hrx with
  | bpd b q k hl1 => exact (hm.blk _ _ _ hH hl1).elim
  | bp b q k m cap hl1 =>
    obtain ⟨g1, g0, g2, vs, g3, g4⟩ := hm.blk _ _ _ hH hl1
    obtain ⟨h5, h6⟩ := pw_cellsN hry hc
    have hus : (a.eval y).cells.toList.length = c.length := by rw [← h5.1]; simp
    have hfl := flat_length es g2
    have hvl : vs.length = m * n := g3.1
    rcases g3.2 with ⟨hnil, _⟩ | ⟨g, cap0, cur, hvv, hbg, hg, hcap, hcm, hcs, htake⟩
    · simp [hdrV] at hnil
    · simp only [hdrV, Option.map_some, Value.slice.injEq, Option.some.injEq, Addr.mk.injEq] at hvv
      obtain ⟨⟨rfl, _⟩, _, rfl⟩ := hvv
      have hcur : cur.toList = vs ++ cur.toList.drop (m * n) := by rw [← htake, List.take_append_drop]
      have hcsz : m * n ≤ cur.size := by rw [hcs]; exact Nat.mul_le_mul_right _ hcap
      have hqm : q + c.length ≤ m * n := by rw [hfl, ← g1] at hq; exact hq
      have hsz : c.length = ti.sz := by rw [← hus]; simpa using h6
      have hone : ∀ z ∈ (a.eval y).cells.toList, z.oneCell' = true := fun z hz => by
        obtain ⟨i, hi⟩ := List.getElem?_of_mem hz
        have hlt : i < (c.map V.fr).length := by have := (List.getElem?_eq_some_iff.1 hi).1; rw [h5.1]; exact this
        obtain ⟨v', e1, e2⟩ := h5.2 i (c.map V.fr)[i] (by simp)
        rw [hi] at e1; cases e1; exact e2.2
      have hrun := run_storeAny (P := Γ.P) (w := w) (k := k) (q := q) (hT t ti ht) h6 (fun j hj => by rw [cell_of hg (q + j) (by omega)]; rfl) (fun j hj => by simp [World.frozen?, hg]) hone
      obtain ⟨r1, r2, r3, r4⟩ := setCells_rest k (a.eval y).cells.toList q w
      obtain ⟨c', e1, e2⟩ := setCells_heap k (a.eval y).cells.toList q w cur e hg (by omega)
      have hlenv : (vs.take q ++ (a.eval y).cells.toList ++ vs.drop (q + c.length)).length = m * n := by
        simp only [List.length_append, List.length_take, List.length_drop, hus, hvl]; omega
      have hc' : c'.toList = (vs.take q ++ (a.eval y).cells.toList ++ vs.drop (q + c.length)) ++ cur.toList.drop (m * n) := by
        rw [e2, hus]
        conv => lhs; rw [hcur]
        rw [List.take_append_of_le_length (by omega), List.drop_append_of_le_length (by omega)]
        simp [List.append_assoc]
      obtain ⟨hm', hp'⟩ := hm.write (w' := w.setCells k q (a.eval y).cells.toList) (x := .buf e n nb es') hl1 rfl r1 (fun k' hk' => setCells_other k _ q w k' hk') r2 r3 r4 (fun _ h => by cases h) (fun hp => by
        refine ⟨by rw [hl]; exact g1, by rw [hl]; exact g0, hr, vs.take q ++ (a.eval y).cells.toList ++ vs.drop (q + c.length), ⟨hlenv, .inr ⟨k, cap, c', rfl, hbg, e1, hcap, hcm, ?_, ?_⟩⟩, ?_⟩
        · have := congrArg List.length hc'
          rw [List.length_append, hlenv, List.length_drop, Array.length_toList, Array.length_toList] at this
          rw [this, ← hcs]; omega
        · rw [hc', List.take_append_of_le_length (by omega), List.take_of_length_le (by omega)]
        · rw [hf]
          refine rep_put (fun i f hi => hp.repF (g4 i f hi)) (fun i f hi => ?_) (by rw [hvl, hfl, g1]) hus hq
          obtain ⟨v', e3, e4⟩ := h5.2 i (.fr f) (by rw [List.getElem?_map, hi]; rfl)
          have e5 : (a.eval y).cells.toList.getD i undef = v' := by rw [List.getD_eq_getElem?_getD, e3]; rfl
          rw [e5]
          have e6 := e4.1
          cases e6 with
          | fr f v h => exact hp.repF h)
      unfold Oper.wp
      have hex : (execOp a.eval o).run Γ.P w = .ok .skip (w.setCells k q (a.eval y).cells.toList) := by
        unfold execOp; simp only [hop, hcx, Sem.run_bind, hrun, Result.andThen_ok, Sem.run_pure]
      rw [hex]
      exact hn _ μ undef _ _ hk hm' hp' undef_rep

end Go.AW

/- AW, part 20: methods called by way of an interface. -/
namespace Go.AW
open Go Go.RowKit

theorem pop_val {P : Program} {op : Op} {E : Env} {v : V}
    (h : ∀ (Γ : Ctx) (H : Heap) (w : World) (μ : List Plc) (a : Act) (o : Oper), Γ.P = P → o.op = op → Mem Γ H w μ → (∀ x ∈ op.operands.toList, Rep Γ w μ (opd E x) (a.eval x)) → ValOk Γ H w μ a o v) : POp P op E v :=
  ⟨fun Γ H w μ a o next Q hP ho hm hr hn => by
    subst hP
    exact (h Γ H w μ a o rfl ho hm hr).next next Q fun w' cv h1 h2 h3 => hn w' cv h1 h2 h3⟩

/-- A type's own method, of a value. -/
structure MethOk (P : Program) (t : Nat) (m : String) (f : Nat) : Prop where
  row : ∃ i mm, P.info? t = some i ∧ i.methods.find? (·.name == m) = some mm ∧ mm.path = #[] ∧ mm.func = some (f, false)
  und : ∃ fs, P.underlying t = some (.struct fs)

theorem MethOk.run {P : Program} {t : Nat} {m : String} {f : Nat} (h : MethOk P t m f) (v : Value) (w : World) : (method (P.types.size + Made.depth) t v m).run P w = .ok (f, v) w := by
  obtain ⟨⟨i, mm, h1, h2, h3, h4⟩, fs, h5⟩ := h
  obtain ⟨n, e⟩ : ∃ n, P.types.size + Made.depth = n + 1 := ⟨P.types.size + 99, rfl⟩
  rw [e]
  simp only [method, Sem.run_bind, run_typeInfo w h1, Result.andThen_ok, h2, h3, h4, follow, Sem.run_pure, receiverAt, run_underlying h5 w, Place.get]

theorem MethOk.nil {P : Program} {t : Nat} {m : String} {f : Nat} (h : MethOk P t m f) (v : Value) (w : World) : (nilAhead (P.types.size + Made.depth) t v m).run P w = .ok (some false) w := by
  obtain ⟨⟨i, mm, h1, h2, h3, h4⟩, fs, h5⟩ := h
  obtain ⟨n, e⟩ : ∃ n, P.types.size + Made.depth = n + 1 := ⟨P.types.size + 99, rfl⟩
  rw [e]
  simp only [nilAhead, Sem.run_bind, run_typeInfo w h1, Result.andThen_ok, h2, h3, h4, followBlind, Sem.run_pure, run_underlying h5 w]

theorem pop_mth {P : Program} {E : Env} {x : Operand} {m : String} {t : Nat} {v : V} (hx : opd E x = .ifc t v) : POp P (.makeFunc (.method m) #[x] #[]) E (.mth m t v) :=
  pop_val fun Γ H w μ a o hP ho hm hr => by
    have h1 := hr x (by simp [Op.operands])
    rw [hx] at h1
    generalize hcx : a.eval x = cx at h1
    cases h1 with
    | ifc t x v h => exact .same (cv := .func (.method m) #[.iface t v] #[]) hm (by unfold execOp; simp only [ho, Instr.makeFunc]; simp [hcx]) (.mth _ _ _ _ h)

theorem pop_nilmth {P : Program} {E : Env} {x : Operand} {m : String} {t f : Nat} {v : V} (hx : opd E x = .mth m t v) (hM : MethOk P t m f) : POp P (.nilCheck x) E (.mth m t v) :=
  pop_val fun Γ H w μ a o hP ho hm hr => by
    subst hP
    have h1 := hr x (by simp [Op.operands])
    rw [hx] at h1
    generalize hcx : a.eval x = cx at h1
    cases h1 with
    | mth m t x v h =>
      refine .same (cv := .func (.method m) #[.iface t v] #[]) hm ?_ (.mth _ _ _ _ h)
      unfold execOp
      simp only [ho, hcx]
      simp [Sem.run_bind, hM.nil v w, Result.andThen_ok]

theorem pop_invoke {P : Program} {E : Env} {x : Operand} {m : String} {t f : Nat} {v u : V} {args : Array Operand} {ats : Array TypeId} (hx : opd E x = .ifc t v) (hM : MethOk P t m f) (hc : PCall P f (v :: args.toList.map (opd E)) u) :
    POp P (.call ⟨.invoke x m, args, ats⟩) E u := by
  constructor
  intro Γ H w μ a o next Q hP ho hm hr hn
  subst hP
  have h1 := hr x (by simp [Op.operands, Call.operands])
  have h2 : ∀ y ∈ args.toList, Rep Γ w μ (opd E y) (a.eval y) := fun y hy => hr y (by simp [Op.operands, Call.operands]; right; simpa using hy)
  rw [hx] at h1
  generalize hcx : a.eval x = cx at h1
  cases h1 with
  | ifc t x' cv h =>
    have hrun : (execOp a.eval o).run Γ.P w = (callFunc f (#[cv] ++ args.map a.eval)).run Γ.P w := by
      unfold execOp
      simp only [ho, resolve, Sem.run_bind, Sem.run_pure, Result.andThen_ok, invoke]
      have e0 : (#[a.eval x] ++ args.map a.eval)[0]? = some (a.eval x) := by
        rw [Array.getElem?_append_left (by simp)]; rfl
      have e1 : (#[a.eval x] ++ args.map a.eval).extract 1 (#[a.eval x] ++ args.map a.eval).size = args.map a.eval := by
        apply Array.ext'
        simp
        exact List.take_of_length_le (by simp)
      rw [e0, e1, hcx]
      simp only [callMethod, Sem.run_bind, run_program, Result.andThen_ok, hM.run cv w]
    have hargs : RepArgs Γ w μ (v :: args.toList.map (opd E)) (#[cv] ++ args.map a.eval) := by
      refine ⟨by simp; omega, fun i y hy => ?_⟩
      cases i with
      | zero =>
        simp at hy
        subst hy
        have e : (#[cv] ++ args.map a.eval).getD 0 undef = cv := by
          have : (#[cv] ++ args.map a.eval)[0]? = some cv := by
            rw [Array.getElem?_append_left (by simp)]; rfl
          simp [Array.getD_eq_getD_getElem?, this]
        rw [e]
        exact h
      | succ i =>
        simp only [List.getElem?_cons_succ, List.getElem?_map] at hy
        cases hq : args.toList[i]? with
        | none => rw [hq] at hy; cases hy
        | some z =>
          rw [hq] at hy; cases hy
          have hq' : args[i]? = some z := by simpa using hq
          have e : (#[cv] ++ args.map a.eval).getD (i + 1) undef = a.eval z := by
            have : (#[cv] ++ args.map a.eval)[i + 1]? = some (a.eval z) := by
              rw [Array.getElem?_append_right (by simp)]
              simp [hq']
            simp [Array.getD_eq_getD_getElem?, this]
          rw [e]
          exact h2 z (List.mem_of_getElem? hq)
    unfold Oper.wp
    rw [hrun]
    rcases hc.go Γ H w μ _ rfl hm hargs with ⟨h3, h4⟩ | ⟨cv', w', h3, h5, h6, h7⟩
    · rw [h3]
      refine Calls.mono h4 fun e w' ⟨cv', he, h5, h6, h7⟩ => ?_
      subst he
      exact hn w' cv' h5 h6 h7
    · rw [h3]
      exact hn w' cv' h5 h6 h7

theorem run_eqifc {P : Program} {t q : Nat} {v : Value} {ms : Array (String × TypeId)} (hu : P.underlying t = some (.interface ms)) (w : World) : (Op.equal t (.iface q v) .nilIface).run P w = .ok false w := by
  unfold Op.equal
  obtain ⟨n, e⟩ : ∃ n, Op.maxDepth = n + 1 := ⟨9999, rfl⟩
  rw [e]
  simp only [Op.equalIn, Sem.run_bind, run_underlying hu w, Result.andThen_ok, Sem.run_pure]
theorem run_eqnoifc {P : Program} {t : Nat} {ms : Array (String × TypeId)} (hu : P.underlying t = some (.interface ms)) (w : World) : (Op.equal t .nilIface .nilIface).run P w = .ok true w := by
  unfold Op.equal
  obtain ⟨n, e⟩ : ∃ n, Op.maxDepth = n + 1 := ⟨9999, rfl⟩
  rw [e]
  simp only [Op.equalIn, Sem.run_bind, run_underlying hu w, Result.andThen_ok, Sem.run_pure]

/-- An interface's value held against nil. -/
theorem aop_eqifc {P : Program} {E : Env} {H : Heap} {K : V → Heap → Prop} {x : Operand} {t t' q : Nat} {v : V} {ms : Array (String × TypeId)} (hu : P.underlying t = some (.interface ms)) (hx : opd E x = .ifc q v) (k : K (B1 false) H) :
    AOp P (.binOp .eql t x (.const .nilIface) t') E H K :=
  aop_pop (pop_val fun Γ H w μ a o hP ho hm hr => by
    subst hP
    have h1 := hr x (by simp [Op.operands])
    rw [hx] at h1
    generalize hcx : a.eval x = cx at h1
    cases h1 with
    | ifc q x' v h =>
      refine .same (cv := .bool false) hm ?_ (.fr _ _ (.sc _ rfl))
      unfold execOp
      simp only [ho, hcx]
      have e0 : a.eval (.const .nilIface) = .nilIface := rfl
      have hg : (eqGuard .eql t x (.const .nilIface) (.iface q v) .nilIface).run Γ.P w = .ok () w := rfl
      simp only [e0, Sem.run_bind, hg, Result.andThen_ok, binOp, run_eqifc hu w, Sem.run_pure]) k
theorem aop_eqnoifc {P : Program} {E : Env} {H : Heap} {K : V → Heap → Prop} {x : Operand} {t t' : Nat} {ms : Array (String × TypeId)} (hu : P.underlying t = some (.interface ms)) (hx : opd E x = .fr (.sc .nilIface)) (k : K (B1 true) H) :
    AOp P (.binOp .eql t x (.const .nilIface) t') E H K :=
  aop_pop (pop_val fun Γ H w μ a o hP ho hm hr => by
    subst hP
    have h1 := rep_sc (by have := hr x (by simp [Op.operands]); rw [hx] at this; exact this)
    refine .same (cv := .bool true) hm ?_ (.fr _ _ (.sc _ rfl))
    unfold execOp
    have e0 : a.eval (.const .nilIface) = .nilIface := rfl
    have hg : (eqGuard .eql t x (.const .nilIface) .nilIface .nilIface).run Γ.P w = .ok () w := by cases x <;> rfl
    simp only [ho, h1, e0, Sem.run_bind, hg, Result.andThen_ok, binOp, run_eqnoifc hu w, Sem.run_pure]) k

end Go.AW

