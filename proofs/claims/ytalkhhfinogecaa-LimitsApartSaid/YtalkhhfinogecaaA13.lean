/- AW, part 13: operations in their text's order. -/
import Derived.Test.YtalkhhfinogecaaA12B
import Derived.Scope
namespace Go.AW
open Go Go.RowKit

/-! ### What is asked of the code's text -/
def constB : Operand → Bool
  | .const (.agg cs) => cs.toList.all (·.oneCell')
  | _ => true

def operOK (nt : Nat) (o : Oper) : Bool := (match o.dst with | some d => Nat.blt d nt | none => true) && o.op.operands.toList.all constB

section
variable {Γ : Ctx} {nt : Nat} {E : Env} {H : Heap} {w : World} {μ : List Plc} {a : Act}

theorem rep_operand {x : Operand} (hE : EnvOk Γ w μ E a.tmps) (hc : constB x = true) : Rep Γ w μ (opd E x) (a.eval x) :=
  rep_opd (fun t _ => hE t) (by
    cases x with
    | const v =>
      cases v with
      | agg cs => intro y hy; simp only [constB, List.all_eq_true] at hc; exact hc y hy
      | _ => trivial
    | _ => trivial)

theorem EnvOk.put {d : Nat} {v : V} {cv : Value} (hE : EnvOk Γ w μ E a.tmps) (hd : d < a.tmps.size) (h : Rep Γ w μ v cv) : EnvOk Γ w μ ((d, v) :: E) (a.put (some d) cv).tmps := by
  intro t
  rw [look_cons]
  simp only [Act.put]
  split
  · rename_i he
    subst he
    have : (a.tmps.setIfInBounds d cv).getD d undef = cv := by simp [Array.getD_eq_getD_getElem?, hd]
    rw [this]; exact h
  · rename_i hne
    have : (a.tmps.setIfInBounds d cv).getD t undef = a.tmps.getD t undef := by simp [Array.getD_eq_getD_getElem?, hne]
    rw [this]; exact hE t

theorem EnvOk.cons {d : Nat} {v : V} {tmps : Array Value} (hE : EnvOk Γ w μ E tmps) (h : Rep Γ w μ v (tmps.getD d undef)) : EnvOk Γ w μ ((d, v) :: E) tmps := by
  intro t
  rw [look_cons]
  split
  · rename_i he; subst he; exact h
  · exact hE t

theorem put_ok {o : Oper} {v : V} {cv : Value} (hE : EnvOk Γ w μ E a.tmps) (hd : operOK a.tmps.size o = true) (h : Rep Γ w μ v cv) : EnvOk Γ w μ (setE E o.dst v) (a.put o.dst cv).tmps := by
  cases hdst : o.dst with
  | none => exact hE
  | some d =>
    refine hE.put ?_ h
    simp only [operOK, hdst, Bool.and_eq_true, Nat.blt_eq] at hd
    exact hd.1

theorem put_size (o : Option Tmp) (v : Value) : (a.put o v).tmps.size = a.tmps.size := by cases o <;> simp [Act.put]
theorem put_defers (o : Option Tmp) (v : Value) : (a.put o v).defers = a.defers := by cases o <;> rfl

theorem yielded_some {ops : Array Oper} {j d : Nat} {b : Bool} (hd : dstOf ops.toList j = some d) (hb : a.tmps.getD d undef = .bool b) : yielded ops a.tmps j = some b := by
  unfold dstOf at hd
  rw [nth_eq] at hd
  cases ho : ops.toList[j]? with
  | none => rw [ho] at hd; cases hd
  | some o =>
    rw [ho] at hd
    have ho' : ops[j]? = some o := by simpa using ho
    simp only at hd
    have : a.tmps[d]? = some (.bool b) := by
      rw [Array.getD_eq_getD_getElem?] at hb
      cases hq : a.tmps[d]? with
      | none => rw [hq] at hb; simp [undef] at hb
      | some u => rw [hq] at hb; simp at hb; rw [hb]
    simp [yielded, ho', hd, this]

theorem yielded_undef {ops : Array Oper} {j d : Nat} (hd : dstOf ops.toList j = some d) (hb : a.tmps.getD d undef = .tuple #[]) : yielded ops a.tmps j = none := by
  unfold dstOf at hd
  rw [nth_eq] at hd
  cases ho : ops.toList[j]? with
  | none => rw [ho] at hd; cases hd
  | some o =>
    rw [ho] at hd
    have ho' : ops[j]? = some o := by simpa using ho
    simp only at hd
    rw [Array.getD_eq_getD_getElem?] at hb
    cases hq : a.tmps[d]? with
    | none => simp [yielded, ho', hd, hq]
    | some u => rw [hq] at hb; simp at hb; simp [yielded, ho', hd, hq, hb]

theorem yielded_none {ops : Array Oper} {j : Nat} (hd : dstOf ops.toList j = none) : yielded ops a.tmps j = none := by
  unfold dstOf at hd
  rw [nth_eq] at hd
  cases ho : ops.toList[j]? with
  | none =>
    have ho' : ops[j]? = none := by simpa using ho
    simp only [yielded, ho', Option.bind_none]
  | some o =>
    rw [ho] at hd
    have ho' : ops[j]? = some o := by simpa using ho
    simp only at hd
    simp [yielded, ho', hd]

theorem rep_tup0 {I : Nat → Prop} {v : Value} (h : RepV w I μ (.tup []) v) : v = .tuple #[] := by
  obtain ⟨vs, rfl, hl, _⟩ := rep_tup_one h
  have : vs = #[] := by apply Array.eq_empty_of_size_eq_zero; simpa using hl
  rw [this]


end

/-! ### The evaluator, guards and all -/
/-- A call under a guard: with what it answers if it is made; or each way by itself. -/
inductive GCall (P : Program) (g : Bool) (f : Nat) (args : List V) (H : Heap) (sym : V → Prop) (run skip : Prop) : Prop where
  | sym (v : V) (h : g = true → PC P f args H v) (k : sym v)
  | split (h1 : g = true → run) (h2 : g = false → skip)

noncomputable def tchk (chk : Bool) (all : List Oper) (i : Nat) (ts : List (Nat × Bool)) (acc : Tch) (k : Tch → Prop) : Prop := match chk with
  | false => k acc
  | true => (match agree all i ts acc with | true => k ((i, ts) :: acc) | false => False)

noncomputable def dstIs (dst : Option Nat) (d : Nat) : Bool := match dst with | some t => Nat.beq t d | none => false

noncomputable def skipE (E : Env) (G : GEnv) (d : Nat) (w : Bool) : Env := match findG G d with
  | none => (d, B1 (match w with | true => false | false => true)) :: E
  | some _ => E

noncomputable def keepG (chk : Bool) (r : PR) (G : GEnv) : GEnv := match chk with
  | true => G
  | false => (match r with | .call _ _ => [] | _ => G)

noncomputable def xgo (P : Program) (g : Bool) (r : PR) (d : Nat) (dst : Option Nat) (H : Heap) (sym : V → Prop) (run skip : Prop) : Prop := match dstIs dst d with
  | true => bsel g run skip
  | false => (match r with
    | .val v => sym v
    | .side p v => (g = true → p) ∧ sym v
    | .idx es i => GIdx g es i fun e => sym (.fptr e 0)
    | .str s i => GStr g s i fun b => sym (.fr (.sc (.int .u8 b)))
    | .ex p => GEx g p sym
    | .call f args => fcL args fun args => GCall P g f args H sym run skip
    | _ => bsel g run skip)

noncomputable def xg (P : Program) (chk : Bool) (C : Calling) (T : TTab) (n0 : Nat) (all ops : List Oper) : Nat → Tch → Env → GEnv → Heap → (Env → Heap → Prop) → Prop :=
  List.rec (motive := fun _ => Nat → Tch → Env → GEnv → Heap → (Env → Heap → Prop) → Prop) (fun _ _ E _ H K => K E H)
    (fun o _ ih i acc E G H K => match o.guard with
      | none => tchk chk all i (touch E o.op) acc fun acc' =>
          xopR C T E H (evalG T n0 E G [] H o.op) o.op fun v E2 H2 => setK E2 (keepG chk (evalG T n0 E G [] H o.op) G) o.dst v fun E3 G3 => ih (i + 1) acc' E3 G3 H2 K
      | some (j, w) => (match dstOf all j with
        | none => setK E G o.dst (.tup []) fun E3 G3 => ih (i + 1) acc E3 G3 H K
        | some d => (match condB E G 6 d w with
          | none => (match look E d with
            | .tup [] => setK E G o.dst (.tup []) fun E3 G3 => ih (i + 1) acc E3 G3 H K
            | _ => False)
          | some g => tchk chk all i (touch (envA G (asm G 6 d w) E) o.op) acc fun acc' =>
              xgo P g (evalG T n0 E G (asm G 6 d w) H o.op) d o.dst H (fun v => addK E G d w v o.dst fun E3 G3 => ih (i + 1) acc' E3 G3 H K)
                (xopR C T (envA G (asm G 6 d w) E) H (evalG T n0 E G (asm G 6 d w) H o.op) o.op fun v E2 H2 =>
                  setK E2 (keepG chk (evalG T n0 E G (asm G 6 d w) H o.op) G) o.dst v fun E3 G3 => ih (i + 1) acc' E3 G3 H2 K)
                (setK (skipE E G d w) G o.dst (.tup []) fun E3 G3 => ih (i + 1) acc' E3 G3 H K)))) ops

/-! ### What the guards say -/
theorem look_same {E : Env} {d : Nat} {v : V} (h : look E d = v) (t : Nat) : look ((d, v) :: E) t = look E t := by
  rw [look_cons]
  split
  · rename_i he; subst he; exact h.symm
  · rfl

structure Agr (E : Env) (G : GEnv) (L : Nat → V) : Prop where
  e : ∀ t, look E t = .bad ∨ look E t = L t
  g : ∀ p ∈ G, (L p.2.1 = B1 p.2.2.1 ∧ L p.1 = p.2.2.2) ∨ (L p.2.1 ≠ B1 p.2.2.1 ∧ L p.1 = .tup [])

def updL (L : Nat → V) (dst : Option Nat) (v : V) (t : Nat) : V := match dst with
  | some d => if d = t then v else L t
  | none => L t

theorem findG_mem {G : GEnv} {t : Nat} {x : Nat × Bool × V} (h : findG G t = some x) : (t, x) ∈ G := by
  induction G with
  | nil => cases h
  | cons p G ih =>
    have h' : (match Nat.beq p.1 t with | true => some p.2 | false => findG G t) = some x := h
    cases hb : Nat.beq p.1 t with
    | true =>
      rw [hb] at h'; cases h'
      have := Nat.eq_of_beq_eq_true hb
      subst this
      exact List.mem_cons_self
    | false => rw [hb] at h'; exact List.mem_cons_of_mem _ (ih h')

theorem B1_inj {a b : Bool} (h : B1 a = B1 b) : a = b := by injection h with h; injection h with h; injection h

theorem asm_zero (G : GEnv) (d : Nat) (w : Bool) : asm G 0 d w = [(d, w)] := rfl
theorem asm_succ (G : GEnv) (n d : Nat) (w : Bool) : asm G (n + 1) d w = (d, w) :: (match findG G d with | some (d2, w2, _) => asm G n d2 w2 | none => []) := rfl

theorem asm_head (G : GEnv) (n d : Nat) (w : Bool) : (d, w) ∈ asm G n d w := by
  cases n with
  | zero => rw [asm_zero]; exact List.mem_cons_self
  | succ n => rw [asm_succ]; exact List.mem_cons_self

theorem asm_spec {E : Env} {G : GEnv} {L : Nat → V} (ha : Agr E G L) : ∀ (n d : Nat) (w : Bool), L d = B1 w → ∀ q ∈ asm G n d w, L q.1 = B1 q.2
  | 0, d, w, h, q, hq => by rw [asm_zero] at hq; simp at hq; subst hq; exact h
  | n + 1, d, w, h, q, hq => by
    rw [asm_succ] at hq
    rcases List.mem_cons.1 hq with rfl | hq
    · exact h
    · cases hf : findG G d with
      | none => rw [hf] at hq; cases hq
      | some x =>
        obtain ⟨d2, w2, v⟩ := x
        rw [hf] at hq
        rcases ha.g _ (findG_mem hf) with ⟨h1, _⟩ | ⟨_, h2⟩
        · exact asm_spec ha n d2 w2 h1 q hq
        · rw [h] at h2; cases h2

theorem condB_zero (E : Env) (G : GEnv) (d : Nat) (w : Bool) : condB E G 0 d w = none := rfl
theorem condB_succ (E : Env) (G : GEnv) (n d : Nat) (w : Bool) : condB E G (n + 1) d w = (match findG G d with
    | some (d2, w2, v) => (match v with
      | .fr (.sc (.bool b)) => (match condB E G n d2 w2 with | some g => some (g && eqw b w) | none => none)
      | _ => none)
    | none => (match look E d with | .fr (.sc (.bool b)) => some (eqw b w) | _ => none)) := rfl

theorem eqw_true {b w : Bool} (h : eqw b w = true) : b = w := by cases b <;> cases w <;> first | rfl | cases h
theorem eqw_false {b w : Bool} (h : eqw b w = false) : b = !w := by cases b <;> cases w <;> first | rfl | cases h

theorem condB_spec {E : Env} {G : GEnv} {L : Nat → V} (ha : Agr E G L) : ∀ (n d : Nat) (w g : Bool), condB E G n d w = some g → (g = true ∧ L d = B1 w) ∨ (g = false ∧ (L d = B1 (!w) ∨ L d = .tup []))
  | 0, d, w, g, h => by cases h
  | n + 1, d, w, g, h => by
    rw [condB_succ] at h
    cases hf : findG G d with
    | none =>
      rw [hf] at h
      simp only at h
      split at h
      · rename_i b hb
        cases h
        have hL : L d = B1 b := by
          rcases ha.e d with h | h
          · rw [hb] at h; cases h
          · rw [← h, hb]
        cases he : eqw b w with
        | true => rw [eqw_true he] at hL; exact .inl ⟨rfl, hL⟩
        | false => rw [eqw_false he] at hL; exact .inr ⟨rfl, .inl hL⟩
      · cases h
    | some x =>
      obtain ⟨d2, w2, v⟩ := x
      rw [hf] at h
      simp only at h
      split at h
      · rename_i b
        cases hc : condB E G n d2 w2 with
        | none => rw [hc] at h; cases h
        | some g2 =>
          rw [hc] at h
          cases h
          have ih := condB_spec ha n d2 w2 g2 hc
          rcases ha.g _ (findG_mem hf) with ⟨h1, h2⟩ | ⟨h1, h2⟩
          · have h1' : L d2 = B1 w2 := h1
            have h2' : L d = B1 b := h2
            have hg : g2 = true := by
              rcases ih with ⟨h, _⟩ | ⟨_, h | h⟩
              · exact h
              · rw [h1'] at h; have := B1_inj h; cases w2 <;> cases this
              · rw [h1'] at h; cases h
            rw [hg, Bool.true_and]
            cases he : eqw b w with
            | true => rw [eqw_true he] at h2'; exact .inl ⟨rfl, h2'⟩
            | false => rw [eqw_false he] at h2'; exact .inr ⟨rfl, .inl h2'⟩
          · have hg : g2 = false := by
              rcases ih with ⟨_, h⟩ | ⟨h, _⟩
              · exact absurd h h1
              · exact h
            rw [hg]
            exact .inr ⟨rfl, .inr h2⟩
      · cases h

theorem memA_mem {d : Nat} {w : Bool} {A : List (Nat × Bool)} (h : memA d w A = true) : (d, w) ∈ A := by
  induction A with
  | nil => cases h
  | cons p A ih =>
    have h' : (match (generalizing := false) Nat.beq p.1 d with
      | true => (match (generalizing := false) p.2, w with | true, true => true | false, false => true | _, _ => memA d w A)
      | false => memA d w A) = true := h
    cases hb : Nat.beq p.1 d with
    | false => rw [hb] at h'; exact List.mem_cons_of_mem _ (ih h')
    | true =>
      rw [hb] at h'
      have := Nat.eq_of_beq_eq_true hb
      obtain ⟨p1, p2⟩ := p
      simp only at this h'
      subst this
      cases p2 <;> cases w <;> first | exact List.mem_cons_self | exact List.mem_cons_of_mem _ (ih h')

theorem envB_spec {E : Env} {G : GEnv} {L : Nat → V} (ha : Agr E G L) {A : List (Nat × Bool)} (hA : ∀ q ∈ A, L q.1 = B1 q.2) (t : Nat) : look (envB A E) t = .bad ∨ look (envB A E) t = L t := by
  induction A with
  | nil => exact ha.e t
  | cons p A ih =>
    show look ((p.1, B1 p.2) :: envB A E) t = .bad ∨ look ((p.1, B1 p.2) :: envB A E) t = L t
    rw [look_cons]
    split
    · rename_i he; subst he; exact .inr (hA p List.mem_cons_self).symm
    · exact ih fun q hq => hA q (List.mem_cons_of_mem _ hq)

theorem envA_spec {E : Env} {G : GEnv} {L : Nat → V} (ha : Agr E G L) {A : List (Nat × Bool)} (hA : ∀ q ∈ A, L q.1 = B1 q.2) (t : Nat) : look (envA G A E) t = .bad ∨ look (envA G A E) t = L t := by
  have key : ∀ G' : GEnv, (∀ p ∈ G', p ∈ G) → (look (envA G' A E) t = .bad ∨ look (envA G' A E) t = L t) := by
    intro G'
    induction G' with
    | nil => intro _; exact envB_spec ha hA t
    | cons p G' ih =>
      intro hsub
      have ih' := ih fun q hq => hsub q (List.mem_cons_of_mem _ hq)
      have e : envA (p :: G') A E = (match memA p.2.1 p.2.2.1 A with | true => (p.1, p.2.2.2) :: envA G' A E | false => envA G' A E) := rfl
      rw [e]
      cases hm : memA p.2.1 p.2.2.1 A with
      | false => exact ih'
      | true =>
        simp only [look_cons]
        split
        · rename_i he; subst he
          have hL := hA _ (memA_mem hm)
          rcases ha.g p (hsub p List.mem_cons_self) with ⟨_, h⟩ | ⟨h, _⟩
          · exact .inr h.symm
          · exact absurd hL h
        · exact ih'
  exact key G fun _ h => h

theorem envB_hit {E : Env} {L : Nat → V} {A : List (Nat × Bool)} (hA : ∀ q ∈ A, L q.1 = B1 q.2) {d : Nat} {w : Bool} (h : (d, w) ∈ A) : look (envB A E) d = L d := by
  induction A with
  | nil => cases h
  | cons p A ih =>
    show look ((p.1, B1 p.2) :: envB A E) d = L d
    rw [look_cons]
    split
    · rename_i he; subst he; exact (hA p List.mem_cons_self).symm
    · rename_i hne
      rcases List.mem_cons.1 h with rfl | h
      · exact absurd rfl hne
      · exact ih (fun q hq => hA q (List.mem_cons_of_mem _ hq)) h

theorem envA_hit {E : Env} {G : GEnv} {L : Nat → V} (ha : Agr E G L) {A : List (Nat × Bool)} (hA : ∀ q ∈ A, L q.1 = B1 q.2) {d : Nat} {w : Bool} (h : (d, w) ∈ A) : look (envA G A E) d = L d := by
  have key : ∀ G' : GEnv, (∀ p ∈ G', p ∈ G) → look (envA G' A E) d = L d := by
    intro G'
    induction G' with
    | nil => intro _; exact envB_hit hA h
    | cons p G' ih =>
      intro hsub
      have ih' := ih fun q hq => hsub q (List.mem_cons_of_mem _ hq)
      have e : envA (p :: G') A E = (match memA p.2.1 p.2.2.1 A with | true => (p.1, p.2.2.2) :: envA G' A E | false => envA G' A E) := rfl
      rw [e]
      cases hm : memA p.2.1 p.2.2.1 A with
      | false => exact ih'
      | true =>
        simp only [look_cons]
        split
        · rename_i he; subst he
          have hL := hA _ (memA_mem hm)
          rcases ha.g p (hsub p List.mem_cons_self) with ⟨_, h⟩ | ⟨h, _⟩
          · exact h.symm
          · exact absurd hL h
        · exact ih'
  exact key G fun _ h => h

theorem envA_nil (G : GEnv) (E : Env) : envA G [] E = E := by
  induction G with
  | nil => rfl
  | cons p G ih => exact ih

theorem mrg_true {x y u : V} (h : mrg true x y = some u) : u = x := by
  unfold mrg at h
  split at h
  · cases h; rfl
  · split at h
    · cases h; rfl
    · cases h
  · cases h; rfl
  · cases h

theorem mrg_false {x y u : V} (h : mrg false x y = some u) : u = y := by
  unfold mrg at h
  split at h
  · cases h; rfl
  · split at h
    · rename_i hk
      cases h
      rw [kCode_inj (Nat.eq_of_beq_eq_true hk)]
      rfl
    · cases h
  · cases h; rfl
  · cases h

/-- What evalG says is what evalP says somewhere below L. -/
theorem evalG_spec {T : TTab} {n0 : Nat} {E : Env} {G : GEnv} {L : Nat → V} {H : Heap} (ha : Agr E G L) {A : List (Nat × Bool)} (hA : ∀ q ∈ A, L q.1 = B1 q.2) (op : Op) :
    (evalP T n0 (envA G A E) H op = evalG T n0 E G A H op) ∨
    (∃ E1 b x1 y1 c x y, op = .pick c x y ∧ (∀ t, look E1 t = .bad ∨ look E1 t = L t) ∧ evalP T n0 E1 H op = .pick b x1 y1 ∧
      (evalG T n0 E G A H op = .val (if b then x1 else y1) ∨ ∃ x y, evalG T n0 E G A H op = .pick b x y ∧ (if b then x else y) = (if b then x1 else y1))) ∨ evalG T n0 E G A H op = .no ∧ ∃ c x y, op = .pick c x y := by
  cases op with
  | pick c x y =>
    right
    simp only [evalG]
    cases hc : opd (envA G A E) c with
    | fr f =>
      cases f with
      | sc v =>
        cases v with
        | bool b =>
          left
          -- the condition's truth
          have hcond : ∀ t, c = .tmp t → L t = B1 b := fun t e => by
            subst e
            rcases envA_spec ha hA t with h | h
            · have : opd (envA G A E) (.tmp t) = .bad := h
              rw [hc] at this; cases this
            · rw [← h]; exact hc
          have hA2 : ∀ q ∈ List.append (asmO G b c) A, L q.1 = B1 q.2 := fun q hq => by
            rcases List.mem_append.1 hq with hq | hq
            · cases c with
              | tmp t => exact asm_spec ha 6 t b (hcond t rfl) q hq
              | _ => cases hq
            · exact hA q hq
          have hc2 : opd (envA G (List.append (asmO G b c) A) E) c = B1 b := by
            cases c with
            | tmp t =>
              show look (envA G (List.append (asmO G b (.tmp t)) A) E) t = B1 b
              rw [envA_hit ha hA2 (List.mem_append_left _ (asm_head G 6 t b))]
              exact hcond t rfl
            | const v => exact hc
            | global g => cases hc
            | func f => cases hc
          refine ⟨envA G (List.append (asmO G b c) A) E, b, opd (envA G (List.append (asmO G b c) A) E) x, opd (envA G (List.append (asmO G b c) A) E) y, c, x, y, rfl, envA_spec ha hA2, by simp only [evalP, hc2], ?_⟩
          simp only
          cases b with
          | true =>
            split
            · rename_i u hu; rw [mrg_true hu]; exact .inl rfl
            · exact .inr ⟨_, _, rfl, rfl⟩
          | false =>
            split
            · rename_i u hu; rw [mrg_false hu]; exact .inl rfl
            · exact .inr ⟨_, _, rfl, rfl⟩
        | _ => exact .inr ⟨rfl, _, _, _, rfl⟩
      | sl => exact .inr ⟨rfl, _, _, _, rfl⟩
    | _ => exact .inr ⟨rfl, _, _, _, rfl⟩
  | _ => exact .inl rfl

/-! ### One step -/
/-- What the guard says, told by the slots. -/
def Grd (all : List Oper) (L : Nat → V) (o : Oper) (b : Bool) : Prop := match o.guard with
  | none => b = true
  | some (j, want) => match dstOf all j with
    | none => b = false
    | some d => (∃ c, L d = .fr (.sc (.bool c)) ∧ b = (c == want)) ∨ (L d = .tup [] ∧ b = false)



theorem dropG_mem {G : GEnv} {t : Nat} {p : Nat × Nat × Bool × V} (h : p ∈ dropG G (some t)) : p ∈ G ∧ p.1 ≠ t ∧ p.2.1 ≠ t := by
  induction G with
  | nil => cases h
  | cons q G ih =>
    have h' : p ∈ (match Nat.beq q.1 t with | true => dropG G (some t) | false => (match Nat.beq q.2.1 t with | true => dropG G (some t) | false => q :: dropG G (some t))) := h
    cases h1 : Nat.beq q.1 t with
    | true => rw [h1] at h'; have := ih h'; exact ⟨List.mem_cons_of_mem _ this.1, this.2⟩
    | false =>
      rw [h1] at h'
      cases h2 : Nat.beq q.2.1 t with
      | true => rw [h2] at h'; have := ih h'; exact ⟨List.mem_cons_of_mem _ this.1, this.2⟩
      | false =>
        rw [h2] at h'
        rcases List.mem_cons.1 h' with rfl | h'
        · exact ⟨List.mem_cons_self, Nat.ne_of_beq_eq_false h1, Nat.ne_of_beq_eq_false h2⟩
        · have := ih h'; exact ⟨List.mem_cons_of_mem _ this.1, this.2⟩

theorem Agr.upd {E E0 : Env} {G : GEnv} {L : Nat → V} (ha : Agr E G L) (h0 : ∀ t, look E0 t = .bad ∨ look E0 t = L t) (dst : Option Nat) (v : V) : Agr (setE E0 dst v) (dropG G dst) (updL L dst v) := by
  cases dst with
  | none => exact ⟨h0, ha.g⟩
  | some d =>
    refine ⟨fun t => ?_, fun p hp => ?_⟩
    · simp only [setE, updL, look_cons]
      split
      · exact .inr rfl
      · exact h0 t
    · obtain ⟨h1, h2, h3⟩ := dropG_mem hp
      simp only [updL]
      rw [if_neg (Ne.symm h2), if_neg (Ne.symm h3)]
      exact ha.g p h1

theorem Agr.add {E : Env} {G : GEnv} {L : Nat → V} (ha : Agr E G L) {dst : Option Nat} {d : Nat} {w : Bool} {v v' : V} (hd : dstIs dst d = false) (h : (L d = B1 w ∧ v' = v) ∨ (L d ≠ B1 w ∧ v' = .tup [])) :
    Agr (setE E dst .bad) (addG G d w v dst) (updL L dst v') := by
  cases dst with
  | none => exact ha
  | some t =>
    have hne : t ≠ d := Nat.ne_of_beq_eq_false hd
    refine ⟨fun u => ?_, fun p hp => ?_⟩
    · simp only [setE, updL, look_cons]
      split
      · exact .inl rfl
      · exact ha.e u
    · have hp' : p ∈ (t, d, w, v) :: dropG G (some t) := hp
      rcases List.mem_cons.1 hp' with rfl | hp'
      · simp only [updL, if_true]
        rw [if_neg hne]
        exact h
      · obtain ⟨h1, h2, h3⟩ := dropG_mem hp'
        simp only [updL]
        rw [if_neg (Ne.symm h2), if_neg (Ne.symm h3)]
        exact ha.g p h1

theorem Agr.nilG {E : Env} {G : GEnv} {L : Nat → V} (ha : Agr E G L) : Agr E [] L := ⟨ha.e, fun p hp => by cases hp⟩

theorem Agr.keep {E : Env} {G : GEnv} {L : Nat → V} (ha : Agr E G L) (chk : Bool) (r : PR) : Agr E (keepG chk r G) L := by
  unfold keepG
  split
  · exact ha
  · split
    · exact ha.nilG
    · exact ha

theorem condB_none {E : Env} {G : GEnv} {L : Nat → V} (ha : Agr E G L) {n d : Nat} {w g : Bool} (hf : findG G d = none) (h : condB E G (n + 1) d w = some g) : ∃ b, L d = B1 b := by
  rw [condB_succ, hf] at h
  simp only at h
  split at h
  · rename_i b hb
    rcases ha.e d with h' | h'
    · rw [hb] at h'; cases h'
    · exact ⟨b, by rw [← h', hb]⟩
  · cases h

theorem skipE_spec {E : Env} {G : GEnv} {L : Nat → V} (ha : Agr E G L) {d : Nat} {w : Bool} (hc : condB E G 6 d w = some false) (t : Nat) : look (skipE E G d w) t = .bad ∨ look (skipE E G d w) t = L t := by
  unfold skipE
  cases hf : findG G d with
  | some x => exact ha.e t
  | none =>
    simp only [look_cons]
    split
    · rename_i he
      subst he
      obtain ⟨b, hb⟩ := condB_none ha hf hc
      rcases condB_spec ha _ _ _ _ hc with ⟨h, _⟩ | ⟨_, h | h⟩
      · cases h
      · right; rw [h]; cases w <;> rfl
      · rw [hb] at h; cases h
    · exact ha.e t

theorem xopG_spec {P : Program} {C : Calling} {T : TTab} {n0 : Nat} {E : Env} {G : GEnv} {L : Nat → V} {H : Heap} {A : List (Nat × Bool)} {op : Op} {K : V → Env → Heap → Prop} (ha : Agr E G L) (hA : ∀ q ∈ A, L q.1 = B1 q.2)
    (h : xopR C T (envA G A E) H (evalG T n0 E G A H op) op K) :
    (∃ f args, evalP T n0 (envA G A E) H op = .call f args ∧ evalG T n0 E G A H op = .call f args ∧ C f args (envA G A E) H K) ∨
    ∃ E1 v eff, (∀ t, look E1 t = .bad ∨ look E1 t = L t) ∧ touch E1 op = touch (envA G A E) op ∧ SOp P T n0 E1 H op v eff ∧ K v (envA G A E) (eff.run H) := by
  rcases evalG_spec (T := T) (n0 := n0) (H := H) ha hA op with he | ⟨E1, b, x1, y1, c, x, y, hop, hE1, he, hr⟩ | ⟨he, c, x, y, hop⟩
  · rcases xopR_spec (P := P) h he with ⟨f, args, h1, h2⟩ | ⟨v, eff, h1, h2⟩
    · exact .inl ⟨f, args, h1, he ▸ h1, h2⟩
    · exact .inr ⟨_, v, eff, envA_spec ha hA, rfl, h1, h2⟩
  · right
    refine ⟨E1, if b then x1 else y1, .none, hE1, by rw [hop]; rfl, .pick he, ?_⟩
    rcases hr with hr | ⟨x', y', hr, hxy⟩
    · rw [hr] at h
      have h' : fc1 _ (fun v => K v (envA G A E) H) := h
      rw [fc1_eq] at h'; exact h'
    · rw [hr] at h
      rw [← hxy]
      have h' : bsel b (fc1 x' fun x => K x (envA G A E) H) (fc1 y' fun y => K y (envA G A E) H) := h
      simp only [fc1_eq] at h'
      cases b with
      | true => exact h'
      | false => exact h'
  · rw [he] at h
    subst hop
    exact h.elim

theorem xg_cons (P : Program) (chk : Bool) (C : Calling) (T : TTab) (n0 : Nat) (all : List Oper) (o : Oper) (r : List Oper) (i : Nat) (acc : Tch) (E : Env) (G : GEnv) (H : Heap) (K : Env → Heap → Prop) :
    xg P chk C T n0 all (o :: r) i acc E G H K = (match o.guard with
      | none => tchk chk all i (touch E o.op) acc fun acc' =>
          xopR C T E H (evalG T n0 E G [] H o.op) o.op fun v E2 H2 => xg P chk C T n0 all r (i + 1) acc' (setE E2 o.dst v) (dropG (keepG chk (evalG T n0 E G [] H o.op) G) o.dst) H2 K
      | some (j, w) => (match dstOf all j with
        | none => xg P chk C T n0 all r (i + 1) acc (setE E o.dst (.tup [])) (dropG G o.dst) H K
        | some d => (match condB E G 6 d w with
          | none => (match look E d with
            | .tup [] => xg P chk C T n0 all r (i + 1) acc (setE E o.dst (.tup [])) (dropG G o.dst) H K
            | _ => False)
          | some g => tchk chk all i (touch (envA G (asm G 6 d w) E) o.op) acc fun acc' =>
              xgo P g (evalG T n0 E G (asm G 6 d w) H o.op) d o.dst H (fun v => xg P chk C T n0 all r (i + 1) acc' (setE E o.dst .bad) (addG G d w v o.dst) H K)
                (xopR C T (envA G (asm G 6 d w) E) H (evalG T n0 E G (asm G 6 d w) H o.op) o.op fun v E2 H2 =>
                  xg P chk C T n0 all r (i + 1) acc' (setE E2 o.dst v) (dropG (keepG chk (evalG T n0 E G (asm G 6 d w) H o.op) G) o.dst) H2 K)
                (xg P chk C T n0 all r (i + 1) acc' (setE (skipE E G d w) o.dst (.tup [])) (dropG G o.dst) H K)))) := by
  show (match o.guard with
      | none => tchk chk all i (touch E o.op) acc fun acc' =>
          xopR C T E H (evalG T n0 E G [] H o.op) o.op fun v E2 H2 => setK E2 (keepG chk (evalG T n0 E G [] H o.op) G) o.dst v fun E3 G3 => xg P chk C T n0 all r (i + 1) acc' E3 G3 H2 K
      | some (j, w) => (match dstOf all j with
        | none => setK E G o.dst (.tup []) fun E3 G3 => xg P chk C T n0 all r (i + 1) acc E3 G3 H K
        | some d => (match condB E G 6 d w with
          | none => (match look E d with
            | .tup [] => setK E G o.dst (.tup []) fun E3 G3 => xg P chk C T n0 all r (i + 1) acc E3 G3 H K
            | _ => False)
          | some g => tchk chk all i (touch (envA G (asm G 6 d w) E) o.op) acc fun acc' =>
              xgo P g (evalG T n0 E G (asm G 6 d w) H o.op) d o.dst H (fun v => addK E G d w v o.dst fun E3 G3 => xg P chk C T n0 all r (i + 1) acc' E3 G3 H K)
                (xopR C T (envA G (asm G 6 d w) E) H (evalG T n0 E G (asm G 6 d w) H o.op) o.op fun v E2 H2 =>
                  setK E2 (keepG chk (evalG T n0 E G (asm G 6 d w) H o.op) G) o.dst v fun E3 G3 => xg P chk C T n0 all r (i + 1) acc' E3 G3 H2 K)
                (setK (skipE E G d w) G o.dst (.tup []) fun E3 G3 => xg P chk C T n0 all r (i + 1) acc' E3 G3 H K)))) = _
  simp only [setK_eq, addK_eq]

/-- What a step comes to. -/
def StepTo (P : Program) (chk : Bool) (C : Calling) (T : TTab) (n0 : Nat) (all : List Oper) (o : Oper) (r : List Oper) (i : Nat) (acc : Tch) (H : Heap) (K : Env → Heap → Prop) (L : Nat → V) : Prop :=
  (∃ E1 acc', Grd all L o true ∧ (∀ t, look E1 t = .bad ∨ look E1 t = L t) ∧ (∀ q ∈ acc, q ∈ acc') ∧ (chk = true → agree all i (touch E1 o.op) acc = true ∧ (i, touch E1 o.op) ∈ acc') ∧
     ((∃ f args E0 G2, evalP T n0 E1 H o.op = .call f args ∧ (∀ t, look E0 t = .bad ∨ look E0 t = L t) ∧ (chk = false → G2 = []) ∧
        C f args E0 H (fun v E2 H2 => xg P chk C T n0 all r (i + 1) acc' (setE E2 o.dst v) G2 H2 K) ∧ (∀ v, Agr (setE E0 o.dst v) G2 (updL L o.dst v)))
      ∨ ∃ v eff E2 G2, SOp P T n0 E1 H o.op v eff ∧ xg P chk C T n0 all r (i + 1) acc' E2 G2 (eff.run H) K ∧ Agr E2 G2 (updL L o.dst v)))
  ∨ (∃ E2 G2 acc', Grd all L o false ∧ (∀ q ∈ acc, q ∈ acc') ∧ xg P chk C T n0 all r (i + 1) acc' E2 G2 H K ∧ Agr E2 G2 (updL L o.dst (.tup [])))

theorem tchk_spec {chk : Bool} {all : List Oper} {i : Nat} {ts : List (Nat × Bool)} {acc : Tch} {k : Tch → Prop} (h : tchk chk all i ts acc k) :
    ∃ acc', (∀ q ∈ acc, q ∈ acc') ∧ (chk = true → agree all i ts acc = true ∧ (i, ts) ∈ acc') ∧ k acc' := by
  unfold tchk at h
  cases chk with
  | false => exact ⟨acc, fun _ h => h, (fun h => by cases h), h⟩
  | true =>
    simp only at h
    split at h
    · rename_i ha; exact ⟨_, fun _ h => List.mem_cons_of_mem _ h, fun _ => ⟨ha, List.mem_cons_self⟩, h⟩
    · exact h.elim

/-- An operation that is carried out. -/
theorem run_step {P : Program} {chk : Bool} {C : Calling} {T : TTab} {n0 : Nat} {all : List Oper} {o : Oper} {r : List Oper} {i : Nat} {acc acc' : Tch} {E : Env} {G : GEnv} {H : Heap} {K : Env → Heap → Prop} {L : Nat → V} {A : List (Nat × Bool)}
    (ha : Agr E G L) (hA : ∀ q ∈ A, L q.1 = B1 q.2) (hg : Grd all L o true) (h1 : ∀ q ∈ acc, q ∈ acc') (h2 : chk = true → agree all i (touch (envA G A E) o.op) acc = true ∧ (i, touch (envA G A E) o.op) ∈ acc')
    (h : xopR C T (envA G A E) H (evalG T n0 E G A H o.op) o.op fun v E2 H2 => xg P chk C T n0 all r (i + 1) acc' (setE E2 o.dst v) (dropG (keepG chk (evalG T n0 E G A H o.op) G) o.dst) H2 K) :
    StepTo P chk C T n0 all o r i acc H K L := by
  left
  rcases xopG_spec (P := P) ha hA h with ⟨f, args, h3, h4, h5⟩ | ⟨E1, v, eff, h3, h4, h5, h6⟩
  · refine ⟨envA G A E, acc', hg, envA_spec ha hA, h1, h2, .inl ⟨f, args, envA G A E, _, h3, envA_spec ha hA, fun hc => ?_, h5, fun v => (ha.keep chk _).upd (envA_spec ha hA) _ _⟩⟩
    subst hc
    rw [h4]
    cases o.dst <;> rfl
  · exact ⟨E1, acc', hg, h3, h1, by rw [h4]; exact h2, .inr ⟨v, eff, _, _, h5, h6, (ha.keep chk _).upd (envA_spec ha hA) _ _⟩⟩

theorem xg_step {P : Program} {chk : Bool} {C : Calling} {T : TTab} {n0 : Nat} {all : List Oper} {o : Oper} {r : List Oper} {i : Nat} {acc : Tch} {E : Env} {G : GEnv} {H : Heap} {K : Env → Heap → Prop} {L : Nat → V}
    (h : xg P chk C T n0 all (o :: r) i acc E G H K) (ha : Agr E G L) : StepTo P chk C T n0 all o r i acc H K L := by
  rw [xg_cons] at h
  have hnone : ∀ q ∈ ([] : List (Nat × Bool)), L q.1 = B1 q.2 := fun q hq => by cases hq
  cases hg : o.guard with
  | none =>
    rw [hg] at h
    obtain ⟨acc', h1, h2, h3⟩ := tchk_spec h
    exact run_step (A := []) ha hnone (by unfold Grd; rw [hg]) h1 (by rw [envA_nil]; exact h2) (by rw [envA_nil]; exact h3)
  | some gd =>
    obtain ⟨j, w⟩ := gd
    rw [hg] at h
    simp only at h
    have hskip : ∀ E2 : Env, (∀ t, look E2 t = .bad ∨ look E2 t = L t) → Grd all L o false → xg P chk C T n0 all r (i + 1) acc (setE E2 o.dst (.tup [])) (dropG G o.dst) H K → StepTo P chk C T n0 all o r i acc H K L :=
      fun E2 h0 hgd h => .inr ⟨_, _, acc, hgd, fun _ h => h, h, ha.upd h0 _ _⟩
    cases hd : dstOf all j with
    | none => rw [hd] at h; exact hskip E ha.e (by unfold Grd; rw [hg]; simp only [hd]) h
    | some d =>
      rw [hd] at h
      simp only at h
      cases hc : condB E G 6 d w with
      | none =>
        rw [hc] at h
        simp only at h
        split at h
        · rename_i hb
          refine hskip E ha.e ?_ h
          unfold Grd; rw [hg]; simp only [hd]
          refine .inr ⟨?_, trivial⟩
          rcases ha.e d with h' | h'
          · rw [hb] at h'; cases h'
          · rw [← h', hb]
        · exact h.elim
      | some g =>
        rw [hc] at h
        simp only at h
        obtain ⟨acc', h1, h2, h3⟩ := tchk_spec h
        have hcb := condB_spec ha _ _ _ _ hc
        have hrun : g = true → Grd all L o true ∧ (∀ q ∈ asm G 6 d w, L q.1 = B1 q.2) ∧ L d = B1 w := fun hgt => by
          rcases hcb with ⟨_, hL⟩ | ⟨hf, _⟩
          · refine ⟨?_, asm_spec ha 6 d w hL, hL⟩
            unfold Grd; rw [hg]; simp only [hd]
            exact .inl ⟨w, hL, by simp⟩
          · rw [hgt] at hf; cases hf
        have hno : g = false → Grd all L o false ∧ L d ≠ B1 w := fun hgf => by
          rcases hcb with ⟨ht, _⟩ | ⟨_, hL⟩
          · rw [hgf] at ht; cases ht
          · constructor
            · unfold Grd; rw [hg]; simp only [hd]
              rcases hL with hL | hL
              · exact .inl ⟨!w, hL, by cases w <;> rfl⟩
              · exact .inr ⟨hL, trivial⟩
            · rcases hL with hL | hL
              · rw [hL]; intro e; have := B1_inj e; cases w <;> cases this
              · rw [hL]; intro e; cases e
        have hskip2 : g = false → xg P chk C T n0 all r (i + 1) acc' (setE (skipE E G d w) o.dst (.tup [])) (dropG G o.dst) H K → StepTo P chk C T n0 all o r i acc H K L := fun hgf hx => by
          subst hgf
          exact .inr ⟨_, _, acc', (hno rfl).1, h1, hx, ha.upd (skipE_spec ha hc) _ _⟩
        have hrun2 : g = true → _ → StepTo P chk C T n0 all o r i acc H K L := fun hgt hx => run_step (A := asm G 6 d w) ha (hrun hgt).2.1 (hrun hgt).1 h1 h2 hx
        -- with its answer
        have hsym : dstIs o.dst d = false → ∀ v : V, (g = true → ∃ E1, (∀ t, look E1 t = .bad ∨ look E1 t = L t) ∧ touch E1 o.op = touch (envA G (asm G 6 d w) E) o.op ∧ SOp P T n0 E1 H o.op v .none) →
            xg P chk C T n0 all r (i + 1) acc' (setE E o.dst .bad) (addG G d w v o.dst) H K → StepTo P chk C T n0 all o r i acc H K L := fun hdd v hs hx => by
          cases hgv : g with
          | true =>
            obtain ⟨E1, h4, h5, h6⟩ := hs hgv
            exact .inl ⟨E1, acc', (hrun hgv).1, h4, h1, by rw [h5]; exact h2, .inr ⟨v, .none, _, _, h6, hx, ha.add hdd (.inl ⟨(hrun hgv).2.2, rfl⟩)⟩⟩
          | false => exact .inr ⟨_, _, acc', (hno hgv).1, h1, hx, ha.add hdd (.inr ⟨(hno hgv).2, rfl⟩)⟩
        have hbs : bsel g _ _ → StepTo P chk C T n0 all o r i acc H K L := fun hb => by
          cases hgv : g with
          | true => rw [hgv] at hb; exact hrun2 hgv hb
          | false => rw [hgv] at hb; exact hskip2 hgv hb
        unfold xgo at h3
        cases hdd : dstIs o.dst d with
        | true => rw [hdd] at h3; exact hbs h3
        | false =>
          rw [hdd] at h3
          have hval : ∀ {u : V} {r' : PR}, evalG T n0 E G (asm G 6 d w) H o.op = r' → (∀ E1, evalP T n0 E1 H o.op = r' → SOp P T n0 E1 H o.op u .none) → (∀ b x1 y1, r' = .val (if b = true then x1 else y1) → u = if b = true then x1 else y1) → (∀ b x y, r' ≠ .pick b x y) → r' ≠ .no →
              g = true → ∃ E1, (∀ t, look E1 t = .bad ∨ look E1 t = L t) ∧ touch E1 o.op = touch (envA G (asm G 6 d w) E) o.op ∧ SOp P T n0 E1 H o.op u .none := fun {u r'} he hso hpk hnp hnn hgt => by
            rcases evalG_spec (T := T) (n0 := n0) (H := H) ha (hrun hgt).2.1 o.op with h4 | ⟨E1, b, x1, y1, c, x, y, hop, hE1, h4, hr⟩ | ⟨h4, _⟩
            · exact ⟨_, envA_spec ha (hrun hgt).2.1, rfl, hso _ (h4.trans he)⟩
            · refine ⟨E1, hE1, by rw [hop]; rfl, ?_⟩
              rcases hr with hr | ⟨x', y', hr, _⟩
              · rw [hpk b x1 y1 (he.symm.trans hr)]
                exact .pick h4
              · exact absurd (he.symm.trans hr) (hnp _ _ _)
            · exact absurd (he.symm.trans h4) hnn
          cases he : evalG T n0 E G (asm G 6 d w) H o.op with
          | val v =>
            rw [he] at h3
            exact hsym hdd v (hval he (fun _ h => .val h) (fun b x1 y1 h => by injection h) (fun _ _ _ h => by cases h) (fun h => by cases h)) h3
          | side p v =>
            rw [he] at h3
            exact hsym hdd v (fun hgt => hval he (fun _ h => .side h (h3.1 hgt)) (fun b x1 y1 h => by cases h) (fun _ _ _ h => by cases h) (fun h => by cases h) hgt) h3.2
          | pick b x y => rw [he] at h3 hrun2 hbs; exact hbs h3
          | idx es q =>
            rw [he] at h3
            obtain ⟨e, h4, h5⟩ := h3.h
            exact hsym hdd _ (fun hgt => hval he (fun _ h => .idx h (h4 hgt).1 (h4 hgt).2) (fun b x1 y1 h => by cases h) (fun _ _ _ h => by cases h) (fun h => by cases h) hgt) h5
          | str st q =>
            rw [he] at h3
            obtain ⟨b, h4, h5⟩ := h3.h
            exact hsym hdd _ (fun hgt => by
              obtain ⟨h6, h7, rfl⟩ := h4 hgt
              exact hval he (fun _ h => .str h h6 h7) (fun b x1 y1 h => by cases h) (fun _ _ _ h => by cases h) (fun h => by cases h) hgt) h5
          | ex p =>
            rw [he] at h3
            obtain ⟨v, h4, h5⟩ := h3.h
            exact hsym hdd v (fun hgt => hval he (fun _ h => .ex h (h4 hgt)) (fun b x1 y1 h => by cases h) (fun _ _ _ h => by cases h) (fun h => by cases h) hgt) h5
          | new xs => rw [he] at h3 hrun2 hbs; exact hbs h3
          | call f args =>
            rw [he] at h3 hrun2 hbs
            have h3' : fcL args (fun args => GCall P g f args H _ _ _) := h3
            rw [fcL_eq] at h3'
            cases h3' with
            | sym v hv hk => exact hsym hdd v (fun hgt => hval he (fun _ h => .call h (hv hgt)) (fun b x1 y1 h => by cases h) (fun _ _ _ h => by cases h) (fun h => by cases h) hgt) hk
            | split h4 h5 =>
              cases hgv : g with
              | true => exact hrun2 hgv (h4 hgv)
              | false => exact hskip2 hgv (h5 hgv)
          | no => rw [he] at h3 hrun2 hbs; exact hbs h3

/-- The slots that an operation looks at. -/
noncomputable def namesOf (all : List Oper) (o : Oper) : List Nat :=
  List.append (List.rec (motive := fun _ => List Nat) [] (fun x _ ih => match x with | .tmp t => t :: ih | _ => ih) o.op.operands.toList)
    (match o.guard with | some (j, _) => (match dstOf all j with | some d => [d] | none => []) | none => [])

theorem names_operand {all : List Oper} {o : Oper} {t : Nat} (h : .tmp t ∈ o.op.operands.toList) : t ∈ namesOf all o := by
  refine List.mem_append_left _ ?_
  generalize o.op.operands.toList = l at h
  induction l with
  | nil => cases h
  | cons y ys ih =>
    rcases List.mem_cons.1 h with rfl | h
    · exact List.mem_cons_self
    · have := ih h
      cases y <;> first | exact List.mem_cons_of_mem _ this | exact this

theorem names_guard {all : List Oper} {o : Oper} {j : Nat} {want : Bool} {d : Nat} (hg : o.guard = some (j, want)) (hd : dstOf all j = some d) : d ∈ namesOf all o := by
  refine List.mem_append_right _ ?_
  rw [hg]; simp only [hd]; simp


section
variable {Γ : Ctx} {nt : Nat} {w : World} {μ : List Plc} {a : Act}

theorem grd_wanted {all : Array Oper} {L : Nat → V} {o : Oper} {b : Bool} (h : Grd all.toList L o b) (hr : ∀ t ∈ namesOf all.toList o, Rep Γ w μ (L t) (a.tmps.getD t undef)) : Region.wanted o (yielded all a.tmps) = b := by
  unfold Grd at h
  cases hg : o.guard with
  | none => rw [hg] at h; simp only at h; subst h; simp [Region.wanted, hg]
  | some g =>
    obtain ⟨j, want⟩ := g
    rw [hg] at h
    simp only at h
    cases hdj : dstOf all.toList j with
    | none => rw [hdj] at h; simp only at h; subst h; simp [Region.wanted, hg, yielded_none hdj]
    | some d =>
      rw [hdj] at h
      simp only at h
      have hd := hr d (names_guard hg hdj)
      rcases h with ⟨c, hc, rfl⟩ | ⟨hc, rfl⟩
      · rw [hc] at hd
        have hy := yielded_some hdj (rep_sc hd)
        cases c <;> cases want <;> simp [Region.wanted, hg, hy]
      · rw [hc] at hd
        simp [Region.wanted, hg, yielded_undef hdj (rep_tup0 hd)]

/-! ### The text's order -/
def LOk (Γ : Ctx) (w : World) (μ : List Plc) (L : Nat → V) (tmps : Array Value) : Prop := ∀ t, Rep Γ w μ (L t) (tmps.getD t undef)

theorem LOk.env {L : Nat → V} {tmps : Array Value} {E : Env} (h : LOk Γ w μ L tmps) (he : ∀ t, look E t = .bad ∨ look E t = L t) : EnvOk Γ w μ E tmps := fun t => by
  rcases he t with h1 | h1
  · rw [h1]; exact .bad _
  · rw [h1]; exact h t

theorem LOk.put {L : Nat → V} {o : Oper} {v : V} {cv : Value} (h : LOk Γ w μ L a.tmps) (hd : operOK a.tmps.size o = true) (hr : Rep Γ w μ v cv) : LOk Γ w μ (updL L o.dst v) (a.put o.dst cv).tmps := by
  cases hdst : o.dst with
  | none => exact h
  | some d =>
    intro t
    simp only [operOK, hdst, Bool.and_eq_true, Nat.blt_eq] at hd
    simp only [updL, Act.put]
    by_cases hdt : d = t
    · subst hdt
      have : (a.tmps.setIfInBounds d cv).getD d undef = cv := by simp [Array.getD_eq_getD_getElem?, hd.1]
      rw [this, if_pos rfl]; exact hr
    · have : (a.tmps.setIfInBounds d cv).getD t undef = a.tmps.getD t undef := by simp [Array.getD_eq_getD_getElem?, hdt]
      rw [this, if_neg hdt]; exact h t

theorem LOk.pres {L : Nat → V} {tmps : Array Value} {w' : World} {μ' : List Plc} (h : LOk Γ w μ L tmps) (hp : Pres Γ w μ w' μ') : LOk Γ w' μ' L tmps := fun t => hp.rep (h t)

/-- A region in its text's order. -/
theorem xg_sound {T : TTab} (hT : TOk Γ.P T) {C : Calling} (hC : CallsOk Γ C) {n0 : Nat} {all : Array Oper} {Q : Exit → Act → World → Prop} {K : Env → Heap → Prop} :
    ∀ (r : List Oper) (i : Nat) (acc : Tch) (E : Env) (G : GEnv) (H : Heap) (L : Nat → V) (a : Act) (w : World) (μ : List Plc), all.toList.drop i = r → (∀ o ∈ r, operOK nt o = true) → xg Γ.P false C T n0 all.toList r i acc E G H K →
      Agr E G L → Mem Γ H w μ → a.tmps.size = nt → LOk Γ w μ L a.tmps → a.defers = [] →
      (∀ E' H' a' w' μ', K E' H' → Ok Γ nt E' H' a' w' μ' → Q .normal a' w') → wpOps Γ.P all Q (List.range' i r.length) a w
  | [], i, acc, E, G, H, L, a, w, μ, _, _, h, ha, hm, hs, hL, hdf, hq => hq E H a w μ h ⟨hm, hs, hL.env ha.e, hdf⟩
  | o :: r, i, acc, E, G, H, L, a, w, μ, hd, hall, h, ha, hm, hs, hL, hdf, hq => by
    have ho : all[i]? = some o := by
      have : all.toList[i]? = some o := by rw [← List.head?_drop, hd]; rfl
      simpa using this
    have hd' : all.toList.drop (i + 1) = r := by have := congrArg List.tail hd; rw [List.tail_drop] at this; exact this
    have hall' : ∀ o ∈ r, operOK nt o = true := fun o h => hall o (by simp [h])
    have hoo := hall o (by simp)
    have hcs : ∀ x ∈ o.op.operands.toList, constB x = true := by
      simp only [operOK, Bool.and_eq_true, List.all_eq_true] at hoo
      exact hoo.2
    have hoo' : operOK a.tmps.size o = true := by rw [hs]; exact hoo
    rcases xg_step h ha with ⟨E1, acc', hg, hE1, _, _, hk⟩ | ⟨E2, G2, acc', hg, _, hk, ha2⟩
    · have hw := grd_wanted hg (fun t _ => hL t)
      have hop : ∀ x ∈ o.op.operands.toList, Rep Γ w μ (opd E1 x) (a.eval x) := fun x hx => rep_operand (hL.env hE1) (hcs x hx)
      simp only [List.length_cons, List.range'_succ, wpOps, ho, hw, if_true]
      refine .inl ?_
      rcases hk with ⟨f, args, E0, G2, he, hE0, hG2, hc, _⟩ | ⟨v, eff, E2, G2, hso, hk, ha2⟩
      · refine call_goes hT hC he hc hm (hL.env hE0) hop _ _ fun v E2 H2 w' μ' cv hk hm' hE2 hr => ?_
        have hL2 : LOk Γ w' μ' (look E2) a.tmps := hE2
        rw [hG2 rfl] at hk
        exact xg_sound hT hC r (i + 1) _ _ _ H2 _ _ w' μ' hd' hall' hk ((⟨fun t => .inr rfl, fun p hp => by cases hp⟩ : Agr E2 [] (look E2)).upd (fun _ => .inr rfl) o.dst v |> fun h => by
          have e : dropG [] o.dst = [] := by cases o.dst <;> rfl
          rw [e] at h; exact h) hm' (by rw [put_size]; exact hs) (hL2.put hoo' hr) (by rw [put_defers]; exact hdf) hq
      · refine hso.goes hT hm hop _ _ fun w' μ' cv hm' hp hr => ?_
        exact xg_sound hT hC r (i + 1) _ E2 G2 _ _ _ w' μ' hd' hall' hk ha2 hm' (by rw [put_size]; exact hs) ((hL.pres hp).put hoo' hr) (by rw [put_defers]; exact hdf) hq
    · have hw := grd_wanted hg (fun t _ => hL t)
      simp only [List.length_cons, List.range'_succ, wpOps, ho, hw, Bool.false_eq_true, if_false]
      exact xg_sound hT hC r (i + 1) _ E2 G2 H _ _ w μ hd' hall' hk ha2 hm (by rw [put_size]; exact hs) (hL.put hoo' undef_rep) (by rw [put_defers]; exact hdf) hq

end

end Go.AW
