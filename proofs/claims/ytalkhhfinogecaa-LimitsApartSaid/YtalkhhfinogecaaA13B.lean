/- AW, part 13B: a region whose order is drawn. -/
import Derived.Test.YtalkhhfinogecaaA13
namespace Go.AW
open Go Go.RowKit

/-! ### What comes before what -/
theorem bindsB_eq (e : Edge) : bindsB e = Region.binds .any e := by
  unfold bindsB Region.binds
  cases e.ground <;> rfl

noncomputable def maskOf (m : List Nat) (l : List Edge) : Nat := List.rec (motive := fun _ => Nat) 0 (fun e _ r => match bindsB e with
  | true => Nat.lor (Nat.lor r (Nat.pow 2 e.on)) (match nth m e.on with | some x => x | none => 0)
  | false => r) l

noncomputable def mgo (ops : List Oper) : List Nat → List Nat :=
  List.rec (motive := fun _ => List Nat → List Nat) (fun m => m) (fun o _ ih m => ih (List.append m [maskOf m o.after.toList])) ops

theorem masks_eq (ops : List Oper) : masks ops = mgo ops [] := rfl

theorem maskOf_bit {m : List Nat} {l : List Edge} {j : Nat} (h : (maskOf m l).testBit j = true) : ∃ e ∈ l, bindsB e = true ∧ (e.on = j ∨ ∃ x, m[e.on]? = some x ∧ x.testBit j = true) := by
  induction l with
  | nil => simp [maskOf] at h
  | cons e l ih =>
    have h' : (match bindsB e with
      | true => Nat.lor (Nat.lor (maskOf m l) (Nat.pow 2 e.on)) (match nth m e.on with | some x => x | none => 0)
      | false => maskOf m l).testBit j = true := h
    cases hb : bindsB e with
    | false =>
      rw [hb] at h'
      obtain ⟨e', he', r⟩ := ih h'
      exact ⟨e', List.mem_cons_of_mem _ he', r⟩
    | true =>
      rw [hb] at h'
      have h2 : ((maskOf m l ||| 2 ^ e.on) ||| (match nth m e.on with | some x => x | none => 0)).testBit j = true := h'
      rw [Nat.testBit_or, Nat.testBit_or, Bool.or_eq_true, Bool.or_eq_true] at h2
      rcases h2 with (h2 | h2) | h2
      · obtain ⟨e', he', r⟩ := ih h2
        exact ⟨e', List.mem_cons_of_mem _ he', r⟩
      · rw [Nat.testBit_two_pow] at h2
        exact ⟨e, List.mem_cons_self, hb, .inl (of_decide_eq_true h2)⟩
      · refine ⟨e, List.mem_cons_self, hb, .inr ?_⟩
        rw [nth_eq] at h2
        cases hm : m[e.on]? with
        | none => rw [hm] at h2; simp at h2
        | some x => rw [hm] at h2; exact ⟨x, rfl, h2⟩

def MOk (all : List Oper) (m : List Nat) : Prop := ∀ i x, m[i]? = some x → ∀ j, x.testBit j = true →
  ∃ o e, all[i]? = some o ∧ e ∈ o.after.toList ∧ bindsB e = true ∧ (e.on = j ∨ ∃ y, m[e.on]? = some y ∧ e.on < i ∧ y.testBit j = true)

theorem mgo_ok (all : List Oper) : ∀ (r : List Oper) (m : List Nat), MOk all m → all.drop m.length = r → MOk all (mgo r m)
  | [], m, h, _ => h
  | o :: r, m, h, hd => by
    have ho : all[m.length]? = some o := by rw [← List.head?_drop, hd]; rfl
    have hd' : all.drop (m.length + 1) = r := by have := congrArg List.tail hd; rw [List.tail_drop] at this; exact this
    refine mgo_ok all r (m ++ [maskOf m o.after.toList]) ?_ (by simpa using hd')
    intro i x hx j hj
    by_cases hi : i < m.length
    · rw [List.getElem?_append_left hi] at hx
      obtain ⟨o', e, h1, h2, h3, h4⟩ := h i x hx j hj
      refine ⟨o', e, h1, h2, h3, h4.imp id ?_⟩
      rintro ⟨y, h5, h6⟩
      exact ⟨y, by rw [List.getElem?_append_left (List.getElem?_eq_some_iff.1 h5).1]; exact h5, h6⟩
    · rw [List.getElem?_append_right (by omega)] at hx
      have hi0 : i - m.length = 0 := by
        by_cases h0 : i - m.length = 0
        · exact h0
        · rw [List.getElem?_eq_none (by simp; omega)] at hx; cases hx
      rw [hi0] at hx
      simp only [List.length_cons, List.getElem?_cons_zero, Option.some.injEq] at hx
      subst hx
      have hie : i = m.length := by omega
      obtain ⟨e, h1, h2, h3⟩ := maskOf_bit hj
      refine ⟨o, e, by rw [hie]; exact ho, h1, h2, h3.imp id ?_⟩
      rintro ⟨y, h5, h6⟩
      have hlt := (List.getElem?_eq_some_iff.1 h5).1
      exact ⟨y, by rw [List.getElem?_append_left hlt]; exact h5, by omega, h6⟩

theorem masks_ok (all : List Oper) : MOk all (masks all) := by
  rw [masks_eq]
  exact mgo_ok all all [] (by intro i x h; simp at h) (by simp)

theorem before_mask {all : List Oper} {j i : Nat} (h : before all j i = true) : ∃ x, (masks all)[i]? = some x ∧ x.testBit j = true := by
  unfold before at h
  rw [nth_eq] at h
  cases hm : (masks all)[i]? with
  | none => rw [hm] at h; cases h
  | some x =>
    rw [hm] at h
    refine ⟨x, rfl, ?_⟩
    simp only at h
    have h' : (match Nat.beq ((x >>> j) &&& 1) 0 with | true => false | false => true) = true := h
    rw [Nat.testBit_eq_decide_div_mod_eq, decide_eq_true_eq]
    cases hb : Nat.beq ((x >>> j) &&& 1) 0 with
    | true => rw [hb] at h'; cases h'
    | false =>
      have := Nat.ne_of_beq_eq_false hb
      rw [Nat.and_one_is_mod, Nat.shiftRight_eq_div_pow] at this
      omega

theorem before_closed {all : List Oper} {S : Nat → Prop} (hS : ∀ i o e, S i → all[i]? = some o → e ∈ o.after.toList → bindsB e = true → S e.on) :
    ∀ (i : Nat) (x j : Nat), (masks all)[i]? = some x → x.testBit j = true → (∀ o e, all[i]? = some o → e ∈ o.after.toList → bindsB e = true → S e.on) → S j := by
  intro i
  induction i using Nat.strongRecOn with
  | _ i ih =>
    intro x j hx hj hi
    obtain ⟨o, e, h1, h2, h3, h4⟩ := masks_ok all i x hx j hj
    have hon := hi o e h1 h2 h3
    rcases h4 with rfl | ⟨y, h5, h6, h7⟩
    · exact hon
    · exact ih e.on h6 y j h5 h7 (fun o' e' g1 g2 g3 => hS e.on o' e' hon g1 g2 g3)

/-! ### Odds -/
theorem odds1_of {p q : Nat × Bool} {m : List (Nat × Bool)} (hq : q ∈ m) (he : p.1 = q.1) (hw : p.2 = true ∨ q.2 = true) : odds1 p m = true := by
  induction m with
  | nil => cases hq
  | cons r m ih =>
    show (match Nat.beq p.1 r.1 with | true => (match p.2, r.2 with | false, false => odds1 p m | _, _ => true) | false => odds1 p m) = true
    rcases List.mem_cons.1 hq with rfl | hq
    · rw [he, Nat.beq_refl]
      rcases hw with h | h
      · rw [h]
      · rw [h]; cases p.2 <;> rfl
    · cases Nat.beq p.1 r.1 with
      | false => exact ih hq
      | true =>
        cases p.2 <;> cases r.2 <;> first | rfl | exact ih hq

theorem odds_of {l m : List (Nat × Bool)} {p q : Nat × Bool} (hp : p ∈ l) (hq : q ∈ m) (he : p.1 = q.1) (hw : p.2 = true ∨ q.2 = true) : odds l m = true := by
  induction l with
  | nil => cases hp
  | cons r l ih =>
    show (match odds1 r m with | true => true | false => odds l m) = true
    cases h : odds1 r m with
    | true => rfl
    | false =>
      rcases List.mem_cons.1 hp with rfl | hp
      · rw [odds1_of hq he hw] at h; cases h
      · exact ih hp

theorem odds1_nil (p : Nat × Bool) : odds1 p [] = false := rfl
theorem odds_nil (l : List (Nat × Bool)) : odds l [] = false := by
  induction l with
  | nil => rfl
  | cons r l ih => exact ih

theorem agree_spec {all : List Oper} {i : Nat} {ts : List (Nat × Bool)} {acc : Tch} (h : agree all i ts acc = true) : ∀ q ∈ acc, odds ts q.2 = true → before all q.1 i = true := by
  induction acc with
  | nil => intro q hq; cases hq
  | cons r acc ih =>
    have h' : (match odds ts r.2 with | true => (match before all r.1 i with | true => agree all i ts acc | false => false) | false => agree all i ts acc) = true := h
    intro q hq ho
    cases h1 : odds ts r.2 with
    | true =>
      rw [h1] at h'
      cases h2 : before all r.1 i with
      | false => rw [h2] at h'; cases h'
      | true =>
        rw [h2] at h'
        rcases List.mem_cons.1 hq with rfl | hq
        · exact h2
        · exact ih h' q hq ho
    | false =>
      rw [h1] at h'
      rcases List.mem_cons.1 hq with rfl | hq
      · rw [h1] at ho; cases ho
      · exact ih h' q hq ho

/-! ### What was written last -/
def lastW {α : Type} (wr : Nat → Option α) (S : Nat → Bool) (init : α) : Nat → α
  | 0 => init
  | n + 1 => if S n then (wr n).getD (lastW wr S init n) else lastW wr S init n

theorem lastW_congr {α : Type} {wr : Nat → Option α} {S S' : Nat → Bool} {init : α} : ∀ {n : Nat}, (∀ j, j < n → wr j ≠ none → S j = S' j) → lastW wr S init n = lastW wr S' init n
  | 0, _ => rfl
  | n + 1, h => by
    have ih := lastW_congr (n := n) (init := init) fun j hj => h j (by omega)
    simp only [lastW, ih]
    cases hw : wr n with
    | none => simp
    | some x => rw [h n (by omega) (by rw [hw]; simp)]

theorem lastW_cut {α : Type} {wr : Nat → Option α} {init : α} {i : Nat} : ∀ {n : Nat}, i ≤ n → lastW wr (fun j => decide (j < i)) init n = lastW wr (fun _ => true) init i
  | 0, h => by obtain rfl : i = 0 := by omega
               rfl
  | n + 1, h => by
    by_cases hi : i = n + 1
    · subst hi
      exact lastW_congr fun j hj _ => by simpa using hj
    · have ih := lastW_cut (wr := wr) (init := init) (i := i) (n := n) (by omega)
      simp only [lastW]
      rw [if_neg (by simp; omega)]
      exact ih

/-- What is there when an operation's turn has come is what was there in the text's order. -/
theorem lastW_turn {α : Type} {wr : Nat → Option α} {S : Nat → Bool} {init : α} {n i : Nat} (hi : i ≤ n) (h : ∀ j, j < n → wr j ≠ none → (S j = true ↔ j < i)) : lastW wr S init n = lastW wr (fun _ => true) init i := by
  rw [← lastW_cut hi]
  refine lastW_congr fun j hj hw => ?_
  have := h j hj hw
  by_cases hji : j < i
  · rw [this.2 hji]; simp [hji]
  · have : S j = false := by
      cases hs : S j with
      | false => rfl
      | true => exact absurd (this.1 hs) hji
    rw [this]; simp [hji]

theorem lastW_add {α : Type} {wr : Nat → Option α} {S S' : Nat → Bool} {init : α} {i : Nat} (hS : ∀ j, S' j = (S j || decide (j = i))) : ∀ {n : Nat}, i < n → (wr i ≠ none → ∀ j, j < n → S j = true → wr j ≠ none → j < i) → S i = false →
    lastW wr S' init n = (wr i).getD (lastW wr S init n)
  | 0, h, _, _ => by omega
  | n + 1, h, hw, h0 => by
    by_cases hi : i = n
    · subst hi
      have e : lastW wr S' init i = lastW wr S init i := by
        refine lastW_congr fun j hj _ => ?_
        have : j ≠ i := by omega
        rw [hS]; simp [this]
      simp only [lastW, hS, h0, e]
      simp
    · have ih := lastW_add hS (n := n) (init := init) (by omega) (fun hi j hj => hw hi j (by omega)) h0
      simp only [lastW]
      rw [ih, hS]
      have hne : n ≠ i := Ne.symm hi
      simp only [hne, decide_false, Bool.or_false]
      cases hs : S n with
      | false => simp
      | true =>
        simp only [if_true]
        cases hwi : wr i with
        | none => simp
        | some x =>
          have : wr n = none := by
            cases hwn : wr n with
            | none => rfl
            | some y => exact absurd (hw (by rw [hwi]; simp) n (by omega) hs (by rw [hwn]; simp)) (by omega)
          rw [this]; simp

/-! ### The text's order, told -/
structure Trace (P : Program) (T : TTab) (n0 : Nat) (all r : List Oper) (base : Nat) (acc : Tch) (L : Nat → V) (H : Heap) (K : Env → Heap → Prop)
    (Ls : Nat → Nat → V) (Es : Nat → Env) (Hs : Nat → Heap) (v : Nat → V) (eff : Nat → Eff) (ts : Nat → List (Nat × Bool)) (run : Nat → Bool) : Prop where
  l0 : Ls 0 = L
  h0 : Hs 0 = H
  step : ∀ p o, r[p]? = some o → Ls (p + 1) = updL (Ls p) o.dst (v p) ∧ Hs (p + 1) = (eff p).run (Hs p) ∧ Grd all (Ls p) o (run p) ∧ (∀ t, look (Es p) t = .bad ∨ look (Es p) t = Ls p t) ∧
    ((run p = true ∧ SOp P T n0 (Es p) (Hs p) o.op (v p) (eff p) ∧ ts p = touch (Es p) o.op) ∨ (run p = false ∧ v p = .tup [] ∧ eff p = .none ∧ ts p = []))
  agr0 : ∀ p, p < r.length → ∀ q ∈ acc, odds (ts p) q.2 = true → before all q.1 (base + p) = true
  agr : ∀ p, p < r.length → ∀ q, q < p → odds (ts p) (ts q) = true → before all (base + q) (base + p) = true
  fin : ∃ E', (∀ t, look E' t = .bad ∨ look E' t = Ls r.length t) ∧ K E' (Hs r.length)

def cons0 {α : Type} (x : α) (f : Nat → α) : Nat → α
  | 0 => x
  | n + 1 => f n

theorem Trace.cons {P : Program} {T : TTab} {n0 : Nat} {all r : List Oper} {o : Oper} {base : Nat} {acc acc' : Tch} {E0 : Env} {L L1 : Nat → V} {H H1 : Heap} {K : Env → Heap → Prop}
    {Ls : Nat → Nat → V} {Es : Nat → Env} {Hs : Nat → Heap} {v : Nat → V} {eff : Nat → Eff} {ts : Nat → List (Nat × Bool)} {run : Nat → Bool} {v0 : V} {eff0 : Eff} {ts0 : List (Nat × Bool)} {run0 : Bool}
    (ht : Trace P T n0 all r (base + 1) acc' L1 H1 K Ls Es Hs v eff ts run) (h0 : ∀ t, look E0 t = .bad ∨ look E0 t = L t) (h1 : L1 = updL L o.dst v0) (h2 : H1 = eff0.run H) (hg : Grd all L o run0)
    (hs : (run0 = true ∧ SOp P T n0 E0 H o.op v0 eff0 ∧ ts0 = touch E0 o.op) ∨ (run0 = false ∧ v0 = .tup [] ∧ eff0 = .none ∧ ts0 = []))
    (ha : ∀ q ∈ acc, odds ts0 q.2 = true → before all q.1 base = true) (hacc : ∀ q ∈ acc, q ∈ acc') (hacc0 : ts0 = [] ∨ (base, ts0) ∈ acc') :
    Trace P T n0 all (o :: r) base acc L H K (cons0 L Ls) (cons0 E0 Es) (cons0 H Hs) (cons0 v0 v) (cons0 eff0 eff) (cons0 ts0 ts) (cons0 run0 run) := by
  refine ⟨rfl, rfl, fun p o' hp => ?_, fun p hp q hq ho => ?_, fun p hp q hq ho => ?_, ht.fin⟩
  · cases p with
    | zero =>
      simp only [List.getElem?_cons_zero, Option.some.injEq] at hp
      subst hp
      refine ⟨?_, ?_, hg, h0, hs⟩
      · show Ls 0 = updL L o.dst v0
        rw [ht.l0, h1]
      · show Hs 0 = eff0.run H
        rw [ht.h0, h2]
    | succ p => exact ht.step p o' (by simpa using hp)
  · cases p with
    | zero => exact ha q hq ho
    | succ p =>
      have := ht.agr0 p (by simpa using hp) q (hacc q hq) ho
      rwa [show base + 1 + p = base + (p + 1) by omega] at this
  · cases p with
    | zero => omega
    | succ p =>
      cases q with
      | zero =>
        rcases hacc0 with h | h
        · have ho' : odds (ts p) ts0 = true := ho
          rw [h, odds_nil] at ho'; cases ho'
        · have := ht.agr0 p (by simpa using hp) _ h ho
          rw [show base + 1 + p = base + (p + 1) by omega] at this
          exact this
      | succ q =>
        have := ht.agr p (by simpa using hp) q (by omega) ho
        rwa [show base + 1 + p = base + (p + 1) by omega, show base + 1 + q = base + (q + 1) by omega] at this

theorem xdraw_trace {P : Program} {T : TTab} {n0 : Nat} {all : List Oper} {K : Env → Heap → Prop} : ∀ (r : List Oper) (base : Nat) (acc : Tch) (E : Env) (G : GEnv) (L : Nat → V) (H : Heap), xg P true (DCall P) T n0 all r base acc E G H K → Agr E G L →
    ∃ Ls Es Hs v eff ts run, Trace P T n0 all r base acc L H K Ls Es Hs v eff ts run
  | [], base, acc, E, G, L, H, h, ha => ⟨fun _ => L, fun _ => E, fun _ => H, fun _ => .bad, fun _ => .none, fun _ => [], fun _ => false, rfl, rfl, fun p o hp => by simp at hp, fun p hp => by simp at hp, fun p hp => by simp at hp, E, ha.e, h⟩
  | o :: r, base, acc, E, G, L, H, h, ha => by
    rcases xg_step h ha with ⟨E1, acc', hg, hE1, hacc, hag, hk⟩ | ⟨E2, G2, acc', hg, hacc, hk, ha2⟩
    · obtain ⟨hag1, hag2⟩ := hag rfl
      have key : ∃ v0 eff0 E2 G2, SOp P T n0 E1 H o.op v0 eff0 ∧ xg P true (DCall P) T n0 all r (base + 1) acc' E2 G2 (eff0.run H) K ∧ Agr E2 G2 (updL L o.dst v0) := by
        rcases hk with ⟨f, args, E0, G2, he, hE0, _, hc, ha2⟩ | h
        · obtain ⟨u, hu, hk⟩ := hc.h
          exact ⟨u, .none, _, _, .call he hu, hk, ha2 u⟩
        · exact h
      obtain ⟨v0, eff0, E2, G2, hs, hk, ha2⟩ := key
      obtain ⟨Ls, Es, Hs, v, eff, ts, run, ht⟩ := xdraw_trace r (base + 1) _ _ _ _ _ hk ha2
      exact ⟨_, _, _, _, _, _, _, ht.cons hE1 rfl rfl hg (.inl ⟨rfl, hs, rfl⟩) (agree_spec hag1) hacc (.inr hag2)⟩
    · obtain ⟨Ls, Es, Hs, v, eff, ts, run, ht⟩ := xdraw_trace r (base + 1) _ _ _ _ _ hk ha2
      exact ⟨_, _, _, _, _, _, _, ht.cons (E0 := []) (v0 := .tup []) (eff0 := .none) (ts0 := []) (fun _ => .inl rfl) rfl rfl hg (.inr ⟨rfl, rfl, rfl, rfl⟩) (fun q _ h => by cases h) hacc (.inl rfl)⟩

/-! ### What is asked of the region's text -/
def memB (d : Nat) (l : List Nat) : Bool := l.any (Nat.beq d)
def optB (d : Option Nat) (l : List Nat) : Bool := match d with | some d => memB d l | none => false

/-- The slots of two operations meet. -/
def meet (p q : Option Nat × List Nat) : Bool := optB p.1 q.2 || optB q.1 p.2 || (match p.1 with | some d => optB q.1 [d] | none => false)

def pairsOK (bef : Nat → Nat → Bool) : List (Option Nat × List Nat) → Nat → List (Nat × Option Nat × List Nat) → Bool
  | [], _, _ => true
  | p :: r, i, prev => prev.all (fun q => match meet q.2 p with | true => bef q.1 i | false => true) && pairsOK bef r (i + 1) ((i, p) :: prev)

def upB : List Oper → Nat → Bool
  | [], _ => true
  | o :: r, i => o.after.toList.all (fun e => match bindsB e with | true => Nat.blt e.on i | false => true) && upB r (i + 1)

noncomputable def drawOK (ops : List Oper) : Bool := upB ops 0 && pairsOK (before ops) (ops.map fun o => (o.dst, namesOf ops o)) 0 []

theorem memB_of {d : Nat} {l : List Nat} (h : d ∈ l) : memB d l = true := List.any_eq_true.2 ⟨d, h, Nat.beq_refl d⟩

theorem pairsOK_spec {bef : Nat → Nat → Bool} : ∀ (l : List (Option Nat × List Nat)) (i : Nat) (prev : List (Nat × Option Nat × List Nat)), pairsOK bef l i prev = true →
    (∀ k p, l[k]? = some p → ∀ q ∈ prev, meet q.2 p = true → bef q.1 (i + k) = true) ∧ (∀ k p k' p', k' < k → l[k]? = some p → l[k']? = some p' → meet p' p = true → bef (i + k') (i + k) = true)
  | [], i, prev, _ => ⟨fun k p h => by simp at h, fun k p k' p' _ h => by simp at h⟩
  | p0 :: r, i, prev, h => by
    simp only [pairsOK, Bool.and_eq_true, List.all_eq_true] at h
    obtain ⟨h1, h2⟩ := pairsOK_spec r (i + 1) _ h.2
    refine ⟨fun k p hp q hq hm => ?_, fun k p k' p' hk hp hp' hm => ?_⟩
    · cases k with
      | zero =>
        simp at hp; subst hp
        have := h.1 q hq
        rw [hm] at this
        exact this
      | succ k =>
        have := h1 k p (by simpa using hp) q (List.mem_cons_of_mem _ hq) hm
        rwa [show i + 1 + k = i + (k + 1) by omega] at this
    · cases k with
      | zero => omega
      | succ k =>
        cases k' with
        | zero =>
          simp at hp'; subst hp'
          have := h1 k p (by simpa using hp) _ List.mem_cons_self hm
          rw [show i + 1 + k = i + (k + 1) by omega] at this
          exact this
        | succ k' =>
          have := h2 k p k' p' (by omega) (by simpa using hp) (by simpa using hp') hm
          rwa [show i + 1 + k = i + (k + 1) by omega, show i + 1 + k' = i + (k' + 1) by omega] at this

theorem upB_spec : ∀ (l : List Oper) (i : Nat), upB l i = true → ∀ k o e, l[k]? = some o → e ∈ o.after.toList → bindsB e = true → e.on < i + k
  | [], _, _, k, o, e, h, _, _ => by simp at h
  | o0 :: r, i, h, k, o, e, hk, he, hb => by
    simp only [upB, Bool.and_eq_true, List.all_eq_true] at h
    cases k with
    | zero =>
      simp at hk; subst hk
      have := h.1 e he
      rw [hb] at this
      simpa [Nat.blt_eq] using this
    | succ k =>
      have := upB_spec r (i + 1) h.2 k o e (by simpa using hk) he hb
      omega

theorem draw_pairs {ops : List Oper} (h : drawOK ops = true) {j i : Nat} {x y : Oper} (hji : j < i) (hx : ops[j]? = some x) (hy : ops[i]? = some y) (hm : meet (x.dst, namesOf ops x) (y.dst, namesOf ops y) = true) : before ops j i = true := by
  simp only [drawOK, Bool.and_eq_true] at h
  have := (pairsOK_spec _ 0 [] h.2).2 i (y.dst, namesOf ops y) j (x.dst, namesOf ops x) hji (by simp [hy]) (by simp [hx]) hm
  simpa using this

/-! ### A state on the way -/
def wrT (all : List Oper) (v : Nat → V) (t j : Nat) : Option V := match all[j]? with
  | some o => (match o.dst with | some d => if d = t then some (v j) else none | none => none)
  | none => none

noncomputable def wrB (Hs : Nat → Heap) (eff : Nat → Eff) (b j : Nat) : Option Blk := match eff j with
  | .none => none
  | .set b' x => if b' = b then some x else none
  | .new x => if (Hs j).length = b then some x else none
  | .app b' x => if (Hs j).length = b then some x else if b' = b then some .dead else none

def ini (H : Heap) (b : Nat) : Blk := (H[b]?).getD .dead

section
variable {Γ : Ctx} {T : TTab} {n0 : Nat} {all : List Oper} {E : Env} {H : Heap} {K : Env → Heap → Prop} {L : Nat → V} {Ls : Nat → Nat → V} {Es : Nat → Env} {Hs : Nat → Heap} {v : Nat → V} {eff : Nat → Eff} {ts : Nat → List (Nat × Bool)} {run : Nat → Bool}

theorem wrT_some {t j : Nat} (h : wrT all v t j ≠ none) : ∃ o, all[j]? = some o ∧ o.dst = some t := by
  unfold wrT at h
  cases ho : all[j]? with
  | none => rw [ho] at h; exact absurd rfl h
  | some o =>
    rw [ho] at h
    simp only at h
    cases hd : o.dst with
    | none => rw [hd] at h; exact absurd rfl h
    | some d =>
      rw [hd] at h
      by_cases hdt : d = t
      · subst hdt; exact ⟨o, rfl, hd⟩
      · simp [hdt] at h

variable (ht : Trace Γ.P T n0 all all 0 [] L H K Ls Es Hs v eff ts run)
include ht

theorem text_env (t : Nat) : ∀ p, p ≤ all.length → Ls p t = lastW (wrT all v t) (fun _ => true) (L t) p
  | 0, _ => by rw [ht.l0]; rfl
  | p + 1, hp => by
    have ho : all[p]? = some all[p] := by simp
    obtain ⟨h1, _⟩ := ht.step p _ ho
    have ih := text_env t p (by omega)
    rw [h1]
    simp only [lastW, if_true, wrT, ho]
    cases hd : all[p].dst with
    | none => exact ih
    | some d =>
      simp only [updL]
      by_cases hdt : d = t
      · simp [hdt]
      · simp [hdt, ih]

theorem step_len {p : Nat} (hp : p < all.length) : (Hs (p + 1)).length = (Hs p).length + (if (eff p).news then 1 else 0) := by
  obtain ⟨_, h2, _⟩ := ht.step p _ (by simp : all[p]? = some all[p])
  rw [h2]
  cases eff p <;> simp [Eff.run, Eff.news, setB_eq]

theorem len_mono {p q : Nat} (hpq : p ≤ q) (hq : q ≤ all.length) : (Hs p).length ≤ (Hs q).length := by
  induction q with
  | zero => obtain rfl : p = 0 := by omega
            exact Nat.le_refl _
  | succ q ih =>
    by_cases h : p = q + 1
    · subst h; exact Nat.le_refl _
    · have := ih (by omega) (by omega)
      have := step_len ht (p := q) (by omega)
      omega

theorem text_heap : ∀ p, p ≤ all.length → ∀ b, b < (Hs p).length → (Hs p)[b]? = some (lastW (wrB Hs eff b) (fun _ => true) (ini H b) p)
  | 0, _, b, hb => by
    rw [ht.h0] at hb ⊢
    simp [lastW, ini, hb]
  | p + 1, hp, b, hb => by
    have ih := text_heap p (by omega) b
    have hl := step_len ht (p := p) (by omega)
    obtain ⟨_, h2, _⟩ := ht.step p _ (by simp : all[p]? = some all[p])
    rw [h2]
    simp only [lastW, if_true, wrB]
    cases he : eff p with
    | none =>
      rw [he] at hl
      simp only [Eff.news, Bool.false_eq_true, if_false] at hl
      simp only [Eff.run, Option.getD_none]
      exact ih (by omega)
    | set b' x =>
      rw [he] at hl
      simp only [Eff.news, Bool.false_eq_true, if_false] at hl
      have hb' : b < (Hs p).length := by omega
      simp only [Eff.run, setB_eq, List.getElem?_set]
      by_cases hbb : b' = b
      · subst hbb; simp [hb']
      · simp [hbb, ih hb']
    | new x =>
      rw [he] at hl
      simp only [Eff.news, if_true] at hl
      simp only [Eff.run]
      by_cases hbl : (Hs p).length = b
      · subst hbl; simp
      · rw [List.getElem?_append_left (by omega), ih (by omega)]; simp [hbl]
    | app b' x =>
      rw [he] at hl
      simp only [Eff.news, if_true] at hl
      simp only [Eff.run, setB_eq]
      by_cases hbl : (Hs p).length = b
      · subst hbl; simp
      · have hb' : b < (Hs p).length := by omega
        rw [List.getElem?_append_left (by simpa using hb'), List.getElem?_set]
        by_cases hbb : b' = b
        · subst hbb; simp [hb', hbl]
        · simp [hbb, hbl, ih hb']

omit ht
noncomputable def heapAt (Hs : Nat → Heap) (eff : Nat → Eff) (H : Heap) (n : Nat) (S : Nat → Bool) : Heap := (List.range (Hs n).length).map fun b => lastW (wrB Hs eff b) S (ini H b) n

theorem heapAt_get {n : Nat} {S : Nat → Bool} {b : Nat} (hb : b < (Hs n).length) : (heapAt Hs eff H n S)[b]? = some (lastW (wrB Hs eff b) S (ini H b) n) := by
  simp [heapAt, hb]

theorem heapAt_length {n : Nat} {S : Nat → Bool} : (heapAt Hs eff H n S).length = (Hs n).length := by simp [heapAt]

theorem Mem.pads {w : World} {μ : List Plc} (hm : Mem Γ H w μ) : ∀ n, Mem Γ (H ++ List.replicate n .dead) w (μ ++ List.replicate n .free) ∧ Pres Γ w μ w (μ ++ List.replicate n .free)
  | 0 => by simpa using ⟨hm, Pres.refl _ _ _⟩
  | n + 1 => by
    obtain ⟨h1, h2⟩ := Mem.pads hm n
    obtain ⟨h3, h4⟩ := h1.pad
    rw [List.replicate_succ', List.replicate_succ', ← List.append_assoc, ← List.append_assoc]
    exact ⟨h3, h2.trans h4⟩

/-- What is looked at is there. -/
theorem rep_there {w : World} {I : Nat → Prop} {μ : List Plc} {x : V} {cv : Value} {b : Nat} {wr wr' : Bool} (h : RepV w I μ x cv) (hb : (b, wr) ∈ touch0 wr' x) : ∃ l, μ[b]? = some l ∧ l ≠ .free := by
  cases h with
  | ptr b o k hl => simp [touch0] at hb; rw [hb.1]; exact ⟨_, hl, by simp⟩
  | buf b m c a hl => simp [touch0] at hb; rw [hb.1]; exact ⟨_, hl, by simp⟩
  | bdead b v hl h1 => simp [touch0] at hb; rw [hb.1]; exact ⟨_, hl, by simp⟩
  | _ => cases hb

theorem touchL_mem {wr : Bool} {xs : List V} {p : Nat × Bool} (h : p ∈ touchL wr xs) : ∃ (i : Nat) (x : V), xs[i]? = some x ∧ p ∈ touch0 wr x := by
  induction xs with
  | nil => cases h
  | cons y ys ih =>
    have h' : p ∈ touch0 wr y ++ touchL wr ys := h
    rcases List.mem_append.1 h' with h | h
    · exact ⟨0, y, rfl, h⟩
    · obtain ⟨i, x, h1, h2⟩ := ih h
      exact ⟨i + 1, x, by simpa using h1, h2⟩

theorem rep_there1 {w : World} {I : Nat → Prop} {μ : List Plc} {x : V} {cv : Value} {b : Nat} {wr wr' : Bool} (h : RepV w I μ x cv) (hb : (b, wr) ∈ touch1 wr' x) : ∃ l, μ[b]? = some l ∧ l ≠ .free := by
  cases h with
  | agg xs vs hl h1 h => obtain ⟨i, x, h1, h2⟩ := touchL_mem hb; exact rep_there (h i x h1) h2
  | tup xs vs hl h => obtain ⟨i, x, h1, h2⟩ := touchL_mem hb; exact rep_there (h i x h1) h2
  | ptr b o k hl => exact rep_there (RepV.ptr (w := w) (I := I) b o k hl) hb
  | buf b m c a hl => exact rep_there (RepV.buf (w := w) (I := I) b m c a hl) hb
  | bdead b v hl h1 => exact rep_there (RepV.bdead (w := w) (I := I) b _ hl h1) hb
  | _ => cases hb

theorem rep_thereV {w : World} {I : Nat → Prop} {μ : List Plc} {x : V} {cv : Value} {b : Nat} {wr wr' : Bool} (h : RepV w I μ x cv) (hb : (b, wr) ∈ touchV wr' x) : ∃ l, μ[b]? = some l ∧ l ≠ .free := by
  by_cases hc : ∃ f xs, x = .clo f xs
  · obtain ⟨f, xs, rfl⟩ := hc
    cases h with
    | clo f xs vs hl h =>
      have : ∃ (i : Nat) (x : V), xs[i]? = some x ∧ (b, wr) ∈ touch1 wr' x := by
        clear hl h
        induction xs with
        | nil => cases hb
        | cons y ys ih =>
          have h' : (b, wr) ∈ touch1 wr' y ++ touchV wr' (.clo f ys) := hb
          rcases List.mem_append.1 h' with h | h
          · exact ⟨0, y, rfl, h⟩
          · obtain ⟨i, x, h1, h2⟩ := ih h
            exact ⟨i + 1, x, by simpa using h1, h2⟩
      obtain ⟨i, x, h1, h2⟩ := this
      exact rep_there1 (h i x h1) h2
  · refine rep_there1 h (wr := wr) (wr' := wr') ?_
    cases x with
    | clo f xs => exact absurd ⟨f, xs, rfl⟩ hc
    | _ => exact hb

theorem touchA_mem {E : Env} {l : List Operand} {p : Nat × Bool} (h : p ∈ touchA E l) : ∃ x ∈ l, p ∈ touchV false (opd E x) := by
  induction l with
  | nil => cases h
  | cons y ys ih =>
    have h' : p ∈ touchV false (opd E y) ++ touchA E ys := h
    rcases List.mem_append.1 h' with h | h
    · exact ⟨y, List.mem_cons_self, h⟩
    · obtain ⟨x, h1, h2⟩ := ih h
      exact ⟨x, List.mem_cons_of_mem _ h1, h2⟩

theorem touch_there {w : World} {μ : List Plc} {a : Act} {op : Op} {b : Nat} {wr : Bool} (hop : ∀ x ∈ op.operands.toList, Rep Γ w μ (opd E x) (a.eval x)) (hb : (b, wr) ∈ touch E op) : ∃ l, μ[b]? = some l ∧ l ≠ .free := by
  cases op with
  | load t x => exact rep_thereV (hop x (by simp [Op.operands])) hb
  | store t x y => exact rep_thereV (hop x (by simp [Op.operands])) hb
  | call c =>
    obtain ⟨callee, args, ats⟩ := c
    obtain ⟨args⟩ := args
    have all : ∀ l : List Operand, (∀ x ∈ l, x ∈ (Op.call ⟨callee, ⟨args⟩, ats⟩).operands.toList) → (b, wr) ∈ touchA E l → ∃ l, μ[b]? = some l ∧ l ≠ .free := fun l hl h => by
      obtain ⟨x, h1, h2⟩ := touchA_mem h
      exact rep_thereV (hop x (hl x h1)) h2
    cases callee with
    | value f => exact all (f :: args) (fun x hx => by simpa [Op.operands, Call.operands, or_comm] using hx) hb
    | invoke r m => exact all args (fun x hx => by simp [Op.operands, Call.operands, hx]) hb
    | builtin bi =>
      have hargs : ∀ x ∈ args, x ∈ (Op.call ⟨.builtin bi, ⟨args⟩, ats⟩).operands.toList := fun x hx => by simp [Op.operands, Call.operands, hx]
      cases bi with
      | append =>
        have hb' : (b, wr) ∈ (match args with | [x, y] => List.append (touchV true (opd E x)) (touchV false (opd E y)) | _ => []) := hb
        split at hb'
        · rename_i x y
          rcases List.mem_append.1 hb' with h | h
          · exact rep_thereV (hop x (hargs x (by simp))) h
          · exact rep_thereV (hop y (hargs y (by simp))) h
        · cases hb'
      | _ => exact all args hargs hb
  | _ => cases hb

end

end Go.AW
