/- States: where an update stands. -/
import Derived.Test.YtfgnoaaaacaebaaMF
import Derived.Test.YtfgnoaaaacaebaaMH
import Derived.Test.YtfgnoaaaacaebaaMC
namespace Go.AW
open Go Go.Proofs

theorem idxN_before {α : Type} {p : α → Bool} : ∀ {l : List α} {j : Nat} {y : α}, j < idxN p l → l[j]? = some y → p y = false
  | [], _, _, h, _ => by simp [idxN] at h
  | x :: r, j, y, h, hy => by
    cases hp : p x with
    | true => simp [idxN, hp] at h
    | false =>
      simp only [idxN, hp, Bool.false_eq_true, if_false] at h
      cases j with
      | zero => simp at hy; subst hy; exact hp
      | succ j => exact idxN_before (l := r) (j := j) (by omega) (by simpa using hy)
theorem idxN_at {α : Type} {p : α → Bool} : ∀ {l : List α} {y : α}, l[idxN p l]? = some y → p y = true
  | [], _, h => by simp at h
  | x :: r, y, h => by
    cases hp : p x with
    | true => simp [idxN, hp] at h; subst h; exact hp
    | false =>
      simp only [idxN, hp, Bool.false_eq_true, if_false] at h
      exact idxN_at (l := r) (by simpa using h)
theorem findU_at {nm : ByteArray} : ∀ {l : List Upd} {u : Upd}, findU nm l = some u → l[idxN (fun u => decide (u.name = nm)) l]? = some u
  | [], _, h => by cases h
  | x :: r, u, h => by
    by_cases hn : x.name = nm
    · simp only [findU, hn, if_true] at h
      simp [idxN, hn]
      exact Option.some.inj h
    · simp only [findU, hn, if_false] at h
      simp only [idxN, hn, decide_false, Bool.false_eq_true, if_false]
      simpa using findU_at h
theorem findU_any (nm : ByteArray) : ∀ (l : List Upd), (findU nm l).isSome = l.any fun u => decide (u.name = nm)
  | [] => rfl
  | x :: r => by
    by_cases hn : x.name = nm
    · simp [findU, hn]
    · simp [findU, hn, findU_any nm r]
theorem cmpS_ge (a b : ByteArray) : decide (cmpS a b ≥ 0) = !sless a b := by
  unfold cmpS
  cases sless a b with
  | true => rfl
  | false =>
    simp only [Bool.false_eq_true, if_false, Bool.not_false]
    split <;> rfl

end Go.AW

/- Commands: who is refused; the law CommandApart. -/
namespace Go.AW
open Go Go.Proofs

/-! ### Names stay -/
abbrev hasU (nm : ByteArray) (l : List Upd) : Bool := l.any fun u => decide (u.name = nm)
theorem any_ins {nm : ByteArray} {l : List Upd} {i : Nat} {u : Upd} : hasU nm (l.take i ++ u :: l.drop i) = (hasU nm l || decide (u.name = nm)) := by
  have h : hasU nm l = (hasU nm (l.take i) || hasU nm (l.drop i)) := by
    rw [← List.any_append, List.take_append_drop]
  rw [h]
  simp only [hasU, List.any_append, List.any_cons]
  cases (l.take i).any fun u => decide (u.name = nm) <;> cases decide (u.name = nm) <;> simp
theorem any_set {nm : ByteArray} : ∀ {l : List Upd} {i : Nat} {u v : Upd}, l[i]? = some u → v.name = u.name → hasU nm (l.set i v) = hasU nm l
  | [], _, _, _, h, _ => by simp at h
  | x :: r, 0, u, v, h, hv => by simp at h; subst h; simp [hasU, hv]
  | x :: r, i + 1, u, v, h, hv => by
    have := any_set (nm := nm) (l := r) (i := i) (u := u) (v := v) (by simpa using h) hv
    simp only [hasU, List.set_cons_succ, List.any_cons] at this ⊢
    rw [this]

theorem turn_names (s : St) (e : Ev) (nm : ByteArray) (h : hasU nm s.updates = true) : hasU nm (turnSt s e).updates = true := by
  have h12 : hasU nm (accSt s e).updates = true := by
    unfold accSt
    split
    · exact h
    · split
      · exact h
      · show hasU nm (_ ++ _ :: _) = true
        rw [any_ins, h]; rfl
  have h13 : hasU nm (outSt s e).updates = true := by
    unfold outSt
    split
    · exact h
    · show hasU nm (outU _ _ _) = true
      unfold outU
      split
      · rename_i u hu
        rw [any_set (v := { u with stage := 2, outcome := e.value }) hu rfl]; exact h
      · exact h
  have ho : hasU nm (startedSt s e).updates = true ∧ hasU nm (scheduledSt s e).updates = true ∧ hasU nm (takenSt s e).updates = true ∧ hasU nm (goneSt s e).updates = true ∧ hasU nm (toldSt s e).updates = true
      ∧ hasU nm (timerSt s e).updates = true ∧ hasU nm (offSt s e).updates = true ∧ hasU nm (closedSt s e).updates = true := by
    simp only [startedSt, scheduledSt, takenSt, goneSt, toldSt, timerSt, offSt, closedSt, apply_ite St.updates, ite_self]
    exact ⟨h, h, h, h, h, h, h, h⟩
  obtain ⟨g1, g2, g3, g4, g5, g6, g7, g8⟩ := ho
  unfold turnSt
  repeat' split
  all_goals assumption

theorem step_names (s : St) (e : Ev) (nm : ByteArray) (h : hasU nm s.updates = true) : hasU nm (stepSt s e).updates = true := by
  unfold stepSt
  split
  · exact h
  · split
    · exact h
    · exact turn_names s e nm h

theorem step_accepts {s : St} {e : Ev} (hk : e.kind = 12) (hx : stepX s e = 0) : hasU e.name (stepSt s e).updates = true := by
  have k12 : turnSt s e = accSt s e := by unfold turnSt; rw [hk]; simp
  have x12 : turnX s e = accX s e := by unfold turnX; rw [hk]; simp
  unfold stepX at hx
  unfold stepSt
  split
  · rename_i h; rw [if_pos h] at hx; simp at h; exact absurd hx h
  · rename_i h
    rw [if_neg h] at hx
    split
    · rename_i h2; rw [if_pos h2] at hx; simp at h2; exact absurd hx h2
    · rename_i h2
      show hasU e.name (turnSt s e).updates = true
      rw [k12]
      rw [x12] at h2
      unfold accX at h2
      unfold accSt
      split
      · rename_i h3; rw [if_pos h3] at h2; simp at h2
      · rename_i h3
        rw [if_neg h3] at h2
        split
        · rename_i h4; rw [if_pos h4] at h2; simp at h2
        · show hasU e.name (_ ++ _ :: _) = true
          rw [any_ins]; simp

/-! ### What a plan holds -/
structure Apart (s0 : St) (p : Pl) : Prop where
  waits : ∀ a ∈ p.refused, (findA a.name p.asks).isSome = true
  none_ : ∀ a ∈ p.refused, hasU a.name s0.updates = false
  apart : ∀ a ∈ p.refused, ∀ e ∈ p.events, ¬ (e.kind = 12 ∧ e.name = a.name)
  acc : ∀ e ∈ p.events, e.kind = 12 → hasU e.name p.s.updates = true
  old : ∀ nm, hasU nm s0.updates = true → hasU nm p.s.updates = true

theorem mem_findA {nm : ByteArray} : ∀ {l : List Ask} {a : Ask}, a ∈ l → a.name = nm → (findA nm l).isSome = true
  | x :: r, a, h, hn => by
    simp only [findA]
    split
    · rfl
    · rename_i hx
      rcases List.mem_cons.1 h with rfl | h
      · exact absurd hn hx
      · exact mem_findA h hn

theorem apart_event {s0 : St} {p : Pl} {e : Ev} (h : Apart s0 p) (hacc : e.kind = 12 → (findA e.name p.refused).isSome = false) : Apart s0 (doneP p e) := by
  unfold doneP
  split
  · rename_i hx
    have hx0 : stepX p.s e = 0 := by simpa using hx
    refine ⟨h.waits, h.none_, fun a ha f hf => ?_, fun f hf hk => ?_, fun nm hn => step_names _ _ _ (h.old nm hn)⟩
    · rcases List.mem_append.1 hf with hf | hf
      · exact h.apart a ha f hf
      · simp at hf; subst hf
        rintro ⟨k1, k2⟩
        have h1 := hacc k1
        rw [mem_findA ha k2.symm] at h1
        cases h1
    · rcases List.mem_append.1 hf with hf | hf
      · exact step_names _ _ _ (h.acc f hf hk)
      · simp at hf; subst hf
        exact step_accepts hk hx0
  · exact h

theorem may_zero {p : Pl} {c : Cmd} {last : Bool} (h : mayP p c last = 0) : cmdOk c = 0 ∧ (c.kind = 4 → openA p c.name = true) ∧ (c.kind = 5 → openA p c.name = true ∧ (findU c.name p.s.updates).isSome = false) := by
  unfold mayP at h
  split at h
  · cases h
  · rename_i h1
    split at h
    · cases h
    · split at h
      · cases h
      · split at h
        · rename_i h4
          refine ⟨by simpa using h1, fun hk => ?_, fun hk => ?_⟩ <;> · rw [hk] at h4; simp at h4
        · split at h
          · cases h
          · rename_i h5
            simp only [Bool.or_eq_true, not_or, Bool.not_eq_true, Bool.not_eq_false', Bool.and_eq_true, not_and, Bool.not_eq_true] at h5
            refine ⟨by simpa using h1, fun _ => h5.1, fun hk => ⟨h5.1, ?_⟩⟩
            have := h5.2 (by simpa using hk)
            simpa using this

theorem cmd_kind {c : Cmd} (h : cmdOk c = 0) : 1 ≤ c.kind ∧ c.kind ≤ 9 := by
  unfold cmdOk at h
  split at h
  · cases h
  · rename_i h1
    simp at h1
    omega

theorem apart_does {s0 : St} {p : Pl} {c : Cmd} {last : Bool} (h : Apart s0 p) (hm : mayP p c last = 0) : Apart s0 (doesP p c) := by
  obtain ⟨hok, h4, h5⟩ := may_zero hm
  have hk := cmd_kind hok
  have hopen : ∀ nm, openA p nm = true → (findA nm p.asks).isSome = true ∧ (findA nm p.refused).isSome = false := fun nm ho => by
    unfold openA at ho; simpa using ho
  obtain ⟨k, n, v, d⟩ := c
  simp only at hk h4 h5
  have hkk : k = 1 ∨ k = 2 ∨ k = 3 ∨ k = 4 ∨ k = 5 ∨ k = 6 ∨ k = 7 ∨ k = 8 ∨ k = 9 := by omega
  rcases hkk with rfl | rfl | rfl | rfl | rfl | rfl | rfl | rfl | rfl
  · exact apart_event (e := evSet ⟨1, n, v, d⟩ p.t) h (fun hh => by cases hh)
  · exact apart_event (e := evNm 11 p.t n) h (fun hh => by cases hh)
  · exact apart_event (e := evVal 14 p.t n v) h (fun hh => by cases hh)
  · exact apart_event (e := evVal 12 p.t n (askOf (findA n p.asks)).value) h (fun _ => (hopen n (h4 rfl)).2)
  · obtain ⟨g1, g2⟩ := h5 rfl
    obtain ⟨g3, g4⟩ := hopen n g1
    have hno : hasU n p.s.updates = false := by rw [findU_any] at g2; exact g2
    show Apart s0 { p with refused := p.refused ++ [⟨0, n, v⟩] }
    refine ⟨fun a ha => ?_, fun a ha => ?_, fun a ha e he => ?_, h.acc, h.old⟩
    · rcases List.mem_append.1 ha with ha | ha
      · exact h.waits a ha
      · simp at ha; subst ha; exact g3
    · rcases List.mem_append.1 ha with ha | ha
      · exact h.none_ a ha
      · simp at ha; subst ha
        cases hh : hasU n s0.updates with
        | false => rfl
        | true => have := h.old n hh; rw [hno] at this; cases this
    · rcases List.mem_append.1 ha with ha | ha
      · exact h.apart a ha e he
      · simp at ha; subst ha
        rintro ⟨k1, k2⟩
        have := h.acc e he k1
        rw [k2, hno] at this
        cases this
  · exact apart_event (e := evVal 13 p.t n v) h (fun hh => by cases hh)
  · exact apart_event (e := evVal 15 p.t n v) h (fun hh => by cases hh)
  · exact apart_event (e := evNm 16 p.t n) h (fun hh => by cases hh)
  · exact apart_event (e := evNm 17 p.t ⟨#[]⟩) h (fun hh => by cases hh)

theorem doesP_asks (p : Pl) (c : Cmd) : (doesP p c).asks = p.asks := by
  unfold doesP
  split
  · rfl
  · unfold doneP; split <;> rfl

theorem apart_go {s0 : St} : ∀ (l : List Cmd) (p : Pl), Apart s0 p → ∀ a ∈ (planGo p l).2.1, (findA a.name p.asks).isSome = true ∧ hasU a.name s0.updates = false ∧ ∀ e ∈ (planGo p l).1, ¬ (e.kind = 12 ∧ e.name = a.name)
  | [], p, h, a, ha => ⟨h.waits a ha, h.none_ a ha, h.apart a ha⟩
  | c :: r, p, h, a, ha => by
    simp only [planGo] at ha ⊢
    split at ha
    · rename_i h1
      rw [if_pos h1]
      split at ha
      · cases ha
      · rename_i h2
        rw [if_neg h2]
        have := apart_go r (doesP p c) (apart_does h (by simpa using h1)) a ha
        rw [doesP_asks] at this
        exact this
    · cases ha

theorem plan_apart (s : St) (asks : List Ask) (l : List Cmd) (t : Int) : ∀ a ∈ (planR s asks l t).2.1, (findA a.name asks).isSome = true ∧ hasU a.name s.updates = false ∧ ∀ e ∈ (planR s asks l t).1, ¬ (e.kind = 12 ∧ e.name = a.name) := by
  unfold planR
  split
  · intro a ha; cases ha
  · exact apart_go l (plan0 s asks t) ⟨(fun a ha => by cases ha), (fun a ha => by cases ha), (fun a ha => by cases ha), (fun e he => by cases he), fun nm h => h⟩

theorem planGo_len : ∀ (l : List Cmd) (p : Pl), (planGo p l).1.length ≤ p.events.length + l.length ∧ (planGo p l).2.1.length ≤ p.refused.length + l.length
  | [], p => by simp [planGo]
  | c :: r, p => by
    simp only [planGo]
    split
    · split
      · simp
      · have h1 := planGo_len r (doesP p c)
        have h2 := does_len p c
        simp only [List.length_cons]
        omega
    · simp
theorem planR_len (s : St) (asks : List Ask) (l : List Cmd) (t : Int) : (planR s asks l t).1.length ≤ 12 ∧ (planR s asks l t).2.1.length ≤ 12 := by
  unfold planR
  split
  · simp
  · rename_i h
    have h1 := planGo_len l (plan0 s asks t)
    simp [plan0] at h1
    simp at h
    simp only [plan0]
    omega

theorem findA_any (nm : ByteArray) : ∀ (l : List Ask), (findA nm l).isSome = l.any fun b => decide (nm = b.name)
  | [] => rfl
  | x :: r => by
    by_cases hn : x.name = nm
    · simp [findA, hn]
    · simp [findA, hn, findA_any nm r, Ne.symm hn]

/-! ### The law's own -/
def sizesGo : Int → List Int → Bool
  | _, [] => true
  | m, n :: r => if decide (n > m) = true then false else sizesGo (IntKind.i64.wrap (m - n)) r
abbrev intE (n : Int) : List F := [.sc (.int .i64 n)]
abbrev FI (l : List Int) : V := .fr (.sl 1 8 (l.map intE))

theorem plain_Sizes (m : Int) (l : List Int) : PCall PP 57 [I64 m, FI l] (B1 (sizesGo m l)) := by
  refine pcall_of TTok Try.func57 rfl rfl rfl rfl rfl rfl (fun hfit => ?_)
  have hb : l.length * 8 ≤ 140737488355328 := fit_rows (show FitF _ from hfit.2.1)
  have hl : (l.map intE).length = l.length := List.length_map _
  (repeat' ((conv => whnf); first | refine bsplit (fun _ => ?_) (fun _ => ?_) | refine adraw ?_ | refine leave ?_ | refine And.intro (by first | assumption | omega | (simp; omega)) ?_)) <;> (try (conv => whnf))
  refine aloopK [7, 8] (fun x : Nat × Int => [(0, I64 x.2), (9, I64 x.1)]) (fun _ => _) (fun x => l.length - x.1) (fun x => x.1 ≤ l.length ∧ sizesGo m l = sizesGo x.2 (l.drop x.1)) (0, m) ⟨by simp, rfl⟩ ⟨rfl, rfl, trivial⟩ rfl ?_
  conv => whnf
  rintro ⟨k, c⟩ ⟨hk, hR⟩
  simp only at hk hR
  (repeat' ((conv => whnf); first | refine bsplit (fun _ => ?_) (fun _ => ?_) | refine adraw ?_ | refine leave ?_ | refine And.intro (by first | assumption | omega | (simp; omega)) ?_)) <;> (try (conv => whnf))
  · rename_i h1
    rw [hl] at h1
    have hk2 := ltx h1
    obtain ⟨x, hx⟩ := getx l hk2
    rw [drop_cons hx] at hR
    simp only [sizesGo] at hR
    refine aidx rfl hx ?_
    (repeat' ((conv => whnf); first | refine bsplit (fun _ => ?_) (fun _ => ?_) | refine adraw ?_ | refine leave ?_ | refine And.intro (by first | assumption | omega | (simp; omega)) ?_)) <;> (try (conv => whnf))
    · rename_i h2
      rw [if_pos h2] at hR
      rw [hR]; exact ⟨rfl⟩
    · rename_i h2
      rw [if_neg (by rw [h2]; decide)] at hR
      exact ⟨⟨(k + 1, IntKind.i64.wrap (c - x)), by show k + 1 ≤ _; exact hk2, hR⟩, by show l.length - (k + 1) < l.length - k; exact Nat.sub_lt_sub_left hk2 (by omega), (.same (subE_append ⟨rfl, i64_inj (wrap_add hk2 (by omega)), trivial⟩ (by repeat' (first | exact trivial | refine ⟨rfl, ?_⟩))) rfl)⟩
  · rename_i h1
    rw [hl] at h1
    have hk2 := gex hk h1
    rw [hk2, List.drop_length] at hR
    rw [hR]; exact ⟨rfl⟩

def few21 (s : St) (asks : List Ask) (l : List Cmd) : Bool := sizesGo 200 [(s.timers.length : Int), (s.updates.length : Int), (asks.length : Int), (l.length : Int)]
theorem law21_few (s : St) (asks : List Ask) (l : List Cmd) : PCall PP 37 [fv s.enc, FA asks, FC l] (B1 (few21 s asks l)) := by
  refine pcall_of TTok Try.func37 rfl rfl rfl rfl rfl rfl (fun _ => ?_)
  have h1 : (s.timers.map Tim.enc).length = s.timers.length := List.length_map _
  have h2 : (s.updates.map Upd.enc).length = s.updates.length := List.length_map _
  have h3 : (asks.map Ask.enc).length = asks.length := List.length_map _
  have h4 : (l.map Cmd.enc).length = l.length := List.length_map _
  (repeat' ((conv => whnf); first | refine bsplit (fun _ => ?_) (fun _ => ?_) | refine adraw ?_ | refine leave ?_ | refine acall (plain_Sizes 200 [((s.timers.map Tim.enc).length : Int), ((s.updates.map Upd.enc).length : Int), ((asks.map Ask.enc).length : Int), ((l.map Cmd.enc).length : Int)]) ?_ | refine dcall (plain_Sizes 200 [((s.timers.map Tim.enc).length : Int), ((s.updates.map Upd.enc).length : Int), ((asks.map Ask.enc).length : Int), ((l.map Cmd.enc).length : Int)]) ?_ | refine GCall.sym _ (fun hg => PC.own (plain_Sizes 200 [((s.timers.map Tim.enc).length : Int), ((s.updates.map Upd.enc).length : Int), ((asks.map Ask.enc).length : Int), ((l.map Cmd.enc).length : Int)])) ?_ | refine And.intro (by first | assumption | omega | (simp; omega)) ?_)) <;> (try (conv => whnf))
  rw [h1, h2, h3, h4]
  exact ⟨rfl⟩

set_option maxRecDepth 100000 in
theorem law_CommandApart (s : St) (asks : List Ask) (l : List Cmd) : PCall PP 10 [fv s.enc, FA asks, FC l] (B1 true) := by
  refine pcall_of TTok Try.func10 rfl rfl rfl rfl rfl rfl (fun hfit => ?_)
  have hb : asks.length * 88 ≤ 140737488355328 := fit_rows (show FitF _ from hfit.2.1)
  have hla : (asks.map Ask.enc).length = asks.length := List.length_map _
  have hP := plan_apart s asks l s.time
  have hL := planR_len s asks l s.time
  have hplan := command_Plan s asks l s.time
  generalize planR s asks l s.time = r at *
  obtain ⟨x, q, err⟩ := r
  simp only at hP hL
  have hlx : (x.map Ev.enc).length = x.length := List.length_map _
  have hlq : (q.map Ask.enc).length = q.length := List.length_map _
  (repeat' ((conv => whnf); first | refine bsplit (fun _ => ?_) (fun _ => ?_) | refine adraw ?_ | refine leave ?_ | refine acall (law21_few s asks l) ?_ | refine dcall (law21_few s asks l) ?_ | refine GCall.sym _ (fun hg => PC.own (law21_few s asks l)) ?_ | refine acall (law21_awake) ?_ | refine dcall (law21_awake) ?_ | refine GCall.sym _ (fun hg => PC.own (law21_awake)) ?_ | refine acall (hplan) ?_ | refine dcall (hplan) ?_ | refine GCall.sym _ (fun hg => PC.own (hplan)) ?_ | refine And.intro (by first | assumption | omega | (simp; omega)) ?_)) <;> (try (conv => whnf))
  · exact ⟨rfl⟩
  · refine aloopK [1, 3, 7, 35, 36] (fun k : Nat => [(37, I64 k)]) (fun _ => _) (fun k => q.length - k) (fun k => k ≤ q.length) 0 (by omega) ⟨rfl, trivial⟩ rfl ?_
    conv => whnf
    intro k hk
    (repeat' ((conv => whnf); first | refine bsplit (fun _ => ?_) (fun _ => ?_) | refine adraw ?_ | refine leave ?_ | refine And.intro (by first | assumption | omega | (simp; omega)) ?_)) <;> (try (conv => whnf))
    · rename_i h1
      rw [hlq] at h1
      have hk2 := ltx h1
      obtain ⟨a, ha⟩ := getx q hk2
      obtain ⟨p1, p2, p3⟩ := hP a (List.mem_of_getElem? ha)
      refine aidx rfl ha ?_
      (repeat' ((conv => whnf); first | refine bsplit (fun _ => ?_) (fun _ => ?_) | refine adraw ?_ | refine leave ?_ | refine And.intro (by first | assumption | omega | (simp; omega)) ?_)) <;> (try (conv => whnf))
      refine aloopK [1, 3, 7, 11, 35, 36, 37, 41, 42] (fun j : Nat => [(12, B1 ((asks.take j).any fun b => decide (a.name = b.name))), (43, I64 j)]) (fun _ => _) (fun j => asks.length - j) (fun j => j ≤ asks.length) 0 (by omega) ⟨rfl, rfl, trivial⟩ rfl ?_
      conv => whnf
      intro j hj
      (repeat' ((conv => whnf); first | refine bsplit (fun _ => ?_) (fun _ => ?_) | refine adraw ?_ | refine leave ?_ | refine And.intro (by first | assumption | omega | (simp; omega)) ?_)) <;> (try (conv => whnf))
      · rename_i h2
        rw [hla] at h2
        have hj2 := ltx h2
        obtain ⟨b, hb2⟩ := getx asks hj2
        refine aidx rfl hb2 ?_
        (repeat' ((conv => whnf); first | refine bsplit (fun _ => ?_) (fun _ => ?_) | refine adraw ?_ | refine leave ?_ | refine And.intro (by first | assumption | omega | (simp; omega)) ?_)) <;> (try (conv => whnf))
        exact ⟨⟨j + 1, by omega⟩, by show asks.length - (j + 1) < asks.length - j; omega, (.trunc [_] (subE_append ⟨b1_inj (by show _ = (asks.take (j + 1)).any _; rw [take_snoc hb2, List.any_append, Bool.cond_true_left]; simp), i64_inj (wrap_add hj2 (by omega)), trivial⟩ (by repeat' (first | exact trivial | refine ⟨rfl, ?_⟩))) rfl rfl rfl rfl)⟩
      · rename_i h2
        rw [hla] at h2
        have hj2 := gex hj h2
        have e1 : ((asks.take j).any fun b => decide (a.name = b.name)) = true := by
          rw [hj2, List.take_length, ← findA_any, p1]
        have hup := ref16_Update s a.name
        have p4 : (findU a.name s.updates).isSome = false := by rw [findU_any]; exact p2
        rw [p4] at hup
        rw [e1]
        (repeat' ((conv => whnf); first | refine bsplit (fun _ => ?_) (fun _ => ?_) | refine adraw ?_ | refine leave ?_ | refine acall (hup) ?_ | refine dcall (hup) ?_ | refine GCall.sym _ (fun hg => PC.own (hup)) ?_ | refine And.intro (by first | assumption | omega | (simp; omega)) ?_)) <;> (try (conv => whnf))
        refine aloopK [1, 3, 7, 11, 35, 36, 37, 68, 69] (fun m : Nat => [(70, I64 m)]) (fun _ => _) (fun m => x.length - m) (fun m => m ≤ x.length) 0 (by omega) ⟨rfl, trivial⟩ rfl ?_
        conv => whnf
        intro m hm
        (repeat' ((conv => whnf); first | refine bsplit (fun _ => ?_) (fun _ => ?_) | refine adraw ?_ | refine leave ?_ | refine And.intro (by first | assumption | omega | (simp; omega)) ?_)) <;> (try (conv => whnf))
        · rename_i h3
          rw [hlx] at h3
          have hm2 := ltx h3
          obtain ⟨f, hf⟩ := getx x hm2
          refine aidx rfl hf ?_
          (repeat' ((conv => whnf); first | refine bsplit (fun _ => ?_) (fun _ => ?_) | refine adraw ?_ | refine leave ?_ | refine And.intro (by first | assumption | omega | (simp; omega)) ?_)) <;> (try (conv => whnf))
          · rename_i h4
            exfalso
            have h5 := p3 f (List.mem_of_getElem? hf)
            cases h6 : (f.kind == 12) with
            | false => rw [h6] at h4; cases h4
            | true =>
              rw [h6] at h4
              have h7 : decide (f.name = a.name) = true := h4
              exact h5 ⟨by simpa using h6, of_decide_eq_true h7⟩
          · exact ⟨⟨m + 1, by omega⟩, by show x.length - (m + 1) < x.length - m; omega, (.trunc [_] (subE_append ⟨i64_inj (wrap_add hm2 (by omega)), trivial⟩ (by repeat' (first | exact trivial | refine ⟨rfl, ?_⟩))) rfl rfl rfl rfl)⟩
        · (repeat' ((conv => whnf); first | refine bsplit (fun _ => ?_) (fun _ => ?_) | refine adraw ?_ | refine leave ?_ | refine And.intro (by first | assumption | omega | (simp; omega)) ?_)) <;> (try (conv => whnf))
          exact ⟨⟨k + 1, by omega⟩, by show q.length - (k + 1) < q.length - k; omega, (.trunc [_, _] (subE_append ⟨i64_inj (wrap_add hk2 (by omega)), trivial⟩ (by repeat' (first | exact trivial | refine ⟨rfl, ?_⟩))) rfl rfl rfl rfl)⟩
    · (repeat' ((conv => whnf); first | refine bsplit (fun _ => ?_) (fun _ => ?_) | refine adraw ?_ | refine leave ?_ | refine acall (law21_awake) ?_ | refine dcall (law21_awake) ?_ | refine GCall.sym _ (fun hg => PC.own (law21_awake)) ?_ | refine And.intro (by first | assumption | omega | (simp; omega)) ?_)) <;> (try (conv => whnf))
      exact ⟨rfl⟩

end Go.AW

/- Events and updates that wait, held against each other. -/
namespace Go.AW
open Go Go.Proofs

def evEq (a b : Ev) : Bool := a.kind == b.kind && a.time == b.time && a.num == b.num && a.due == b.due && decide (a.name = b.name) && sameV a.value b.value && polEq a.policy b.policy
theorem evEq_self (e : Ev) : evEq e e = true := by simp [evEq, sameV_self, polEq]

set_option maxRecDepth 100000 in
theorem ref14_Same (a b : Ev) : PCall PP 104 [fv a.enc, fv b.enc] (B1 (evEq a b)) := by
  refine pcall_of TTok Try.func104 rfl rfl rfl rfl rfl rfl (fun hfit => ?_)
  (repeat' ((conv => whnf); first | refine bsplit (fun _ => ?_) (fun _ => ?_) | refine adraw ?_ | refine leave ?_ | refine acall (ref05_Same a.value b.value) ?_ | refine dcall (ref05_Same a.value b.value) ?_ | refine GCall.sym _ (fun hg => PC.own (ref05_Same a.value b.value)) ?_ | refine And.intro (by first | assumption | omega | (simp; omega)) ?_)) <;> (try (conv => whnf))
  refine ⟨b1_inj ?_⟩
  simp only [Bool.cond_false_right]
  rfl

def ev000 : Ev := ⟨0, 0, 0, 0, ⟨#[]⟩, Val.zero, ⟨0, 0, 0⟩⟩
def commonN : List Ev → List Ev → Nat
  | x :: r, y :: q => if evEq x y = true then commonN r q + 1 else 0
  | _, _ => 0
theorem commonN_le : ∀ (a b : List Ev), commonN a b ≤ a.length
  | [], _ => by simp [commonN]
  | x :: r, [] => by simp [commonN]
  | x :: r, y :: q => by
    simp only [commonN]
    split
    · have := commonN_le r q; simp; exact this
    · simp
theorem common_eqL : ∀ (a b : List Ev), a.length = b.length → (commonN a b == a.length) = eqL evEq a b
  | [], [], _ => rfl
  | [], y :: q, h => by simp at h
  | x :: r, [], h => by simp at h
  | x :: r, y :: q, h => by
    have ih := common_eqL r q (by simpa using h)
    simp only [commonN, eqL]
    cases he : evEq x y with
    | true => simp [← ih]
    | false => simp

set_option maxRecDepth 100000 in
theorem ref15_Common (a b : List Ev) : PCall PP 49 [FE a, FE b] (I64 (commonN a b)) := by
  refine pcall_of TTok Try.func49 rfl rfl rfl rfl rfl rfl (fun hfit => ?_)
  have hb : a.length * 136 ≤ 140737488355328 := fit_rows (show FitF _ from hfit.1)
  have hla : (a.map Ev.enc).length = a.length := List.length_map _
  have hlb : (b.map Ev.enc).length = b.length := List.length_map _
  (repeat' ((conv => whnf); first | refine bsplit (fun _ => ?_) (fun _ => ?_) | refine adraw ?_ | refine leave ?_ | refine And.intro (by first | assumption | omega | (simp; omega)) ?_)) <;> (try (conv => whnf))
  refine aloopK [0, 1] (fun k : Nat => [(5, I64 k)]) (fun _ => _) (fun k => a.length - k) (fun k => k ≤ a.length ∧ k ≤ b.length ∧ commonN a b = k + commonN (a.drop k) (b.drop k)) 0 ⟨by omega, by omega, by simp⟩ ⟨rfl, trivial⟩ rfl ?_
  conv => whnf
  rintro k ⟨hk, hk', hR⟩
  (repeat' ((conv => whnf); first | refine bsplit (fun _ => ?_) (fun _ => ?_) | refine adraw ?_ | refine leave ?_ | refine And.intro (by first | assumption | omega | (simp; omega)) ?_)) <;> (try (conv => whnf))
  refine GIdx.mk ⟨((a[k]?).getD ev000).enc, fun hg => ?_, ?_⟩
  · rw [hla, hlb] at hg
    have h2 : k < a.length := by
      cases hd : decide ((k : Int) < (a.length : Int)) with
      | true => have := of_decide_eq_true hd; omega
      | false => rw [hd] at hg; cases hg
    exact ⟨Int.natCast_nonneg _, by rw [Int.toNat_natCast, List.getElem?_map, List.getElem?_eq_getElem h2]; rfl⟩
  conv => whnf
  refine GIdx.mk ⟨((b[k]?).getD ev000).enc, fun hg => ?_, ?_⟩
  · rw [hla, hlb] at hg
    have h2 : k < b.length := by
      cases hd : decide ((k : Int) < (b.length : Int)) with
      | true => have := of_decide_eq_true hd; omega
      | false =>
        rw [hd] at hg
        cases hd2 : decide ((k : Int) < (a.length : Int)) <;> rw [hd2] at hg <;> cases hg
    exact ⟨Int.natCast_nonneg _, by rw [Int.toNat_natCast, List.getElem?_map, List.getElem?_eq_getElem h2]; rfl⟩
  (repeat' ((conv => whnf); first | refine bsplit (fun _ => ?_) (fun _ => ?_) | refine adraw ?_ | refine leave ?_ | refine acall (ref14_Same ((a[k]?).getD ev000) ((b[k]?).getD ev000)) ?_ | refine dcall (ref14_Same ((a[k]?).getD ev000) ((b[k]?).getD ev000)) ?_ | refine GCall.sym _ (fun hg => PC.own (ref14_Same ((a[k]?).getD ev000) ((b[k]?).getD ev000))) ?_ | refine And.intro (by first | assumption | omega | (simp; omega)) ?_)) <;> (try (conv => whnf))
  · rename_i h2
    rw [hla, hlb] at h2
    simp only [Bool.cond_false_right, Bool.and_eq_true, decide_eq_true_eq] at h2
    obtain ⟨⟨g1, g2⟩, g3⟩ := h2
    have k1 : k < a.length := by omega
    have k2 : k < b.length := by omega
    obtain ⟨x, hx⟩ := getx a k1
    obtain ⟨y, hy⟩ := getx b k2
    rw [hx, hy] at g3
    rw [drop_cons hx, drop_cons hy] at hR
    have g4 : evEq x y = true := g3
    simp only [commonN, g4, if_true] at hR
    exact ⟨⟨k + 1, by omega, by omega, by rw [hR]; omega⟩, by show a.length - (k + 1) < a.length - k; omega, (.same (subE_append ⟨i64_inj (wrap_add k1 (by omega)), trivial⟩ (by repeat' (first | exact trivial | refine ⟨rfl, ?_⟩))) rfl)⟩
  · rename_i h2
    rw [hla, hlb] at h2
    have h0 : commonN (a.drop k) (b.drop k) = 0 := by
      by_cases k1 : k < a.length
      · by_cases k2 : k < b.length
        · obtain ⟨x, hx⟩ := getx a k1
          obtain ⟨y, hy⟩ := getx b k2
          rw [hx, hy] at h2
          have d1 : decide ((k : Int) < (a.length : Int)) = true := by simp; omega
          have d2 : decide ((k : Int) < (b.length : Int)) = true := by simp; omega
          rw [d1, d2] at h2
          have g4 : evEq x y = false := h2
          rw [drop_cons hx, drop_cons hy]
          simp [commonN, g4]
        · have : k = b.length := by omega
          rw [this, List.drop_length]
          cases a.drop b.length <;> rfl
      · have : k = a.length := by omega
        rw [this, List.drop_length]; rfl
    rw [hR, h0]
    exact ⟨rfl⟩

theorem ref15_Same (a b : List Ev) : PCall PP 17 [FE a, FE b] (B1 (eqL evEq a b)) := by
  refine pcall_of TTok Try.func17 rfl rfl rfl rfl rfl rfl (fun hfit => ?_)
  have hla : (a.map Ev.enc).length = a.length := List.length_map _
  have hlb : (b.map Ev.enc).length = b.length := List.length_map _
  (repeat' ((conv => whnf); first | refine bsplit (fun _ => ?_) (fun _ => ?_) | refine adraw ?_ | refine leave ?_ | refine acall (ref15_Common a b) ?_ | refine dcall (ref15_Common a b) ?_ | refine GCall.sym _ (fun hg => PC.own (ref15_Common a b)) ?_ | refine And.intro (by first | assumption | omega | (simp; omega)) ?_)) <;> (try (conv => whnf))
  refine ⟨b1_inj ?_⟩
  rw [hla, hlb, Bool.cond_false_right]
  cases hd : ((a.length : Int) == (b.length : Int)) with
  | true =>
    have h2 : a.length = b.length := by simp at hd; omega
    rw [← common_eqL a b h2, Bool.true_and, Bool.eq_iff_iff]
    simp only [beq_iff_eq]
    omega
  | false =>
    have h2 : a.length ≠ b.length := by simp at hd; omega
    rw [eqL_len h2]; rfl

/-! ### Updates that wait -/
def askEq (a b : Ask) : Bool := a.op == b.op && decide (a.name = b.name) && sameV a.value b.value
theorem askEq_self (a : Ask) : askEq a a = true := by simp [askEq, sameV_self]
theorem plain_SameAsks1 (a b : Ask) : PCall PP 102 [fv a.enc, fv b.enc] (B1 (askEq a b)) := by
  refine pcall_of TTok Try.func102 rfl rfl rfl rfl rfl rfl (fun hfit => ?_)
  (repeat' ((conv => whnf); first | refine bsplit (fun _ => ?_) (fun _ => ?_) | refine adraw ?_ | refine leave ?_ | refine acall (ref05_Same a.value b.value) ?_ | refine dcall (ref05_Same a.value b.value) ?_ | refine GCall.sym _ (fun hg => PC.own (ref05_Same a.value b.value)) ?_ | refine And.intro (by first | assumption | omega | (simp; omega)) ?_)) <;> (try (conv => whnf))
  refine ⟨b1_inj ?_⟩
  simp only [Bool.cond_false_right]
  rfl

theorem asks_EqualFunc (g : Nat) (p : Ask → Ask → Bool) (a b : List Ask) (hp : ∀ x y, PCall PP g [fv x.enc, fv y.enc] (B1 (p x y))) :
    PCall PP 101 [FA a, FA b, .clo g []] (B1 (eqL p a b)) := by
  refine pcall_of TTok Try.func101 rfl rfl rfl rfl rfl rfl (fun hfit => ?_)
  have hb : a.length * 88 ≤ 140737488355328 := fit_rows (show FitF _ from hfit.1)
  have hla : (a.map Ask.enc).length = a.length := List.length_map _
  have hlb : (b.map Ask.enc).length = b.length := List.length_map _
  (repeat' ((conv => whnf); first | refine bsplit (fun _ => ?_) (fun _ => ?_) | refine adraw ?_ | refine leave ?_ | refine And.intro (by first | assumption | omega | (simp; omega)) ?_)) <;> (try (conv => whnf))
  · rename_i h
    rw [hla, hlb] at h
    exact ⟨b1_inj (eqL_len (by simp at h; omega)).symm⟩
  rename_i h
  rw [hla, hlb] at h
  have hlen : a.length = b.length := by simp at h; omega
  refine aloopK [1, 2, 15, 16] (fun k : Nat => [(17, I64 k)]) (fun _ => _) (fun k => a.length - k) (fun k => k ≤ a.length ∧ eqL p a b = eqL p (a.drop k) (b.drop k)) 0 ⟨by omega, rfl⟩ ⟨rfl, trivial⟩ rfl ?_
  conv => whnf
  rintro k ⟨hk, hR⟩
  (repeat' ((conv => whnf); first | refine bsplit (fun _ => ?_) (fun _ => ?_) | refine adraw ?_ | refine leave ?_ | refine And.intro (by first | assumption | omega | (simp; omega)) ?_)) <;> (try (conv => whnf))
  · rename_i h1
    rw [hla] at h1
    have hk2 := ltx h1
    obtain ⟨x, hx⟩ := getx a hk2
    obtain ⟨y, hy⟩ := getx b (k := k) (by omega)
    rw [eqL_drop hx hy] at hR
    refine aidx rfl hx ?_
    conv => whnf
    refine aidx rfl hy ?_
    (repeat' ((conv => whnf); first | refine bsplit (fun _ => ?_) (fun _ => ?_) | refine adraw ?_ | refine leave ?_ | refine acall (hp x y) ?_ | refine dcall (hp x y) ?_ | refine GCall.sym _ (fun hg => PC.own (hp x y)) ?_ | refine And.intro (by first | assumption | omega | (simp; omega)) ?_)) <;> (try (conv => whnf))
    · rename_i h2
      refine ⟨b1_inj ?_⟩
      have : p x y = false := by simpa using h2
      rw [hR, this, Bool.false_and]
    · rename_i h2
      have : p x y = true := by simpa using h2
      rw [this, Bool.true_and] at hR
      exact ⟨⟨k + 1, by omega, hR⟩, by show a.length - (k + 1) < a.length - k; omega, (.trunc [_, _] (subE_append ⟨i64_inj (wrap_add hk2 (by omega)), trivial⟩ (by repeat' (first | exact trivial | refine ⟨rfl, ?_⟩))) rfl rfl rfl rfl)⟩
  · rename_i h1
    rw [hla] at h1
    have hk2 := gex hk h1
    exact ⟨b1_inj (by rw [hR, eqL_end hk2 hlen])⟩

theorem plain_SameAsks (a b : List Ask) : PCall PP 45 [FA a, FA b] (B1 (eqL askEq a b)) := by
  refine pcall_of TTok Try.func45 rfl rfl rfl rfl rfl rfl (fun hfit => ?_)
  (repeat' ((conv => whnf); first | refine bsplit (fun _ => ?_) (fun _ => ?_) | refine adraw ?_ | refine leave ?_ | refine acall (asks_EqualFunc _ askEq a b plain_SameAsks1) ?_ | refine dcall (asks_EqualFunc _ askEq a b plain_SameAsks1) ?_ | refine GCall.sym _ (fun hg => PC.own (asks_EqualFunc _ askEq a b plain_SameAsks1)) ?_ | refine And.intro (by first | assumption | omega | (simp; omega)) ?_)) <;> (try (conv => whnf))
  exact ⟨rfl⟩

end Go.AW

/- Commands: the law CommandFirst. -/
namespace Go.AW
open Go Go.Proofs

theorem may_last {p : Pl} {c : Cmd} (h : mayP p c false = 0) : mayP p c true = 0 := by
  unfold mayP at h ⊢
  split at h
  · cases h
  · rename_i h1
    rw [if_neg h1]
    split at h
    · cases h
    · rename_i h2
      have h3 : cmCloses c.kind = false := by simpa using h2
      rw [h3] at h ⊢
      simpa using h

theorem planGo_cons (p : Pl) (c : Cmd) (r : List Cmd) : planGo p (c :: r) = if (mayP p c r.isEmpty == 0) = true then (if (doesX p c != 0) = true then ([], [], doesX p c) else planGo (doesP p c) r) else ([], [], mayP p c r.isEmpty) := rfl
theorem go_cut : ∀ (l : List Cmd) (p : Pl) (z : Cmd), (planGo p (l ++ [z])).2.2 = 0 → ∃ p', planGo p l = (p'.events, p'.refused, 0) ∧ planGo p (l ++ [z]) = planGo p' [z]
  | [], p, z, _ => ⟨p, rfl, rfl⟩
  | c :: r, p, z, h => by
    have he : (r ++ [z]).isEmpty = false := by cases r <;> rfl
    rw [List.cons_append, planGo_cons, he] at h
    rw [List.cons_append, planGo_cons p c (r ++ [z]), he, planGo_cons]
    split at h
    · rename_i h1
      rw [if_pos h1]
      have h1' : mayP p c false = 0 := by simpa using h1
      split at h
      · rename_i h2; simp at h2; exact absurd h h2
      · rename_i h2
        obtain ⟨p', g1, g2⟩ := go_cut r (doesP p c) z h
        have h3 : (mayP p c r.isEmpty == 0) = true := by
          cases r.isEmpty with
          | true => rw [may_last h1']; rfl
          | false => exact h1
        rw [if_neg h2, if_pos h3, if_neg h2]
        exact ⟨p', g1, g2⟩
    · rename_i h1; simp at h1; exact absurd h h1

theorem go_one {p : Pl} {z : Cmd} (h : (planGo p [z]).2.2 = 0) : (∃ a, planGo p [z] = (p.events, p.refused ++ [a], 0)) ∨ ∃ e, planGo p [z] = (p.events ++ [e], p.refused, 0) := by
  simp only [planGo] at h ⊢
  split at h
  · rename_i h1
    rw [if_pos h1]
    split at h
    · rename_i h2; simp at h2; exact absurd h h2
    · rename_i h2
      rw [if_neg h2]
      have h3 : doesX p z = 0 := by simpa using h2
      unfold doesX at h3
      unfold doesP
      cases hw : wishE p z with
      | none => exact .inl ⟨_, rfl⟩
      | some e =>
        rw [hw] at h3
        simp only at h3 ⊢
        unfold doneX at h3
        unfold doneP
        split at h3
        · rename_i h4; rw [if_pos h4]; exact .inr ⟨e, rfl⟩
        · rename_i h4
          split at h3 <;> cases h3
  · rename_i h1; simp at h1; exact absurd h h1

theorem go_bad : ∀ (l : List Cmd) (p : Pl), (planGo p l).2.2 ≠ 0 → (planGo p l).1 = [] ∧ (planGo p l).2.1 = []
  | [], p, h => absurd rfl h
  | c :: r, p, h => by
    simp only [planGo] at h ⊢
    split
    · rename_i h1
      rw [if_pos h1] at h
      split
      · exact ⟨rfl, rfl⟩
      · rename_i h2
        rw [if_neg h2] at h
        exact go_bad r _ h
    · exact ⟨rfl, rfl⟩

theorem plan_first (s : St) (asks : List Ask) (l : List Cmd) (t : Int) (h0 : l ≠ []) (h12 : l.length ≤ 12) :
    ((planR s asks l t).2.2 ≠ 0 ∧ (planR s asks l t).1 = [] ∧ (planR s asks l t).2.1 = []) ∨
    ((planR s asks l t).2.2 = 0 ∧ (planR s asks (l.take (l.length - 1)) t).2.2 = 0 ∧
      (((planR s asks l t).1 = (planR s asks (l.take (l.length - 1)) t).1 ∧ ∃ a, (planR s asks l t).2.1 = (planR s asks (l.take (l.length - 1)) t).2.1 ++ [a]) ∨
       ((∃ e, (planR s asks l t).1 = (planR s asks (l.take (l.length - 1)) t).1 ++ [e]) ∧ (planR s asks l t).2.1 = (planR s asks (l.take (l.length - 1)) t).2.1))) := by
  have hd : ¬ decide ((l.length : Int) > 12) = true := by simp; omega
  have hd2 : ¬ decide (((l.take (l.length - 1)).length : Int) > 12) = true := by rw [List.length_take]; simp; omega
  unfold planR
  rw [if_neg hd, if_neg hd2]
  by_cases hx : (planGo (plan0 s asks t) l).2.2 = 0
  · right
    have hl : l.take (l.length - 1) ++ [l.getLast h0] = l := by rw [← List.dropLast_eq_take]; exact List.dropLast_concat_getLast h0
    generalize l.take (l.length - 1) = l' at *
    generalize l.getLast h0 = z at *
    subst hl
    obtain ⟨p', g1, g2⟩ := go_cut l' (plan0 s asks t) z hx
    rw [g2] at hx
    rcases go_one hx with ⟨a, g3⟩ | ⟨e, g3⟩
    · rw [g2, g3, g1]; exact ⟨rfl, rfl, .inl ⟨rfl, a, rfl⟩⟩
    · rw [g2, g3, g1]; exact ⟨rfl, rfl, .inr ⟨⟨e, rfl⟩, rfl⟩⟩
  · left
    exact ⟨hx, go_bad l _ hx⟩

theorem take_self {α β : Type} (f : α → β) (y z : List α) : List.drop (Int.toNat 0) (List.take (min ((y.map f).length : Int) (((y ++ z).map f).length : Int)).toNat ((y ++ z).map f)) = y.map f := by
  have e : (min ((y.map f).length : Int) (((y ++ z).map f).length : Int)).toNat = (y.map f).length := by
    simp only [List.length_map, List.length_append]; omega
  rw [e, List.map_append, List.take_left']
  · rfl
  · rfl

theorem take_same {α β : Type} (f : α → β) (y : List α) : List.drop (Int.toNat 0) (List.take (min ((y.map f).length : Int) ((y.map f).length : Int)).toNat (y.map f)) = y.map f := by
  have h := take_self f y []
  rw [List.append_nil] at h
  exact h

set_option maxRecDepth 100000 in
theorem law_CommandFirst (s : St) (asks : List Ask) (l : List Cmd) : PCall PP 12 [fv s.enc, FA asks, FC l] (B1 true) := by
  have hlc : (l.map Cmd.enc).length = l.length := List.length_map _
  have h1 := command_Plan s asks l s.time
  have hL := planR_len s asks l s.time
  by_cases hc : l ≠ [] ∧ l.length ≤ 12
  · obtain ⟨h0, h12⟩ := hc
    have hpos : 0 < l.length := List.length_pos_iff.2 h0
    have hlaw := plan_first s asks l s.time h0 h12
    have h2 := command_Plan s asks (l.take (l.length - 1)) s.time
    have hcut : List.drop (Int.toNat 0) (List.take (IntKind.i64.wrap (((l.map Cmd.enc).length : Int) - 1)).toNat (l.map Cmd.enc)) = (l.take (l.length - 1)).map Cmd.enc := by
      rw [hlc, IntWalk.i64_in ((l.length : Int) - 1) (by omega)]
      have e : ((l.length : Int) - 1).toNat = l.length - 1 := by omega
      rw [e, List.map_take]; rfl
    have hw : IntKind.i64.wrap (((l.map Cmd.enc).length : Int) - 1) = ((l.length - 1 : Nat) : Int) := by
      rw [hlc, IntWalk.i64_in ((l.length : Int) - 1) (by omega)]; omega
    unfold FC at h2
    rw [← hcut] at h2
    generalize planR s asks l s.time = r at *
    generalize planR s asks (l.take (l.length - 1)) s.time = r2 at *
    obtain ⟨x, p, e⟩ := r
    obtain ⟨y, q, f⟩ := r2
    simp only at hlaw hL
    rcases hlaw with ⟨he, rfl, rfl⟩ | ⟨rfl, rfl, hcase⟩
    · refine pcall_of TTok Try.func12 rfl rfl rfl rfl rfl rfl (fun hfit => ?_)
      (repeat' ((conv => whnf); first | refine bsplit (fun _ => ?_) (fun _ => ?_) | refine adraw ?_ | refine leave ?_ | refine acall (law21_few s asks l) ?_ | refine dcall (law21_few s asks l) ?_ | refine GCall.sym _ (fun hg => PC.own (law21_few s asks l)) ?_ | refine acall (law21_awake) ?_ | refine dcall (law21_awake) ?_ | refine GCall.sym _ (fun hg => PC.own (law21_awake)) ?_ | refine acall (h1) ?_ | refine dcall (h1) ?_ | refine GCall.sym _ (fun hg => PC.own (h1)) ?_ | refine acall (h2) ?_ | refine dcall (h2) ?_ | refine GCall.sym _ (fun hg => PC.own (h2)) ?_ | refine And.intro ⟨by decide, by rw [hw]; omega, by rw [hw, hlc]; omega⟩ ?_ | refine And.intro (by first | assumption | omega | (simp; omega)) ?_)) <;> (try (conv => whnf))
      · exact ⟨rfl⟩
      · exact ⟨rfl⟩
      · rename_i h
        exfalso
        simp at h
        exact he h
    · refine pcall_of TTok Try.func12 rfl rfl rfl rfl rfl rfl (fun hfit => ?_)
      rcases hcase with ⟨rfl, a, rfl⟩ | ⟨⟨ev, rfl⟩, rfl⟩
      · have s1 : PCall PP 17 [.fr (.sl 13 136 (List.drop (Int.toNat 0) (List.take (min ((x.map Ev.enc).length : Int) ((x.map Ev.enc).length : Int)).toNat (x.map Ev.enc)))), FE x] (B1 true) := by
          rw [take_same]
          have h := ref15_Same x x
          rw [eqL_self evEq_self] at h
          exact h
        have s2 : PCall PP 45 [.fr (.sl 7 88 (List.drop (Int.toNat 0) (List.take (min ((q.map Ask.enc).length : Int) (((q ++ [a]).map Ask.enc).length : Int)).toNat ((q ++ [a]).map Ask.enc)))), FA q] (B1 true) := by
          rw [take_self]
          have h := plain_SameAsks q q
          rw [eqL_self askEq_self] at h
          exact h
        (repeat' ((conv => whnf); first | refine bsplit (fun _ => ?_) (fun _ => ?_) | refine adraw ?_ | refine leave ?_ | refine acall (law21_few s asks l) ?_ | refine dcall (law21_few s asks l) ?_ | refine GCall.sym _ (fun hg => PC.own (law21_few s asks l)) ?_ | refine acall (law21_awake) ?_ | refine dcall (law21_awake) ?_ | refine GCall.sym _ (fun hg => PC.own (law21_awake)) ?_ | refine acall (h1) ?_ | refine dcall (h1) ?_ | refine GCall.sym _ (fun hg => PC.own (h1)) ?_ | refine acall (h2) ?_ | refine dcall (h2) ?_ | refine GCall.sym _ (fun hg => PC.own (h2)) ?_ | refine And.intro ⟨by decide, by rw [hw]; omega, by rw [hw, hlc]; omega⟩ ?_ | refine acall (s1) ?_ | refine dcall (s1) ?_ | refine GCall.sym _ (fun hg => PC.own (s1)) ?_ | refine acall (s2) ?_ | refine dcall (s2) ?_ | refine GCall.sym _ (fun hg => PC.own (s2)) ?_ | refine And.intro (by first | assumption | omega | (simp; omega)) ?_)) <;> (try (conv => whnf))
        · exact ⟨rfl⟩
        · refine ⟨b1_inj ?_⟩
          obtain ⟨hL1, hL2⟩ := hL
          rw [List.length_append, List.length_singleton] at hL2
          simp only [List.length_map, List.length_append, List.length_singleton]
          rw [IntWalk.i64_in ((x.length : Int) + ((q.length + 1 : Nat) : Int)) (by omega), IntWalk.i64_in ((x.length : Int) + (q.length : Int)) (by omega), IntWalk.i64_in ((x.length : Int) + (q.length : Int) + 1) (by omega)]
          have e : (((x.length : Int) + ((q.length + 1 : Nat) : Int)) == (x.length : Int) + (q.length : Int) + 1) = true := by rw [beq_iff_eq]; push_cast; omega
          rw [e]; rfl
      · have s1 : PCall PP 17 [.fr (.sl 13 136 (List.drop (Int.toNat 0) (List.take (min ((y.map Ev.enc).length : Int) (((y ++ [ev]).map Ev.enc).length : Int)).toNat ((y ++ [ev]).map Ev.enc)))), FE y] (B1 true) := by
          rw [take_self]
          have h := ref15_Same y y
          rw [eqL_self evEq_self] at h
          exact h
        have s2 : PCall PP 45 [.fr (.sl 7 88 (List.drop (Int.toNat 0) (List.take (min ((p.map Ask.enc).length : Int) ((p.map Ask.enc).length : Int)).toNat (p.map Ask.enc)))), FA p] (B1 true) := by
          rw [take_same]
          have h := plain_SameAsks p p
          rw [eqL_self askEq_self] at h
          exact h
        (repeat' ((conv => whnf); first | refine bsplit (fun _ => ?_) (fun _ => ?_) | refine adraw ?_ | refine leave ?_ | refine acall (law21_few s asks l) ?_ | refine dcall (law21_few s asks l) ?_ | refine GCall.sym _ (fun hg => PC.own (law21_few s asks l)) ?_ | refine acall (law21_awake) ?_ | refine dcall (law21_awake) ?_ | refine GCall.sym _ (fun hg => PC.own (law21_awake)) ?_ | refine acall (h1) ?_ | refine dcall (h1) ?_ | refine GCall.sym _ (fun hg => PC.own (h1)) ?_ | refine acall (h2) ?_ | refine dcall (h2) ?_ | refine GCall.sym _ (fun hg => PC.own (h2)) ?_ | refine And.intro ⟨by decide, by rw [hw]; omega, by rw [hw, hlc]; omega⟩ ?_ | refine acall (s1) ?_ | refine dcall (s1) ?_ | refine GCall.sym _ (fun hg => PC.own (s1)) ?_ | refine acall (s2) ?_ | refine dcall (s2) ?_ | refine GCall.sym _ (fun hg => PC.own (s2)) ?_ | refine And.intro (by first | assumption | omega | (simp; omega)) ?_)) <;> (try (conv => whnf))
        · exact ⟨rfl⟩
        · refine ⟨b1_inj ?_⟩
          obtain ⟨hL1, hL2⟩ := hL
          rw [List.length_append, List.length_singleton] at hL1
          simp only [List.length_map, List.length_append, List.length_singleton]
          rw [IntWalk.i64_in (((y.length + 1 : Nat) : Int) + (p.length : Int)) (by omega), IntWalk.i64_in ((y.length : Int) + (p.length : Int)) (by omega), IntWalk.i64_in ((y.length : Int) + (p.length : Int) + 1) (by omega)]
          have e : ((((y.length + 1 : Nat) : Int) + (p.length : Int)) == (y.length : Int) + (p.length : Int) + 1) = true := by rw [beq_iff_eq]; push_cast; omega
          rw [e]; rfl
  · refine pcall_of TTok Try.func12 rfl rfl rfl rfl rfl rfl (fun hfit => ?_)
    (repeat' ((conv => whnf); first | refine bsplit (fun _ => ?_) (fun _ => ?_) | refine adraw ?_ | refine leave ?_ | refine acall (law21_few s asks l) ?_ | refine dcall (law21_few s asks l) ?_ | refine GCall.sym _ (fun hg => PC.own (law21_few s asks l)) ?_ | refine acall (law21_awake) ?_ | refine dcall (law21_awake) ?_ | refine GCall.sym _ (fun hg => PC.own (law21_awake)) ?_ | refine And.intro (by first | assumption | omega | (simp; omega)) ?_)) <;> (try (conv => whnf))
    · exact ⟨rfl⟩
    · rename_i h
      exfalso
      rw [hlc] at h
      apply hc
      cases hf : few21 s asks l <;> rw [hf] at h
      · cases h
      · have h' : (bif ((l.length : Int) == 0) then true else decide ((l.length : Int) > 12)) = false := h
        simp at h'
        exact ⟨h'.1, by omega⟩

end Go.AW

