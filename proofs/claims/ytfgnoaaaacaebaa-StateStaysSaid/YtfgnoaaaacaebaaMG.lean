/- States that can be: an event keeps them so. -/
import Derived.Test.YtfgnoaaaacaebaaMF
namespace Go.AW
open Go Go.Proofs

theorem less_irr : ∀ x : List UInt8, Op.bytesLess x x = false
  | [] => rfl
  | a :: x => by simp [Op.bytesLess, less_irr x]
theorem less_tr : ∀ x y z : List UInt8, Op.bytesLess x y = true → Op.bytesLess y z = true → Op.bytesLess x z = true
  | [], [], _, h, _ => by simp [Op.bytesLess] at h
  | [], _ :: _, [], _, h => by simp [Op.bytesLess] at h
  | [], _ :: _, _ :: _, _, _ => by simp [Op.bytesLess]
  | _ :: _, [], _, h, _ => by simp [Op.bytesLess] at h
  | _ :: _, _ :: _, [], _, h => by simp [Op.bytesLess] at h
  | a :: x, b :: y, c :: z, h, k => by
    simp only [Op.bytesLess, Bool.or_eq_true, Bool.and_eq_true, decide_eq_true_eq, beq_iff_eq] at h k ⊢
    rcases h with h | ⟨rfl, h⟩
    · rcases k with k | ⟨rfl, k⟩
      · exact .inl (UInt8.lt_trans h k)
      · exact .inl h
    · rcases k with k | ⟨rfl, k⟩
      · exact .inl k
      · exact .inr ⟨rfl, less_tr x y z h k⟩
theorem sless_irr (a : ByteArray) : sless a a = false := less_irr _
theorem sless_tr {a b c : ByteArray} (h : sless a b = true) (k : sless b c = true) : sless a c = true := less_tr _ _ _ h k
theorem sless_ne {a b : ByteArray} (h : sless a b = true) : a ≠ b := fun e => by subst e; rw [sless_irr] at h; cases h
theorem sless_asym {a b : ByteArray} (h : sless a b = true) : sless b a = false := by
  cases hb : sless b a with
  | false => rfl
  | true => have := sless_tr h hb; rw [sless_irr] at this; cases this
/-- Not behind: ahead. -/
theorem sless_of {a b : ByteArray} (h : (sless a b || decide (a = b)) = false) : sless b a = true := by
  rw [sless_total' b a, h]; rfl
theorem not_le {a b : ByteArray} (h : sless b a = true) : (sless a b || decide (a = b)) = false := by
  rw [sless_asym h]; simp [Ne.symm (sless_ne h)]

/-! ### Lists in their names' order -/
/-- Each good, each behind the one ahead. -/
def chain {α : Type} (nm : α → ByteArray) (ok : α → Bool) : ByteArray → List α → Bool
  | _, [] => true
  | last, x :: r => ok x && sless last (nm x) && chain nm ok (nm x) r

section
variable {α : Type} {nm : α → ByteArray} {ok : α → Bool}
theorem chain_weak {a b : ByteArray} {l : List α} (h : chain nm ok b l = true) (hab : sless a b = true) : chain nm ok a l = true := by
  cases l with
  | nil => rfl
  | cons x r =>
    simp only [chain, Bool.and_eq_true] at h ⊢
    exact ⟨⟨h.1.1, sless_tr hab h.1.2⟩, h.2⟩

theorem chain_ins (t : α) : ∀ (l : List α) (last : ByteArray), chain nm ok last l = true → ok t = true → sless last (nm t) = true → (∀ x ∈ l, nm x ≠ nm t) → chain nm ok last (l.take (idxN (fun x => !sless (nm x) (nm t)) l) ++ t :: l.drop (idxN (fun x => !sless (nm x) (nm t)) l)) = true
  | [], last, _, ht, hl, _ => by simp [chain, idxN, ht, hl]
  | x :: r, last, h, ht, hl, hn => by
    simp only [chain, Bool.and_eq_true] at h
    cases hx : sless (nm x) (nm t) with
    | true =>
      simp only [idxN, hx, Bool.not_true, Bool.false_eq_true, if_false, List.take_succ_cons, List.drop_succ_cons, List.cons_append, chain, Bool.and_eq_true]
      exact ⟨h.1, chain_ins t r (nm x) h.2 ht hx fun y hy => hn y (List.mem_cons_of_mem _ hy)⟩
    | false =>
      simp only [idxN, hx, Bool.not_false, if_true, List.take_zero, List.drop_zero, List.nil_append, chain, Bool.and_eq_true]
      refine ⟨⟨ht, hl⟩, ⟨h.1.1, ?_⟩, h.2⟩
      exact sless_of (by rw [hx]; simp [hn x List.mem_cons_self])

theorem chain_del : ∀ (l : List α) (i : Nat) (last : ByteArray), chain nm ok last l = true → chain nm ok last (l.take i ++ l.drop (i + 1)) = true
  | [], i, last, _ => by simp [chain]
  | x :: r, 0, last, h => by
    simp only [chain, Bool.and_eq_true] at h
    simpa using chain_weak h.2 h.1.2
  | x :: r, i + 1, last, h => by
    simp only [chain, Bool.and_eq_true] at h
    simp only [List.take_succ_cons, List.drop_succ_cons, List.cons_append, chain, Bool.and_eq_true]
    exact ⟨h.1, chain_del r i (nm x) h.2⟩

theorem chain_set : ∀ (l : List α) (i : Nat) (last : ByteArray) (x y : α), chain nm ok last l = true → l[i]? = some x → nm y = nm x → ok y = true → chain nm ok last (l.set i y) = true
  | [], i, last, x, y, _, h, _, _ => by simp at h
  | z :: r, 0, last, x, y, h, hx, hn, ho => by
    simp at hx; subst hx
    simp only [chain, Bool.and_eq_true] at h
    simp only [List.set_cons_zero, chain, Bool.and_eq_true, hn]
    exact ⟨⟨ho, h.1.2⟩, h.2⟩
  | z :: r, i + 1, last, x, y, h, hx, hn, ho => by
    simp only [chain, Bool.and_eq_true] at h
    simp only [List.set_cons_succ, chain, Bool.and_eq_true]
    exact ⟨h.1, chain_set r i (nm z) x y h.2 (by simpa using hx) hn ho⟩
end

def timOk (t : Tim) : Bool := nameOk t.name && within t.due 0 2199023255552
def updOk (u : Upd) : Bool := nameOk u.name && okV u.value == 0 && okV u.outcome == 0 && !updBad2 u
theorem timersGo_chain : ∀ (l : List Tim) (last : ByteArray), timersGo last l = chain Tim.name timOk last l
  | [], _ => rfl
  | t :: r, last => by
    simp only [timersGo, chain, timersGo_chain r]
    have e : sless last t.name = !(sless t.name last || decide (t.name = last)) := sless_total' last t.name
    rw [e]
    unfold timBad timOk
    cases nameOk t.name <;> cases within t.due 0 2199023255552 <;> cases sless t.name last || decide (t.name = last) <;> simp
theorem updatesGo_chain : ∀ (l : List Upd) (last : ByteArray), updatesGo last l = chain Upd.name updOk last l
  | [], _ => rfl
  | u :: r, last => by
    simp only [updatesGo, chain, updatesGo_chain r]
    have e : sless last u.name = !(sless u.name last || decide (u.name = last)) := sless_total' last u.name
    rw [e]
    unfold updBad1 updOk
    have e1 : (okV u.value != 0) = !(okV u.value == 0) := rfl
    have e2 : (okV u.outcome != 0) = !(okV u.outcome == 0) := rfl
    rw [e1, e2]
    cases nameOk u.name <;> cases okV u.value == 0 <;> cases okV u.outcome == 0 <;> cases updBad2 u <;> cases sless u.name last || decide (u.name = last) <;> simp
theorem name_pos {s : ByteArray} (h : nameOk s = true) : sless ⟨#[]⟩ s = true := by
  rw [sless_total]
  unfold nameOk at h
  simp only [Bool.and_eq_true, Bool.not_eq_true', Bool.or_eq_false_iff, decide_eq_false_iff_not] at h
  rw [sless_none]
  simp [Ne.symm h.1.1]

end Go.AW

/- States that can be: what an event makes of them. -/
namespace Go.AW
open Go Go.Proofs

structure CanS (s : St) : Prop where
  run : 1 ≤ s.run ∧ s.run ≤ 10
  from_ : 0 ≤ s.from_ ∧ s.from_ ≤ 10
  status : 1 ≤ s.status ∧ s.status ≤ 6
  count : 1 ≤ s.count ∧ s.count ≤ 120
  signals : 0 ≤ s.signals ∧ s.signals ≤ s.count
  time : 0 ≤ s.time ∧ s.time ≤ 1099511627776
  deadline : 0 ≤ s.deadline ∧ s.deadline ≤ 2199023255552
  type : nameOk s.type = true
  input : okV s.input = 0
  policy : polOk s.policy = 0
  task : tskOk s = true
  timers : chain Tim.name timOk ⟨#[]⟩ s.timers = true
  tlen : (s.timers.length : Int) ≤ 10
  updates : chain Upd.name updOk ⟨#[]⟩ s.updates = true
  ulen : (s.updates.length : Int) ≤ 10
  result : okV s.result = 0
  reason : (s.reason.size : Int) ≤ 200
  res : s.status = 2 ∨ sameV s.result Val.zero = true
  rea : s.status = 3 ∨ s.status = 5 ∨ s.reason = ⟨#[]⟩
  rest : s.status = 1 ∨ (s.task.state = 0 ∧ s.timers = [])

theorem within_iff (n l h : Int) : within n l h = true ↔ l ≤ n ∧ n ≤ h := by simp [within]

theorem canSt_iff (s : St) : canSt s = true ↔ CanS s := by
  constructor
  · intro h
    simp only [canSt, numbersOk, partsOk, timersOk, updatesOk, Bool.and_eq_true, within_iff, beq_iff_eq, decide_eq_true_eq, timersGo_chain, updatesGo_chain] at h
    obtain ⟨⟨⟨⟨⟨h1, h2⟩, h3⟩, h4⟩, h5⟩, h6⟩ := h
    have h7 : okV s.result = 0 ∧ (s.reason.size : Int) ≤ 200 ∧ (s.status = 2 ∨ sameV s.result Val.zero = true) ∧ (s.status = 3 ∨ s.status = 5 ∨ s.reason = ⟨#[]⟩) ∧ (s.status = 1 ∨ (s.task.state = 0 ∧ s.timers = [])) := by
      unfold endedOk at h6
      split at h6
      · cases h6
      · rename_i a1
        split at h6
        · cases h6
        · rename_i a2
          split at h6
          · cases h6
          · rename_i a3
            simp at a1 a2 a3 h6
            refine ⟨a1.1, a1.2, ?_, ?_, ?_⟩
            · by_cases hs : s.status = 2
              · exact .inl hs
              · exact .inr (a2 hs)
            · by_cases hs : s.status = 3
              · exact .inl hs
              · by_cases hs2 : s.status = 5
                · exact .inr (.inl hs2)
                · exact .inr (.inr (a3 hs hs2))
            · exact h6
    exact ⟨h1.1.1.1, h1.1.1.2, h1.1.2, h1.2.1.1.1, h1.2.1.1.2, h1.2.1.2, h1.2.2, h2.1.1, h2.1.2, h2.2, h3, h4.1, h4.2, h5.1, h5.2, h7.1, h7.2.1, h7.2.2.1, h7.2.2.2.1, h7.2.2.2.2⟩
  · intro h
    have h6 : endedOk s = true := by
      unfold endedOk
      rw [if_neg (by simp [h.result, h.reason]), if_neg (by rcases h.res with h | h <;> simp [h]), if_neg (by rcases h.rea with h | h | h <;> simp [h])]
      rcases h.rest with h | ⟨h, k⟩
      · simp [h]
      · simp [h, k]
    simp only [canSt, numbersOk, partsOk, timersOk, updatesOk, Bool.and_eq_true, within_iff, beq_iff_eq, decide_eq_true_eq, timersGo_chain, updatesGo_chain]
    exact ⟨⟨⟨⟨⟨⟨⟨⟨h.run, h.from_⟩, h.status⟩, ⟨⟨⟨h.count, h.signals⟩, h.time⟩, h.deadline⟩⟩, ⟨h.type, h.input⟩, h.policy⟩, h.task⟩, h.timers, h.tlen⟩, h.updates, h.ulen⟩, h6⟩

structure EvF (e : Ev) : Prop where
  kind : 1 ≤ e.kind ∧ e.kind ≤ 19
  time : 0 ≤ e.time ∧ e.time ≤ 1099511627776
  att : attemptOk e = true
  wrd : wordsOk e = true
  due : 0 ≤ e.due ∧ e.due ≤ 2199023255552
  val : okV e.value = 0
  valz : bitE e.kind 16 = 0 → sameV e.value Val.zero = true
  pol : bitE e.kind 32 ≠ 0 → polOk e.policy = 0

theorem evF_of {e : Ev} (h : evOk e = 0) : EvF e := by
  unfold evOk at h
  split at h
  · cases h
  · rename_i h1
    simp only [Bool.or_eq_true, not_or, Bool.not_eq_true, evName_none, Bool.not_eq_false', Bool.and_eq_true, decide_eq_true_eq, decide_eq_false_iff_not, Bool.not_eq_false] at h1
    obtain ⟨⟨⟨⟨⟨h2, h3⟩, h4⟩, h5⟩, h6⟩, h7⟩ := h1
    unfold restOk at h7
    split at h7
    · cases h7
    · rename_i g1
      split at h7
      · cases h7
      · rename_i g2
        simp at g1 g2
        refine ⟨by simpa using h2, by omega, h5, h6, by omega, g2.2, fun hz => g2.1 hz, fun hz => ?_⟩
        rw [if_neg (by simpa using hz)] at h7
        simpa using h7

end Go.AW

/- States that can be: a step from one comes to one. -/
namespace Go.AW
open Go Go.Proofs

theorem may_of {s : St} {e : Ev} (h : maySt s e = 0) : EvF e ∧ s.count < 120 ∧ (e.kind = 1 → s.count = 0) ∧ (e.kind ≠ 1 → s.count ≠ 0 ∧ s.status = 1) ∧ s.time ≤ e.time := by
  unfold maySt at h
  split at h
  · cases h
  · rename_i h1
    split at h
    · cases h
    · rename_i h2
      split at h
      · cases h
      · rename_i h3
        split at h
        · cases h
        · rename_i h4
          split at h
          · cases h
          · rename_i h5
            simp at h1 h2 h3 h4 h5
            exact ⟨evF_of h1, h2, h3, h4, h5⟩

def tick (s : St) (e : Ev) : St := { s with count := s.count + 1, time := e.time }

theorem turn_count (s : St) (e : Ev) : (turnSt s e).count = s.count := by
  simp only [turnSt, startedSt, scheduledSt, takenSt, goneSt, toldSt, timerSt, offSt, accSt, outSt, closedSt, apply_ite St.count, ite_self]

theorem stepSt_tick {s : St} {e : Ev} (hm : maySt s e = 0) (hx : turnX s e = 0) (h0 : 0 ≤ s.count) (h1 : s.count < 120) : stepSt s e = tick (turnSt s e) e := by
  unfold stepSt tick
  rw [hm, hx, turn_count, IntWalk.i64_in _ (by omega)]
  simp

theorem stepX_zero {s : St} {e : Ev} (h : stepX s e = 0) : maySt s e = 0 ∧ turnX s e = 0 := by
  unfold stepX at h
  split at h
  · rename_i h1; simp at h1; exact absurd h h1
  · rename_i h1
    split at h
    · rename_i h2; simp at h2; exact absurd h h2
    · rename_i h2; simp at h1 h2; exact ⟨h1, h2⟩

theorem tsk_more {s : St} {n : Int} (h : tskOk s = true) (hn : s.count ≤ n) : tskOk { s with count := n } = true := by
  unfold tskOk at h ⊢
  simp only at h ⊢
  split
  · rename_i g1; rw [if_pos g1] at h; exact h
  · rename_i g1
    rw [if_neg g1] at h
    split
    · rename_i g2; rw [if_pos g2] at h; exact h
    · rename_i g2
      rw [if_neg g2] at h
      split
      · rename_i g3
        rw [if_pos g3] at h
        split at h
        · cases h
        · rename_i g4
          rw [if_neg]
          · exact h
          · simp only [Bool.or_eq_true, Bool.not_eq_true', not_or, Bool.not_eq_false, within_iff] at g4 ⊢
            exact ⟨⟨g4.1.1, by omega⟩, g4.2⟩
      · rename_i g3; rw [if_neg g3] at h; exact h

theorem tick_can {s : St} {e : Ev} (h : CanS s) (hc : s.count < 120) (ht : s.time ≤ e.time) (he : e.time ≤ 1099511627776) : CanS (tick s e) :=
  ⟨h.run, h.from_, h.status, by have := h.count; simp only [tick]; omega, by have := h.signals; simp only [tick]; omega, by have := h.time; simp only [tick]; omega, h.deadline, h.type, h.input, h.policy, (show tskOk { s with count := s.count + 1 } = true from tsk_more h.task (by omega)), h.timers, h.tlen, h.updates, h.ulen, h.result, h.reason, h.res, h.rea, h.rest⟩

/-! ### One after the other -/
theorem can_task {s : St} {t : Tsk} (h : CanS s) (h1 : s.status = 1) (ht : tskOk { s with task := t } = true) : CanS { s with task := t } :=
  ⟨h.run, h.from_, h.status, h.count, h.signals, h.time, h.deadline, h.type, h.input, h.policy, ht, h.timers, h.tlen, h.updates, h.ulen, h.result, h.reason, h.res, h.rea, .inl h1⟩
theorem can_fresh {s : St} {b : Bool} (h : CanS s) : CanS { s with fresh := b } :=
  ⟨h.run, h.from_, h.status, h.count, h.signals, h.time, h.deadline, h.type, h.input, h.policy, h.task, h.timers, h.tlen, h.updates, h.ulen, h.result, h.reason, h.res, h.rea, h.rest⟩
theorem can_cancel {s : St} {b : Bool} (h : CanS s) : CanS { s with cancel := b } :=
  ⟨h.run, h.from_, h.status, h.count, h.signals, h.time, h.deadline, h.type, h.input, h.policy, h.task, h.timers, h.tlen, h.updates, h.ulen, h.result, h.reason, h.res, h.rea, h.rest⟩
theorem can_from {s : St} {n : Int} (h : CanS s) (hn : 0 ≤ n ∧ n ≤ 10) : CanS { s with from_ := n } :=
  ⟨h.run, hn, h.status, h.count, h.signals, h.time, h.deadline, h.type, h.input, h.policy, h.task, h.timers, h.tlen, h.updates, h.ulen, h.result, h.reason, h.res, h.rea, h.rest⟩
theorem can_signals {s : St} {n : Int} (h : CanS s) (hn : 0 ≤ n ∧ n ≤ s.count) : CanS { s with signals := n } :=
  ⟨h.run, h.from_, h.status, h.count, hn, h.time, h.deadline, h.type, h.input, h.policy, h.task, h.timers, h.tlen, h.updates, h.ulen, h.result, h.reason, h.res, h.rea, h.rest⟩
theorem can_timers {s : St} {l : List Tim} (h : CanS s) (h1 : s.status = 1) (hl : chain Tim.name timOk ⟨#[]⟩ l = true) (hn : (l.length : Int) ≤ 10) : CanS { s with timers := l } :=
  ⟨h.run, h.from_, h.status, h.count, h.signals, h.time, h.deadline, h.type, h.input, h.policy, h.task, hl, hn, h.updates, h.ulen, h.result, h.reason, h.res, h.rea, .inl h1⟩
theorem can_updates {s : St} {l : List Upd} (h : CanS s) (hl : chain Upd.name updOk ⟨#[]⟩ l = true) (hn : (l.length : Int) ≤ 10) : CanS { s with updates := l } :=
  ⟨h.run, h.from_, h.status, h.count, h.signals, h.time, h.deadline, h.type, h.input, h.policy, h.task, h.timers, h.tlen, hl, hn, h.result, h.reason, h.res, h.rea, h.rest⟩

end Go.AW

/- States that can be: every event. -/
namespace Go.AW
open Go Go.Proofs

theorem att2 {e : Ev} (hk : e.kind = 2) (h : attemptOk e = true) : 1 ≤ e.num ∧ e.num ≤ 2147483648 := by
  unfold attemptOk at h
  rw [hk, show bitE 2 1 = 1 by decide +kernel] at h
  simpa using h
theorem att5 {e : Ev} (hk : e.kind = 5) (h : attemptOk e = true) : 0 ≤ e.num ∧ e.num ≤ 10 := by
  unfold attemptOk at h
  rw [hk, show bitE 5 1 = 1 by decide +kernel] at h
  simpa using h
theorem wrd_name {e : Ev} (hk : bitE e.kind 4 ≠ 0) (h : wordsOk e = true) : nameOk e.name = true := by
  unfold wordsOk at h
  rw [if_pos (by simpa using hk)] at h
  exact h
theorem wrd_text {e : Ev} (hk : bitE e.kind 4 = 0) (hk2 : bitE e.kind 8 ≠ 0) (h : wordsOk e = true) : (e.name.size : Int) ≤ 200 := by
  unfold wordsOk at h
  rw [if_neg (by simpa using hk), if_pos (by simpa using hk2)] at h
  simpa using h
theorem wrd_none {e : Ev} (hk : bitE e.kind 4 = 0) (hk2 : bitE e.kind 8 = 0) (h : wordsOk e = true) : e.name = ⟨#[]⟩ := by
  unfold wordsOk at h
  rw [if_neg (by simpa using hk), if_neg (by simpa using hk2)] at h
  simpa using h

theorem tsk_zero (s : St) : tskOk { s with task := ⟨0, 0, 0, 0, 0⟩ } = true := by simp [tskOk, tskNone]

section
variable {s : St} {e : Ev}
theorem step2 (h : CanS (tick s e)) (he : EvF e) (h1 : s.status = 1) (hk : e.kind = 2) (hx : turnX s e = 0) : CanS (tick (turnSt s e) e) := by
  have e1 : turnSt s e = scheduledSt s e := by unfold turnSt; rw [hk]; simp
  have e2 : turnX s e = if (s.task.state != 0) = true then 20 else 0 := by unfold turnX; rw [hk]; simp
  rw [e1]
  rw [e2] at hx
  have h0 : (s.task.state != 0) = false := by cases hb : s.task.state != 0 with | false => rfl | true => rw [hb] at hx; simp at hx
  unfold scheduledSt
  rw [h0]
  have ha := att2 hk he.att
  refine can_task (s := tick s e) (t := ⟨1, e.num, e.due, 0, 0⟩) h h1 ?_
  simp [tskOk, tskRest, within_iff, ha, he.due]
theorem step3 (h : CanS (tick s e)) (h0 : 0 ≤ s.count) (hc : s.count < 120) (he : EvF e) (h1 : s.status = 1) (hk : e.kind = 3) (hx : turnX s e = 0) : CanS (tick (turnSt s e) e) := by
  have e1 : turnSt s e = takenSt s e := by unfold turnSt; rw [hk]; simp
  have e2 : turnX s e = if (s.task.state != 1) = true then 20 else 0 := by unfold turnX; rw [hk]; simp
  rw [e1]
  rw [e2] at hx
  have h2 : (s.task.state != 1) = false := by cases hb : s.task.state != 1 with | false => rfl | true => rw [hb] at hx; simp at hx
  unfold takenSt
  rw [h2]
  have h3 : s.task.state = 1 := by simpa using h2
  have ht := h.task
  have ht2 : 1 ≤ s.task.attempt ∧ s.task.attempt ≤ 2147483648 := by
    unfold tskOk at ht
    have h4 : (tick s e).task.state = 1 := h3
    rw [h4] at ht
    simp only [show ((1 : Int) == 0) = false by decide, Bool.false_eq_true, if_false, show ((1 : Int) == 1) = true by decide, if_true] at ht
    split at ht
    · cases ht
    · simp only [tskRest, Bool.and_eq_true, within_iff] at ht; exact ht.1
  refine can_fresh (s := { tick s e with task := ⟨2, s.task.attempt, e.due, IntKind.i64.wrap (s.count + 1), IntKind.i64.wrap (s.count + 1)⟩ }) (b := false) (can_task h h1 ?_)
  rw [IntWalk.i64_in _ (by omega)]
  have h5 : (tick s e).count = s.count + 1 := rfl
  simp [tskOk, tskRest, within_iff, ht2, he.due, h5]
  omega
theorem step456 (h : CanS (tick s e)) (he : EvF e) (h1 : s.status = 1) (hk : e.kind = 4 ∨ e.kind = 5 ∨ e.kind = 6) (hx : turnX s e = 0) : CanS (tick (turnSt s e) e) := by
  have e1 : turnSt s e = goneSt s e := by unfold turnSt; rcases hk with hk | hk | hk <;> rw [hk] <;> simp
  have e2 : turnX s e = if goneBad s e = true then 20 else 0 := by unfold turnX; rcases hk with hk | hk | hk <;> rw [hk] <;> simp
  rw [e1]
  rw [e2] at hx
  have h0 : goneBad s e = false := by cases hb : goneBad s e with | false => rfl | true => rw [hb] at hx; simp at hx
  unfold goneSt
  rw [h0]
  simp only [Bool.false_eq_true, if_false]
  have hz : CanS { tick s e with task := ⟨0, 0, 0, 0, 0⟩ } := can_task h h1 (tsk_zero _)
  split
  · rename_i h5
    simp at h5
    exact can_from (s := { tick s e with task := ⟨0, 0, 0, 0, 0⟩ }) hz (att5 h5.1 he.att)
  · exact hz
theorem step78 (h : CanS (tick s e)) (h0 : 0 ≤ s.signals ∧ s.signals ≤ s.count) (hc : s.count < 120) (hk : e.kind = 7 ∨ e.kind = 8) (hx : turnX s e = 0) : CanS (tick (turnSt s e) e) := by
  have e1 : turnSt s e = toldSt s e := by unfold turnSt; rcases hk with hk | hk <;> rw [hk] <;> simp
  rw [e1]
  unfold toldSt
  rcases hk with hk | hk
  · rw [hk]
    simp only [show ((7 : Int) == 8) = false by decide, Bool.false_eq_true, if_false]
    rw [IntWalk.i64_in _ (by omega)]
    exact can_fresh (s := { tick s e with signals := s.signals + 1 }) (can_signals h (by show 0 ≤ s.signals + 1 ∧ s.signals + 1 ≤ s.count + 1; omega))
  · have e2 : turnX s e = if s.cancel = true then 20 else 0 := by unfold turnX; rw [hk]; simp
    rw [e2] at hx
    have hcn : s.cancel = false := by cases hb : s.cancel with | false => rfl | true => rw [hb] at hx; simp at hx
    rw [hk, hcn]
    simp only [show ((8 : Int) == 8) = true by decide, if_true, Bool.false_eq_true, if_false]
    exact can_fresh (s := { tick s e with cancel := true }) (can_cancel h)
end

end Go.AW

/- States that can be: a step from one, or from none, comes to one. -/
namespace Go.AW
open Go Go.Proofs

theorem chain_ok {α : Type} {nm : α → ByteArray} {ok : α → Bool} : ∀ (l : List α) (last : ByteArray), chain nm ok last l = true → ∀ x ∈ l, ok x = true
  | [], _, _, x, h => by cases h
  | y :: r, last, h, x, hx => by
    simp only [chain, Bool.and_eq_true] at h
    rcases List.mem_cons.1 hx with rfl | hx
    · exact h.1.1
    · exact chain_ok r _ h.2 x hx
theorem findU_none {name : ByteArray} : ∀ {l : List Upd}, (findU name l).isSome = false → ∀ u ∈ l, u.name ≠ name
  | [], _, u, h => by cases h
  | x :: r, h, u, hu => by
    simp only [findU] at h
    split at h
    · cases h
    · rename_i hx
      rcases List.mem_cons.1 hu with rfl | hu
      · exact hx
      · exact findU_none h u hu
theorem acc_fun (name : ByteArray) : (fun u : Upd => decide (cmpS u.name name ≥ 0)) = fun u => !sless u.name name := by
  funext u
  unfold cmpS
  cases sless u.name name with
  | true => simp
  | false =>
    simp only [Bool.false_eq_true, if_false, Bool.false_or, Bool.not_false]
    split <;> decide

section
variable {s : St} {e : Ev}
theorem step9 (h : CanS (tick s e)) (he : EvF e) (h1 : s.status = 1) (hk : e.kind = 9) (hx : turnX s e = 0) : CanS (tick (turnSt s e) e) := by
  have e1 : turnSt s e = timerSt s e := by unfold turnSt; rw [hk]; simp
  have e2 : turnX s e = timerX s e := by unfold turnX; rw [hk]; simp
  rw [e1]
  rw [e2] at hx
  unfold timerX at hx
  have h2 : hasT e.name s.timers = false := by cases hb : hasT e.name s.timers with | false => rfl | true => rw [hb] at hx; simp at hx
  rw [h2] at hx
  have h3 : decide ((s.timers.length : Int) ≥ 10) = false := by cases hb : decide ((s.timers.length : Int) ≥ 10) with | false => rfl | true => rw [hb] at hx; simp at hx
  unfold timerSt
  rw [h2, h3]
  simp only [Bool.false_eq_true, if_false]
  have hn := wrd_name (by rw [hk]; decide +kernel) he.wrd
  refine can_timers (s := tick s e) h h1 ?_ ?_
  · unfold insT placeT
    rw [h2]
    simp only [Bool.false_eq_true, if_false]
    refine chain_ins (nm := Tim.name) (ok := timOk) ⟨e.name, e.due⟩ s.timers _ h.timers ?_ (name_pos hn) fun x hx2 => ?_
    · simp [timOk, hn, within_iff, he.due]
    · unfold hasT at h2
      have := List.any_eq_false.1 h2 x hx2
      simpa using this
  · simp only [decide_eq_false_iff_not] at h3
    have := placeT_le e.name s.timers
    simp [insT]; omega
theorem step1011 (h : CanS (tick s e)) (h1 : s.status = 1) (hk : e.kind = 10 ∨ e.kind = 11) (hx : turnX s e = 0) : CanS (tick (turnSt s e) e) := by
  have e1 : turnSt s e = offSt s e := by unfold turnSt; rcases hk with hk | hk <;> rw [hk] <;> simp
  have e2 : turnX s e = if offBad s e = true then 20 else 0 := by unfold turnX; rcases hk with hk | hk <;> rw [hk] <;> simp
  rw [e1]
  rw [e2] at hx
  have h0 : offBad s e = false := by cases hb : offBad s e with | false => rfl | true => rw [hb] at hx; simp at hx
  unfold offSt
  rw [h0]
  simp only [Bool.false_eq_true, if_false]
  refine can_fresh (s := { tick s e with timers := s.timers.take (placeT e.name s.timers) ++ s.timers.drop (placeT e.name s.timers + 1) }) (can_timers h h1 (chain_del _ _ _ h.timers) ?_)
  have := h.tlen
  have h2 : (tick s e).timers.length = s.timers.length := rfl
  rw [h2] at this
  simp; omega
theorem step12 (h : CanS (tick s e)) (he : EvF e) (hk : e.kind = 12) (hx : turnX s e = 0) : CanS (tick (turnSt s e) e) := by
  have e1 : turnSt s e = accSt s e := by unfold turnSt; rw [hk]; simp
  have e2 : turnX s e = accX s e := by unfold turnX; rw [hk]; simp
  rw [e1]
  rw [e2] at hx
  unfold accX at hx
  have h2 : (findU e.name s.updates).isSome = false := by cases hb : (findU e.name s.updates).isSome with | false => rfl | true => rw [hb] at hx; simp at hx
  rw [h2] at hx
  have h3 : decide ((s.updates.length : Int) ≥ 10) = false := by cases hb : decide ((s.updates.length : Int) ≥ 10) with | false => rfl | true => rw [hb] at hx; simp at hx
  unfold accSt
  rw [h2, h3]
  simp only [Bool.false_eq_true, if_false]
  have hn := wrd_name (by rw [hk]; decide +kernel) he.wrd
  refine can_updates (s := tick s e) h ?_ ?_
  · unfold accI
    rw [acc_fun]
    refine chain_ins (nm := Upd.name) (ok := updOk) ⟨e.name, e.value, 1, Val.zero⟩ s.updates _ h.updates ?_ (name_pos hn) fun x hx2 => findU_none h2 x hx2
    simp [updOk, hn, he.val, okV_zero, updBad2, within, sameV_self]
  · simp only [decide_eq_false_iff_not] at h3
    have : accI s e ≤ s.updates.length := idxN_le _ _
    simp; omega
theorem step13 (h : CanS (tick s e)) (he : EvF e) (hk : e.kind = 13) (hx : turnX s e = 0) : CanS (tick (turnSt s e) e) := by
  have e1 : turnSt s e = outSt s e := by unfold turnSt; rw [hk]; simp
  have e2 : turnX s e = if outBad s e = true then 20 else 0 := by unfold turnX; rw [hk]; simp
  rw [e1]
  rw [e2] at hx
  have h0 : outBad s e = false := by cases hb : outBad s e with | false => rfl | true => rw [hb] at hx; simp at hx
  unfold outSt
  rw [h0]
  simp only [Bool.false_eq_true, if_false]
  unfold outU
  cases hu : s.updates[outI s e]? with
  | none => exact h
  | some u =>
    have hou := chain_ok _ _ h.updates u (List.mem_of_getElem? hu)
    refine can_updates (s := tick s e) h (chain_set _ _ _ u _ h.updates hu rfl ?_) (by have := h.ulen; simpa [tick] using this)
    simp only [updOk, Bool.and_eq_true] at hou ⊢
    refine ⟨⟨⟨hou.1.1.1, hou.1.1.2⟩, by simp [he.val]⟩, ?_⟩
    simp [updBad2, within]
theorem step14 (h : CanS (tick s e)) (hk : e.kind = 14) : CanS (tick (turnSt s e) e) := by
  have e1 : turnSt s e = s := by unfold turnSt; rw [hk]; simp
  rw [e1]; exact h
theorem step1519 (h : CanS (tick s e)) (he : EvF e) (hk : 15 ≤ e.kind) : CanS (tick (turnSt s e) e) := by
  have hk2 := he.kind
  have hne : ∀ c : Int, c < 15 → (e.kind == c) = false := fun c hc => by
    have : e.kind ≠ c := by omega
    simpa using this
  have e1 : turnSt s e = closedSt s e := by unfold turnSt; simp [hne]
  rw [e1]
  have h5 : e.kind = 15 ∨ e.kind = 16 ∨ e.kind = 17 ∨ e.kind = 18 ∨ e.kind = 19 := by omega
  have hst : (closedSt s e).status = e.kind - 13 := by
    unfold closedSt
    show IntKind.i64.wrap (IntKind.i64.wrap (2 + e.kind) - 15) = _
    rw [IntWalk.i64_in (2 + e.kind) (by omega), IntWalk.i64_in (2 + e.kind - 15) (by omega)]; omega
  have hsz : (e.name.size : Int) ≤ 200 := by
    rcases h5 with k | k | k | k | k
    · rw [wrd_none (by rw [k]; decide +kernel) (by rw [k]; decide +kernel) he.wrd]; decide
    · exact wrd_text (by rw [k]; decide +kernel) (by rw [k]; decide +kernel) he.wrd
    · rw [wrd_none (by rw [k]; decide +kernel) (by rw [k]; decide +kernel) he.wrd]; decide
    · exact wrd_text (by rw [k]; decide +kernel) (by rw [k]; decide +kernel) he.wrd
    · rw [wrd_none (by rw [k]; decide +kernel) (by rw [k]; decide +kernel) he.wrd]; decide
  refine ⟨h.run, h.from_, ?_, h.count, h.signals, h.time, h.deadline, h.type, h.input, h.policy, (show tskOk { tick (closedSt s e) e with task := ⟨0, 0, 0, 0, 0⟩ } = true from tsk_zero _), rfl, (by show (([] : List Tim).length : Int) ≤ 10; decide), h.updates, h.ulen, he.val, hsz, ?_, ?_, .inr ⟨rfl, rfl⟩⟩
  · show 1 ≤ (closedSt s e).status ∧ (closedSt s e).status ≤ 6
    rw [hst]; omega
  · show (closedSt s e).status = 2 ∨ sameV e.value Val.zero = true
    rw [hst]
    rcases h5 with k | k | k | k | k
    · left; omega
    all_goals exact .inr (he.valz (by rw [k]; decide +kernel))
  · show (closedSt s e).status = 3 ∨ (closedSt s e).status = 5 ∨ e.name = ⟨#[]⟩
    rw [hst]
    rcases h5 with k | k | k | k | k
    · exact .inr (.inr (wrd_none (by rw [k]; decide +kernel) (by rw [k]; decide +kernel) he.wrd))
    · left; omega
    · exact .inr (.inr (wrd_none (by rw [k]; decide +kernel) (by rw [k]; decide +kernel) he.wrd))
    · right; left; omega
    · exact .inr (.inr (wrd_none (by rw [k]; decide +kernel) (by rw [k]; decide +kernel) he.wrd))
end

theorem step_can {s : St} {e : Ev} (h : CanS s) (hx : stepX s e = 0) : CanS (stepSt s e) := by
  obtain ⟨hm, ht⟩ := stepX_zero hx
  obtain ⟨he, hc, hk1, hk2, htm⟩ := may_of hm
  have h0 := h.count
  have hkn : e.kind ≠ 1 := fun hk => by have := hk1 hk; omega
  obtain ⟨_, h1⟩ := hk2 hkn
  have hkr := he.kind
  rw [stepSt_tick hm ht (by omega) hc]
  have hti := tick_can (e := e) h hc htm he.time.2
  by_cases k2 : e.kind = 2
  · exact step2 hti he h1 k2 ht
  by_cases k3 : e.kind = 3
  · exact step3 hti (by omega) hc he h1 k3 ht
  by_cases k6 : e.kind ≤ 6
  · exact step456 hti he h1 (by omega) ht
  by_cases k8 : e.kind ≤ 8
  · exact step78 hti h.signals hc (by omega) ht
  by_cases k9 : e.kind = 9
  · exact step9 hti he h1 k9 ht
  by_cases k11 : e.kind ≤ 11
  · exact step1011 hti h1 (by omega) ht
  by_cases k12 : e.kind = 12
  · exact step12 hti he k12 ht
  by_cases k13 : e.kind = 13
  · exact step13 hti he k13 ht
  by_cases k14 : e.kind = 14
  · exact step14 hti k14
  exact step1519 hti he (by omega)

/-- The first event of a run. -/
theorem start_can {r : Int} {e : Ev} (hr : 1 ≤ r ∧ r ≤ 10) (hx : stepX (stN r) e = 0) : CanS (stepSt (stN r) e) := by
  obtain ⟨hm, ht⟩ := stepX_zero hx
  obtain ⟨he, hc, hk1, hk2, htm⟩ := may_of hm
  have hk : e.kind = 1 := by
    by_cases hk : e.kind = 1
    · exact hk
    · exact absurd rfl (hk2 hk).1
  rw [stepSt_tick hm ht (Int.le_refl 0) (by show (0 : Int) < 120; decide)]
  have e1 : turnSt (stN r) e = startedSt (stN r) e := by unfold turnSt; rw [hk]; simp
  rw [e1]
  have hn := wrd_name (by rw [hk]; decide +kernel) he.wrd
  have ht2 := he.time
  exact ⟨hr, by show (0 : Int) ≤ 0 ∧ (0 : Int) ≤ 10; decide, by show (1 : Int) ≤ 1 ∧ (1 : Int) ≤ 6; decide, by show (1 : Int) ≤ 0 + 1 ∧ (0 : Int) + 1 ≤ 120; decide, by show (0 : Int) ≤ 0 ∧ (0 : Int) ≤ 0 + 1; decide, he.time, he.due, hn, he.val, he.pol (by rw [hk]; decide +kernel), rfl, rfl, (by show (([] : List Tim).length : Int) ≤ 10; decide), rfl,
    (by show (([] : List Upd).length : Int) ≤ 10; decide), okV_zero, by show ((⟨#[]⟩ : ByteArray).size : Int) ≤ 200; decide, .inr (sameV_self _), .inr (.inr rfl), .inl rfl⟩

end Go.AW

/- States: the law StateStays. -/
namespace Go.AW
open Go Go.Proofs

theorem aw16a : stepX (stN 1) (evN 1 0 (⟨#[116]⟩ : ByteArray)) = 0 ∧ (stepSt (stN 1) (evN 1 0 (⟨#[116]⟩ : ByteArray))).count = 1 ∧ (stepSt (stN 1) (evN 1 0 (⟨#[116]⟩ : ByteArray))).status = 1 := by decide +kernel
theorem aw16b : stepX (stN 0) (evN 3 0 ⟨#[]⟩) = 20 := by decide +kernel

set_option maxRecDepth 100000 in
theorem law16_awake : PCall PP 27 [] (B1 true) := by
  refine pcall_of TTok Try.func27 rfl rfl rfl rfl rfl rfl (fun _ => ?_)
  obtain ⟨h1, h2, h3⟩ := aw16a
  have h4 := aw16b
  have k1 := state_Step (stN 1) (evN 1 0 (⟨#[116]⟩ : ByteArray))
  have k2 := state_Step (stN 0) (evN 3 0 ⟨#[]⟩)
  have k3 := state_Running (stepSt (stN 1) (evN 1 0 (⟨#[116]⟩ : ByteArray)))
  rw [h1] at k1
  rw [h4] at k2
  rw [h3] at k3
  (repeat' ((conv => whnf); first | refine bsplit (fun _ => ?_) (fun _ => ?_) | refine adraw ?_ | refine leave ?_ | refine acall (k1) ?_ | refine dcall (k1) ?_ | refine GCall.sym _ (fun hg => PC.own (k1)) ?_ | refine acall (k2) ?_ | refine dcall (k2) ?_ | refine GCall.sym _ (fun hg => PC.own (k2)) ?_ | refine acall (k3) ?_ | refine dcall (k3) ?_ | refine GCall.sym _ (fun hg => PC.own (k3)) ?_ | refine And.intro (by first | assumption | omega | (simp; omega)) ?_)) <;> (try (conv => whnf))
  refine ⟨b1_inj ?_⟩
  rw [h2]; rfl

def fewSt (s : St) : Bool := decide ((s.timers.length : Int) ≤ 60) && decide ((s.updates.length : Int) ≤ 60)
theorem law16_few (s : St) : PCall PP 26 [fv s.enc] (B1 (fewSt s)) := by
  refine pcall_of TTok Try.func26 rfl rfl rfl rfl rfl rfl (fun _ => ?_)
  have hl1 : (s.timers.map Tim.enc).length = s.timers.length := List.length_map _
  have hl2 : (s.updates.map Upd.enc).length = s.updates.length := List.length_map _
  (repeat' ((conv => whnf); first | refine bsplit (fun _ => ?_) (fun _ => ?_) | refine adraw ?_ | refine leave ?_ | refine And.intro (by first | assumption | omega | (simp; omega)) ?_)) <;> (try (conv => whnf))
  refine ⟨b1_inj ?_⟩
  rw [hl1, hl2, Bool.cond_false_right]; rfl

def runX (run : Int) : Int := IntKind.i64.wrap (1 + IntKind.i64.wrap ((IntKind.u64.wrap run).tmod 10))
theorem runX_in (run : Int) : 1 ≤ runX run ∧ runX run ≤ 10 := by
  unfold runX
  have h0 := u64_nn run
  have h1 : 0 ≤ (IntKind.u64.wrap run).tmod 10 := Int.tmod_nonneg _ h0
  have h2 : (IntKind.u64.wrap run).tmod 10 < 10 := Int.tmod_lt_of_pos _ (by omega)
  rw [IntWalk.i64_in ((IntKind.u64.wrap run).tmod 10) (by omega), IntWalk.i64_in _ (by omega)]; omega

theorem stepSt_bad {s : St} {e : Ev} (h : (stepX s e != 0) = true) : stepSt s e = s := by
  unfold stepX at h
  unfold stepSt
  split
  · rfl
  · rename_i h1
    rw [if_neg h1] at h
    split
    · rfl
    · rename_i h2
      rw [if_neg h2] at h
      simp at h

theorem turn_run (s : St) (e : Ev) : (turnSt s e).run = s.run := by
  simp only [turnSt, startedSt, scheduledSt, takenSt, goneSt, toldSt, timerSt, offSt, accSt, outSt, closedSt, apply_ite St.run, ite_self]
theorem step_run (s : St) (e : Ev) : (stepSt s e).run = s.run := by
  unfold stepSt
  split
  · rfl
  · split
    · rfl
    · exact turn_run s e

set_option maxRecDepth 100000 in
theorem law_StateStays (s : St) (run : Int) (e : Ev) : PCall PP 9 [fv s.enc, I64 run, fv e.enc] (B1 true) := by
  refine pcall_of TTok Try.func9 rfl rfl rfl rfl rfl rfl (fun _ => ?_)
  cases hc : canSt s with
  | true =>
    have h0 := state_Can s
    rw [hc] at h0
    (repeat' ((conv => whnf); first | refine bsplit (fun _ => ?_) (fun _ => ?_) | refine adraw ?_ | refine leave ?_ | refine acall (law16_few s) ?_ | refine dcall (law16_few s) ?_ | refine GCall.sym _ (fun hg => PC.own (law16_few s)) ?_ | refine acall (law16_awake) ?_ | refine dcall (law16_awake) ?_ | refine GCall.sym _ (fun hg => PC.own (law16_awake)) ?_ | refine acall (h0) ?_ | refine dcall (h0) ?_ | refine GCall.sym _ (fun hg => PC.own (h0)) ?_ | refine acall (state_Step s e) ?_ | refine dcall (state_Step s e) ?_ | refine GCall.sym _ (fun hg => PC.own (state_Step s e)) ?_ | refine acall (state_Same (stepSt s e) s) ?_ | refine dcall (state_Same (stepSt s e) s) ?_ | refine GCall.sym _ (fun hg => PC.own (state_Same (stepSt s e) s)) ?_ | refine acall (state_Can (stepSt s e)) ?_ | refine dcall (state_Can (stepSt s e)) ?_ | refine GCall.sym _ (fun hg => PC.own (state_Can (stepSt s e))) ?_ | refine And.intro (by first | assumption | omega | (simp; omega)) ?_)) <;> (try (conv => whnf))
    · exact ⟨rfl⟩
    · rename_i h
      refine ⟨b1_inj ?_⟩
      rw [stepSt_bad h]; simp [sameSt_self]
    · rename_i h
      refine ⟨b1_inj ?_⟩
      have h1 : stepX s e = 0 := by simpa using h
      rw [step_run, (canSt_iff _).2 (step_can ((canSt_iff _).1 hc) h1)]; simp
  | false =>
    have h0 := state_Can s
    rw [hc] at h0
    (repeat' ((conv => whnf); first | refine bsplit (fun _ => ?_) (fun _ => ?_) | refine adraw ?_ | refine leave ?_ | refine acall (law16_few s) ?_ | refine dcall (law16_few s) ?_ | refine GCall.sym _ (fun hg => PC.own (law16_few s)) ?_ | refine acall (law16_awake) ?_ | refine dcall (law16_awake) ?_ | refine GCall.sym _ (fun hg => PC.own (law16_awake)) ?_ | refine acall (h0) ?_ | refine dcall (h0) ?_ | refine GCall.sym _ (fun hg => PC.own (h0)) ?_ | refine acall (state_Step (stN (runX run)) e) ?_ | refine dcall (state_Step (stN (runX run)) e) ?_ | refine GCall.sym _ (fun hg => PC.own (state_Step (stN (runX run)) e)) ?_ | refine acall (state_Same (stepSt (stN (runX run)) e) (stN (runX run))) ?_ | refine dcall (state_Same (stepSt (stN (runX run)) e) (stN (runX run))) ?_ | refine GCall.sym _ (fun hg => PC.own (state_Same (stepSt (stN (runX run)) e) (stN (runX run)))) ?_ | refine acall (state_Can (stepSt (stN (runX run)) e)) ?_ | refine dcall (state_Can (stepSt (stN (runX run)) e)) ?_ | refine GCall.sym _ (fun hg => PC.own (state_Can (stepSt (stN (runX run)) e))) ?_ | refine And.intro (by first | assumption | omega | (simp; omega)) ?_)) <;> (try (conv => whnf))
    · exact ⟨rfl⟩
    · rename_i h
      refine ⟨b1_inj ?_⟩
      rw [stepSt_bad h]; simp [sameSt_self]
    · rename_i h
      refine ⟨b1_inj ?_⟩
      have h1 : stepX (stN (runX run)) e = 0 := by simpa using h
      have h2 : (stepSt (stN (runX run)) e).run = runX run := step_run _ _
      rw [h2, (canSt_iff _).2 (start_can (runX_in run) h1)]
      simp [runX]

end Go.AW

