/- States that can be: an event keeps them so. -/
import Derived.Test.YtfgnoaaaacaebaaGreatMF
namespace Go.AW
open Go Go.Proofs

theorem less_irr : ∀ x : List UInt8, Op.bytesLess x x = false
  | [] => rfl
  | a :: x => by simp [Op.bytesLess, less_irr x]
theorem less_tr : ∀ x y z : List UInt8, Op.bytesLess x y = true → Op.bytesLess y z = true → Op.bytesLess x z = true
  | [], [], _, h, _ => by simp [Op.bytesLess] at h
  | [], _ :: _, [], _, h => by simp [Op.bytesLess] at h
  | [], _ :: _, _ :: _, _, _ => by simp [Op.bytesLess]
  | _ :: _, [], _, h, _ => by simp [Op.bytesLess] at h
  | _ :: _, _ :: _, [], _, h => by simp [Op.bytesLess] at h
  | a :: x, b :: y, c :: z, h, k => by
    simp only [Op.bytesLess, Bool.or_eq_true, Bool.and_eq_true, decide_eq_true_eq, beq_iff_eq] at h k ⊢
    rcases h with h | ⟨rfl, h⟩
    · rcases k with k | ⟨rfl, k⟩
      · exact .inl (UInt8.lt_trans h k)
      · exact .inl h
    · rcases k with k | ⟨rfl, k⟩
      · exact .inl k
      · exact .inr ⟨rfl, less_tr x y z h k⟩
theorem sless_irr (a : ByteArray) : sless a a = false := less_irr _
theorem sless_tr {a b c : ByteArray} (h : sless a b = true) (k : sless b c = true) : sless a c = true := less_tr _ _ _ h k
theorem sless_ne {a b : ByteArray} (h : sless a b = true) : a ≠ b := fun e => by subst e; rw [sless_irr] at h; cases h
theorem sless_asym {a b : ByteArray} (h : sless a b = true) : sless b a = false := by
  cases hb : sless b a with
  | false => rfl
  | true => have := sless_tr h hb; rw [sless_irr] at this; cases this
/-- Not behind: ahead. -/
theorem sless_of {a b : ByteArray} (h : (sless a b || decide (a = b)) = false) : sless b a = true := by
  rw [sless_total' b a, h]; rfl
theorem not_le {a b : ByteArray} (h : sless b a = true) : (sless a b || decide (a = b)) = false := by
  rw [sless_asym h]; simp [Ne.symm (sless_ne h)]

/-! ### Lists in their names' order -/
/-- Each good, each behind the one ahead. -/
def chain {α : Type} (nm : α → ByteArray) (ok : α → Bool) : ByteArray → List α → Bool
  | _, [] => true
  | last, x :: r => ok x && sless last (nm x) && chain nm ok (nm x) r

section
variable {α : Type} {nm : α → ByteArray} {ok : α → Bool}
theorem chain_weak {a b : ByteArray} {l : List α} (h : chain nm ok b l = true) (hab : sless a b = true) : chain nm ok a l = true := by
  cases l with
  | nil => rfl
  | cons x r =>
    simp only [chain, Bool.and_eq_true] at h ⊢
    exact ⟨⟨h.1.1, sless_tr hab h.1.2⟩, h.2⟩

theorem chain_ins (t : α) : ∀ (l : List α) (last : ByteArray), chain nm ok last l = true → ok t = true → sless last (nm t) = true → (∀ x ∈ l, nm x ≠ nm t) → chain nm ok last (l.take (idxN (fun x => !sless (nm x) (nm t)) l) ++ t :: l.drop (idxN (fun x => !sless (nm x) (nm t)) l)) = true
  | [], last, _, ht, hl, _ => by simp [chain, idxN, ht, hl]
  | x :: r, last, h, ht, hl, hn => by
    simp only [chain, Bool.and_eq_true] at h
    cases hx : sless (nm x) (nm t) with
    | true =>
      simp only [idxN, hx, Bool.not_true, Bool.false_eq_true, if_false, List.take_succ_cons, List.drop_succ_cons, List.cons_append, chain, Bool.and_eq_true]
      exact ⟨h.1, chain_ins t r (nm x) h.2 ht hx fun y hy => hn y (List.mem_cons_of_mem _ hy)⟩
    | false =>
      simp only [idxN, hx, Bool.not_false, if_true, List.take_zero, List.drop_zero, List.nil_append, chain, Bool.and_eq_true]
      refine ⟨⟨ht, hl⟩, ⟨h.1.1, ?_⟩, h.2⟩
      exact sless_of (by rw [hx]; simp [hn x List.mem_cons_self])

theorem chain_del : ∀ (l : List α) (i : Nat) (last : ByteArray), chain nm ok last l = true → chain nm ok last (l.take i ++ l.drop (i + 1)) = true
  | [], i, last, _ => by simp [chain]
  | x :: r, 0, last, h => by
    simp only [chain, Bool.and_eq_true] at h
    simpa using chain_weak h.2 h.1.2
  | x :: r, i + 1, last, h => by
    simp only [chain, Bool.and_eq_true] at h
    simp only [List.take_succ_cons, List.drop_succ_cons, List.cons_append, chain, Bool.and_eq_true]
    exact ⟨h.1, chain_del r i (nm x) h.2⟩

theorem chain_set : ∀ (l : List α) (i : Nat) (last : ByteArray) (x y : α), chain nm ok last l = true → l[i]? = some x → nm y = nm x → ok y = true → chain nm ok last (l.set i y) = true
  | [], i, last, x, y, _, h, _, _ => by simp at h
  | z :: r, 0, last, x, y, h, hx, hn, ho => by
    simp at hx; subst hx
    simp only [chain, Bool.and_eq_true] at h
    simp only [List.set_cons_zero, chain, Bool.and_eq_true, hn]
    exact ⟨⟨ho, h.1.2⟩, h.2⟩
  | z :: r, i + 1, last, x, y, h, hx, hn, ho => by
    simp only [chain, Bool.and_eq_true] at h
    simp only [List.set_cons_succ, chain, Bool.and_eq_true]
    exact ⟨h.1, chain_set r i (nm z) x y h.2 (by simpa using hx) hn ho⟩
end

def timOk (t : Tim) : Bool := nameOk t.name && within t.due 0 2199023255552
def updOk (u : Upd) : Bool := nameOk u.name && okV u.value == 0 && okV u.outcome == 0 && !updBad2 u
theorem timersGo_chain : ∀ (l : List Tim) (last : ByteArray), timersGo last l = chain Tim.name timOk last l
  | [], _ => rfl
  | t :: r, last => by
    simp only [timersGo, chain, timersGo_chain r]
    have e : sless last t.name = !(sless t.name last || decide (t.name = last)) := sless_total' last t.name
    rw [e]
    unfold timBad timOk
    cases nameOk t.name <;> cases within t.due 0 2199023255552 <;> cases sless t.name last || decide (t.name = last) <;> simp
theorem updatesGo_chain : ∀ (l : List Upd) (last : ByteArray), updatesGo last l = chain Upd.name updOk last l
  | [], _ => rfl
  | u :: r, last => by
    simp only [updatesGo, chain, updatesGo_chain r]
    have e : sless last u.name = !(sless u.name last || decide (u.name = last)) := sless_total' last u.name
    rw [e]
    unfold updBad1 updOk
    have e1 : (okV u.value != 0) = !(okV u.value == 0) := rfl
    have e2 : (okV u.outcome != 0) = !(okV u.outcome == 0) := rfl
    rw [e1, e2]
    cases nameOk u.name <;> cases okV u.value == 0 <;> cases okV u.outcome == 0 <;> cases updBad2 u <;> cases sless u.name last || decide (u.name = last) <;> simp
theorem name_pos {s : ByteArray} (h : nameOk s = true) : sless ⟨#[]⟩ s = true := by
  rw [sless_total]
  unfold nameOk at h
  simp only [Bool.and_eq_true, Bool.not_eq_true', Bool.or_eq_false_iff, decide_eq_false_iff_not] at h
  rw [sless_none]
  simp [Ne.symm h.1.1]

end Go.AW

/- States that can be: what an event makes of them. -/
namespace Go.AW
open Go Go.Proofs

structure CanS (s : St) : Prop where
  run : 1 ≤ s.run ∧ s.run ≤ 10
  from_ : 0 ≤ s.from_ ∧ s.from_ ≤ 10
  status : 1 ≤ s.status ∧ s.status ≤ 6
  count : 1 ≤ s.count ∧ s.count ≤ 120
  signals : 0 ≤ s.signals ∧ s.signals ≤ s.count
  time : 0 ≤ s.time ∧ s.time ≤ 1099511627776
  deadline : 0 ≤ s.deadline ∧ s.deadline ≤ 2199023255552
  type : nameOk s.type = true
  input : okV s.input = 0
  policy : polOk s.policy = 0
  task : tskOk s = true
  timers : chain Tim.name timOk ⟨#[]⟩ s.timers = true
  tlen : (s.timers.length : Int) ≤ 10
  updates : chain Upd.name updOk ⟨#[]⟩ s.updates = true
  ulen : (s.updates.length : Int) ≤ 10
  result : okV s.result = 0
  reason : (s.reason.size : Int) ≤ 200
  res : s.status = 2 ∨ sameV s.result Val.zero = true
  rea : s.status = 3 ∨ s.status = 5 ∨ s.reason = ⟨#[]⟩
  rest : s.status = 1 ∨ (s.task.state = 0 ∧ s.timers = [])

theorem within_iff (n l h : Int) : within n l h = true ↔ l ≤ n ∧ n ≤ h := by simp [within]

theorem canSt_iff (s : St) : canSt s = true ↔ CanS s := by
  constructor
  · intro h
    simp only [canSt, numbersOk, partsOk, timersOk, updatesOk, Bool.and_eq_true, within_iff, beq_iff_eq, decide_eq_true_eq, timersGo_chain, updatesGo_chain] at h
    obtain ⟨⟨⟨⟨⟨h1, h2⟩, h3⟩, h4⟩, h5⟩, h6⟩ := h
    have h7 : okV s.result = 0 ∧ (s.reason.size : Int) ≤ 200 ∧ (s.status = 2 ∨ sameV s.result Val.zero = true) ∧ (s.status = 3 ∨ s.status = 5 ∨ s.reason = ⟨#[]⟩) ∧ (s.status = 1 ∨ (s.task.state = 0 ∧ s.timers = [])) := by
      unfold endedOk at h6
      split at h6
      · cases h6
      · rename_i a1
        split at h6
        · cases h6
        · rename_i a2
          split at h6
          · cases h6
          · rename_i a3
            simp at a1 a2 a3 h6
            refine ⟨a1.1, a1.2, ?_, ?_, ?_⟩
            · by_cases hs : s.status = 2
              · exact .inl hs
              · exact .inr (a2 hs)
            · by_cases hs : s.status = 3
              · exact .inl hs
              · by_cases hs2 : s.status = 5
                · exact .inr (.inl hs2)
                · exact .inr (.inr (a3 hs hs2))
            · exact h6
    exact ⟨h1.1.1.1, h1.1.1.2, h1.1.2, h1.2.1.1.1, h1.2.1.1.2, h1.2.1.2, h1.2.2, h2.1.1, h2.1.2, h2.2, h3, h4.1, h4.2, h5.1, h5.2, h7.1, h7.2.1, h7.2.2.1, h7.2.2.2.1, h7.2.2.2.2⟩
  · intro h
    have h6 : endedOk s = true := by
      unfold endedOk
      rw [if_neg (by simp [h.result, h.reason]), if_neg (by rcases h.res with h | h <;> simp [h]), if_neg (by rcases h.rea with h | h | h <;> simp [h])]
      rcases h.rest with h | ⟨h, k⟩
      · simp [h]
      · simp [h, k]
    simp only [canSt, numbersOk, partsOk, timersOk, updatesOk, Bool.and_eq_true, within_iff, beq_iff_eq, decide_eq_true_eq, timersGo_chain, updatesGo_chain]
    exact ⟨⟨⟨⟨⟨⟨⟨⟨h.run, h.from_⟩, h.status⟩, ⟨⟨⟨h.count, h.signals⟩, h.time⟩, h.deadline⟩⟩, ⟨h.type, h.input⟩, h.policy⟩, h.task⟩, h.timers, h.tlen⟩, h.updates, h.ulen⟩, h6⟩

structure EvF (e : Ev) : Prop where
  kind : 1 ≤ e.kind ∧ e.kind ≤ 19
  time : 0 ≤ e.time ∧ e.time ≤ 1099511627776
  att : attemptOk e = true
  wrd : wordsOk e = true
  due : 0 ≤ e.due ∧ e.due ≤ 2199023255552
  val : okV e.value = 0
  valz : bitE e.kind 16 = 0 → sameV e.value Val.zero = true
  pol : bitE e.kind 32 ≠ 0 → polOk e.policy = 0

theorem evF_of {e : Ev} (h : evOk e = 0) : EvF e := by
  unfold evOk at h
  split at h
  · cases h
  · rename_i h1
    simp only [Bool.or_eq_true, not_or, Bool.not_eq_true, evName_none, Bool.not_eq_false', Bool.and_eq_true, decide_eq_true_eq, decide_eq_false_iff_not, Bool.not_eq_false] at h1
    obtain ⟨⟨⟨⟨⟨h2, h3⟩, h4⟩, h5⟩, h6⟩, h7⟩ := h1
    unfold restOk at h7
    split at h7
    · cases h7
    · rename_i g1
      split at h7
      · cases h7
      · rename_i g2
        simp at g1 g2
        refine ⟨by simpa using h2, by omega, h5, h6, by omega, g2.2, fun hz => g2.1 hz, fun hz => ?_⟩
        rw [if_neg (by simpa using hz)] at h7
        simpa using h7

end Go.AW

/- States that can be: a step from one comes to one. -/
namespace Go.AW
open Go Go.Proofs

theorem may_of {s : St} {e : Ev} (h : maySt s e = 0) : EvF e ∧ s.count < 120 ∧ (e.kind = 1 → s.count = 0) ∧ (e.kind ≠ 1 → s.count ≠ 0 ∧ s.status = 1) ∧ s.time ≤ e.time := by
  unfold maySt at h
  split at h
  · cases h
  · rename_i h1
    split at h
    · cases h
    · rename_i h2
      split at h
      · cases h
      · rename_i h3
        split at h
        · cases h
        · rename_i h4
          split at h
          · cases h
          · rename_i h5
            simp at h1 h2 h3 h4 h5
            exact ⟨evF_of h1, h2, h3, h4, h5⟩

def tick (s : St) (e : Ev) : St := { s with count := s.count + 1, time := e.time }

theorem turn_count (s : St) (e : Ev) : (turnSt s e).count = s.count := by
  simp only [turnSt, startedSt, scheduledSt, takenSt, goneSt, toldSt, timerSt, offSt, accSt, outSt, closedSt, apply_ite St.count, ite_self]

theorem stepSt_tick {s : St} {e : Ev} (hm : maySt s e = 0) (hx : turnX s e = 0) (h0 : 0 ≤ s.count) (h1 : s.count < 120) : stepSt s e = tick (turnSt s e) e := by
  unfold stepSt tick
  rw [hm, hx, turn_count, IntWalk.i64_in _ (by omega)]
  simp

theorem stepX_zero {s : St} {e : Ev} (h : stepX s e = 0) : maySt s e = 0 ∧ turnX s e = 0 := by
  unfold stepX at h
  split at h
  · rename_i h1; simp at h1; exact absurd h h1
  · rename_i h1
    split at h
    · rename_i h2; simp at h2; exact absurd h h2
    · rename_i h2; simp at h1 h2; exact ⟨h1, h2⟩

theorem tsk_more {s : St} {n : Int} (h : tskOk s = true) (hn : s.count ≤ n) : tskOk { s with count := n } = true := by
  unfold tskOk at h ⊢
  simp only at h ⊢
  split
  · rename_i g1; rw [if_pos g1] at h; exact h
  · rename_i g1
    rw [if_neg g1] at h
    split
    · rename_i g2; rw [if_pos g2] at h; exact h
    · rename_i g2
      rw [if_neg g2] at h
      split
      · rename_i g3
        rw [if_pos g3] at h
        split at h
        · cases h
        · rename_i g4
          rw [if_neg]
          · exact h
          · simp only [Bool.or_eq_true, Bool.not_eq_true', not_or, Bool.not_eq_false, within_iff] at g4 ⊢
            exact ⟨⟨g4.1.1, by omega⟩, g4.2⟩
      · rename_i g3; rw [if_neg g3] at h; exact h

theorem tick_can {s : St} {e : Ev} (h : CanS s) (hc : s.count < 120) (ht : s.time ≤ e.time) (he : e.time ≤ 1099511627776) : CanS (tick s e) :=
  ⟨h.run, h.from_, h.status, by have := h.count; simp only [tick]; omega, by have := h.signals; simp only [tick]; omega, by have := h.time; simp only [tick]; omega, h.deadline, h.type, h.input, h.policy, (show tskOk { s with count := s.count + 1 } = true from tsk_more h.task (by omega)), h.timers, h.tlen, h.updates, h.ulen, h.result, h.reason, h.res, h.rea, h.rest⟩

/-! ### One after the other -/
theorem can_task {s : St} {t : Tsk} (h : CanS s) (h1 : s.status = 1) (ht : tskOk { s with task := t } = true) : CanS { s with task := t } :=
  ⟨h.run, h.from_, h.status, h.count, h.signals, h.time, h.deadline, h.type, h.input, h.policy, ht, h.timers, h.tlen, h.updates, h.ulen, h.result, h.reason, h.res, h.rea, .inl h1⟩
theorem can_fresh {s : St} {b : Bool} (h : CanS s) : CanS { s with fresh := b } :=
  ⟨h.run, h.from_, h.status, h.count, h.signals, h.time, h.deadline, h.type, h.input, h.policy, h.task, h.timers, h.tlen, h.updates, h.ulen, h.result, h.reason, h.res, h.rea, h.rest⟩
theorem can_cancel {s : St} {b : Bool} (h : CanS s) : CanS { s with cancel := b } :=
  ⟨h.run, h.from_, h.status, h.count, h.signals, h.time, h.deadline, h.type, h.input, h.policy, h.task, h.timers, h.tlen, h.updates, h.ulen, h.result, h.reason, h.res, h.rea, h.rest⟩
theorem can_from {s : St} {n : Int} (h : CanS s) (hn : 0 ≤ n ∧ n ≤ 10) : CanS { s with from_ := n } :=
  ⟨h.run, hn, h.status, h.count, h.signals, h.time, h.deadline, h.type, h.input, h.policy, h.task, h.timers, h.tlen, h.updates, h.ulen, h.result, h.reason, h.res, h.rea, h.rest⟩
theorem can_signals {s : St} {n : Int} (h : CanS s) (hn : 0 ≤ n ∧ n ≤ s.count) : CanS { s with signals := n } :=
  ⟨h.run, h.from_, h.status, h.count, hn, h.time, h.deadline, h.type, h.input, h.policy, h.task, h.timers, h.tlen, h.updates, h.ulen, h.result, h.reason, h.res, h.rea, h.rest⟩
theorem can_timers {s : St} {l : List Tim} (h : CanS s) (h1 : s.status = 1) (hl : chain Tim.name timOk ⟨#[]⟩ l = true) (hn : (l.length : Int) ≤ 10) : CanS { s with timers := l } :=
  ⟨h.run, h.from_, h.status, h.count, h.signals, h.time, h.deadline, h.type, h.input, h.policy, h.task, hl, hn, h.updates, h.ulen, h.result, h.reason, h.res, h.rea, .inl h1⟩
theorem can_updates {s : St} {l : List Upd} (h : CanS s) (hl : chain Upd.name updOk ⟨#[]⟩ l = true) (hn : (l.length : Int) ≤ 10) : CanS { s with updates := l } :=
  ⟨h.run, h.from_, h.status, h.count, h.signals, h.time, h.deadline, h.type, h.input, h.policy, h.task, h.timers, h.tlen, hl, hn, h.result, h.reason, h.res, h.rea, h.rest⟩

end Go.AW

/- States that can be: every event. -/
namespace Go.AW
open Go Go.Proofs

theorem att2 {e : Ev} (hk : e.kind = 2) (h : attemptOk e = true) : 1 ≤ e.num ∧ e.num ≤ 2147483648 := by
  unfold attemptOk at h
  rw [hk, show bitE 2 1 = 1 by decide +kernel] at h
  simpa using h
theorem att5 {e : Ev} (hk : e.kind = 5) (h : attemptOk e = true) : 0 ≤ e.num ∧ e.num ≤ 10 := by
  unfold attemptOk at h
  rw [hk, show bitE 5 1 = 1 by decide +kernel] at h
  simpa using h
theorem wrd_name {e : Ev} (hk : bitE e.kind 4 ≠ 0) (h : wordsOk e = true) : nameOk e.name = true := by
  unfold wordsOk at h
  rw [if_pos (by simpa using hk)] at h
  exact h
theorem wrd_text {e : Ev} (hk : bitE e.kind 4 = 0) (hk2 : bitE e.kind 8 ≠ 0) (h : wordsOk e = true) : (e.name.size : Int) ≤ 200 := by
  unfold wordsOk at h
  rw [if_neg (by simpa using hk), if_pos (by simpa using hk2)] at h
  simpa using h
theorem wrd_none {e : Ev} (hk : bitE e.kind 4 = 0) (hk2 : bitE e.kind 8 = 0) (h : wordsOk e = true) : e.name = ⟨#[]⟩ := by
  unfold wordsOk at h
  rw [if_neg (by simpa using hk), if_neg (by simpa using hk2)] at h
  simpa using h

theorem tsk_zero (s : St) : tskOk { s with task := ⟨0, 0, 0, 0, 0⟩ } = true := by simp [tskOk, tskNone]

section
variable {s : St} {e : Ev}
theorem step2 (h : CanS (tick s e)) (he : EvF e) (h1 : s.status = 1) (hk : e.kind = 2) (hx : turnX s e = 0) : CanS (tick (turnSt s e) e) := by
  have e1 : turnSt s e = scheduledSt s e := by unfold turnSt; rw [hk]; simp
  have e2 : turnX s e = if (s.task.state != 0) = true then 20 else 0 := by unfold turnX; rw [hk]; simp
  rw [e1]
  rw [e2] at hx
  have h0 : (s.task.state != 0) = false := by cases hb : s.task.state != 0 with | false => rfl | true => rw [hb] at hx; simp at hx
  unfold scheduledSt
  rw [h0]
  have ha := att2 hk he.att
  refine can_task (s := tick s e) (t := ⟨1, e.num, e.due, 0, 0⟩) h h1 ?_
  simp [tskOk, tskRest, within_iff, ha, he.due]
theorem step3 (h : CanS (tick s e)) (h0 : 0 ≤ s.count) (hc : s.count < 120) (he : EvF e) (h1 : s.status = 1) (hk : e.kind = 3) (hx : turnX s e = 0) : CanS (tick (turnSt s e) e) := by
  have e1 : turnSt s e = takenSt s e := by unfold turnSt; rw [hk]; simp
  have e2 : turnX s e = if (s.task.state != 1) = true then 20 else 0 := by unfold turnX; rw [hk]; simp
  rw [e1]
  rw [e2] at hx
  have h2 : (s.task.state != 1) = false := by cases hb : s.task.state != 1 with | false => rfl | true => rw [hb] at hx; simp at hx
  unfold takenSt
  rw [h2]
  have h3 : s.task.state = 1 := by simpa using h2
  have ht := h.task
  have ht2 : 1 ≤ s.task.attempt ∧ s.task.attempt ≤ 2147483648 := by
    unfold tskOk at ht
    have h4 : (tick s e).task.state = 1 := h3
    rw [h4] at ht
    simp only [show ((1 : Int) == 0) = false by decide, Bool.false_eq_true, if_false, show ((1 : Int) == 1) = true by decide, if_true] at ht
    split at ht
    · cases ht
    · simp only [tskRest, Bool.and_eq_true, within_iff] at ht; exact ht.1
  refine can_fresh (s := { tick s e with task := ⟨2, s.task.attempt, e.due, IntKind.i64.wrap (s.count + 1), IntKind.i64.wrap (s.count + 1)⟩ }) (b := false) (can_task h h1 ?_)
  rw [IntWalk.i64_in _ (by omega)]
  have h5 : (tick s e).count = s.count + 1 := rfl
  simp [tskOk, tskRest, within_iff, ht2, he.due, h5]
  omega
theorem step456 (h : CanS (tick s e)) (he : EvF e) (h1 : s.status = 1) (hk : e.kind = 4 ∨ e.kind = 5 ∨ e.kind = 6) (hx : turnX s e = 0) : CanS (tick (turnSt s e) e) := by
  have e1 : turnSt s e = goneSt s e := by unfold turnSt; rcases hk with hk | hk | hk <;> rw [hk] <;> simp
  have e2 : turnX s e = if goneBad s e = true then 20 else 0 := by unfold turnX; rcases hk with hk | hk | hk <;> rw [hk] <;> simp
  rw [e1]
  rw [e2] at hx
  have h0 : goneBad s e = false := by cases hb : goneBad s e with | false => rfl | true => rw [hb] at hx; simp at hx
  unfold goneSt
  rw [h0]
  simp only [Bool.false_eq_true, if_false]
  have hz : CanS { tick s e with task := ⟨0, 0, 0, 0, 0⟩ } := can_task h h1 (tsk_zero _)
  split
  · rename_i h5
    simp at h5
    exact can_from (s := { tick s e with task := ⟨0, 0, 0, 0, 0⟩ }) hz (att5 h5.1 he.att)
  · exact hz
theorem step78 (h : CanS (tick s e)) (h0 : 0 ≤ s.signals ∧ s.signals ≤ s.count) (hc : s.count < 120) (hk : e.kind = 7 ∨ e.kind = 8) (hx : turnX s e = 0) : CanS (tick (turnSt s e) e) := by
  have e1 : turnSt s e = toldSt s e := by unfold turnSt; rcases hk with hk | hk <;> rw [hk] <;> simp
  rw [e1]
  unfold toldSt
  rcases hk with hk | hk
  · rw [hk]
    simp only [show ((7 : Int) == 8) = false by decide, Bool.false_eq_true, if_false]
    rw [IntWalk.i64_in _ (by omega)]
    exact can_fresh (s := { tick s e with signals := s.signals + 1 }) (can_signals h (by show 0 ≤ s.signals + 1 ∧ s.signals + 1 ≤ s.count + 1; omega))
  · have e2 : turnX s e = if s.cancel = true then 20 else 0 := by unfold turnX; rw [hk]; simp
    rw [e2] at hx
    have hcn : s.cancel = false := by cases hb : s.cancel with | false => rfl | true => rw [hb] at hx; simp at hx
    rw [hk, hcn]
    simp only [show ((8 : Int) == 8) = true by decide, if_true, Bool.false_eq_true, if_false]
    exact can_fresh (s := { tick s e with cancel := true }) (can_cancel h)
end

end Go.AW

/- States that can be: a step from one, or from none, comes to one. -/
namespace Go.AW
open Go Go.Proofs

theorem chain_ok {α : Type} {nm : α → ByteArray} {ok : α → Bool} : ∀ (l : List α) (last : ByteArray), chain nm ok last l = true → ∀ x ∈ l, ok x = true
  | [], _, _, x, h => by cases h
  | y :: r, last, h, x, hx => by
    simp only [chain, Bool.and_eq_true] at h
    rcases List.mem_cons.1 hx with rfl | hx
    · exact h.1.1
    · exact chain_ok r _ h.2 x hx
theorem findU_none {name : ByteArray} : ∀ {l : List Upd}, (findU name l).isSome = false → ∀ u ∈ l, u.name ≠ name
  | [], _, u, h => by cases h
  | x :: r, h, u, hu => by
    simp only [findU] at h
    split at h
    · cases h
    · rename_i hx
      rcases List.mem_cons.1 hu with rfl | hu
      · exact hx
      · exact findU_none h u hu
theorem acc_fun (name : ByteArray) : (fun u : Upd => decide (cmpS u.name name ≥ 0)) = fun u => !sless u.name name := by
  funext u
  unfold cmpS
  cases sless u.name name with
  | true => simp
  | false =>
    simp only [Bool.false_eq_true, if_false, Bool.false_or, Bool.not_false]
    split <;> decide

section
variable {s : St} {e : Ev}
theorem step9 (h : CanS (tick s e)) (he : EvF e) (h1 : s.status = 1) (hk : e.kind = 9) (hx : turnX s e = 0) : CanS (tick (turnSt s e) e) := by
  have e1 : turnSt s e = timerSt s e := by unfold turnSt; rw [hk]; simp
  have e2 : turnX s e = timerX s e := by unfold turnX; rw [hk]; simp
  rw [e1]
  rw [e2] at hx
  unfold timerX at hx
  have h2 : hasT e.name s.timers = false := by cases hb : hasT e.name s.timers with | false => rfl | true => rw [hb] at hx; simp at hx
  rw [h2] at hx
  have h3 : decide ((s.timers.length : Int) ≥ 10) = false := by cases hb : decide ((s.timers.length : Int) ≥ 10) with | false => rfl | true => rw [hb] at hx; simp at hx
  unfold timerSt
  rw [h2, h3]
  simp only [Bool.false_eq_true, if_false]
  have hn := wrd_name (by rw [hk]; decide +kernel) he.wrd
  refine can_timers (s := tick s e) h h1 ?_ ?_
  · unfold insT placeT
    rw [h2]
    simp only [Bool.false_eq_true, if_false]
    refine chain_ins (nm := Tim.name) (ok := timOk) ⟨e.name, e.due⟩ s.timers _ h.timers ?_ (name_pos hn) fun x hx2 => ?_
    · simp [timOk, hn, within_iff, he.due]
    · unfold hasT at h2
      have := List.any_eq_false.1 h2 x hx2
      simpa using this
  · simp only [decide_eq_false_iff_not] at h3
    have := placeT_le e.name s.timers
    simp [insT]; omega
theorem step1011 (h : CanS (tick s e)) (h1 : s.status = 1) (hk : e.kind = 10 ∨ e.kind = 11) (hx : turnX s e = 0) : CanS (tick (turnSt s e) e) := by
  have e1 : turnSt s e = offSt s e := by unfold turnSt; rcases hk with hk | hk <;> rw [hk] <;> simp
  have e2 : turnX s e = if offBad s e = true then 20 else 0 := by unfold turnX; rcases hk with hk | hk <;> rw [hk] <;> simp
  rw [e1]
  rw [e2] at hx
  have h0 : offBad s e = false := by cases hb : offBad s e with | false => rfl | true => rw [hb] at hx; simp at hx
  unfold offSt
  rw [h0]
  simp only [Bool.false_eq_true, if_false]
  refine can_fresh (s := { tick s e with timers := s.timers.take (placeT e.name s.timers) ++ s.timers.drop (placeT e.name s.timers + 1) }) (can_timers h h1 (chain_del _ _ _ h.timers) ?_)
  have := h.tlen
  have h2 : (tick s e).timers.length = s.timers.length := rfl
  rw [h2] at this
  simp; omega
theorem step12 (h : CanS (tick s e)) (he : EvF e) (hk : e.kind = 12) (hx : turnX s e = 0) : CanS (tick (turnSt s e) e) := by
  have e1 : turnSt s e = accSt s e := by unfold turnSt; rw [hk]; simp
  have e2 : turnX s e = accX s e := by unfold turnX; rw [hk]; simp
  rw [e1]
  rw [e2] at hx
  unfold accX at hx
  have h2 : (findU e.name s.updates).isSome = false := by cases hb : (findU e.name s.updates).isSome with | false => rfl | true => rw [hb] at hx; simp at hx
  rw [h2] at hx
  have h3 : decide ((s.updates.length : Int) ≥ 10) = false := by cases hb : decide ((s.updates.length : Int) ≥ 10) with | false => rfl | true => rw [hb] at hx; simp at hx
  unfold accSt
  rw [h2, h3]
  simp only [Bool.false_eq_true, if_false]
  have hn := wrd_name (by rw [hk]; decide +kernel) he.wrd
  refine can_updates (s := tick s e) h ?_ ?_
  · unfold accI
    rw [acc_fun]
    refine chain_ins (nm := Upd.name) (ok := updOk) ⟨e.name, e.value, 1, Val.zero⟩ s.updates _ h.updates ?_ (name_pos hn) fun x hx2 => findU_none h2 x hx2
    simp [updOk, hn, he.val, okV_zero, updBad2, within, sameV_self]
  · simp only [decide_eq_false_iff_not] at h3
    have : accI s e ≤ s.updates.length := idxN_le _ _
    simp; omega
theorem step13 (h : CanS (tick s e)) (he : EvF e) (hk : e.kind = 13) (hx : turnX s e = 0) : CanS (tick (turnSt s e) e) := by
  have e1 : turnSt s e = outSt s e := by unfold turnSt; rw [hk]; simp
  have e2 : turnX s e = if outBad s e = true then 20 else 0 := by unfold turnX; rw [hk]; simp
  rw [e1]
  rw [e2] at hx
  have h0 : outBad s e = false := by cases hb : outBad s e with | false => rfl | true => rw [hb] at hx; simp at hx
  unfold outSt
  rw [h0]
  simp only [Bool.false_eq_true, if_false]
  unfold outU
  cases hu : s.updates[outI s e]? with
  | none => exact h
  | some u =>
    have hou := chain_ok _ _ h.updates u (List.mem_of_getElem? hu)
    refine can_updates (s := tick s e) h (chain_set _ _ _ u _ h.updates hu rfl ?_) (by have := h.ulen; simpa [tick] using this)
    simp only [updOk, Bool.and_eq_true] at hou ⊢
    refine ⟨⟨⟨hou.1.1.1, hou.1.1.2⟩, by simp [he.val]⟩, ?_⟩
    simp [updBad2, within]
theorem step14 (h : CanS (tick s e)) (hk : e.kind = 14) : CanS (tick (turnSt s e) e) := by
  have e1 : turnSt s e = s := by unfold turnSt; rw [hk]; simp
  rw [e1]; exact h
theorem step1519 (h : CanS (tick s e)) (he : EvF e) (hk : 15 ≤ e.kind) : CanS (tick (turnSt s e) e) := by
  have hk2 := he.kind
  have hne : ∀ c : Int, c < 15 → (e.kind == c) = false := fun c hc => by
    have : e.kind ≠ c := by omega
    simpa using this
  have e1 : turnSt s e = closedSt s e := by unfold turnSt; simp [hne]
  rw [e1]
  have h5 : e.kind = 15 ∨ e.kind = 16 ∨ e.kind = 17 ∨ e.kind = 18 ∨ e.kind = 19 := by omega
  have hst : (closedSt s e).status = e.kind - 13 := by
    unfold closedSt
    show IntKind.i64.wrap (IntKind.i64.wrap (2 + e.kind) - 15) = _
    rw [IntWalk.i64_in (2 + e.kind) (by omega), IntWalk.i64_in (2 + e.kind - 15) (by omega)]; omega
  have hsz : (e.name.size : Int) ≤ 200 := by
    rcases h5 with k | k | k | k | k
    · rw [wrd_none (by rw [k]; decide +kernel) (by rw [k]; decide +kernel) he.wrd]; decide
    · exact wrd_text (by rw [k]; decide +kernel) (by rw [k]; decide +kernel) he.wrd
    · rw [wrd_none (by rw [k]; decide +kernel) (by rw [k]; decide +kernel) he.wrd]; decide
    · exact wrd_text (by rw [k]; decide +kernel) (by rw [k]; decide +kernel) he.wrd
    · rw [wrd_none (by rw [k]; decide +kernel) (by rw [k]; decide +kernel) he.wrd]; decide
  refine ⟨h.run, h.from_, ?_, h.count, h.signals, h.time, h.deadline, h.type, h.input, h.policy, (show tskOk { tick (closedSt s e) e with task := ⟨0, 0, 0, 0, 0⟩ } = true from tsk_zero _), rfl, (by show (([] : List Tim).length : Int) ≤ 10; decide), h.updates, h.ulen, he.val, hsz, ?_, ?_, .inr ⟨rfl, rfl⟩⟩
  · show 1 ≤ (closedSt s e).status ∧ (closedSt s e).status ≤ 6
    rw [hst]; omega
  · show (closedSt s e).status = 2 ∨ sameV e.value Val.zero = true
    rw [hst]
    rcases h5 with k | k | k | k | k
    · left; omega
    all_goals exact .inr (he.valz (by rw [k]; decide +kernel))
  · show (closedSt s e).status = 3 ∨ (closedSt s e).status = 5 ∨ e.name = ⟨#[]⟩
    rw [hst]
    rcases h5 with k | k | k | k | k
    · exact .inr (.inr (wrd_none (by rw [k]; decide +kernel) (by rw [k]; decide +kernel) he.wrd))
    · left; omega
    · exact .inr (.inr (wrd_none (by rw [k]; decide +kernel) (by rw [k]; decide +kernel) he.wrd))
    · right; left; omega
    · exact .inr (.inr (wrd_none (by rw [k]; decide +kernel) (by rw [k]; decide +kernel) he.wrd))
end

theorem step_can {s : St} {e : Ev} (h : CanS s) (hx : stepX s e = 0) : CanS (stepSt s e) := by
  obtain ⟨hm, ht⟩ := stepX_zero hx
  obtain ⟨he, hc, hk1, hk2, htm⟩ := may_of hm
  have h0 := h.count
  have hkn : e.kind ≠ 1 := fun hk => by have := hk1 hk; omega
  obtain ⟨_, h1⟩ := hk2 hkn
  have hkr := he.kind
  rw [stepSt_tick hm ht (by omega) hc]
  have hti := tick_can (e := e) h hc htm he.time.2
  by_cases k2 : e.kind = 2
  · exact step2 hti he h1 k2 ht
  by_cases k3 : e.kind = 3
  · exact step3 hti (by omega) hc he h1 k3 ht
  by_cases k6 : e.kind ≤ 6
  · exact step456 hti he h1 (by omega) ht
  by_cases k8 : e.kind ≤ 8
  · exact step78 hti h.signals hc (by omega) ht
  by_cases k9 : e.kind = 9
  · exact step9 hti he h1 k9 ht
  by_cases k11 : e.kind ≤ 11
  · exact step1011 hti h1 (by omega) ht
  by_cases k12 : e.kind = 12
  · exact step12 hti he k12 ht
  by_cases k13 : e.kind = 13
  · exact step13 hti he k13 ht
  by_cases k14 : e.kind = 14
  · exact step14 hti k14
  exact step1519 hti he (by omega)

/-- The first event of a run. -/
theorem start_can {r : Int} {e : Ev} (hr : 1 ≤ r ∧ r ≤ 10) (hx : stepX (stN r) e = 0) : CanS (stepSt (stN r) e) := by
  obtain ⟨hm, ht⟩ := stepX_zero hx
  obtain ⟨he, hc, hk1, hk2, htm⟩ := may_of hm
  have hk : e.kind = 1 := by
    by_cases hk : e.kind = 1
    · exact hk
    · exact absurd rfl (hk2 hk).1
  rw [stepSt_tick hm ht (Int.le_refl 0) (by show (0 : Int) < 120; decide)]
  have e1 : turnSt (stN r) e = startedSt (stN r) e := by unfold turnSt; rw [hk]; simp
  rw [e1]
  have hn := wrd_name (by rw [hk]; decide +kernel) he.wrd
  have ht2 := he.time
  exact ⟨hr, by show (0 : Int) ≤ 0 ∧ (0 : Int) ≤ 10; decide, by show (1 : Int) ≤ 1 ∧ (1 : Int) ≤ 6; decide, by show (1 : Int) ≤ 0 + 1 ∧ (0 : Int) + 1 ≤ 120; decide, by show (0 : Int) ≤ 0 ∧ (0 : Int) ≤ 0 + 1; decide, he.time, he.due, hn, he.val, he.pol (by rw [hk]; decide +kernel), rfl, rfl, (by show (([] : List Tim).length : Int) ≤ 10; decide), rfl,
    (by show (([] : List Upd).length : Int) ≤ 10; decide), okV_zero, by show ((⟨#[]⟩ : ByteArray).size : Int) ≤ 200; decide, .inr (sameV_self _), .inr (.inr rfl), .inl rfl⟩

end Go.AW

/- Events: the document's word on which may be. -/
namespace Go.AW
open Go Go.Proofs

abbrev intF (x : Int) : List F := [.sc (.int .i64 x)]
theorem ref14_in (k : Int) (l : List Int) (hb : l.length ≤ 1000) : PCall PP 92 [I64 k, .fr (.sl 1 8 (l.map intF))] (B1 (l.any fun x => x == k)) := by
  refine pcall_of TTok Tryz.func92 rfl rfl rfl rfl rfl rfl (fun hfit => ?_)
  have hl : (l.map intF).length = l.length := List.length_map _
  (repeat' ((conv => whnf); first | refine bsplit (fun _ => ?_) (fun _ => ?_) | refine adraw ?_ | refine leave ?_ | refine And.intro (by first | assumption | omega | (simp; omega)) ?_)) <;> (try (conv => whnf))
  refine aloopI (fun i : Nat => [(0, I64 k), (1, .fr (.sl 1 8 (l.map intF))), (5, I64 i)]) (fun _ => []) (fun i => l.length - i) (fun i => i ≤ l.length ∧ ∀ j < i, ∀ x, l[j]? = some x → (x == k) = false) 0
    ⟨by omega, by intro j h; omega⟩ (.same ⟨rfl, rfl, rfl, trivial⟩ rfl) ?_
  rintro i ⟨hi, hin⟩
  (repeat' ((conv => whnf); first | refine bsplit (fun _ => ?_) (fun _ => ?_) | refine adraw ?_ | refine leave ?_ | refine And.intro (by first | assumption | omega | (simp; omega)) ?_)) <;> (try (conv => whnf))
  · rename_i h1
    have hi2 : i < l.length := by simp at h1; omega
    obtain ⟨x, hx⟩ : ∃ x, l[i]? = some x := ⟨_, List.getElem?_eq_getElem hi2⟩
    refine aidx rfl hx ?_
    (repeat' ((conv => whnf); first | refine bsplit (fun _ => ?_) (fun _ => ?_) | refine adraw ?_ | refine leave ?_ | refine And.intro (by first | assumption | omega | (simp; omega)) ?_)) <;> (try (conv => whnf))
    · rename_i h2
      exact ⟨b1_inj (any_of (p := fun x => x == k) hx h2).symm⟩
    · rename_i h2
      exact ⟨⟨i + 1, by omega, fun j hj x' hx' => by
        by_cases hji : j = i
        · subst hji; rw [hx] at hx'; cases hx'; exact h2
        · exact hin j (by omega) x' hx'⟩, by show l.length - (i + 1) < l.length - i; omega, .same ⟨rfl, rfl, i64_inj (wrap_add hi2 (by omega)), trivial⟩ rfl⟩
  · rename_i h1
    have hi2 : l.length ≤ i := by simp at h1; omega
    exact ⟨b1_inj (any_no (p := fun x => x == k) fun j x hx => hin j (by have := (List.getElem?_eq_some_iff.1 hx).1; omega) x hx).symm⟩

abbrev inL (k : Int) (l : List Int) : Bool := l.any fun x => x == k
theorem ref14_hasDue (k : Int) : PCall PP 62 [I64 k] (B1 (inL k [1, 2, 3, 9])) := by
  refine pcall_of TTok Tryz.func62 rfl rfl rfl rfl rfl rfl (fun _ => ?_)
  (repeat' ((conv => whnf); first | refine bsplit (fun _ => ?_) (fun _ => ?_) | refine adraw ?_ | refine leave ?_ | refine acall (ref14_in k [1, 2, 3, 9] (by decide)) ?_ | refine dcall (ref14_in k [1, 2, 3, 9] (by decide)) ?_ | refine GCall.sym _ (fun hg => PC.own (ref14_in k [1, 2, 3, 9] (by decide))) ?_ | refine And.intro (by first | assumption | omega | (simp; omega)) ?_)) <;> (try (conv => whnf))
  exact ⟨rfl⟩
theorem ref14_hasPolicy (k : Int) : PCall PP 64 [I64 k] (B1 (k == 1)) := by
  refine pcall_of TTok Tryz.func64 rfl rfl rfl rfl rfl rfl (fun _ => ?_)
  (repeat' ((conv => whnf); first | refine bsplit (fun _ => ?_) (fun _ => ?_) | refine adraw ?_ | refine leave ?_ | refine And.intro (by first | assumption | omega | (simp; omega)) ?_)) <;> (try (conv => whnf))
  exact ⟨rfl⟩
theorem ref14_hasName (k : Int) : PCall PP 90 [I64 k] (B1 (inL k [1, 7, 9, 10, 11, 12, 13])) := by
  refine pcall_of TTok Tryz.func90 rfl rfl rfl rfl rfl rfl (fun _ => ?_)
  (repeat' ((conv => whnf); first | refine bsplit (fun _ => ?_) (fun _ => ?_) | refine adraw ?_ | refine leave ?_ | refine acall (ref14_in k [1, 7, 9, 10, 11, 12, 13] (by decide)) ?_ | refine dcall (ref14_in k [1, 7, 9, 10, 11, 12, 13] (by decide)) ?_ | refine GCall.sym _ (fun hg => PC.own (ref14_in k [1, 7, 9, 10, 11, 12, 13] (by decide))) ?_ | refine And.intro (by first | assumption | omega | (simp; omega)) ?_)) <;> (try (conv => whnf))
  exact ⟨rfl⟩
theorem ref14_hasText (k : Int) : PCall PP 91 [I64 k] (B1 (inL k [5, 16, 18])) := by
  refine pcall_of TTok Tryz.func91 rfl rfl rfl rfl rfl rfl (fun _ => ?_)
  (repeat' ((conv => whnf); first | refine bsplit (fun _ => ?_) (fun _ => ?_) | refine adraw ?_ | refine leave ?_ | refine acall (ref14_in k [5, 16, 18] (by decide)) ?_ | refine dcall (ref14_in k [5, 16, 18] (by decide)) ?_ | refine GCall.sym _ (fun hg => PC.own (ref14_in k [5, 16, 18] (by decide))) ?_ | refine And.intro (by first | assumption | omega | (simp; omega)) ?_)) <;> (try (conv => whnf))
  exact ⟨rfl⟩
theorem ref14_hasValue (k : Int) : PCall PP 63 [I64 k] (B1 (inL k [1, 7, 12, 13, 14, 15])) := by
  refine pcall_of TTok Tryz.func63 rfl rfl rfl rfl rfl rfl (fun _ => ?_)
  (repeat' ((conv => whnf); first | refine bsplit (fun _ => ?_) (fun _ => ?_) | refine adraw ?_ | refine leave ?_ | refine acall (ref14_in k [1, 7, 12, 13, 14, 15] (by decide)) ?_ | refine dcall (ref14_in k [1, 7, 12, 13, 14, 15] (by decide)) ?_ | refine GCall.sym _ (fun hg => PC.own (ref14_in k [1, 7, 12, 13, 14, 15] (by decide))) ?_ | refine And.intro (by first | assumption | omega | (simp; omega)) ?_)) <;> (try (conv => whnf))
  exact ⟨rfl⟩

def evNumR (e : Ev) : Bool := if (e.kind == 2) = true then decide (e.num ≥ 1) && decide (e.num ≤ 2147483648) else if (e.kind == 5) = true then decide (e.num ≥ 0) && decide (e.num ≤ 10) else e.num == 0
theorem ref14_num (e : Ev) : PCall PP 60 [fv e.enc] (B1 (evNumR e)) := by
  refine pcall_of TTok Tryz.func60 rfl rfl rfl rfl rfl rfl (fun _ => ?_)
  (repeat' ((conv => whnf); first | refine bsplit (fun _ => ?_) (fun _ => ?_) | refine adraw ?_ | refine leave ?_ | refine And.intro (by first | assumption | omega | (simp; omega)) ?_)) <;> (try (conv => whnf))
  all_goals (refine ⟨?_⟩; (try simp only [Bool.cond_false_right, Bool.cond_true_left] at *) <;> first | (simp only [evNumR, *, if_true, Bool.false_eq_true, if_false]; done) | (simp_all [Bool.cond_eq_ite, evNumR]; done) | (simp_all [Bool.cond_eq_ite, evNumR]; grind))
def evNameR (e : Ev) : Bool := if inL e.kind [1, 7, 9, 10, 11, 12, 13] = true then nameOk e.name else if inL e.kind [5, 16, 18] = true then decide ((e.name.size : Int) ≤ 200) else decide (e.name = ⟨#[]⟩)
theorem ref14_name (e : Ev) : PCall PP 61 [fv e.enc] (B1 (evNameR e)) := by
  refine pcall_of TTok Tryz.func61 rfl rfl rfl rfl rfl rfl (fun _ => ?_)
  (repeat' ((conv => whnf); first | refine bsplit (fun _ => ?_) (fun _ => ?_) | refine adraw ?_ | refine leave ?_ | refine acall (ref14_hasName _) ?_ | refine dcall (ref14_hasName _) ?_ | refine GCall.sym _ (fun hg => PC.own (ref14_hasName _)) ?_ | refine acall (ref14_hasText _) ?_ | refine dcall (ref14_hasText _) ?_ | refine GCall.sym _ (fun hg => PC.own (ref14_hasText _)) ?_ | refine acall (ref04_Name _) ?_ | refine dcall (ref04_Name _) ?_ | refine GCall.sym _ (fun hg => PC.own (ref04_Name _)) ?_ | refine acall (ref04_Text _) ?_ | refine dcall (ref04_Text _) ?_ | refine GCall.sym _ (fun hg => PC.own (ref04_Text _)) ?_ | refine And.intro (by first | assumption | omega | (simp; omega)) ?_)) <;> (try (conv => whnf))
  · rename_i h; refine ⟨?_⟩; unfold evNameR; rw [h]; rfl
  · rename_i h h2; refine ⟨?_⟩; unfold evNameR; rw [h, h2]; rfl
  · rename_i h h2; refine ⟨?_⟩; unfold evNameR; rw [h, h2]; rfl

structure Ev.U (e : Ev) : Prop where
  value : e.value.U
  coef : U64R e.policy.coef

def evBase (e : Ev) : Bool := decide (e.kind ≥ 1) && decide (e.kind ≤ 19) && decide (e.time ≥ 0) && decide (e.time ≤ 1099511627776) && evNumR e && evNameR e
def evDueR (e : Ev) : Bool := if inL e.kind [1, 2, 3, 9] = true then decide (e.due ≥ 0) && decide (e.due ≤ 2199023255552) else e.due == 0
def evValR (e : Ev) : Bool := if inL e.kind [1, 7, 12, 13, 14, 15] = true then okV e.value == 0 else sameV e.value Val.zero
def evPolR (e : Ev) : Bool := if (e.kind == 1) = true then polOk e.policy == 0 else polNone e.policy
def evR (e : Ev) : Bool := evBase e && evDueR e && evValR e && evPolR e

set_option maxRecDepth 100000 in
theorem ref14_Check0 (e : Ev) (he : e.U) : PCall PP 27 [fv e.enc] (I64 (if evR e = true then 0 else 1)) := by
  refine pcall_of TTok Tryz.func27 rfl rfl rfl rfl rfl rfl (fun _ => ?_)
  (repeat' ((conv => whnf); first | refine bsplit (fun _ => ?_) (fun _ => ?_) | refine adraw ?_ | refine leave ?_ | refine acall (ref14_num e) ?_ | refine dcall (ref14_num e) ?_ | refine GCall.sym _ (fun hg => PC.own (ref14_num e)) ?_ | refine acall (ref14_name e) ?_ | refine dcall (ref14_name e) ?_ | refine GCall.sym _ (fun hg => PC.own (ref14_name e)) ?_ | refine acall (ref14_hasDue _) ?_ | refine dcall (ref14_hasDue _) ?_ | refine GCall.sym _ (fun hg => PC.own (ref14_hasDue _)) ?_ | refine acall (ref14_hasValue _) ?_ | refine dcall (ref14_hasValue _) ?_ | refine GCall.sym _ (fun hg => PC.own (ref14_hasValue _)) ?_ | refine acall (ref14_hasPolicy _) ?_ | refine dcall (ref14_hasPolicy _) ?_ | refine GCall.sym _ (fun hg => PC.own (ref14_hasPolicy _)) ?_ | refine acall (ref05_Check e.value he.value) ?_ | refine dcall (ref05_Check e.value he.value) ?_ | refine GCall.sym _ (fun hg => PC.own (ref05_Check e.value he.value)) ?_ | refine acall (ref05_Same e.value Val.zero) ?_ | refine dcall (ref05_Same e.value Val.zero) ?_ | refine GCall.sym _ (fun hg => PC.own (ref05_Same e.value Val.zero)) ?_ | refine acall (ref13_Check e.policy he.coef) ?_ | refine dcall (ref13_Check e.policy he.coef) ?_ | refine GCall.sym _ (fun hg => PC.own (ref13_Check e.policy he.coef)) ?_ | refine And.intro (by first | assumption | omega | (simp; omega)) ?_)) <;> (try (conv => whnf))
  all_goals simp only [Bool.cond_false_right, Bool.cond_true_left] at *
  all_goals refine ⟨?_⟩
  all_goals (congr 3)
  all_goals (rename_i h1 h2 h3 h4; simp only [evR, evBase, evDueR, evValR, evPolR, polNone, h1, h2, h3, if_true, Bool.false_eq_true, if_false, Bool.and_true]; simp only [Bool.and_true, Bool.not_eq_true', Bool.not_eq_false'] at h4)
  all_goals first
    | (rw [if_neg (by rw [← Bool.and_assoc, ← Bool.and_assoc] at *; simp only [h4]; simp)]; done)
    | (rw [if_pos (by simp only [h4])]; done)
    | (simp only [Bool.and_assoc] at *; simp only [h4]; done)
    | (simp only [Bool.and_assoc] at *; simp [h4]; done)

end Go.AW

/- Events: the two words on which may be are the same. -/
namespace Go.AW
open Go Go.Proofs

theorem bits1 : bitE 1 1 = 0 ∧ bitE 1 2 = 2 ∧ bitE 1 4 = 4 ∧ bitE 1 8 = 0 ∧ bitE 1 16 = 16 ∧ bitE 1 32 = 32 := by decide +kernel
theorem bits2 : bitE 2 1 = 1 ∧ bitE 2 2 = 2 ∧ bitE 2 4 = 0 ∧ bitE 2 8 = 0 ∧ bitE 2 16 = 0 ∧ bitE 2 32 = 0 := by decide +kernel
theorem bits3 : bitE 3 1 = 0 ∧ bitE 3 2 = 2 ∧ bitE 3 4 = 0 ∧ bitE 3 8 = 0 ∧ bitE 3 16 = 0 ∧ bitE 3 32 = 0 := by decide +kernel
theorem bits4 : bitE 4 1 = 0 ∧ bitE 4 2 = 0 ∧ bitE 4 4 = 0 ∧ bitE 4 8 = 0 ∧ bitE 4 16 = 0 ∧ bitE 4 32 = 0 := by decide +kernel
theorem bits5 : bitE 5 1 = 1 ∧ bitE 5 2 = 0 ∧ bitE 5 4 = 0 ∧ bitE 5 8 = 8 ∧ bitE 5 16 = 0 ∧ bitE 5 32 = 0 := by decide +kernel
theorem bits6 : bitE 6 1 = 0 ∧ bitE 6 2 = 0 ∧ bitE 6 4 = 0 ∧ bitE 6 8 = 0 ∧ bitE 6 16 = 0 ∧ bitE 6 32 = 0 := by decide +kernel
theorem bits7 : bitE 7 1 = 0 ∧ bitE 7 2 = 0 ∧ bitE 7 4 = 4 ∧ bitE 7 8 = 0 ∧ bitE 7 16 = 16 ∧ bitE 7 32 = 0 := by decide +kernel
theorem bits8 : bitE 8 1 = 0 ∧ bitE 8 2 = 0 ∧ bitE 8 4 = 0 ∧ bitE 8 8 = 0 ∧ bitE 8 16 = 0 ∧ bitE 8 32 = 0 := by decide +kernel
theorem bits9 : bitE 9 1 = 0 ∧ bitE 9 2 = 2 ∧ bitE 9 4 = 4 ∧ bitE 9 8 = 0 ∧ bitE 9 16 = 0 ∧ bitE 9 32 = 0 := by decide +kernel
theorem bits10 : bitE 10 1 = 0 ∧ bitE 10 2 = 0 ∧ bitE 10 4 = 4 ∧ bitE 10 8 = 0 ∧ bitE 10 16 = 0 ∧ bitE 10 32 = 0 := by decide +kernel
theorem bits11 : bitE 11 1 = 0 ∧ bitE 11 2 = 0 ∧ bitE 11 4 = 4 ∧ bitE 11 8 = 0 ∧ bitE 11 16 = 0 ∧ bitE 11 32 = 0 := by decide +kernel
theorem bits12 : bitE 12 1 = 0 ∧ bitE 12 2 = 0 ∧ bitE 12 4 = 4 ∧ bitE 12 8 = 0 ∧ bitE 12 16 = 16 ∧ bitE 12 32 = 0 := by decide +kernel
theorem bits13 : bitE 13 1 = 0 ∧ bitE 13 2 = 0 ∧ bitE 13 4 = 4 ∧ bitE 13 8 = 0 ∧ bitE 13 16 = 16 ∧ bitE 13 32 = 0 := by decide +kernel
theorem bits14 : bitE 14 1 = 0 ∧ bitE 14 2 = 0 ∧ bitE 14 4 = 0 ∧ bitE 14 8 = 0 ∧ bitE 14 16 = 16 ∧ bitE 14 32 = 0 := by decide +kernel
theorem bits15 : bitE 15 1 = 0 ∧ bitE 15 2 = 0 ∧ bitE 15 4 = 0 ∧ bitE 15 8 = 0 ∧ bitE 15 16 = 16 ∧ bitE 15 32 = 0 := by decide +kernel
theorem bits16 : bitE 16 1 = 0 ∧ bitE 16 2 = 0 ∧ bitE 16 4 = 0 ∧ bitE 16 8 = 8 ∧ bitE 16 16 = 0 ∧ bitE 16 32 = 0 := by decide +kernel
theorem bits17 : bitE 17 1 = 0 ∧ bitE 17 2 = 0 ∧ bitE 17 4 = 0 ∧ bitE 17 8 = 0 ∧ bitE 17 16 = 0 ∧ bitE 17 32 = 0 := by decide +kernel
theorem bits18 : bitE 18 1 = 0 ∧ bitE 18 2 = 0 ∧ bitE 18 4 = 0 ∧ bitE 18 8 = 8 ∧ bitE 18 16 = 0 ∧ bitE 18 32 = 0 := by decide +kernel
theorem bits19 : bitE 19 1 = 0 ∧ bitE 19 2 = 0 ∧ bitE 19 4 = 0 ∧ bitE 19 8 = 0 ∧ bitE 19 16 = 0 ∧ bitE 19 32 = 0 := by decide +kernel

theorem evR_eq (e : Ev) : evR e = (evOk e == 0) := by
  obtain ⟨k, t, n, d, nm, v, p⟩ := e
  have hz : sameV v Val.zero = true → okV v = 0 := fun h => by rw [same_zero h]; exact okV_zero
  by_cases hk : 1 ≤ k ∧ k ≤ 19
  · have : k = 1 ∨ k = 2 ∨ k = 3 ∨ k = 4 ∨ k = 5 ∨ k = 6 ∨ k = 7 ∨ k = 8 ∨ k = 9 ∨ k = 10 ∨ k = 11 ∨ k = 12 ∨ k = 13 ∨ k = 14 ∨ k = 15 ∨ k = 16 ∨ k = 17 ∨ k = 18 ∨ k = 19 := by omega
    rcases this with rfl | rfl | rfl | rfl | rfl | rfl | rfl | rfl | rfl | rfl | rfl | rfl | rfl | rfl | rfl | rfl | rfl | rfl | rfl
    · obtain ⟨b1, b2, b4, b8, b16, b32⟩ := bits1
      have hn : decide (evName 1 = ⟨#[]⟩) = false := by decide +kernel
      simp only [evR, evBase, evDueR, evValR, evPolR, evNumR, evNameR, evOk, attemptOk, wordsOk, restOk, hn, b1, b2, b4, b8, b16, b32, inL, List.any]
      first | (rw [Bool.eq_iff_iff]; simp; done) | (rw [Bool.eq_iff_iff]; simp; grind)
    · obtain ⟨b1, b2, b4, b8, b16, b32⟩ := bits2
      have hn : decide (evName 2 = ⟨#[]⟩) = false := by decide +kernel
      simp only [evR, evBase, evDueR, evValR, evPolR, evNumR, evNameR, evOk, attemptOk, wordsOk, restOk, hn, b1, b2, b4, b8, b16, b32, inL, List.any]
      first | (rw [Bool.eq_iff_iff]; simp; done) | (rw [Bool.eq_iff_iff]; simp; grind)
    · obtain ⟨b1, b2, b4, b8, b16, b32⟩ := bits3
      have hn : decide (evName 3 = ⟨#[]⟩) = false := by decide +kernel
      simp only [evR, evBase, evDueR, evValR, evPolR, evNumR, evNameR, evOk, attemptOk, wordsOk, restOk, hn, b1, b2, b4, b8, b16, b32, inL, List.any]
      first | (rw [Bool.eq_iff_iff]; simp; done) | (rw [Bool.eq_iff_iff]; simp; grind)
    · obtain ⟨b1, b2, b4, b8, b16, b32⟩ := bits4
      have hn : decide (evName 4 = ⟨#[]⟩) = false := by decide +kernel
      simp only [evR, evBase, evDueR, evValR, evPolR, evNumR, evNameR, evOk, attemptOk, wordsOk, restOk, hn, b1, b2, b4, b8, b16, b32, inL, List.any]
      first | (rw [Bool.eq_iff_iff]; simp; done) | (rw [Bool.eq_iff_iff]; simp; grind)
    · obtain ⟨b1, b2, b4, b8, b16, b32⟩ := bits5
      have hn : decide (evName 5 = ⟨#[]⟩) = false := by decide +kernel
      simp only [evR, evBase, evDueR, evValR, evPolR, evNumR, evNameR, evOk, attemptOk, wordsOk, restOk, hn, b1, b2, b4, b8, b16, b32, inL, List.any]
      first | (rw [Bool.eq_iff_iff]; simp; done) | (rw [Bool.eq_iff_iff]; simp; grind)
    · obtain ⟨b1, b2, b4, b8, b16, b32⟩ := bits6
      have hn : decide (evName 6 = ⟨#[]⟩) = false := by decide +kernel
      simp only [evR, evBase, evDueR, evValR, evPolR, evNumR, evNameR, evOk, attemptOk, wordsOk, restOk, hn, b1, b2, b4, b8, b16, b32, inL, List.any]
      first | (rw [Bool.eq_iff_iff]; simp; done) | (rw [Bool.eq_iff_iff]; simp; grind)
    · obtain ⟨b1, b2, b4, b8, b16, b32⟩ := bits7
      have hn : decide (evName 7 = ⟨#[]⟩) = false := by decide +kernel
      simp only [evR, evBase, evDueR, evValR, evPolR, evNumR, evNameR, evOk, attemptOk, wordsOk, restOk, hn, b1, b2, b4, b8, b16, b32, inL, List.any]
      first | (rw [Bool.eq_iff_iff]; simp; done) | (rw [Bool.eq_iff_iff]; simp; grind)
    · obtain ⟨b1, b2, b4, b8, b16, b32⟩ := bits8
      have hn : decide (evName 8 = ⟨#[]⟩) = false := by decide +kernel
      simp only [evR, evBase, evDueR, evValR, evPolR, evNumR, evNameR, evOk, attemptOk, wordsOk, restOk, hn, b1, b2, b4, b8, b16, b32, inL, List.any]
      first | (rw [Bool.eq_iff_iff]; simp; done) | (rw [Bool.eq_iff_iff]; simp; grind)
    · obtain ⟨b1, b2, b4, b8, b16, b32⟩ := bits9
      have hn : decide (evName 9 = ⟨#[]⟩) = false := by decide +kernel
      simp only [evR, evBase, evDueR, evValR, evPolR, evNumR, evNameR, evOk, attemptOk, wordsOk, restOk, hn, b1, b2, b4, b8, b16, b32, inL, List.any]
      first | (rw [Bool.eq_iff_iff]; simp; done) | (rw [Bool.eq_iff_iff]; simp; grind)
    · obtain ⟨b1, b2, b4, b8, b16, b32⟩ := bits10
      have hn : decide (evName 10 = ⟨#[]⟩) = false := by decide +kernel
      simp only [evR, evBase, evDueR, evValR, evPolR, evNumR, evNameR, evOk, attemptOk, wordsOk, restOk, hn, b1, b2, b4, b8, b16, b32, inL, List.any]
      first | (rw [Bool.eq_iff_iff]; simp; done) | (rw [Bool.eq_iff_iff]; simp; grind)
    · obtain ⟨b1, b2, b4, b8, b16, b32⟩ := bits11
      have hn : decide (evName 11 = ⟨#[]⟩) = false := by decide +kernel
      simp only [evR, evBase, evDueR, evValR, evPolR, evNumR, evNameR, evOk, attemptOk, wordsOk, restOk, hn, b1, b2, b4, b8, b16, b32, inL, List.any]
      first | (rw [Bool.eq_iff_iff]; simp; done) | (rw [Bool.eq_iff_iff]; simp; grind)
    · obtain ⟨b1, b2, b4, b8, b16, b32⟩ := bits12
      have hn : decide (evName 12 = ⟨#[]⟩) = false := by decide +kernel
      simp only [evR, evBase, evDueR, evValR, evPolR, evNumR, evNameR, evOk, attemptOk, wordsOk, restOk, hn, b1, b2, b4, b8, b16, b32, inL, List.any]
      first | (rw [Bool.eq_iff_iff]; simp; done) | (rw [Bool.eq_iff_iff]; simp; grind)
    · obtain ⟨b1, b2, b4, b8, b16, b32⟩ := bits13
      have hn : decide (evName 13 = ⟨#[]⟩) = false := by decide +kernel
      simp only [evR, evBase, evDueR, evValR, evPolR, evNumR, evNameR, evOk, attemptOk, wordsOk, restOk, hn, b1, b2, b4, b8, b16, b32, inL, List.any]
      first | (rw [Bool.eq_iff_iff]; simp; done) | (rw [Bool.eq_iff_iff]; simp; grind)
    · obtain ⟨b1, b2, b4, b8, b16, b32⟩ := bits14
      have hn : decide (evName 14 = ⟨#[]⟩) = false := by decide +kernel
      simp only [evR, evBase, evDueR, evValR, evPolR, evNumR, evNameR, evOk, attemptOk, wordsOk, restOk, hn, b1, b2, b4, b8, b16, b32, inL, List.any]
      first | (rw [Bool.eq_iff_iff]; simp; done) | (rw [Bool.eq_iff_iff]; simp; grind)
    · obtain ⟨b1, b2, b4, b8, b16, b32⟩ := bits15
      have hn : decide (evName 15 = ⟨#[]⟩) = false := by decide +kernel
      simp only [evR, evBase, evDueR, evValR, evPolR, evNumR, evNameR, evOk, attemptOk, wordsOk, restOk, hn, b1, b2, b4, b8, b16, b32, inL, List.any]
      first | (rw [Bool.eq_iff_iff]; simp; done) | (rw [Bool.eq_iff_iff]; simp; grind)
    · obtain ⟨b1, b2, b4, b8, b16, b32⟩ := bits16
      have hn : decide (evName 16 = ⟨#[]⟩) = false := by decide +kernel
      simp only [evR, evBase, evDueR, evValR, evPolR, evNumR, evNameR, evOk, attemptOk, wordsOk, restOk, hn, b1, b2, b4, b8, b16, b32, inL, List.any]
      first | (rw [Bool.eq_iff_iff]; simp; done) | (rw [Bool.eq_iff_iff]; simp; grind)
    · obtain ⟨b1, b2, b4, b8, b16, b32⟩ := bits17
      have hn : decide (evName 17 = ⟨#[]⟩) = false := by decide +kernel
      simp only [evR, evBase, evDueR, evValR, evPolR, evNumR, evNameR, evOk, attemptOk, wordsOk, restOk, hn, b1, b2, b4, b8, b16, b32, inL, List.any]
      first | (rw [Bool.eq_iff_iff]; simp; done) | (rw [Bool.eq_iff_iff]; simp; grind)
    · obtain ⟨b1, b2, b4, b8, b16, b32⟩ := bits18
      have hn : decide (evName 18 = ⟨#[]⟩) = false := by decide +kernel
      simp only [evR, evBase, evDueR, evValR, evPolR, evNumR, evNameR, evOk, attemptOk, wordsOk, restOk, hn, b1, b2, b4, b8, b16, b32, inL, List.any]
      first | (rw [Bool.eq_iff_iff]; simp; done) | (rw [Bool.eq_iff_iff]; simp; grind)
    · obtain ⟨b1, b2, b4, b8, b16, b32⟩ := bits19
      have hn : decide (evName 19 = ⟨#[]⟩) = false := by decide +kernel
      simp only [evR, evBase, evDueR, evValR, evPolR, evNumR, evNameR, evOk, attemptOk, wordsOk, restOk, hn, b1, b2, b4, b8, b16, b32, inL, List.any]
      first | (rw [Bool.eq_iff_iff]; simp; done) | (rw [Bool.eq_iff_iff]; simp; grind)
  · have hn : decide (evName k = ⟨#[]⟩) = true := by rw [evName_none]; simp; omega
    have h1 : (decide (k ≥ 1) && decide (k ≤ 19)) = false := by rw [Bool.eq_false_iff]; simp; omega
    simp only [evR, evBase, evOk, hn, h1, Bool.false_and, Bool.true_or, if_true]; rfl

end Go.AW

/- Histories: the document's word on which may be. -/
namespace Go.AW
open Go Go.Proofs

theorem ref14_Check (e : Ev) (he : e.U) : PCall PP 27 [fv e.enc] (I64 (evOk e)) := by
  have h := ref14_Check0 e he
  rw [evR_eq] at h
  have h2 : (if (evOk e == 0) = true then (0 : Int) else 1) = evOk e := by
    unfold evOk; split <;> rfl
  rw [h2] at h
  exact h

def ev00 : Ev := ⟨0, 0, 0, 0, ⟨#[]⟩, Val.zero, ⟨0, 0, 0⟩⟩
def bad15 (p : Ev) (k : Nat) (e : Ev) : Bool := evOk e != 0 || (decide ((k : Int) > 0) && decide (e.time < p.time))
def go15 : Ev → Nat → List Ev → Bool
  | _, _, [] => true
  | p, k, e :: r => if bad15 p k e = true then false else go15 e (k + 1) r
def chk15 (l : List Ev) : Int := if decide ((l.length : Int) > 120) = true then 7 else if go15 ev00 0 l = true then 0 else 1

set_option maxRecDepth 100000 in
theorem ref15_Check (l : List Ev) (hu : ∀ e ∈ l, e.U) : PCall PP 12 [.fr (.sl 13 136 (l.map Ev.enc))] (I64 (chk15 l)) := by
  refine pcall_of TTok Tryz.func12 rfl rfl rfl rfl rfl rfl (fun hfit => ?_)
  have hl : (l.map Ev.enc).length = l.length := List.length_map _
  unfold chk15
  (repeat' ((conv => whnf); first | refine bsplit (fun _ => ?_) (fun _ => ?_) | refine adraw ?_ | refine leave ?_ | refine And.intro (by first | assumption | omega | (simp; omega)) ?_)) <;> (try (conv => whnf))
  · rename_i h
    rw [hl] at h
    rw [h]; exact ⟨rfl⟩
  · rename_i h
    rw [hl] at h
    rw [h]
    simp only [Bool.false_eq_true, if_false]
    have h2 : (l.length : Int) ≤ 120 := by simpa using h
    refine aloopK [0] (fun k : Nat => [(3, I64 k)]) (fun _ => _) (fun k => l.length - k) (fun k => k ≤ l.length ∧ go15 ev00 0 l = go15 (prevOf ev00 l k) k (l.drop k)) 0 ⟨by omega, rfl⟩ ⟨rfl, trivial⟩ rfl ?_
    conv => whnf
    rintro k ⟨hk, hR⟩
    (repeat' ((conv => whnf); first | refine bsplit (fun _ => ?_) (fun _ => ?_) | refine adraw ?_ | refine leave ?_ | refine And.intro (by first | assumption | omega | (simp; omega)) ?_)) <;> (try (conv => whnf))
    · rename_i h3
      rw [hl] at h3
      have hk2 := ltx h3
      obtain ⟨x, hx⟩ := getx l hk2
      have hux := hu x (List.mem_of_getElem? hx)
      rw [drop_cons hx] at hR
      simp only [go15] at hR
      refine aidx rfl hx ?_
      (repeat' ((conv => whnf); first | refine bsplit (fun _ => ?_) (fun _ => ?_) | refine adraw ?_ | refine leave ?_ | refine acall (ref14_Check x hux) ?_ | refine dcall (ref14_Check x hux) ?_ | refine GCall.sym _ (fun hg => PC.own (ref14_Check x hux)) ?_ | refine And.intro (by first | assumption | omega | (simp; omega)) ?_)) <;> (try (conv => whnf))
      refine GIdx.mk ⟨x.enc, fun hg => ⟨Int.natCast_nonneg _, by rw [Int.toNat_natCast, List.getElem?_map, hx]; rfl⟩, ?_⟩
      conv => whnf
      refine GIdx.mk ⟨(prevOf ev00 l k).enc, fun hg => ?_, ?_⟩
      · have hk0 : 0 < k := by
          rcases Nat.eq_zero_or_pos k with h0 | h0
          · subst h0; simp [eqw] at hg
          · exact h0
        rw [pred_wrap hk0 (by omega)]
        exact ⟨Int.natCast_nonneg _, by rw [Int.toNat_natCast, List.getElem?_map, prevOf_get (d := ev00) hk0 hk]; rfl⟩
      (repeat' ((conv => whnf); first | refine bsplit (fun _ => ?_) (fun _ => ?_) | refine adraw ?_ | refine leave ?_ | refine And.intro (by first | assumption | omega | (simp; omega)) ?_)) <;> (try (conv => whnf))
      · rename_i h4
        simp only [Bool.cond_true_left, Bool.cond_false_right] at h4
        have h5 : bad15 (prevOf ev00 l k) k x = true := h4
        rw [h5] at hR
        simp only [if_true] at hR
        rw [hR]; exact ⟨rfl⟩
      · rename_i h4
        simp only [Bool.cond_true_left, Bool.cond_false_right] at h4
        have h5 : bad15 (prevOf ev00 l k) k x = false := h4
        rw [h5] at hR
        simp only [Bool.false_eq_true, if_false] at hR
        exact ⟨⟨k + 1, by omega, by rw [prevOf_succ hx]; exact hR⟩, by show l.length - (k + 1) < l.length - k; omega, (.same (subE_append ⟨i64_inj (wrap_add hk2 (by omega)), trivial⟩ (by repeat' (first | exact trivial | refine ⟨rfl, ?_⟩))) rfl)⟩
    · rename_i h3
      rw [hl] at h3
      have hk2 := gex hk h3
      rw [hk2, List.drop_length] at hR
      simp only [go15] at hR
      rw [hR]; exact ⟨rfl⟩

end Go.AW

/- Histories: the law FoldCan. -/
namespace Go.AW
open Go Go.Proofs

theorem stepSt_bad' {s : St} {e : Ev} (h : stepX s e = 0) : stepSt s e = tick (turnSt s e) e ∨ ¬ (0 ≤ s.count ∧ s.count < 120) := by
  obtain ⟨hm, ht⟩ := stepX_zero h
  by_cases hc : 0 ≤ s.count ∧ s.count < 120
  · exact .inl (stepSt_tick hm ht hc.1 hc.2)
  · exact .inr hc

theorem fold_Legal (run : Int) (l : List Ev) : PCall PP 8 [I64 run, FE l] (B1 ((buildGo run l).2.2 == 0 && decide (((buildGo run l).2.1 : Int) > 0))) := by
  refine pcall_of TTok Tryz.func8 rfl rfl rfl rfl rfl rfl (fun _ => ?_)
  (repeat' ((conv => whnf); first | refine bsplit (fun _ => ?_) (fun _ => ?_) | refine adraw ?_ | refine leave ?_ | refine acall (fold_Build run l) ?_ | refine dcall (fold_Build run l) ?_ | refine GCall.sym _ (fun hg => PC.own (fold_Build run l)) ?_ | refine And.intro (by first | assumption | omega | (simp; omega)) ?_)) <;> (try (conv => whnf))
  refine ⟨b1_inj ?_⟩
  simp only [Bool.cond_false_right]

theorem turn_run (s : St) (e : Ev) : (turnSt s e).run = s.run := by
  simp only [turnSt, startedSt, scheduledSt, takenSt, goneSt, toldSt, timerSt, offSt, accSt, outSt, closedSt, apply_ite St.run, ite_self]

/-- What a step tells. -/
theorem step_facts {s : St} {e : Ev} (h0 : 0 ≤ s.count) (hx : stepX s e = 0) : evOk e = 0 ∧ s.time ≤ e.time ∧ (stepSt s e).time = e.time ∧ (stepSt s e).count = s.count + 1 ∧ (stepSt s e).run = s.run := by
  obtain ⟨hm, ht⟩ := stepX_zero hx
  obtain ⟨he, hc, _, _, htm⟩ := may_of hm
  have hev : evOk e = 0 := by
    unfold maySt at hm
    split at hm
    · cases hm
    · rename_i h1; simpa using h1
  rw [stepSt_tick hm ht h0 hc]
  exact ⟨hev, htm, rfl, by show (turnSt s e).count + 1 = _; rw [turn_count], turn_run s e⟩

theorem walk_can : ∀ (l : List Ev) (s : St) (i : Nat), CanS s → (walkGo s l i).2.2 = 0 →
    CanS (walkGo s l i).1 ∧ (walkGo s l i).1.count = s.count + l.length ∧ (walkGo s l i).1.run = s.run ∧ (walkGo s l i).2.1 = i + l.length ∧ ∀ (p : Ev) (k : Nat), p.time ≤ s.time → go15 p k l = true
  | [], s, i, h, _ => ⟨h, by simp [walkGo], rfl, by simp [walkGo], fun _ _ _ => rfl⟩
  | e :: r, s, i, h, hw => by
    simp only [walkGo] at hw ⊢
    by_cases hx : (stepX s e != 0) = true
    · rw [if_pos hx] at hw
      simp at hx
      exact absurd hw hx
    · rw [if_neg hx] at hw ⊢
      have hx0 : stepX s e = 0 := by simpa using hx
      obtain ⟨g1, g2, g3, g4, g5⟩ := step_facts (by have := h.count; omega) hx0
      obtain ⟨k1, k2, k3, k4, k5⟩ := walk_can r (stepSt s e) (i + 1) (step_can h hx0) hw
      refine ⟨k1, by rw [k2, g4]; simp; omega, by rw [k3, g5], by rw [k4]; simp; omega, fun p k hp => ?_⟩
      have hb : bad15 p k e = false := by
        unfold bad15
        rw [g1]
        have : decide (e.time < p.time) = false := by simp; omega
        rw [this]; simp
      simp only [go15, hb, Bool.false_eq_true, if_false]
      exact k5 e (k + 1) (by rw [g3]; exact Int.le_refl _)

theorem build_can {run : Int} {l : List Ev} (h : (buildGo run l).2.2 = 0) (hn : (buildGo run l).2.1 > 0) :
    CanS (buildGo run l).1 ∧ (buildGo run l).1.count = l.length ∧ (buildGo run l).1.run = run ∧ (buildGo run l).2.1 = l.length ∧ chk15 l = 0 := by
  unfold buildGo at h hn ⊢
  cases hr : runBad run with
  | true => rw [hr] at h; simp at h
  | false =>
    rw [hr] at h hn
    simp only [Bool.false_eq_true, if_false] at h hn ⊢
    have hrun : 1 ≤ run ∧ run ≤ 10 := by
      unfold runBad at hr
      simp at hr; exact hr
    cases l with
    | nil => simp [walkGo] at hn
    | cons e r =>
      simp only [walkGo] at h hn ⊢
      by_cases hx : (stepX (stN run) e != 0) = true
      · rw [if_pos hx] at h
        simp at hx
        exact absurd h hx
      · rw [if_neg hx] at h hn ⊢
        have hx0 : stepX (stN run) e = 0 := by simpa using hx
        obtain ⟨g1, g2, g3, g4, g5⟩ := step_facts (s := stN run) (e := e) (Int.le_refl 0) hx0
        obtain ⟨k1, k2, k3, k4, k5⟩ := walk_can r (stepSt (stN run) e) 1 (start_can hrun hx0) h
        have hcount : (walkGo (stepSt (stN run) e) r 1).1.count = ((e :: r).length : Int) := by
          rw [k2, g4]; show (0 : Int) + 1 + _ = _; simp; omega
        refine ⟨k1, hcount, by rw [k3, g5]; rfl, by rw [k4]; simp; omega, ?_⟩
        have hlen : ((e :: r).length : Int) ≤ 120 := by rw [← hcount]; exact k1.count.2
        unfold chk15
        rw [if_neg (by simpa using hlen)]
        have hb : bad15 ev00 0 e = false := by unfold bad15; rw [g1]; simp
        simp only [go15, hb, Bool.false_eq_true, if_false]
        rw [k5 e (0 + 1) (by rw [g3]; exact Int.le_refl _)]
        rfl

/-! ### What is read stays in its ranges -/
theorem zero_U : Val.zero.U := .mk 0 0 0 ⟨#[]⟩ [] ⟨by decide, by decide⟩ (by intro x h; cases h)
theorem turn_U {s : St} {e : Ev} (hs : s.U) (he : e.U) : (turnSt s e).U := by
  have a1 : (startedSt s e).U := ⟨he.value, hs.result, he.coef, hs.upds⟩
  have a2 : (scheduledSt s e).U := by unfold scheduledSt; split; exact hs; exact ⟨hs.input, hs.result, hs.coef, hs.upds⟩
  have a3 : (takenSt s e).U := by unfold takenSt; split; exact hs; exact ⟨hs.input, hs.result, hs.coef, hs.upds⟩
  have a4 : (goneSt s e).U := by unfold goneSt; split; exact hs; split <;> exact ⟨hs.input, hs.result, hs.coef, hs.upds⟩
  have a5 : (toldSt s e).U := by unfold toldSt; split; split; exact hs; exact ⟨hs.input, hs.result, hs.coef, hs.upds⟩; exact ⟨hs.input, hs.result, hs.coef, hs.upds⟩
  have a6 : (timerSt s e).U := by unfold timerSt; split; exact hs; split; exact hs; exact ⟨hs.input, hs.result, hs.coef, hs.upds⟩
  have a7 : (offSt s e).U := by unfold offSt; split; exact hs; exact ⟨hs.input, hs.result, hs.coef, hs.upds⟩
  have a8 : (accSt s e).U := by
    unfold accSt; split; exact hs; split; exact hs
    refine ⟨hs.input, hs.result, hs.coef, fun u hu => ?_⟩
    rcases List.mem_append.1 hu with hu | hu
    · exact hs.upds u (List.mem_of_mem_take hu)
    · rcases List.mem_cons.1 hu with rfl | hu
      · exact ⟨he.value, zero_U⟩
      · exact hs.upds u (List.mem_of_mem_drop hu)
  have a9 : (outSt s e).U := by
    unfold outSt; split; exact hs
    refine ⟨hs.input, hs.result, hs.coef, fun u hu => ?_⟩
    have hu' : u ∈ outU e.value (outI s e) s.updates := hu
    unfold outU at hu'
    split at hu'
    · rename_i u0 hu0
      rcases List.mem_or_eq_of_mem_set hu' with h | h
      · exact hs.upds u h
      · subst h; exact ⟨(hs.upds u0 (List.mem_of_getElem? hu0)).1, he.value⟩
    · exact hs.upds u hu'
  have a10 : (closedSt s e).U := ⟨hs.input, he.value, hs.coef, hs.upds⟩
  unfold turnSt
  repeat' split
  all_goals assumption

theorem step_U {s : St} {e : Ev} (hs : s.U) (he : e.U) : (stepSt s e).U := by
  unfold stepSt
  split
  · exact hs
  · split
    · exact hs
    · have h := turn_U hs he
      exact ⟨h.input, h.result, h.coef, h.upds⟩
theorem walk_U : ∀ (l : List Ev) (s : St) (i : Nat), s.U → (∀ e ∈ l, e.U) → (walkGo s l i).1.U
  | [], s, i, hs, _ => hs
  | e :: r, s, i, hs, hl => by
    simp only [walkGo]
    split
    · exact hs
    · exact walk_U r _ _ (step_U hs (hl e List.mem_cons_self)) fun x hx => hl x (List.mem_cons_of_mem _ hx)
theorem stN_U (run : Int) : (stN run).U := ⟨zero_U, zero_U, ⟨by show (0 : Int) ≤ 0; decide, by show (0 : Int) < _; decide⟩, fun u hu => by cases hu⟩
theorem build_U (run : Int) (l : List Ev) (hl : ∀ e ∈ l, e.U) : (buildGo run l).1.U := by
  unfold buildGo
  split
  · exact stN_U 0
  · exact walk_U l _ _ (stN_U run) hl

set_option maxRecDepth 100000 in
theorem law_FoldCan (run : Int) (l : List Ev) (hu : ∀ e ∈ l, e.U) : PCall PP 3 [I64 run, FE l] (B1 true) := by
  refine pcall_of TTok Tryz.func3 rfl rfl rfl rfl rfl rfl (fun _ => ?_)
  have hl : (l.map Ev.enc).length = l.length := List.length_map _
  (repeat' ((conv => whnf); first | refine bsplit (fun _ => ?_) (fun _ => ?_) | refine adraw ?_ | refine leave ?_ | refine acall (law17_few l) ?_ | refine dcall (law17_few l) ?_ | refine GCall.sym _ (fun hg => PC.own (law17_few l)) ?_ | refine acall (law17_awake) ?_ | refine dcall (law17_awake) ?_ | refine GCall.sym _ (fun hg => PC.own (law17_awake)) ?_ | refine acall (fold_Legal run l) ?_ | refine dcall (fold_Legal run l) ?_ | refine GCall.sym _ (fun hg => PC.own (fold_Legal run l)) ?_ | refine acall (fold_Build run l) ?_ | refine dcall (fold_Build run l) ?_ | refine GCall.sym _ (fun hg => PC.own (fold_Build run l)) ?_ | refine acall (ref16_Can (buildGo run l).1 (build_U run l hu)) ?_ | refine dcall (ref16_Can (buildGo run l).1 (build_U run l hu)) ?_ | refine GCall.sym _ (fun hg => PC.own (ref16_Can (buildGo run l).1 (build_U run l hu))) ?_ | refine acall (ref15_Check l hu) ?_ | refine dcall (ref15_Check l hu) ?_ | refine GCall.sym _ (fun hg => PC.own (ref15_Check l hu)) ?_ | refine And.intro (by first | assumption | omega | (simp; omega)) ?_)) <;> (try (conv => whnf))
  · exact ⟨rfl⟩
  · rename_i h
    refine ⟨b1_inj ?_⟩
    simp only [Bool.cond_true_left, Bool.or_eq_false_iff, Bool.not_eq_false', Bool.and_eq_true, beq_iff_eq, decide_eq_true_eq] at h
    obtain ⟨_, h2, h3⟩ := h
    obtain ⟨k1, k2, k3, k4, k5⟩ := build_can h2 (by omega)
    rw [h2, (canSt_iff _).2 k1, k5, k2, k3, k4, hl]
    simp

end Go.AW

