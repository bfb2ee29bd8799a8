/- Limits: what a request may have. -/
import Derived.Test.YtalkhhfinogecaaB6
namespace Go.AW
open Go Go.Proofs

structure Ans where
  op : Int
  value : Val
def Ans.enc (a : Ans) : List F := [.sc (.int .i64 a.op), .sc (.int .i64 a.value.kind), .sc (.int .i64 a.value.int), .sc (.int .u64 a.value.bits), .sc (.string a.value.text), .sl 5 64 (Val.encs a.value.list)]

structure Req where
  kind : Int
  flow : ByteArray
  request : ByteArray
  name : ByteArray
  value : Val
  run : Int
  num : Int
  wait : Int
  policy : Pol
  commands : List Cmd
  answers : List Ans
def Req.enc (r : Req) : List F := [.sc (.int .i64 r.kind), .sc (.string r.flow), .sc (.string r.request), .sc (.string r.name), .sc (.int .i64 r.value.kind), .sc (.int .i64 r.value.int), .sc (.int .u64 r.value.bits), .sc (.string r.value.text), .sl 5 64 (Val.encs r.value.list),
  .sc (.int .i64 r.run), .sc (.int .i64 r.num), .sc (.int .i64 r.wait), .sc (.int .i64 r.policy.first), .sc (.int .u64 r.policy.coef), .sc (.int .i64 r.policy.most), .sl 8 96 (r.commands.map Cmd.enc), .sl 6 72 (r.answers.map Ans.enc)]

def fieldsOf (k : Int) : Int :=
  if (k == 1) = true then 175 else if (k == 3) = true then 175 else if (k == 2) = true then 15 else if (k == 4) = true then 77 else if (k == 5) = true then 107 else if (k == 6) = true then 3 else if (k == 7) = true then 7 else if (k == 8) = true then 35
  else if (k == 9) = true then 1 else if (k == 13) = true then 1 else if (k == 10) = true then 33 else if (k == 11) = true then 305 else if (k == 12) = true then 53 else 0
theorem limits_Fields (k : Int) : PCall PP 20 [I64 k] (I64 (fieldsOf k)) := by
  refine pcall_of TTok Try.func20 rfl rfl rfl rfl rfl rfl (fun _ => ?_)
  (repeat' ((conv => whnf); first | refine bsplit (fun _ => ?_) (fun _ => ?_) | refine adraw ?_ | refine leave ?_)) <;> (try (conv => whnf))
  all_goals (refine ⟨?_⟩; (try simp only [Bool.cond_false_right, Bool.cond_true_left] at *) <;> first | (simp only [fieldsOf, *, if_true, Bool.false_eq_true, if_false]; done) | (simp_all [Bool.cond_eq_ite, fieldsOf]; done) | (simp_all [Bool.cond_eq_ite, fieldsOf]; grind))

def hasF (k f : Int) : Bool := IntKind.i64.wrap (BitVec.ofInt 64 (fieldsOf k) &&& BitVec.ofInt 64 f).toNat != 0
theorem limits_has (r : Req) (f : Int) : PCall PP 62 [fv r.enc, I64 f] (B1 (hasF r.kind f)) := by
  refine pcall_of TTok Try.func62 rfl rfl rfl rfl rfl rfl (fun _ => ?_)
  (repeat' ((conv => whnf); first | refine bsplit (fun _ => ?_) (fun _ => ?_) | refine adraw ?_ | refine leave ?_ | refine acall (limits_Fields _) ?_ | refine dcall (limits_Fields _) ?_ | refine GCall.sym _ (fun _ => PC.own (limits_Fields _)) ?_)) <;> (try (conv => whnf))
  exact ⟨rfl⟩

def polZero (p : Pol) : Bool := p.first == 0 && (p.coef == 0 && (p.most == 0 && true))
def bare (r : Req) : Bool :=
  if (!hasF r.kind 2 && !decide (r.request = ⟨#[]⟩)) = true then false else if (!hasF r.kind 4 && !decide (r.name = ⟨#[]⟩)) = true then false
  else if (!hasF r.kind 8 && !sameV r.value Val.zero) = true then false else if (!hasF r.kind 16 && r.run != 0) = true then false else if (!hasF r.kind 32 && r.num != 0) = true then false
  else if (!hasF r.kind 64 && r.wait != 0) = true then false else if (!hasF r.kind 128 && !polZero r.policy) = true then false
  else hasF r.kind 256 || ((r.commands.length : Int) == 0 && (r.answers.length : Int) == 0)
theorem limits_bare (r : Req) : PCall PP 58 [fv r.enc] (B1 (bare r)) := by
  refine pcall_of TTok Try.func58 rfl rfl rfl rfl rfl rfl (fun _ => ?_)
  (repeat' ((conv => whnf); first | refine bsplit (fun _ => ?_) (fun _ => ?_) | refine adraw ?_ | refine leave ?_ | refine acall (limits_has r _) ?_ | refine dcall (limits_has r _) ?_ | refine GCall.sym _ (fun _ => PC.own (limits_has r _)) ?_ | refine acall (value_Same r.value Val.zero) ?_ | refine dcall (value_Same r.value Val.zero) ?_ | refine GCall.sym _ (fun _ => PC.own (value_Same r.value Val.zero)) ?_)) <;> (try (conv => whnf))
  all_goals try simp only [List.length_map] at *
  all_goals (refine ⟨?_⟩; (try simp only [Bool.cond_false_right, Bool.cond_true_left] at *) <;> first | (simp only [bare, polZero, *, if_true, Bool.false_eq_true, if_false]; done) | (simp_all [Bool.cond_eq_ite, bare, polZero]; done) | (simp_all [Bool.cond_eq_ite, bare, polZero]; grind))

def words (r : Req) : Bool :=
  if (!nameOk r.flow || (hasF r.kind 2 && !nameOk r.request)) = true then false
  else if (r.kind == 7) = true then decide ((r.name.size : Int) ≤ 200) else if (r.kind == 12) = true then decide ((r.name.size : Int) ≤ 200) else !hasF r.kind 4 || nameOk r.name
theorem limits_words (r : Req) : PCall PP 59 [fv r.enc] (B1 (words r)) := by
  refine pcall_of TTok Try.func59 rfl rfl rfl rfl rfl rfl (fun _ => ?_)
  (repeat' ((conv => whnf); first | refine bsplit (fun _ => ?_) (fun _ => ?_) | refine adraw ?_ | refine leave ?_ | refine acall (limits_has r _) ?_ | refine dcall (limits_has r _) ?_ | refine GCall.sym _ (fun _ => PC.own (limits_has r _)) ?_ | refine acall (names_Name _) ?_ | refine dcall (names_Name _) ?_ | refine GCall.sym _ (fun _ => PC.own (names_Name _)) ?_ | refine acall (names_Text _) ?_ | refine dcall (names_Text _) ?_ | refine GCall.sym _ (fun _ => PC.own (names_Text _)) ?_)) <;> (try (conv => whnf))
  all_goals (refine ⟨?_⟩; (try simp only [Bool.cond_false_right, Bool.cond_true_left] at *) <;> first | (simp only [words, *, if_true, Bool.false_eq_true, if_false]; done) | (simp_all [Bool.cond_eq_ite, words]; done) | (simp_all [Bool.cond_eq_ite, words]; grind))

def lowOf (k : Int) : Int := if (k == 5 || k == 8 || k == 10 || k == 12) = true then 1 else 0
def highOf (k : Int) : Int := if (k == 1 || k == 3 || k == 10) = true then 1073741824 else if (k == 5) = true then 2 else if (k == 8 || k == 11 || k == 12) = true then 120 else 0
def bnds (l h : Int) : List F := [.sc (.int .i64 l), .sc (.int .i64 h)]
theorem limits_numbers (k : Int) (h : 1 ≤ k ∧ k ≤ 13) : PCall PP 110 [I64 k] (fv (bnds (lowOf k) (highOf k))) := by
  have : k = 1 ∨ k = 2 ∨ k = 3 ∨ k = 4 ∨ k = 5 ∨ k = 6 ∨ k = 7 ∨ k = 8 ∨ k = 9 ∨ k = 10 ∨ k = 11 ∨ k = 12 ∨ k = 13 := by omega
  rcases this with rfl | rfl | rfl | rfl | rfl | rfl | rfl | rfl | rfl | rfl | rfl | rfl | rfl
  all_goals
    refine pcall_of TTok Try.func110 rfl rfl rfl rfl rfl rfl (fun _ => ?_)
    (repeat' ((conv => whnf); first | refine bsplit (fun _ => ?_) (fun _ => ?_) | refine adraw ?_ | refine leave ?_)) <;> (try (conv => whnf))
    exact ⟨rfl⟩

theorem bounds_in (l h n : Int) : PCall PP 111 [fv (bnds l h), I64 n] (B1 (decide (n ≥ l) && decide (n ≤ h))) := by
  refine pcall_of TTok Try.func111 rfl rfl rfl rfl rfl rfl (fun _ => ?_)
  (repeat' ((conv => whnf); first | refine bsplit (fun _ => ?_) (fun _ => ?_) | refine adraw ?_ | refine leave ?_)) <;> (try (conv => whnf))
  (refine ⟨?_⟩; (try simp only [Bool.cond_false_right, Bool.cond_true_left] at *) <;> first | (simp only [*, if_true, Bool.false_eq_true, if_false]; done) | (simp_all [Bool.cond_eq_ite]; done) | (simp_all [Bool.cond_eq_ite]; grind))

def counts (r : Req) : Bool :=
  (decide (r.num ≥ lowOf r.kind) && decide (r.num ≤ highOf r.kind)) && (decide (r.wait ≥ 0) && decide (r.wait ≤ 1073741824)) && (!hasF r.kind 16 || (decide (r.run ≥ 1) && decide (r.run ≤ 10)))
theorem limits_counts (r : Req) (h : 1 ≤ r.kind ∧ r.kind ≤ 13) : PCall PP 61 [fv r.enc] (B1 (counts r)) := by
  refine pcall_of TTok Try.func61 rfl rfl rfl rfl rfl rfl (fun _ => ?_)
  (repeat' ((conv => whnf); first | refine bsplit (fun _ => ?_) (fun _ => ?_) | refine adraw ?_ | refine leave ?_ | refine acall (limits_has r _) ?_ | refine dcall (limits_has r _) ?_ | refine GCall.sym _ (fun _ => PC.own (limits_has r _)) ?_ | refine acall (limits_numbers r.kind h) ?_ | refine dcall (limits_numbers r.kind h) ?_ | refine GCall.sym _ (fun _ => PC.own (limits_numbers r.kind h)) ?_ | refine acall (bounds_in _ _ _) ?_ | refine dcall (bounds_in _ _ _) ?_ | refine GCall.sym _ (fun _ => PC.own (bounds_in _ _ _)) ?_)) <;> (try (conv => whnf))
  (refine ⟨?_⟩; (try simp only [Bool.cond_false_right, Bool.cond_true_left] at *) <;> first | (simp only [counts, *, if_true, Bool.false_eq_true, if_false]; done) | (simp_all [Bool.cond_eq_ite, counts]; done) | (simp_all [Bool.cond_eq_ite, counts]; grind))


theorem fit_rows {α : Type} {enc : α → List F} {l : List α} {n b : Nat} (h : FitF (.sl n b (l.map enc))) : l.length * b ≤ 140737488355328 := by
  cases h with
  | sl n b es h k => simpa using h

theorem req_fit {r : Req} (h : Fit r.enc) : r.commands.length * 96 ≤ 140737488355328 ∧ r.answers.length * 72 ≤ 140737488355328 :=
  ⟨fit_rows (h (.sl 8 96 (r.commands.map Cmd.enc)) (by simp [Req.enc])), fit_rows (h (.sl 6 72 (r.answers.map Ans.enc)) (by simp [Req.enc]))⟩

def taskOk (r : Req) : Int :=
  if (decide ((r.commands.length : Int) > 12) || decide ((r.answers.length : Int) > 8)) = true then 5
  else if (r.commands.any fun c => cmdOk c != 0) = true then 1
  else if (r.answers.any fun a => decide (a.op < 1) || okV a.value != 0) = true then 1
  else if (decide ((r.commands.length : Int) > 0) && r.num == 0) = true then 1 else 0

theorem any_of {α : Type} {l : List α} {p : α → Bool} {k : Nat} {x : α} (hx : l[k]? = some x) (h : p x = true) : l.any p = true := List.any_eq_true.2 ⟨x, List.mem_of_getElem? hx, h⟩
theorem any_no {α : Type} {l : List α} {p : α → Bool} (h : ∀ (k : Nat) (x : α), l[k]? = some x → p x = false) : l.any p = false := by
  rw [List.any_eq_false]
  intro x hx
  obtain ⟨k, hk⟩ := List.getElem?_of_mem hx
  simp [h k x hk]

theorem limits_task (r : Req) : PCall PP 64 [fv r.enc] (I64 (taskOk r)) := by
  refine pcall_of TTok Try.func64 rfl rfl rfl rfl rfl rfl (fun hfit => ?_)
  obtain ⟨hb1, hb2⟩ := req_fit (fitV_fv hfit.1)
  have hl1 : (r.commands.map Cmd.enc).length = r.commands.length := List.length_map _
  have hl2 : (r.answers.map Ans.enc).length = r.answers.length := List.length_map _
  (repeat' ((conv => whnf); first | refine bsplit (fun _ => ?_) (fun _ => ?_) | refine adraw ?_ | refine leave ?_)) <;> (try (conv => whnf))
  · (refine ⟨?_⟩; (try simp only [Bool.cond_false_right, Bool.cond_true_left] at *) <;> first | (simp only [taskOk, List.length_map, *, if_true, Bool.false_eq_true, if_false]; done) | (simp_all [Bool.cond_eq_ite, taskOk, List.length_map]; done) | (simp_all [Bool.cond_eq_ite, taskOk, List.length_map]; grind))
  rename_i h0
  simp only [List.length_map, Bool.cond_true_left] at h0
  refine aloopI (fun k : Nat => [(1, .ptr 0 0), (21, .fr (.sl 8 96 (r.commands.map Cmd.enc))), (22, I64 r.commands.length), (23, I64 k)]) (fun _ => [.cells (r.enc.map .fr)]) (fun k => r.commands.length - k)
    (fun k => k ≤ r.commands.length ∧ ∀ j < k, ∀ x, r.commands[j]? = some x → (cmdOk x != 0) = false) 0 ⟨by omega, by intro j h; omega⟩ (.same ⟨rfl, rfl, congrArg (fun n : Nat => I64 n) hl1, rfl, trivial⟩ rfl) ?_
  rintro k ⟨hk, hin⟩
  (repeat' ((conv => whnf); first | refine bsplit (fun _ => ?_) (fun _ => ?_) | refine adraw ?_ | refine leave ?_)) <;> (try (conv => whnf))
  · rename_i h1
    have hk2 : k < r.commands.length := by simp at h1; omega
    obtain ⟨x, hx⟩ : ∃ x, r.commands[k]? = some x := ⟨_, List.getElem?_eq_getElem hk2⟩
    refine aidx rfl hx ?_
    (repeat' ((conv => whnf); first | refine bsplit (fun _ => ?_) (fun _ => ?_) | refine adraw ?_ | refine leave ?_ | refine acall (command_Check x) ?_ | refine dcall (command_Check x) ?_ | refine GCall.sym _ (fun _ => PC.own (command_Check x)) ?_)) <;> (try (conv => whnf))
    · rename_i h2
      have := any_of (p := fun c => cmdOk c != 0) hx h2
      exact ⟨i64_inj (by simp only [taskOk, h0, this, if_true, Bool.false_eq_true, if_false])⟩
    · rename_i h2
      exact ⟨⟨k + 1, by omega, fun j hj x' hx' => by
        by_cases hjk : j = k
        · subst hjk; rw [hx] at hx'; cases hx'; exact h2
        · exact hin j (by omega) x' hx'⟩, by show r.commands.length - (k + 1) < r.commands.length - k; omega, .trunc [_] ⟨rfl, rfl, rfl, i64_inj (wrap_add hk2 (by omega)), trivial⟩ rfl rfl rfl⟩
  rename_i h1
  have hk2 : r.commands.length ≤ k := by simp at h1; omega
  have hc : (r.commands.any fun c => cmdOk c != 0) = false := any_no fun j x hx => hin j (by have := (List.getElem?_eq_some_iff.1 hx).1; omega) x hx
  clear h1 hk2 hin hk
  refine aloopI (fun k : Nat => [(1, .ptr 0 0), (33, .fr (.sl 6 72 (r.answers.map Ans.enc))), (34, I64 r.answers.length), (35, I64 k)]) (fun _ => [.cells (r.enc.map .fr)]) (fun k => r.answers.length - k)
    (fun k => k ≤ r.answers.length ∧ ∀ j < k, ∀ x, r.answers[j]? = some x → (decide (x.op < 1) || okV x.value != 0) = false) 0 ⟨by omega, by intro j h; omega⟩ (.same ⟨rfl, rfl, congrArg (fun n : Nat => I64 n) hl2, rfl, trivial⟩ rfl) ?_
  rintro k ⟨hk, hin⟩
  (repeat' ((conv => whnf); first | refine bsplit (fun _ => ?_) (fun _ => ?_) | refine adraw ?_ | refine leave ?_)) <;> (try (conv => whnf))
  · rename_i h1
    have hk2 : k < r.answers.length := by simp at h1; omega
    obtain ⟨x, hx⟩ : ∃ x, r.answers[k]? = some x := ⟨_, List.getElem?_eq_getElem hk2⟩
    refine aidx rfl hx ?_
    (repeat' ((conv => whnf); first | refine bsplit (fun _ => ?_) (fun _ => ?_) | refine adraw ?_ | refine leave ?_ | refine acall (value_Check x.value) ?_ | refine dcall (value_Check x.value) ?_ | refine GCall.sym _ (fun _ => PC.own (value_Check x.value)) ?_)) <;> (try (conv => whnf))
    · rename_i h2
      rw [Bool.cond_true_left] at h2
      have := any_of (p := fun a : Ans => decide (a.op < 1) || okV a.value != 0) hx h2
      exact ⟨i64_inj (by simp only [taskOk, h0, hc, this, if_true, Bool.false_eq_true, if_false])⟩
    · rename_i h2
      rw [Bool.cond_true_left] at h2
      exact ⟨⟨k + 1, by omega, fun j hj x' hx' => by
        by_cases hjk : j = k
        · subst hjk; rw [hx] at hx'; cases hx'; exact h2
        · exact hin j (by omega) x' hx'⟩, by show r.answers.length - (k + 1) < r.answers.length - k; omega, .trunc [_] ⟨rfl, rfl, rfl, i64_inj (wrap_add hk2 (by omega)), trivial⟩ rfl rfl rfl⟩
  all_goals
    rename_i h1 h2
    have hk2 : r.answers.length ≤ k := by simp at h1; omega
    have ha : (r.answers.any fun a => decide (a.op < 1) || okV a.value != 0) = false := any_no fun j x hx => hin j (by have := (List.getElem?_eq_some_iff.1 hx).1; omega) x hx
    simp only [List.length_map, Bool.cond_false_right] at h2
    exact ⟨i64_inj (by simp only [taskOk, h0, hc, ha, h2, if_true, Bool.false_eq_true, if_false])⟩

def limOk (r : Req) : Int :=
  if (fieldsOf r.kind == 0) = true then 1 else if (!bare r) = true then 1 else if (!words r) = true then 1 else if (okV r.value != 0) = true then 1 else if (!counts r) = true then 1
  else if (hasF r.kind 128 && polOk r.policy != 0) = true then 1 else taskOk r

theorem fieldsOf_range {k : Int} (h : (fieldsOf k == 0) = false) : 1 ≤ k ∧ k ≤ 13 := by
  apply Classical.byContradiction
  intro hn
  have hne : ∀ c : Int, 1 ≤ c → c ≤ 13 → (k == c) = false := fun c h1 h2 => by
    have : k ≠ c := by omega
    simpa using this
  simp [fieldsOf, hne] at h

theorem limits_Check (r : Req) : PCall PP 24 [fv r.enc] (I64 (limOk r)) := by
  refine pcall_of TTok Try.func24 rfl rfl rfl rfl rfl rfl (fun hfit => ?_)
  (repeat' ((conv => whnf); first | refine bsplit (fun _ => ?_) (fun _ => ?_) | refine adraw ?_ | refine leave ?_ | refine acall (limits_Fields _) ?_ | refine dcall (limits_Fields _) ?_ | refine GCall.sym _ (fun _ => PC.own (limits_Fields _)) ?_ | refine acall (limits_bare r) ?_ | refine dcall (limits_bare r) ?_ | refine GCall.sym _ (fun _ => PC.own (limits_bare r)) ?_ | refine acall (limits_words r) ?_ | refine dcall (limits_words r) ?_ | refine GCall.sym _ (fun _ => PC.own (limits_words r)) ?_ | refine acall (value_Check r.value) ?_ | refine dcall (value_Check r.value) ?_ | refine GCall.sym _ (fun _ => PC.own (value_Check r.value)) ?_)) <;> (try (conv => whnf))
  all_goals try ((refine ⟨?_⟩; (try simp only [Bool.cond_false_right, Bool.cond_true_left] at *) <;> first | (simp only [limOk, *, if_true, Bool.false_eq_true, if_false]; done) | (simp_all [Bool.cond_eq_ite, limOk]; done) | (simp_all [Bool.cond_eq_ite, limOk]; grind)); done)
  rename_i h1 h2 h3 h4
  (repeat' ((conv => whnf); first | refine bsplit (fun _ => ?_) (fun _ => ?_) | refine adraw ?_ | refine leave ?_ | refine acall (limits_counts r (fieldsOf_range h1)) ?_ | refine dcall (limits_counts r (fieldsOf_range h1)) ?_ | refine GCall.sym _ (fun _ => PC.own (limits_counts r (fieldsOf_range h1))) ?_ | refine acall (limits_has r _) ?_ | refine dcall (limits_has r _) ?_ | refine GCall.sym _ (fun _ => PC.own (limits_has r _)) ?_ | refine acall (policy_Check r.policy) ?_ | refine dcall (policy_Check r.policy) ?_ | refine GCall.sym _ (fun _ => PC.own (policy_Check r.policy)) ?_ | refine acall (limits_task r) ?_ | refine dcall (limits_task r) ?_ | refine GCall.sym _ (fun _ => PC.own (limits_task r)) ?_)) <;> (try (conv => whnf))
  all_goals (refine ⟨?_⟩; (try simp only [Bool.cond_false_right, Bool.cond_true_left] at *) <;> first | (simp only [limOk, *, if_true, Bool.false_eq_true, if_false]; done) | (simp_all [Bool.cond_eq_ite, limOk]; done) | (simp_all [Bool.cond_eq_ite, limOk]; grind))

end Go.AW
