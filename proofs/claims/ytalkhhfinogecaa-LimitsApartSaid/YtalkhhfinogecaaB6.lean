/- Policies, commands: what may be. -/
import Derived.Test.YtalkhhfinogecaaB5
namespace Go.AW
open Go Go.Proofs

structure Pol where
  first : Int
  coef : Int
  most : Int
def Pol.enc (p : Pol) : List F := [.sc (.int .i64 p.first), .sc (.int .u64 p.coef), .sc (.int .i64 p.most)]

def delayOk (n : Int) : Bool := decide (n ≥ 0) && decide (n ≤ 1073741824)
theorem policy_delay (n : Int) : PCall PP 112 [I64 n] (B1 (delayOk n)) := by
  refine pcall_of TTok Try.func112 rfl rfl rfl rfl rfl rfl (fun _ => ?_)
  (repeat' ((conv => whnf); first | refine bsplit (fun _ => ?_) (fun _ => ?_) | refine adraw ?_ | refine leave ?_)) <;> (try (conv => whnf))
  (refine ⟨?_⟩; (try simp only [Bool.cond_false_right, Bool.cond_true_left] at *); first | (simp only [delayOk, *, if_true, Bool.false_eq_true, if_false]; done) | (simp_all [Bool.cond_eq_ite, delayOk]; done) | (simp_all [Bool.cond_eq_ite, delayOk]; grind))

def coefOk (x : Int) : Bool := canon x == x && fkind x != 1
theorem policy_coef (x : Int) : PCall PP 113 [U64 x] (B1 (coefOk x)) := by
  refine pcall_of TTok Try.func113 rfl rfl rfl rfl rfl rfl (fun _ => ?_)
  (repeat' ((conv => whnf); first | refine bsplit (fun _ => ?_) (fun _ => ?_) | refine adraw ?_ | refine leave ?_ | refine acall (floats_Canon _) ?_ | refine dcall (floats_Canon _) ?_ | refine GCall.sym _ (fun _ => PC.own (floats_Canon _)) ?_ | refine acall (floats_Kind _) ?_ | refine dcall (floats_Kind _) ?_ | refine GCall.sym _ (fun _ => PC.own (floats_Kind _)) ?_)) <;> (try (conv => whnf))
  (refine ⟨?_⟩; (try simp only [Bool.cond_false_right, Bool.cond_true_left] at *); first | (simp only [coefOk, *, if_true, Bool.false_eq_true, if_false]; done) | (simp_all [Bool.cond_eq_ite, coefOk]; done) | (simp_all [Bool.cond_eq_ite, coefOk]; grind))

def polOk (p : Pol) : Int := if (delayOk p.first && delayOk p.most && coefOk p.coef) = true then 0 else 1
theorem policy_Check (p : Pol) : PCall PP 63 [fv p.enc] (I64 (polOk p)) := by
  refine pcall_of TTok Try.func63 rfl rfl rfl rfl rfl rfl (fun _ => ?_)
  (repeat' ((conv => whnf); first | refine bsplit (fun _ => ?_) (fun _ => ?_) | refine adraw ?_ | refine leave ?_ | refine acall (policy_delay _) ?_ | refine dcall (policy_delay _) ?_ | refine GCall.sym _ (fun _ => PC.own (policy_delay _)) ?_ | refine acall (policy_coef _) ?_ | refine dcall (policy_coef _) ?_ | refine GCall.sym _ (fun _ => PC.own (policy_coef _)) ?_)) <;> (try (conv => whnf))
  all_goals (refine ⟨?_⟩; (try simp only [Bool.cond_false_right, Bool.cond_true_left] at *); first | (simp only [polOk, *, if_true, Bool.false_eq_true, if_false]; done) | (simp_all [Bool.cond_eq_ite, polOk]; done) | (simp_all [Bool.cond_eq_ite, polOk]; grind))

structure Cmd where
  kind : Int
  name : ByteArray
  value : Val
  delay : Int
def Cmd.enc (c : Cmd) : List F := [.sc (.int .i64 c.kind), .sc (.string c.name), .sc (.int .i64 c.value.kind), .sc (.int .i64 c.value.int), .sc (.int .u64 c.value.bits), .sc (.string c.value.text), .sl 5 64 (Val.encs c.value.list), .sc (.int .i64 c.delay)]

def cmName (k : Int) : Bool := k == 1 || k == 2 || k == 4 || k == 5 || k == 6
def cmText (k : Int) : Bool := k == 8
def cmVal (k : Int) : Bool := k == 5 || k == 6 || k == 3 || k == 7
def cmDelay (k : Int) : Bool := k == 1
theorem command_fields (k : Int) : PCall PP 95 [I64 k] (.tup [B1 (cmName k), B1 (cmText k), B1 (cmVal k), B1 (cmDelay k)]) := by
  refine pcall_of TTok Try.func95 rfl rfl rfl rfl rfl rfl (fun _ => ?_)
  (repeat' ((conv => whnf); first | refine bsplit (fun _ => ?_) (fun _ => ?_) | refine adraw ?_ | refine leave ?_)) <;> (try (conv => whnf))
  all_goals (refine ⟨?_⟩; (try simp only [Bool.cond_false_right, Bool.cond_true_left] at *); first | (simp only [cmName, cmText, cmVal, cmDelay, *, if_true, Bool.false_eq_true, if_false]; done) | (simp_all [Bool.cond_eq_ite, cmName, cmText, cmVal, cmDelay]; done) | (simp_all [Bool.cond_eq_ite, cmName, cmText, cmVal, cmDelay]; grind))

def cmdWords (c : Cmd) : Bool := if cmName c.kind = true then nameOk c.name else if cmText c.kind = true then decide ((c.name.size : Int) ≤ 200) else decide (c.name = ⟨#[]⟩)
theorem command_words (c : Cmd) : PCall PP 96 [fv c.enc] (B1 (cmdWords c)) := by
  refine pcall_of TTok Try.func96 rfl rfl rfl rfl rfl rfl (fun _ => ?_)
  (repeat' ((conv => whnf); first | refine bsplit (fun _ => ?_) (fun _ => ?_) | refine adraw ?_ | refine leave ?_ | refine acall (command_fields _) ?_ | refine dcall (command_fields _) ?_ | refine GCall.sym _ (fun _ => PC.own (command_fields _)) ?_ | refine acall (names_Name _) ?_ | refine dcall (names_Name _) ?_ | refine GCall.sym _ (fun _ => PC.own (names_Name _)) ?_ | refine acall (names_Text _) ?_ | refine dcall (names_Text _) ?_ | refine GCall.sym _ (fun _ => PC.own (names_Text _)) ?_)) <;> (try (conv => whnf))
  all_goals (refine ⟨?_⟩; (try simp only [Bool.cond_false_right, Bool.cond_true_left] at *); first | (simp only [cmdWords, *, if_true, Bool.false_eq_true, if_false]; done) | (simp_all [Bool.cond_eq_ite, cmdWords]; done) | (simp_all [Bool.cond_eq_ite, cmdWords]; grind))

def Val.zero : Val := .mk 0 0 0 ⟨#[]⟩ []
def cmdOk (c : Cmd) : Int :=
  if (!(decide (c.kind ≥ 1) && decide (c.kind ≤ 9)) || !cmdWords c || okV c.value != 0 || decide (c.delay < 0) || decide (c.delay > 1073741824)) = true then 1
  else if ((!cmVal c.kind && !sameV c.value Val.zero) || (!cmDelay c.kind && c.delay != 0)) = true then 1 else 0
theorem command_Check (c : Cmd) : PCall PP 41 [fv c.enc] (I64 (cmdOk c)) := by
  refine pcall_of TTok Try.func41 rfl rfl rfl rfl rfl rfl (fun _ => ?_)
  (repeat' ((conv => whnf); first | refine bsplit (fun _ => ?_) (fun _ => ?_) | refine adraw ?_ | refine leave ?_ | refine acall (command_fields _) ?_ | refine dcall (command_fields _) ?_ | refine GCall.sym _ (fun _ => PC.own (command_fields _)) ?_ | refine acall (command_words c) ?_ | refine dcall (command_words c) ?_ | refine GCall.sym _ (fun _ => PC.own (command_words c)) ?_ | refine acall (value_Check c.value) ?_ | refine dcall (value_Check c.value) ?_ | refine GCall.sym _ (fun _ => PC.own (value_Check c.value)) ?_ | refine acall (value_Same c.value Val.zero) ?_ | refine dcall (value_Same c.value Val.zero) ?_ | refine GCall.sym _ (fun _ => PC.own (value_Same c.value Val.zero)) ?_)) <;> (try (conv => whnf))
  all_goals (refine ⟨?_⟩; (try simp only [Bool.cond_false_right, Bool.cond_true_left] at *); first | (simp only [cmdOk, *, if_true, Bool.false_eq_true, if_false]; done) | (simp_all [Bool.cond_eq_ite, cmdOk]; done) | (simp_all [Bool.cond_eq_ite, cmdOk]; grind))

end Go.AW
