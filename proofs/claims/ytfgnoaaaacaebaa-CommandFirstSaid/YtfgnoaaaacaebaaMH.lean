/- Commands: what they want. -/
import Derived.Test.YtfgnoaaaacaebaaMF
import Derived.Test.YtfgnoaaaacaebaaMC
import Derived.Test.YtfgnoaaaacaebaaMB
namespace Go.AW
open Go Go.Proofs

structure Ask where
  op : Int
  name : ByteArray
  value : Val
def Ask.enc (a : Ask) : List F := [.sc (.int .i64 a.op), .sc (.string a.name), .sc (.int .i64 a.value.kind), .sc (.int .i64 a.value.int), .sc (.int .u64 a.value.bits), .sc (.string a.value.text), .sl 5 64 (Val.encs a.value.list)]
def ask0 : Ask := ⟨0, ⟨#[]⟩, Val.zero⟩
abbrev FA (l : List Ask) : V := .fr (.sl 7 88 (l.map Ask.enc))
abbrev FC (l : List Cmd) : V := .fr (.sl 8 96 (l.map Cmd.enc))

def cmCloses (k : Int) : Bool := k == 7 || k == 8 || k == 9
theorem command_closes (c : Cmd) : PCall PP 99 [fv c.enc] (B1 (cmCloses c.kind)) := by
  refine pcall_of TTok Try.func99 rfl rfl rfl rfl rfl rfl (fun _ => ?_)
  (repeat' ((conv => whnf); first | refine bsplit (fun _ => ?_) (fun _ => ?_) | refine adraw ?_ | refine leave ?_ | refine And.intro (by first | assumption | omega | (simp; omega)) ?_)) <;> (try (conv => whnf))
  all_goals (refine ⟨?_⟩; (try simp only [Bool.cond_false_right, Bool.cond_true_left] at *) <;> first | (simp only [cmCloses, *, if_true, Bool.false_eq_true, if_false]; done) | (simp_all [Bool.cond_eq_ite, cmCloses]; done) | (simp_all [Bool.cond_eq_ite, cmCloses]; grind))

def findA (name : ByteArray) : List Ask → Option Ask
  | [] => none
  | a :: r => if a.name = name then some a else findA name r
def askOf : Option Ask → Ask
  | some a => a
  | none => ask0

theorem command_ask (l : List Ask) (name : ByteArray) : PCall PP 160 [FA l, S1 name] (.tup [fv (askOf (findA name l)).enc, B1 (findA name l).isSome]) := by
  refine pcall_of TTok Try.func160 rfl rfl rfl rfl rfl rfl (fun hfit => ?_)
  have hb : l.length * 88 ≤ 140737488355328 := fit_rows (show FitF _ from hfit.1)
  have hl : (l.map Ask.enc).length = l.length := List.length_map _
  (repeat' ((conv => whnf); first | refine bsplit (fun _ => ?_) (fun _ => ?_) | refine adraw ?_ | refine leave ?_ | refine And.intro (by first | assumption | omega | (simp; omega)) ?_)) <;> (try (conv => whnf))
  refine aloopK [1, 4, 8, 9] (fun k : Nat => [(10, I64 k)]) (fun _ => _) (fun k => l.length - k) (fun k => k ≤ l.length ∧ findA name l = findA name (l.drop k)) 0 ⟨by omega, rfl⟩ ⟨rfl, trivial⟩ rfl ?_
  conv => whnf
  rintro k ⟨hk, hR⟩
  (repeat' ((conv => whnf); first | refine bsplit (fun _ => ?_) (fun _ => ?_) | refine adraw ?_ | refine leave ?_ | refine And.intro (by first | assumption | omega | (simp; omega)) ?_)) <;> (try (conv => whnf))
  · rename_i h1
    rw [hl] at h1
    have hk2 := ltx h1
    obtain ⟨x, hx⟩ := getx l hk2
    rw [drop_cons hx] at hR
    simp only [findA] at hR
    refine aidx rfl hx ?_
    (repeat' ((conv => whnf); first | refine bsplit (fun _ => ?_) (fun _ => ?_) | refine adraw ?_ | refine leave ?_ | refine And.intro (by first | assumption | omega | (simp; omega)) ?_)) <;> (try (conv => whnf))
    · rename_i h2
      rw [if_pos (of_decide_eq_true h2)] at hR
      rw [hR]; exact ⟨rfl⟩
    · rename_i h2
      rw [if_neg (of_decide_eq_false h2)] at hR
      exact ⟨⟨k + 1, by omega, hR⟩, by show l.length - (k + 1) < l.length - k; omega, (.trunc [_] (subE_append ⟨i64_inj (wrap_add hk2 (by omega)), trivial⟩ (by repeat' (first | exact trivial | refine ⟨rfl, ?_⟩))) rfl rfl rfl rfl)⟩
  · rename_i h1
    rw [hl] at h1
    have hk2 := gex hk h1
    rw [hk2, List.drop_length] at hR
    rw [hR]; exact ⟨rfl⟩

/-! ### Wishes -/
def pol0 : Pol := ⟨0, 0, 0⟩
def evNm (k t : Int) (n : ByteArray) : Ev := ⟨k, t, 0, 0, n, Val.zero, pol0⟩
def evSet (c : Cmd) (t : Int) : Ev := ⟨9, t, 0, IntKind.i64.wrap (t + c.delay), c.name, Val.zero, pol0⟩
def evVal (k t : Int) (n : ByteArray) (v : Val) : Ev := ⟨k, t, 0, 0, n, v, pol0⟩

theorem set_event (c : Cmd) (t : Int) : PCall PP 195 [.agg [], fv c.enc, I64 t] (fv (evSet c t).enc) := by
  refine pcall_of TTok Try.func195 rfl rfl rfl rfl rfl rfl (fun _ => ?_)
  (repeat' ((conv => whnf); first | refine bsplit (fun _ => ?_) (fun _ => ?_) | refine adraw ?_ | refine leave ?_ | refine And.intro (by first | assumption | omega | (simp; omega)) ?_)) <;> (try (conv => whnf))
  exact ⟨rfl⟩
theorem named_event (k : Int) (c : Cmd) (t : Int) : PCall PP 196 [.agg [I64 k], fv c.enc, I64 t] (fv (evNm k t c.name).enc) := by
  refine pcall_of TTok Try.func196 rfl rfl rfl rfl rfl rfl (fun _ => ?_)
  (repeat' ((conv => whnf); first | refine bsplit (fun _ => ?_) (fun _ => ?_) | refine adraw ?_ | refine leave ?_ | refine And.intro (by first | assumption | omega | (simp; omega)) ?_)) <;> (try (conv => whnf))
  exact ⟨rfl⟩
theorem valued_event (k : Int) (c : Cmd) (t : Int) : PCall PP 197 [.agg [I64 k], fv c.enc, I64 t] (fv (evVal k t c.name c.value).enc) := by
  refine pcall_of TTok Try.func197 rfl rfl rfl rfl rfl rfl (fun _ => ?_)
  (repeat' ((conv => whnf); first | refine bsplit (fun _ => ?_) (fun _ => ?_) | refine adraw ?_ | refine leave ?_ | refine acall (value_Clone c.value) ?_ | refine dcall (value_Clone c.value) ?_ | refine GCall.sym _ (fun hg => PC.own (value_Clone c.value)) ?_ | refine And.intro (by first | assumption | omega | (simp; omega)) ?_)) <;> (try (conv => whnf))
  exact ⟨rfl⟩
theorem accept_event (says : Val) (c : Cmd) (t : Int) : PCall PP 198 [fv says.enc, fv c.enc, I64 t] (fv (evVal 12 t c.name says).enc) := by
  refine pcall_of TTok Try.func198 rfl rfl rfl rfl rfl rfl (fun _ => ?_)
  (repeat' ((conv => whnf); first | refine bsplit (fun _ => ?_) (fun _ => ?_) | refine adraw ?_ | refine leave ?_ | refine acall (value_Clone says) ?_ | refine dcall (value_Clone says) ?_ | refine GCall.sym _ (fun hg => PC.own (value_Clone says)) ?_ | refine And.intro (by first | assumption | omega | (simp; omega)) ?_)) <;> (try (conv => whnf))
  exact ⟨rfl⟩
theorem end_event (c : Cmd) (t : Int) : PCall PP 199 [.agg [], fv c.enc, I64 t] (fv (evNm 17 t ⟨#[]⟩).enc) := by
  refine pcall_of TTok Try.func199 rfl rfl rfl rfl rfl rfl (fun _ => ?_)
  (repeat' ((conv => whnf); first | refine bsplit (fun _ => ?_) (fun _ => ?_) | refine adraw ?_ | refine leave ?_ | refine And.intro (by first | assumption | omega | (simp; omega)) ?_)) <;> (try (conv => whnf))
  exact ⟨rfl⟩

set_option maxRecDepth 1000000 in
theorem meth_set : MethOk PP 176 "usher/command.event" 195 := ⟨⟨_, _, rfl, rfl, rfl, rfl⟩, ⟨_, rfl⟩⟩
set_option maxRecDepth 1000000 in
theorem meth_named : MethOk PP 178 "usher/command.event" 196 := ⟨⟨_, _, rfl, rfl, rfl, rfl⟩, ⟨_, rfl⟩⟩
set_option maxRecDepth 1000000 in
theorem meth_valued : MethOk PP 179 "usher/command.event" 197 := ⟨⟨_, _, rfl, rfl, rfl, rfl⟩, ⟨_, rfl⟩⟩
set_option maxRecDepth 1000000 in
theorem meth_accept : MethOk PP 181 "usher/command.event" 198 := ⟨⟨_, _, rfl, rfl, rfl, rfl⟩, ⟨_, rfl⟩⟩
set_option maxRecDepth 1000000 in
theorem meth_end : MethOk PP 182 "usher/command.event" 199 := ⟨⟨_, _, rfl, rfl, rfl, rfl⟩, ⟨_, rfl⟩⟩

/-- What a kind of command wants: of which type, with what. -/
def wishV (k : Int) (says : Val) : V :=
  if (k == 1) = true then .ifc 176 (.agg []) else if (k == 2) = true then .ifc 178 (.agg [I64 11]) else if (k == 3) = true then .ifc 179 (.agg [I64 14]) else if (k == 4) = true then .ifc 181 (fv says.enc)
  else if (k == 6) = true then .ifc 179 (.agg [I64 13]) else if (k == 7) = true then .ifc 179 (.agg [I64 15]) else if (k == 8) = true then .ifc 178 (.agg [I64 16]) else if (k == 9) = true then .ifc 182 (.agg [])
  else .fr (.sc .nilIface)
theorem command_wishOf (c : Cmd) (says : Val) : PCall PP 132 [fv c.enc, fv says.enc] (wishV c.kind says) := by
  refine pcall_of TTok Try.func132 rfl rfl rfl rfl rfl rfl (fun _ => ?_)
  unfold wishV
  (repeat' ((conv => whnf); first | refine bsplit (fun _ => ?_) (fun _ => ?_) | refine adraw ?_ | refine leave ?_ | refine And.intro (by first | assumption | omega | (simp; omega)) ?_)) <;> (try (conv => whnf))
  all_goals simp only [*, if_true, Bool.false_eq_true, if_false]
  all_goals exact ⟨rfl⟩

end Go.AW

/- Commands: a plan so far. -/
namespace Go.AW
open Go Go.Proofs

structure Pl where
  s : St
  asks : List Ask
  t : Int
  events : List Ev
  refused : List Ask
abbrev BE (l : List Ev) : Blk := .buf 66 13 136 (l.map Ev.enc)
abbrev BAs (l : List Ask) : Blk := .buf 75 7 88 (l.map Ask.enc)
def plV (p : Pl) (i j : Nat) : List V := p.s.enc.map .fr ++ [FA p.asks, I64 p.t, .buf i, .buf j]
abbrev HP (p : Pl) : Heap := [.cells (plV p 1 2), BE p.events, BAs p.refused]

def openA (p : Pl) (name : ByteArray) : Bool := (findA name p.asks).isSome && !(findA name p.refused).isSome

set_option maxRecDepth 100000 in
theorem plan_open (p : Pl) (name : ByteArray) : HCall PP 130 [.ptr 0 0, S1 name] (HP p) (.tup [fv (askOf (findA name p.asks)).enc, B1 (openA p name)]) (HP p ++ [.cells ((askOf (findA name p.asks)).enc.map .fr)]) := by
  refine hcall_of TTok Try.func130 rfl rfl rfl rfl rfl (fun _ => ?_)
  (repeat' ((conv => whnf); first | refine bsplit (fun _ => ?_) (fun _ => ?_) | refine adraw ?_ | refine leave ?_ | refine acall (command_ask p.asks name) ?_ | refine dcall (command_ask p.asks name) ?_ | refine GCall.sym _ (fun hg => PC.own (command_ask p.asks name)) ?_ | refine acallB (pcall_thin (command_ask p.refused name)) ?_ | refine And.intro (by first | assumption | omega | (simp; omega)) ?_)) <;> (try (conv => whnf))
  exact ⟨[(4, .ptr 3 0), (5, B1 _)], _, .trunc [_, _] ⟨rfl, b1_inj (by simp only [openA, Bool.cond_false_right]), trivial⟩ rfl rfl rfl rfl, rfl, rfl⟩

def mayP (p : Pl) (c : Cmd) (last : Bool) : Int :=
  if (cmdOk c != 0) = true then 18 else if (cmCloses c.kind && !last) = true then 18 else if (cmCloses c.kind && p.s.fresh) = true then 17 else if (c.kind != 4 && c.kind != 5) = true then 0
  else if (!openA p c.name || (c.kind == 5 && (findU c.name p.s.updates).isSome)) = true then 18 else 0

set_option maxRecDepth 100000 in
theorem plan_may (p : Pl) (c : Cmd) (last : Bool) : HCall PP 93 [.ptr 0 0, fv c.enc, B1 last] (HP p) (I64 (mayP p c last)) (HP p) := by
  refine hcall_of TTok Try.func93 rfl rfl rfl rfl rfl (fun _ => ?_)
  unfold mayP
  (repeat' ((conv => whnf); first | refine bsplit (fun _ => ?_) (fun _ => ?_) | refine adraw ?_ | refine leave ?_ | refine acall (command_Check c) ?_ | refine dcall (command_Check c) ?_ | refine GCall.sym _ (fun hg => PC.own (command_Check c)) ?_ | refine acall (command_closes c) ?_ | refine dcall (command_closes c) ?_ | refine GCall.sym _ (fun hg => PC.own (command_closes c)) ?_ | refine ahcall [0, 1, 2] (plan_open p c.name) ?_ | refine acall (state_Update p.s c.name) ?_ | refine dcall (state_Update p.s c.name) ?_ | refine GCall.sym _ (fun hg => PC.own (state_Update p.s c.name)) ?_ | refine And.intro (by first | assumption | omega | (simp; omega)) ?_)) <;> (try (conv => whnf))
  all_goals (try simp only [Bool.cond_false_right, Bool.cond_true_left] at *)
  all_goals simp only [*, if_true, Bool.false_eq_true, if_false]
  all_goals first
    | exact ⟨[(6, I64 _)], _, .trunc [_] ⟨rfl, trivial⟩ rfl rfl rfl rfl, rfl, rfl⟩
    | exact ⟨[(6, I64 _)], _, .move 5 1 rfl (.move 6 2 rfl (.trunc [_, _, _, _, _, _, _] ⟨rfl, trivial⟩ rfl rfl rfl rfl)), rfl, rfl⟩

/-! ### A command is done -/
def wishE (p : Pl) (c : Cmd) : Option Ev :=
  if (c.kind == 1) = true then some (evSet c p.t) else if (c.kind == 2) = true then some (evNm 11 p.t c.name) else if (c.kind == 3) = true then some (evVal 14 p.t c.name c.value)
  else if (c.kind == 4) = true then some (evVal 12 p.t c.name (askOf (findA c.name p.asks)).value) else if (c.kind == 6) = true then some (evVal 13 p.t c.name c.value) else if (c.kind == 7) = true then some (evVal 15 p.t c.name c.value)
  else if (c.kind == 8) = true then some (evNm 16 p.t c.name) else if (c.kind == 9) = true then some (evNm 17 p.t ⟨#[]⟩) else none
def doneP (p : Pl) (e : Ev) : Pl := if (stepX p.s e == 0) = true then { p with s := stepSt p.s e, events := p.events ++ [e] } else p
def doneX (p : Pl) (e : Ev) : Int := if (stepX p.s e == 0) = true then 0 else if (stepX p.s e == 7) = true then 7 else 18
def doesP (p : Pl) (c : Cmd) : Pl := match wishE p c with
  | none => { p with refused := p.refused ++ [⟨0, c.name, c.value⟩] }
  | some e => doneP p e
def doesX (p : Pl) (c : Cmd) : Int := match wishE p c with
  | none => 0
  | some e => doneX p e

set_option maxRecDepth 100000 in
theorem plan_does_no (p : Pl) (c : Cmd) (hr : p.refused.length ≤ 1000) (hw : wishV c.kind (askOf (findA c.name p.asks)).value = .fr (.sc .nilIface)) :
    HCall PP 94 [.ptr 0 0, fv c.enc] (HP p) (I64 0) (HP { p with refused := p.refused ++ [⟨0, c.name, c.value⟩] }) := by
  have hl1 : (p.refused.map Ask.enc).length = p.refused.length := List.length_map _
  have hl2 : (p.events.map Ev.enc).length = p.events.length := List.length_map _
  have hk := command_wishOf c (askOf (findA c.name p.asks)).value
  rw [hw] at hk
  refine hcall_of TTok Try.func94 rfl rfl rfl rfl rfl (fun _ => ?_)
  have hH : HP { p with refused := p.refused ++ [⟨0, c.name, c.value⟩] } = [.cells (plV p 1 2), BE p.events, .buf 75 7 88 (p.refused.map Ask.enc ++ [Ask.enc ⟨0, c.name, c.value⟩])] := by
    simp only [HP, BAs, List.map_append, List.map_cons, List.map_nil]; rfl
  rw [hH]
  (repeat' ((conv => whnf); first | refine bsplit (fun _ => ?_) (fun _ => ?_) | refine adraw ?_ | refine leave ?_ | refine ahcall [0, 1, 2] (plan_open p c.name) ?_ | refine acall (hk) ?_ | refine dcall (hk) ?_ | refine GCall.sym _ (fun hg => PC.own (hk)) ?_ | refine aop_eqnoifc (ms := _) rfl rfl ?_ | refine acall (value_Clone c.value) ?_ | refine dcall (value_Clone c.value) ?_ | refine GCall.sym _ (fun hg => PC.own (value_Clone c.value)) ?_ | refine And.intro (by first | assumption | omega | (simp; omega)) ?_)) <;> (try (conv => whnf))
  exact ⟨[(4, I64 _)], _, .move 5 1 rfl (.move 9 2 rfl (.trunc [_, _, _, _, _, _, _] ⟨rfl, trivial⟩ rfl rfl rfl rfl)), rfl, rfl⟩

set_option maxRecDepth 100000 in
theorem plan_does_of (p : Pl) (c : Cmd) (hr : p.events.length ≤ 1000) (q f : Nat) (xs : List V) (e : Ev) (hw : wishV c.kind (askOf (findA c.name p.asks)).value = .ifc q (.agg xs)) (hM : MethOk PP q "usher/command.event" f)    (he : PCall PP f [.agg xs, fv c.enc, I64 p.t] (fv e.enc)) : HCall PP 94 [.ptr 0 0, fv c.enc] (HP p) (I64 (doneX p e)) (HP (doneP p e)) := by
  have hl1 : (p.refused.map Ask.enc).length = p.refused.length := List.length_map _
  have hl2 : (p.events.map Ev.enc).length = p.events.length := List.length_map _
  have hk := command_wishOf c (askOf (findA c.name p.asks)).value
  rw [hw] at hk
  refine hcall_of TTok Try.func94 rfl rfl rfl rfl rfl (fun _ => ?_)
  have hH : HP { p with s := stepSt p.s e, events := p.events ++ [e] } = [.cells (plV { p with s := stepSt p.s e } 1 2), .buf 66 13 136 (p.events.map Ev.enc ++ [e.enc]), BAs p.refused] := by
    simp only [HP, BE, List.map_append, List.map_cons, List.map_nil]; rfl
  unfold doneX doneP
  (repeat' ((conv => whnf); first | refine bsplit (fun _ => ?_) (fun _ => ?_) | refine adraw ?_ | refine leave ?_ | refine ahcall [0, 1, 2] (plan_open p c.name) ?_ | refine acall (hk) ?_ | refine dcall (hk) ?_ | refine GCall.sym _ (fun hg => PC.own (hk)) ?_ | refine aop_eqifc (ms := _) rfl rfl ?_ | refine dop (pop_mth rfl) ?_ | refine dop (pop_nilmth rfl hM) ?_ | refine dop (pop_invoke rfl hM he) ?_ | refine acall (state_Step p.s e) ?_ | refine dcall (state_Step p.s e) ?_ | refine GCall.sym _ (fun hg => PC.own (state_Step p.s e)) ?_ | refine And.intro (by first | assumption | omega | (simp; omega)) ?_)) <;> (try (conv => whnf))
  · rename_i h
    rw [h, if_pos rfl, if_pos rfl, hH]
    exact ⟨[(4, I64 _)], _, .move 6 2 rfl (.move 11 1 rfl (.trunc [_, _, _, _, _, _, _, _, _] ⟨rfl, trivial⟩ rfl rfl rfl rfl)), rfl, rfl⟩
  · rename_i h h2
    rw [h, h2]
    exact ⟨[(4, I64 _)], _, .move 5 1 rfl (.move 6 2 rfl (.trunc [_, _, _, _, _, _, _, _] ⟨rfl, trivial⟩ rfl rfl rfl rfl)), rfl, rfl⟩
  · rename_i h h2
    rw [h, h2]
    exact ⟨[(4, I64 _)], _, .move 5 1 rfl (.move 6 2 rfl (.trunc [_, _, _, _, _, _, _, _] ⟨rfl, trivial⟩ rfl rfl rfl rfl)), rfl, rfl⟩

theorem cmKinds {k : Int} : (k = 1 ∨ k = 2 ∨ k = 3 ∨ k = 4 ∨ k = 6 ∨ k = 7 ∨ k = 8 ∨ k = 9) ∨ ((k == 1) = false ∧ (k == 2) = false ∧ (k == 3) = false ∧ (k == 4) = false ∧ (k == 6) = false ∧ (k == 7) = false ∧ (k == 8) = false ∧ (k == 9) = false) := by
  simp only [beq_eq_false_iff_ne]; omega

theorem plan_does (p : Pl) (c : Cmd) (h1 : p.events.length ≤ 1000) (h2 : p.refused.length ≤ 1000) : HCall PP 94 [.ptr 0 0, fv c.enc] (HP p) (I64 (doesX p c)) (HP (doesP p c)) := by
  obtain ⟨k, n, v, d⟩ := c
  rcases cmKinds (k := k) with (rfl | rfl | rfl | rfl | rfl | rfl | rfl | rfl) | ⟨g1, g2, g3, g4, g6, g7, g8, g9⟩
  · exact plan_does_of p _ h1 _ _ _ (evSet ⟨1, n, v, d⟩ p.t) rfl meth_set (set_event _ _)
  · exact plan_does_of p _ h1 _ _ _ (evNm 11 p.t n) rfl meth_named (named_event _ _ _)
  · exact plan_does_of p _ h1 _ _ _ (evVal 14 p.t n v) rfl meth_valued (valued_event _ _ _)
  · exact plan_does_of p _ h1 _ _ _ (evVal 12 p.t n (askOf (findA n p.asks)).value) rfl meth_accept (accept_event _ _ _)
  · exact plan_does_of p _ h1 _ _ _ (evVal 13 p.t n v) rfl meth_valued (valued_event _ _ _)
  · exact plan_does_of p _ h1 _ _ _ (evVal 15 p.t n v) rfl meth_valued (valued_event _ _ _)
  · exact plan_does_of p _ h1 _ _ _ (evNm 16 p.t n) rfl meth_named (named_event _ _ _)
  · exact plan_does_of p _ h1 _ _ _ (evNm 17 p.t ⟨#[]⟩) rfl meth_end (end_event _ _)
  · have e : wishE p ⟨k, n, v, d⟩ = none := by simp only [wishE, g1, g2, g3, g4, g6, g7, g8, g9, Bool.false_eq_true, if_false]
    have e2 : wishV k (askOf (findA n p.asks)).value = .fr (.sc .nilIface) := by simp only [wishV, g1, g2, g3, g4, g6, g7, g8, g9, Bool.false_eq_true, if_false]
    have h := plan_does_no p ⟨k, n, v, d⟩ h2 e2
    unfold doesX doesP
    rw [e]
    exact h

end Go.AW

/- Commands: what they come to. -/
namespace Go.AW
open Go Go.Proofs

abbrev PlanR := List Ev × List Ask × Int
def planGo : Pl → List Cmd → PlanR
  | p, [] => (p.events, p.refused, 0)
  | p, c :: r => if (mayP p c r.isEmpty == 0) = true then (if (doesX p c != 0) = true then ([], [], doesX p c) else planGo (doesP p c) r) else ([], [], mayP p c r.isEmpty)
def plan0 (s : St) (asks : List Ask) (t : Int) : Pl := ⟨s, asks, t, [], []⟩
def planR (s : St) (asks : List Ask) (l : List Cmd) (t : Int) : PlanR := if decide ((l.length : Int) > 12) = true then ([], [], 5) else planGo (plan0 s asks t) l
abbrev planV (x : PlanR) : V := .tup [.fr (.sl 13 136 (x.1.map Ev.enc)), FA x.2.1, I64 x.2.2]

theorem done_len (p : Pl) (e : Ev) : (doneP p e).events.length ≤ p.events.length + 1 ∧ (doneP p e).refused = p.refused := by
  unfold doneP; split <;> simp
theorem does_len (p : Pl) (c : Cmd) : (doesP p c).events.length ≤ p.events.length + 1 ∧ (doesP p c).refused.length ≤ p.refused.length + 1 := by
  unfold doesP
  split
  · simp
  · have h := done_len p ‹Ev›
    rw [h.2]
    exact ⟨h.1, by omega⟩

theorem last_eq {k n : Nat} (hk : k < n) (hn : n ≤ 12) : ((k : Int) == IntKind.i64.wrap ((n : Int) - 1)) = decide (k + 1 = n) := by
  rw [IntWalk.i64_in ((n : Int) - 1) (by omega), Bool.eq_iff_iff]
  simp only [beq_iff_eq, decide_eq_true_eq]
  omega
theorem drop_empty {α : Type} {l : List α} {k : Nat} (hk : k < l.length) : (l.drop (k + 1)).isEmpty = decide (k + 1 = l.length) := by
  rw [Bool.eq_iff_iff, List.isEmpty_iff, List.drop_eq_nil_iff, decide_eq_true_eq]
  omega

set_option maxRecDepth 100000 in
theorem command_Plan (s : St) (asks : List Ask) (l : List Cmd) (t : Int) : PCall PP 39 [fv s.enc, FA asks, FC l, I64 t] (planV (planR s asks l t)) := by
  refine pcall_of TTok Try.func39 rfl rfl rfl rfl rfl rfl (fun hfit => ?_)
  have hl : (l.map Cmd.enc).length = l.length := List.length_map _
  unfold planR
  (repeat' ((conv => whnf); first | refine bsplit (fun _ => ?_) (fun _ => ?_) | refine adraw ?_ | refine leave ?_ | refine And.intro (by first | assumption | omega | (simp; omega)) ?_)) <;> (try (conv => whnf))
  · rename_i h
    rw [hl] at h
    rw [h]
    exact ⟨rfl⟩
  · rename_i h
    rw [hl] at h
    rw [h]
    have hn : l.length ≤ 12 := by simp at h; omega
    refine aloopV _ _ (.thawC 1 33 66 13 136 rfl rfl (.thawC 1 34 75 7 88 rfl rfl .refl)) ?_
    refine aloopK [2, 11, 23, 24] (fun x : Nat × Pl => [(25, I64 x.1)]) (fun x => [_, .cells (plV x.2 2 3), BE x.2.events, BAs x.2.refused]) (fun x => l.length - x.1)
      (fun x => x.1 ≤ l.length ∧ planGo (plan0 s asks t) l = planGo x.2 (l.drop x.1) ∧ x.2.events.length ≤ x.1 ∧ x.2.refused.length ≤ x.1) (0, plan0 s asks t) ⟨by simp, rfl, by simp [plan0], by simp [plan0]⟩ ⟨rfl, trivial⟩ rfl ?_
    conv => whnf
    rintro ⟨k, p⟩ ⟨hk, hR, hb1, hb2⟩
    simp only at hk hR hb1 hb2
    (repeat' ((conv => whnf); first | refine bsplit (fun _ => ?_) (fun _ => ?_) | refine adraw ?_ | refine leave ?_ | refine And.intro (by first | assumption | omega | (simp; omega)) ?_)) <;> (try (conv => whnf))
    · rename_i h1
      rw [hl] at h1
      have hk2 := ltx h1
      obtain ⟨c, hc⟩ := getx l hk2
      rw [drop_cons hc] at hR
      simp only [planGo] at hR
      rw [drop_empty hk2, ← last_eq hk2 hn, ← hl] at hR
      have hd := does_len p c
      refine aidx rfl hc ?_
      (repeat' ((conv => whnf); first | refine bsplit (fun _ => ?_) (fun _ => ?_) | refine adraw ?_ | refine leave ?_ | refine ahcall [1, 2, 3] (plan_may p c _) ?_ | refine ahcall [1, 6, 7] (plan_does p c (by omega) (by omega)) ?_ | refine And.intro (by first | assumption | omega | (simp; omega)) ?_)) <;> (try (conv => whnf))
      · rename_i h2 h3
        rw [if_pos h2, if_pos h3] at hR
        rw [hR]
        exact ⟨rfl⟩
      · rename_i h2 h3
        rw [if_pos h2, h3] at hR
        refine ⟨⟨(k + 1, doesP p c), by show k + 1 ≤ _; exact hk2, hR, by show (doesP p c).events.length ≤ k + 1; omega, by show (doesP p c).refused.length ≤ k + 1; omega⟩, by show l.length - (k + 1) < l.length - k; exact Nat.sub_lt_sub_left hk2 (by omega), ?_⟩
        exact .move 9 2 rfl (.move 10 3 rfl (.trunc [_, _, _, _, _, _, _] (subE_append ⟨i64_inj (wrap_add hk2 (by omega)), trivial⟩ (by repeat' (first | exact trivial | refine ⟨rfl, ?_⟩))) rfl rfl rfl rfl))
      · rename_i h2 h3
        rw [h2] at hR
        rw [hR]
        exact ⟨rfl⟩
      · rename_i h2 h3
        rw [bne, h2] at h3
        cases h3
    · rename_i h1
      rw [hl] at h1
      have hk2 := gex hk h1
      rw [hk2, List.drop_length] at hR
      rw [hR]
      exact ⟨rfl⟩

end Go.AW

/- Commands: which lists close; the law CommandChecks. -/
namespace Go.AW
open Go Go.Proofs

theorem ref21_closes (c : Cmd) : PCall PP 100 [fv c.enc] (B1 (cmCloses c.kind)) := by
  refine pcall_of TTok Try.func100 rfl rfl rfl rfl rfl rfl (fun _ => ?_)
  (repeat' ((conv => whnf); first | refine bsplit (fun _ => ?_) (fun _ => ?_) | refine adraw ?_ | refine leave ?_ | refine And.intro (by first | assumption | omega | (simp; omega)) ?_)) <;> (try (conv => whnf))
  exact ⟨b1_inj (by simp only [cmCloses, Bool.cond_true_left])⟩

def cmd0 : Cmd := ⟨0, ⟨#[]⟩, Val.zero, 0⟩
def lastC (l : List Cmd) : Cmd := (l[l.length - 1]?).getD cmd0
def closesL (l : List Cmd) : Bool := decide ((l.length : Int) > 0) && cmCloses (lastC l).kind

theorem lastC_idx {l : List Cmd} (hb : l.length * 96 ≤ 140737488355328) (hg : eqw (decide (((l.map Cmd.enc).length : Int) > 0)) true = true) : 0 ≤ IntKind.i64.wrap (((l.map Cmd.enc).length : Int) - 1) ∧ (l.map Cmd.enc)[(IntKind.i64.wrap (((l.map Cmd.enc).length : Int) - 1)).toNat]? = some (lastC l).enc := by
  rw [List.length_map] at *
  have h0 : 0 < l.length := by simpa [eqw] using hg
  rw [IntWalk.i64_in ((l.length : Int) - 1) (by omega)]
  refine ⟨by omega, ?_⟩
  have e : ((l.length : Int) - 1).toNat = l.length - 1 := by omega
  rw [e, List.getElem?_map]
  unfold lastC
  rw [List.getElem?_eq_getElem (by omega)]
  rfl

theorem command_Closes (l : List Cmd) : PCall PP 43 [FC l] (B1 (closesL l)) := by
  refine pcall_of TTok Try.func43 rfl rfl rfl rfl rfl rfl (fun hfit => ?_)
  have hb : l.length * 96 ≤ 140737488355328 := fit_rows (show FitF _ from hfit.1)
  have hl : (l.map Cmd.enc).length = l.length := List.length_map _
  (repeat' ((conv => whnf); first | refine bsplit (fun _ => ?_) (fun _ => ?_) | refine adraw ?_ | refine leave ?_ | refine And.intro (by first | assumption | omega | (simp; omega)) ?_)) <;> (try (conv => whnf))
  refine GIdx.mk ⟨(lastC l).enc, lastC_idx hb, ?_⟩
  (repeat' ((conv => whnf); first | refine bsplit (fun _ => ?_) (fun _ => ?_) | refine adraw ?_ | refine leave ?_ | refine acall (command_closes (lastC l)) ?_ | refine dcall (command_closes (lastC l)) ?_ | refine GCall.sym _ (fun hg => PC.own (command_closes (lastC l))) ?_ | refine And.intro (by first | assumption | omega | (simp; omega)) ?_)) <;> (try (conv => whnf))
  exact ⟨b1_inj (by rw [Bool.cond_false_right, hl]; rfl)⟩
theorem ref21_Closes (l : List Cmd) : PCall PP 44 [FC l] (B1 (closesL l)) := by
  refine pcall_of TTok Try.func44 rfl rfl rfl rfl rfl rfl (fun hfit => ?_)
  have hb : l.length * 96 ≤ 140737488355328 := fit_rows (show FitF _ from hfit.1)
  have hl : (l.map Cmd.enc).length = l.length := List.length_map _
  (repeat' ((conv => whnf); first | refine bsplit (fun _ => ?_) (fun _ => ?_) | refine adraw ?_ | refine leave ?_ | refine And.intro (by first | assumption | omega | (simp; omega)) ?_)) <;> (try (conv => whnf))
  refine GIdx.mk ⟨(lastC l).enc, lastC_idx hb, ?_⟩
  (repeat' ((conv => whnf); first | refine bsplit (fun _ => ?_) (fun _ => ?_) | refine adraw ?_ | refine leave ?_ | refine acall (ref21_closes (lastC l)) ?_ | refine dcall (ref21_closes (lastC l)) ?_ | refine GCall.sym _ (fun hg => PC.own (ref21_closes (lastC l))) ?_ | refine And.intro (by first | assumption | omega | (simp; omega)) ?_)) <;> (try (conv => whnf))
  exact ⟨b1_inj (by rw [Bool.cond_false_right, hl]; rfl)⟩

/-! ### The law's own -/
def st21 : St := ⟨1, 1, 4, 0, 0, 0, 0, ⟨#[]⟩, Val.zero, ⟨0, 0, 0⟩, ⟨0, 0, 0, 0, 0⟩, true, false, [], [], Val.zero, ⟨#[]⟩⟩
theorem aw21a : (planR st21 [] [⟨7, ⟨#[]⟩, Val.zero, 0⟩] 0).2.2 = 17 := by decide +kernel
theorem aw21b : (planR st21 [] [⟨1, (⟨#[97]⟩ : ByteArray), Val.zero, 3⟩] 2).2.2 = 0 ∧ (planR st21 [] [⟨1, (⟨#[97]⟩ : ByteArray), Val.zero, 3⟩] 2).1.map Ev.due = [5] := by decide +kernel

set_option maxRecDepth 100000 in
theorem law21_awake : PCall PP 38 [] (B1 true) := by
  refine pcall_of TTok Try.func38 rfl rfl rfl rfl rfl rfl (fun _ => ?_)
  have h1 := command_Plan st21 [] [⟨7, ⟨#[]⟩, Val.zero, 0⟩] 0
  have h2 := command_Plan st21 [] [⟨1, (⟨#[97]⟩ : ByteArray), Val.zero, 3⟩] 2
  have k1 := aw21a
  obtain ⟨k2, k3⟩ := aw21b
  generalize planR st21 [] [⟨7, ⟨#[]⟩, Val.zero, 0⟩] 0 = r1 at *
  generalize planR st21 [] [⟨1, (⟨#[97]⟩ : ByteArray), Val.zero, 3⟩] 2 = r2 at *
  obtain ⟨x1, x2, x3⟩ := r1
  obtain ⟨y1, y2, y3⟩ := r2
  simp only at k1 k2 k3
  obtain ⟨y, rfl⟩ : ∃ y, y1 = [y] := by
    cases y1 with
    | nil => cases k3
    | cons y r => cases r with
      | nil => exact ⟨y, rfl⟩
      | cons z r => simp at k3
  subst k1
  subst k2
  have k4 : y.due = 5 := by simpa using k3
  (repeat' ((conv => whnf); first | refine bsplit (fun _ => ?_) (fun _ => ?_) | refine adraw ?_ | refine leave ?_ | refine acall (h1) ?_ | refine dcall (h1) ?_ | refine GCall.sym _ (fun hg => PC.own (h1)) ?_ | refine acall (h2) ?_ | refine dcall (h2) ?_ | refine GCall.sym _ (fun hg => PC.own (h2)) ?_ | refine And.intro (by first | assumption | omega | (simp; omega)) ?_)) <;> (try (conv => whnf))
  refine GIdx.mk ⟨y.enc, fun _ => ⟨by decide, rfl⟩, ?_⟩
  (repeat' ((conv => whnf); first | refine bsplit (fun _ => ?_) (fun _ => ?_) | refine adraw ?_ | refine leave ?_ | refine And.intro (by first | assumption | omega | (simp; omega)) ?_)) <;> (try (conv => whnf))
  refine ⟨b1_inj ?_⟩
  rw [k4]; rfl

set_option maxRecDepth 100000 in
theorem law_CommandChecks (c : Cmd) (hu : c.value.U) (l : List Cmd) : PCall PP 11 [fv c.enc, FC l] (B1 true) := by
  refine pcall_of TTok Try.func11 rfl rfl rfl rfl rfl rfl (fun _ => ?_)
  (repeat' ((conv => whnf); first | refine bsplit (fun _ => ?_) (fun _ => ?_) | refine adraw ?_ | refine leave ?_ | refine acall (command_Check c) ?_ | refine dcall (command_Check c) ?_ | refine GCall.sym _ (fun hg => PC.own (command_Check c)) ?_ | refine acall (ref21_Check c hu) ?_ | refine dcall (ref21_Check c hu) ?_ | refine GCall.sym _ (fun hg => PC.own (ref21_Check c hu)) ?_ | refine acall (command_Closes l) ?_ | refine dcall (command_Closes l) ?_ | refine GCall.sym _ (fun hg => PC.own (command_Closes l)) ?_ | refine acall (ref21_Closes l) ?_ | refine dcall (ref21_Closes l) ?_ | refine GCall.sym _ (fun hg => PC.own (ref21_Closes l)) ?_ | refine acall (law21_awake) ?_ | refine dcall (law21_awake) ?_ | refine GCall.sym _ (fun hg => PC.own (law21_awake)) ?_ | refine And.intro (by first | assumption | omega | (simp; omega)) ?_)) <;> (try (conv => whnf))
  refine ⟨b1_inj ?_⟩
  simp

end Go.AW

