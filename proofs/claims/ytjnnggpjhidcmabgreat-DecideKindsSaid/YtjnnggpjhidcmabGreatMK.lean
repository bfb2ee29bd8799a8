
/- Workflows, plans, replies. -/
import Derived.Test.YtjnnggpjhidcmabGreatMC
import Derived.Test.YtjnnggpjhidcmabGreatMF
namespace Go.AW
open Go Go.Proofs

structure Done where
  request : ByteArray
  kind : Int
  key : List Int
  run : Int
def Done.enc (d : Done) : List F := [.sc (.string d.request), .sc (.int .i64 d.kind), .sl 1 1 (d.key.map u8E), .sc (.int .i64 d.run)]
def done0 : Done := ⟨⟨#[]⟩, 0, [], 0⟩
abbrev FD (l : List Done) : V := .fr (.sl 4 56 (l.map Done.enc))
abbrev BD (l : List Done) : Blk := .buf 84 4 56 (l.map Done.enc)

structure Flow where
  name : ByteArray
  runs : Int
  state : St
  table : List Done
def Flow.enc (f : Flow) : List F := .sc (.string f.name) :: .sc (.int .i64 f.runs) :: (f.state.enc ++ [.sl 4 56 (f.table.map Done.enc)])
def st00 : St := ⟨0, 0, 0, 0, 0, 0, 0, ⟨#[]⟩, Val.zero, ⟨0, 0, 0⟩, ⟨0, 0, 0, 0, 0⟩, false, false, [], [], Val.zero, ⟨#[]⟩⟩
def flow0 : Flow := ⟨⟨#[]⟩, 0, st00, []⟩

structure Hist where
  run : Int
  from_ : Int
  keep : Int
  at_ : Int
  events : List Ev
def Hist.enc (h : Hist) : List F := [.sc (.int .i64 h.run), .sc (.int .i64 h.from_), .sc (.int .i64 h.keep), .sc (.int .i64 h.at_), .sl 13 136 (h.events.map Ev.enc)]
abbrev FH (l : List Hist) : V := .fr (.sl 5 56 (l.map Hist.enc))

structure Plan where
  changed : Bool
  flow : Flow
  writes : List Hist
def Plan.enc (p : Plan) : List F := .sc (.bool p.changed) :: (p.flow.enc ++ [.sl 5 56 (p.writes.map Hist.enc)])
def plan00 : Plan := ⟨false, flow0, []⟩

structure Reply where
  code : Int
  run : Int
  num : Int
  value : Val
  state : St
  events : List Ev
  queries : List Ask
  updates : List Ask
def Reply.enc (r : Reply) : List F := .sc (.int .i64 r.code) :: .sc (.int .i64 r.run) :: .sc (.int .i64 r.num) :: (r.value.enc ++ (r.state.enc ++ [.sl 13 136 (r.events.map Ev.enc), .sl 7 88 (r.queries.map Ask.enc), .sl 7 88 (r.updates.map Ask.enc)]))
def reply0 : Reply := ⟨0, 0, 0, Val.zero, st00, [], [], []⟩
def replyC (code run : Int) : Reply := { reply0 with code := code, run := run }

end Go.AW

/- Decisions: which kinds read, and may wait; the law DecideKinds. -/
namespace Go.AW
open Go Go.Proofs

def waitsK (k : Int) : Bool := k == 4 || k == 5
def readsK (k : Int) : Bool := waitsK k || k == 9
theorem decide_Waits (k : Int) : PCall PP 6 [I64 k] (B1 (waitsK k)) := by
  refine pcall_of TTok Tryz.func6 rfl rfl rfl rfl rfl rfl (fun _ => ?_)
  (repeat' ((conv => whnf); first | refine bsplit (fun _ => ?_) (fun _ => ?_) | refine adraw ?_ | refine leave ?_ | refine And.intro (by first | assumption | omega | (simp; omega)) ?_)) <;> (try (conv => whnf))
  all_goals (refine ⟨?_⟩; (try simp only [Bool.cond_false_right, Bool.cond_true_left] at *) <;> first | (simp only [waitsK, *, if_true, Bool.false_eq_true, if_false]; done) | (simp_all [Bool.cond_eq_ite, waitsK]; done) | (simp_all [Bool.cond_eq_ite, waitsK]; grind))
theorem decide_Reads (k : Int) : PCall PP 4 [I64 k] (B1 (readsK k)) := by
  refine pcall_of TTok Tryz.func4 rfl rfl rfl rfl rfl rfl (fun _ => ?_)
  (repeat' ((conv => whnf); first | refine bsplit (fun _ => ?_) (fun _ => ?_) | refine adraw ?_ | refine leave ?_ | refine acall (decide_Waits k) ?_ | refine dcall (decide_Waits k) ?_ | refine GCall.sym _ (fun hg => PC.own (decide_Waits k)) ?_ | refine And.intro (by first | assumption | omega | (simp; omega)) ?_)) <;> (try (conv => whnf))
  exact ⟨b1_inj (by rw [Bool.cond_true_left]; rfl)⟩
theorem ref26_Waits (k : Int) : PCall PP 7 [I64 k] (B1 (waitsK k)) := by
  refine pcall_of TTok Tryz.func7 rfl rfl rfl rfl rfl rfl (fun _ => ?_)
  (repeat' ((conv => whnf); first | refine bsplit (fun _ => ?_) (fun _ => ?_) | refine adraw ?_ | refine leave ?_ | refine And.intro (by first | assumption | omega | (simp; omega)) ?_)) <;> (try (conv => whnf))
  exact ⟨b1_inj (by rw [Bool.cond_true_left]; rfl)⟩
theorem ref26_Reads (k : Int) : PCall PP 5 [I64 k] (B1 (readsK k)) := by
  refine pcall_of TTok Tryz.func5 rfl rfl rfl rfl rfl rfl (fun _ => ?_)
  (repeat' ((conv => whnf); first | refine bsplit (fun _ => ?_) (fun _ => ?_) | refine adraw ?_ | refine leave ?_ | refine And.intro (by first | assumption | omega | (simp; omega)) ?_)) <;> (try (conv => whnf))
  refine ⟨b1_inj ?_⟩
  simp only [Bool.cond_true_left]
  rfl

/-! ### The law's own: a query waits -/
structure Found where
  f : Flow
  there : Bool
  h : List Ev
  now : Int
  asks : List Ask
def Found.enc (x : Found) : List F := x.f.enc ++ [.sc (.bool x.there), .sl 13 136 (x.h.map Ev.enc), .sc (.int .i64 x.now), .sl 7 88 (x.asks.map Ask.enc)]
def goneX (x : Found) : Int := if (!x.there) = true then 6 else if (!(x.f.state.status == 1)) = true then 14 else 0
set_option maxRecDepth 100000 in
theorem found_gone (x : Found) : PCall PP 43 [fv x.enc] (I64 (goneX x)) := by
  refine pcall_of TTok Tryz.func43 rfl rfl rfl rfl rfl rfl (fun _ => ?_)
  (repeat' ((conv => whnf); first | refine bsplit (fun _ => ?_) (fun _ => ?_) | refine adraw ?_ | refine leave ?_ | refine acall (state_Running x.f.state) ?_ | refine dcall (state_Running x.f.state) ?_ | refine GCall.sym _ (fun hg => PC.own (state_Running x.f.state)) ?_ | refine And.intro (by first | assumption | omega | (simp; omega)) ?_)) <;> (try (conv => whnf))
  all_goals (refine ⟨?_⟩; (try simp only [Bool.cond_false_right, Bool.cond_true_left] at *) <;> first | (simp only [goneX, *, if_true, Bool.false_eq_true, if_false]; done) | (simp_all [Bool.cond_eq_ite, goneX]; done) | (simp_all [Bool.cond_eq_ite, goneX]; grind))
def queryR (x : Found) : Reply := if (goneX x != 0) = true then replyC (goneX x) 0 else { reply0 with code := 25, run := x.f.state.run, num := x.f.state.count }
set_option maxRecDepth 100000 in
theorem found_query (x : Found) : PCall PP 21 [fv x.enc] (fv (queryR x).enc) := by
  refine pcall_of TTok Tryz.func21 rfl rfl rfl rfl rfl rfl (fun _ => ?_)
  unfold queryR
  (repeat' ((conv => whnf); first | refine bsplit (fun _ => ?_) (fun _ => ?_) | refine adraw ?_ | refine leave ?_ | refine acall (found_gone x) ?_ | refine dcall (found_gone x) ?_ | refine GCall.sym _ (fun hg => PC.own (found_gone x)) ?_ | refine And.intro (by first | assumption | omega | (simp; omega)) ?_)) <;> (try (conv => whnf))
  all_goals (rename_i h; rw [h]; exact ⟨rfl⟩)

abbrev toldV (p : Plan) (r : Reply) : V := .tup [fv p.enc, fv r.enc]
def fq : Found := ⟨⟨(⟨#[97]⟩ : ByteArray), 1, ⟨1, 1, 2, 0, 0, 0, 0, (⟨#[116]⟩ : ByteArray), Val.zero, ⟨0, 0, 0⟩, ⟨0, 0, 0, 0, 0⟩, false, false, [], [], Val.zero, ⟨#[]⟩⟩, []⟩, true, [], 0, []⟩
def rq : Req := ⟨4, (⟨#[97]⟩ : ByteArray), ⟨#[]⟩, ⟨#[]⟩, Val.zero, 0, 0, 0, ⟨0, 0, 0⟩, [], []⟩
set_option maxRecDepth 100000 in
theorem found_reads : PCall PP 12 [fv fq.enc, fv rq.enc] (toldV plan00 (queryR fq)) := by
  refine pcall_of TTok Tryz.func12 rfl rfl rfl rfl rfl rfl (fun _ => ?_)
  (repeat' ((conv => whnf); first | refine bsplit (fun _ => ?_) (fun _ => ?_) | refine adraw ?_ | refine leave ?_ | refine acall (found_query fq) ?_ | refine dcall (found_query fq) ?_ | refine GCall.sym _ (fun hg => PC.own (found_query fq)) ?_ | refine And.intro (by first | assumption | omega | (simp; omega)) ?_)) <;> (try (conv => whnf))
  exact ⟨rfl⟩
set_option maxRecDepth 100000 in
theorem decide_Do0 : PCall PP 9 [fv fq.f.enc, B1 true, FE [], fv rq.enc, I64 0, FA []] (toldV plan00 (queryR fq)) := by
  refine pcall_of TTok Tryz.func9 rfl rfl rfl rfl rfl rfl (fun _ => ?_)
  (repeat' ((conv => whnf); first | refine bsplit (fun _ => ?_) (fun _ => ?_) | refine adraw ?_ | refine leave ?_ | refine acall (decide_Waits rq.kind) ?_ | refine dcall (decide_Waits rq.kind) ?_ | refine GCall.sym _ (fun hg => PC.own (decide_Waits rq.kind)) ?_ | refine acall (found_reads) ?_ | refine dcall (found_reads) ?_ | refine GCall.sym _ (fun hg => PC.own (found_reads)) ?_ | refine And.intro (by first | assumption | omega | (simp; omega)) ?_)) <;> (try (conv => whnf))
  exact ⟨rfl⟩
theorem fq_told : queryR fq = { reply0 with code := 25, run := 1, num := 2 } := rfl
set_option maxRecDepth 100000 in
theorem law26_awake : PCall PP 8 [] (B1 true) := by
  refine pcall_of TTok Tryz.func8 rfl rfl rfl rfl rfl rfl (fun _ => ?_)
  have h := decide_Do0
  rw [fq_told] at h
  (repeat' ((conv => whnf); first | refine bsplit (fun _ => ?_) (fun _ => ?_) | refine adraw ?_ | refine leave ?_ | refine acall (h) ?_ | refine dcall (h) ?_ | refine GCall.sym _ (fun hg => PC.own (h)) ?_ | refine acall (decide_Waits 5) ?_ | refine dcall (decide_Waits 5) ?_ | refine GCall.sym _ (fun hg => PC.own (decide_Waits 5)) ?_ | refine acall (decide_Reads 9) ?_ | refine dcall (decide_Reads 9) ?_ | refine GCall.sym _ (fun hg => PC.own (decide_Reads 9)) ?_ | refine And.intro (by first | assumption | omega | (simp; omega)) ?_)) <;> (try (conv => whnf))
  exact ⟨rfl⟩

set_option maxRecDepth 100000 in
theorem law_DecideKinds (kind : Int) : PCall PP 3 [I64 kind] (B1 true) := by
  refine pcall_of TTok Tryz.func3 rfl rfl rfl rfl rfl rfl (fun _ => ?_)
  (repeat' ((conv => whnf); first | refine bsplit (fun _ => ?_) (fun _ => ?_) | refine adraw ?_ | refine leave ?_ | refine And.intro (by first | assumption | omega | (simp; omega)) ?_)) <;> (try (conv => whnf))
  refine aloopK [0] (fun k : Nat => [(4, I64 k)]) (fun _ => _) (fun k => 20 - k) (fun k => k ≤ 20) 0 (by omega) ⟨rfl, trivial⟩ rfl ?_
  conv => whnf
  intro k hk
  (repeat' ((conv => whnf); first | refine bsplit (fun _ => ?_) (fun _ => ?_) | refine adraw ?_ | refine leave ?_ | refine acall (decide_Reads (k : Int)) ?_ | refine dcall (decide_Reads (k : Int)) ?_ | refine GCall.sym _ (fun hg => PC.own (decide_Reads (k : Int))) ?_ | refine acall (ref26_Reads (k : Int)) ?_ | refine dcall (ref26_Reads (k : Int)) ?_ | refine GCall.sym _ (fun hg => PC.own (ref26_Reads (k : Int))) ?_ | refine acall (decide_Waits (k : Int)) ?_ | refine dcall (decide_Waits (k : Int)) ?_ | refine GCall.sym _ (fun hg => PC.own (decide_Waits (k : Int))) ?_ | refine acall (ref26_Waits (k : Int)) ?_ | refine dcall (ref26_Waits (k : Int)) ?_ | refine GCall.sym _ (fun hg => PC.own (ref26_Waits (k : Int))) ?_ | refine And.intro (by first | assumption | omega | (simp; omega)) ?_)) <;> (try (conv => whnf))
  · rename_i h1 h2
    exfalso
    simp at h2
  · rename_i h1 h2
    have hk2 : k < 20 := by have := of_decide_eq_true h1; omega
    exact ⟨⟨k + 1, by omega⟩, by show 20 - (k + 1) < 20 - k; omega, (.same (subE_append ⟨i64_inj (wrap_add hk2 (by omega)), trivial⟩ (by repeat' (first | exact trivial | refine ⟨rfl, ?_⟩))) rfl)⟩
  · (repeat' ((conv => whnf); first | refine bsplit (fun _ => ?_) (fun _ => ?_) | refine adraw ?_ | refine leave ?_ | refine acall (decide_Reads kind) ?_ | refine dcall (decide_Reads kind) ?_ | refine GCall.sym _ (fun hg => PC.own (decide_Reads kind)) ?_ | refine acall (ref26_Reads kind) ?_ | refine dcall (ref26_Reads kind) ?_ | refine GCall.sym _ (fun hg => PC.own (ref26_Reads kind)) ?_ | refine acall (decide_Waits kind) ?_ | refine dcall (decide_Waits kind) ?_ | refine GCall.sym _ (fun hg => PC.own (decide_Waits kind)) ?_ | refine acall (ref26_Waits kind) ?_ | refine dcall (ref26_Waits kind) ?_ | refine GCall.sym _ (fun hg => PC.own (ref26_Waits kind)) ?_ | refine acall (law26_awake) ?_ | refine dcall (law26_awake) ?_ | refine GCall.sym _ (fun hg => PC.own (law26_awake)) ?_ | refine And.intro (by first | assumption | omega | (simp; omega)) ?_)) <;> (try (conv => whnf))
    refine ⟨b1_inj ?_⟩
    simp

end Go.AW

