/- The interface's structs, read. -/
import Derived.Test.YtalkhhfinogecaaC1
import Derived.Test.YtalkhhfinogecaaB7
namespace Go.AW
open Go Go.Proofs Go.RowKit

section
variable {T : TTab} {n t : Nat} {fs : List F} {ti : TI}
theorem typed_int {k : IntKind} (h : Typed T n t fs) (ht : T.get t = some ti) (hk : ti.k = .int k) : ∃ x, fs = [.sc (.int k x)] ∧ (Lit.int k x).wf = true := by
  cases n with
  | zero => exact h.elim
  | succ n => simpa only [Typed, ht, hk] using h
theorem typed_bool (h : Typed T n t fs) (ht : T.get t = some ti) (hk : ti.k = .bool) : ∃ b, fs = [.sc (.bool b)] := by
  cases n with
  | zero => exact h.elim
  | succ n => simpa only [Typed, ht, hk] using h
theorem typed_str (h : Typed T n t fs) (ht : T.get t = some ti) (hk : ti.k = .str) : ∃ s : ByteArray, fs = [.sc (.string s)] ∧ s.size ≤ 140737488351232 := by
  cases n with
  | zero => exact h.elim
  | succ n => simpa only [Typed, ht, hk] using h
theorem typed_sli {e : Nat} (h : Typed T n t fs) (ht : T.get t = some ti) (hk : ti.k = .sli e) : ∃ m es, n = m + 1 ∧ fs = [.sl (szOf T e) (byOf T e) es] ∧ ∀ r ∈ es, Typed T m e r := by
  cases n with
  | zero => exact h.elim
  | succ n =>
    have h' : ∃ es, fs = [.sl (szOf T e) (byOf T e) es] ∧ ∀ r ∈ es, Typed T n e r := by simpa only [Typed, ht, hk] using h
    obtain ⟨es, h1, h2⟩ := h'
    exact ⟨n, es, rfl, h1, h2⟩
theorem typed_st {fl : List (Nat × Nat)} {q : Bool} (h : Typed T n t fs) (ht : T.get t = some ti) (hk : ti.k = .st fl q) :
    ∃ m ps, n = m + 1 ∧ fs = List.flatten ps ∧ ps.length = fl.length ∧ ∀ (i : Nat) (p : List F) (f : Nat × Nat), ps[i]? = some p → fl[i]? = some f → Typed T m f.2 p := by
  cases n with
  | zero => exact h.elim
  | succ n =>
    have h' : ∃ ps : List (List F), fs = ps.flatten ∧ ps.length = fl.length ∧ ∀ (i : Nat) (p : List F) (f : Nat × Nat), ps[i]? = some p → fl[i]? = some f → Typed T n f.2 p := by simpa only [Typed, ht, hk] using h
    obtain ⟨ps, h1, h2, h3⟩ := h'
    exact ⟨n, ps, rfl, h1, h2, h3⟩
end

theorem exists_map {α : Type} {enc : α → List F} {Q : α → Prop} : ∀ {es : List (List F)}, (∀ r ∈ es, ∃ x, r = enc x ∧ Q x) → ∃ l : List α, es = l.map enc ∧ ∀ x ∈ l, Q x
  | [], _ => ⟨[], rfl, by simp⟩
  | r :: es, h => by
    obtain ⟨x, rfl, hx⟩ := h r List.mem_cons_self
    obtain ⟨l, rfl, hl⟩ := exists_map fun r hr => h r (List.mem_cons_of_mem _ hr)
    refine ⟨x :: l, rfl, fun y hy => ?_⟩
    rcases List.mem_cons.1 hy with rfl | hy
    · exact hx
    · exact hl y hy

abbrev i64w (x : Int) : Prop := (Lit.int .i64 x).wf = true
abbrev u64w (x : Int) : Prop := (Lit.int .u64 x).wf = true
abbrev strw (s : ByteArray) : Prop := s.size ≤ 140737488351232

inductive Val.Wf : Val → Prop where
  | mk (k i b : Int) (t : ByteArray) (l : List Val) (h1 : i64w k) (h2 : i64w i) (h3 : u64w b) (h4 : strw t) (h5 : ∀ x ∈ l, Val.Wf x) : Val.Wf (.mk k i b t l)

theorem typed_val : ∀ (n : Nat) (fs : List F), Typed TT n 35 fs → ∃ v : Val, fs = v.enc ∧ v.Wf := by
  intro n
  induction n using Nat.strongRecOn with
  | _ n ih =>
    intro fs h
    obtain ⟨m, ps, rfl, rfl, hl, hp⟩ := typed_st h rfl rfl
    match ps, hl with
    | [p0, p1, p2, p3, p4], _ =>
      obtain ⟨k, rfl, h1⟩ := typed_int (hp 0 p0 _ rfl rfl) rfl rfl
      obtain ⟨i, rfl, h2⟩ := typed_int (hp 1 p1 _ rfl rfl) rfl rfl
      obtain ⟨b, rfl, h3⟩ := typed_int (hp 2 p2 _ rfl rfl) rfl rfl
      obtain ⟨t, rfl, h4⟩ := typed_str (hp 3 p3 _ rfl rfl) rfl rfl
      obtain ⟨m2, es, rfl, rfl, h5⟩ := typed_sli (hp 4 p4 _ rfl rfl) rfl rfl
      obtain ⟨l, rfl, h6⟩ := exists_map (enc := Val.enc) (Q := Val.Wf) fun r hr => ih m2 (by omega) r (h5 r hr)
      refine ⟨.mk k i b t l, ?_, .mk k i b t l h1 h2 h3 h4 h6⟩
      rw [← Val.encs_eq]
      rfl

structure Pol.Wf (p : Pol) : Prop where
  h1 : i64w p.first
  h2 : u64w p.coef
  h3 : i64w p.most

theorem typed_pol {n : Nat} {fs : List F} (h : Typed TT n 37 fs) : ∃ v : Pol, fs = v.enc ∧ v.Wf := by
  obtain ⟨m, ps, rfl, rfl, hl, hp⟩ := typed_st h rfl rfl
  match ps, hl with
  | [p0, p1, p2], _ =>
    obtain ⟨k, rfl, h1⟩ := typed_int (hp 0 p0 _ rfl rfl) rfl rfl
    obtain ⟨i, rfl, h2⟩ := typed_int (hp 1 p1 _ rfl rfl) rfl rfl
    obtain ⟨b, rfl, h3⟩ := typed_int (hp 2 p2 _ rfl rfl) rfl rfl
    exact ⟨⟨k, i, b⟩, rfl, h1, h2, h3⟩

structure Cmd.Wf (c : Cmd) : Prop where
  h1 : i64w c.kind
  h2 : strw c.name
  h3 : c.value.Wf
  h4 : i64w c.delay

theorem typed_cmd {n : Nat} {fs : List F} (h : Typed TT n 79 fs) : ∃ v : Cmd, fs = v.enc ∧ v.Wf := by
  obtain ⟨m, ps, rfl, rfl, hl, hp⟩ := typed_st h rfl rfl
  match ps, hl with
  | [p0, p1, p2, p3], _ =>
    obtain ⟨k, rfl, h1⟩ := typed_int (hp 0 p0 _ rfl rfl) rfl rfl
    obtain ⟨i, rfl, h2⟩ := typed_str (hp 1 p1 _ rfl rfl) rfl rfl
    obtain ⟨v, rfl, h3⟩ := typed_val _ _ (hp 2 p2 _ rfl rfl)
    obtain ⟨d, rfl, h4⟩ := typed_int (hp 3 p3 _ rfl rfl) rfl rfl
    exact ⟨⟨k, i, v, d⟩, rfl, h1, h2, h3, h4⟩

structure Ans.Wf (a : Ans) : Prop where
  h1 : i64w a.op
  h2 : a.value.Wf

theorem typed_ans {n : Nat} {fs : List F} (h : Typed TT n 101 fs) : ∃ v : Ans, fs = v.enc ∧ v.Wf := by
  obtain ⟨m, ps, rfl, rfl, hl, hp⟩ := typed_st h rfl rfl
  match ps, hl with
  | [p0, p1], _ =>
    obtain ⟨k, rfl, h1⟩ := typed_int (hp 0 p0 _ rfl rfl) rfl rfl
    obtain ⟨v, rfl, h2⟩ := typed_val _ _ (hp 1 p1 _ rfl rfl)
    exact ⟨⟨k, v⟩, rfl, h1, h2⟩

structure Req.Wf (r : Req) : Prop where
  kind : i64w r.kind
  flow : strw r.flow
  request : strw r.request
  name : strw r.name
  value : r.value.Wf
  run : i64w r.run
  num : i64w r.num
  wait : i64w r.wait
  policy : r.policy.Wf
  commands : ∀ c ∈ r.commands, c.Wf
  answers : ∀ a ∈ r.answers, a.Wf

theorem typed_req {n : Nat} {fs : List F} (h : Typed TT n 41 fs) : ∃ v : Req, fs = v.enc ∧ v.Wf := by
  obtain ⟨m, ps, rfl, rfl, hl, hp⟩ := typed_st h rfl rfl
  match ps, hl with
  | [p0, p1, p2, p3, p4, p5, p6, p7, p8, p9, p10], _ =>
    obtain ⟨k, rfl, h0⟩ := typed_int (hp 0 p0 _ rfl rfl) rfl rfl
    obtain ⟨f, rfl, h1⟩ := typed_str (hp 1 p1 _ rfl rfl) rfl rfl
    obtain ⟨r, rfl, h2⟩ := typed_str (hp 2 p2 _ rfl rfl) rfl rfl
    obtain ⟨nm, rfl, h3⟩ := typed_str (hp 3 p3 _ rfl rfl) rfl rfl
    obtain ⟨v, rfl, h4⟩ := typed_val _ _ (hp 4 p4 _ rfl rfl)
    obtain ⟨ru, rfl, h5⟩ := typed_int (hp 5 p5 _ rfl rfl) rfl rfl
    obtain ⟨nu, rfl, h6⟩ := typed_int (hp 6 p6 _ rfl rfl) rfl rfl
    obtain ⟨wa, rfl, h7⟩ := typed_int (hp 7 p7 _ rfl rfl) rfl rfl
    obtain ⟨po, rfl, h8⟩ := typed_pol (hp 8 p8 _ rfl rfl)
    obtain ⟨m2, es, _, rfl, h9⟩ := typed_sli (hp 9 p9 _ rfl rfl) rfl rfl
    obtain ⟨m3, es3, _, rfl, h10⟩ := typed_sli (hp 10 p10 _ rfl rfl) rfl rfl
    obtain ⟨cs, rfl, h11⟩ := exists_map (enc := Cmd.enc) (Q := Cmd.Wf) fun r hr => typed_cmd (h9 r hr)
    obtain ⟨an, rfl, h12⟩ := exists_map (enc := Ans.enc) (Q := Ans.Wf) fun r hr => typed_ans (h10 r hr)
    exact ⟨⟨k, f, r, nm, v, ru, nu, wa, po, cs, an⟩, rfl, h0, h1, h2, h3, h4, h5, h6, h7, h8, h11, h12⟩

end Go.AW
