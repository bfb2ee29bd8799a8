/- Values: a clone, sameness. -/
import Derived.Test.YtalkhhfinogecaaB0T
namespace Go.AW
open Go Go.Proofs

inductive Val where
  | mk (kind int bits : Int) (text : ByteArray) (list : List Val)
namespace Val
def kind : Val → Int | .mk k _ _ _ _ => k
def int : Val → Int | .mk _ i _ _ _ => i
def bits : Val → Int | .mk _ _ b _ _ => b
def text : Val → ByteArray | .mk _ _ _ s _ => s
def list : Val → List Val | .mk _ _ _ _ l => l
mutual
def raw : Val → List F
  | .mk k i b s l => [.sc (.int .i64 k), .sc (.int .i64 i), .sc (.int .u64 b), .sc (.string s), .sl 5 64 (raws l)]
def raws : List Val → List (List F)
  | [] => []
  | x :: r => raw x :: raws r
end
def encs (l : List Val) : List (List F) := raws l
def enc (x : Val) : List F := [.sc (.int .i64 x.kind), .sc (.int .i64 x.int), .sc (.int .u64 x.bits), .sc (.string x.text), .sl 5 64 (encs x.list)]
theorem enc_raw (x : Val) : x.raw = x.enc := by cases x; rfl
theorem encs_eq (l : List Val) : encs l = l.map enc := by
  induction l with
  | nil => rfl
  | cons x r ih => show raw x :: encs r = _; rw [ih, enc_raw]; rfl
theorem lt_of_mem {x y : Val} (h : y ∈ x.list) : SizeOf.sizeOf y < SizeOf.sizeOf x := by
  cases x with
  | mk k i b s l => have := List.sizeOf_lt_of_mem (show y ∈ l from h); simp; omega
theorem fit {x : Val} (h : Fit x.enc) : x.list.length * 64 ≤ 140737488355328 ∧ ∀ y ∈ x.list, Fit y.enc := by
  have h1 := h (.sl 5 64 (encs x.list)) (by simp [enc])
  cases h1 with
  | sl n b es h k =>
    rw [encs_eq] at h k
    refine ⟨by simpa using h, fun y hy f hf => ?_⟩
    obtain ⟨i, hi⟩ := List.getElem?_of_mem hy
    obtain ⟨j, hj⟩ := List.getElem?_of_mem hf
    exact k i y.enc j f (by rw [List.getElem?_map, hi]; rfl) hj
end Val

theorem wrap_add {k : Nat} {m : Nat} (h : k < m) (hm : m ≤ 140737488355328) : IntKind.i64.wrap ((k : Int) + 1) = ((k + 1 : Nat) : Int) := by
  rw [IntWalk.i64_in _ (by omega)]; omega

theorem take_snoc {α : Type} {l : List α} {k : Nat} {x : α} (h : l[k]? = some x) : l.take (k + 1) = l.take k ++ [x] := by
  obtain ⟨hk, rfl⟩ := List.getElem?_eq_some_iff.1 h
  exact List.take_succ_eq_append_getElem hk

theorem aidx {α : Type} {enc : α → List F} {l : List α} {es : List (List F)} {K : List F → Prop} (he : es = l.map enc) {k : Nat} {x : α} (hx : l[k]? = some x) (h : K (enc x)) : AIdx es k K :=
  ⟨enc x, Int.natCast_nonneg k, by rw [he, List.getElem?_map]; simp [hx], h⟩

theorem encs_take {l : List Val} {k : Nat} {x : Val} (h : l[k]? = some x) : (Val.encs l).take (k + 1) = (Val.encs l).take k ++ [x.enc] := take_snoc (by rw [Val.encs_eq, List.getElem?_map, h]; rfl)

theorem encs_length (l : List Val) : (Val.encs l).length = l.length := by rw [Val.encs_eq, List.length_map]

theorem value_Clone (x : Val) : PCall PP 72 [fv x.enc] (fv x.enc) := by
  refine pcall_of TTok Try.func72 rfl rfl rfl rfl rfl rfl (fun hfit => ?_)
  have hb := (Val.fit (fitV_fv hfit.1)).1
  have hl := encs_length x.list
  conv => whnf
  refine aloop (fun k : Nat => [(1, .ptr 0 0), (2, .ptr 1 0), (3, .buf 2), (7, .fr (.sl 5 64 (Val.encs x.list))), (8, I64 (Val.encs x.list).length), (9, I64 k)])
    (fun k => [.cells (x.enc.map .fr), .cells [I64 0, I64 0, .fr (.sc (.int .u64 0)), S1 ⟨#[]⟩, .fr (.sc (.slice none 0 0))], .buf 35 5 64 ((Val.encs x.list).take k)]) (fun k => x.list.length - k) 0 (.thaw 3 35 5 64 rfl (.same ⟨rfl, rfl, rfl, rfl, rfl, rfl, trivial⟩ rfl)) ?_
  intro k
  conv => whnf
  refine bsplit (fun h => ?_) (fun h => ?_)
  · have hk : k < x.list.length := by have := of_decide_eq_true h; omega
    obtain ⟨y, hy⟩ : ∃ y, x.list[k]? = some y := ⟨_, List.getElem?_eq_getElem hk⟩
    have : SizeOf.sizeOf y < SizeOf.sizeOf x := Val.lt_of_mem (List.mem_of_getElem? hy)
    conv => whnf
    refine aidx (Val.encs_eq _) hy ?_
    conv => whnf
    refine acall (value_Clone y) ?_
    conv => whnf
    refine ⟨by rw [List.length_take]; simp; omega, ?_⟩
    conv => whnf
    exact ⟨k + 1, by omega, .move 4 2 rfl (.trunc [_, _] ⟨rfl, rfl, rfl, rfl, rfl, congrArg _ (congrArg _ (congrArg _ (wrap_add hk (by omega)))), trivial⟩ (by rw [encs_take hy]; rfl) rfl rfl)⟩
  · have e : (Val.encs x.list).take k = Val.encs x.list := List.take_of_length_le (by have := of_decide_eq_false h; omega)
    rw [e]
    conv => whnf
    refine leave ?_
    conv => whnf
    exact ⟨rfl⟩
termination_by SizeOf.sizeOf x

end Go.AW
