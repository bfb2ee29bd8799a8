/- Sameness of values; a value's size; whether one may be. -/
import Derived.Test.YtalkhhfinogecaaB3
namespace Go.AW
open Go Go.Proofs

mutual
def sameV : Val → Val → Bool
  | .mk k i b t l, w => ((((k == w.kind && i == w.int) && b == w.bits) && decide (t = w.text)) && l.length == w.list.length) && sameL l w.list
def sameL : List Val → List Val → Bool
  | [], _ => true
  | x :: r, ys => (match ys with | [] => true | y :: s => sameV x y && sameL r s)
end

theorem sameL_false {l m : List Val} {k : Nat} {x y : Val} (hx : l[k]? = some x) (hy : m[k]? = some y) (h : sameV x y = false) : sameL l m = false := by
  induction l generalizing m k with
  | nil => simp at hx
  | cons a l ih =>
    cases m with
    | nil => simp at hy
    | cons b m =>
      cases k with
      | zero => simp at hx hy; subst hx; subst hy; simp [sameL, h]
      | succ k => simp only [sameL]; rw [ih (by simpa using hx) (by simpa using hy), Bool.and_false]

theorem sameL_true {l m : List Val} (h : ∀ (k : Nat) (x y : Val), l[k]? = some x → m[k]? = some y → sameV x y = true) : sameL l m = true := by
  induction l generalizing m with
  | nil => rfl
  | cons a l ih =>
    cases m with
    | nil => rfl
    | cons b m => simp only [sameL, h 0 a b rfl rfl, Bool.true_and]; exact ih fun k x y hx hy => h (k + 1) x y (by simpa using hx) (by simpa using hy)

theorem sameV_eq (a b : Val) : sameV a b = (((((a.kind == b.kind && a.int == b.int) && a.bits == b.bits) && decide (a.text = b.text)) && a.list.length == b.list.length) && sameL a.list b.list) := by
  cases a; rfl

theorem nat_bne (a b : Nat) : (((a : Int)) != (b : Int)) = !(a == b) := by
  have : ((a : Int) == (b : Int)) = (a == b) := by rw [Bool.eq_iff_iff]; simp [Int.ofNat_inj]
  rw [bne, this]

theorem nm_len (k i b : Bool) (t : Bool) (n : Bool) (h : (bif bif bif bif !k then true else !i then true else !b then true else !t then true else !n) = true) : ((((k && i) && b) && t) && n) = false := by
  cases k <;> cases i <;> cases b <;> cases t <;> cases n <;> first | rfl | cases h

theorem nm_len' (k i b : Bool) (t : Bool) (n : Bool) (h : (bif bif bif bif !k then true else !i then true else !b then true else !t then true else !n) = false) : ((((k && i) && b) && t) && n) = true := by
  cases k <;> cases i <;> cases b <;> cases t <;> cases n <;> first | rfl | cases h

theorem value_Same (a b : Val) : PCall PP 89 [fv a.enc, fv b.enc] (B1 (sameV a b)) := by
  refine pcall_of TTok Try.func89 rfl rfl rfl rfl rfl rfl (fun hfit => ?_)
  have hb := (Val.fit (fitV_fv hfit.1)).1
  have hla := encs_length a.list
  have hlb := encs_length b.list
  (repeat' ((conv => whnf); first | refine bsplit (fun _ => ?_) (fun _ => ?_) | refine adraw ?_ | refine leave ?_)) <;> (try (conv => whnf))
  · rename_i h
    refine ⟨?_⟩
    rw [hla, hlb, nat_bne] at h
    rw [sameV_eq, nm_len _ _ _ _ _ h, Bool.false_and]
  · rename_i h
    rw [hla, hlb, nat_bne] at h
    have hc := nm_len' _ _ _ _ _ h
    have hlen : a.list.length = b.list.length := by simp_all
    have hs : sameV a b = sameL a.list b.list := by rw [sameV_eq, hc, Bool.true_and]
    clear h
    refine aloopI (fun k : Nat => [(2, .ptr 0 0), (3, .ptr 1 0), (43, I64 a.list.length), (44, I64 k)]) (fun _ => [.cells (a.enc.map .fr), .cells (b.enc.map .fr)]) (fun k => a.list.length - k)
      (fun k => k ≤ a.list.length ∧ ∀ j < k, ∀ x y, a.list[j]? = some x → b.list[j]? = some y → sameV x y = true) 0 ⟨by omega, by intro j h; omega⟩ (.same ⟨rfl, rfl, congrArg (fun n : Nat => I64 n) hla, rfl, trivial⟩ rfl) ?_
    rintro k ⟨hk, hin⟩
    (repeat' ((conv => whnf); first | refine bsplit (fun _ => ?_) (fun _ => ?_) | refine adraw ?_ | refine leave ?_)) <;> (try (conv => whnf))
    · rename_i h1
      have hk2 : k < a.list.length := by simp at h1; omega
      obtain ⟨x, hx⟩ : ∃ x, a.list[k]? = some x := ⟨_, List.getElem?_eq_getElem hk2⟩
      obtain ⟨y, hy⟩ : ∃ y, b.list[k]? = some y := ⟨_, List.getElem?_eq_getElem (by omega)⟩
      have : SizeOf.sizeOf x < SizeOf.sizeOf a := Val.lt_of_mem (List.mem_of_getElem? hx)
      refine aidx (Val.encs_eq _) hx ?_
      conv => whnf
      refine aidx (Val.encs_eq _) hy ?_
      (repeat' ((conv => whnf); first | refine bsplit (fun _ => ?_) (fun _ => ?_) | refine adraw ?_ | refine leave ?_ | refine acall (value_Same x y) ?_ | refine dcall (value_Same x y) ?_ | refine GCall.sym _ (fun _ => PC.own (value_Same x y)) ?_)) <;> (try (conv => whnf))
      · rename_i h2
        refine ⟨?_⟩
        rw [hs, sameL_false hx hy (by simpa using h2)]
      · rename_i h2
        refine ⟨⟨k + 1, by omega, fun j hj x' y' hx' hy' => ?_⟩, by show a.list.length - (k + 1) < a.list.length - k; omega, .same ⟨rfl, rfl, rfl, i64_inj (wrap_add hk2 (by omega)), trivial⟩ rfl⟩
        by_cases hjk : j = k
        · subst hjk; rw [hx] at hx'; rw [hy] at hy'; cases hx'; cases hy'; simpa using h2
        · exact hin j (by omega) x' y' hx' hy'
    · rename_i h1
      have hk2 : a.list.length ≤ k := by simp at h1; omega
      refine ⟨?_⟩
      rw [hs, sameL_true fun j x y hx hy => hin j (by have := (List.getElem?_eq_some_iff.1 hx).1; omega) x y hx hy]
termination_by SizeOf.sizeOf a

end Go.AW
