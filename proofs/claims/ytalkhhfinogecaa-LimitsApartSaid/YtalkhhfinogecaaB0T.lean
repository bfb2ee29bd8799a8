/- Steps through a function. -/
import Derived.Test.YtalkhhfinogecaaB0
import Derived.IntWalk
namespace Go.AW
open Go Go.Proofs

/-- A loop with an invariant. -/
theorem aloopI {P : Program} {T : TTab} {c : Code} {K : AExit → Env → Heap → Prop} {α : Type} {E : Env} {H : Heap} (EE : α → Env) (HH : α → Heap) (m : α → Nat) (I : α → Prop) (x0 : α) (i0 : I x0) (h0 : ANx (EE x0) (HH x0) E H)
    (round : ∀ x (hx : I x), xcode P T c (EE x) (HH x) (loopK (fun y : {y // I y} => EE y.1) (fun y => HH y.1) (fun y => m y.1) ⟨x, hx⟩ K)) : ALoop P T c E H K :=
  aloop (fun y : {y // I y} => EE y.1) (fun y => HH y.1) (fun y => m y.1) ⟨x0, i0⟩ h0 (fun ⟨x, hx⟩ => round x hx)

theorem b1_inj {a b : Bool} (h : a = b) : B1 a = B1 b := by rw [h]
theorem i64_inj {a b : Int} (h : a = b) : I64 a = I64 b := by rw [h]

theorem ares {x v : V} (h : x = v) : ARes x v := ⟨h⟩

abbrev U8 (c : Int) : V := .fr (.sc (.int .u8 c))
abbrev U64 (c : Int) : V := .fr (.sc (.int .u64 c))

theorem astr {s : ByteArray} {k : Nat} {i : Int} {K : Nat → Prop} (hk : k < s.size) (hi : i = k) (h : K s[k].toNat) : AStr s i K := by
  subst hi
  exact ⟨hk, Int.natCast_nonneg k, h⟩

end Go.AW
