/- The law LimitsApart: it returns true, for every input. -/
import Derived.Test.YtalkhhfinogecaaRows
import Derived.Test.YtalkhhfinogecaaB9
import Derived.Test.YtalkhhfinogecaaC3
import Derived.WalkKit
import Derived.ProofKit
import Derived.OpenShut
import Derived.ChangeOld
import Derived.SizedLaws
namespace Go.Proofs.Ytalkhhfinogecaa.limitsApart
open Go.ChangeShapes Go.WideShapes Go.ChangeAt Go.RowKit Go.AW

theorem own : ownKnob Try.prog.godebug = none := by kernel_rfl
theorem laidOut : laidOutB Try.prog = true := by kernel_rfl
theorem hD : okD TT [3, 9, 32, 35, 33, 37, 79, 38, 101, 39, 41] = true := by kernel_rfl
def zeroReq : Value := .agg #[.int .i64 0, .string ⟨#[]⟩, .string ⟨#[]⟩, .string ⟨#[]⟩, .int .i64 0, .int .i64 0, .int .u64 0, .string ⟨#[]⟩, .slice none 0 0, .int .i64 0, .int .i64 0, .int .i64 0, .int .i64 0, .int .u64 0, .int .i64 0, .slice none 0 0, .slice none 0 0]

set_option maxRecDepth 100000 in
theorem lifted (os : Os) (started : os.Started) (H : Type) (enc : TypeId × Value → H) :
    ReturnsInHanded {} Try.checked os 5 .any (Rows.limitsApartSpec.pre6 enc Try.prog Try.f5 Rows.limitsApartRow.domain false) (Rows.limitsApartSpec.post enc Try.prog Try.f5 false true false false) := by
  refine returnsInHanded_of_change_sized (C := Try.checked) own started (by kernel_rfl) Try.func5
    (ChangeSpec.witness6 (enc := enc) (C := Try.checked) false ⟨#[], #[zeroReq, .int .i64 0], []⟩ 8 (by kernel_rfl) (by kernel_rfl) (by kernel_rfl) (by kernel_rfl)) ?_
  intro W base args ds gs before hval0 hW hcnd hsz0 _
  have hval : ∀ (j : Nat) t v, Try.f5.params[j]? = some t → args[j]? = some v → Value.okWide Try.prog W .any base t v := hval0
  have hW' := hW
  obtain ⟨p, q, hA0, hV, rfl, hfz, hnd⟩ := hW
  have hA : DataW.TrodAll enc Try.prog W 0 (fun _ => true) true Try.f5.params.toList args.toList ds p := hA0
  have hsz : (DataW.weightsEach Try.prog (Try.f5.params.toList ++ Rows.limitsApartSpec.plain.varTypes Try.prog) (ds ++ gs)).all (· ≤ reachBytes) = true := hsz0
  rw [Try.params5] at hA hval hsz
  obtain ⟨v0, vs0, d0, ds0, p0, q0, hargs, rfl, rfl, h0, r0⟩ := trodAll_cons hA
  obtain ⟨v1, vs1, d1, ds1, p1, q1, rfl, rfl, rfl, h1, r1⟩ := trodAll_cons r0
  obtain ⟨rfl, rfl, rfl⟩ := trodAll_nil r1
  obtain rfl : args = #[v0, v1] := by cases args; simp_all
  obtain ⟨rfl, rfl⟩ := trodVars_none hV
  obtain ⟨a1, rfl, rfl, rfl, w1⟩ := open_int Try.underlying3 (hval 1 3 v1 rfl rfl) h1
  have k0 := h0
  have lt0 : ∀ x ∈ p0, x.block < W.heap.size := by obtain ⟨m, hm⟩ := k0; exact DataW.trod_lt m _ _ _ hm
  obtain ⟨n0, fs0, ht0, hr0⟩ := read_struct TTok.tok hD (t := 41) (by decide) rfl rfl (hval 0 41 v0 rfl rfl) h0 (fun x hx => by
    have := List.all_eq_true.1 hsz x (weights_each (i := 0) rfl rfl hx)
    simpa using this)
  obtain ⟨r, rfl, _⟩ := typed_req ht0
  clear hA0 hval0 hsz0 hsz
  refine ((law_LimitsApart r a1).calls Try.func5 rfl rfl (w := W) (cargs := #[v0, .int .i64 a1]) ⟨fun k => k < W.heap.size, fun _ h => h, rfl, fun i x hx => ?_⟩).mono fun e W' ⟨he, bel⟩ => ?_
  · match i with
    | 0 => cases hx; exact hr0
    | 1 => cases hx; exact .fr _ _ (.sc _ rfl)
    | i + 2 => simp at hx
  subst he
  exact ⟨_, rfl, _, _, _, [], _, [], hW', trodAll_mk1 (shut_bool Try.underlying4 _), (trodAll_cons_mk (Below.trod laidOut (by kernel_rfl) (of_decide_eq_true (by kernel_rfl)) k0 bel lt0) (trodAll_cons_mk (shut_int Try.underlying3 w1) trodAll_mk0)), rfl, bel.frame _, fun h => by cases h⟩

theorem over : Rows.limitsApartRow.holds Try.pinned (OpenSpec.ofChange Rows.limitsApartSpec) :=
  OpenClaim.holds_of_wide 5 Try.f5 rfl rfl rfl rfl rfl rfl rfl ⟨rfl, rfl, rfl, rfl, rfl⟩ rfl rfl rfl rfl rfl (by kernel_rfl) Try.func5 (by kernel_rfl)
    (of_decide_eq_true (by kernel_rfl)) (by unfold Func.isWrapper; first | (rw [if_pos (by decide +kernel)]; kernel_rfl) | (rw [if_neg (by decide +kernel)]; exact ⟨rfl, rfl⟩))
    (fun os started H enc _ => lifted os started H enc)

end Go.Proofs.Ytalkhhfinogecaa.limitsApart
namespace Go.Proofs.Ytalkhhfinogecaa
theorem limitsApart_holds : Rows.LimitsApartSaid := limitsApart.over
#print axioms limitsApart_holds
end Go.Proofs.Ytalkhhfinogecaa
