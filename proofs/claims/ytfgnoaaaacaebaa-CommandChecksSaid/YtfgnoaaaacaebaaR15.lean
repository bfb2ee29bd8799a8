/- The law CommandChecks: it returns true, for every input. -/
import Derived.Test.YtfgnoaaaacaebaaRows
import Derived.Test.YtfgnoaaaacaebaaMD
import Derived.Test.YtfgnoaaaacaebaaMH
import Derived.WalkKit
import Derived.ProofKit
import Derived.OpenShut
import Derived.ChangeOld
import Derived.SizedLaws
import Derived.ChangeMaps5
namespace Go.Proofs.Ytfgnoaaaacaebaa.commandChecks
open Go.ChangeShapes Go.ChangeMaps Go.WideShapes Go.ChangeAt Go.RowKit Go.AW

theorem own : ownKnob Try.prog.godebug = none := by kernel_rfl
theorem laidOut : laidOutB Try.prog = true := by kernel_rfl
theorem hD : okD TT [3, 9, 32, 35, 33, 79, 38] = true := by kernel_rfl

set_option maxRecDepth 100000 in
theorem lifted (os : Os) (started : os.Started) (H : Type) (enc : TypeId × Value → H) :
    ReturnsInHanded {} Try.checked os 11 .any (Rows.commandChecksSpec.pre6 enc Try.prog Try.f11 Rows.commandChecksRow.domain false) (Rows.commandChecksSpec.post enc Try.prog Try.f11 false true false false) := by
  refine returnsInHanded_of_change_sized (C := Try.checked) own started (by kernel_rfl) Try.func11
    (ChangeSpec.witness6 (enc := enc) (C := Try.checked) false ⟨#[], #[.agg #[.int .i64 0, .string ⟨#[]⟩, .int .i64 0, .int .i64 0, .int .u64 0, .string ⟨#[]⟩, .slice none 0 0, .int .i64 0], .slice none 0 0], []⟩ 8 (by kernel_rfl) (by kernel_rfl) (by kernel_rfl) (by kernel_rfl)) ?_
  intro W base args ds gs before hval0 hW hcnd hsz0 _
  have hval : ∀ (j : Nat) t v, Try.f11.params[j]? = some t → args[j]? = some v → Value.okWide Try.prog W .any base t v := hval0
  have hW' := hW
  obtain ⟨p, q, hA0, hV, rfl, hfz, hnd⟩ := hW
  have hA : DataW.TrodAll enc Try.prog W 0 (fun _ => true) true Try.f11.params.toList args.toList ds p := hA0
  have hsz : (DataW.weightsEach Try.prog (Try.f11.params.toList ++ Rows.commandChecksSpec.plain.varTypes Try.prog) (ds ++ gs)).all (· ≤ reachBytes) = true := hsz0
  rw [Try.params11] at hA hval hsz
  obtain ⟨v0, vs0, d0, ds0, p0, q0, hargs, rfl, rfl, h0, r0⟩ := trodAll_cons hA
  obtain ⟨v1, vs1, d1, ds1, p1, q1, rfl, rfl, rfl, h1, r1⟩ := trodAll_cons r0
  obtain ⟨rfl, rfl, rfl⟩ := trodAll_nil r1
  obtain rfl : args = #[v0, v1] := by cases args; simp_all
  obtain ⟨rfl, rfl⟩ := trodVars_none hV
  have k0 := h0
  have lt0 : ∀ x ∈ p0, x.block < W.heap.size := by obtain ⟨m, hm⟩ := k0; exact DataW.trod_lt m _ _ _ hm
  obtain ⟨n0, fs0, ht0, hr0⟩ := read_struct TTok.tok hD (t := 79) (by decide) rfl rfl (hval 0 79 v0 rfl rfl) h0 (fun x hx => by
    have := List.all_eq_true.1 hsz x (weights_each (i := 0) rfl rfl hx)
    simpa using this)
  obtain ⟨a0, rfl, w0⟩ := typed_cmd ht0
  have k1 := h1
  have lt1 : ∀ x ∈ p1, x.block < W.heap.size := by obtain ⟨m, hm⟩ := k1; exact DataW.trod_lt m _ _ _ hm
  obtain ⟨n1, fs1, ht1, hr1⟩ := read_slice TTok.tok hD (t := 38) (by decide) rfl rfl (hval 1 38 v1 rfl rfl) h1 (fun x hx => by
    have := List.all_eq_true.1 hsz x (weights_each (i := 1) rfl rfl hx)
    simpa using this)
  obtain ⟨a1, rfl, w1⟩ := typed_cmds ht1
  clear hA0 hval0 hsz0 hsz
  refine ((law_CommandChecks a0 (w0.h3.u) a1).calls Try.func11 rfl rfl (w := W) (cargs := #[v0, v1]) ⟨fun k => k < W.heap.size, fun _ h => h, rfl, fun i x hx => ?_⟩).mono fun e W' ⟨he, bel⟩ => ?_
  · match i with
    | 0 => cases hx; exact hr0
    | 1 => cases hx; exact hr1
    | i + 2 => simp at hx
  subst he
  exact ⟨_, rfl, _, _, _, [], _, [], hW', trodAll_mk1 (shut_bool Try.underlying4 _), (trodAll_cons_mk (Below.trod laidOut (by kernel_rfl) (of_decide_eq_true (by kernel_rfl)) k0 bel lt0) (trodAll_cons_mk (Below.trod laidOut (by kernel_rfl) (of_decide_eq_true (by kernel_rfl)) k1 bel lt1) trodAll_mk0)), rfl, bel.frame _, fun h => by cases h⟩

theorem over : Rows.commandChecksRow.holds Try.pinned (OpenSpec.ofChange Rows.commandChecksSpec) :=
  OpenClaim.holds_of_wide 11 Try.f11 rfl rfl rfl rfl rfl rfl rfl ⟨rfl, rfl, rfl, rfl, rfl⟩ rfl rfl rfl rfl rfl (by kernel_rfl) Try.func11 (by kernel_rfl)
    (of_decide_eq_true (by kernel_rfl)) (by unfold Func.isWrapper; first | (rw [if_pos (by decide +kernel)]; kernel_rfl) | (rw [if_neg (by decide +kernel)]; exact ⟨rfl, rfl⟩))
    (fun os started H enc _ => lifted os started H enc)

end Go.Proofs.Ytfgnoaaaacaebaa.commandChecks
namespace Go.Proofs.Ytfgnoaaaacaebaa
theorem commandChecks_holds : Rows.CommandChecksSaid := commandChecks.over
#print axioms commandChecks_holds
end Go.Proofs.Ytfgnoaaaacaebaa

