/- The law CommandApart: it returns true, for every input. -/
import Derived.Test.YtfgnoaaaacaebaaRows
import Derived.Test.YtfgnoaaaacaebaaMD
import Derived.Test.YtfgnoaaaacaebaaMJ
import Derived.WalkKit
import Derived.ProofKit
import Derived.OpenShut
import Derived.ChangeOld
import Derived.SizedLaws
import Derived.ChangeMaps5
namespace Go.Proofs.Ytfgnoaaaacaebaa.commandApart
open Go.ChangeShapes Go.ChangeMaps Go.WideShapes Go.ChangeAt Go.RowKit Go.AW

theorem own : ownKnob Try.prog.godebug = none := by kernel_rfl
theorem laidOut : laidOutB Try.prog = true := by kernel_rfl
theorem hD : okD TT [3, 4, 9, 32, 35, 33, 37, 48, 56, 49, 58, 50, 52, 75, 70, 79, 38] = true := by kernel_rfl

set_option maxRecDepth 100000 in
theorem lifted (os : Os) (started : os.Started) (H : Type) (enc : TypeId × Value → H) :
    ReturnsInHanded {} Try.checked os 10 .any (Rows.commandApartSpec.pre6 enc Try.prog Try.f10 Rows.commandApartRow.domain false) (Rows.commandApartSpec.post enc Try.prog Try.f10 false true false false) := by
  refine returnsInHanded_of_change_sized (C := Try.checked) own started (by kernel_rfl) Try.func10
    (ChangeSpec.witness6 (enc := enc) (C := Try.checked) false ⟨#[], #[.agg #[.int .i64 0, .int .i64 0, .int .i64 0, .int .i64 0, .int .i64 0, .int .i64 0, .int .i64 0, .string ⟨#[]⟩, .int .i64 0, .int .i64 0, .int .u64 0, .string ⟨#[]⟩, .slice none 0 0, .int .i64 0, .int .u64 0, .int .i64 0, .int .i64 0, .int .i64 0, .int .i64 0, .int .i64 0, .int .i64 0, .bool false, .bool false, .slice none 0 0, .slice none 0 0, .int .i64 0, .int .i64 0, .int .u64 0, .string ⟨#[]⟩, .slice none 0 0, .string ⟨#[]⟩], .slice none 0 0, .slice none 0 0], []⟩ 8 (by kernel_rfl) (by kernel_rfl) (by kernel_rfl) (by kernel_rfl)) ?_
  intro W base args ds gs before hval0 hW hcnd hsz0 _
  have hval : ∀ (j : Nat) t v, Try.f10.params[j]? = some t → args[j]? = some v → Value.okWide Try.prog W .any base t v := hval0
  have hW' := hW
  obtain ⟨p, q, hA0, hV, rfl, hfz, hnd⟩ := hW
  have hA : DataW.TrodAll enc Try.prog W 0 (fun _ => true) true Try.f10.params.toList args.toList ds p := hA0
  have hsz : (DataW.weightsEach Try.prog (Try.f10.params.toList ++ Rows.commandApartSpec.plain.varTypes Try.prog) (ds ++ gs)).all (· ≤ reachBytes) = true := hsz0
  rw [Try.params10] at hA hval hsz
  obtain ⟨v0, vs0, d0, ds0, p0, q0, hargs, rfl, rfl, h0, r0⟩ := trodAll_cons hA
  obtain ⟨v1, vs1, d1, ds1, p1, q1, rfl, rfl, rfl, h1, r1⟩ := trodAll_cons r0
  obtain ⟨v2, vs2, d2, ds2, p2, q2, rfl, rfl, rfl, h2, r2⟩ := trodAll_cons r1
  obtain ⟨rfl, rfl, rfl⟩ := trodAll_nil r2
  obtain rfl : args = #[v0, v1, v2] := by cases args; simp_all
  obtain ⟨rfl, rfl⟩ := trodVars_none hV
  have k0 := h0
  have lt0 : ∀ x ∈ p0, x.block < W.heap.size := by obtain ⟨m, hm⟩ := k0; exact DataW.trod_lt m _ _ _ hm
  obtain ⟨n0, fs0, ht0, hr0⟩ := read_struct TTok.tok hD (t := 52) (by decide) rfl rfl (hval 0 52 v0 rfl rfl) h0 (fun x hx => by
    have := List.all_eq_true.1 hsz x (weights_each (i := 0) rfl rfl hx)
    simpa using this)
  obtain ⟨a0, rfl, w0⟩ := typed_state ht0
  have k1 := h1
  have lt1 : ∀ x ∈ p1, x.block < W.heap.size := by obtain ⟨m, hm⟩ := k1; exact DataW.trod_lt m _ _ _ hm
  obtain ⟨n1, fs1, ht1, hr1⟩ := read_slice TTok.tok hD (t := 70) (by decide) rfl rfl (hval 1 70 v1 rfl rfl) h1 (fun x hx => by
    have := List.all_eq_true.1 hsz x (weights_each (i := 1) rfl rfl hx)
    simpa using this)
  obtain ⟨a1, rfl, w1⟩ := typed_asks ht1
  have k2 := h2
  have lt2 : ∀ x ∈ p2, x.block < W.heap.size := by obtain ⟨m, hm⟩ := k2; exact DataW.trod_lt m _ _ _ hm
  obtain ⟨n2, fs2, ht2, hr2⟩ := read_slice TTok.tok hD (t := 38) (by decide) rfl rfl (hval 2 38 v2 rfl rfl) h2 (fun x hx => by
    have := List.all_eq_true.1 hsz x (weights_each (i := 2) rfl rfl hx)
    simpa using this)
  obtain ⟨a2, rfl, w2⟩ := typed_cmds ht2
  clear hA0 hval0 hsz0 hsz
  refine ((law_CommandApart a0 a1 a2).calls Try.func10 rfl rfl (w := W) (cargs := #[v0, v1, v2]) ⟨fun k => k < W.heap.size, fun _ h => h, rfl, fun i x hx => ?_⟩).mono fun e W' ⟨he, bel⟩ => ?_
  · match i with
    | 0 => cases hx; exact hr0
    | 1 => cases hx; exact hr1
    | 2 => cases hx; exact hr2
    | i + 3 => simp at hx
  subst he
  exact ⟨_, rfl, _, _, _, [], _, [], hW', trodAll_mk1 (shut_bool Try.underlying4 _), (trodAll_cons_mk (Below.trod laidOut (by kernel_rfl) (of_decide_eq_true (by kernel_rfl)) k0 bel lt0) (trodAll_cons_mk (Below.trod laidOut (by kernel_rfl) (of_decide_eq_true (by kernel_rfl)) k1 bel lt1) (trodAll_cons_mk (Below.trod laidOut (by kernel_rfl) (of_decide_eq_true (by kernel_rfl)) k2 bel lt2) trodAll_mk0))), rfl, bel.frame _, fun h => by cases h⟩

theorem over : Rows.commandApartRow.holds Try.pinned (OpenSpec.ofChange Rows.commandApartSpec) :=
  OpenClaim.holds_of_wide 10 Try.f10 rfl rfl rfl rfl rfl rfl rfl ⟨rfl, rfl, rfl, rfl, rfl⟩ rfl rfl rfl rfl rfl (by kernel_rfl) Try.func10 (by kernel_rfl)
    (of_decide_eq_true (by kernel_rfl)) (by unfold Func.isWrapper; first | (rw [if_pos (by decide +kernel)]; kernel_rfl) | (rw [if_neg (by decide +kernel)]; exact ⟨rfl, rfl⟩))
    (fun os started H enc _ => lifted os started H enc)

end Go.Proofs.Ytfgnoaaaacaebaa.commandApart
namespace Go.Proofs.Ytfgnoaaaacaebaa
theorem commandApart_holds : Rows.CommandApartSaid := commandApart.over
#print axioms commandApart_holds
end Go.Proofs.Ytfgnoaaaacaebaa

