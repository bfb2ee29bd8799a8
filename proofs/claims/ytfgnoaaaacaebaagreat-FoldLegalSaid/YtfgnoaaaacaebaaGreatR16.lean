/- The law FoldLegal: it returns true, for every input. -/
import Derived.Test.YtfgnoaaaacaebaaGreatRows
import Derived.Test.YtfgnoaaaacaebaaGreatMD
import Derived.Test.YtfgnoaaaacaebaaGreatMI
import Derived.WalkKit
import Derived.ProofKit
import Derived.OpenShut
import Derived.ChangeOld
import Derived.SizedLaws
import Derived.ChangeMaps5
namespace Go.Proofs.YtfgnoaaaacaebaaGreat.foldLegal
open Go.ChangeShapes Go.ChangeMaps Go.WideShapes Go.ChangeAt Go.RowKit Go.AW

theorem own : ownKnob Tryz.prog.godebug = none := by kernel_rfl
theorem laidOut : laidOutB Tryz.prog = true := by kernel_rfl
theorem hD : okD TT [3, 9, 26, 29, 27, 31, 53, 22] = true := by kernel_rfl

set_option maxRecDepth 100000 in
theorem lifted (os : Os) (started : os.Started) (H : Type) (enc : TypeId × Value → H) :
    ReturnsInHanded {} Tryz.checked os 4 .any (Rows.foldLegalSpec.pre6 enc Tryz.prog Tryz.f4 Rows.foldLegalRow.domain false) (Rows.foldLegalSpec.post enc Tryz.prog Tryz.f4 false true false false) := by
  refine returnsInHanded_of_change_sized (C := Tryz.checked) own started (by kernel_rfl) Tryz.func4
    (ChangeSpec.witness6 (enc := enc) (C := Tryz.checked) false ⟨#[], #[.int .i64 0, .slice none 0 0], []⟩ 8 (by kernel_rfl) (by kernel_rfl) (by kernel_rfl) (by kernel_rfl)) ?_
  intro W base args ds gs before hval0 hW hcnd hsz0 _
  have hval : ∀ (j : Nat) t v, Tryz.f4.params[j]? = some t → args[j]? = some v → Value.okWide Tryz.prog W .any base t v := hval0
  have hW' := hW
  obtain ⟨p, q, hA0, hV, rfl, hfz, hnd⟩ := hW
  have hA : DataW.TrodAll enc Tryz.prog W 0 (fun _ => true) true Tryz.f4.params.toList args.toList ds p := hA0
  have hsz : (DataW.weightsEach Tryz.prog (Tryz.f4.params.toList ++ Rows.foldLegalSpec.plain.varTypes Tryz.prog) (ds ++ gs)).all (· ≤ reachBytes) = true := hsz0
  rw [Tryz.params4] at hA hval hsz
  obtain ⟨v0, vs0, d0, ds0, p0, q0, hargs, rfl, rfl, h0, r0⟩ := trodAll_cons hA
  obtain ⟨v1, vs1, d1, ds1, p1, q1, rfl, rfl, rfl, h1, r1⟩ := trodAll_cons r0
  obtain ⟨rfl, rfl, rfl⟩ := trodAll_nil r1
  obtain rfl : args = #[v0, v1] := by cases args; simp_all
  obtain ⟨rfl, rfl⟩ := trodVars_none hV
  obtain ⟨a0, rfl, rfl, rfl, w0⟩ := open_int Tryz.underlying3 (hval 0 3 v0 rfl rfl) h0
  have k1 := h1
  have lt1 : ∀ x ∈ p1, x.block < W.heap.size := by obtain ⟨m, hm⟩ := k1; exact DataW.trod_lt m _ _ _ hm
  obtain ⟨n1, fs1, ht1, hr1⟩ := read_slice TTok.tok hD (t := 22) (by decide) rfl rfl (hval 1 22 v1 rfl rfl) h1 (fun x hx => by
    have := List.all_eq_true.1 hsz x (weights_each (i := 1) rfl rfl hx)
    simpa using this)
  obtain ⟨a1, rfl, w1⟩ := typed_evs ht1
  clear hA0 hval0 hsz0 hsz
  refine ((law_FoldLegal a0 a1 (fun e h => (w1 e h).u)).calls Tryz.func4 rfl rfl (w := W) (cargs := #[.int .i64 a0, v1]) ⟨fun k => k < W.heap.size, fun _ h => h, rfl, fun i x hx => ?_⟩).mono fun e W' ⟨he, bel⟩ => ?_
  · match i with
    | 0 => cases hx; exact .fr _ _ (.sc _ rfl)
    | 1 => cases hx; exact hr1
    | i + 2 => simp at hx
  subst he
  exact ⟨_, rfl, _, _, _, [], _, [], hW', trodAll_mk1 (shut_bool Tryz.underlying4 _), (trodAll_cons_mk (shut_int Tryz.underlying3 w0) (trodAll_cons_mk (Below.trod laidOut (by kernel_rfl) (of_decide_eq_true (by kernel_rfl)) k1 bel lt1) trodAll_mk0)), rfl, bel.frame _, fun h => by cases h⟩

theorem over : Rows.foldLegalRow.holds Tryz.pinned (OpenSpec.ofChange Rows.foldLegalSpec) :=
  OpenClaim.holds_of_wide 4 Tryz.f4 rfl rfl rfl rfl rfl rfl rfl ⟨rfl, rfl, rfl, rfl, rfl⟩ rfl rfl rfl rfl rfl (by kernel_rfl) Tryz.func4 (by kernel_rfl)
    (of_decide_eq_true (by kernel_rfl)) (by unfold Func.isWrapper; first | (rw [if_pos (by decide +kernel)]; kernel_rfl) | (rw [if_neg (by decide +kernel)]; exact ⟨rfl, rfl⟩))
    (fun os started H enc _ => lifted os started H enc)

end Go.Proofs.YtfgnoaaaacaebaaGreat.foldLegal
namespace Go.Proofs.YtfgnoaaaacaebaaGreat
theorem foldLegal_holds : Rows.FoldLegalSaid := foldLegal.over
#print axioms foldLegal_holds
end Go.Proofs.YtfgnoaaaacaebaaGreat

