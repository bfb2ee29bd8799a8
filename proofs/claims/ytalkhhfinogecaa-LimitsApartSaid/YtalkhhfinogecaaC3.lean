/- The rows: what they share. -/
import Derived.Test.YtalkhhfinogecaaC2
import Derived.Carry
namespace Go.AW
open Go Go.Proofs Go.RowKit

/-- A struct's argument. -/
theorem read_struct {H : Type} {enc : TypeId × Value → H} {P : Program} {T : TTab} {w : World} {sp : Nat → Bool} {D : List Nat} (hT : TOk P T) (hD : okD T D = true) {t : Nat} (htD : t ∈ D) {ti : TI} {fl : List (Nat × Nat)} {q : Bool} (hti : T.get t = some ti) (hk : ti.k = .st fl q)
    {base : Nat} {v : Value} {d : DataW H} {ps : List MemPlace} (hv : Value.okWide P w .any base t v) (h : DataW.Trod enc P w 0 sp true t v d ps) (hw : ∀ x ∈ d.weights P t, x ≤ reachBytes) :
    ∃ n fs, Typed T n t fs ∧ RepV w (fun k => k < w.heap.size) [] (fv fs) v := by
  obtain ⟨fuel, hf⟩ := h
  obtain ⟨fs, hr⟩ := trod_read hT hD fuel t _ d ps htD hf hw
  obtain ⟨dd, hdd, hkk⟩ := (hT t ti hti).kind
  rw [hk] at hkk
  cases dd <;> try exact hkk.elim
  unfold Value.okWide at hv
  rw [hdd] at hv
  obtain ⟨cs, rfl, _, _⟩ := hv
  refine ⟨fuel, fs, hr.typed, ?_⟩
  have hl : fs.length = cs.size := by simpa [Value.cells] using hr.len
  have hget : ∀ i, (Value.agg cs).cells.toList.getD i undef = cs.getD i undef := fun i => by simp [Value.cells, List.getD_eq_getElem?_getD, Array.getD_eq_getD_getElem?]
  refine .agg _ _ (by simp [hl]) (fun i hi => ?_) (fun i x hx => ?_)
  · have hi' : i < fs.length := by omega
    have := (hr.rep i fs[i] (by simp)).one
    rw [hget] at this; exact this
  · rw [List.getElem?_map] at hx
    cases hq : fs[i]? with
    | none => rw [hq] at hx; cases hx
    | some f =>
      rw [hq] at hx; cases hx
      have := hr.rep i f hq
      rw [hget] at this
      exact .fr _ _ this

end Go.AW
