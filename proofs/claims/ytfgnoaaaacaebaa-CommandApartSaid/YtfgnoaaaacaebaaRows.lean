/-
  NARROWER THAN 'FOR EVERY INPUT', by the rows' own cells (each row's printed sentence says how): ResetPoints: loops · LimitsApart: loops · LimitsChecks: loops · StateOwn: loops · FoldParts: loops · StateStays: loops · CommandApart: loops · CommandChecks: loops · CommandFirst: loops.
  DERIVED. THE GIVEN ROWS OF THIS SEAT. 10 by the template 'for every input the law returns true; each argument reads behind the call as it read before'; 0 by the template 'total and deterministic' (their statements: YtfgnoaaaacaebaaTotals.lean).
  GIVEN WITH THE SEED: the statements are not yours to turn. If you find one false, say at which input.
  Laid BY PROGRAM, IN A SANDBOX (cutbox-rows.mjs): the forced cells as the released guide's own fill.sh prints them over the translation 6a016637c13daf82… (all of the seat's roots in one cut). By AI agents, Wed Nov 11 2026. No macro, syntax, notation, axiom, sorry.
-/
import Derived.Test.YtfgnoaaaacaebaaChecked
import GoSem.Claim
import GoSem.ClaimJoined
import GoSem.ClaimMapViews
import Derived.JoinedTies
import Derived.KernelRfl
namespace Go.Proofs.Ytfgnoaaaacaebaa
/- THE CELL 'sum', in the pinned program and in every row, IS THE sha256 OF THE DUMP (.gsa) THAT YtfgnoaaaacaebaaProg.lean LOADS. Nothing in Lean hashes anything: it is a label: what it is worth is what the hold of that sum in a sandbox is worth. -/
noncomputable def Try.pinned : Pinned := { name := "ytfgnoaaaacaebaa", sum := "6a016637c13daf8275f54884f4f7ff1dd094691145b24b619ebe08ebdefa12ad", checked := Try.checked }
namespace Rows
def none {H : Type} : Left H := { results := [], args := [] }

/-- 'usherlaw23.ResetPoints': WHATEVER THE INPUT: true; the input reads as it did. -/
def resetPointsSpec : ChangeSpec := { name := "resetPoints", fn := fun _ => fun
  | [d1, d2, d3, d4] => { results := [.lit (.bool true)], args := [d1, d2, d3, d4] }
  | _ => none }
def resetPointsRow : OpenClaim := { program := "ytfgnoaaaacaebaa", sum := "6a016637c13daf8275f54884f4f7ff1dd094691145b24b619ebe08ebdefa12ad", func := "usher/usherlaw23.ResetPoints", spec := "resetPoints", unfollowed := true, recurses := true, loops := true, apart := false }
def ResetPointsSaid : Prop := resetPointsRow.holds Try.pinned (OpenSpec.ofChange resetPointsSpec)

/-- ITS FALSE NEIGHBOUR: 'it returns false'. Refute it at one input. -/
def resetPointsWrong : ChangeSpec := { name := "resetPoints", fn := fun _ => fun
  | [d1, d2, d3, d4] => { results := [.lit (.bool false)], args := [d1, d2, d3, d4] }
  | _ => none }
def ResetPointsWrongFalsely : Prop := resetPointsRow.holds Try.pinned (OpenSpec.ofChange resetPointsWrong)

/-- 'usherlaw28.LimitsFields': WHATEVER THE INPUT: true; the input reads as it did. -/
def limitsFieldsSpec : ChangeSpec := { name := "limitsFields", fn := fun _ => fun
  | [d] => { results := [.lit (.bool true)], args := [d] }
  | _ => none }
def limitsFieldsRow : OpenClaim := { program := "ytfgnoaaaacaebaa", sum := "6a016637c13daf8275f54884f4f7ff1dd094691145b24b619ebe08ebdefa12ad", func := "usher/usherlaw28.LimitsFields", spec := "limitsFields", recurses := true, apart := false }
def LimitsFieldsSaid : Prop := limitsFieldsRow.holds Try.pinned (OpenSpec.ofChange limitsFieldsSpec)

/-- ITS FALSE NEIGHBOUR: 'it returns false'. Refute it at one input. -/
def limitsFieldsWrong : ChangeSpec := { name := "limitsFields", fn := fun _ => fun
  | [d] => { results := [.lit (.bool false)], args := [d] }
  | _ => none }
def LimitsFieldsWrongFalsely : Prop := limitsFieldsRow.holds Try.pinned (OpenSpec.ofChange limitsFieldsWrong)

/-- 'usherlaw28.LimitsApart': WHATEVER THE INPUT: true; the input reads as it did. -/
def limitsApartSpec : ChangeSpec := { name := "limitsApart", fn := fun _ => fun
  | [d1, d2] => { results := [.lit (.bool true)], args := [d1, d2] }
  | _ => none }
def limitsApartRow : OpenClaim := { program := "ytfgnoaaaacaebaa", sum := "6a016637c13daf8275f54884f4f7ff1dd094691145b24b619ebe08ebdefa12ad", func := "usher/usherlaw28.LimitsApart", spec := "limitsApart", recurses := true, loops := true, apart := false }
def LimitsApartSaid : Prop := limitsApartRow.holds Try.pinned (OpenSpec.ofChange limitsApartSpec)

/-- ITS FALSE NEIGHBOUR: 'it returns false'. Refute it at one input. -/
def limitsApartWrong : ChangeSpec := { name := "limitsApart", fn := fun _ => fun
  | [d1, d2] => { results := [.lit (.bool false)], args := [d1, d2] }
  | _ => none }
def LimitsApartWrongFalsely : Prop := limitsApartRow.holds Try.pinned (OpenSpec.ofChange limitsApartWrong)

/-- 'usherlaw28.LimitsChecks': WHATEVER THE INPUT: true; the input reads as it did. -/
def limitsChecksSpec : ChangeSpec := { name := "limitsChecks", fn := fun _ => fun
  | [d] => { results := [.lit (.bool true)], args := [d] }
  | _ => none }
def limitsChecksRow : OpenClaim := { program := "ytfgnoaaaacaebaa", sum := "6a016637c13daf8275f54884f4f7ff1dd094691145b24b619ebe08ebdefa12ad", func := "usher/usherlaw28.LimitsChecks", spec := "limitsChecks", inPlace := ["math.Float64frombits"], recurses := true, loops := true, apart := false }
def LimitsChecksSaid : Prop := limitsChecksRow.holds Try.pinned (OpenSpec.ofChange limitsChecksSpec)

/-- ITS FALSE NEIGHBOUR: 'it returns false'. Refute it at one input. -/
def limitsChecksWrong : ChangeSpec := { name := "limitsChecks", fn := fun _ => fun
  | [d] => { results := [.lit (.bool false)], args := [d] }
  | _ => none }
def LimitsChecksWrongFalsely : Prop := limitsChecksRow.holds Try.pinned (OpenSpec.ofChange limitsChecksWrong)

/-- 'usherlaw16.StateOwn': WHATEVER THE INPUT: true; the input reads as it did. -/
def stateOwnSpec : ChangeSpec := { name := "stateOwn", fn := fun _ => fun
  | [d] => { results := [.lit (.bool true)], args := [d] }
  | _ => none }
def stateOwnRow : OpenClaim := { program := "ytfgnoaaaacaebaa", sum := "6a016637c13daf8275f54884f4f7ff1dd094691145b24b619ebe08ebdefa12ad", func := "usher/usherlaw16.StateOwn", spec := "stateOwn", inPlace := ["slices.overlaps[usher/api.Timer]", "slices.overlaps[usher/api.Update]"], unfollowed := true, recurses := true, loops := true, apart := false }
def StateOwnSaid : Prop := stateOwnRow.holds Try.pinned (OpenSpec.ofChange stateOwnSpec)

/-- ITS FALSE NEIGHBOUR: 'it returns false'. Refute it at one input. -/
def stateOwnWrong : ChangeSpec := { name := "stateOwn", fn := fun _ => fun
  | [d] => { results := [.lit (.bool false)], args := [d] }
  | _ => none }
def StateOwnWrongFalsely : Prop := stateOwnRow.holds Try.pinned (OpenSpec.ofChange stateOwnWrong)

/-- 'usherlaw17.FoldParts': WHATEVER THE INPUT: true; the input reads as it did. -/
def foldPartsSpec : ChangeSpec := { name := "foldParts", fn := fun _ => fun
  | [d1, d2, d3] => { results := [.lit (.bool true)], args := [d1, d2, d3] }
  | _ => none }
def foldPartsRow : OpenClaim := { program := "ytfgnoaaaacaebaa", sum := "6a016637c13daf8275f54884f4f7ff1dd094691145b24b619ebe08ebdefa12ad", func := "usher/usherlaw17.FoldParts", spec := "foldParts", inPlace := ["slices.overlaps[usher/api.Timer]", "slices.overlaps[usher/api.Update]"], unfollowed := true, recurses := true, loops := true, apart := false }
def FoldPartsSaid : Prop := foldPartsRow.holds Try.pinned (OpenSpec.ofChange foldPartsSpec)

/-- ITS FALSE NEIGHBOUR: 'it returns false'. Refute it at one input. -/
def foldPartsWrong : ChangeSpec := { name := "foldParts", fn := fun _ => fun
  | [d1, d2, d3] => { results := [.lit (.bool false)], args := [d1, d2, d3] }
  | _ => none }
def FoldPartsWrongFalsely : Prop := foldPartsRow.holds Try.pinned (OpenSpec.ofChange foldPartsWrong)

/-- 'usherlaw16.StateStays': WHATEVER THE INPUT: true; the input reads as it did. -/
def stateStaysSpec : ChangeSpec := { name := "stateStays", fn := fun _ => fun
  | [d1, d2, d3] => { results := [.lit (.bool true)], args := [d1, d2, d3] }
  | _ => none }
def stateStaysRow : OpenClaim := { program := "ytfgnoaaaacaebaa", sum := "6a016637c13daf8275f54884f4f7ff1dd094691145b24b619ebe08ebdefa12ad", func := "usher/usherlaw16.StateStays", spec := "stateStays", inPlace := ["slices.overlaps[usher/api.Timer]", "slices.overlaps[usher/api.Update]"], unfollowed := true, recurses := true, loops := true, apart := false }
def StateStaysSaid : Prop := stateStaysRow.holds Try.pinned (OpenSpec.ofChange stateStaysSpec)

/-- ITS FALSE NEIGHBOUR: 'it returns false'. Refute it at one input. -/
def stateStaysWrong : ChangeSpec := { name := "stateStays", fn := fun _ => fun
  | [d1, d2, d3] => { results := [.lit (.bool false)], args := [d1, d2, d3] }
  | _ => none }
def StateStaysWrongFalsely : Prop := stateStaysRow.holds Try.pinned (OpenSpec.ofChange stateStaysWrong)

/-- 'usherlaw21.CommandApart': WHATEVER THE INPUT: true; the input reads as it did. -/
def commandApartSpec : ChangeSpec := { name := "commandApart", fn := fun _ => fun
  | [d1, d2, d3] => { results := [.lit (.bool true)], args := [d1, d2, d3] }
  | _ => none }
def commandApartRow : OpenClaim := { program := "ytfgnoaaaacaebaa", sum := "6a016637c13daf8275f54884f4f7ff1dd094691145b24b619ebe08ebdefa12ad", func := "usher/usherlaw21.CommandApart", spec := "commandApart", inPlace := ["slices.overlaps[usher/api.Timer]", "slices.overlaps[usher/api.Update]"], unfollowed := true, recurses := true, loops := true, apart := false }
def CommandApartSaid : Prop := commandApartRow.holds Try.pinned (OpenSpec.ofChange commandApartSpec)

/-- ITS FALSE NEIGHBOUR: 'it returns false'. Refute it at one input. -/
def commandApartWrong : ChangeSpec := { name := "commandApart", fn := fun _ => fun
  | [d1, d2, d3] => { results := [.lit (.bool false)], args := [d1, d2, d3] }
  | _ => none }
def CommandApartWrongFalsely : Prop := commandApartRow.holds Try.pinned (OpenSpec.ofChange commandApartWrong)

/-- 'usherlaw21.CommandChecks': WHATEVER THE INPUT: true; the input reads as it did. -/
def commandChecksSpec : ChangeSpec := { name := "commandChecks", fn := fun _ => fun
  | [d1, d2] => { results := [.lit (.bool true)], args := [d1, d2] }
  | _ => none }
def commandChecksRow : OpenClaim := { program := "ytfgnoaaaacaebaa", sum := "6a016637c13daf8275f54884f4f7ff1dd094691145b24b619ebe08ebdefa12ad", func := "usher/usherlaw21.CommandChecks", spec := "commandChecks", inPlace := ["math.Float64frombits", "slices.overlaps[usher/api.Timer]", "slices.overlaps[usher/api.Update]"], unfollowed := true, recurses := true, loops := true, apart := false }
def CommandChecksSaid : Prop := commandChecksRow.holds Try.pinned (OpenSpec.ofChange commandChecksSpec)

/-- ITS FALSE NEIGHBOUR: 'it returns false'. Refute it at one input. -/
def commandChecksWrong : ChangeSpec := { name := "commandChecks", fn := fun _ => fun
  | [d1, d2] => { results := [.lit (.bool false)], args := [d1, d2] }
  | _ => none }
def CommandChecksWrongFalsely : Prop := commandChecksRow.holds Try.pinned (OpenSpec.ofChange commandChecksWrong)

/-- 'usherlaw21.CommandFirst': WHATEVER THE INPUT: true; the input reads as it did. -/
def commandFirstSpec : ChangeSpec := { name := "commandFirst", fn := fun _ => fun
  | [d1, d2, d3] => { results := [.lit (.bool true)], args := [d1, d2, d3] }
  | _ => none }
def commandFirstRow : OpenClaim := { program := "ytfgnoaaaacaebaa", sum := "6a016637c13daf8275f54884f4f7ff1dd094691145b24b619ebe08ebdefa12ad", func := "usher/usherlaw21.CommandFirst", spec := "commandFirst", inPlace := ["slices.overlaps[usher/api.Timer]", "slices.overlaps[usher/api.Update]"], unfollowed := true, recurses := true, loops := true, apart := false }
def CommandFirstSaid : Prop := commandFirstRow.holds Try.pinned (OpenSpec.ofChange commandFirstSpec)

/-- ITS FALSE NEIGHBOUR: 'it returns false'. Refute it at one input. -/
def commandFirstWrong : ChangeSpec := { name := "commandFirst", fn := fun _ => fun
  | [d1, d2, d3] => { results := [.lit (.bool false)], args := [d1, d2, d3] }
  | _ => none }
def CommandFirstWrongFalsely : Prop := commandFirstRow.holds Try.pinned (OpenSpec.ofChange commandFirstWrong)

/- THE SECOND FORM. 'bulk': how many values and letters a reading holds, each counted each time it is reached (what is shared counts as often as it is met; a slice's spare places count too). A statement '..UptoSaid' is the law's where the arguments, and the package variables that the reading takes, are together of bulk at most 1048576: NARROWER than '..Said'. Prove '..Said' where nothing that the law and all that it calls make is longer than what came in: it says more and counts as full. Else prove '..UptoSaid'. A law counts once. -/
mutual
def uptoBulk {H : Type} : DataW H → Nat
  | .lit (.string bytes) => bytes.length + 1
  | .lit _ => 1
  | .nil => 1
  | .ptr d => uptoBulk d + 1
  | .slice elems spare => uptoBulkAll elems + uptoBulkAll spare + 1
  | .agg parts => uptoBulkAll parts + 1
  | .iface _ d => uptoBulk d + 1
  | .map entries => uptoBulkEntries entries + 1
  | .held _ => 1
def uptoBulkAll {H : Type} : List (DataW H) → Nat
  | [] => 0
  | d :: r => uptoBulk d + uptoBulkAll r
def uptoBulkEntries {H : Type} : List (Lit × DataW H) → Nat
  | [] => 0
  | x :: r => uptoBulkEntry x + uptoBulkEntries r
def uptoBulkEntry {H : Type} : Lit × DataW H → Nat
  | (.string bytes, d) => bytes.length + uptoBulk d + 1
  | (_, d) => uptoBulk d + 1
 end
def uptoSmall : (H : Type) → List (DataW H) → Bool := fun _ ds => decide (uptoBulkAll ds ≤ 1048576)
def OpenSpec.upto (s : _root_.Go.ChangeSpec) : _root_.Go.OpenSpec := { _root_.Go.OpenSpec.ofChange s with cond := some uptoSmall }

/-- 'usherlaw23.ResetPoints', WHERE WHAT IT READS IS OF BULK AT MOST 1048576: true; the input reads as it did. -/
def resetPointsUptoRow : OpenClaim := { program := "ytfgnoaaaacaebaa", sum := "6a016637c13daf8275f54884f4f7ff1dd094691145b24b619ebe08ebdefa12ad", func := "usher/usherlaw23.ResetPoints", spec := "resetPoints", unfollowed := true, recurses := true, loops := true, apart := false, narrowed := true }
def ResetPointsUptoSaid : Prop := resetPointsUptoRow.holds Try.pinned (OpenSpec.upto resetPointsSpec)

/-- 'usherlaw28.LimitsFields', WHERE WHAT IT READS IS OF BULK AT MOST 1048576: true; the input reads as it did. -/
def limitsFieldsUptoRow : OpenClaim := { program := "ytfgnoaaaacaebaa", sum := "6a016637c13daf8275f54884f4f7ff1dd094691145b24b619ebe08ebdefa12ad", func := "usher/usherlaw28.LimitsFields", spec := "limitsFields", recurses := true, apart := false, narrowed := true }
def LimitsFieldsUptoSaid : Prop := limitsFieldsUptoRow.holds Try.pinned (OpenSpec.upto limitsFieldsSpec)

/-- 'usherlaw28.LimitsApart', WHERE WHAT IT READS IS OF BULK AT MOST 1048576: true; the input reads as it did. -/
def limitsApartUptoRow : OpenClaim := { program := "ytfgnoaaaacaebaa", sum := "6a016637c13daf8275f54884f4f7ff1dd094691145b24b619ebe08ebdefa12ad", func := "usher/usherlaw28.LimitsApart", spec := "limitsApart", recurses := true, loops := true, apart := false, narrowed := true }
def LimitsApartUptoSaid : Prop := limitsApartUptoRow.holds Try.pinned (OpenSpec.upto limitsApartSpec)

/-- 'usherlaw28.LimitsChecks', WHERE WHAT IT READS IS OF BULK AT MOST 1048576: true; the input reads as it did. -/
def limitsChecksUptoRow : OpenClaim := { program := "ytfgnoaaaacaebaa", sum := "6a016637c13daf8275f54884f4f7ff1dd094691145b24b619ebe08ebdefa12ad", func := "usher/usherlaw28.LimitsChecks", spec := "limitsChecks", inPlace := ["math.Float64frombits"], recurses := true, loops := true, apart := false, narrowed := true }
def LimitsChecksUptoSaid : Prop := limitsChecksUptoRow.holds Try.pinned (OpenSpec.upto limitsChecksSpec)

/-- 'usherlaw16.StateOwn', WHERE WHAT IT READS IS OF BULK AT MOST 1048576: true; the input reads as it did. -/
def stateOwnUptoRow : OpenClaim := { program := "ytfgnoaaaacaebaa", sum := "6a016637c13daf8275f54884f4f7ff1dd094691145b24b619ebe08ebdefa12ad", func := "usher/usherlaw16.StateOwn", spec := "stateOwn", inPlace := ["slices.overlaps[usher/api.Timer]", "slices.overlaps[usher/api.Update]"], unfollowed := true, recurses := true, loops := true, apart := false, narrowed := true }
def StateOwnUptoSaid : Prop := stateOwnUptoRow.holds Try.pinned (OpenSpec.upto stateOwnSpec)

/-- 'usherlaw17.FoldParts', WHERE WHAT IT READS IS OF BULK AT MOST 1048576: true; the input reads as it did. -/
def foldPartsUptoRow : OpenClaim := { program := "ytfgnoaaaacaebaa", sum := "6a016637c13daf8275f54884f4f7ff1dd094691145b24b619ebe08ebdefa12ad", func := "usher/usherlaw17.FoldParts", spec := "foldParts", inPlace := ["slices.overlaps[usher/api.Timer]", "slices.overlaps[usher/api.Update]"], unfollowed := true, recurses := true, loops := true, apart := false, narrowed := true }
def FoldPartsUptoSaid : Prop := foldPartsUptoRow.holds Try.pinned (OpenSpec.upto foldPartsSpec)

/-- 'usherlaw16.StateStays', WHERE WHAT IT READS IS OF BULK AT MOST 1048576: true; the input reads as it did. -/
def stateStaysUptoRow : OpenClaim := { program := "ytfgnoaaaacaebaa", sum := "6a016637c13daf8275f54884f4f7ff1dd094691145b24b619ebe08ebdefa12ad", func := "usher/usherlaw16.StateStays", spec := "stateStays", inPlace := ["slices.overlaps[usher/api.Timer]", "slices.overlaps[usher/api.Update]"], unfollowed := true, recurses := true, loops := true, apart := false, narrowed := true }
def StateStaysUptoSaid : Prop := stateStaysUptoRow.holds Try.pinned (OpenSpec.upto stateStaysSpec)

/-- 'usherlaw21.CommandApart', WHERE WHAT IT READS IS OF BULK AT MOST 1048576: true; the input reads as it did. -/
def commandApartUptoRow : OpenClaim := { program := "ytfgnoaaaacaebaa", sum := "6a016637c13daf8275f54884f4f7ff1dd094691145b24b619ebe08ebdefa12ad", func := "usher/usherlaw21.CommandApart", spec := "commandApart", inPlace := ["slices.overlaps[usher/api.Timer]", "slices.overlaps[usher/api.Update]"], unfollowed := true, recurses := true, loops := true, apart := false, narrowed := true }
def CommandApartUptoSaid : Prop := commandApartUptoRow.holds Try.pinned (OpenSpec.upto commandApartSpec)

/-- 'usherlaw21.CommandChecks', WHERE WHAT IT READS IS OF BULK AT MOST 1048576: true; the input reads as it did. -/
def commandChecksUptoRow : OpenClaim := { program := "ytfgnoaaaacaebaa", sum := "6a016637c13daf8275f54884f4f7ff1dd094691145b24b619ebe08ebdefa12ad", func := "usher/usherlaw21.CommandChecks", spec := "commandChecks", inPlace := ["math.Float64frombits", "slices.overlaps[usher/api.Timer]", "slices.overlaps[usher/api.Update]"], unfollowed := true, recurses := true, loops := true, apart := false, narrowed := true }
def CommandChecksUptoSaid : Prop := commandChecksUptoRow.holds Try.pinned (OpenSpec.upto commandChecksSpec)

/-- 'usherlaw21.CommandFirst', WHERE WHAT IT READS IS OF BULK AT MOST 1048576: true; the input reads as it did. -/
def commandFirstUptoRow : OpenClaim := { program := "ytfgnoaaaacaebaa", sum := "6a016637c13daf8275f54884f4f7ff1dd094691145b24b619ebe08ebdefa12ad", func := "usher/usherlaw21.CommandFirst", spec := "commandFirst", inPlace := ["slices.overlaps[usher/api.Timer]", "slices.overlaps[usher/api.Update]"], unfollowed := true, recurses := true, loops := true, apart := false, narrowed := true }
def CommandFirstUptoSaid : Prop := commandFirstUptoRow.holds Try.pinned (OpenSpec.upto commandFirstSpec)

end Rows
end Go.Proofs.Ytfgnoaaaacaebaa
