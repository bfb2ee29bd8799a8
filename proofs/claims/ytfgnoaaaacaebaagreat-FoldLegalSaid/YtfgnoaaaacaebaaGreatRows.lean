/-
  NARROWER THAN 'FOR EVERY INPUT', by the rows' own cells (each row's printed sentence says how): FoldCan: loops · FoldLegal: loops · StateCan: loops · StateForward: loops.
  DERIVED. THE GIVEN ROWS OF THIS SEAT. 4 by the template 'for every input the law returns true; each argument reads behind the call as it read before'; 0 by the template 'total and deterministic' (their statements: YtfgnoaaaacaebaaGreatTotals.lean).
  GIVEN WITH THE SEED: the statements are not yours to turn. If you find one false, say at which input.
  Laid BY PROGRAM, IN A SANDBOX (cutbox-rows.mjs): the forced cells as the released guide's own fill.sh prints them over the translation c19c039f9ac356ae… (all of the seat's roots in one cut). By AI agents, Wed Nov 11 2026. No macro, syntax, notation, axiom, sorry.
-/
import Derived.Test.YtfgnoaaaacaebaaGreatChecked
import GoSem.Claim
import GoSem.ClaimJoined
import GoSem.ClaimMapViews
import Derived.JoinedTies
import Derived.KernelRfl
namespace Go.Proofs.YtfgnoaaaacaebaaGreat
/- THE CELL 'sum', in the pinned program and in every row, IS THE sha256 OF THE DUMP (.gsa) THAT YtfgnoaaaacaebaaGreatProg.lean LOADS. Nothing in Lean hashes anything: it is a label: what it is worth is what the hold of that sum in a sandbox is worth. -/
noncomputable def Tryz.pinned : Pinned := { name := "ytfgnoaaaacaebaagreat", sum := "c19c039f9ac356ae4734929644cf5b46263619ac6ceb401fa5e57f5611ed18b7", checked := Tryz.checked }
namespace Rows
def none {H : Type} : Left H := { results := [], args := [] }

/-- 'usherlaw17.FoldCan': WHATEVER THE INPUT: true; the input reads as it did. -/
def foldCanSpec : ChangeSpec := { name := "foldCan", fn := fun _ => fun
  | [d1, d2] => { results := [.lit (.bool true)], args := [d1, d2] }
  | _ => none }
def foldCanRow : OpenClaim := { program := "ytfgnoaaaacaebaagreat", sum := "c19c039f9ac356ae4734929644cf5b46263619ac6ceb401fa5e57f5611ed18b7", func := "usher/usherlaw17.FoldCan", spec := "foldCan", inPlace := ["slices.overlaps[usher/api.Timer]", "slices.overlaps[usher/api.Update]", "math.Float64frombits"], unfollowed := true, recurses := true, loops := true, apart := false }
def FoldCanSaid : Prop := foldCanRow.holds Tryz.pinned (OpenSpec.ofChange foldCanSpec)

/-- ITS FALSE NEIGHBOUR: 'it returns false'. Refute it at one input. -/
def foldCanWrong : ChangeSpec := { name := "foldCan", fn := fun _ => fun
  | [d1, d2] => { results := [.lit (.bool false)], args := [d1, d2] }
  | _ => none }
def FoldCanWrongFalsely : Prop := foldCanRow.holds Tryz.pinned (OpenSpec.ofChange foldCanWrong)

/-- 'usherlaw17.FoldLegal': WHATEVER THE INPUT: true; the input reads as it did. -/
def foldLegalSpec : ChangeSpec := { name := "foldLegal", fn := fun _ => fun
  | [d1, d2] => { results := [.lit (.bool true)], args := [d1, d2] }
  | _ => none }
def foldLegalRow : OpenClaim := { program := "ytfgnoaaaacaebaagreat", sum := "c19c039f9ac356ae4734929644cf5b46263619ac6ceb401fa5e57f5611ed18b7", func := "usher/usherlaw17.FoldLegal", spec := "foldLegal", inPlace := ["slices.overlaps[usher/api.Timer]", "slices.overlaps[usher/api.Update]", "math.Float64frombits"], unfollowed := true, recurses := true, loops := true, apart := false }
def FoldLegalSaid : Prop := foldLegalRow.holds Tryz.pinned (OpenSpec.ofChange foldLegalSpec)

/-- ITS FALSE NEIGHBOUR: 'it returns false'. Refute it at one input. -/
def foldLegalWrong : ChangeSpec := { name := "foldLegal", fn := fun _ => fun
  | [d1, d2] => { results := [.lit (.bool false)], args := [d1, d2] }
  | _ => none }
def FoldLegalWrongFalsely : Prop := foldLegalRow.holds Tryz.pinned (OpenSpec.ofChange foldLegalWrong)

/-- 'usherlaw16.StateCan': WHATEVER THE INPUT: true; the input reads as it did. -/
def stateCanSpec : ChangeSpec := { name := "stateCan", fn := fun _ => fun
  | [d1, d2, d3] => { results := [.lit (.bool true)], args := [d1, d2, d3] }
  | _ => none }
def stateCanRow : OpenClaim := { program := "ytfgnoaaaacaebaagreat", sum := "c19c039f9ac356ae4734929644cf5b46263619ac6ceb401fa5e57f5611ed18b7", func := "usher/usherlaw16.StateCan", spec := "stateCan", inPlace := ["slices.overlaps[usher/api.Timer]", "slices.overlaps[usher/api.Update]", "math.Float64frombits"], unfollowed := true, recurses := true, loops := true, apart := false }
def StateCanSaid : Prop := stateCanRow.holds Tryz.pinned (OpenSpec.ofChange stateCanSpec)

/-- ITS FALSE NEIGHBOUR: 'it returns false'. Refute it at one input. -/
def stateCanWrong : ChangeSpec := { name := "stateCan", fn := fun _ => fun
  | [d1, d2, d3] => { results := [.lit (.bool false)], args := [d1, d2, d3] }
  | _ => none }
def StateCanWrongFalsely : Prop := stateCanRow.holds Tryz.pinned (OpenSpec.ofChange stateCanWrong)

/-- 'usherlaw16.StateForward': WHATEVER THE INPUT: true; the input reads as it did. -/
def stateForwardSpec : ChangeSpec := { name := "stateForward", fn := fun _ => fun
  | [d1, d2] => { results := [.lit (.bool true)], args := [d1, d2] }
  | _ => none }
def stateForwardRow : OpenClaim := { program := "ytfgnoaaaacaebaagreat", sum := "c19c039f9ac356ae4734929644cf5b46263619ac6ceb401fa5e57f5611ed18b7", func := "usher/usherlaw16.StateForward", spec := "stateForward", inPlace := ["slices.overlaps[usher/api.Timer]", "slices.overlaps[usher/api.Update]", "math.Float64frombits"], unfollowed := true, recurses := true, loops := true, apart := false }
def StateForwardSaid : Prop := stateForwardRow.holds Tryz.pinned (OpenSpec.ofChange stateForwardSpec)

/-- ITS FALSE NEIGHBOUR: 'it returns false'. Refute it at one input. -/
def stateForwardWrong : ChangeSpec := { name := "stateForward", fn := fun _ => fun
  | [d1, d2] => { results := [.lit (.bool false)], args := [d1, d2] }
  | _ => none }
def StateForwardWrongFalsely : Prop := stateForwardRow.holds Tryz.pinned (OpenSpec.ofChange stateForwardWrong)

/- THE SECOND FORM. 'bulk': how many values and letters a reading holds, each counted each time it is reached (what is shared counts as often as it is met; a slice's spare places count too). A statement '..UptoSaid' is the law's where the arguments, and the package variables that the reading takes, are together of bulk at most 1048576: NARROWER than '..Said'. Prove '..Said' where nothing that the law and all that it calls make is longer than what came in: it says more and counts as full. Else prove '..UptoSaid'. A law counts once. -/
mutual
def uptoBulk {H : Type} : DataW H → Nat
  | .lit (.string bytes) => bytes.length + 1
  | .lit _ => 1
  | .nil => 1
  | .ptr d => uptoBulk d + 1
  | .slice elems spare => uptoBulkAll elems + uptoBulkAll spare + 1
  | .agg parts => uptoBulkAll parts + 1
  | .iface _ d => uptoBulk d + 1
  | .map entries => uptoBulkEntries entries + 1
  | .held _ => 1
def uptoBulkAll {H : Type} : List (DataW H) → Nat
  | [] => 0
  | d :: r => uptoBulk d + uptoBulkAll r
def uptoBulkEntries {H : Type} : List (Lit × DataW H) → Nat
  | [] => 0
  | x :: r => uptoBulkEntry x + uptoBulkEntries r
def uptoBulkEntry {H : Type} : Lit × DataW H → Nat
  | (.string bytes, d) => bytes.length + uptoBulk d + 1
  | (_, d) => uptoBulk d + 1
 end
def uptoSmall : (H : Type) → List (DataW H) → Bool := fun _ ds => decide (uptoBulkAll ds ≤ 1048576)
def OpenSpec.upto (s : _root_.Go.ChangeSpec) : _root_.Go.OpenSpec := { _root_.Go.OpenSpec.ofChange s with cond := some uptoSmall }

/-- 'usherlaw17.FoldCan', WHERE WHAT IT READS IS OF BULK AT MOST 1048576: true; the input reads as it did. -/
def foldCanUptoRow : OpenClaim := { program := "ytfgnoaaaacaebaagreat", sum := "c19c039f9ac356ae4734929644cf5b46263619ac6ceb401fa5e57f5611ed18b7", func := "usher/usherlaw17.FoldCan", spec := "foldCan", inPlace := ["slices.overlaps[usher/api.Timer]", "slices.overlaps[usher/api.Update]", "math.Float64frombits"], unfollowed := true, recurses := true, loops := true, apart := false, narrowed := true }
def FoldCanUptoSaid : Prop := foldCanUptoRow.holds Tryz.pinned (OpenSpec.upto foldCanSpec)

/-- 'usherlaw17.FoldLegal', WHERE WHAT IT READS IS OF BULK AT MOST 1048576: true; the input reads as it did. -/
def foldLegalUptoRow : OpenClaim := { program := "ytfgnoaaaacaebaagreat", sum := "c19c039f9ac356ae4734929644cf5b46263619ac6ceb401fa5e57f5611ed18b7", func := "usher/usherlaw17.FoldLegal", spec := "foldLegal", inPlace := ["slices.overlaps[usher/api.Timer]", "slices.overlaps[usher/api.Update]", "math.Float64frombits"], unfollowed := true, recurses := true, loops := true, apart := false, narrowed := true }
def FoldLegalUptoSaid : Prop := foldLegalUptoRow.holds Tryz.pinned (OpenSpec.upto foldLegalSpec)

/-- 'usherlaw16.StateCan', WHERE WHAT IT READS IS OF BULK AT MOST 1048576: true; the input reads as it did. -/
def stateCanUptoRow : OpenClaim := { program := "ytfgnoaaaacaebaagreat", sum := "c19c039f9ac356ae4734929644cf5b46263619ac6ceb401fa5e57f5611ed18b7", func := "usher/usherlaw16.StateCan", spec := "stateCan", inPlace := ["slices.overlaps[usher/api.Timer]", "slices.overlaps[usher/api.Update]", "math.Float64frombits"], unfollowed := true, recurses := true, loops := true, apart := false, narrowed := true }
def StateCanUptoSaid : Prop := stateCanUptoRow.holds Tryz.pinned (OpenSpec.upto stateCanSpec)

/-- 'usherlaw16.StateForward', WHERE WHAT IT READS IS OF BULK AT MOST 1048576: true; the input reads as it did. -/
def stateForwardUptoRow : OpenClaim := { program := "ytfgnoaaaacaebaagreat", sum := "c19c039f9ac356ae4734929644cf5b46263619ac6ceb401fa5e57f5611ed18b7", func := "usher/usherlaw16.StateForward", spec := "stateForward", inPlace := ["slices.overlaps[usher/api.Timer]", "slices.overlaps[usher/api.Update]", "math.Float64frombits"], unfollowed := true, recurses := true, loops := true, apart := false, narrowed := true }
def StateForwardUptoSaid : Prop := stateForwardUptoRow.holds Tryz.pinned (OpenSpec.upto stateForwardSpec)

end Rows
end Go.Proofs.YtfgnoaaaacaebaaGreat
