/-
  No cell of these rows narrows 'for every input' (looked for: loops, veiled, ifaces, maps, wideKeys, modest, calm, conditions, laid).
  DERIVED. THE GIVEN ROWS OF THIS SEAT. 14 by the template 'for every input the law returns true; each argument reads behind the call as it read before'; 0 by the template 'total and deterministic' (their statements: YtphbiaagmhhhbaaTotals.lean).
  GIVEN WITH THE SEED: the statements are not yours to turn. If you find one false, say at which input.
  Laid BY PROGRAM, IN A SANDBOX (cutbox-rows.mjs): the forced cells as the released guide's own fill.sh prints them over the translation 62b873367e36a098… (all of the seat's roots in one cut). By AI agents, Wed Nov 11 2026. No macro, syntax, notation, axiom, sorry.
-/
import Derived.Test.YtphbiaagmhhhbaaChecked
import GoSem.Claim
import GoSem.ClaimJoined
import GoSem.ClaimMapViews
import Derived.JoinedTies
import Derived.KernelRfl
namespace Go.Proofs.Ytphbiaagmhhhbaa
/- THE CELL 'sum', in the pinned program and in every row, IS THE sha256 OF THE DUMP (.gsa) THAT YtphbiaagmhhhbaaProg.lean LOADS. Nothing in Lean hashes anything: it is a label: what it is worth is what the hold of that sum in a sandbox is worth. -/
noncomputable def Try.pinned : Pinned := { name := "ytphbiaagmhhhbaa", sum := "62b873367e36a09876270e6d5de299743d33b2c3f838b145ac1b1c88a3b4e47a", checked := Try.checked }
namespace Rows
def none {H : Type} : Left H := { results := [], args := [] }

/-- 'pianolatop.TopCut': WHATEVER THE INPUT: true; the input reads as it did. -/
def topCutSpec : ChangeSpec := { name := "topCut", fn := fun _ => fun
  | [d1, d2, d3, d4, d5, d6, d7] => { results := [.lit (.bool true)], args := [d1, d2, d3, d4, d5, d6, d7] }
  | _ => none }
def topCutRow : OpenClaim := { program := "ytphbiaagmhhhbaa", sum := "62b873367e36a09876270e6d5de299743d33b2c3f838b145ac1b1c88a3b4e47a", func := "pianola/pianolatop.TopCut", spec := "topCut", unfollowed := true, recurses := true, apart := false }
def TopCutSaid : Prop := topCutRow.holds Try.pinned (OpenSpec.ofChange topCutSpec)

/-- ITS FALSE NEIGHBOUR: 'it returns false'. Refute it at one input. -/
def topCutWrong : ChangeSpec := { name := "topCut", fn := fun _ => fun
  | [d1, d2, d3, d4, d5, d6, d7] => { results := [.lit (.bool false)], args := [d1, d2, d3, d4, d5, d6, d7] }
  | _ => none }
def TopCutWrongFalsely : Prop := topCutRow.holds Try.pinned (OpenSpec.ofChange topCutWrong)

/-- 'pianolalaw05.SpoolPlaces': WHATEVER THE INPUT: true; the input reads as it did. -/
def spoolPlacesSpec : ChangeSpec := { name := "spoolPlaces", fn := fun _ => fun
  | [d1, d2, d3] => { results := [.lit (.bool true)], args := [d1, d2, d3] }
  | _ => none }
def spoolPlacesRow : OpenClaim := { program := "ytphbiaagmhhhbaa", sum := "62b873367e36a09876270e6d5de299743d33b2c3f838b145ac1b1c88a3b4e47a", func := "pianola/pianolalaw05.SpoolPlaces", spec := "spoolPlaces", unfollowed := true, recurses := true, apart := false }
def SpoolPlacesSaid : Prop := spoolPlacesRow.holds Try.pinned (OpenSpec.ofChange spoolPlacesSpec)

/-- ITS FALSE NEIGHBOUR: 'it returns false'. Refute it at one input. -/
def spoolPlacesWrong : ChangeSpec := { name := "spoolPlaces", fn := fun _ => fun
  | [d1, d2, d3] => { results := [.lit (.bool false)], args := [d1, d2, d3] }
  | _ => none }
def SpoolPlacesWrongFalsely : Prop := spoolPlacesRow.holds Try.pinned (OpenSpec.ofChange spoolPlacesWrong)

/-- 'pianolalaw05.SpoolArrivals': WHATEVER THE INPUT: true; the input reads as it did. -/
def spoolArrivalsSpec : ChangeSpec := { name := "spoolArrivals", fn := fun _ => fun
  | [d1, d2, d3, d4] => { results := [.lit (.bool true)], args := [d1, d2, d3, d4] }
  | _ => none }
def spoolArrivalsRow : OpenClaim := { program := "ytphbiaagmhhhbaa", sum := "62b873367e36a09876270e6d5de299743d33b2c3f838b145ac1b1c88a3b4e47a", func := "pianola/pianolalaw05.SpoolArrivals", spec := "spoolArrivals", unfollowed := true, recurses := true, apart := false }
def SpoolArrivalsSaid : Prop := spoolArrivalsRow.holds Try.pinned (OpenSpec.ofChange spoolArrivalsSpec)

/-- ITS FALSE NEIGHBOUR: 'it returns false'. Refute it at one input. -/
def spoolArrivalsWrong : ChangeSpec := { name := "spoolArrivals", fn := fun _ => fun
  | [d1, d2, d3, d4] => { results := [.lit (.bool false)], args := [d1, d2, d3, d4] }
  | _ => none }
def SpoolArrivalsWrongFalsely : Prop := spoolArrivalsRow.holds Try.pinned (OpenSpec.ofChange spoolArrivalsWrong)

/-- 'pianolalaw05.SpoolCuts': WHATEVER THE INPUT: true; the input reads as it did. -/
def spoolCutsSpec : ChangeSpec := { name := "spoolCuts", fn := fun _ => fun
  | [d1, d2, d3] => { results := [.lit (.bool true)], args := [d1, d2, d3] }
  | _ => none }
def spoolCutsRow : OpenClaim := { program := "ytphbiaagmhhhbaa", sum := "62b873367e36a09876270e6d5de299743d33b2c3f838b145ac1b1c88a3b4e47a", func := "pianola/pianolalaw05.SpoolCuts", spec := "spoolCuts", unfollowed := true, recurses := true, apart := false }
def SpoolCutsSaid : Prop := spoolCutsRow.holds Try.pinned (OpenSpec.ofChange spoolCutsSpec)

/-- ITS FALSE NEIGHBOUR: 'it returns false'. Refute it at one input. -/
def spoolCutsWrong : ChangeSpec := { name := "spoolCuts", fn := fun _ => fun
  | [d1, d2, d3] => { results := [.lit (.bool false)], args := [d1, d2, d3] }
  | _ => none }
def SpoolCutsWrongFalsely : Prop := spoolCutsRow.holds Try.pinned (OpenSpec.ofChange spoolCutsWrong)

/-- 'pianolalaw05.SpoolGoverns': WHATEVER THE INPUT: true; the input reads as it did. -/
def spoolGovernsSpec : ChangeSpec := { name := "spoolGoverns", fn := fun _ => fun
  | [d1, d2, d3] => { results := [.lit (.bool true)], args := [d1, d2, d3] }
  | _ => none }
def spoolGovernsRow : OpenClaim := { program := "ytphbiaagmhhhbaa", sum := "62b873367e36a09876270e6d5de299743d33b2c3f838b145ac1b1c88a3b4e47a", func := "pianola/pianolalaw05.SpoolGoverns", spec := "spoolGoverns", unfollowed := true, recurses := true, apart := false }
def SpoolGovernsSaid : Prop := spoolGovernsRow.holds Try.pinned (OpenSpec.ofChange spoolGovernsSpec)

/-- ITS FALSE NEIGHBOUR: 'it returns false'. Refute it at one input. -/
def spoolGovernsWrong : ChangeSpec := { name := "spoolGoverns", fn := fun _ => fun
  | [d1, d2, d3] => { results := [.lit (.bool false)], args := [d1, d2, d3] }
  | _ => none }
def SpoolGovernsWrongFalsely : Prop := spoolGovernsRow.holds Try.pinned (OpenSpec.ofChange spoolGovernsWrong)

/-- 'pianolalaw05.SpoolGrowths': WHATEVER THE INPUT: true; the input reads as it did. -/
def spoolGrowthsSpec : ChangeSpec := { name := "spoolGrowths", fn := fun _ => fun
  | [d1, d2, d3, d4] => { results := [.lit (.bool true)], args := [d1, d2, d3, d4] }
  | _ => none }
def spoolGrowthsRow : OpenClaim := { program := "ytphbiaagmhhhbaa", sum := "62b873367e36a09876270e6d5de299743d33b2c3f838b145ac1b1c88a3b4e47a", func := "pianola/pianolalaw05.SpoolGrowths", spec := "spoolGrowths", unfollowed := true, recurses := true, apart := false }
def SpoolGrowthsSaid : Prop := spoolGrowthsRow.holds Try.pinned (OpenSpec.ofChange spoolGrowthsSpec)

/-- ITS FALSE NEIGHBOUR: 'it returns false'. Refute it at one input. -/
def spoolGrowthsWrong : ChangeSpec := { name := "spoolGrowths", fn := fun _ => fun
  | [d1, d2, d3, d4] => { results := [.lit (.bool false)], args := [d1, d2, d3, d4] }
  | _ => none }
def SpoolGrowthsWrongFalsely : Prop := spoolGrowthsRow.holds Try.pinned (OpenSpec.ofChange spoolGrowthsWrong)

/-- 'pianolalaw05.SpoolExact': WHATEVER THE INPUT: true; the input reads as it did. -/
def spoolExactSpec : ChangeSpec := { name := "spoolExact", fn := fun _ => fun
  | [d1, d2] => { results := [.lit (.bool true)], args := [d1, d2] }
  | _ => none }
def spoolExactRow : OpenClaim := { program := "ytphbiaagmhhhbaa", sum := "62b873367e36a09876270e6d5de299743d33b2c3f838b145ac1b1c88a3b4e47a", func := "pianola/pianolalaw05.SpoolExact", spec := "spoolExact", unfollowed := true, recurses := true, apart := false }
def SpoolExactSaid : Prop := spoolExactRow.holds Try.pinned (OpenSpec.ofChange spoolExactSpec)

/-- ITS FALSE NEIGHBOUR: 'it returns false'. Refute it at one input. -/
def spoolExactWrong : ChangeSpec := { name := "spoolExact", fn := fun _ => fun
  | [d1, d2] => { results := [.lit (.bool false)], args := [d1, d2] }
  | _ => none }
def SpoolExactWrongFalsely : Prop := spoolExactRow.holds Try.pinned (OpenSpec.ofChange spoolExactWrong)

/-- 'pianolalaw05.SpoolInverse': WHATEVER THE INPUT: true; the input reads as it did. -/
def spoolInverseSpec : ChangeSpec := { name := "spoolInverse", fn := fun _ => fun
  | [d1, d2, d3, d4] => { results := [.lit (.bool true)], args := [d1, d2, d3, d4] }
  | _ => none }
def spoolInverseRow : OpenClaim := { program := "ytphbiaagmhhhbaa", sum := "62b873367e36a09876270e6d5de299743d33b2c3f838b145ac1b1c88a3b4e47a", func := "pianola/pianolalaw05.SpoolInverse", spec := "spoolInverse", unfollowed := true, recurses := true, apart := false }
def SpoolInverseSaid : Prop := spoolInverseRow.holds Try.pinned (OpenSpec.ofChange spoolInverseSpec)

/-- ITS FALSE NEIGHBOUR: 'it returns false'. Refute it at one input. -/
def spoolInverseWrong : ChangeSpec := { name := "spoolInverse", fn := fun _ => fun
  | [d1, d2, d3, d4] => { results := [.lit (.bool false)], args := [d1, d2, d3, d4] }
  | _ => none }
def SpoolInverseWrongFalsely : Prop := spoolInverseRow.holds Try.pinned (OpenSpec.ofChange spoolInverseWrong)

/-- 'pianolalaw05.SpoolThicker': WHATEVER THE INPUT: true; the input reads as it did. -/
def spoolThickerSpec : ChangeSpec := { name := "spoolThicker", fn := fun _ => fun
  | [d1, d2, d3] => { results := [.lit (.bool true)], args := [d1, d2, d3] }
  | _ => none }
def spoolThickerRow : OpenClaim := { program := "ytphbiaagmhhhbaa", sum := "62b873367e36a09876270e6d5de299743d33b2c3f838b145ac1b1c88a3b4e47a", func := "pianola/pianolalaw05.SpoolThicker", spec := "spoolThicker", unfollowed := true, recurses := true, apart := false }
def SpoolThickerSaid : Prop := spoolThickerRow.holds Try.pinned (OpenSpec.ofChange spoolThickerSpec)

/-- ITS FALSE NEIGHBOUR: 'it returns false'. Refute it at one input. -/
def spoolThickerWrong : ChangeSpec := { name := "spoolThicker", fn := fun _ => fun
  | [d1, d2, d3] => { results := [.lit (.bool false)], args := [d1, d2, d3] }
  | _ => none }
def SpoolThickerWrongFalsely : Prop := spoolThickerRow.holds Try.pinned (OpenSpec.ofChange spoolThickerWrong)

/-- 'pianolalaw05.SpoolDrift': WHATEVER THE INPUT: true; the input reads as it did. -/
def spoolDriftSpec : ChangeSpec := { name := "spoolDrift", fn := fun _ => fun
  | [d1, d2, d3] => { results := [.lit (.bool true)], args := [d1, d2, d3] }
  | _ => none }
def spoolDriftRow : OpenClaim := { program := "ytphbiaagmhhhbaa", sum := "62b873367e36a09876270e6d5de299743d33b2c3f838b145ac1b1c88a3b4e47a", func := "pianola/pianolalaw05.SpoolDrift", spec := "spoolDrift", unfollowed := true, recurses := true, apart := false }
def SpoolDriftSaid : Prop := spoolDriftRow.holds Try.pinned (OpenSpec.ofChange spoolDriftSpec)

/-- ITS FALSE NEIGHBOUR: 'it returns false'. Refute it at one input. -/
def spoolDriftWrong : ChangeSpec := { name := "spoolDrift", fn := fun _ => fun
  | [d1, d2, d3] => { results := [.lit (.bool false)], args := [d1, d2, d3] }
  | _ => none }
def SpoolDriftWrongFalsely : Prop := spoolDriftRow.holds Try.pinned (OpenSpec.ofChange spoolDriftWrong)

/-- 'pianolalaw05.SpoolGoverned': WHATEVER THE INPUT: true; the input reads as it did. -/
def spoolGovernedSpec : ChangeSpec := { name := "spoolGoverned", fn := fun _ => fun
  | [d1, d2, d3] => { results := [.lit (.bool true)], args := [d1, d2, d3] }
  | _ => none }
def spoolGovernedRow : OpenClaim := { program := "ytphbiaagmhhhbaa", sum := "62b873367e36a09876270e6d5de299743d33b2c3f838b145ac1b1c88a3b4e47a", func := "pianola/pianolalaw05.SpoolGoverned", spec := "spoolGoverned", unfollowed := true, recurses := true, apart := false }
def SpoolGovernedSaid : Prop := spoolGovernedRow.holds Try.pinned (OpenSpec.ofChange spoolGovernedSpec)

/-- ITS FALSE NEIGHBOUR: 'it returns false'. Refute it at one input. -/
def spoolGovernedWrong : ChangeSpec := { name := "spoolGoverned", fn := fun _ => fun
  | [d1, d2, d3] => { results := [.lit (.bool false)], args := [d1, d2, d3] }
  | _ => none }
def SpoolGovernedWrongFalsely : Prop := spoolGovernedRow.holds Try.pinned (OpenSpec.ofChange spoolGovernedWrong)

/-- 'pianolalaw05.SpoolTruth': WHATEVER THE INPUT: true; the input reads as it did. -/
def spoolTruthSpec : ChangeSpec := { name := "spoolTruth", fn := fun _ => fun
  | [d1, d2, d3, d4, d5] => { results := [.lit (.bool true)], args := [d1, d2, d3, d4, d5] }
  | _ => none }
def spoolTruthRow : OpenClaim := { program := "ytphbiaagmhhhbaa", sum := "62b873367e36a09876270e6d5de299743d33b2c3f838b145ac1b1c88a3b4e47a", func := "pianola/pianolalaw05.SpoolTruth", spec := "spoolTruth", unfollowed := true, recurses := true, apart := false }
def SpoolTruthSaid : Prop := spoolTruthRow.holds Try.pinned (OpenSpec.ofChange spoolTruthSpec)

/-- ITS FALSE NEIGHBOUR: 'it returns false'. Refute it at one input. -/
def spoolTruthWrong : ChangeSpec := { name := "spoolTruth", fn := fun _ => fun
  | [d1, d2, d3, d4, d5] => { results := [.lit (.bool false)], args := [d1, d2, d3, d4, d5] }
  | _ => none }
def SpoolTruthWrongFalsely : Prop := spoolTruthRow.holds Try.pinned (OpenSpec.ofChange spoolTruthWrong)

/-- 'pianolalaw05.SpoolClashes': WHATEVER THE INPUT: true; the input reads as it did. -/
def spoolClashesSpec : ChangeSpec := { name := "spoolClashes", fn := fun _ => fun
  | [d1, d2, d3, d4] => { results := [.lit (.bool true)], args := [d1, d2, d3, d4] }
  | _ => none }
def spoolClashesRow : OpenClaim := { program := "ytphbiaagmhhhbaa", sum := "62b873367e36a09876270e6d5de299743d33b2c3f838b145ac1b1c88a3b4e47a", func := "pianola/pianolalaw05.SpoolClashes", spec := "spoolClashes", unfollowed := true, recurses := true, apart := false }
def SpoolClashesSaid : Prop := spoolClashesRow.holds Try.pinned (OpenSpec.ofChange spoolClashesSpec)

/-- ITS FALSE NEIGHBOUR: 'it returns false'. Refute it at one input. -/
def spoolClashesWrong : ChangeSpec := { name := "spoolClashes", fn := fun _ => fun
  | [d1, d2, d3, d4] => { results := [.lit (.bool false)], args := [d1, d2, d3, d4] }
  | _ => none }
def SpoolClashesWrongFalsely : Prop := spoolClashesRow.holds Try.pinned (OpenSpec.ofChange spoolClashesWrong)

/-- 'pianolalaw05.SpoolKnown': WHATEVER THE INPUT: true; the input reads as it did. -/
def spoolKnownSpec : ChangeSpec := { name := "spoolKnown", fn := fun _ => fun
  | [] => { results := [.lit (.bool true)], args := [] }
  | _ => none }
def spoolKnownRow : OpenClaim := { program := "ytphbiaagmhhhbaa", sum := "62b873367e36a09876270e6d5de299743d33b2c3f838b145ac1b1c88a3b4e47a", func := "pianola/pianolalaw05.SpoolKnown", spec := "spoolKnown", unfollowed := true, recurses := true, apart := false }
def SpoolKnownSaid : Prop := spoolKnownRow.holds Try.pinned (OpenSpec.ofChange spoolKnownSpec)

/-- ITS FALSE NEIGHBOUR: 'it returns false'. Refute it at one input. -/
def spoolKnownWrong : ChangeSpec := { name := "spoolKnown", fn := fun _ => fun
  | [] => { results := [.lit (.bool false)], args := [] }
  | _ => none }
def SpoolKnownWrongFalsely : Prop := spoolKnownRow.holds Try.pinned (OpenSpec.ofChange spoolKnownWrong)

/- THE SECOND FORM. 'bulk': how many values and letters a reading holds, each counted each time it is reached (what is shared counts as often as it is met; a slice's spare places count too). A statement '..UptoSaid' is the law's where the arguments, and the package variables that the reading takes, are together of bulk at most 1048576: NARROWER than '..Said'. Prove '..Said' where nothing that the law and all that it calls make is longer than what came in: it says more and counts as full. Else prove '..UptoSaid'. A law counts once. -/
mutual
def uptoBulk {H : Type} : DataW H → Nat
  | .lit (.string bytes) => bytes.length + 1
  | .lit _ => 1
  | .nil => 1
  | .ptr d => uptoBulk d + 1
  | .slice elems spare => uptoBulkAll elems + uptoBulkAll spare + 1
  | .agg parts => uptoBulkAll parts + 1
  | .iface _ d => uptoBulk d + 1
  | .map entries => uptoBulkEntries entries + 1
  | .held _ => 1
def uptoBulkAll {H : Type} : List (DataW H) → Nat
  | [] => 0
  | d :: r => uptoBulk d + uptoBulkAll r
def uptoBulkEntries {H : Type} : List (Lit × DataW H) → Nat
  | [] => 0
  | x :: r => uptoBulkEntry x + uptoBulkEntries r
def uptoBulkEntry {H : Type} : Lit × DataW H → Nat
  | (.string bytes, d) => bytes.length + uptoBulk d + 1
  | (_, d) => uptoBulk d + 1
 end
def uptoSmall : (H : Type) → List (DataW H) → Bool := fun _ ds => decide (uptoBulkAll ds ≤ 1048576)
def OpenSpec.upto (s : _root_.Go.ChangeSpec) : _root_.Go.OpenSpec := { _root_.Go.OpenSpec.ofChange s with cond := some uptoSmall }

/-- 'pianolatop.TopCut', WHERE WHAT IT READS IS OF BULK AT MOST 1048576: true; the input reads as it did. -/
def topCutUptoRow : OpenClaim := { program := "ytphbiaagmhhhbaa", sum := "62b873367e36a09876270e6d5de299743d33b2c3f838b145ac1b1c88a3b4e47a", func := "pianola/pianolatop.TopCut", spec := "topCut", unfollowed := true, recurses := true, apart := false, narrowed := true }
def TopCutUptoSaid : Prop := topCutUptoRow.holds Try.pinned (OpenSpec.upto topCutSpec)

/-- 'pianolalaw05.SpoolPlaces', WHERE WHAT IT READS IS OF BULK AT MOST 1048576: true; the input reads as it did. -/
def spoolPlacesUptoRow : OpenClaim := { program := "ytphbiaagmhhhbaa", sum := "62b873367e36a09876270e6d5de299743d33b2c3f838b145ac1b1c88a3b4e47a", func := "pianola/pianolalaw05.SpoolPlaces", spec := "spoolPlaces", unfollowed := true, recurses := true, apart := false, narrowed := true }
def SpoolPlacesUptoSaid : Prop := spoolPlacesUptoRow.holds Try.pinned (OpenSpec.upto spoolPlacesSpec)

/-- 'pianolalaw05.SpoolArrivals', WHERE WHAT IT READS IS OF BULK AT MOST 1048576: true; the input reads as it did. -/
def spoolArrivalsUptoRow : OpenClaim := { program := "ytphbiaagmhhhbaa", sum := "62b873367e36a09876270e6d5de299743d33b2c3f838b145ac1b1c88a3b4e47a", func := "pianola/pianolalaw05.SpoolArrivals", spec := "spoolArrivals", unfollowed := true, recurses := true, apart := false, narrowed := true }
def SpoolArrivalsUptoSaid : Prop := spoolArrivalsUptoRow.holds Try.pinned (OpenSpec.upto spoolArrivalsSpec)

/-- 'pianolalaw05.SpoolCuts', WHERE WHAT IT READS IS OF BULK AT MOST 1048576: true; the input reads as it did. -/
def spoolCutsUptoRow : OpenClaim := { program := "ytphbiaagmhhhbaa", sum := "62b873367e36a09876270e6d5de299743d33b2c3f838b145ac1b1c88a3b4e47a", func := "pianola/pianolalaw05.SpoolCuts", spec := "spoolCuts", unfollowed := true, recurses := true, apart := false, narrowed := true }
def SpoolCutsUptoSaid : Prop := spoolCutsUptoRow.holds Try.pinned (OpenSpec.upto spoolCutsSpec)

/-- 'pianolalaw05.SpoolGoverns', WHERE WHAT IT READS IS OF BULK AT MOST 1048576: true; the input reads as it did. -/
def spoolGovernsUptoRow : OpenClaim := { program := "ytphbiaagmhhhbaa", sum := "62b873367e36a09876270e6d5de299743d33b2c3f838b145ac1b1c88a3b4e47a", func := "pianola/pianolalaw05.SpoolGoverns", spec := "spoolGoverns", unfollowed := true, recurses := true, apart := false, narrowed := true }
def SpoolGovernsUptoSaid : Prop := spoolGovernsUptoRow.holds Try.pinned (OpenSpec.upto spoolGovernsSpec)

/-- 'pianolalaw05.SpoolGrowths', WHERE WHAT IT READS IS OF BULK AT MOST 1048576: true; the input reads as it did. -/
def spoolGrowthsUptoRow : OpenClaim := { program := "ytphbiaagmhhhbaa", sum := "62b873367e36a09876270e6d5de299743d33b2c3f838b145ac1b1c88a3b4e47a", func := "pianola/pianolalaw05.SpoolGrowths", spec := "spoolGrowths", unfollowed := true, recurses := true, apart := false, narrowed := true }
def SpoolGrowthsUptoSaid : Prop := spoolGrowthsUptoRow.holds Try.pinned (OpenSpec.upto spoolGrowthsSpec)

/-- 'pianolalaw05.SpoolExact', WHERE WHAT IT READS IS OF BULK AT MOST 1048576: true; the input reads as it did. -/
def spoolExactUptoRow : OpenClaim := { program := "ytphbiaagmhhhbaa", sum := "62b873367e36a09876270e6d5de299743d33b2c3f838b145ac1b1c88a3b4e47a", func := "pianola/pianolalaw05.SpoolExact", spec := "spoolExact", unfollowed := true, recurses := true, apart := false, narrowed := true }
def SpoolExactUptoSaid : Prop := spoolExactUptoRow.holds Try.pinned (OpenSpec.upto spoolExactSpec)

/-- 'pianolalaw05.SpoolInverse', WHERE WHAT IT READS IS OF BULK AT MOST 1048576: true; the input reads as it did. -/
def spoolInverseUptoRow : OpenClaim := { program := "ytphbiaagmhhhbaa", sum := "62b873367e36a09876270e6d5de299743d33b2c3f838b145ac1b1c88a3b4e47a", func := "pianola/pianolalaw05.SpoolInverse", spec := "spoolInverse", unfollowed := true, recurses := true, apart := false, narrowed := true }
def SpoolInverseUptoSaid : Prop := spoolInverseUptoRow.holds Try.pinned (OpenSpec.upto spoolInverseSpec)

/-- 'pianolalaw05.SpoolThicker', WHERE WHAT IT READS IS OF BULK AT MOST 1048576: true; the input reads as it did. -/
def spoolThickerUptoRow : OpenClaim := { program := "ytphbiaagmhhhbaa", sum := "62b873367e36a09876270e6d5de299743d33b2c3f838b145ac1b1c88a3b4e47a", func := "pianola/pianolalaw05.SpoolThicker", spec := "spoolThicker", unfollowed := true, recurses := true, apart := false, narrowed := true }
def SpoolThickerUptoSaid : Prop := spoolThickerUptoRow.holds Try.pinned (OpenSpec.upto spoolThickerSpec)

/-- 'pianolalaw05.SpoolDrift', WHERE WHAT IT READS IS OF BULK AT MOST 1048576: true; the input reads as it did. -/
def spoolDriftUptoRow : OpenClaim := { program := "ytphbiaagmhhhbaa", sum := "62b873367e36a09876270e6d5de299743d33b2c3f838b145ac1b1c88a3b4e47a", func := "pianola/pianolalaw05.SpoolDrift", spec := "spoolDrift", unfollowed := true, recurses := true, apart := false, narrowed := true }
def SpoolDriftUptoSaid : Prop := spoolDriftUptoRow.holds Try.pinned (OpenSpec.upto spoolDriftSpec)

/-- 'pianolalaw05.SpoolGoverned', WHERE WHAT IT READS IS OF BULK AT MOST 1048576: true; the input reads as it did. -/
def spoolGovernedUptoRow : OpenClaim := { program := "ytphbiaagmhhhbaa", sum := "62b873367e36a09876270e6d5de299743d33b2c3f838b145ac1b1c88a3b4e47a", func := "pianola/pianolalaw05.SpoolGoverned", spec := "spoolGoverned", unfollowed := true, recurses := true, apart := false, narrowed := true }
def SpoolGovernedUptoSaid : Prop := spoolGovernedUptoRow.holds Try.pinned (OpenSpec.upto spoolGovernedSpec)

/-- 'pianolalaw05.SpoolTruth', WHERE WHAT IT READS IS OF BULK AT MOST 1048576: true; the input reads as it did. -/
def spoolTruthUptoRow : OpenClaim := { program := "ytphbiaagmhhhbaa", sum := "62b873367e36a09876270e6d5de299743d33b2c3f838b145ac1b1c88a3b4e47a", func := "pianola/pianolalaw05.SpoolTruth", spec := "spoolTruth", unfollowed := true, recurses := true, apart := false, narrowed := true }
def SpoolTruthUptoSaid : Prop := spoolTruthUptoRow.holds Try.pinned (OpenSpec.upto spoolTruthSpec)

/-- 'pianolalaw05.SpoolClashes', WHERE WHAT IT READS IS OF BULK AT MOST 1048576: true; the input reads as it did. -/
def spoolClashesUptoRow : OpenClaim := { program := "ytphbiaagmhhhbaa", sum := "62b873367e36a09876270e6d5de299743d33b2c3f838b145ac1b1c88a3b4e47a", func := "pianola/pianolalaw05.SpoolClashes", spec := "spoolClashes", unfollowed := true, recurses := true, apart := false, narrowed := true }
def SpoolClashesUptoSaid : Prop := spoolClashesUptoRow.holds Try.pinned (OpenSpec.upto spoolClashesSpec)

/-- 'pianolalaw05.SpoolKnown', WHERE WHAT IT READS IS OF BULK AT MOST 1048576: true; the input reads as it did. -/
def spoolKnownUptoRow : OpenClaim := { program := "ytphbiaagmhhhbaa", sum := "62b873367e36a09876270e6d5de299743d33b2c3f838b145ac1b1c88a3b4e47a", func := "pianola/pianolalaw05.SpoolKnown", spec := "spoolKnown", unfollowed := true, recurses := true, apart := false, narrowed := true }
def SpoolKnownUptoSaid : Prop := spoolKnownUptoRow.holds Try.pinned (OpenSpec.upto spoolKnownSpec)

end Rows
end Go.Proofs.Ytphbiaagmhhhbaa
