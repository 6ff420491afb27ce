/-
  No cell of these rows narrows 'for every input' (looked for: loops, veiled, ifaces, maps, wideKeys, modest, calm, conditions, laid).
  DERIVED. THE GIVEN ROWS OF THIS SEAT. 11 by the template 'for every input the law returns true; each argument reads behind the call as it read before'; 0 by the template 'total and deterministic' (their statements: YtpnkbjdeiedhlaaTotals.lean).
  GIVEN WITH THE SEED: the statements are not yours to turn. If you find one false, say at which input.
  Laid BY PROGRAM, IN A SANDBOX (cutbox-rows.mjs): the forced cells as the released guide's own fill.sh prints them over the translation 399a3ae7af724e6d… (all of the seat's roots in one cut). By AI agents, Wed Nov 11 2026. No macro, syntax, notation, axiom, sorry.
-/
import Derived.Test.YtpnkbjdeiedhlaaChecked
import GoSem.Claim
import GoSem.ClaimJoined
import GoSem.ClaimMapViews
import Derived.JoinedTies
import Derived.KernelRfl
namespace Go.Proofs.Ytpnkbjdeiedhlaa
/- THE CELL 'sum', in the pinned program and in every row, IS THE sha256 OF THE DUMP (.gsa) THAT YtpnkbjdeiedhlaaProg.lean LOADS. Nothing in Lean hashes anything: it is a label: what it is worth is what the hold of that sum in a sandbox is worth. -/
noncomputable def Try.pinned : Pinned := { name := "ytpnkbjdeiedhlaa", sum := "399a3ae7af724e6dadd48033685f5a36123bce6d6bea7de4483a1546cb959c26", checked := Try.checked }
namespace Rows
def none {H : Type} : Left H := { results := [], args := [] }

/-- 'pianolalaw08.StripRecords': WHATEVER THE INPUT: true; the input reads as it did. -/
def stripRecordsSpec : ChangeSpec := { name := "stripRecords", fn := fun _ => fun
  | [d] => { results := [.lit (.bool true)], args := [d] }
  | _ => none }
def stripRecordsRow : OpenClaim := { program := "ytpnkbjdeiedhlaa", sum := "399a3ae7af724e6dadd48033685f5a36123bce6d6bea7de4483a1546cb959c26", func := "pianola/pianolalaw08.StripRecords", spec := "stripRecords", unfollowed := true, recurses := true, plainKeys := false, apart := false }
def StripRecordsSaid : Prop := stripRecordsRow.holds Try.pinned (OpenSpec.ofChange stripRecordsSpec)

/-- ITS FALSE NEIGHBOUR: 'it returns false'. Refute it at one input. -/
def stripRecordsWrong : ChangeSpec := { name := "stripRecords", fn := fun _ => fun
  | [d] => { results := [.lit (.bool false)], args := [d] }
  | _ => none }
def StripRecordsWrongFalsely : Prop := stripRecordsRow.holds Try.pinned (OpenSpec.ofChange stripRecordsWrong)

/-- 'pianolalaw08.StripNeeds': WHATEVER THE INPUT: true; the input reads as it did. -/
def stripNeedsSpec : ChangeSpec := { name := "stripNeeds", fn := fun _ => fun
  | [d1, d2] => { results := [.lit (.bool true)], args := [d1, d2] }
  | _ => none }
def stripNeedsRow : OpenClaim := { program := "ytpnkbjdeiedhlaa", sum := "399a3ae7af724e6dadd48033685f5a36123bce6d6bea7de4483a1546cb959c26", func := "pianola/pianolalaw08.StripNeeds", spec := "stripNeeds", unfollowed := true, recurses := true, plainKeys := false, apart := false }
def StripNeedsSaid : Prop := stripNeedsRow.holds Try.pinned (OpenSpec.ofChange stripNeedsSpec)

/-- ITS FALSE NEIGHBOUR: 'it returns false'. Refute it at one input. -/
def stripNeedsWrong : ChangeSpec := { name := "stripNeeds", fn := fun _ => fun
  | [d1, d2] => { results := [.lit (.bool false)], args := [d1, d2] }
  | _ => none }
def StripNeedsWrongFalsely : Prop := stripNeedsRow.holds Try.pinned (OpenSpec.ofChange stripNeedsWrong)

/-- 'pianolalaw08.StripNexts': WHATEVER THE INPUT: true; the input reads as it did. -/
def stripNextsSpec : ChangeSpec := { name := "stripNexts", fn := fun _ => fun
  | [d1, d2] => { results := [.lit (.bool true)], args := [d1, d2] }
  | _ => none }
def stripNextsRow : OpenClaim := { program := "ytpnkbjdeiedhlaa", sum := "399a3ae7af724e6dadd48033685f5a36123bce6d6bea7de4483a1546cb959c26", func := "pianola/pianolalaw08.StripNexts", spec := "stripNexts", unfollowed := true, recurses := true, plainKeys := false, apart := false }
def StripNextsSaid : Prop := stripNextsRow.holds Try.pinned (OpenSpec.ofChange stripNextsSpec)

/-- ITS FALSE NEIGHBOUR: 'it returns false'. Refute it at one input. -/
def stripNextsWrong : ChangeSpec := { name := "stripNexts", fn := fun _ => fun
  | [d1, d2] => { results := [.lit (.bool false)], args := [d1, d2] }
  | _ => none }
def StripNextsWrongFalsely : Prop := stripNextsRow.holds Try.pinned (OpenSpec.ofChange stripNextsWrong)

/-- 'pianolalaw08.StripTables': WHATEVER THE INPUT: true; the input reads as it did. -/
def stripTablesSpec : ChangeSpec := { name := "stripTables", fn := fun _ => fun
  | [d1, d2] => { results := [.lit (.bool true)], args := [d1, d2] }
  | _ => none }
def stripTablesRow : OpenClaim := { program := "ytpnkbjdeiedhlaa", sum := "399a3ae7af724e6dadd48033685f5a36123bce6d6bea7de4483a1546cb959c26", func := "pianola/pianolalaw08.StripTables", spec := "stripTables", unfollowed := true, recurses := true, plainKeys := false, apart := false }
def StripTablesSaid : Prop := stripTablesRow.holds Try.pinned (OpenSpec.ofChange stripTablesSpec)

/-- ITS FALSE NEIGHBOUR: 'it returns false'. Refute it at one input. -/
def stripTablesWrong : ChangeSpec := { name := "stripTables", fn := fun _ => fun
  | [d1, d2] => { results := [.lit (.bool false)], args := [d1, d2] }
  | _ => none }
def StripTablesWrongFalsely : Prop := stripTablesRow.holds Try.pinned (OpenSpec.ofChange stripTablesWrong)

/-- 'pianolalaw08.StripTried': WHATEVER THE INPUT: true; the input reads as it did. -/
def stripTriedSpec : ChangeSpec := { name := "stripTried", fn := fun _ => fun
  | [d1, d2] => { results := [.lit (.bool true)], args := [d1, d2] }
  | _ => none }
def stripTriedRow : OpenClaim := { program := "ytpnkbjdeiedhlaa", sum := "399a3ae7af724e6dadd48033685f5a36123bce6d6bea7de4483a1546cb959c26", func := "pianola/pianolalaw08.StripTried", spec := "stripTried", unfollowed := true, recurses := true, plainKeys := false, apart := false }
def StripTriedSaid : Prop := stripTriedRow.holds Try.pinned (OpenSpec.ofChange stripTriedSpec)

/-- ITS FALSE NEIGHBOUR: 'it returns false'. Refute it at one input. -/
def stripTriedWrong : ChangeSpec := { name := "stripTried", fn := fun _ => fun
  | [d1, d2] => { results := [.lit (.bool false)], args := [d1, d2] }
  | _ => none }
def StripTriedWrongFalsely : Prop := stripTriedRow.holds Try.pinned (OpenSpec.ofChange stripTriedWrong)

/-- 'pianolalaw08.StripFound': WHATEVER THE INPUT: true; the input reads as it did. -/
def stripFoundSpec : ChangeSpec := { name := "stripFound", fn := fun _ => fun
  | [d1, d2, d3] => { results := [.lit (.bool true)], args := [d1, d2, d3] }
  | _ => none }
def stripFoundRow : OpenClaim := { program := "ytpnkbjdeiedhlaa", sum := "399a3ae7af724e6dadd48033685f5a36123bce6d6bea7de4483a1546cb959c26", func := "pianola/pianolalaw08.StripFound", spec := "stripFound", unfollowed := true, recurses := true, plainKeys := false, apart := false }
def StripFoundSaid : Prop := stripFoundRow.holds Try.pinned (OpenSpec.ofChange stripFoundSpec)

/-- ITS FALSE NEIGHBOUR: 'it returns false'. Refute it at one input. -/
def stripFoundWrong : ChangeSpec := { name := "stripFound", fn := fun _ => fun
  | [d1, d2, d3] => { results := [.lit (.bool false)], args := [d1, d2, d3] }
  | _ => none }
def StripFoundWrongFalsely : Prop := stripFoundRow.holds Try.pinned (OpenSpec.ofChange stripFoundWrong)

/-- 'pianolalaw08.StripPossible': WHATEVER THE INPUT: true; the input reads as it did. -/
def stripPossibleSpec : ChangeSpec := { name := "stripPossible", fn := fun _ => fun
  | [d] => { results := [.lit (.bool true)], args := [d] }
  | _ => none }
def stripPossibleRow : OpenClaim := { program := "ytpnkbjdeiedhlaa", sum := "399a3ae7af724e6dadd48033685f5a36123bce6d6bea7de4483a1546cb959c26", func := "pianola/pianolalaw08.StripPossible", spec := "stripPossible", unfollowed := true, recurses := true, plainKeys := false, apart := false }
def StripPossibleSaid : Prop := stripPossibleRow.holds Try.pinned (OpenSpec.ofChange stripPossibleSpec)

/-- ITS FALSE NEIGHBOUR: 'it returns false'. Refute it at one input. -/
def stripPossibleWrong : ChangeSpec := { name := "stripPossible", fn := fun _ => fun
  | [d] => { results := [.lit (.bool false)], args := [d] }
  | _ => none }
def StripPossibleWrongFalsely : Prop := stripPossibleRow.holds Try.pinned (OpenSpec.ofChange stripPossibleWrong)

/-- 'pianolalaw08.StripWeights': WHATEVER THE INPUT: true; the input reads as it did. -/
def stripWeightsSpec : ChangeSpec := { name := "stripWeights", fn := fun _ => fun
  | [d1, d2, d3, d4] => { results := [.lit (.bool true)], args := [d1, d2, d3, d4] }
  | _ => none }
def stripWeightsRow : OpenClaim := { program := "ytpnkbjdeiedhlaa", sum := "399a3ae7af724e6dadd48033685f5a36123bce6d6bea7de4483a1546cb959c26", func := "pianola/pianolalaw08.StripWeights", spec := "stripWeights", unfollowed := true, recurses := true, plainKeys := false, apart := false }
def StripWeightsSaid : Prop := stripWeightsRow.holds Try.pinned (OpenSpec.ofChange stripWeightsSpec)

/-- ITS FALSE NEIGHBOUR: 'it returns false'. Refute it at one input. -/
def stripWeightsWrong : ChangeSpec := { name := "stripWeights", fn := fun _ => fun
  | [d1, d2, d3, d4] => { results := [.lit (.bool false)], args := [d1, d2, d3, d4] }
  | _ => none }
def StripWeightsWrongFalsely : Prop := stripWeightsRow.holds Try.pinned (OpenSpec.ofChange stripWeightsWrong)

/-- 'pianolalaw08.StripBound': WHATEVER THE INPUT: true; the input reads as it did. -/
def stripBoundSpec : ChangeSpec := { name := "stripBound", fn := fun _ => fun
  | [d1, d2, d3] => { results := [.lit (.bool true)], args := [d1, d2, d3] }
  | _ => none }
def stripBoundRow : OpenClaim := { program := "ytpnkbjdeiedhlaa", sum := "399a3ae7af724e6dadd48033685f5a36123bce6d6bea7de4483a1546cb959c26", func := "pianola/pianolalaw08.StripBound", spec := "stripBound", unfollowed := true, recurses := true, plainKeys := false, apart := false }
def StripBoundSaid : Prop := stripBoundRow.holds Try.pinned (OpenSpec.ofChange stripBoundSpec)

/-- ITS FALSE NEIGHBOUR: 'it returns false'. Refute it at one input. -/
def stripBoundWrong : ChangeSpec := { name := "stripBound", fn := fun _ => fun
  | [d1, d2, d3] => { results := [.lit (.bool false)], args := [d1, d2, d3] }
  | _ => none }
def StripBoundWrongFalsely : Prop := stripBoundRow.holds Try.pinned (OpenSpec.ofChange stripBoundWrong)

/-- 'pianolalaw08.StripNames': WHATEVER THE INPUT: true; the input reads as it did. -/
def stripNamesSpec : ChangeSpec := { name := "stripNames", fn := fun _ => fun
  | [d1, d2, d3] => { results := [.lit (.bool true)], args := [d1, d2, d3] }
  | _ => none }
def stripNamesRow : OpenClaim := { program := "ytpnkbjdeiedhlaa", sum := "399a3ae7af724e6dadd48033685f5a36123bce6d6bea7de4483a1546cb959c26", func := "pianola/pianolalaw08.StripNames", spec := "stripNames", unfollowed := true, recurses := true, plainKeys := false, apart := false }
def StripNamesSaid : Prop := stripNamesRow.holds Try.pinned (OpenSpec.ofChange stripNamesSpec)

/-- ITS FALSE NEIGHBOUR: 'it returns false'. Refute it at one input. -/
def stripNamesWrong : ChangeSpec := { name := "stripNames", fn := fun _ => fun
  | [d1, d2, d3] => { results := [.lit (.bool false)], args := [d1, d2, d3] }
  | _ => none }
def StripNamesWrongFalsely : Prop := stripNamesRow.holds Try.pinned (OpenSpec.ofChange stripNamesWrong)

/-- 'pianolalaw08.StripKnown': WHATEVER THE INPUT: true; the input reads as it did. -/
def stripKnownSpec : ChangeSpec := { name := "stripKnown", fn := fun _ => fun
  | [] => { results := [.lit (.bool true)], args := [] }
  | _ => none }
def stripKnownRow : OpenClaim := { program := "ytpnkbjdeiedhlaa", sum := "399a3ae7af724e6dadd48033685f5a36123bce6d6bea7de4483a1546cb959c26", func := "pianola/pianolalaw08.StripKnown", spec := "stripKnown", unfollowed := true, recurses := true, plainKeys := false, apart := false }
def StripKnownSaid : Prop := stripKnownRow.holds Try.pinned (OpenSpec.ofChange stripKnownSpec)

/-- ITS FALSE NEIGHBOUR: 'it returns false'. Refute it at one input. -/
def stripKnownWrong : ChangeSpec := { name := "stripKnown", fn := fun _ => fun
  | [] => { results := [.lit (.bool false)], args := [] }
  | _ => none }
def StripKnownWrongFalsely : Prop := stripKnownRow.holds Try.pinned (OpenSpec.ofChange stripKnownWrong)

/- THE SECOND FORM. 'bulk': how many values and letters a reading holds, each counted each time it is reached (what is shared counts as often as it is met; a slice's spare places count too). A statement '..UptoSaid' is the law's where the arguments, and the package variables that the reading takes, are together of bulk at most 1048576: NARROWER than '..Said'. Prove '..Said' where nothing that the law and all that it calls make is longer than what came in: it says more and counts as full. Else prove '..UptoSaid'. A law counts once. -/
mutual
def uptoBulk {H : Type} : DataW H → Nat
  | .lit (.string bytes) => bytes.length + 1
  | .lit _ => 1
  | .nil => 1
  | .ptr d => uptoBulk d + 1
  | .slice elems spare => uptoBulkAll elems + uptoBulkAll spare + 1
  | .agg parts => uptoBulkAll parts + 1
  | .iface _ d => uptoBulk d + 1
  | .map entries => uptoBulkEntries entries + 1
  | .held _ => 1
def uptoBulkAll {H : Type} : List (DataW H) → Nat
  | [] => 0
  | d :: r => uptoBulk d + uptoBulkAll r
def uptoBulkEntries {H : Type} : List (Lit × DataW H) → Nat
  | [] => 0
  | x :: r => uptoBulkEntry x + uptoBulkEntries r
def uptoBulkEntry {H : Type} : Lit × DataW H → Nat
  | (.string bytes, d) => bytes.length + uptoBulk d + 1
  | (_, d) => uptoBulk d + 1
 end
def uptoSmall : (H : Type) → List (DataW H) → Bool := fun _ ds => decide (uptoBulkAll ds ≤ 1048576)
def OpenSpec.upto (s : _root_.Go.ChangeSpec) : _root_.Go.OpenSpec := { _root_.Go.OpenSpec.ofChange s with cond := some uptoSmall }

/-- 'pianolalaw08.StripRecords', WHERE WHAT IT READS IS OF BULK AT MOST 1048576: true; the input reads as it did. -/
def stripRecordsUptoRow : OpenClaim := { program := "ytpnkbjdeiedhlaa", sum := "399a3ae7af724e6dadd48033685f5a36123bce6d6bea7de4483a1546cb959c26", func := "pianola/pianolalaw08.StripRecords", spec := "stripRecords", unfollowed := true, recurses := true, plainKeys := false, apart := false, narrowed := true }
def StripRecordsUptoSaid : Prop := stripRecordsUptoRow.holds Try.pinned (OpenSpec.upto stripRecordsSpec)

/-- 'pianolalaw08.StripNeeds', WHERE WHAT IT READS IS OF BULK AT MOST 1048576: true; the input reads as it did. -/
def stripNeedsUptoRow : OpenClaim := { program := "ytpnkbjdeiedhlaa", sum := "399a3ae7af724e6dadd48033685f5a36123bce6d6bea7de4483a1546cb959c26", func := "pianola/pianolalaw08.StripNeeds", spec := "stripNeeds", unfollowed := true, recurses := true, plainKeys := false, apart := false, narrowed := true }
def StripNeedsUptoSaid : Prop := stripNeedsUptoRow.holds Try.pinned (OpenSpec.upto stripNeedsSpec)

/-- 'pianolalaw08.StripNexts', WHERE WHAT IT READS IS OF BULK AT MOST 1048576: true; the input reads as it did. -/
def stripNextsUptoRow : OpenClaim := { program := "ytpnkbjdeiedhlaa", sum := "399a3ae7af724e6dadd48033685f5a36123bce6d6bea7de4483a1546cb959c26", func := "pianola/pianolalaw08.StripNexts", spec := "stripNexts", unfollowed := true, recurses := true, plainKeys := false, apart := false, narrowed := true }
def StripNextsUptoSaid : Prop := stripNextsUptoRow.holds Try.pinned (OpenSpec.upto stripNextsSpec)

/-- 'pianolalaw08.StripTables', WHERE WHAT IT READS IS OF BULK AT MOST 1048576: true; the input reads as it did. -/
def stripTablesUptoRow : OpenClaim := { program := "ytpnkbjdeiedhlaa", sum := "399a3ae7af724e6dadd48033685f5a36123bce6d6bea7de4483a1546cb959c26", func := "pianola/pianolalaw08.StripTables", spec := "stripTables", unfollowed := true, recurses := true, plainKeys := false, apart := false, narrowed := true }
def StripTablesUptoSaid : Prop := stripTablesUptoRow.holds Try.pinned (OpenSpec.upto stripTablesSpec)

/-- 'pianolalaw08.StripTried', WHERE WHAT IT READS IS OF BULK AT MOST 1048576: true; the input reads as it did. -/
def stripTriedUptoRow : OpenClaim := { program := "ytpnkbjdeiedhlaa", sum := "399a3ae7af724e6dadd48033685f5a36123bce6d6bea7de4483a1546cb959c26", func := "pianola/pianolalaw08.StripTried", spec := "stripTried", unfollowed := true, recurses := true, plainKeys := false, apart := false, narrowed := true }
def StripTriedUptoSaid : Prop := stripTriedUptoRow.holds Try.pinned (OpenSpec.upto stripTriedSpec)

/-- 'pianolalaw08.StripFound', WHERE WHAT IT READS IS OF BULK AT MOST 1048576: true; the input reads as it did. -/
def stripFoundUptoRow : OpenClaim := { program := "ytpnkbjdeiedhlaa", sum := "399a3ae7af724e6dadd48033685f5a36123bce6d6bea7de4483a1546cb959c26", func := "pianola/pianolalaw08.StripFound", spec := "stripFound", unfollowed := true, recurses := true, plainKeys := false, apart := false, narrowed := true }
def StripFoundUptoSaid : Prop := stripFoundUptoRow.holds Try.pinned (OpenSpec.upto stripFoundSpec)

/-- 'pianolalaw08.StripPossible', WHERE WHAT IT READS IS OF BULK AT MOST 1048576: true; the input reads as it did. -/
def stripPossibleUptoRow : OpenClaim := { program := "ytpnkbjdeiedhlaa", sum := "399a3ae7af724e6dadd48033685f5a36123bce6d6bea7de4483a1546cb959c26", func := "pianola/pianolalaw08.StripPossible", spec := "stripPossible", unfollowed := true, recurses := true, plainKeys := false, apart := false, narrowed := true }
def StripPossibleUptoSaid : Prop := stripPossibleUptoRow.holds Try.pinned (OpenSpec.upto stripPossibleSpec)

/-- 'pianolalaw08.StripWeights', WHERE WHAT IT READS IS OF BULK AT MOST 1048576: true; the input reads as it did. -/
def stripWeightsUptoRow : OpenClaim := { program := "ytpnkbjdeiedhlaa", sum := "399a3ae7af724e6dadd48033685f5a36123bce6d6bea7de4483a1546cb959c26", func := "pianola/pianolalaw08.StripWeights", spec := "stripWeights", unfollowed := true, recurses := true, plainKeys := false, apart := false, narrowed := true }
def StripWeightsUptoSaid : Prop := stripWeightsUptoRow.holds Try.pinned (OpenSpec.upto stripWeightsSpec)

/-- 'pianolalaw08.StripBound', WHERE WHAT IT READS IS OF BULK AT MOST 1048576: true; the input reads as it did. -/
def stripBoundUptoRow : OpenClaim := { program := "ytpnkbjdeiedhlaa", sum := "399a3ae7af724e6dadd48033685f5a36123bce6d6bea7de4483a1546cb959c26", func := "pianola/pianolalaw08.StripBound", spec := "stripBound", unfollowed := true, recurses := true, plainKeys := false, apart := false, narrowed := true }
def StripBoundUptoSaid : Prop := stripBoundUptoRow.holds Try.pinned (OpenSpec.upto stripBoundSpec)

/-- 'pianolalaw08.StripNames', WHERE WHAT IT READS IS OF BULK AT MOST 1048576: true; the input reads as it did. -/
def stripNamesUptoRow : OpenClaim := { program := "ytpnkbjdeiedhlaa", sum := "399a3ae7af724e6dadd48033685f5a36123bce6d6bea7de4483a1546cb959c26", func := "pianola/pianolalaw08.StripNames", spec := "stripNames", unfollowed := true, recurses := true, plainKeys := false, apart := false, narrowed := true }
def StripNamesUptoSaid : Prop := stripNamesUptoRow.holds Try.pinned (OpenSpec.upto stripNamesSpec)

/-- 'pianolalaw08.StripKnown', WHERE WHAT IT READS IS OF BULK AT MOST 1048576: true; the input reads as it did. -/
def stripKnownUptoRow : OpenClaim := { program := "ytpnkbjdeiedhlaa", sum := "399a3ae7af724e6dadd48033685f5a36123bce6d6bea7de4483a1546cb959c26", func := "pianola/pianolalaw08.StripKnown", spec := "stripKnown", unfollowed := true, recurses := true, plainKeys := false, apart := false, narrowed := true }
def StripKnownUptoSaid : Prop := stripKnownUptoRow.holds Try.pinned (OpenSpec.upto stripKnownSpec)

end Rows
end Go.Proofs.Ytpnkbjdeiedhlaa
