/-
  No cell of these rows narrows 'for every input' (looked for: loops, veiled, ifaces, maps, wideKeys, modest, calm, conditions, laid).
  DERIVED. THE GIVEN ROWS OF THIS SEAT. 8 by the template 'for every input the law returns true; each argument reads behind the call as it read before'; 0 by the template 'total and deterministic' (their statements: YtjncoableanmpaaTotals.lean).
  GIVEN WITH THE SEED: the statements are not yours to turn. If you find one false, say at which input.
  Laid BY PROGRAM, IN A SANDBOX (cutbox-rows.mjs): the forced cells as the released guide's own fill.sh prints them over the translation 0a70cedc8476af66… (all of the seat's roots in one cut). By AI agents, Wed Nov 11 2026. No macro, syntax, notation, axiom, sorry.
-/
import Derived.Test.YtjncoableanmpaaChecked
import GoSem.Claim
import GoSem.ClaimJoined
import GoSem.ClaimMapViews
import Derived.JoinedTies
import Derived.KernelRfl
namespace Go.Proofs.Ytjncoableanmpaa
/- THE CELL 'sum', in the pinned program and in every row, IS THE sha256 OF THE DUMP (.gsa) THAT YtjncoableanmpaaProg.lean LOADS. Nothing in Lean hashes anything: it is a label: what it is worth is what the hold of that sum in a sandbox is worth. -/
noncomputable def Try.pinned : Pinned := { name := "ytjncoableanmpaa", sum := "0a70cedc8476af66c6846d41b0a4e9c810c8203cc08ac6a1a4c37aea81b493db", checked := Try.checked }
namespace Rows
def none {H : Type} : Left H := { results := [], args := [] }

/-- 'pianolalaw06.LevelErrors': WHATEVER THE INPUT: true; the input reads as it did. -/
def levelErrorsSpec : ChangeSpec := { name := "levelErrors", fn := fun _ => fun
  | [d1, d2] => { results := [.lit (.bool true)], args := [d1, d2] }
  | _ => none }
def levelErrorsRow : OpenClaim := { program := "ytjncoableanmpaa", sum := "0a70cedc8476af66c6846d41b0a4e9c810c8203cc08ac6a1a4c37aea81b493db", func := "pianola/pianolalaw06.LevelErrors", spec := "levelErrors", unfollowed := true, recurses := true, apart := false }
def LevelErrorsSaid : Prop := levelErrorsRow.holds Try.pinned (OpenSpec.ofChange levelErrorsSpec)

/-- ITS FALSE NEIGHBOUR: 'it returns false'. Refute it at one input. -/
def levelErrorsWrong : ChangeSpec := { name := "levelErrors", fn := fun _ => fun
  | [d1, d2] => { results := [.lit (.bool false)], args := [d1, d2] }
  | _ => none }
def LevelErrorsWrongFalsely : Prop := levelErrorsRow.holds Try.pinned (OpenSpec.ofChange levelErrorsWrong)

/-- 'pianolalaw06.LevelProofs': WHATEVER THE INPUT: true; the input reads as it did. -/
def levelProofsSpec : ChangeSpec := { name := "levelProofs", fn := fun _ => fun
  | [d1, d2, d3] => { results := [.lit (.bool true)], args := [d1, d2, d3] }
  | _ => none }
def levelProofsRow : OpenClaim := { program := "ytjncoableanmpaa", sum := "0a70cedc8476af66c6846d41b0a4e9c810c8203cc08ac6a1a4c37aea81b493db", func := "pianola/pianolalaw06.LevelProofs", spec := "levelProofs", unfollowed := true, recurses := true, apart := false }
def LevelProofsSaid : Prop := levelProofsRow.holds Try.pinned (OpenSpec.ofChange levelProofsSpec)

/-- ITS FALSE NEIGHBOUR: 'it returns false'. Refute it at one input. -/
def levelProofsWrong : ChangeSpec := { name := "levelProofs", fn := fun _ => fun
  | [d1, d2, d3] => { results := [.lit (.bool false)], args := [d1, d2, d3] }
  | _ => none }
def LevelProofsWrongFalsely : Prop := levelProofsRow.holds Try.pinned (OpenSpec.ofChange levelProofsWrong)

/-- 'pianolalaw06.LevelDivides': WHATEVER THE INPUT: true; the input reads as it did. -/
def levelDividesSpec : ChangeSpec := { name := "levelDivides", fn := fun _ => fun
  | [d1, d2] => { results := [.lit (.bool true)], args := [d1, d2] }
  | _ => none }
def levelDividesRow : OpenClaim := { program := "ytjncoableanmpaa", sum := "0a70cedc8476af66c6846d41b0a4e9c810c8203cc08ac6a1a4c37aea81b493db", func := "pianola/pianolalaw06.LevelDivides", spec := "levelDivides", unfollowed := true, recurses := true, apart := false }
def LevelDividesSaid : Prop := levelDividesRow.holds Try.pinned (OpenSpec.ofChange levelDividesSpec)

/-- ITS FALSE NEIGHBOUR: 'it returns false'. Refute it at one input. -/
def levelDividesWrong : ChangeSpec := { name := "levelDivides", fn := fun _ => fun
  | [d1, d2] => { results := [.lit (.bool false)], args := [d1, d2] }
  | _ => none }
def LevelDividesWrongFalsely : Prop := levelDividesRow.holds Try.pinned (OpenSpec.ofChange levelDividesWrong)

/-- 'pianolalaw06.LevelProved': WHATEVER THE INPUT: true; the input reads as it did. -/
def levelProvedSpec : ChangeSpec := { name := "levelProved", fn := fun _ => fun
  | [d1, d2, d3, d4, d5] => { results := [.lit (.bool true)], args := [d1, d2, d3, d4, d5] }
  | _ => none }
def levelProvedRow : OpenClaim := { program := "ytjncoableanmpaa", sum := "0a70cedc8476af66c6846d41b0a4e9c810c8203cc08ac6a1a4c37aea81b493db", func := "pianola/pianolalaw06.LevelProved", spec := "levelProved", unfollowed := true, recurses := true, apart := false }
def LevelProvedSaid : Prop := levelProvedRow.holds Try.pinned (OpenSpec.ofChange levelProvedSpec)

/-- ITS FALSE NEIGHBOUR: 'it returns false'. Refute it at one input. -/
def levelProvedWrong : ChangeSpec := { name := "levelProved", fn := fun _ => fun
  | [d1, d2, d3, d4, d5] => { results := [.lit (.bool false)], args := [d1, d2, d3, d4, d5] }
  | _ => none }
def LevelProvedWrongFalsely : Prop := levelProvedRow.holds Try.pinned (OpenSpec.ofChange levelProvedWrong)

/-- 'pianolalaw06.LevelMoved': WHATEVER THE INPUT: true; the input reads as it did. -/
def levelMovedSpec : ChangeSpec := { name := "levelMoved", fn := fun _ => fun
  | [d1, d2, d3] => { results := [.lit (.bool true)], args := [d1, d2, d3] }
  | _ => none }
def levelMovedRow : OpenClaim := { program := "ytjncoableanmpaa", sum := "0a70cedc8476af66c6846d41b0a4e9c810c8203cc08ac6a1a4c37aea81b493db", func := "pianola/pianolalaw06.LevelMoved", spec := "levelMoved", unfollowed := true, recurses := true, apart := false }
def LevelMovedSaid : Prop := levelMovedRow.holds Try.pinned (OpenSpec.ofChange levelMovedSpec)

/-- ITS FALSE NEIGHBOUR: 'it returns false'. Refute it at one input. -/
def levelMovedWrong : ChangeSpec := { name := "levelMoved", fn := fun _ => fun
  | [d1, d2, d3] => { results := [.lit (.bool false)], args := [d1, d2, d3] }
  | _ => none }
def LevelMovedWrongFalsely : Prop := levelMovedRow.holds Try.pinned (OpenSpec.ofChange levelMovedWrong)

/-- 'pianolalaw06.LevelGains': WHATEVER THE INPUT: true; the input reads as it did. -/
def levelGainsSpec : ChangeSpec := { name := "levelGains", fn := fun _ => fun
  | [d1, d2, d3] => { results := [.lit (.bool true)], args := [d1, d2, d3] }
  | _ => none }
def levelGainsRow : OpenClaim := { program := "ytjncoableanmpaa", sum := "0a70cedc8476af66c6846d41b0a4e9c810c8203cc08ac6a1a4c37aea81b493db", func := "pianola/pianolalaw06.LevelGains", spec := "levelGains", unfollowed := true, recurses := true, apart := false }
def LevelGainsSaid : Prop := levelGainsRow.holds Try.pinned (OpenSpec.ofChange levelGainsSpec)

/-- ITS FALSE NEIGHBOUR: 'it returns false'. Refute it at one input. -/
def levelGainsWrong : ChangeSpec := { name := "levelGains", fn := fun _ => fun
  | [d1, d2, d3] => { results := [.lit (.bool false)], args := [d1, d2, d3] }
  | _ => none }
def LevelGainsWrongFalsely : Prop := levelGainsRow.holds Try.pinned (OpenSpec.ofChange levelGainsWrong)

/-- 'pianolalaw06.LevelPlayers': WHATEVER THE INPUT: true; the input reads as it did. -/
def levelPlayersSpec : ChangeSpec := { name := "levelPlayers", fn := fun _ => fun
  | [d1, d2] => { results := [.lit (.bool true)], args := [d1, d2] }
  | _ => none }
def levelPlayersRow : OpenClaim := { program := "ytjncoableanmpaa", sum := "0a70cedc8476af66c6846d41b0a4e9c810c8203cc08ac6a1a4c37aea81b493db", func := "pianola/pianolalaw06.LevelPlayers", spec := "levelPlayers", unfollowed := true, recurses := true, apart := false }
def LevelPlayersSaid : Prop := levelPlayersRow.holds Try.pinned (OpenSpec.ofChange levelPlayersSpec)

/-- ITS FALSE NEIGHBOUR: 'it returns false'. Refute it at one input. -/
def levelPlayersWrong : ChangeSpec := { name := "levelPlayers", fn := fun _ => fun
  | [d1, d2] => { results := [.lit (.bool false)], args := [d1, d2] }
  | _ => none }
def LevelPlayersWrongFalsely : Prop := levelPlayersRow.holds Try.pinned (OpenSpec.ofChange levelPlayersWrong)

/-- 'pianolalaw06.LevelKnown': WHATEVER THE INPUT: true; the input reads as it did. -/
def levelKnownSpec : ChangeSpec := { name := "levelKnown", fn := fun _ => fun
  | [] => { results := [.lit (.bool true)], args := [] }
  | _ => none }
def levelKnownRow : OpenClaim := { program := "ytjncoableanmpaa", sum := "0a70cedc8476af66c6846d41b0a4e9c810c8203cc08ac6a1a4c37aea81b493db", func := "pianola/pianolalaw06.LevelKnown", spec := "levelKnown", unfollowed := true, recurses := true, apart := false }
def LevelKnownSaid : Prop := levelKnownRow.holds Try.pinned (OpenSpec.ofChange levelKnownSpec)

/-- ITS FALSE NEIGHBOUR: 'it returns false'. Refute it at one input. -/
def levelKnownWrong : ChangeSpec := { name := "levelKnown", fn := fun _ => fun
  | [] => { results := [.lit (.bool false)], args := [] }
  | _ => none }
def LevelKnownWrongFalsely : Prop := levelKnownRow.holds Try.pinned (OpenSpec.ofChange levelKnownWrong)

/- THE SECOND FORM. 'bulk': how many values and letters a reading holds, each counted each time it is reached (what is shared counts as often as it is met; a slice's spare places count too). A statement '..UptoSaid' is the law's where the arguments, and the package variables that the reading takes, are together of bulk at most 1048576: NARROWER than '..Said'. Prove '..Said' where nothing that the law and all that it calls make is longer than what came in: it says more and counts as full. Else prove '..UptoSaid'. A law counts once. -/
mutual
def uptoBulk {H : Type} : DataW H → Nat
  | .lit (.string bytes) => bytes.length + 1
  | .lit _ => 1
  | .nil => 1
  | .ptr d => uptoBulk d + 1
  | .slice elems spare => uptoBulkAll elems + uptoBulkAll spare + 1
  | .agg parts => uptoBulkAll parts + 1
  | .iface _ d => uptoBulk d + 1
  | .map entries => uptoBulkEntries entries + 1
  | .held _ => 1
def uptoBulkAll {H : Type} : List (DataW H) → Nat
  | [] => 0
  | d :: r => uptoBulk d + uptoBulkAll r
def uptoBulkEntries {H : Type} : List (Lit × DataW H) → Nat
  | [] => 0
  | x :: r => uptoBulkEntry x + uptoBulkEntries r
def uptoBulkEntry {H : Type} : Lit × DataW H → Nat
  | (.string bytes, d) => bytes.length + uptoBulk d + 1
  | (_, d) => uptoBulk d + 1
 end
def uptoSmall : (H : Type) → List (DataW H) → Bool := fun _ ds => decide (uptoBulkAll ds ≤ 1048576)
def OpenSpec.upto (s : _root_.Go.ChangeSpec) : _root_.Go.OpenSpec := { _root_.Go.OpenSpec.ofChange s with cond := some uptoSmall }

/-- 'pianolalaw06.LevelErrors', WHERE WHAT IT READS IS OF BULK AT MOST 1048576: true; the input reads as it did. -/
def levelErrorsUptoRow : OpenClaim := { program := "ytjncoableanmpaa", sum := "0a70cedc8476af66c6846d41b0a4e9c810c8203cc08ac6a1a4c37aea81b493db", func := "pianola/pianolalaw06.LevelErrors", spec := "levelErrors", unfollowed := true, recurses := true, apart := false, narrowed := true }
def LevelErrorsUptoSaid : Prop := levelErrorsUptoRow.holds Try.pinned (OpenSpec.upto levelErrorsSpec)

/-- 'pianolalaw06.LevelProofs', WHERE WHAT IT READS IS OF BULK AT MOST 1048576: true; the input reads as it did. -/
def levelProofsUptoRow : OpenClaim := { program := "ytjncoableanmpaa", sum := "0a70cedc8476af66c6846d41b0a4e9c810c8203cc08ac6a1a4c37aea81b493db", func := "pianola/pianolalaw06.LevelProofs", spec := "levelProofs", unfollowed := true, recurses := true, apart := false, narrowed := true }
def LevelProofsUptoSaid : Prop := levelProofsUptoRow.holds Try.pinned (OpenSpec.upto levelProofsSpec)

/-- 'pianolalaw06.LevelDivides', WHERE WHAT IT READS IS OF BULK AT MOST 1048576: true; the input reads as it did. -/
def levelDividesUptoRow : OpenClaim := { program := "ytjncoableanmpaa", sum := "0a70cedc8476af66c6846d41b0a4e9c810c8203cc08ac6a1a4c37aea81b493db", func := "pianola/pianolalaw06.LevelDivides", spec := "levelDivides", unfollowed := true, recurses := true, apart := false, narrowed := true }
def LevelDividesUptoSaid : Prop := levelDividesUptoRow.holds Try.pinned (OpenSpec.upto levelDividesSpec)

/-- 'pianolalaw06.LevelProved', WHERE WHAT IT READS IS OF BULK AT MOST 1048576: true; the input reads as it did. -/
def levelProvedUptoRow : OpenClaim := { program := "ytjncoableanmpaa", sum := "0a70cedc8476af66c6846d41b0a4e9c810c8203cc08ac6a1a4c37aea81b493db", func := "pianola/pianolalaw06.LevelProved", spec := "levelProved", unfollowed := true, recurses := true, apart := false, narrowed := true }
def LevelProvedUptoSaid : Prop := levelProvedUptoRow.holds Try.pinned (OpenSpec.upto levelProvedSpec)

/-- 'pianolalaw06.LevelMoved', WHERE WHAT IT READS IS OF BULK AT MOST 1048576: true; the input reads as it did. -/
def levelMovedUptoRow : OpenClaim := { program := "ytjncoableanmpaa", sum := "0a70cedc8476af66c6846d41b0a4e9c810c8203cc08ac6a1a4c37aea81b493db", func := "pianola/pianolalaw06.LevelMoved", spec := "levelMoved", unfollowed := true, recurses := true, apart := false, narrowed := true }
def LevelMovedUptoSaid : Prop := levelMovedUptoRow.holds Try.pinned (OpenSpec.upto levelMovedSpec)

/-- 'pianolalaw06.LevelGains', WHERE WHAT IT READS IS OF BULK AT MOST 1048576: true; the input reads as it did. -/
def levelGainsUptoRow : OpenClaim := { program := "ytjncoableanmpaa", sum := "0a70cedc8476af66c6846d41b0a4e9c810c8203cc08ac6a1a4c37aea81b493db", func := "pianola/pianolalaw06.LevelGains", spec := "levelGains", unfollowed := true, recurses := true, apart := false, narrowed := true }
def LevelGainsUptoSaid : Prop := levelGainsUptoRow.holds Try.pinned (OpenSpec.upto levelGainsSpec)

/-- 'pianolalaw06.LevelPlayers', WHERE WHAT IT READS IS OF BULK AT MOST 1048576: true; the input reads as it did. -/
def levelPlayersUptoRow : OpenClaim := { program := "ytjncoableanmpaa", sum := "0a70cedc8476af66c6846d41b0a4e9c810c8203cc08ac6a1a4c37aea81b493db", func := "pianola/pianolalaw06.LevelPlayers", spec := "levelPlayers", unfollowed := true, recurses := true, apart := false, narrowed := true }
def LevelPlayersUptoSaid : Prop := levelPlayersUptoRow.holds Try.pinned (OpenSpec.upto levelPlayersSpec)

/-- 'pianolalaw06.LevelKnown', WHERE WHAT IT READS IS OF BULK AT MOST 1048576: true; the input reads as it did. -/
def levelKnownUptoRow : OpenClaim := { program := "ytjncoableanmpaa", sum := "0a70cedc8476af66c6846d41b0a4e9c810c8203cc08ac6a1a4c37aea81b493db", func := "pianola/pianolalaw06.LevelKnown", spec := "levelKnown", unfollowed := true, recurses := true, apart := false, narrowed := true }
def LevelKnownUptoSaid : Prop := levelKnownUptoRow.holds Try.pinned (OpenSpec.upto levelKnownSpec)

end Rows
end Go.Proofs.Ytjncoableanmpaa
