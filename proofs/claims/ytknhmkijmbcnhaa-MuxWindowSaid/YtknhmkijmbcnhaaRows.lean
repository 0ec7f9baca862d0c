/-
  No cell of these rows narrows 'for every input' (looked for: loops, veiled, ifaces, maps, wideKeys, modest, calm, conditions, laid).
  DERIVED. THE GIVEN ROWS OF THIS SEAT. 6 by the template 'for every input the law returns true; each argument reads behind the call as it read before'; 0 by the template 'total and deterministic' (their statements: YtknhmkijmbcnhaaTotals.lean).
  GIVEN WITH THE SEED: the statements are not yours to turn. If you find one false, say at which input.
  Laid BY PROGRAM, IN A SANDBOX (cutbox-rows.mjs): the forced cells as the released guide's own fill.sh prints them over the translation b6f0f8dfcb1dd71e… (all of the seat's roots in one cut). By AI agents, Wed Nov 11 2026. No macro, syntax, notation, axiom, sorry.
-/
import Derived.Test.YtknhmkijmbcnhaaChecked
import GoSem.Claim
import GoSem.ClaimJoined
import GoSem.ClaimMapViews
import Derived.JoinedTies
import Derived.KernelRfl
namespace Go.Proofs.Ytknhmkijmbcnhaa
/- THE CELL 'sum', in the pinned program and in every row, IS THE sha256 OF THE DUMP (.gsa) THAT YtknhmkijmbcnhaaProg.lean LOADS. Nothing in Lean hashes anything: it is a label: what it is worth is what the hold of that sum in a sandbox is worth. -/
noncomputable def Try.pinned : Pinned := { name := "ytknhmkijmbcnhaa", sum := "b6f0f8dfcb1dd71e39fb22854564a74fdea47d472d1243bad24cbf39879af604", checked := Try.checked }
namespace Rows
def none {H : Type} : Left H := { results := [], args := [] }

/-- 'patchbaykeep4.MuxPieces': WHATEVER THE INPUT: true; the input reads as it did. -/
def muxPiecesSpec : ChangeSpec := { name := "muxPieces", fn := fun _ => fun
  | [d1, d2, d3] => { results := [.lit (.bool true)], args := [d1, d2, d3] }
  | _ => none }
def muxPiecesRow : OpenClaim := { program := "ytknhmkijmbcnhaa", sum := "b6f0f8dfcb1dd71e39fb22854564a74fdea47d472d1243bad24cbf39879af604", func := "patchbay/patchbaykeep4.MuxPieces", spec := "muxPieces", inPlace := ["slices.overlaps[*patchbay/mux.stream]"], unfollowed := true, recurses := true, apart := false }
def MuxPiecesSaid : Prop := muxPiecesRow.holds Try.pinned (OpenSpec.ofChange muxPiecesSpec)

/-- ITS FALSE NEIGHBOUR: 'it returns false'. Refute it at one input. -/
def muxPiecesWrong : ChangeSpec := { name := "muxPieces", fn := fun _ => fun
  | [d1, d2, d3] => { results := [.lit (.bool false)], args := [d1, d2, d3] }
  | _ => none }
def MuxPiecesWrongFalsely : Prop := muxPiecesRow.holds Try.pinned (OpenSpec.ofChange muxPiecesWrong)

/-- 'patchbaykeep4.MuxJunk': WHATEVER THE INPUT: true; the input reads as it did. -/
def muxJunkSpec : ChangeSpec := { name := "muxJunk", fn := fun _ => fun
  | [d] => { results := [.lit (.bool true)], args := [d] }
  | _ => none }
def muxJunkRow : OpenClaim := { program := "ytknhmkijmbcnhaa", sum := "b6f0f8dfcb1dd71e39fb22854564a74fdea47d472d1243bad24cbf39879af604", func := "patchbay/patchbaykeep4.MuxJunk", spec := "muxJunk", inPlace := ["slices.overlaps[*patchbay/mux.stream]"], unfollowed := true, recurses := true, apart := false }
def MuxJunkSaid : Prop := muxJunkRow.holds Try.pinned (OpenSpec.ofChange muxJunkSpec)

/-- ITS FALSE NEIGHBOUR: 'it returns false'. Refute it at one input. -/
def muxJunkWrong : ChangeSpec := { name := "muxJunk", fn := fun _ => fun
  | [d] => { results := [.lit (.bool false)], args := [d] }
  | _ => none }
def MuxJunkWrongFalsely : Prop := muxJunkRow.holds Try.pinned (OpenSpec.ofChange muxJunkWrong)

/-- 'patchbaykeep4.MuxTurns': WHATEVER THE INPUT: true; the input reads as it did. -/
def muxTurnsSpec : ChangeSpec := { name := "muxTurns", fn := fun _ => fun
  | [d1, d2] => { results := [.lit (.bool true)], args := [d1, d2] }
  | _ => none }
def muxTurnsRow : OpenClaim := { program := "ytknhmkijmbcnhaa", sum := "b6f0f8dfcb1dd71e39fb22854564a74fdea47d472d1243bad24cbf39879af604", func := "patchbay/patchbaykeep4.MuxTurns", spec := "muxTurns", inPlace := ["slices.overlaps[*patchbay/mux.stream]"], unfollowed := true, recurses := true, apart := false }
def MuxTurnsSaid : Prop := muxTurnsRow.holds Try.pinned (OpenSpec.ofChange muxTurnsSpec)

/-- ITS FALSE NEIGHBOUR: 'it returns false'. Refute it at one input. -/
def muxTurnsWrong : ChangeSpec := { name := "muxTurns", fn := fun _ => fun
  | [d1, d2] => { results := [.lit (.bool false)], args := [d1, d2] }
  | _ => none }
def MuxTurnsWrongFalsely : Prop := muxTurnsRow.holds Try.pinned (OpenSpec.ofChange muxTurnsWrong)

/-- 'patchbaykeep4.MuxBack': WHATEVER THE INPUT: true; the input reads as it did. -/
def muxBackSpec : ChangeSpec := { name := "muxBack", fn := fun _ => fun
  | [d1, d2, d3] => { results := [.lit (.bool true)], args := [d1, d2, d3] }
  | _ => none }
def muxBackRow : OpenClaim := { program := "ytknhmkijmbcnhaa", sum := "b6f0f8dfcb1dd71e39fb22854564a74fdea47d472d1243bad24cbf39879af604", func := "patchbay/patchbaykeep4.MuxBack", spec := "muxBack", inPlace := ["slices.overlaps[*patchbay/mux.stream]"], unfollowed := true, recurses := true, apart := false }
def MuxBackSaid : Prop := muxBackRow.holds Try.pinned (OpenSpec.ofChange muxBackSpec)

/-- ITS FALSE NEIGHBOUR: 'it returns false'. Refute it at one input. -/
def muxBackWrong : ChangeSpec := { name := "muxBack", fn := fun _ => fun
  | [d1, d2, d3] => { results := [.lit (.bool false)], args := [d1, d2, d3] }
  | _ => none }
def MuxBackWrongFalsely : Prop := muxBackRow.holds Try.pinned (OpenSpec.ofChange muxBackWrong)

/-- 'patchbaykeep4.MuxReset': WHATEVER THE INPUT: true; the input reads as it did. -/
def muxResetSpec : ChangeSpec := { name := "muxReset", fn := fun _ => fun
  | [d1, d2, d3] => { results := [.lit (.bool true)], args := [d1, d2, d3] }
  | _ => none }
def muxResetRow : OpenClaim := { program := "ytknhmkijmbcnhaa", sum := "b6f0f8dfcb1dd71e39fb22854564a74fdea47d472d1243bad24cbf39879af604", func := "patchbay/patchbaykeep4.MuxReset", spec := "muxReset", inPlace := ["slices.overlaps[*patchbay/mux.stream]"], unfollowed := true, recurses := true, apart := false }
def MuxResetSaid : Prop := muxResetRow.holds Try.pinned (OpenSpec.ofChange muxResetSpec)

/-- ITS FALSE NEIGHBOUR: 'it returns false'. Refute it at one input. -/
def muxResetWrong : ChangeSpec := { name := "muxReset", fn := fun _ => fun
  | [d1, d2, d3] => { results := [.lit (.bool false)], args := [d1, d2, d3] }
  | _ => none }
def MuxResetWrongFalsely : Prop := muxResetRow.holds Try.pinned (OpenSpec.ofChange muxResetWrong)

/-- 'patchbaykeep4.MuxWindow': WHATEVER THE INPUT: true; the input reads as it did. -/
def muxWindowSpec : ChangeSpec := { name := "muxWindow", fn := fun _ => fun
  | [d1, d2, d3] => { results := [.lit (.bool true)], args := [d1, d2, d3] }
  | _ => none }
def muxWindowRow : OpenClaim := { program := "ytknhmkijmbcnhaa", sum := "b6f0f8dfcb1dd71e39fb22854564a74fdea47d472d1243bad24cbf39879af604", func := "patchbay/patchbaykeep4.MuxWindow", spec := "muxWindow", inPlace := ["slices.overlaps[*patchbay/mux.stream]", "internal/abi.NoEscape", "internal/bytealg.MakeNoZero"], unfollowed := true, recurses := true, apart := false }
def MuxWindowSaid : Prop := muxWindowRow.holds Try.pinned (OpenSpec.ofChange muxWindowSpec)

/-- ITS FALSE NEIGHBOUR: 'it returns false'. Refute it at one input. -/
def muxWindowWrong : ChangeSpec := { name := "muxWindow", fn := fun _ => fun
  | [d1, d2, d3] => { results := [.lit (.bool false)], args := [d1, d2, d3] }
  | _ => none }
def MuxWindowWrongFalsely : Prop := muxWindowRow.holds Try.pinned (OpenSpec.ofChange muxWindowWrong)

/- THE SECOND FORM. 'bulk': how many values and letters a reading holds, each counted each time it is reached (what is shared counts as often as it is met; a slice's spare places count too). A statement '..UptoSaid' is the law's where the arguments, and the package variables that the reading takes, are together of bulk at most 1048576: NARROWER than '..Said'. Prove '..Said' where nothing that the law and all that it calls make is longer than what came in: it says more and counts as full. Else prove '..UptoSaid'. A law counts once. -/
mutual
def uptoBulk {H : Type} : DataW H → Nat
  | .lit (.string bytes) => bytes.length + 1
  | .lit _ => 1
  | .nil => 1
  | .ptr d => uptoBulk d + 1
  | .slice elems spare => uptoBulkAll elems + uptoBulkAll spare + 1
  | .agg parts => uptoBulkAll parts + 1
  | .iface _ d => uptoBulk d + 1
  | .map entries => uptoBulkEntries entries + 1
  | .held _ => 1
def uptoBulkAll {H : Type} : List (DataW H) → Nat
  | [] => 0
  | d :: r => uptoBulk d + uptoBulkAll r
def uptoBulkEntries {H : Type} : List (Lit × DataW H) → Nat
  | [] => 0
  | x :: r => uptoBulkEntry x + uptoBulkEntries r
def uptoBulkEntry {H : Type} : Lit × DataW H → Nat
  | (.string bytes, d) => bytes.length + uptoBulk d + 1
  | (_, d) => uptoBulk d + 1
 end
def uptoSmall : (H : Type) → List (DataW H) → Bool := fun _ ds => decide (uptoBulkAll ds ≤ 1048576)
def OpenSpec.upto (s : _root_.Go.ChangeSpec) : _root_.Go.OpenSpec := { _root_.Go.OpenSpec.ofChange s with cond := some uptoSmall }

/-- 'patchbaykeep4.MuxPieces', WHERE WHAT IT READS IS OF BULK AT MOST 1048576: true; the input reads as it did. -/
def muxPiecesUptoRow : OpenClaim := { program := "ytknhmkijmbcnhaa", sum := "b6f0f8dfcb1dd71e39fb22854564a74fdea47d472d1243bad24cbf39879af604", func := "patchbay/patchbaykeep4.MuxPieces", spec := "muxPieces", inPlace := ["slices.overlaps[*patchbay/mux.stream]"], unfollowed := true, recurses := true, apart := false, narrowed := true }
def MuxPiecesUptoSaid : Prop := muxPiecesUptoRow.holds Try.pinned (OpenSpec.upto muxPiecesSpec)

/-- 'patchbaykeep4.MuxJunk', WHERE WHAT IT READS IS OF BULK AT MOST 1048576: true; the input reads as it did. -/
def muxJunkUptoRow : OpenClaim := { program := "ytknhmkijmbcnhaa", sum := "b6f0f8dfcb1dd71e39fb22854564a74fdea47d472d1243bad24cbf39879af604", func := "patchbay/patchbaykeep4.MuxJunk", spec := "muxJunk", inPlace := ["slices.overlaps[*patchbay/mux.stream]"], unfollowed := true, recurses := true, apart := false, narrowed := true }
def MuxJunkUptoSaid : Prop := muxJunkUptoRow.holds Try.pinned (OpenSpec.upto muxJunkSpec)

/-- 'patchbaykeep4.MuxTurns', WHERE WHAT IT READS IS OF BULK AT MOST 1048576: true; the input reads as it did. -/
def muxTurnsUptoRow : OpenClaim := { program := "ytknhmkijmbcnhaa", sum := "b6f0f8dfcb1dd71e39fb22854564a74fdea47d472d1243bad24cbf39879af604", func := "patchbay/patchbaykeep4.MuxTurns", spec := "muxTurns", inPlace := ["slices.overlaps[*patchbay/mux.stream]"], unfollowed := true, recurses := true, apart := false, narrowed := true }
def MuxTurnsUptoSaid : Prop := muxTurnsUptoRow.holds Try.pinned (OpenSpec.upto muxTurnsSpec)

/-- 'patchbaykeep4.MuxBack', WHERE WHAT IT READS IS OF BULK AT MOST 1048576: true; the input reads as it did. -/
def muxBackUptoRow : OpenClaim := { program := "ytknhmkijmbcnhaa", sum := "b6f0f8dfcb1dd71e39fb22854564a74fdea47d472d1243bad24cbf39879af604", func := "patchbay/patchbaykeep4.MuxBack", spec := "muxBack", inPlace := ["slices.overlaps[*patchbay/mux.stream]"], unfollowed := true, recurses := true, apart := false, narrowed := true }
def MuxBackUptoSaid : Prop := muxBackUptoRow.holds Try.pinned (OpenSpec.upto muxBackSpec)

/-- 'patchbaykeep4.MuxReset', WHERE WHAT IT READS IS OF BULK AT MOST 1048576: true; the input reads as it did. -/
def muxResetUptoRow : OpenClaim := { program := "ytknhmkijmbcnhaa", sum := "b6f0f8dfcb1dd71e39fb22854564a74fdea47d472d1243bad24cbf39879af604", func := "patchbay/patchbaykeep4.MuxReset", spec := "muxReset", inPlace := ["slices.overlaps[*patchbay/mux.stream]"], unfollowed := true, recurses := true, apart := false, narrowed := true }
def MuxResetUptoSaid : Prop := muxResetUptoRow.holds Try.pinned (OpenSpec.upto muxResetSpec)

/-- 'patchbaykeep4.MuxWindow', WHERE WHAT IT READS IS OF BULK AT MOST 1048576: true; the input reads as it did. -/
def muxWindowUptoRow : OpenClaim := { program := "ytknhmkijmbcnhaa", sum := "b6f0f8dfcb1dd71e39fb22854564a74fdea47d472d1243bad24cbf39879af604", func := "patchbay/patchbaykeep4.MuxWindow", spec := "muxWindow", inPlace := ["slices.overlaps[*patchbay/mux.stream]", "internal/abi.NoEscape", "internal/bytealg.MakeNoZero"], unfollowed := true, recurses := true, apart := false, narrowed := true }
def MuxWindowUptoSaid : Prop := muxWindowUptoRow.holds Try.pinned (OpenSpec.upto muxWindowSpec)

end Rows
end Go.Proofs.Ytknhmkijmbcnhaa
