/-
  No cell of these rows narrows 'for every input' (looked for: loops, veiled, ifaces, maps, wideKeys, modest, calm, conditions, laid).
  DERIVED. THE GIVEN ROWS OF THIS SEAT. 4 by the template 'for every input the law returns true; each argument reads behind the call as it read before'; 0 by the template 'total and deterministic' (their statements: YtgbhhkcppmikcaaTotals.lean).
  GIVEN WITH THE SEED: the statements are not yours to turn. If you find one false, say at which input.
  Laid BY PROGRAM, IN A SANDBOX (cutbox-rows.mjs): the forced cells as the released guide's own fill.sh prints them over the translation 33c06b8971a834c3… (all of the seat's roots in one cut). By AI agents, Wed Nov 11 2026. No macro, syntax, notation, axiom, sorry.
-/
import Derived.Test.YtgbhhkcppmikcaaChecked
import GoSem.Claim
import GoSem.ClaimJoined
import GoSem.ClaimMapViews
import Derived.JoinedTies
import Derived.KernelRfl
namespace Go.Proofs.Ytgbhhkcppmikcaa
/- THE CELL 'sum', in the pinned program and in every row, IS THE sha256 OF THE DUMP (.gsa) THAT YtgbhhkcppmikcaaProg.lean LOADS. Nothing in Lean hashes anything: it is a label: what it is worth is what the hold of that sum in a sandbox is worth. -/
noncomputable def Try.pinned : Pinned := { name := "ytgbhhkcppmikcaa", sum := "33c06b8971a834c32b3a5ee739a8d84b221293fba5a9cab3b5552559cfaa3999", checked := Try.checked }
namespace Rows
def none {H : Type} : Left H := { results := [], args := [] }

/-- 'patchbaykeep4.PcapTorn': WHATEVER THE INPUT: true; the input reads as it did. -/
def pcapTornSpec : ChangeSpec := { name := "pcapTorn", fn := fun _ => fun
  | [d1, d2] => { results := [.lit (.bool true)], args := [d1, d2] }
  | _ => none }
def pcapTornRow : OpenClaim := { program := "ytgbhhkcppmikcaa", sum := "33c06b8971a834c32b3a5ee739a8d84b221293fba5a9cab3b5552559cfaa3999", func := "patchbay/patchbaykeep4.PcapTorn", spec := "pcapTorn", apart := false }
def PcapTornSaid : Prop := pcapTornRow.holds Try.pinned (OpenSpec.ofChange pcapTornSpec)

/-- ITS FALSE NEIGHBOUR: 'it returns false'. Refute it at one input. -/
def pcapTornWrong : ChangeSpec := { name := "pcapTorn", fn := fun _ => fun
  | [d1, d2] => { results := [.lit (.bool false)], args := [d1, d2] }
  | _ => none }
def PcapTornWrongFalsely : Prop := pcapTornRow.holds Try.pinned (OpenSpec.ofChange pcapTornWrong)

/-- 'patchbaykeep4.PcapBack': WHATEVER THE INPUT: true; the input reads as it did. -/
def pcapBackSpec : ChangeSpec := { name := "pcapBack", fn := fun _ => fun
  | [d] => { results := [.lit (.bool true)], args := [d] }
  | _ => none }
def pcapBackRow : OpenClaim := { program := "ytgbhhkcppmikcaa", sum := "33c06b8971a834c32b3a5ee739a8d84b221293fba5a9cab3b5552559cfaa3999", func := "patchbay/patchbaykeep4.PcapBack", spec := "pcapBack", apart := false }
def PcapBackSaid : Prop := pcapBackRow.holds Try.pinned (OpenSpec.ofChange pcapBackSpec)

/-- ITS FALSE NEIGHBOUR: 'it returns false'. Refute it at one input. -/
def pcapBackWrong : ChangeSpec := { name := "pcapBack", fn := fun _ => fun
  | [d] => { results := [.lit (.bool false)], args := [d] }
  | _ => none }
def PcapBackWrongFalsely : Prop := pcapBackRow.holds Try.pinned (OpenSpec.ofChange pcapBackWrong)

/-- 'patchbaykeep4.PcapSpoilt': WHATEVER THE INPUT: true; the input reads as it did. -/
def pcapSpoiltSpec : ChangeSpec := { name := "pcapSpoilt", fn := fun _ => fun
  | [d1, d2, d3, d4] => { results := [.lit (.bool true)], args := [d1, d2, d3, d4] }
  | _ => none }
def pcapSpoiltRow : OpenClaim := { program := "ytgbhhkcppmikcaa", sum := "33c06b8971a834c32b3a5ee739a8d84b221293fba5a9cab3b5552559cfaa3999", func := "patchbay/patchbaykeep4.PcapSpoilt", spec := "pcapSpoilt", apart := false }
def PcapSpoiltSaid : Prop := pcapSpoiltRow.holds Try.pinned (OpenSpec.ofChange pcapSpoiltSpec)

/-- ITS FALSE NEIGHBOUR: 'it returns false'. Refute it at one input. -/
def pcapSpoiltWrong : ChangeSpec := { name := "pcapSpoilt", fn := fun _ => fun
  | [d1, d2, d3, d4] => { results := [.lit (.bool false)], args := [d1, d2, d3, d4] }
  | _ => none }
def PcapSpoiltWrongFalsely : Prop := pcapSpoiltRow.holds Try.pinned (OpenSpec.ofChange pcapSpoiltWrong)

/-- 'patchbaykeep4.PcapMerged': WHATEVER THE INPUT: true; the input reads as it did. -/
def pcapMergedSpec : ChangeSpec := { name := "pcapMerged", fn := fun _ => fun
  | [d1, d2] => { results := [.lit (.bool true)], args := [d1, d2] }
  | _ => none }
def pcapMergedRow : OpenClaim := { program := "ytgbhhkcppmikcaa", sum := "33c06b8971a834c32b3a5ee739a8d84b221293fba5a9cab3b5552559cfaa3999", func := "patchbay/patchbaykeep4.PcapMerged", spec := "pcapMerged", unfollowed := true, recurses := true, apart := false }
def PcapMergedSaid : Prop := pcapMergedRow.holds Try.pinned (OpenSpec.ofChange pcapMergedSpec)

/-- ITS FALSE NEIGHBOUR: 'it returns false'. Refute it at one input. -/
def pcapMergedWrong : ChangeSpec := { name := "pcapMerged", fn := fun _ => fun
  | [d1, d2] => { results := [.lit (.bool false)], args := [d1, d2] }
  | _ => none }
def PcapMergedWrongFalsely : Prop := pcapMergedRow.holds Try.pinned (OpenSpec.ofChange pcapMergedWrong)

/- THE SECOND FORM. 'bulk': how many values and letters a reading holds, each counted each time it is reached (what is shared counts as often as it is met; a slice's spare places count too). A statement '..UptoSaid' is the law's where the arguments, and the package variables that the reading takes, are together of bulk at most 1048576: NARROWER than '..Said'. Prove '..Said' where nothing that the law and all that it calls make is longer than what came in: it says more and counts as full. Else prove '..UptoSaid'. A law counts once. -/
mutual
def uptoBulk {H : Type} : DataW H → Nat
  | .lit (.string bytes) => bytes.length + 1
  | .lit _ => 1
  | .nil => 1
  | .ptr d => uptoBulk d + 1
  | .slice elems spare => uptoBulkAll elems + uptoBulkAll spare + 1
  | .agg parts => uptoBulkAll parts + 1
  | .iface _ d => uptoBulk d + 1
  | .map entries => uptoBulkEntries entries + 1
  | .held _ => 1
def uptoBulkAll {H : Type} : List (DataW H) → Nat
  | [] => 0
  | d :: r => uptoBulk d + uptoBulkAll r
def uptoBulkEntries {H : Type} : List (Lit × DataW H) → Nat
  | [] => 0
  | x :: r => uptoBulkEntry x + uptoBulkEntries r
def uptoBulkEntry {H : Type} : Lit × DataW H → Nat
  | (.string bytes, d) => bytes.length + uptoBulk d + 1
  | (_, d) => uptoBulk d + 1
 end
def uptoSmall : (H : Type) → List (DataW H) → Bool := fun _ ds => decide (uptoBulkAll ds ≤ 1048576)
def OpenSpec.upto (s : _root_.Go.ChangeSpec) : _root_.Go.OpenSpec := { _root_.Go.OpenSpec.ofChange s with cond := some uptoSmall }

/-- 'patchbaykeep4.PcapTorn', WHERE WHAT IT READS IS OF BULK AT MOST 1048576: true; the input reads as it did. -/
def pcapTornUptoRow : OpenClaim := { program := "ytgbhhkcppmikcaa", sum := "33c06b8971a834c32b3a5ee739a8d84b221293fba5a9cab3b5552559cfaa3999", func := "patchbay/patchbaykeep4.PcapTorn", spec := "pcapTorn", apart := false, narrowed := true }
def PcapTornUptoSaid : Prop := pcapTornUptoRow.holds Try.pinned (OpenSpec.upto pcapTornSpec)

/-- 'patchbaykeep4.PcapBack', WHERE WHAT IT READS IS OF BULK AT MOST 1048576: true; the input reads as it did. -/
def pcapBackUptoRow : OpenClaim := { program := "ytgbhhkcppmikcaa", sum := "33c06b8971a834c32b3a5ee739a8d84b221293fba5a9cab3b5552559cfaa3999", func := "patchbay/patchbaykeep4.PcapBack", spec := "pcapBack", apart := false, narrowed := true }
def PcapBackUptoSaid : Prop := pcapBackUptoRow.holds Try.pinned (OpenSpec.upto pcapBackSpec)

/-- 'patchbaykeep4.PcapSpoilt', WHERE WHAT IT READS IS OF BULK AT MOST 1048576: true; the input reads as it did. -/
def pcapSpoiltUptoRow : OpenClaim := { program := "ytgbhhkcppmikcaa", sum := "33c06b8971a834c32b3a5ee739a8d84b221293fba5a9cab3b5552559cfaa3999", func := "patchbay/patchbaykeep4.PcapSpoilt", spec := "pcapSpoilt", apart := false, narrowed := true }
def PcapSpoiltUptoSaid : Prop := pcapSpoiltUptoRow.holds Try.pinned (OpenSpec.upto pcapSpoiltSpec)

/-- 'patchbaykeep4.PcapMerged', WHERE WHAT IT READS IS OF BULK AT MOST 1048576: true; the input reads as it did. -/
def pcapMergedUptoRow : OpenClaim := { program := "ytgbhhkcppmikcaa", sum := "33c06b8971a834c32b3a5ee739a8d84b221293fba5a9cab3b5552559cfaa3999", func := "patchbay/patchbaykeep4.PcapMerged", spec := "pcapMerged", unfollowed := true, recurses := true, apart := false, narrowed := true }
def PcapMergedUptoSaid : Prop := pcapMergedUptoRow.holds Try.pinned (OpenSpec.upto pcapMergedSpec)

end Rows
end Go.Proofs.Ytgbhhkcppmikcaa
