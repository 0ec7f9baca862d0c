/- MxRow0: facts that the rows of the multiplexer's laws share. Conditions: none. -/
import Derived.Test.YtknhmkijmbcnhaaRows
import Derived.Test.YtknhmkijmbcnhaaMx6
set_option linter.unusedVariables false
set_option linter.unusedSimpArgs false
set_option maxRecDepth 100000
namespace Go.Abs
open Go.Proofs
theorem cells3 : Try.prog.cellsOf 3 = 1 := by kernel_rfl
theorem bytes3 : Try.prog.bytesOf 3 = 8 := by kernel_rfl
theorem cells9 : Try.prog.cellsOf 9 = 1 := by kernel_rfl
theorem bytes9 : Try.prog.bytesOf 9 = 16 := by kernel_rfl
theorem flat9 : flatTypes Try.prog [9] = true := by kernel_rfl
theorem flat3 : flatTypes Try.prog [3] = true := by kernel_rfl
theorem strE_inv (cs : List Value) (h : Flat Try.prog 9 cs) : ∃ x : List UInt8, cs = strE x ∧ x.length ≤ 140737488351232 := by
  obtain ⟨s, rfl, hs⟩ := h.str_inv u_9
  obtain ⟨l, rfl, hl⟩ := str_of s
  exact ⟨l, rfl, by rw [hl]; exact hs⟩
theorem strE_pl (x : List UInt8) : (strE x).all (plainV 1) = true := rfl
theorem intE_inv (cs : List Value) (h : Flat Try.prog 3 cs) : ∃ x : Int, cs = intE x ∧ True := by
  obtain ⟨n, rfl, _⟩ := h.int_inv u_3
  exact ⟨n, rfl, trivial⟩
theorem intE_pl (x : Int) : (intE x).all (plainV 1) = true := rfl
theorem cx_prim (B : Nat) : PrimOK cx B := fun _ _ h => by cases h
theorem cx_mixed : cx.P.follows .mixedOrders = true := by kernel_rfl
end Go.Abs
