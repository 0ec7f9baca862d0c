/- PcRow0: facts that the rows of the captures' laws share. Conditions: none. -/
import Derived.Test.YtgbhhkcppmikcaaRows
import Derived.Test.YtgbhhkcppmikcaaPc6
set_option linter.unusedVariables false
set_option linter.unusedSimpArgs false
set_option maxRecDepth 100000
namespace Go.Abs
open Go.Proofs
theorem cells36 : Try.prog.cellsOf 36 = 5 := by kernel_rfl
theorem bytes36 : Try.prog.bytesOf 36 = 48 := by kernel_rfl
theorem cells3 : Try.prog.cellsOf 3 = 1 := by kernel_rfl
theorem cells4 : Try.prog.cellsOf 4 = 1 := by kernel_rfl
theorem cells9 : Try.prog.cellsOf 9 = 1 := by kernel_rfl
theorem flatS : flatTypes Try.prog [36, 3, 4, 9] = true := by kernel_rfl
theorem raw_inv (cs : List Value) (h : Flat Try.prog 36 cs) : ∃ x : Raw, cs = rawC x ∧ True := by
  obtain ⟨hl, hf⟩ := h.struct_inv und36
  rw [cells36] at hl
  match cs, hl with
  | [a, b, c, d, e], _ =>
    have f0 := hf 0 ⟨"Time", 3, 0, false, "", "", 0⟩ rfl
    have f1 := hf 1 ⟨"Node", 3, 1, false, "", "", 8⟩ rfl
    have f2 := hf 2 ⟨"Port", 3, 2, false, "", "", 16⟩ rfl
    have f3 := hf 3 ⟨"Out", 4, 3, false, "", "", 24⟩ rfl
    have f4 := hf 4 ⟨"Bytes", 9, 4, false, "", "", 32⟩ rfl
    simp only [cells3, cells4, cells9, List.drop_zero, List.drop_succ_cons, List.take_succ_cons, List.take_zero] at f0 f1 f2 f3 f4
    obtain ⟨n0, h0, _⟩ := f0.int_inv u_3
    obtain ⟨n1, h1, _⟩ := f1.int_inv u_3
    obtain ⟨n2, h2, _⟩ := f2.int_inv u_3
    obtain ⟨n3, h3⟩ := f3.bool_inv u_4
    obtain ⟨n4, h4, _⟩ := f4.str_inv u_9
    simp only [List.cons.injEq, and_true] at h0 h1 h2 h3 h4
    obtain ⟨l, rfl, _⟩ := str_of n4
    subst h0; subst h1; subst h2; subst h3; subst h4
    exact ⟨⟨n0, n1, n2, n3, l⟩, rfl, trivial⟩
theorem raw_pl (x : Raw) : (rawC x).all (plainV 1) = true := rfl
theorem cx_prim (B : Nat) : PrimOK cx B := fun _ _ h => by cases h
theorem cx_mixed : cx.P.follows .mixedOrders = true := by kernel_rfl
end Go.Abs
