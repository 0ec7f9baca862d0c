/- PcRow1: PcapTorn: of a capture whose end is missing the complete records are recovered, for every input. Conditions: none. -/
import Derived.Test.YtgbhhkcppmikcaaRows
import Derived.Test.YtgbhhkcppmikcaaPc6
import Derived.Carry
set_option linter.unusedVariables false
set_option linter.unusedSimpArgs false
set_option maxRecDepth 100000
namespace Go.Abs
open Go.Proofs
theorem cells36 : Try.prog.cellsOf 36 = 5 := by kernel_rfl
theorem bytes36 : Try.prog.bytesOf 36 = 48 := by kernel_rfl
theorem cells3 : Try.prog.cellsOf 3 = 1 := by kernel_rfl
theorem cells4 : Try.prog.cellsOf 4 = 1 := by kernel_rfl
theorem cells9 : Try.prog.cellsOf 9 = 1 := by kernel_rfl
theorem flatS : flatTypes Try.prog [36, 3, 4, 9] = true := by kernel_rfl
theorem raw_inv (cs : List Value) (h : Flat Try.prog 36 cs) : ∃ x : Raw, cs = rawC x ∧ True := by
  obtain ⟨hl, hf⟩ := h.struct_inv und36
  rw [cells36] at hl
  match cs, hl with
  | [a, b, c, d, e], _ =>
    have f0 := hf 0 ⟨"Time", 3, 0, false, "", "", 0⟩ rfl
    have f1 := hf 1 ⟨"Node", 3, 1, false, "", "", 8⟩ rfl
    have f2 := hf 2 ⟨"Port", 3, 2, false, "", "", 16⟩ rfl
    have f3 := hf 3 ⟨"Out", 4, 3, false, "", "", 24⟩ rfl
    have f4 := hf 4 ⟨"Bytes", 9, 4, false, "", "", 32⟩ rfl
    simp only [cells3, cells4, cells9, List.drop_zero, List.drop_succ_cons, List.take_succ_cons, List.take_zero] at f0 f1 f2 f3 f4
    obtain ⟨n0, h0, _⟩ := f0.int_inv u_3
    obtain ⟨n1, h1, _⟩ := f1.int_inv u_3
    obtain ⟨n2, h2, _⟩ := f2.int_inv u_3
    obtain ⟨n3, h3⟩ := f3.bool_inv u_4
    obtain ⟨n4, h4, _⟩ := f4.str_inv u_9
    simp only [List.cons.injEq, and_true] at h0 h1 h2 h3 h4
    obtain ⟨l, rfl, _⟩ := str_of n4
    subst h0; subst h1; subst h2; subst h3; subst h4
    exact ⟨⟨n0, n1, n2, n3, l⟩, rfl, trivial⟩
theorem raw_pl (x : Raw) : (rawC x).all (plainV 1) = true := rfl
theorem cx_prim (B : Nat) : PrimOK cx B := fun _ _ h => by cases h
theorem cx_mixed : cx.P.follows .mixedOrders = true := by kernel_rfl
end Go.Abs
namespace Go.Proofs.Ytgbhhkcppmikcaa.pcapTorn
open Go.ChangeShapes Go.WideShapes Go.ChangeAt Go.RowKit Go.Abs
theorem own : ownKnob Try.prog.godebug = none := by kernel_rfl
theorem laidOut : laidOutB Try.prog = true := by kernel_rfl
theorem lifted (os : Os) (started : os.Started) (H : Type) (enc : TypeId × Value → H) :
    ReturnsInHanded {} Try.checked os 3 .any (Rows.pcapTornSpec.pre6 enc Try.prog Try.f3 Rows.pcapTornRow.domain false) (Rows.pcapTornSpec.post enc Try.prog Try.f3 false true false false) := by
  refine returnsInHanded_of_change_sized (C := Try.checked) own started (by kernel_rfl) Try.func3
    (ChangeSpec.witness6 (enc := enc) (C := Try.checked) false ⟨#[], #[.slice none 0 0, .int .i64 0], []⟩ 8 (by kernel_rfl) (by kernel_rfl) (by kernel_rfl) (by kernel_rfl)) ?_
  intro W base args ds gs before hval0 hW hcnd hsz0 _
  have hsz : (DataW.weightsEach Try.prog (Try.f3.params.toList ++ Rows.pcapTornSpec.plain.varTypes Try.prog) (ds ++ gs)).all (· ≤ reachBytes) = true := hsz0
  have hval : ∀ (j : Nat) t v, Try.f3.params[j]? = some t → args[j]? = some v → Value.okWide Try.prog W .any base t v := hval0
  have hW' := hW
  obtain ⟨p, q, hA0, hV, rfl, hfz, hnd⟩ := hW
  have hA : DataW.TrodAll enc Try.prog W 0 (fun _ => true) true Try.f3.params.toList args.toList ds p := hA0
  rw [Try.params3] at hA hval hsz
  obtain ⟨v0, vs0, d0, ds0, p0, q0, hargs, rfl, rfl, h0, r0⟩ := trodAll_cons hA
  obtain ⟨v1, vs1, d1, ds1, p1, q1, rfl, rfl, rfl, h1, r1⟩ := trodAll_cons r0
  obtain ⟨rfl, rfl, rfl⟩ := trodAll_nil r1
  obtain rfl : args = #[v0, v1] := by cases args; simp_all
  obtain ⟨rfl, rfl⟩ := trodVars_none hV
  have k1 := h1
  obtain ⟨a1, rfl, rfl, rfl, w1⟩ := open_int Try.underlying3 (hval 1 3 v1 rfl rfl) h1
  have ok0 : Cell.ok Try.prog W .any base 22 v0 := by
    have := hval 0 22 v0 rfl rfl
    simpa only [Value.okWide, u_22, Cell.okWide] using this
  have lt0 : ∀ x ∈ p0, x.block < W.heap.size := by obtain ⟨n, hn⟩ := h0; exact DataW.trod_lt n _ _ _ hn
  obtain ⟨E', k, va, l, _, hlaid, hvr, hsl, hbytes, _⟩ := (Laid.start (G := cx.G) (w := W) (B := W.heap.size) rfl (Nat.le_refl _)).slice (f := rawC) (ok := fun _ => True) flatS (by decide) u_22 (by rw [cells36]; decide) raw_inv raw_pl (fun x => by rw [cells36]; rfl) ok0 h0 (weightsEach_get hsz (i := 0) rfl rfl)
  rw [cells36] at hsl
  rw [bytes36] at hbytes
  obtain ⟨a, m, rfl, ham, hsa⟩ := hsl.split
  have hfw := torn_w l a1 hsa ham (by omega)
  refine (law_calls cx cx_mixed (cx_prim _) (f := 3) rfl hfw hlaid (LR.cons hvr (LR.cons (.int _ _) (LR.nil _)))).mono fun e W' ⟨he, bel⟩ => ?_
  subst he
  exact ⟨_, rfl, _, _, _, [], _, [], hW', trodAll_mk1 (shut_bool Try.underlying4 _), trodAll_cons_mk (Below.trod laidOut (by kernel_rfl) (of_decide_eq_true (by kernel_rfl)) h0 bel lt0) (trodAll_cons_mk (shut_int Try.underlying3 w1) trodAll_mk0), rfl, bel.frame _, fun h => by cases h⟩
theorem over : Rows.pcapTornRow.holds Try.pinned (OpenSpec.ofChange Rows.pcapTornSpec) :=
  OpenClaim.holds_of_wide 3 Try.f3 rfl rfl rfl rfl rfl rfl rfl ⟨rfl, rfl, rfl, rfl, rfl⟩ rfl rfl rfl rfl rfl (by kernel_rfl) Try.func3 (by kernel_rfl)
    (of_decide_eq_true (by kernel_rfl)) (by unfold Func.isWrapper; first | (rw [if_pos (by decide +kernel)]; kernel_rfl) | (rw [if_neg (by decide +kernel)]; exact ⟨rfl, rfl⟩))
    (fun os started H enc _ => lifted os started H enc)
theorem proved : Rows.PcapTornSaid := over
end Go.Proofs.Ytgbhhkcppmikcaa.pcapTorn
namespace Go.Proofs.Ytgbhhkcppmikcaa
/-- The law, under a short name. -/
theorem pcapTorn_holds : Rows.PcapTornSaid := pcapTorn.proved
#print axioms pcapTorn_holds
end Go.Proofs.Ytgbhhkcppmikcaa
