/- PcRow3: PcapSpoilt: if a byte of a record was changed, except its length, exactly the records before it are recovered, for every input. Conditions: none. -/
import Derived.Test.YtgbhhkcppmikcaaPcRow0
import Derived.Test.YtgbhhkcppmikcaaPc9
import Derived.Carry
set_option linter.unusedSimpArgs false
set_option maxRecDepth 100000
set_option linter.unusedVariables false
namespace Go.Proofs.Ytgbhhkcppmikcaa.pcapSpoilt
open Go.ChangeShapes Go.WideShapes Go.ChangeAt Go.RowKit Go.Abs
open Go.ChangeMaps (open_string shut_string)
theorem own : ownKnob Try.prog.godebug = none := by kernel_rfl
theorem laidOut : laidOutB Try.prog = true := by kernel_rfl
theorem lifted (os : Os) (started : os.Started) (H : Type) (enc : TypeId × Value → H) :
    ReturnsInHanded {} Try.checked os 5 .any (Rows.pcapSpoiltSpec.pre6 enc Try.prog Try.f5 Rows.pcapSpoiltRow.domain false) (Rows.pcapSpoiltSpec.post enc Try.prog Try.f5 false true false false) := by
  refine returnsInHanded_of_change_sized (C := Try.checked) own started (by kernel_rfl) Try.func5
    (ChangeSpec.witness6 (enc := enc) (C := Try.checked) false ⟨#[], #[.slice none 0 0, .int .i64 0, .int .i64 0, .int .i64 0], []⟩ 8 (by kernel_rfl) (by kernel_rfl) (by kernel_rfl) (by kernel_rfl)) ?_
  intro W base args ds gs before hval0 hW hcnd hsz0 _
  have hsz : (DataW.weightsEach Try.prog (Try.f5.params.toList ++ Rows.pcapSpoiltSpec.plain.varTypes Try.prog) (ds ++ gs)).all (· ≤ reachBytes) = true := hsz0
  have hval : ∀ (j : Nat) t v, Try.f5.params[j]? = some t → args[j]? = some v → Value.okWide Try.prog W .any base t v := hval0
  have hW' := hW
  obtain ⟨p, q, hA0, hV, rfl, hfz, hnd⟩ := hW
  have hA : DataW.TrodAll enc Try.prog W 0 (fun _ => true) true Try.f5.params.toList args.toList ds p := hA0
  rw [Try.params5] at hA hval hsz
  obtain ⟨v0, vs0, d0, ds0, p0, q0, hargs, rfl, rfl, t0, r0⟩ := trodAll_cons hA
  obtain ⟨v1, vs1, d1, ds1, p1, q1, rfl, rfl, rfl, t1, r1⟩ := trodAll_cons r0
  obtain ⟨v2, vs2, d2, ds2, p2, q2, rfl, rfl, rfl, t2, r2⟩ := trodAll_cons r1
  obtain ⟨v3, vs3, d3, ds3, p3, q3, rfl, rfl, rfl, t3, r3⟩ := trodAll_cons r2
  obtain ⟨rfl, rfl, rfl⟩ := trodAll_nil r3
  obtain rfl : args = #[v0, v1, v2, v3] := by cases args; simp_all
  obtain ⟨rfl, rfl⟩ := trodVars_none hV
  have laid0 := Laid.start (G := cx.G) (w := W) (B := W.heap.size) rfl (Nat.le_refl _)
  have lt0 : ∀ x ∈ p0, x.block < W.heap.size := by obtain ⟨n, hn⟩ := t0; exact DataW.trod_lt n _ _ _ hn
  have tt0 := t0
  have ok0 : Cell.ok Try.prog W .any base 22 v0 := by have := hval 0 22 v0 rfl rfl; simpa only [Value.okWide, u_22, Cell.okWide] using this
  obtain ⟨E0, g0, va0, l0, le0, laid1, vr0, sl0, by0, oks0⟩ := laid0.slice (f := rawC) (ok := (fun _ => True)) flatS (by decide) u_22 (by rw [cells36]; decide) raw_inv raw_pl (fun x => by rw [cells36]; rfl) ok0 t0 (weightsEach_get hsz (i := 0) rfl rfl)
  rw [cells36] at sl0
  rw [bytes36] at by0
  obtain ⟨a0, m0, rfl, am0, sa0⟩ := sl0.split
  have lt1 : ∀ x ∈ p1, x.block < W.heap.size := by obtain ⟨n, hn⟩ := t1; exact DataW.trod_lt n _ _ _ hn
  have tt1 := t1
  obtain ⟨z1, rfl, rfl, rfl, w1⟩ := open_int Try.underlying3 (hval 1 3 v1 rfl rfl) tt1
  have lt2 : ∀ x ∈ p2, x.block < W.heap.size := by obtain ⟨n, hn⟩ := t2; exact DataW.trod_lt n _ _ _ hn
  have tt2 := t2
  obtain ⟨z2, rfl, rfl, rfl, w2⟩ := open_int Try.underlying3 (hval 2 3 v2 rfl rfl) tt2
  have lt3 : ∀ x ∈ p3, x.block < W.heap.size := by obtain ⟨n, hn⟩ := t3; exact DataW.trod_lt n _ _ _ hn
  have tt3 := t3
  obtain ⟨z3, rfl, rfl, rfl, w3⟩ := open_int Try.underlying3 (hval 3 3 v3 rfl rfl) tt3
  have hfw := spoilt_w l0 z1 z2 z3 sa0 am0 (by omega)
  refine (law_calls cx cx_mixed (cx_prim _) (f := 5) rfl hfw laid1 (LR.cons vr0 (LR.cons (.int _ _) (LR.cons (.int _ _) (LR.cons (.int _ _) (LR.nil _)))))).mono fun e W' ⟨he, bel⟩ => ?_
  subst he
  exact ⟨_, rfl, _, _, _, [], _, [], hW', trodAll_mk1 (shut_bool Try.underlying4 _), (trodAll_cons_mk (Below.trod laidOut (by kernel_rfl) (of_decide_eq_true (by kernel_rfl)) t0 bel lt0) (trodAll_cons_mk (Below.trod laidOut (by kernel_rfl) (of_decide_eq_true (by kernel_rfl)) t1 bel lt1) (trodAll_cons_mk (Below.trod laidOut (by kernel_rfl) (of_decide_eq_true (by kernel_rfl)) t2 bel lt2) (trodAll_cons_mk (Below.trod laidOut (by kernel_rfl) (of_decide_eq_true (by kernel_rfl)) t3 bel lt3) trodAll_mk0)))), rfl, bel.frame _, fun h => by cases h⟩
theorem over : Rows.pcapSpoiltRow.holds Try.pinned (OpenSpec.ofChange Rows.pcapSpoiltSpec) :=
  OpenClaim.holds_of_wide 5 Try.f5 rfl rfl rfl rfl rfl rfl rfl ⟨rfl, rfl, rfl, rfl, rfl⟩ rfl rfl rfl rfl rfl (by kernel_rfl) Try.func5 (by kernel_rfl)
    (of_decide_eq_true (by kernel_rfl)) (by unfold Func.isWrapper; first | (rw [if_pos (by decide +kernel)]; kernel_rfl) | (rw [if_neg (by decide +kernel)]; exact ⟨rfl, rfl⟩))
    (fun os started H enc _ => lifted os started H enc)
theorem proved : Rows.PcapSpoiltSaid := over
end Go.Proofs.Ytgbhhkcppmikcaa.pcapSpoilt
namespace Go.Proofs.Ytgbhhkcppmikcaa
/-- The law, under a short name. -/
theorem pcapSpoilt_holds : Rows.PcapSpoiltSaid := pcapSpoilt.proved
#print axioms pcapSpoilt_holds
end Go.Proofs.Ytgbhhkcppmikcaa
