/- PcRow2: PcapBack: a written capture is read unchanged, for every input. Conditions: none. -/
import Derived.Test.YtgbhhkcppmikcaaPcRow0
import Derived.Test.YtgbhhkcppmikcaaPc7
import Derived.Carry
set_option linter.unusedSimpArgs false
set_option maxRecDepth 100000
set_option linter.unusedVariables false
namespace Go.Proofs.Ytgbhhkcppmikcaa.pcapBack
open Go.ChangeShapes Go.WideShapes Go.ChangeAt Go.RowKit Go.Abs
open Go.ChangeMaps (open_string shut_string)
theorem own : ownKnob Try.prog.godebug = none := by kernel_rfl
theorem laidOut : laidOutB Try.prog = true := by kernel_rfl
theorem lifted (os : Os) (started : os.Started) (H : Type) (enc : TypeId × Value → H) :
    ReturnsInHanded {} Try.checked os 4 .any (Rows.pcapBackSpec.pre6 enc Try.prog Try.f4 Rows.pcapBackRow.domain false) (Rows.pcapBackSpec.post enc Try.prog Try.f4 false true false false) := by
  refine returnsInHanded_of_change_sized (C := Try.checked) own started (by kernel_rfl) Try.func4
    (ChangeSpec.witness6 (enc := enc) (C := Try.checked) false ⟨#[], #[.slice none 0 0], []⟩ 8 (by kernel_rfl) (by kernel_rfl) (by kernel_rfl) (by kernel_rfl)) ?_
  intro W base args ds gs before hval0 hW hcnd hsz0 _
  have hsz : (DataW.weightsEach Try.prog (Try.f4.params.toList ++ Rows.pcapBackSpec.plain.varTypes Try.prog) (ds ++ gs)).all (· ≤ reachBytes) = true := hsz0
  have hval : ∀ (j : Nat) t v, Try.f4.params[j]? = some t → args[j]? = some v → Value.okWide Try.prog W .any base t v := hval0
  have hW' := hW
  obtain ⟨p, q, hA0, hV, rfl, hfz, hnd⟩ := hW
  have hA : DataW.TrodAll enc Try.prog W 0 (fun _ => true) true Try.f4.params.toList args.toList ds p := hA0
  rw [Try.params4] at hA hval hsz
  obtain ⟨v0, vs0, d0, ds0, p0, q0, hargs, rfl, rfl, t0, r0⟩ := trodAll_cons hA
  obtain ⟨rfl, rfl, rfl⟩ := trodAll_nil r0
  obtain rfl : args = #[v0] := by cases args; simp_all
  obtain ⟨rfl, rfl⟩ := trodVars_none hV
  have laid0 := Laid.start (G := cx.G) (w := W) (B := W.heap.size) rfl (Nat.le_refl _)
  have lt0 : ∀ x ∈ p0, x.block < W.heap.size := by obtain ⟨n, hn⟩ := t0; exact DataW.trod_lt n _ _ _ hn
  have tt0 := t0
  have ok0 : Cell.ok Try.prog W .any base 22 v0 := by have := hval 0 22 v0 rfl rfl; simpa only [Value.okWide, u_22, Cell.okWide] using this
  obtain ⟨E0, g0, va0, l0, le0, laid1, vr0, sl0, by0, oks0⟩ := laid0.slice (f := rawC) (ok := (fun _ => True)) flatS (by decide) u_22 (by rw [cells36]; decide) raw_inv raw_pl (fun x => by rw [cells36]; rfl) ok0 t0 (weightsEach_get hsz (i := 0) rfl rfl)
  rw [cells36] at sl0
  rw [bytes36] at by0
  obtain ⟨a0, m0, rfl, am0, sa0⟩ := sl0.split
  have hfw := back_w l0 sa0 am0 (by omega)
  refine (law_calls cx cx_mixed (cx_prim _) (f := 4) rfl hfw laid1 (LR.cons vr0 (LR.nil _))).mono fun e W' ⟨he, bel⟩ => ?_
  subst he
  exact ⟨_, rfl, _, _, _, [], _, [], hW', trodAll_mk1 (shut_bool Try.underlying4 _), (trodAll_cons_mk (Below.trod laidOut (by kernel_rfl) (of_decide_eq_true (by kernel_rfl)) t0 bel lt0) trodAll_mk0), rfl, bel.frame _, fun h => by cases h⟩
theorem over : Rows.pcapBackRow.holds Try.pinned (OpenSpec.ofChange Rows.pcapBackSpec) :=
  OpenClaim.holds_of_wide 4 Try.f4 rfl rfl rfl rfl rfl rfl rfl ⟨rfl, rfl, rfl, rfl, rfl⟩ rfl rfl rfl rfl rfl (by kernel_rfl) Try.func4 (by kernel_rfl)
    (of_decide_eq_true (by kernel_rfl)) (by unfold Func.isWrapper; first | (rw [if_pos (by decide +kernel)]; kernel_rfl) | (rw [if_neg (by decide +kernel)]; exact ⟨rfl, rfl⟩))
    (fun os started H enc _ => lifted os started H enc)
theorem proved : Rows.PcapBackSaid := over
end Go.Proofs.Ytgbhhkcppmikcaa.pcapBack
namespace Go.Proofs.Ytgbhhkcppmikcaa
/-- The law, under a short name. -/
theorem pcapBack_holds : Rows.PcapBackSaid := pcapBack.proved
#print axioms pcapBack_holds
end Go.Proofs.Ytgbhhkcppmikcaa
