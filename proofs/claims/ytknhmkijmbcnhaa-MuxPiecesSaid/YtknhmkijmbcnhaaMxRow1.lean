/- MxRow1: MuxPieces: the bytes that an end sends do not depend on the pieces in which they are taken, for every input. Conditions: none. -/
import Derived.Test.YtknhmkijmbcnhaaMxRow0
import Derived.Carry
set_option linter.unusedSimpArgs false
set_option maxRecDepth 100000
set_option linter.unusedVariables false
namespace Go.Proofs.Ytknhmkijmbcnhaa.muxPieces
open Go.ChangeShapes Go.WideShapes Go.ChangeAt Go.RowKit Go.Abs
open Go.ChangeMaps (open_string shut_string)
theorem own : ownKnob Try.prog.godebug = none := by kernel_rfl
theorem laidOut : laidOutB Try.prog = true := by kernel_rfl
theorem lifted (os : Os) (started : os.Started) (H : Type) (enc : TypeId × Value → H) :
    ReturnsInHanded {} Try.checked os 3 .any (Rows.muxPiecesSpec.pre6 enc Try.prog Try.f3 Rows.muxPiecesRow.domain false) (Rows.muxPiecesSpec.post enc Try.prog Try.f3 false true false false) := by
  refine returnsInHanded_of_change_sized (C := Try.checked) own started (by kernel_rfl) Try.func3
    (ChangeSpec.witness6 (enc := enc) (C := Try.checked) false ⟨#[], #[.int .i64 0, .slice none 0 0, .slice none 0 0], []⟩ 8 (by kernel_rfl) (by kernel_rfl) (by kernel_rfl) (by kernel_rfl)) ?_
  intro W base args ds gs before hval0 hW hcnd hsz0 _
  have hsz : (DataW.weightsEach Try.prog (Try.f3.params.toList ++ Rows.muxPiecesSpec.plain.varTypes Try.prog) (ds ++ gs)).all (· ≤ reachBytes) = true := hsz0
  have hval : ∀ (j : Nat) t v, Try.f3.params[j]? = some t → args[j]? = some v → Value.okWide Try.prog W .any base t v := hval0
  have hW' := hW
  obtain ⟨p, q, hA0, hV, rfl, hfz, hnd⟩ := hW
  have hA : DataW.TrodAll enc Try.prog W 0 (fun _ => true) true Try.f3.params.toList args.toList ds p := hA0
  rw [Try.params3] at hA hval hsz
  obtain ⟨v0, vs0, d0, ds0, p0, q0, hargs, rfl, rfl, t0, r0⟩ := trodAll_cons hA
  obtain ⟨v1, vs1, d1, ds1, p1, q1, rfl, rfl, rfl, t1, r1⟩ := trodAll_cons r0
  obtain ⟨v2, vs2, d2, ds2, p2, q2, rfl, rfl, rfl, t2, r2⟩ := trodAll_cons r1
  obtain ⟨rfl, rfl, rfl⟩ := trodAll_nil r2
  obtain rfl : args = #[v0, v1, v2] := by cases args; simp_all
  obtain ⟨rfl, rfl⟩ := trodVars_none hV
  have laid0 := Laid.start (G := cx.G) (w := W) (B := W.heap.size) rfl (Nat.le_refl _)
  have lt0 : ∀ x ∈ p0, x.block < W.heap.size := by obtain ⟨n, hn⟩ := t0; exact DataW.trod_lt n _ _ _ hn
  have tt0 := t0
  obtain ⟨z0, rfl, rfl, rfl, w0⟩ := open_int Try.underlying3 (hval 0 3 v0 rfl rfl) tt0
  have lt1 : ∀ x ∈ p1, x.block < W.heap.size := by obtain ⟨n, hn⟩ := t1; exact DataW.trod_lt n _ _ _ hn
  have tt1 := t1
  have ok1 : Cell.ok Try.prog W .any base 22 v1 := by have := hval 1 22 v1 rfl rfl; simpa only [Value.okWide, u_22, Cell.okWide] using this
  obtain ⟨E1, g1, va1, l1, le1, laid1, vr1, sl1, by1, oks1⟩ := laid0.slice (f := strE) (ok := (fun x => x.length ≤ 140737488351232)) flat9 (by decide) u_22 (by rw [cells9]; decide) strE_inv strE_pl (fun x => by rw [cells9]; rfl) ok1 t1 (weightsEach_get hsz (i := 1) rfl rfl)
  rw [cells9] at sl1
  rw [bytes9] at by1
  obtain ⟨a1, m1, rfl, am1, sa1⟩ := sl1.split
  have lt2 : ∀ x ∈ p2, x.block < W.heap.size := by obtain ⟨n, hn⟩ := t2; exact DataW.trod_lt n _ _ _ hn
  have tt2 := t2
  have ok2 : Cell.ok Try.prog W .any base 23 v2 := by have := hval 2 23 v2 rfl rfl; simpa only [Value.okWide, u_23, Cell.okWide] using this
  obtain ⟨E2, g2, va2, l2, le2, laid2, vr2, sl2, by2, oks2⟩ := laid1.slice (f := intE) (ok := (fun _ => True)) flat3 (by decide) u_23 (by rw [cells3]; decide) intE_inv intE_pl (fun x => by rw [cells3]; rfl) ok2 t2 (weightsEach_get hsz (i := 2) rfl rfl)
  rw [cells3] at sl2
  rw [bytes3] at by2
  obtain ⟨a2, m2, rfl, am2, sa2⟩ := sl2.split
  have vr1 := vr1.mono le2
  have sa1 := sa1.app g2
  have hfw := pieces_w (mi := m2) z0 l1 l2 sa1 am1 (by omega) sa2 (by omega) (fun x hx => Nat.lt_of_le_of_lt (oks1 x hx) (by decide))
  refine (law_calls cx cx_mixed (cx_prim _) (f := 3) rfl hfw laid2 (LR.cons (.int _ _) (LR.cons vr1 (LR.cons vr2 (LR.nil _))))).mono fun e W' ⟨he, bel⟩ => ?_
  subst he
  exact ⟨_, rfl, _, _, _, [], _, [], hW', trodAll_mk1 (shut_bool Try.underlying4 _), (trodAll_cons_mk (Below.trod laidOut (by kernel_rfl) (of_decide_eq_true (by kernel_rfl)) t0 bel lt0) (trodAll_cons_mk (Below.trod laidOut (by kernel_rfl) (of_decide_eq_true (by kernel_rfl)) t1 bel lt1) (trodAll_cons_mk (Below.trod laidOut (by kernel_rfl) (of_decide_eq_true (by kernel_rfl)) t2 bel lt2) trodAll_mk0))), rfl, bel.frame _, fun h => by cases h⟩
theorem over : Rows.muxPiecesRow.holds Try.pinned (OpenSpec.ofChange Rows.muxPiecesSpec) :=
  OpenClaim.holds_of_wide 3 Try.f3 rfl rfl rfl rfl rfl rfl rfl ⟨rfl, rfl, rfl, rfl, rfl⟩ rfl rfl rfl rfl rfl (by kernel_rfl) Try.func3 (by kernel_rfl)
    (of_decide_eq_true (by kernel_rfl)) (by unfold Func.isWrapper; first | (rw [if_pos (by decide +kernel)]; kernel_rfl) | (rw [if_neg (by decide +kernel)]; exact ⟨rfl, rfl⟩))
    (fun os started H enc _ => lifted os started H enc)
theorem proved : Rows.MuxPiecesSaid := over
end Go.Proofs.Ytknhmkijmbcnhaa.muxPieces
namespace Go.Proofs.Ytknhmkijmbcnhaa
/-- The law, under a short name. -/
theorem muxPieces_holds : Rows.MuxPiecesSaid := muxPieces.proved
#print axioms muxPieces_holds
end Go.Proofs.Ytknhmkijmbcnhaa
