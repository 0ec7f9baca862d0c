/- MuxReset, part 6 of 6: the proof of the law, for every input. Conditions: none. -/
import Derived.Test.YtknhmkijmbcnhaaJMuxReset5
import Derived.Test.YtknhmkijmbcnhaaJMuxReset4
import Derived.Carry
set_option linter.unusedSimpArgs false
set_option linter.unusedVariables false
/- Mx13: the law MuxJunk: its walk. Conditions: none. -/
set_option maxRecDepth 100000
set_option linter.unusedSimpArgs false
set_option linter.unusedVariables false
namespace Go.Abs
open Go.Proofs
theorem broken_q (m : MuxS) {h : AHeap} {p : Nat} {sb : Option Nat} {ids : List Nat} (a : MuxAt h p sb ids m) : Quiet cx 18 [ptrC p] h (.bool m.broken) := by
  refine FW_f Try.func18 rfl (by decide +kernel) ?_
  simp -dsimp -implicitDefEqProofs (disch := first | omega | (simp only [stT, u_2, ag_2, sz_2, by_2, ze_2, es_2, u_3, ag_3, sz_3, by_3, ze_3, es_3, u_4, ag_4, sz_4, by_4, ze_4, bo_4, es_4, u_6, ag_6, sz_6, by_6, ze_6, u8_6, es_6, u_8, f_8_0, f_8_1, f_8_2, f_8_3, ag_8, sz_8, by_8, ze_8, pl_8, es_8, u_9, ag_9, sz_9, by_9, ze_9, es_9, u_26, ag_26, sz_26, by_26, ze_26, es_26, u_53, ag_53, sz_53, by_53, ze_53, es_53, u_55, f_55_0, f_55_1, f_55_2, f_55_3, f_55_4, f_55_5, f_55_6, f_55_7, f_55_8, ag_55, sz_55, by_55, ze_55, pl_55, es_55, u_57, ag_57, sz_57, by_57, ze_57, es_57]; done) | (simp only [List.append_assoc, List.cons_append, List.nil_append, pre_n, pre_c, pre_a, pre_g, pre_r]; done) | (simp only [List.length_set]; done) | (simp only [List.length_set]; omega) | assumption | decide +kernel | fail) only [↓RP, RQ, isConstA, Nat.reduceEqDiff, Nat.reduceLT, Nat.reduceAdd, Int.reduceNeg, Int.reduceLT, Int.reduceLE, Int.reduceToNat, Int.reduceEq, ↓reduceIte, ite_true, ite_false, Option.toList, Nat.reduceMul, Nat.reduceSub, Nat.reduceLeDiff, ne_eq, eq_self, u_2, ag_2, sz_2, by_2, ze_2, es_2, u_3, ag_3, sz_3, by_3, ze_3, es_3, u_4, ag_4, sz_4, by_4, ze_4, bo_4, es_4, u_6, ag_6, sz_6, by_6, ze_6, u8_6, es_6, u_8, f_8_0, f_8_1, f_8_2, f_8_3, ag_8, sz_8, by_8, ze_8, pl_8, es_8, u_9, ag_9, sz_9, by_9, ze_9, es_9, u_26, ag_26, sz_26, by_26, ze_26, es_26, u_53, ag_53, sz_53, by_53, ze_53, es_53, u_55, f_55_0, f_55_1, f_55_2, f_55_3, f_55_4, f_55_5, f_55_6, f_55_7, f_55_8, ag_55, sz_55, by_55, ze_55, pl_55, es_55, u_57, ag_57, sz_57, by_57, ze_57, es_57, ↓AW_loop, ptrC, a.top, muxC]
  exact Ext.refl _
theorem junk_w (l : List UInt8) (hl : l.length < 2 ^ 50) (h0 : AHeap) : FW cx 4 [.string (str l)] h0 fun v _ => v = .bool true := by
  refine FW_f Try.func4 rfl (by decide +kernel) ?_
  have hmin : foldA min2A (Value.int .i64 (l.length : Int)) [.int .i64 300] = some (.int .i64 ((min l.length 300 : Nat) : Int)) := by
    simp only [foldA, min2A]; congr 2; split <;> omega
  simp -dsimp -implicitDefEqProofs (disch := first | omega | (simp only [stT, u_3, ag_3, sz_3, by_3, ze_3, es_3, u_4, ag_4, sz_4, by_4, ze_4, bo_4, es_4, u_9, ag_9, sz_9, by_9, ze_9, es_9, u_26, ag_26, sz_26, by_26, ze_26, es_26, u_27, ag_27, sz_27, by_27, ze_27, es_27]; done) | (simp only [List.append_assoc, List.cons_append, List.nil_append, pre_n, pre_c, pre_a, pre_g, pre_r]; done) | (simp only [List.length_set]; done) | (simp only [List.length_set]; omega) | assumption | decide +kernel | fail) only [↓RP, RQ, isConstA, Nat.reduceEqDiff, Nat.reduceLT, Nat.reduceAdd, Int.reduceNeg, Int.reduceLT, Int.reduceLE, Int.reduceToNat, Int.reduceEq, ↓reduceIte, ite_true, ite_false, Option.toList, Nat.reduceMul, Nat.reduceSub, Nat.reduceLeDiff, ne_eq, eq_self, u_3, ag_3, sz_3, by_3, ze_3, es_3, u_4, ag_4, sz_4, by_4, ze_4, bo_4, es_4, u_9, ag_9, sz_9, by_9, ze_9, es_9, u_26, ag_26, sz_26, by_26, ze_26, es_26, u_27, ag_27, sz_27, by_27, ze_27, es_27, ↓AW_loop]
  refine FW.mono (new_q false 64 (by decide) (by decide) h0) (fun v h1 hq => ?_)
  obtain ⟨rfl, a1, e1⟩ := hq
  generalize hp : h0.length = p at a1
  simp -dsimp -implicitDefEqProofs (disch := first | omega | (simp only [stT, u_3, ag_3, sz_3, by_3, ze_3, es_3, u_4, ag_4, sz_4, by_4, ze_4, bo_4, es_4, u_9, ag_9, sz_9, by_9, ze_9, es_9, u_26, ag_26, sz_26, by_26, ze_26, es_26, u_27, ag_27, sz_27, by_27, ze_27, es_27]; done) | (simp only [List.append_assoc, List.cons_append, List.nil_append, pre_n, pre_c, pre_a, pre_g, pre_r]; done) | (simp only [List.length_set]; done) | (simp only [List.length_set]; omega) | assumption | decide +kernel | fail) only [↓RP, RQ, isConstA, Nat.reduceEqDiff, Nat.reduceLT, Nat.reduceAdd, Int.reduceNeg, Int.reduceLT, Int.reduceLE, Int.reduceToNat, Int.reduceEq, ↓reduceIte, ite_true, ite_false, Option.toList, Nat.reduceMul, Nat.reduceSub, Nat.reduceLeDiff, ne_eq, eq_self, u_3, ag_3, sz_3, by_3, ze_3, es_3, u_4, ag_4, sz_4, by_4, ze_4, bo_4, es_4, u_9, ag_9, sz_9, by_9, ze_9, es_9, u_26, ag_26, sz_26, by_26, ze_26, es_26, u_27, ag_27, sz_27, by_27, ze_27, es_27, ↓AW_loop, ptrC]
  refine FW.mono (fact_q h1) (fun v h2 hq => ?_)
  obtain ⟨rfl, u2⟩ := hq
  have a2 := a1.ext u2.toExt
  simp -dsimp -implicitDefEqProofs (disch := first | omega | (simp only [stT, u_3, ag_3, sz_3, by_3, ze_3, es_3, u_4, ag_4, sz_4, by_4, ze_4, bo_4, es_4, u_9, ag_9, sz_9, by_9, ze_9, es_9, u_26, ag_26, sz_26, by_26, ze_26, es_26, u_27, ag_27, sz_27, by_27, ze_27, es_27]; done) | (simp only [List.append_assoc, List.cons_append, List.nil_append, pre_n, pre_c, pre_a, pre_g, pre_r]; done) | (simp only [List.length_set]; done) | (simp only [List.length_set]; omega) | assumption | decide +kernel | fail) only [↓RP, RQ, isConstA, Nat.reduceEqDiff, Nat.reduceLT, Nat.reduceAdd, Int.reduceNeg, Int.reduceLT, Int.reduceLE, Int.reduceToNat, Int.reduceEq, ↓reduceIte, ite_true, ite_false, Option.toList, Nat.reduceMul, Nat.reduceSub, Nat.reduceLeDiff, ne_eq, eq_self, u_3, ag_3, sz_3, by_3, ze_3, es_3, u_4, ag_4, sz_4, by_4, ze_4, bo_4, es_4, u_9, ag_9, sz_9, by_9, ze_9, es_9, u_26, ag_26, sz_26, by_26, ze_26, es_26, u_27, ag_27, sz_27, by_27, ze_27, es_27, ↓AW_loop, hmin]
  refine ⟨by omega, ?_⟩
  obtain ⟨t, ht⟩ : ∃ t, l.take (min l.length 300) = t := ⟨_, rfl⟩
  have htl : t.length ≤ 300 := by rw [← ht, List.length_take]; omega
  rw [ht]
  have j0 : JInv { newM false 64 with got := (newM false 64).got ++ t } := by
    refine ⟨rfl, (by decide : (64 : Nat) ≤ 256), fun s h => by simp [newM] at h, by simp [newM], by simp [newM], fun s h => by simp [newM] at h, ?_⟩
    simp [newM]; omega
  refine FW.mono (in_q JInv JInv.ok (newM false 64) t a2 (by omega) (fun _ => (by decide : (0 : Nat) < 2 ^ 40)) (fun _ _ => j0)) (fun v h3 hq => ?_)
  obtain ⟨rfl, sb3, ids3, a3, u3⟩ := hq
  have hbr : ((inS (newM false 64) t).1 = 0 → (inS (newM false 64) t).2.broken = false) ∧ ((inS (newM false 64) t).1 ≠ 0 → (inS (newM false 64) t).2.broken = true) := by
    unfold inS
    rw [if_neg (by simp [newM]), if_neg (by omega)]
    exact inR_broken _ _ rfl
  generalize inS (newM false 64) t = r at *
  obtain ⟨e, m⟩ := r
  simp only at a3 hbr ⊢
  by_cases e0 : e = 0
  · subst e0
    have hb := hbr.1 rfl
    simp -dsimp -implicitDefEqProofs (disch := first | omega | (simp only [stT, u_3, ag_3, sz_3, by_3, ze_3, es_3, u_4, ag_4, sz_4, by_4, ze_4, bo_4, es_4, u_9, ag_9, sz_9, by_9, ze_9, es_9, u_26, ag_26, sz_26, by_26, ze_26, es_26, u_27, ag_27, sz_27, by_27, ze_27, es_27]; done) | (simp only [List.append_assoc, List.cons_append, List.nil_append, pre_n, pre_c, pre_a, pre_g, pre_r]; done) | (simp only [List.length_set]; done) | (simp only [List.length_set]; omega) | assumption | decide +kernel | fail) only [↓RP, RQ, isConstA, Nat.reduceEqDiff, Nat.reduceLT, Nat.reduceAdd, Int.reduceNeg, Int.reduceLT, Int.reduceLE, Int.reduceToNat, Int.reduceEq, ↓reduceIte, ite_true, ite_false, Option.toList, Nat.reduceMul, Nat.reduceSub, Nat.reduceLeDiff, ne_eq, eq_self, u_3, ag_3, sz_3, by_3, ze_3, es_3, u_4, ag_4, sz_4, by_4, ze_4, bo_4, es_4, u_9, ag_9, sz_9, by_9, ze_9, es_9, u_26, ag_26, sz_26, by_26, ze_26, es_26, u_27, ag_27, sz_27, by_27, ze_27, es_27, ↓AW_loop]
    refine (broken_q m a3).use' fun g => ?_
    rw [hb]
    simp -dsimp -implicitDefEqProofs (disch := first | omega | (simp only [stT, u_3, ag_3, sz_3, by_3, ze_3, es_3, u_4, ag_4, sz_4, by_4, ze_4, bo_4, es_4, u_9, ag_9, sz_9, by_9, ze_9, es_9, u_26, ag_26, sz_26, by_26, ze_26, es_26, u_27, ag_27, sz_27, by_27, ze_27, es_27]; done) | (simp only [List.append_assoc, List.cons_append, List.nil_append, pre_n, pre_c, pre_a, pre_g, pre_r]; done) | (simp only [List.length_set]; done) | (simp only [List.length_set]; omega) | assumption | decide +kernel | fail) only [↓RP, RQ, isConstA, Nat.reduceEqDiff, Nat.reduceLT, Nat.reduceAdd, Int.reduceNeg, Int.reduceLT, Int.reduceLE, Int.reduceToNat, Int.reduceEq, ↓reduceIte, ite_true, ite_false, Option.toList, Nat.reduceMul, Nat.reduceSub, Nat.reduceLeDiff, ne_eq, eq_self, u_3, ag_3, sz_3, by_3, ze_3, es_3, u_4, ag_4, sz_4, by_4, ze_4, bo_4, es_4, u_9, ag_9, sz_9, by_9, ze_9, es_9, u_26, ag_26, sz_26, by_26, ze_26, es_26, u_27, ag_27, sz_27, by_27, ze_27, es_27, ↓AW_loop]
  · have e0' : ¬ (e : Int) = 0 := by omega
    have hb := hbr.2 e0
    simp -dsimp -implicitDefEqProofs (disch := first | omega | (simp only [stT, u_3, ag_3, sz_3, by_3, ze_3, es_3, u_4, ag_4, sz_4, by_4, ze_4, bo_4, es_4, u_9, ag_9, sz_9, by_9, ze_9, es_9, u_26, ag_26, sz_26, by_26, ze_26, es_26, u_27, ag_27, sz_27, by_27, ze_27, es_27]; done) | (simp only [List.append_assoc, List.cons_append, List.nil_append, pre_n, pre_c, pre_a, pre_g, pre_r]; done) | (simp only [List.length_set]; done) | (simp only [List.length_set]; omega) | assumption | decide +kernel | fail) only [↓RP, RQ, isConstA, Nat.reduceEqDiff, Nat.reduceLT, Nat.reduceAdd, Int.reduceNeg, Int.reduceLT, Int.reduceLE, Int.reduceToNat, Int.reduceEq, ↓reduceIte, ite_true, ite_false, Option.toList, Nat.reduceMul, Nat.reduceSub, Nat.reduceLeDiff, ne_eq, eq_self, u_3, ag_3, sz_3, by_3, ze_3, es_3, u_4, ag_4, sz_4, by_4, ze_4, bo_4, es_4, u_9, ag_9, sz_9, by_9, ze_9, es_9, u_26, ag_26, sz_26, by_26, ze_26, es_26, u_27, ag_27, sz_27, by_27, ze_27, es_27, ↓AW_loop, e0']
    refine (open_broken m [104] a3 hb).use' fun g => ?_
    have a4 := a3.app g
    simp -dsimp -implicitDefEqProofs (disch := first | omega | (simp only [stT, u_3, ag_3, sz_3, by_3, ze_3, es_3, u_4, ag_4, sz_4, by_4, ze_4, bo_4, es_4, u_9, ag_9, sz_9, by_9, ze_9, es_9, u_26, ag_26, sz_26, by_26, ze_26, es_26, u_27, ag_27, sz_27, by_27, ze_27, es_27]; done) | (simp only [List.append_assoc, List.cons_append, List.nil_append, pre_n, pre_c, pre_a, pre_g, pre_r]; done) | (simp only [List.length_set]; done) | (simp only [List.length_set]; omega) | assumption | decide +kernel | fail) only [↓RP, RQ, isConstA, Nat.reduceEqDiff, Nat.reduceLT, Nat.reduceAdd, Int.reduceNeg, Int.reduceLT, Int.reduceLE, Int.reduceToNat, Int.reduceEq, ↓reduceIte, ite_true, ite_false, Option.toList, Nat.reduceMul, Nat.reduceSub, Nat.reduceLeDiff, ne_eq, eq_self, u_3, ag_3, sz_3, by_3, ze_3, es_3, u_4, ag_4, sz_4, by_4, ze_4, bo_4, es_4, u_9, ag_9, sz_9, by_9, ze_9, es_9, u_26, ag_26, sz_26, by_26, ze_26, es_26, u_27, ag_27, sz_27, by_27, ze_27, es_27, ↓AW_loop, e0']
    refine (broken_q m a4).use' fun g2 => ?_
    have a5 := a4.app g2
    rw [List.append_assoc] at a5
    rw [hb]
    simp -dsimp -implicitDefEqProofs (disch := first | omega | (simp only [stT, u_3, ag_3, sz_3, by_3, ze_3, es_3, u_4, ag_4, sz_4, by_4, ze_4, bo_4, es_4, u_9, ag_9, sz_9, by_9, ze_9, es_9, u_26, ag_26, sz_26, by_26, ze_26, es_26, u_27, ag_27, sz_27, by_27, ze_27, es_27]; done) | (simp only [List.append_assoc, List.cons_append, List.nil_append, pre_n, pre_c, pre_a, pre_g, pre_r]; done) | (simp only [List.length_set]; done) | (simp only [List.length_set]; omega) | assumption | decide +kernel | fail) only [↓RP, RQ, isConstA, Nat.reduceEqDiff, Nat.reduceLT, Nat.reduceAdd, Int.reduceNeg, Int.reduceLT, Int.reduceLE, Int.reduceToNat, Int.reduceEq, ↓reduceIte, ite_true, ite_false, Option.toList, Nat.reduceMul, Nat.reduceSub, Nat.reduceLeDiff, ne_eq, eq_self, u_3, ag_3, sz_3, by_3, ze_3, es_3, u_4, ag_4, sz_4, by_4, ze_4, bo_4, es_4, u_9, ag_9, sz_9, by_9, ze_9, es_9, u_26, ag_26, sz_26, by_26, ze_26, es_26, u_27, ag_27, sz_27, by_27, ze_27, es_27, ↓AW_loop]
    refine FW.mono (in_q JInv JInv.ok m [] a5 (by decide) (fun h => by rw [hb] at h; cases h) (fun h => by rw [hb] at h; cases h)) (fun v h6 hq => ?_)
    obtain ⟨rfl, sb6, ids6, a6, u6⟩ := hq
    have hin : inS m [] = (7, m) := by unfold inS; rw [if_pos hb]
    rw [hin] at a6 ⊢
    simp -dsimp -implicitDefEqProofs (disch := first | omega | (simp only [stT, u_3, ag_3, sz_3, by_3, ze_3, es_3, u_4, ag_4, sz_4, by_4, ze_4, bo_4, es_4, u_9, ag_9, sz_9, by_9, ze_9, es_9, u_26, ag_26, sz_26, by_26, ze_26, es_26, u_27, ag_27, sz_27, by_27, ze_27, es_27]; done) | (simp only [List.append_assoc, List.cons_append, List.nil_append, pre_n, pre_c, pre_a, pre_g, pre_r]; done) | (simp only [List.length_set]; done) | (simp only [List.length_set]; omega) | assumption | decide +kernel | fail) only [↓RP, RQ, isConstA, Nat.reduceEqDiff, Nat.reduceLT, Nat.reduceAdd, Int.reduceNeg, Int.reduceLT, Int.reduceLE, Int.reduceToNat, Int.reduceEq, ↓reduceIte, ite_true, ite_false, Option.toList, Nat.reduceMul, Nat.reduceSub, Nat.reduceLeDiff, ne_eq, eq_self, u_3, ag_3, sz_3, by_3, ze_3, es_3, u_4, ag_4, sz_4, by_4, ze_4, bo_4, es_4, u_9, ag_9, sz_9, by_9, ze_9, es_9, u_26, ag_26, sz_26, by_26, ze_26, es_26, u_27, ag_27, sz_27, by_27, ze_27, es_27, ↓AW_loop]
    refine FW.mono (out_broken m 100 a6 hb) (fun v h7 hq => ?_)
    obtain ⟨rfl, a7, u7⟩ := hq
    simp -dsimp -implicitDefEqProofs (disch := first | omega | (simp only [stT, u_3, ag_3, sz_3, by_3, ze_3, es_3, u_4, ag_4, sz_4, by_4, ze_4, bo_4, es_4, u_9, ag_9, sz_9, by_9, ze_9, es_9, u_26, ag_26, sz_26, by_26, ze_26, es_26, u_27, ag_27, sz_27, by_27, ze_27, es_27]; done) | (simp only [List.append_assoc, List.cons_append, List.nil_append, pre_n, pre_c, pre_a, pre_g, pre_r]; done) | (simp only [List.length_set]; done) | (simp only [List.length_set]; omega) | assumption | decide +kernel | fail) only [↓RP, RQ, isConstA, Nat.reduceEqDiff, Nat.reduceLT, Nat.reduceAdd, Int.reduceNeg, Int.reduceLT, Int.reduceLE, Int.reduceToNat, Int.reduceEq, ↓reduceIte, ite_true, ite_false, Option.toList, Nat.reduceMul, Nat.reduceSub, Nat.reduceLeDiff, ne_eq, eq_self, u_3, ag_3, sz_3, by_3, ze_3, es_3, u_4, ag_4, sz_4, by_4, ze_4, bo_4, es_4, u_9, ag_9, sz_9, by_9, ze_9, es_9, u_26, ag_26, sz_26, by_26, ze_26, es_26, u_27, ag_27, sz_27, by_27, ze_27, es_27, ↓AW_loop]
end Go.Abs
/- Mx23: the walk of talk. Conditions: none. -/
set_option maxRecDepth 100000
set_option linter.unusedSimpArgs false
set_option linter.unusedVariables false
namespace Go.Abs
open Go.Proofs
theorem Upd.dis {h h' : AHeap} {F F' G : List Nat} (u : Upd h h' F F') (hl : ∀ q, q ∈ G → q < h.length) (d : ∀ q, q ∈ F → q ∉ G) : ∀ q, q ∈ F' → q ∉ G := by
  intro q hq hg
  rcases u.own q hq with h1 | h1
  · exact d q h1 hg
  · have := hl q hg; omega
/-- Two ends and what was read of them, each in its own blocks; the blocks that Wp names stand as they stood in hW. -/
structure TW (Wp : Nat → Prop) (hW h : AHeap) (pa pb : Nat) (sa sb : Option Nat) (ia ib : List Nat) (la lb : Option Nat) (a b : MuxS) (R Q : List (List UInt8)) : Prop where
  ma : MuxAt h pa sa ia a
  mb : MuxAt h pb sb ib b
  oa : OwnV h la (R.map strV)
  ob : OwnV h lb (Q.map strV)
  dab : ∀ q, q ∈ foot pa sa ia → q ∉ foot pb sb ib
  da1 : ∀ q, la = some q → q ∉ foot pa sa ia
  db1 : ∀ q, la = some q → q ∉ foot pb sb ib
  da2 : ∀ q, lb = some q → q ∉ foot pa sa ia
  db2 : ∀ q, lb = some q → q ∉ foot pb sb ib
  dl : ∀ q, la = some q → lb ≠ some q
  na : ∀ q, q ∈ foot pa sa ia → ¬ Wp q
  nb : ∀ q, q ∈ foot pb sb ib → ¬ Wp q
  n1 : ∀ q, la = some q → ¬ Wp q
  n2 : ∀ q, lb = some q → ¬ Wp q
  wl : ∀ q, Wp q → q < hW.length
  len : hW.length ≤ h.length
  keep : ∀ q, Wp q → h[q]? = hW[q]?
section
variable {Wp : Nat → Prop} {hW h h' : AHeap} {pa pb : Nat} {sa sb sa' sb' : Option Nat} {ia ib ia' ib' : List Nat} {la lb la' lb' : Option Nat} {a b a' b' : MuxS} {R Q R' Q' : List (List UInt8)}
theorem new_of {F F' : List Nat} (wl : ∀ q, Wp q → q < hW.length) (len : hW.length ≤ h.length) (u : Upd h h' F F') (hF : ∀ q, q ∈ F → ¬ Wp q) : ∀ q, q ∈ F' → ¬ Wp q := by
  intro q hq hw
  rcases u.own q hq with h1 | h1
  · exact hF q h1 hw
  · have := wl q hw; omega
theorem keep_of {F F' : List Nat} (wl : ∀ q, Wp q → q < hW.length) (len : hW.length ≤ h.length) (u : Upd h h' F F') (hF : ∀ q, q ∈ F → ¬ Wp q) (k : ∀ q, Wp q → h[q]? = hW[q]?) : ∀ q, Wp q → h'[q]? = hW[q]? := by
  intro q hw
  have := wl q hw
  rw [u.same q (by omega) (fun hq => hF q hq hw), k q hw]
theorem TW.stepA (t : TW Wp hW h pa pb sa sb ia ib la lb a b R Q) (m : MuxAt h' pa sa' ia' a') (u : Upd h h' (foot pa sa ia) (foot pa sa' ia')) : TW Wp hW h' pa pb sa' sb ia' ib la lb a' b R Q where
  ma := m
  mb := t.mb.upd u (fun q h1 h2 => t.dab q h2 h1)
  oa := t.oa.upd u t.da1
  ob := t.ob.upd u t.da2
  dab := u.dis t.mb.fl t.dab
  da1 := fun q hq hm => u.dis (G := [q]) (fun z hz => by rw [List.mem_singleton] at hz; subst hz; exact t.oa.lt hq) (fun z hz hg => by rw [List.mem_singleton] at hg; subst hg; exact t.da1 z hq hz) q hm (by simp)
  db1 := t.db1
  da2 := fun q hq hm => u.dis (G := [q]) (fun z hz => by rw [List.mem_singleton] at hz; subst hz; exact t.ob.lt hq) (fun z hz hg => by rw [List.mem_singleton] at hg; subst hg; exact t.da2 z hq hz) q hm (by simp)
  db2 := t.db2
  dl := t.dl
  na := new_of t.wl t.len u t.na
  nb := t.nb
  n1 := t.n1
  n2 := t.n2
  wl := t.wl
  len := Nat.le_trans t.len u.len
  keep := keep_of t.wl t.len u t.na t.keep
theorem TW.flip (t : TW Wp hW h pa pb sa sb ia ib la lb a b R Q) : TW Wp hW h pb pa sb sa ib ia lb la b a Q R where
  ma := t.mb
  mb := t.ma
  oa := t.ob
  ob := t.oa
  dab := fun q h1 h2 => t.dab q h2 h1
  da1 := t.db2
  db1 := t.da2
  da2 := t.db1
  db2 := t.da1
  dl := fun q h1 h2 => t.dl q h2 h1
  na := t.nb
  nb := t.na
  n1 := t.n2
  n2 := t.n1
  wl := t.wl
  len := t.len
  keep := t.keep
theorem TW.stepB (t : TW Wp hW h pa pb sa sb ia ib la lb a b R Q) (m : MuxAt h' pb sb' ib' b') (u : Upd h h' (foot pb sb ib) (foot pb sb' ib')) : TW Wp hW h' pa pb sa sb' ia ib' la lb a b' R Q := (t.flip.stepA m u).flip
theorem TW.readB (t : TW Wp hW h pa pb sa sb ia ib la lb a b R Q) (m : MuxAt h' pb sb ib b') (o : OwnV h' la' (R'.map strV)) (hf : ∀ q, la' = some q → q ∉ foot pb sb ib) (u : Upd h h' (la.toList ++ foot pb sb ib) (la'.toList ++ foot pb sb ib)) : TW Wp hW h' pa pb sa sb ia ib la' lb a b' R' Q := by
  have hF : ∀ q, q ∈ la.toList ++ foot pb sb ib → ¬ Wp q := fun q hq => by
    rcases List.mem_append.1 hq with hq | hq
    · exact t.n1 q (by simpa using hq)
    · exact t.nb q hq
  have hN := new_of t.wl t.len u hF
  have hA : ∀ q, q ∈ foot pa sa ia → q ∉ la.toList ++ foot pb sb ib := fun q hq hm => by
    rcases List.mem_append.1 hm with hm | hm
    · exact t.da1 q (by simpa using hm) hq
    · exact t.dab q hq hm
  have hB : ∀ q, lb = some q → q ∉ la.toList ++ foot pb sb ib := fun q hq hm => by
    rcases List.mem_append.1 hm with hm | hm
    · exact t.dl q (by simpa using hm) hq
    · exact t.db2 q hq hm
  have hA' := u.dis t.ma.fl (fun q h1 h2 => hA q h2 h1)
  refine { ma := t.ma.upd u hA, mb := m, oa := o, ob := t.ob.upd u hB, dab := t.dab, da1 := fun q hq hm => hA' q (by simp [hq]) hm, db1 := hf, da2 := t.da2, db2 := t.db2, dl := fun q h1 h2 => ?_, na := t.na, nb := t.nb, n1 := fun q hq => hN q (by simp [hq]), n2 := t.n2, wl := t.wl, len := Nat.le_trans t.len u.len, keep := keep_of t.wl t.len u hF t.keep }
  refine u.dis (G := [q]) (fun z hz => ?_) (fun z hz hg => ?_) q (by simp [h1]) (by simp)
  · rw [List.mem_singleton] at hz; subst hz; exact t.ob.lt h2
  · rw [List.mem_singleton] at hg; subst hg; exact hB z h2 hz
theorem TW.app (t : TW Wp hW h pa pb sa sb ia ib la lb a b R Q) (g : AHeap) : TW Wp hW (h ++ g) pa pb sa sb ia ib la lb a b R Q := t.stepA (t.ma.app g) (Upd.app h g _)
end
/-! ### what the first end receives -/
structure IA (w : Nat) (rest : List UInt8) (m : MuxS) : Prop where
  win : m.window = w
  w2 : w ≤ 256
  len : m.streams.length ≤ 16
  got : m.got.length ≤ 2 ^ 30
  bs : ∀ s, s ∈ m.streams → s.window ≤ 256 ∧ s.room ≤ 256 ∧ s.inn.length ≤ 2 ^ 20
  wire : ∃ G : List Fr, (∀ f, f ∈ G → f.ok ∧ f.kind = 5) ∧ m.got ++ rest = encF G
theorem IA.front {w : Nat} {rest : List UInt8} {m : MuxS} (i : IA w rest m) (hl : 5 + (byteN m.got 3 * 256 + byteN m.got 4) ≤ m.got.length) : byteN m.got 0 = 5 ∧ ∃ G : List Fr, (∀ f, f ∈ G → f.ok ∧ f.kind = 5) ∧ m.got.drop (5 + (byteN m.got 3 * 256 + byteN m.got 4)) ++ rest = encF G := by
  obtain ⟨G, hG, hw⟩ := i.wire
  cases G with
  | nil =>
    have := congrArg List.length hw
    rw [encF_nil, List.length_append] at this
    simp at this
    have h2 : m.got.length = 0 := by rw [this.1]; rfl
    omega
  | cons f G =>
    obtain ⟨ok, k5⟩ := hG f (by simp)
    rw [encF_cons] at hw
    obtain ⟨p0, p1, p2⟩ := enc_parse ok (encF G)
    rw [← hw] at p0 p1 p2
    rw [byteN_app rest (by omega)] at p0
    rw [byteN_app rest (by omega), byteN_app rest (by omega)] at p2
    refine ⟨by rw [p0, k5], G, fun g hg => hG g (by simp [hg]), ?_⟩
    have h5 : (m.got ++ rest).drop (5 + f.body.length) = (f.enc ++ encF G).drop (5 + f.body.length) := by rw [hw]
    rw [p2] at hl ⊢
    rw [List.drop_append_of_le_length hl, (enc_drop f (encF G)).2] at h5
    exact h5
theorem IA.ok (w : Nat) (rest : List UInt8) : InOk2 (IA w rest) where
  safe m i hl h2 := by have := (i.front hl).1; omega
  bnd m i := ⟨by have := i.len; omega, by rw [i.win]; have := i.w2; omega, by have := i.got; omega, fun s hs => by have := i.bs s hs; omega⟩
  step m i hl he := by
    obtain ⟨h5, hw⟩ := i.front hl
    have hgl := i.got
    have hdl : (m.got.drop (5 + (byteN m.got 3 * 256 + byteN m.got 4))).length ≤ 2 ^ 30 := by rw [List.length_drop]; omega
    have i1 : IA w rest { m with got := m.got.drop (5 + (byteN m.got 3 * 256 + byteN m.got 4)) } := ⟨i.win, i.w2, i.len, hdl, i.bs, hw⟩
    generalize (m.got.drop 5).take (byteN m.got 3 * 256 + byteN m.got 4) = body at *
    generalize byteN m.got 1 * 256 + byteN m.got 2 = id at *
    generalize hd : m.got.drop (5 + (byteN m.got 3 * 256 + byteN m.got 4)) = d at *
    rw [h5] at he ⊢
    unfold gotM
    rw [if_neg (by decide), if_neg (by rw [he]; simp)]
    split
    · exact i1
    · rename_i s hs
      refine ⟨i.win, i.w2, by simp only [List.length_set]; exact i.len, hdl, fun t ht => ?_, hw⟩
      rcases List.mem_or_eq_of_mem_set ht with ht | rfl
      · exact i.bs t ht
      · have hb := i.bs s (List.mem_of_getElem? hs)
        have hbe : bodyE { m with got := d } s 5 body = 0 := by
          unfold gotE at he
          rw [if_neg (by decide), if_neg (by decide)] at he
          split at he
          · simp at he
          · rw [hs] at he; exact he
        have h4 := (bodyE_iff.1 hbe).2.2.2
        unfold bodyS
        rw [if_neg (by decide), if_neg (by decide), if_neg (by decide)]
        simp only
        refine ⟨?_, hb.2.1, hb.2.2⟩
        have hwin : ({ m with got := d } : MuxS).window = w := i.win
        have := i.w2
        by_cases hh : ({ m with got := d } : MuxS).window < s.window + two body
        · exact absurd ⟨rfl, .inr hh⟩ h4
        · omega
section
variable {w : Nat} {T : List Pl} {R : List (List UInt8)} {x y : List UInt8} {a b : MuxS} {F : List Fr} {B : List Strm} {G : List Fr}
theorem J.outle (j : J w T R x y a b F B G) : ∀ s, s ∈ a.streams → s.window ≤ 256 ∧ s.out.length ≤ 4096 := by
  intro s hs
  obtain ⟨i, hi⟩ := List.getElem?_of_mem hs
  obtain ⟨sb, t, h1, h2, r⟩ := j.at hi
  have h3 := (j.tr t (List.mem_of_getElem? h2)).2
  have h4 := r.win
  have h5 := r.room
  have h6 := j.w2
  rw [r.txt, List.length_append, List.length_append] at h3
  omega
theorem J.mbA (j : J w T R x y a b F B G) (hp : Phi T R a b ≤ 2 ^ 20) : MB a := by
  unfold Phi pA at hp
  exact ⟨j.ab, by omega, by omega, fun s hs => by have := j.outle s hs; omega⟩
theorem J.mbB (j : J w T R x y a b F B G) (hp : Phi T R a b ≤ 2 ^ 20) : MB b := by
  unfold Phi pA at hp
  refine ⟨j.bb, by omega, by omega, fun s hs => ?_⟩
  have := j.bk s hs
  rw [this.out]
  have := this.win
  have := j.w2
  simp only [List.length_nil]
  omega
theorem J.ia (j : J w T R x y a b F B G) (hy : y.length ≤ 4096) : IA w (b.ready ++ b.control) { a with got := a.got ++ y } := by
  have hag := j.ag
  refine ⟨j.aw, j.w2, by simp only; rw [j.n]; exact j.n16, by simp only [List.length_append]; omega, fun s hs => ?_, G, fun f hf => ⟨gok_ok j.n16 (j.okG f hf), (j.okG f hf).kind⟩, ?_⟩
  · obtain ⟨i, hi⟩ := List.getElem?_of_mem hs
    obtain ⟨sb, t, h1, h2, r⟩ := j.at hi
    have h3 := (j.outle s hs).1
    have h4 := r.rmm
    have h5 := j.w2
    rw [r.inn]
    simp only [List.length_nil]
    omega
  · simp only
    rw [List.append_assoc]; exact j.wireG
theorem J.rokB (j : J w T R x y a b F B G) (hp : Phi T R a b ≤ 2 ^ 20) : ROk (2 ^ 20) b := by
  unfold Phi pA at hp
  refine ⟨j.bb, by omega, by rw [j.bw]; exact j.w2, j.idsb, fun s hs => ?_⟩
  have := (j.bk s hs).sum
  have := j.w2
  omega
theorem J.rokA (j : J w T R x y a b F B G) (hp : Phi T R a b ≤ 2 ^ 20) : ROk (2 ^ 20) a := by
  unfold Phi pA at hp
  refine ⟨j.ab, by omega, by rw [j.aw]; exact j.w2, j.ids, fun s hs => ?_⟩
  obtain ⟨i, hi⟩ := List.getElem?_of_mem hs
  obtain ⟨sb, t, h1, h2, r⟩ := j.at hi
  have h4 := r.rmm
  have h5 := j.w2
  rw [r.inn, r.tak]
  simp only [List.length_nil]
  omega
theorem J.rdle (j : J w T R x y a b F B G) : ∀ i, (rd R i).length ≤ 4096 := by
  intro i
  by_cases hi : i < T.length
  · obtain ⟨sa, hsa⟩ : ∃ sa, a.streams[i]? = some sa := ⟨_, List.getElem?_eq_getElem (by have := j.n; omega)⟩
    obtain ⟨sb, t, h1, h2, r⟩ := j.at hsa
    have h3 := (j.tr t (List.mem_of_getElem? h2)).2
    rw [r.txt, List.length_append, List.length_append] at h3
    omega
  · have := j.rl
    have := j.lenb
    unfold rd
    rw [List.getElem?_eq_none (by omega)]
    simp
end
end Go.Abs
/- Mx24: the walk of talk, on. Conditions: none. -/
set_option maxRecDepth 100000
set_option linter.unusedSimpArgs false
set_option linter.unusedVariables false
namespace Go.Abs
open Go.Proofs
theorem talkL_nil (L : List (List UInt8)) (k : Nat) : (talkL L k []).length ≤ max L.length (k + 1) ∧ ∀ i, rd (talkL L k []) i = rd L i := by
  by_cases hk : k ≤ L.length
  · obtain ⟨h1, h2, h3⟩ := talkL_spec [] hk
    refine ⟨by rw [h1]; exact Nat.le_refl _, fun i => ?_⟩
    by_cases hi : i = k
    · subst hi; rw [h2, List.append_nil]
    · exact h3 i hi
  · have h1 : ¬ k = L.length := by omega
    unfold talkL
    simp only [if_neg h1]
    rw [if_neg (by omega)]
    exact ⟨by omega, fun i => rfl⟩
theorem read_none2 (m : MuxS) (hw : 1 ≤ m.window) (hs : ∀ s, s ∈ m.streams → s.inn = [] ∧ s.taken = 0) : ∀ (r k : Nat) (L : List (List UInt8)), r + k = m.streams.length → (readGo r k m L).2.length ≤ max L.length m.streams.length ∧ ∀ i, rd (readGo r k m L).2 i = rd L i := by
  intro r
  induction r with
  | zero => intro k L _; exact ⟨by simp only [readGo]; omega, fun i => rfl⟩
  | succ r ih =>
    intro k L hk
    obtain ⟨s, h⟩ : ∃ s, m.streams[k]? = some s := ⟨_, List.getElem?_eq_getElem (by omega)⟩
    rw [readGo_some h]
    obtain ⟨h1, h2⟩ := hs s (List.mem_of_getElem? h)
    have e : readM m k s s.id (min 4096 s.inn.length) = m := by
      have := read_none m hw hs 1 k L
      rw [readGo_some h] at this
      exact this
    obtain ⟨q1, q2⟩ := talkL_nil L k
    rw [e, h1, List.take_nil]
    obtain ⟨q3, q4⟩ := ih (k + 1) (talkL L k []) (by omega)
    exact ⟨by omega, fun i => by rw [q4, q2]⟩
def bytes10 (ls : List Int) (k : Nat) : Nat := 10 + (max 0 (atS ls k 20)).toNat % 90
theorem bytes10_le (ls : List Int) (k : Nat) : 10 ≤ bytes10 ls k ∧ bytes10 ls k ≤ 99 := by unfold bytes10; omega
theorem talk_q {w : Nat} {T : List Pl} {a b : MuxS} {F : List Fr} {B : List Strm} {G : List Fr} (j : J w T [] [] [] a b F B G) (hT : ∀ t, t ∈ T → t.ends = true ∨ t.reset = true) (C rounds : Nat) (hp : Phi T [] a b + 5 ≤ C) (hC : C < 5 * rounds) (hr : rounds < 2 ^ 20) (hC2 : C ≤ 2 ^ 20)
    {Wp : Nat → Prop} {h0 h : AHeap} {pa pb : Nat} {sa sb : Option Nat} {ia ib : List Nat} (tw : TW Wp h0 h pa pb sa sb ia ib none none a b [] []) (ls : List Int) {ai : Option Addr} {mi : Nat} (hsi : ∀ h' : AHeap, (∀ q, Wp q → h'[q]? = h0[q]?) → SlA intE 1 true h' ai ls) (hls : ls.length < 2 ^ 50) :
    FW cx 20 [ptrC pa, ptrC pb, .slice ai ls.length mi, .int .i64 rounds] h fun v h' => ∃ sa' sb' ia' ib' la lb a' b' R Q F' B' G', v = .tuple #[.slice (slA la) R.length R.length, .slice (slA lb) (Q : List (List UInt8)).length Q.length] ∧ TW Wp h0 h' pa pb sa' sb' ia' ib' la lb a' b' R Q ∧
      J w T R [] [] a' b' F' B' G' ∧ Clean a' b' ∧ Fin a' ∧ R.length = b'.streams.length ∧ Phi T R a' b' ≤ 2 ^ 20 := by
  refine FW_f Try.func20 rfl (by decide +kernel) ?_
  simp -dsimp -implicitDefEqProofs (disch := first | omega | (simp only [stT, u_3, ag_3, sz_3, by_3, ze_3, es_3, u_9, ag_9, sz_9, by_9, ze_9, es_9, u_22, ag_22, sz_22, by_22, ze_22, es_22, u_23, ag_23, sz_23, by_23, ze_23, es_23, u_26, ag_26, sz_26, by_26, ze_26, es_26]; done) | (simp only [List.append_assoc, List.cons_append, List.nil_append, pre_n, pre_c, pre_a, pre_g, pre_r]; done) | (simp only [List.length_set]; done) | (simp only [List.length_set]; omega) | assumption | decide +kernel | fail) only [↓RP, RQ, isConstA, Nat.reduceEqDiff, Nat.reduceLT, Nat.reduceAdd, Int.reduceNeg, Int.reduceLT, Int.reduceLE, Int.reduceToNat, Int.reduceEq, ↓reduceIte, ite_true, ite_false, Option.toList, Nat.reduceMul, Nat.reduceSub, Nat.reduceLeDiff, ne_eq, eq_self, u_3, ag_3, sz_3, by_3, ze_3, es_3, u_9, ag_9, sz_9, by_9, ze_9, es_9, u_22, ag_22, sz_22, by_22, ze_22, es_22, u_23, ag_23, sz_23, by_23, ze_23, es_23, u_26, ag_26, sz_26, by_26, ze_26, es_26, ↓AW_loop]
  refine LW_rule (fun n fr h' => ∃ (k : Nat) (sa' sb' : Option Nat) (ia' ib' : List Nat) (la lb : Option Nat) (a' b' : MuxS) (R Q : List (List UInt8)), k ≤ rounds ∧ n = rounds - k ∧ fget fr 14 = .int .i64 k ∧ fget fr 13 = .int .i64 rounds ∧ fget fr 0 = ptrC pa ∧ fget fr 1 = ptrC pb ∧ fget fr 2 = .slice ai ls.length mi ∧ fget fr 10 = .func (.func 32) #[] #[] ∧
      fget fr 8 = .slice (slA la) R.length R.length ∧ fget fr 9 = .slice (slA lb) Q.length Q.length ∧ TW Wp h0 h' pa pb sa' sb' ia' ib' la lb a' b' R Q ∧ (∃ F' B' G', J w T R [] [] a' b' F' B' G') ∧ Prog k C T R a' b' ∧ Phi T R a' b' ≤ 2 ^ 20 ∧ (1 ≤ k → R.length = b'.streams.length) ∧ Q.length ≤ 16 ∧ ∀ i, rd Q i = []) ?_ rounds _ _
    ⟨0, sa, sb, ia, ib, none, none, a, b, [], [], by omega, rfl, ?_⟩
  · rintro n fr h' ⟨k, sa', sb', ia', ib', la, lb, a', b', R, Q, hk, hn, f14, f13, f0, f1, f2, f10, f8, f9, t, ⟨F', B', G', jj⟩, hprog, hphi, hRl, hQl, hQ⟩
    by_cases hlt : k < rounds
    · have hlt' : (k : Int) < rounds := by omega
      have hs' := hsi h' t.keep
      simp -dsimp -implicitDefEqProofs (disch := first | omega | (simp only [stT, u_3, ag_3, sz_3, by_3, ze_3, es_3, u_9, ag_9, sz_9, by_9, ze_9, es_9, u_22, ag_22, sz_22, by_22, ze_22, es_22, u_23, ag_23, sz_23, by_23, ze_23, es_23, u_26, ag_26, sz_26, by_26, ze_26, es_26]; done) | (simp only [List.append_assoc, List.cons_append, List.nil_append, pre_n, pre_c, pre_a, pre_g, pre_r]; done) | (simp only [List.length_set]; done) | (simp only [List.length_set]; omega) | assumption | decide +kernel | fail) only [↓RP, RQ, isConstA, Nat.reduceEqDiff, Nat.reduceLT, Nat.reduceAdd, Int.reduceNeg, Int.reduceLT, Int.reduceLE, Int.reduceToNat, Int.reduceEq, ↓reduceIte, ite_true, ite_false, Option.toList, Nat.reduceMul, Nat.reduceSub, Nat.reduceLeDiff, ne_eq, eq_self, u_3, ag_3, sz_3, by_3, ze_3, es_3, u_9, ag_9, sz_9, by_9, ze_9, es_9, u_22, ag_22, sz_22, by_22, ze_22, es_22, u_23, ag_23, sz_23, by_23, ze_23, es_23, u_26, ag_26, sz_26, by_26, ze_26, es_26, ↓AW_loop, f14, f13, f0, f1, f2, hlt']
      refine (at_q ls k 20 (by omega) hs' hls).use' fun g => ?_
      have hmx : foldA max2A (Value.int .i64 0) [.int .i64 (atS ls k 20)] = some (.int .i64 (((max 0 (atS ls k 20)).toNat : Nat) : Int)) := by
        simp only [foldA, max2A]; congr 2; split <;> omega
      obtain ⟨n10, n99⟩ := bytes10_le ls k
      have hN0 : bytes10 ls k = 10 + (max 0 (atS ls k 20)).toNat % 90 := rfl
      generalize hNN : bytes10 ls k = N at n10 n99 hN0
      generalize (max 0 (atS ls k 20)).toNat = cc at hmx hN0
      have hrem : (cc : Int).tmod 90 = ((cc % 90 : Nat) : Int) := (Int.ofNat_tmod _ 90).symm
      have hadd : (10 : Int) + ((cc % 90 : Nat) : Int) = ((N : Nat) : Int) := by omega
      obtain ⟨b1, a1, e1, e2, e3, ⟨_, _, _, j2⟩, ⟨_, _, _, j3⟩, ⟨_, _, _, j4⟩, ⟨_, _, _, j5⟩, p2, p5, p3, hpr, hlen⟩ := jj.round n10 (by omega) hT Q
      have l1 := outB_len N a'
      have l2 := outB_len N (readAll b1 R).1
      simp -dsimp -implicitDefEqProofs (disch := first | omega | (simp only [stT, u_3, ag_3, sz_3, by_3, ze_3, es_3, u_9, ag_9, sz_9, by_9, ze_9, es_9, u_22, ag_22, sz_22, by_22, ze_22, es_22, u_23, ag_23, sz_23, by_23, ze_23, es_23, u_26, ag_26, sz_26, by_26, ze_26, es_26]; done) | (simp only [List.append_assoc, List.cons_append, List.nil_append, pre_n, pre_c, pre_a, pre_g, pre_r]; done) | (simp only [List.length_set]; done) | (simp only [List.length_set]; omega) | assumption | decide +kernel | fail) only [↓RP, RQ, isConstA, Nat.reduceEqDiff, Nat.reduceLT, Nat.reduceAdd, Int.reduceNeg, Int.reduceLT, Int.reduceLE, Int.reduceToNat, Int.reduceEq, ↓reduceIte, ite_true, ite_false, Option.toList, Nat.reduceMul, Nat.reduceSub, Nat.reduceLeDiff, ne_eq, eq_self, u_3, ag_3, sz_3, by_3, ze_3, es_3, u_9, ag_9, sz_9, by_9, ze_9, es_9, u_22, ag_22, sz_22, by_22, ze_22, es_22, u_23, ag_23, sz_23, by_23, ze_23, es_23, u_26, ag_26, sz_26, by_26, ze_26, es_26, ↓AW_loop, f14, f13, f0, f1, f2, f10, hmx, hrem, hadd]
      have t1 := t.app g
      have hla := t.ma.len
      have hlb := t.mb.len
      have hn1 := jj.n
      have hn2 := jj.n16
      have hn3 := jj.lenb
      refine FW.mono (out_q a' N (by omega) t1.ma (by omega) (jj.mbA hphi)) (fun v h1 hq => ?_)
      obtain ⟨rfl, ma1, u1⟩ := hq
      have t2 := t1.stepA ma1 u1
      simp -dsimp -implicitDefEqProofs (disch := first | omega | (simp only [stT, u_3, ag_3, sz_3, by_3, ze_3, es_3, u_9, ag_9, sz_9, by_9, ze_9, es_9, u_22, ag_22, sz_22, by_22, ze_22, es_22, u_23, ag_23, sz_23, by_23, ze_23, es_23, u_26, ag_26, sz_26, by_26, ze_26, es_26]; done) | (simp only [List.append_assoc, List.cons_append, List.nil_append, pre_n, pre_c, pre_a, pre_g, pre_r]; done) | (simp only [List.length_set]; done) | (simp only [List.length_set]; omega) | assumption | decide +kernel | fail) only [↓RP, RQ, isConstA, Nat.reduceEqDiff, Nat.reduceLT, Nat.reduceAdd, Int.reduceNeg, Int.reduceLT, Int.reduceLE, Int.reduceToNat, Int.reduceEq, ↓reduceIte, ite_true, ite_false, Option.toList, Nat.reduceMul, Nat.reduceSub, Nat.reduceLeDiff, ne_eq, eq_self, u_3, ag_3, sz_3, by_3, ze_3, es_3, u_9, ag_9, sz_9, by_9, ze_9, es_9, u_22, ag_22, sz_22, by_22, ze_22, es_22, u_23, ag_23, sz_23, by_23, ze_23, es_23, u_26, ag_26, sz_26, by_26, ze_26, es_26, ↓AW_loop, f14, f13, f0, f1, f2, f10]
      refine FW.mono (in_q JInv JInv.ok b' (outB N a').1 t2.mb (by omega) (fun _ => by have := jj.bg; omega) (fun _ _ => jj.jinv _ (by omega))) (fun v h2 hq => ?_)
      obtain ⟨rfl, sb2, ib2, mb2, u2⟩ := hq
      rw [e1] at mb2 ⊢
      have t3 := t2.stepB mb2 u2
      simp -dsimp -implicitDefEqProofs (disch := first | omega | (simp only [stT, u_3, ag_3, sz_3, by_3, ze_3, es_3, u_9, ag_9, sz_9, by_9, ze_9, es_9, u_22, ag_22, sz_22, by_22, ze_22, es_22, u_23, ag_23, sz_23, by_23, ze_23, es_23, u_26, ag_26, sz_26, by_26, ze_26, es_26]; done) | (simp only [List.append_assoc, List.cons_append, List.nil_append, pre_n, pre_c, pre_a, pre_g, pre_r]; done) | (simp only [List.length_set]; done) | (simp only [List.length_set]; omega) | assumption | decide +kernel | fail) only [↓RP, RQ, isConstA, Nat.reduceEqDiff, Nat.reduceLT, Nat.reduceAdd, Int.reduceNeg, Int.reduceLT, Int.reduceLE, Int.reduceToNat, Int.reduceEq, ↓reduceIte, ite_true, ite_false, Option.toList, Nat.reduceMul, Nat.reduceSub, Nat.reduceLeDiff, ne_eq, eq_self, u_3, ag_3, sz_3, by_3, ze_3, es_3, u_9, ag_9, sz_9, by_9, ze_9, es_9, u_22, ag_22, sz_22, by_22, ze_22, es_22, u_23, ag_23, sz_23, by_23, ze_23, es_23, u_26, ag_26, sz_26, by_26, ze_26, es_26, ↓AW_loop, f14, f13, f0, f1, f2, f10, f8]
      have hn4 := j2.lenb
      have hR1 := j2.rl
      refine FW.mono (reads_q (2 ^ 20) b1 R t3.mb (by omega) (j2.rokB (by omega)) (by decide) t3.oa t3.db1 (by omega) (fun i => by have := j2.rdle i; omega)) (fun v h3 hq => ?_)
      obtain ⟨la3, rfl, oa3, mb3, u3, hf3⟩ := hq
      have t4 := t3.readB mb3 oa3 hf3 u3
      simp -dsimp -implicitDefEqProofs (disch := first | omega | (simp only [stT, u_3, ag_3, sz_3, by_3, ze_3, es_3, u_9, ag_9, sz_9, by_9, ze_9, es_9, u_22, ag_22, sz_22, by_22, ze_22, es_22, u_23, ag_23, sz_23, by_23, ze_23, es_23, u_26, ag_26, sz_26, by_26, ze_26, es_26]; done) | (simp only [List.append_assoc, List.cons_append, List.nil_append, pre_n, pre_c, pre_a, pre_g, pre_r]; done) | (simp only [List.length_set]; done) | (simp only [List.length_set]; omega) | assumption | decide +kernel | fail) only [↓RP, RQ, isConstA, Nat.reduceEqDiff, Nat.reduceLT, Nat.reduceAdd, Int.reduceNeg, Int.reduceLT, Int.reduceLE, Int.reduceToNat, Int.reduceEq, ↓reduceIte, ite_true, ite_false, Option.toList, Nat.reduceMul, Nat.reduceSub, Nat.reduceLeDiff, ne_eq, eq_self, u_3, ag_3, sz_3, by_3, ze_3, es_3, u_9, ag_9, sz_9, by_9, ze_9, es_9, u_22, ag_22, sz_22, by_22, ze_22, es_22, u_23, ag_23, sz_23, by_23, ze_23, es_23, u_26, ag_26, sz_26, by_26, ze_26, es_26, ↓AW_loop, f14, f13, f0, f1, f2, f10]
      have hlb4 := t4.mb.len
      have hn5 := j3.lenb
      refine FW.mono (out_q (readAll b1 R).1 N (by omega) t4.mb (by omega) (j3.mbB (by omega))) (fun v h4 hq => ?_)
      obtain ⟨rfl, mb4, u4⟩ := hq
      have t5 := t4.stepB mb4 u4
      simp -dsimp -implicitDefEqProofs (disch := first | omega | (simp only [stT, u_3, ag_3, sz_3, by_3, ze_3, es_3, u_9, ag_9, sz_9, by_9, ze_9, es_9, u_22, ag_22, sz_22, by_22, ze_22, es_22, u_23, ag_23, sz_23, by_23, ze_23, es_23, u_26, ag_26, sz_26, by_26, ze_26, es_26]; done) | (simp only [List.append_assoc, List.cons_append, List.nil_append, pre_n, pre_c, pre_a, pre_g, pre_r]; done) | (simp only [List.length_set]; done) | (simp only [List.length_set]; omega) | assumption | decide +kernel | fail) only [↓RP, RQ, isConstA, Nat.reduceEqDiff, Nat.reduceLT, Nat.reduceAdd, Int.reduceNeg, Int.reduceLT, Int.reduceLE, Int.reduceToNat, Int.reduceEq, ↓reduceIte, ite_true, ite_false, Option.toList, Nat.reduceMul, Nat.reduceSub, Nat.reduceLeDiff, ne_eq, eq_self, u_3, ag_3, sz_3, by_3, ze_3, es_3, u_9, ag_9, sz_9, by_9, ze_9, es_9, u_22, ag_22, sz_22, by_22, ze_22, es_22, u_23, ag_23, sz_23, by_23, ze_23, es_23, u_26, ag_26, sz_26, by_26, ze_26, es_26, ↓AW_loop, f14, f13, f0, f1, f2, f10]
      refine FW.mono (in_q2 _ (IA.ok w ((outB N (readAll b1 R).1).2.ready ++ (outB N (readAll b1 R).1).2.control)) (outB N a').2 (outB N (readAll b1 R).1).1 t5.ma (by omega) (fun _ => by have := j4.ag; omega) (fun _ _ => j4.ia (by omega))) (fun v h5 hq => ?_)
      obtain ⟨rfl, sa6, ia6, ma6, u6⟩ := hq
      rw [e2] at ma6 ⊢
      have t6 := t5.stepA ma6 u6
      simp -dsimp -implicitDefEqProofs (disch := first | omega | (simp only [stT, u_3, ag_3, sz_3, by_3, ze_3, es_3, u_9, ag_9, sz_9, by_9, ze_9, es_9, u_22, ag_22, sz_22, by_22, ze_22, es_22, u_23, ag_23, sz_23, by_23, ze_23, es_23, u_26, ag_26, sz_26, by_26, ze_26, es_26]; done) | (simp only [List.append_assoc, List.cons_append, List.nil_append, pre_n, pre_c, pre_a, pre_g, pre_r]; done) | (simp only [List.length_set]; done) | (simp only [List.length_set]; omega) | assumption | decide +kernel | fail) only [↓RP, RQ, isConstA, Nat.reduceEqDiff, Nat.reduceLT, Nat.reduceAdd, Int.reduceNeg, Int.reduceLT, Int.reduceLE, Int.reduceToNat, Int.reduceEq, ↓reduceIte, ite_true, ite_false, Option.toList, Nat.reduceMul, Nat.reduceSub, Nat.reduceLeDiff, ne_eq, eq_self, u_3, ag_3, sz_3, by_3, ze_3, es_3, u_9, ag_9, sz_9, by_9, ze_9, es_9, u_22, ag_22, sz_22, by_22, ze_22, es_22, u_23, ag_23, sz_23, by_23, ze_23, es_23, u_26, ag_26, sz_26, by_26, ze_26, es_26, ↓AW_loop, f14, f13, f0, f1, f2, f10, f9]
      have hn6 := j5.n
      refine FW.mono (reads_q (2 ^ 20) a1 Q t6.ma (by omega) (j5.rokA (by omega)) (by decide) t6.ob t6.da2 (by omega) (fun i => by rw [hQ i]; simp)) (fun v h7 hq => ?_)
      obtain ⟨lb7, rfl, ob7, ma7, u7, hf7⟩ := hq
      have hnone : ∀ s, s ∈ a1.streams → s.inn = [] ∧ s.taken = 0 := fun s hs => by
        obtain ⟨i, hi⟩ := List.getElem?_of_mem hs
        obtain ⟨sb, t, h1, h2, r⟩ := j5.at hi
        exact ⟨r.inn, r.tak⟩
      obtain ⟨ql, qe⟩ := read_none2 a1 (by rw [j5.aw]; exact j5.w1) hnone a1.streams.length 0 Q rfl
      rw [show readGo a1.streams.length 0 a1 Q = readAll a1 Q from rfl] at ql qe
      rw [e3] at ma7
      have t7 := (t6.flip.readB ma7 ob7 hf7 u7).flip
      simp -dsimp -implicitDefEqProofs (disch := first | omega | (simp only [stT, u_3, ag_3, sz_3, by_3, ze_3, es_3, u_9, ag_9, sz_9, by_9, ze_9, es_9, u_22, ag_22, sz_22, by_22, ze_22, es_22, u_23, ag_23, sz_23, by_23, ze_23, es_23, u_26, ag_26, sz_26, by_26, ze_26, es_26]; done) | (simp only [List.append_assoc, List.cons_append, List.nil_append, pre_n, pre_c, pre_a, pre_g, pre_r]; done) | (simp only [List.length_set]; done) | (simp only [List.length_set]; omega) | assumption | decide +kernel | fail) only [↓RP, RQ, isConstA, Nat.reduceEqDiff, Nat.reduceLT, Nat.reduceAdd, Int.reduceNeg, Int.reduceLT, Int.reduceLE, Int.reduceToNat, Int.reduceEq, ↓reduceIte, ite_true, ite_false, Option.toList, Nat.reduceMul, Nat.reduceSub, Nat.reduceLeDiff, ne_eq, eq_self, u_3, ag_3, sz_3, by_3, ze_3, es_3, u_9, ag_9, sz_9, by_9, ze_9, es_9, u_22, ag_22, sz_22, by_22, ze_22, es_22, u_23, ag_23, sz_23, by_23, ze_23, es_23, u_26, ag_26, sz_26, by_26, ze_26, es_26, ↓AW_loop, f14, f13, f0, f1, f2, f10]
      exact ⟨rounds - (k + 1), by omega, k + 1, sa6, sb2, ia6, ib2, la3, lb7, a1, (outB N (readAll b1 R).1).2, (readAll b1 R).2, (readAll a1 Q).2, by omega, rfl, by congr 1, rfl, rfl, t7, ⟨_, _, _, j5⟩, hpr k C hprog, by omega, fun _ => hlen, by omega, fun i => by rw [qe, hQ]⟩
    · have hlt' : ¬ (k : Int) < rounds := by omega
      simp -dsimp -implicitDefEqProofs (disch := first | omega | (simp only [stT, u_3, ag_3, sz_3, by_3, ze_3, es_3, u_9, ag_9, sz_9, by_9, ze_9, es_9, u_22, ag_22, sz_22, by_22, ze_22, es_22, u_23, ag_23, sz_23, by_23, ze_23, es_23, u_26, ag_26, sz_26, by_26, ze_26, es_26]; done) | (simp only [List.append_assoc, List.cons_append, List.nil_append, pre_n, pre_c, pre_a, pre_g, pre_r]; done) | (simp only [List.length_set]; done) | (simp only [List.length_set]; omega) | assumption | decide +kernel | fail) only [↓RP, RQ, isConstA, Nat.reduceEqDiff, Nat.reduceLT, Nat.reduceAdd, Int.reduceNeg, Int.reduceLT, Int.reduceLE, Int.reduceToNat, Int.reduceEq, ↓reduceIte, ite_true, ite_false, Option.toList, Nat.reduceMul, Nat.reduceSub, Nat.reduceLeDiff, ne_eq, eq_self, u_3, ag_3, sz_3, by_3, ze_3, es_3, u_9, ag_9, sz_9, by_9, ze_9, es_9, u_22, ag_22, sz_22, by_22, ze_22, es_22, u_23, ag_23, sz_23, by_23, ze_23, es_23, u_26, ag_26, sz_26, by_26, ze_26, es_26, ↓AW_loop, f14, f13, f8, f9, hlt']
      obtain rfl : k = rounds := by omega
      have hcf : Clean a' b' ∧ Fin a' := by
        rcases hprog with hh | ⟨_, hh⟩ | hh
        · exact hh
        · omega
        · omega
      exact ⟨sa', sb', ia', ib', la, lb, a', b', R, Q, F', B', G', rfl, t, jj, hcf.1, hcf.2, hRl (by omega), hphi⟩
  · simp -dsimp -implicitDefEqProofs (disch := first | omega | (simp only [stT, u_3, ag_3, sz_3, by_3, ze_3, es_3, u_9, ag_9, sz_9, by_9, ze_9, es_9, u_22, ag_22, sz_22, by_22, ze_22, es_22, u_23, ag_23, sz_23, by_23, ze_23, es_23, u_26, ag_26, sz_26, by_26, ze_26, es_26]; done) | (simp only [List.append_assoc, List.cons_append, List.nil_append, pre_n, pre_c, pre_a, pre_g, pre_r]; done) | (simp only [List.length_set]; done) | (simp only [List.length_set]; omega) | assumption | decide +kernel | fail) only [↓RP, RQ, isConstA, Nat.reduceEqDiff, Nat.reduceLT, Nat.reduceAdd, Int.reduceNeg, Int.reduceLT, Int.reduceLE, Int.reduceToNat, Int.reduceEq, ↓reduceIte, ite_true, ite_false, Option.toList, Nat.reduceMul, Nat.reduceSub, Nat.reduceLeDiff, ne_eq, eq_self, u_3, ag_3, sz_3, by_3, ze_3, es_3, u_9, ag_9, sz_9, by_9, ze_9, es_9, u_22, ag_22, sz_22, by_22, ze_22, es_22, u_23, ag_23, sz_23, by_23, ze_23, es_23, u_26, ag_26, sz_26, by_26, ze_26, es_26, ↓AW_loop]
    exact ⟨rfl, rfl, tw, ⟨_, _, _, j⟩, .inr (.inr (by omega)), by omega, fun h => h.elim, fun i => by simp [rd]⟩
end Go.Abs
/- Mx25: lists of texts compared; ends that are built up for a talk. Conditions: none. -/
set_option maxRecDepth 100000
set_option linter.unusedSimpArgs false
set_option linter.unusedVariables false
namespace Go.Abs
open Go.Proofs
theorem same_q (R : List (List UInt8)) {h : AHeap} {la lb : Option Nat} (oa : OwnV h la (R.map strV)) (ob : OwnV h lb (R.map strV)) (hR : R.length < 2 ^ 40) : Quiet cx 21 [.slice (slA la) R.length R.length, .slice (slA lb) R.length R.length] h (.bool true) := by
  refine FW_f Try.func21 rfl (by decide +kernel) ?_
  simp -dsimp -implicitDefEqProofs (disch := first | omega | (simp only [stT, u_3, ag_3, sz_3, by_3, ze_3, es_3, u_4, ag_4, sz_4, by_4, ze_4, bo_4, es_4, u_9, ag_9, sz_9, by_9, ze_9, es_9, u_22, ag_22, sz_22, by_22, ze_22, es_22]; done) | (simp only [List.append_assoc, List.cons_append, List.nil_append, pre_n, pre_c, pre_a, pre_g, pre_r]; done) | (simp only [List.length_set]; done) | (simp only [List.length_set]; omega) | assumption | decide +kernel | fail) only [↓RP, RQ, isConstA, Nat.reduceEqDiff, Nat.reduceLT, Nat.reduceAdd, Int.reduceNeg, Int.reduceLT, Int.reduceLE, Int.reduceToNat, Int.reduceEq, ↓reduceIte, ite_true, ite_false, Option.toList, Nat.reduceMul, Nat.reduceSub, Nat.reduceLeDiff, ne_eq, eq_self, u_3, ag_3, sz_3, by_3, ze_3, es_3, u_4, ag_4, sz_4, by_4, ze_4, bo_4, es_4, u_9, ag_9, sz_9, by_9, ze_9, es_9, u_22, ag_22, sz_22, by_22, ze_22, es_22, ↓AW_loop]
  refine LW_rule (fun n fr h' => ∃ (i : Nat), i ≤ R.length ∧ n = R.length - i ∧ fget fr 13 = .int .i64 i ∧ fget fr 12 = .int .i64 R.length ∧ fget fr 0 = .slice (slA la) R.length R.length ∧ fget fr 1 = .slice (slA lb) R.length R.length ∧ h' = h) ?_ R.length _ _ ⟨0, by omega, rfl, ?_⟩
  · rintro n fr h' ⟨i, hi, hn, f13, f12, f0, f1, rfl⟩
    by_cases hlt : i < R.length
    · have hlt' : (i : Int) < R.length := by omega
      have hc : (R.map strV)[i]? = some (.string (str (rd R i))) := by
        rw [List.getElem?_map, List.getElem?_eq_getElem hlt]
        unfold rd; rw [List.getElem?_eq_getElem hlt]; rfl
      rcases oa with ⟨_, h0⟩ | ⟨p, rfl, hp⟩
      · have := congrArg List.length h0; rw [List.length_map] at this; simp at this; rw [this] at hlt; simp at hlt
      · rcases ob with ⟨_, h0⟩ | ⟨q, rfl, hq⟩
        · have := congrArg List.length h0; rw [List.length_map] at this; simp at this; rw [this] at hlt; simp at hlt
        · simp only [slA, Option.map_some] at f0 f1
          simp -dsimp -implicitDefEqProofs (disch := first | omega | (simp only [stT, u_3, ag_3, sz_3, by_3, ze_3, es_3, u_4, ag_4, sz_4, by_4, ze_4, bo_4, es_4, u_9, ag_9, sz_9, by_9, ze_9, es_9, u_22, ag_22, sz_22, by_22, ze_22, es_22]; done) | (simp only [List.append_assoc, List.cons_append, List.nil_append, pre_n, pre_c, pre_a, pre_g, pre_r]; done) | (simp only [List.length_set]; done) | (simp only [List.length_set]; omega) | assumption | decide +kernel | fail) only [↓RP, RQ, isConstA, Nat.reduceEqDiff, Nat.reduceLT, Nat.reduceAdd, Int.reduceNeg, Int.reduceLT, Int.reduceLE, Int.reduceToNat, Int.reduceEq, ↓reduceIte, ite_true, ite_false, Option.toList, Nat.reduceMul, Nat.reduceSub, Nat.reduceLeDiff, ne_eq, eq_self, u_3, ag_3, sz_3, by_3, ze_3, es_3, u_4, ag_4, sz_4, by_4, ze_4, bo_4, es_4, u_9, ag_9, sz_9, by_9, ze_9, es_9, u_22, ag_22, sz_22, by_22, ze_22, es_22, ↓AW_loop, f13, f12, f0, f1, hlt', hp, hq, hc]
          exact ⟨by decide +kernel, R.length - (i + 1), by omega, i + 1, by omega, rfl, rfl, rfl, rfl⟩
    · have hlt' : ¬ (i : Int) < R.length := by omega
      simp -dsimp -implicitDefEqProofs (disch := first | omega | (simp only [stT, u_3, ag_3, sz_3, by_3, ze_3, es_3, u_4, ag_4, sz_4, by_4, ze_4, bo_4, es_4, u_9, ag_9, sz_9, by_9, ze_9, es_9, u_22, ag_22, sz_22, by_22, ze_22, es_22]; done) | (simp only [List.append_assoc, List.cons_append, List.nil_append, pre_n, pre_c, pre_a, pre_g, pre_r]; done) | (simp only [List.length_set]; done) | (simp only [List.length_set]; omega) | assumption | decide +kernel | fail) only [↓RP, RQ, isConstA, Nat.reduceEqDiff, Nat.reduceLT, Nat.reduceAdd, Int.reduceNeg, Int.reduceLT, Int.reduceLE, Int.reduceToNat, Int.reduceEq, ↓reduceIte, ite_true, ite_false, Option.toList, Nat.reduceMul, Nat.reduceSub, Nat.reduceLeDiff, ne_eq, eq_self, u_3, ag_3, sz_3, by_3, ze_3, es_3, u_4, ag_4, sz_4, by_4, ze_4, bo_4, es_4, u_9, ag_9, sz_9, by_9, ze_9, es_9, u_22, ag_22, sz_22, by_22, ze_22, es_22, ↓AW_loop, f13, f12, hlt']
      exact Ext.refl _
  · simp -dsimp -implicitDefEqProofs (disch := first | omega | (simp only [stT, u_3, ag_3, sz_3, by_3, ze_3, es_3, u_4, ag_4, sz_4, by_4, ze_4, bo_4, es_4, u_9, ag_9, sz_9, by_9, ze_9, es_9, u_22, ag_22, sz_22, by_22, ze_22, es_22]; done) | (simp only [List.append_assoc, List.cons_append, List.nil_append, pre_n, pre_c, pre_a, pre_g, pre_r]; done) | (simp only [List.length_set]; done) | (simp only [List.length_set]; omega) | assumption | decide +kernel | fail) only [↓RP, RQ, isConstA, Nat.reduceEqDiff, Nat.reduceLT, Nat.reduceAdd, Int.reduceNeg, Int.reduceLT, Int.reduceLE, Int.reduceToNat, Int.reduceEq, ↓reduceIte, ite_true, ite_false, Option.toList, Nat.reduceMul, Nat.reduceSub, Nat.reduceLeDiff, ne_eq, eq_self, u_3, ag_3, sz_3, by_3, ze_3, es_3, u_4, ag_4, sz_4, by_4, ze_4, bo_4, es_4, u_9, ag_9, sz_9, by_9, ze_9, es_9, u_22, ag_22, sz_22, by_22, ze_22, es_22, ↓AW_loop]
theorem lastS_lt (m : MuxS) : ∀ (l : List Strm) (acc n : Nat), acc < n → (∀ s, s ∈ l → s.id < n) → l.foldl (fun a s => if ownS m s.id = true then a else s.id) acc < n
  | [], acc, n, h, _ => h
  | x :: l, acc, n, h, hs => by
    rw [List.foldl_cons]
    refine lastS_lt m l _ n ?_ fun s hs2 => hs s (by simp [hs2])
    split
    · exact h
    · exact hs x (by simp)
theorem ids_lt {ss : List Strm} (h : Ids ss) : ∀ s, s ∈ ss → s.id < 2 * ss.length + 1 := by
  intro s hs
  obtain ⟨i, hi⟩ := List.getElem?_of_mem hs
  have h1 := h i s hi
  have h2 := (List.getElem?_eq_some_iff.1 hi).1
  omega
theorem open_ok {w : Nat} {B : List Strm} (hB : Ids B) (hl : B.length < 16) {head : List UInt8} (hh : head.length ≤ 512) : stepL false w B ⟨2, 2 * B.length + 1, head⟩ = some (B ++ [newStrm (mk false w []) (2 * B.length + 1) head]) := by
  refine stepL_iff.2 (.inl ⟨rfl, ?_, rfl⟩)
  unfold openedE
  have e0 : (mk false w B).streams = B := rfl
  rw [e0, if_neg, if_neg]
  · have : countS (mk false w B) false B ≤ B.length := by unfold countS; exact List.length_filter_le _ _
    omega
  · rintro (h | h | h | h)
    · simp at h
    · unfold ownS at h
      have : (2 * B.length + 1) % 2 = 1 := by omega
      simp [mk, this] at h
    · have := lastS_lt (mk false w B) B 0 (2 * B.length + 1) (by omega) (ids_lt hB)
      unfold lastS at h
      simp only at h
      omega
    · simp only at h; omega
/-- The state behind an opening and a writing. -/
def openW (a : MuxS) (head text : List UInt8) (e : Bool) : MuxS := { openS a head with streams := a.streams ++ [{ newStrm a a.next head with out := text, ends := e }] }
theorem J.openW {w : Nat} {T : List Pl} {a b : MuxS} {F : List Fr} {B : List Strm} (j : J w T [] [] [] a b F B []) (hT : T.length < 16) (hn : a.next = 2 * T.length + 1) (head text : List UInt8) (e : Bool) (hh : head.length ≤ 512) (ht : text.length ≤ 4096) :
    J w (T ++ [⟨text, head, e, false⟩]) [] [] [] (openW a head text e) b (F ++ [⟨2, a.next, head⟩]) (B ++ [newStrm (Go.Abs.mk false w []) a.next head]) [] := by
  have hnl := j.n
  have hBl := j.lenB
  refine { j with n := ?_, n16 := ?_, tr := ?_, ids := ?_, wireF := ?_, okF := ?_, appF := ?_, lenB := ?_, rel := ?_, okG := fun f hf => by simp at hf }
  · simp only [Go.Abs.openW, List.length_append, List.length_singleton]; omega
  · simp only [List.length_append, List.length_singleton]; omega
  · intro t hm
    rcases List.mem_append.1 hm with hm | hm
    · exact j.tr t hm
    · rw [List.mem_singleton] at hm; subst hm; exact ⟨fun h => (by cases h), ht⟩
  · intro i s hs
    simp only [Go.Abs.openW] at hs
    by_cases hi : i < a.streams.length
    · rw [List.getElem?_append_left hi] at hs; exact j.ids i s hs
    · have hl := (List.getElem?_eq_some_iff.1 hs).1
      rw [List.length_append, List.length_singleton] at hl
      have hi2 : i = a.streams.length := by omega
      subst hi2
      rw [List.getElem?_append_right (Nat.le_refl _), Nat.sub_self] at hs
      cases hs
      simp only [newStrm]; omega
  · have := j.wireF
    simp only [Go.Abs.openW, openS]
    rw [encF_app, ← this, encF_cons, encF_nil]
    simp only [Fr.enc, List.append_assoc, List.append_nil]
  · intro f hf
    rcases List.mem_append.1 hf with hf | hf
    · exact j.okF f hf
    · rw [List.mem_singleton] at hf; subst hf
      exact ⟨(by decide : (2 : Nat) < 256), by simp only; omega, hh⟩
  · refine appL_app F _ b.streams B _ j.appF ?_
    rw [hn, ← hBl, appL, open_ok j.idsB (by omega) hh]
    rfl
  · simp only [List.length_append, List.length_singleton]; omega
  · intro i sa sb t h1 h2 h3
    simp only [Go.Abs.openW] at h1
    by_cases hi : i < T.length
    · rw [List.getElem?_append_left (by omega)] at h1 h2 h3
      exact j.rel i sa sb t h1 h2 h3
    · have hl := (List.getElem?_eq_some_iff.1 h3).1
      rw [List.length_append, List.length_singleton] at hl
      have hi2 : i = T.length := by omega
      subst hi2
      rw [List.getElem?_append_right (by omega), hnl, Nat.sub_self] at h1
      rw [List.getElem?_append_right (by omega), hBl, Nat.sub_self] at h2
      rw [List.getElem?_append_right (by omega), Nat.sub_self] at h3
      cases h1; cases h2; cases h3
      have haw := j.aw
      exact ⟨rfl, rfl, rfl, rfl, rfl, rfl, by simp only [newStrm, gsum_nil, haw]; rfl, by simp [newStrm, Go.Abs.mk], rfl, fun h => (by cases h), rfl, rfl, rfl, rfl, by simp only [newStrm, haw]; exact Nat.le_refl _⟩
theorem J.new {w : Nat} (h1 : 1 ≤ w) (h2 : w ≤ 256) : J w [] [] [] [] (newM true w) (newM false w) [] [] [] := by
  refine ⟨rfl, rfl, rfl, rfl, rfl, rfl, h1, h2, rfl, by simp, fun t h => by simp at h, fun i s h => by simp [newM] at h, rfl, fun f h => by simp at h, rfl, rfl, fun f h => by simp at h, rfl, fun i sa sb t h => by simp [newM] at h, fun s h => by simp [newM] at h, by simp [newM], by simp [newM], by simp [newM]⟩
/-! ### the ends of MuxBack -/
def text120 (b : List UInt8) : List UInt8 := b.take (min b.length 120)
def head3 (s : List UInt8) : List UInt8 := s.take (min s.length 3)
def planK (b : List UInt8) : Pl := ⟨text120 b, head3 (text120 b), true, false⟩
def stepK (m : MuxS) (b : List UInt8) : MuxS := openW m (head3 (text120 b)) (text120 b) true
structure KI (w : Nat) (l : List (List UInt8)) (m : MuxS) : Prop where
  j : ∃ F B, J w (l.map planK) [] [] [] m (newM false w) F B []
  nx : m.next = 2 * l.length + 1
  rd : m.ready = []
  pa : pA m ≤ 733 * l.length
  len : m.streams.length = l.length
  ct : m.control.length ≤ 8 * l.length
theorem text120_len (b : List UInt8) : (text120 b).length ≤ 120 := by unfold text120; rw [List.length_take]; omega
theorem head3_len (b : List UInt8) : (head3 b).length ≤ 3 := by unfold head3; rw [List.length_take]; omega
theorem KI.step {w : Nat} {l : List (List UInt8)} {m : MuxS} (k : KI w l m) (hl : l.length < 16) (b : List UInt8) : KI w (l ++ [b]) (stepK m b) := by
  obtain ⟨F, B, j⟩ := k.j
  have h1 := text120_len b
  have h2 := head3_len (text120 b)
  have hk := k.pa
  have hc := k.ct
  have hkl := k.len
  have jj := j.openW (by rw [List.length_map]; exact hl) (by rw [List.length_map]; exact k.nx) (head3 (text120 b)) (text120 b) true (by omega) (by omega)
  refine ⟨⟨_, _, by rw [List.map_append]; exact jj⟩, ?_, k.rd, ?_, ?_, ?_⟩
  · have := k.nx
    simp only [stepK, openW, openS, List.length_append, List.length_singleton]; omega
  · unfold pA at hk ⊢
    simp only [stepK, openW, openS, List.length_append, frameS_len, List.map_append, List.map_cons, List.map_nil, List.sum_append, List.sum_cons, List.sum_nil, List.length_singleton, cA, newStrm]
    simp only [Bool.false_eq_true, or_self, if_false]
    omega
  · simp only [stepK, openW, List.length_append, List.length_singleton]; omega
  · simp only [stepK, openW, openS, List.length_append, frameS_len, List.length_singleton]; omega
theorem KI.new {w : Nat} (h1 : 1 ≤ w) (h2 : w ≤ 256) : KI w [] (newM true w) := ⟨⟨_, _, J.new h1 h2⟩, rfl, rfl, by simp [pA, newM], rfl, by simp [newM]⟩
theorem left_le (T : List Pl) (c : Nat) (h : ∀ t, t ∈ T → t.text.length ≤ c) : left T [] ≤ c * T.length := by
  unfold left
  have key : ∀ n, n ≤ T.length → ((List.range n).map fun i => (txt T i).length - (rd [] i).length).sum ≤ c * n := by
    intro n
    induction n with
    | zero => intro _; simp
    | succ n ih =>
      intro hn
      rw [List.range_succ, List.map_append, List.sum_append]
      have := ih (by omega)
      have h2 : (txt T n).length ≤ c := by
        unfold txt
        rw [List.getElem?_eq_getElem (by omega)]
        exact h _ (List.getElem_mem _)
      simp only [List.map_cons, List.map_nil, List.sum_cons, List.sum_nil]
      rw [Nat.mul_succ]
      omega
  exact key _ (Nat.le_refl _)
theorem KI.phi {w : Nat} {l : List (List UInt8)} {m : MuxS} (k : KI w l m) (hl : l.length ≤ 4) : Phi (l.map planK) [] m (newM false w) + 5 ≤ 6300 := by
  have h1 := left_le (l.map planK) 120 (fun t ht => by
    obtain ⟨b, _, rfl⟩ := List.mem_map.1 ht
    exact text120_len b)
  rw [List.length_map] at h1
  have h2 := k.pa
  unfold Phi
  simp only [newM, List.length_nil]
  omega
end Go.Abs
/- Mx8: the law MuxPieces: its walk. Conditions: none. -/
set_option maxRecDepth 100000
set_option linter.unusedSimpArgs false
set_option linter.unusedVariables false
namespace Go.Abs
open Go.Proofs
theorem SlA.slice0 {α : Type} {f : α → List Value} {sz : Nat} {ro : Bool} {h : AHeap} {a : Option Addr} {l : List α} {P : Program} (s : SlA f sz ro h a l) {t e : TypeId} (hu : P.underlying t = some (.slice e)) (hs : sizeA P e = some sz) {m : Nat} (hm : a = none → m = 0) {lo hi : Option Value} {K : Value → Prop} :
    someP (sliceA P t (.slice a l.length m) lo hi h) K = someP (boundsA l.length lo hi) fun p => K (.slice (subA a p.1 sz) (p.2 - p.1) (p.2 - p.1)) := by
  have := s.slice hu hs hm (lo := lo) (hi := hi) (K := K) []
  rwa [List.append_nil] at this
theorem SlA.take {α : Type} {f : α → List Value} {sz : Nat} {ro : Bool} {h : AHeap} {a : Option Addr} {l : List α} (s : SlA f sz ro h a l) (hf : ∀ x, (f x).length = sz) (n : Nat) (hn : n ≤ l.length) : SlA f sz ro h (subA a 0 sz) (l.take n) := by
  have := s.sub hf (Nat.zero_le n) hn
  rwa [List.drop_zero, Nat.sub_zero] at this
theorem finM_eq {w : Nat} {m : MuxS} {j : Nat} (v : PInv w m j) (x : List UInt8) : finishM (writeM (openS m [104]) j (newStrm m m.next [104]) (textP x)) j { newStrm m m.next [104] with out := (newStrm m m.next [104]).out ++ (textP x).take (min (textP x).length (4096 - (newStrm m m.next [104]).out.length)) } = stepP m x := by
  have h1 := textP_len x
  have h2 : (textP x).take (min (textP x).length 4096) = textP x := List.take_of_length_le (by omega)
  simp only [finishM, writeM, openS, stepP, strP, newStrm, set_last v, List.length_nil, Nat.sub_zero, List.nil_append, h2]
theorem buildP_take {w : Nat} {l : List (List UInt8)} {j : Nat} {x : List UInt8} (hx : l[j]? = some x) : buildP w (l.take (j + 1)) = stepP (buildP w (l.take j)) x := by
  rw [List.take_add_one, hx]
  unfold buildP
  rw [List.foldl_append]
  rfl
def DoneP (M : MuxS) (o : List UInt8) : Prop := ∃ N, 2000 ≤ N ∧ o = (outB N M).1
theorem pieces_w (z : Int) (lb : List (List UInt8)) (ls : List Int) {ab ai : Option Addr} {mb mi : Nat} {h0 : AHeap} (hsb : SlA strE 1 true h0 ab lb) (hmb : ab = none → mb = 0) (hlb : lb.length < 2 ^ 50) (hsi : SlA intE 1 true h0 ai ls) (hls : ls.length < 2 ^ 50)
    (hok : ∀ x, x ∈ lb → x.length < 2 ^ 50) : FW cx 3 [.int .i64 z, .slice ab lb.length mb, .slice ai ls.length mi] h0 fun v _ => v = .bool true := by
  have hmin : foldA min2A (Value.int .i64 (lb.length : Int)) [.int .i64 4] = some (.int .i64 ((min lb.length 4 : Nat) : Int)) := by
    simp only [foldA, min2A]; congr 2; split <;> omega
  refine FW_f Try.func3 rfl (by decide +kernel) ?_
  obtain ⟨w, hw, hw1, hw2⟩ : ∃ w : Nat, max 1 (min z 256) = (w : Int) ∧ 1 ≤ w ∧ w ≤ 256 := ⟨(max 1 (min z 256)).toNat, by omega, by omega, by omega⟩
  simp -dsimp -implicitDefEqProofs (disch := first | omega | (simp only [stT, u_3, ag_3, sz_3, by_3, ze_3, es_3, u_4, ag_4, sz_4, by_4, ze_4, bo_4, es_4, u_9, ag_9, sz_9, by_9, ze_9, es_9, u_22, ag_22, sz_22, by_22, ze_22, es_22, u_23, ag_23, sz_23, by_23, ze_23, es_23, u_25, ag_25, sz_25, by_25, ze_25, es_25, u_26, ag_26, sz_26, by_26, ze_26, es_26, u_27, ag_27, sz_27, by_27, ze_27, es_27]; done) | (simp only [List.append_assoc, List.cons_append, List.nil_append, pre_n, pre_c, pre_a, pre_g, pre_r]; done) | (simp only [List.length_set]; done) | (simp only [List.length_set]; omega) | assumption | decide +kernel | fail) only [↓RP, RQ, isConstA, Nat.reduceEqDiff, Nat.reduceLT, Nat.reduceAdd, Int.reduceNeg, Int.reduceLT, Int.reduceLE, Int.reduceToNat, Int.reduceEq, ↓reduceIte, ite_true, ite_false, Option.toList, Nat.reduceMul, Nat.reduceSub, Nat.reduceLeDiff, ne_eq, eq_self, u_3, ag_3, sz_3, by_3, ze_3, es_3, u_4, ag_4, sz_4, by_4, ze_4, bo_4, es_4, u_9, ag_9, sz_9, by_9, ze_9, es_9, u_22, ag_22, sz_22, by_22, ze_22, es_22, u_23, ag_23, sz_23, by_23, ze_23, es_23, u_25, ag_25, sz_25, by_25, ze_25, es_25, u_26, ag_26, sz_26, by_26, ze_26, es_26, u_27, ag_27, sz_27, by_27, ze_27, es_27, ↓AW_loop, idx_arr u_25]
  refine (within_q z 1 256 _).use' fun g => ?_
  rw [hw]
  clear hw
  simp -dsimp -implicitDefEqProofs (disch := first | omega | (simp only [stT, u_3, ag_3, sz_3, by_3, ze_3, es_3, u_4, ag_4, sz_4, by_4, ze_4, bo_4, es_4, u_9, ag_9, sz_9, by_9, ze_9, es_9, u_22, ag_22, sz_22, by_22, ze_22, es_22, u_23, ag_23, sz_23, by_23, ze_23, es_23, u_25, ag_25, sz_25, by_25, ze_25, es_25, u_26, ag_26, sz_26, by_26, ze_26, es_26, u_27, ag_27, sz_27, by_27, ze_27, es_27]; done) | (simp only [List.append_assoc, List.cons_append, List.nil_append, pre_n, pre_c, pre_a, pre_g, pre_r]; done) | (simp only [List.length_set]; done) | (simp only [List.length_set]; omega) | assumption | decide +kernel | fail) only [↓RP, RQ, isConstA, Nat.reduceEqDiff, Nat.reduceLT, Nat.reduceAdd, Int.reduceNeg, Int.reduceLT, Int.reduceLE, Int.reduceToNat, Int.reduceEq, ↓reduceIte, ite_true, ite_false, Option.toList, Nat.reduceMul, Nat.reduceSub, Nat.reduceLeDiff, ne_eq, eq_self, u_3, ag_3, sz_3, by_3, ze_3, es_3, u_4, ag_4, sz_4, by_4, ze_4, bo_4, es_4, u_9, ag_9, sz_9, by_9, ze_9, es_9, u_22, ag_22, sz_22, by_22, ze_22, es_22, u_23, ag_23, sz_23, by_23, ze_23, es_23, u_25, ag_25, sz_25, by_25, ze_25, es_25, u_26, ag_26, sz_26, by_26, ze_26, es_26, u_27, ag_27, sz_27, by_27, ze_27, es_27, ↓AW_loop, idx_arr u_25]
  have hul : Upd h0 (h0 ++ (g ++ [some (.cells ⟨[.string (str []), .string (str [])], 1, false⟩)])) [] [] := Upd.app h0 _ _
  obtain ⟨M, hM⟩ : ∃ M, buildP w (lb.take (min lb.length 4)) = M := ⟨_, rfl⟩
  have inv := buildP_inv w (lb.take (min lb.length 4))
  have hml : (lb.take (min lb.length 4)).length = min lb.length 4 := by rw [List.length_take]; omega
  rw [hM, hml] at inv
  obtain ⟨ar, har⟩ : ∃ ar, h0.length + g.length = ar := ⟨_, rfl⟩
  refine LW_rule (fun n fr h' => ∃ (k : Nat) (o0 o1 : List UInt8), k ≤ 2 ∧ n = 2 - k ∧ fget fr 18 = .int .i64 k ∧ fget fr 0 = .int .i64 w ∧ fget fr 1 = .slice ab lb.length mb ∧ fget fr 2 = .slice ai ls.length mi ∧ fget fr 7 = .pointer (some ⟨ar, 0, none⟩) ∧
      blkA h' ar = some ⟨[.string (str o0), .string (str o1)], 1, false⟩ ∧ Upd h0 h' [] [] ∧ (1 ≤ k → o0 = (outB 4096 M).1) ∧ (k ≤ 1 → o1 = []) ∧ (2 ≤ k → DoneP M o1)) ?_ 2 _ _ ⟨0, [], [], by omega, rfl, ?_⟩
  · rintro n fr hk ⟨k, o0, o1, hk2, hn, f18, f0, f1, f2, f7, harr, hu0, ho0, ho1, hoN⟩
    have harl : ar < hk.length := blkA_lt harr
    by_cases hlt : k < 2
    · have hlt' : (k : Int) < 2 := by omega
      simp -dsimp -implicitDefEqProofs (disch := first | omega | (simp only [stT, u_3, ag_3, sz_3, by_3, ze_3, es_3, u_4, ag_4, sz_4, by_4, ze_4, bo_4, es_4, u_9, ag_9, sz_9, by_9, ze_9, es_9, u_22, ag_22, sz_22, by_22, ze_22, es_22, u_23, ag_23, sz_23, by_23, ze_23, es_23, u_25, ag_25, sz_25, by_25, ze_25, es_25, u_26, ag_26, sz_26, by_26, ze_26, es_26, u_27, ag_27, sz_27, by_27, ze_27, es_27]; done) | (simp only [List.append_assoc, List.cons_append, List.nil_append, pre_n, pre_c, pre_a, pre_g, pre_r]; done) | (simp only [List.length_set]; done) | (simp only [List.length_set]; omega) | assumption | decide +kernel | fail) only [↓RP, RQ, isConstA, Nat.reduceEqDiff, Nat.reduceLT, Nat.reduceAdd, Int.reduceNeg, Int.reduceLT, Int.reduceLE, Int.reduceToNat, Int.reduceEq, ↓reduceIte, ite_true, ite_false, Option.toList, Nat.reduceMul, Nat.reduceSub, Nat.reduceLeDiff, ne_eq, eq_self, u_3, ag_3, sz_3, by_3, ze_3, es_3, u_4, ag_4, sz_4, by_4, ze_4, bo_4, es_4, u_9, ag_9, sz_9, by_9, ze_9, es_9, u_22, ag_22, sz_22, by_22, ze_22, es_22, u_23, ag_23, sz_23, by_23, ze_23, es_23, u_25, ag_25, sz_25, by_25, ze_25, es_25, u_26, ag_26, sz_26, by_26, ze_26, es_26, u_27, ag_27, sz_27, by_27, ze_27, es_27, ↓AW_loop, idx_arr u_25, f18, hlt', f0]
      refine FW.mono (new_q true w hw1 hw2 hk) (fun v h1 hq => ?_)
      obtain ⟨rfl, a1, e1⟩ := hq
      have u1 : Upd hk h1 [] (foot hk.length none []) := by rw [e1]; exact (Upd.app hk _ []).to (by simp [foot])
      clear e1
      generalize hp : hk.length = p at a1 u1
      have hs1 := hsb.mono (hu0.trans u1).toExt
      simp -dsimp -implicitDefEqProofs (disch := first | omega | (simp only [stT, u_3, ag_3, sz_3, by_3, ze_3, es_3, u_4, ag_4, sz_4, by_4, ze_4, bo_4, es_4, u_9, ag_9, sz_9, by_9, ze_9, es_9, u_22, ag_22, sz_22, by_22, ze_22, es_22, u_23, ag_23, sz_23, by_23, ze_23, es_23, u_25, ag_25, sz_25, by_25, ze_25, es_25, u_26, ag_26, sz_26, by_26, ze_26, es_26, u_27, ag_27, sz_27, by_27, ze_27, es_27]; done) | (simp only [List.append_assoc, List.cons_append, List.nil_append, pre_n, pre_c, pre_a, pre_g, pre_r]; done) | (simp only [List.length_set]; done) | (simp only [List.length_set]; omega) | assumption | decide +kernel | fail) only [↓RP, RQ, isConstA, Nat.reduceEqDiff, Nat.reduceLT, Nat.reduceAdd, Int.reduceNeg, Int.reduceLT, Int.reduceLE, Int.reduceToNat, Int.reduceEq, ↓reduceIte, ite_true, ite_false, Option.toList, Nat.reduceMul, Nat.reduceSub, Nat.reduceLeDiff, ne_eq, eq_self, u_3, ag_3, sz_3, by_3, ze_3, es_3, u_4, ag_4, sz_4, by_4, ze_4, bo_4, es_4, u_9, ag_9, sz_9, by_9, ze_9, es_9, u_22, ag_22, sz_22, by_22, ze_22, es_22, u_23, ag_23, sz_23, by_23, ze_23, es_23, u_25, ag_25, sz_25, by_25, ze_25, es_25, u_26, ag_26, sz_26, by_26, ze_26, es_26, u_27, ag_27, sz_27, by_27, ze_27, es_27, ↓AW_loop, idx_arr u_25, ptrC, f1, hs1.slice0 u_22 sz_9 hmb, hmin]
      refine ⟨by omega, ?_⟩
      have hs2 := hsb.take (fun _ => rfl) (min lb.length 4) (by omega)
      obtain ⟨lt, hlt2⟩ : ∃ lt, lb.take (min lb.length 4) = lt := ⟨_, rfl⟩
      obtain ⟨nb, hnb⟩ : ∃ nb, min lb.length 4 = nb := ⟨_, rfl⟩
      have hokt : ∀ x, x ∈ lt → x.length < 2 ^ 50 := fun x hx => hok x (by rw [← hlt2] at hx; exact List.mem_of_mem_take hx)
      rw [hlt2] at hM hml hs2
      rw [hnb] at hml inv
      simp only [hnb]
      have hnb4 : nb ≤ 4 := by omega
      clear hmin
      generalize subA ab 0 1 = as2 at *
      refine LW_rule (fun n2 fr h' => ∃ (j : Nat), j ≤ nb ∧ n2 = nb - j ∧ fget fr 38 = .int .i64 j ∧ fget fr 37 = .int .i64 nb ∧ fget fr 36 = .slice as2 nb nb ∧ fget fr 9 = ptrC p ∧
          fget fr 18 = .int .i64 k ∧ fget fr 8 = .int .i64 k ∧ fget fr 0 = .int .i64 w ∧ fget fr 1 = .slice ab lb.length mb ∧ fget fr 2 = .slice ai ls.length mi ∧ fget fr 7 = .pointer (some ⟨ar, 0, none⟩) ∧
          ∃ sb ids, MuxAt h' p sb ids (buildP w (lt.take j)) ∧ Upd h1 h' (foot p none []) (foot p sb ids)) ?_ nb _ _ ⟨0, by omega, rfl, ?_⟩
      · rintro n2 fr h' ⟨j, hj, hn2, f38, f37, f36, f9, f18, f8, f0, f1, f2, f7, sb, ids, am, um⟩
        by_cases hjn : j < nb
        · have hjn' : (j : Int) < nb := by omega
          obtain ⟨x, hx⟩ : ∃ x, lt[j]? = some x := ⟨_, List.getElem?_eq_getElem (by omega)⟩
          have hxl := hokt x (List.mem_of_getElem? hx)
          have hs3 := hs2.mono (hu0.trans (u1.trans um)).toExt
          obtain ⟨b, o, cells, rfl, hb, hbX, hle, hch⟩ := hs3.get1 (g := fun z => .string (str z)) (fun _ => rfl) hx
          have iv := buildP_inv w (lt.take j)
          have hlj : (lt.take j).length = j := by rw [List.length_take]; omega
          rw [hlj] at iv
          obtain ⟨m, hm⟩ : ∃ m, buildP w (lt.take j) = m := ⟨_, rfl⟩
          rw [hm] at iv am
          simp -dsimp -implicitDefEqProofs (disch := first | omega | (simp only [stT, u_3, ag_3, sz_3, by_3, ze_3, es_3, u_4, ag_4, sz_4, by_4, ze_4, bo_4, es_4, u_9, ag_9, sz_9, by_9, ze_9, es_9, u_22, ag_22, sz_22, by_22, ze_22, es_22, u_23, ag_23, sz_23, by_23, ze_23, es_23, u_25, ag_25, sz_25, by_25, ze_25, es_25, u_26, ag_26, sz_26, by_26, ze_26, es_26, u_27, ag_27, sz_27, by_27, ze_27, es_27]; done) | (simp only [List.append_assoc, List.cons_append, List.nil_append, pre_n, pre_c, pre_a, pre_g, pre_r]; done) | (simp only [List.length_set]; done) | (simp only [List.length_set]; omega) | assumption | decide +kernel | fail) only [↓RP, RQ, isConstA, Nat.reduceEqDiff, Nat.reduceLT, Nat.reduceAdd, Int.reduceNeg, Int.reduceLT, Int.reduceLE, Int.reduceToNat, Int.reduceEq, ↓reduceIte, ite_true, ite_false, Option.toList, Nat.reduceMul, Nat.reduceSub, Nat.reduceLeDiff, ne_eq, eq_self, u_3, ag_3, sz_3, by_3, ze_3, es_3, u_4, ag_4, sz_4, by_4, ze_4, bo_4, es_4, u_9, ag_9, sz_9, by_9, ze_9, es_9, u_22, ag_22, sz_22, by_22, ze_22, es_22, u_23, ag_23, sz_23, by_23, ze_23, es_23, u_25, ag_25, sz_25, by_25, ze_25, es_25, u_26, ag_26, sz_26, by_26, ze_26, es_26, u_27, ag_27, sz_27, by_27, ze_27, es_27, ↓AW_loop, idx_arr u_25, f38, f37, f36, f9, hb, hle, hch, hjn']
          have hcl := countS_le m true m.streams
          have hil := am.len
          have hvl := iv.len
          have hvn := iv.nx
          have hvc := iv.ct
          refine FW.mono (open_q m [104] am iv.br (by decide) (by omega) (by omega) (by omega) (by omega) (fun s hs => (iv.str s hs).1)) (fun v h2 hq => ?_)
          obtain ⟨rfl, sb2, ids2, a2, u2⟩ := hq
          have hi2 : ids2.length = j + 1 := by rw [a2.len]; simp [openS, hvl]
          have hminx : foldA min2A (Value.int .i64 (x.length : Int)) [.int .i64 100] = some (.int .i64 ((min x.length 100 : Nat) : Int)) := by
            simp only [foldA, min2A]; congr 2; split <;> omega
          simp -dsimp -implicitDefEqProofs (disch := first | omega | (simp only [stT, u_3, ag_3, sz_3, by_3, ze_3, es_3, u_4, ag_4, sz_4, by_4, ze_4, bo_4, es_4, u_9, ag_9, sz_9, by_9, ze_9, es_9, u_22, ag_22, sz_22, by_22, ze_22, es_22, u_23, ag_23, sz_23, by_23, ze_23, es_23, u_25, ag_25, sz_25, by_25, ze_25, es_25, u_26, ag_26, sz_26, by_26, ze_26, es_26, u_27, ag_27, sz_27, by_27, ze_27, es_27]; done) | (simp only [List.append_assoc, List.cons_append, List.nil_append, pre_n, pre_c, pre_a, pre_g, pre_r]; done) | (simp only [List.length_set]; done) | (simp only [List.length_set]; omega) | assumption | decide +kernel | fail) only [↓RP, RQ, isConstA, Nat.reduceEqDiff, Nat.reduceLT, Nat.reduceAdd, Int.reduceNeg, Int.reduceLT, Int.reduceLE, Int.reduceToNat, Int.reduceEq, ↓reduceIte, ite_true, ite_false, Option.toList, Nat.reduceMul, Nat.reduceSub, Nat.reduceLeDiff, ne_eq, eq_self, u_3, ag_3, sz_3, by_3, ze_3, es_3, u_4, ag_4, sz_4, by_4, ze_4, bo_4, es_4, u_9, ag_9, sz_9, by_9, ze_9, es_9, u_22, ag_22, sz_22, by_22, ze_22, es_22, u_23, ag_23, sz_23, by_23, ze_23, es_23, u_25, ag_25, sz_25, by_25, ze_25, es_25, u_26, ag_26, sz_26, by_26, ze_26, es_26, u_27, ag_27, sz_27, by_27, ze_27, es_27, ↓AW_loop, idx_arr u_25, f38, f37, f36, f9, hminx]
          refine ⟨by omega, ?_⟩
          refine FW.mono (write_q (openS m [104]) m.next j (newStrm m m.next [104]) (textP x) a2 (by omega) iv.br (findS_last iv (newStrm m m.next [104]) rfl (openS m [104]) rfl) (get_last iv _) rfl rfl (by simp [newStrm]) (by have := textP_len x; omega)) (fun v h3 hq => ?_)
          obtain ⟨rfl, a3, u3⟩ := hq
          simp -dsimp -implicitDefEqProofs (disch := first | omega | (simp only [stT, u_3, ag_3, sz_3, by_3, ze_3, es_3, u_4, ag_4, sz_4, by_4, ze_4, bo_4, es_4, u_9, ag_9, sz_9, by_9, ze_9, es_9, u_22, ag_22, sz_22, by_22, ze_22, es_22, u_23, ag_23, sz_23, by_23, ze_23, es_23, u_25, ag_25, sz_25, by_25, ze_25, es_25, u_26, ag_26, sz_26, by_26, ze_26, es_26, u_27, ag_27, sz_27, by_27, ze_27, es_27]; done) | (simp only [List.append_assoc, List.cons_append, List.nil_append, pre_n, pre_c, pre_a, pre_g, pre_r]; done) | (simp only [List.length_set]; done) | (simp only [List.length_set]; omega) | assumption | decide +kernel | fail) only [↓RP, RQ, isConstA, Nat.reduceEqDiff, Nat.reduceLT, Nat.reduceAdd, Int.reduceNeg, Int.reduceLT, Int.reduceLE, Int.reduceToNat, Int.reduceEq, ↓reduceIte, ite_true, ite_false, Option.toList, Nat.reduceMul, Nat.reduceSub, Nat.reduceLeDiff, ne_eq, eq_self, u_3, ag_3, sz_3, by_3, ze_3, es_3, u_4, ag_4, sz_4, by_4, ze_4, bo_4, es_4, u_9, ag_9, sz_9, by_9, ze_9, es_9, u_22, ag_22, sz_22, by_22, ze_22, es_22, u_23, ag_23, sz_23, by_23, ze_23, es_23, u_25, ag_25, sz_25, by_25, ze_25, es_25, u_26, ag_26, sz_26, by_26, ze_26, es_26, u_27, ag_27, sz_27, by_27, ze_27, es_27, ↓AW_loop, idx_arr u_25, f38, f37, f36, f9]
          refine FW.mono (finish_q _ m.next j { newStrm m m.next [104] with out := (newStrm m m.next [104]).out ++ (textP x).take (min (textP x).length (4096 - (newStrm m m.next [104]).out.length)) } a3 (by omega) iv.br (findS_last iv _ rfl _ (set_last iv _ _)) (by rw [writeM, openS]; simp only; rw [set_last iv, get_last iv]) rfl rfl) (fun v h4 hq => ?_)
          obtain ⟨rfl, a4, u4⟩ := hq
          rw [finM_eq iv] at a4
          simp -dsimp -implicitDefEqProofs (disch := first | omega | (simp only [stT, u_3, ag_3, sz_3, by_3, ze_3, es_3, u_4, ag_4, sz_4, by_4, ze_4, bo_4, es_4, u_9, ag_9, sz_9, by_9, ze_9, es_9, u_22, ag_22, sz_22, by_22, ze_22, es_22, u_23, ag_23, sz_23, by_23, ze_23, es_23, u_25, ag_25, sz_25, by_25, ze_25, es_25, u_26, ag_26, sz_26, by_26, ze_26, es_26, u_27, ag_27, sz_27, by_27, ze_27, es_27]; done) | (simp only [List.append_assoc, List.cons_append, List.nil_append, pre_n, pre_c, pre_a, pre_g, pre_r]; done) | (simp only [List.length_set]; done) | (simp only [List.length_set]; omega) | assumption | decide +kernel | fail) only [↓RP, RQ, isConstA, Nat.reduceEqDiff, Nat.reduceLT, Nat.reduceAdd, Int.reduceNeg, Int.reduceLT, Int.reduceLE, Int.reduceToNat, Int.reduceEq, ↓reduceIte, ite_true, ite_false, Option.toList, Nat.reduceMul, Nat.reduceSub, Nat.reduceLeDiff, ne_eq, eq_self, u_3, ag_3, sz_3, by_3, ze_3, es_3, u_4, ag_4, sz_4, by_4, ze_4, bo_4, es_4, u_9, ag_9, sz_9, by_9, ze_9, es_9, u_22, ag_22, sz_22, by_22, ze_22, es_22, u_23, ag_23, sz_23, by_23, ze_23, es_23, u_25, ag_25, sz_25, by_25, ze_25, es_25, u_26, ag_26, sz_26, by_26, ze_26, es_26, u_27, ag_27, sz_27, by_27, ze_27, es_27, ↓AW_loop, idx_arr u_25, f38, f37, f36, f9]
          exact ⟨nb - (j + 1), by omega, j + 1, by omega, rfl, rfl, f18, f8, f0, f1, f2, f7, sb2, ids2, by rw [buildP_take hx, hm]; exact a4, ((um.trans u2).trans u3).trans u4⟩
        · have hjn' : ¬ (j : Int) < nb := by omega
          have hj2 : j = nb := by omega
          subst hj2
          rw [List.take_of_length_le (by omega), hM] at am
          have uk := u1.trans um
          have hfar : ar ∉ foot p sb ids := fun hq => by rcases uk.own ar hq with h | h; simp at h; omega
          have hil := am.len
          rw [inv.len] at hil
          have h0ar : h0.length ≤ ar := by omega
          by_cases hk0 : k = 0
          · have hk0' : (k : Int) = 0 := by omega
            simp -dsimp -implicitDefEqProofs (disch := first | omega | (simp only [stT, u_3, ag_3, sz_3, by_3, ze_3, es_3, u_4, ag_4, sz_4, by_4, ze_4, bo_4, es_4, u_9, ag_9, sz_9, by_9, ze_9, es_9, u_22, ag_22, sz_22, by_22, ze_22, es_22, u_23, ag_23, sz_23, by_23, ze_23, es_23, u_25, ag_25, sz_25, by_25, ze_25, es_25, u_26, ag_26, sz_26, by_26, ze_26, es_26, u_27, ag_27, sz_27, by_27, ze_27, es_27]; done) | (simp only [List.append_assoc, List.cons_append, List.nil_append, pre_n, pre_c, pre_a, pre_g, pre_r]; done) | (simp only [List.length_set]; done) | (simp only [List.length_set]; omega) | assumption | decide +kernel | fail) only [↓RP, RQ, isConstA, Nat.reduceEqDiff, Nat.reduceLT, Nat.reduceAdd, Int.reduceNeg, Int.reduceLT, Int.reduceLE, Int.reduceToNat, Int.reduceEq, ↓reduceIte, ite_true, ite_false, Option.toList, Nat.reduceMul, Nat.reduceSub, Nat.reduceLeDiff, ne_eq, eq_self, u_3, ag_3, sz_3, by_3, ze_3, es_3, u_4, ag_4, sz_4, by_4, ze_4, bo_4, es_4, u_9, ag_9, sz_9, by_9, ze_9, es_9, u_22, ag_22, sz_22, by_22, ze_22, es_22, u_23, ag_23, sz_23, by_23, ze_23, es_23, u_25, ag_25, sz_25, by_25, ze_25, es_25, u_26, ag_26, sz_26, by_26, ze_26, es_26, u_27, ag_27, sz_27, by_27, ze_27, es_27, ↓AW_loop, idx_arr u_25, f38, f37, hjn', f8, f18, f7, f2, f1, f0, f9, hk0']
            refine FW.mono (out_q M 4096 (by decide) am (by omega) (inv.mb hw2 hnb4)) (fun v h2 hq => ?_)
            obtain ⟨rfl, a2, u2⟩ := hq
            have uk2 := uk.trans u2
            have harr2 := uk2.blk (by simp) harr
            have harl2 := blkA_lt harr2
            simp -dsimp -implicitDefEqProofs (disch := first | omega | (simp only [stT, u_3, ag_3, sz_3, by_3, ze_3, es_3, u_4, ag_4, sz_4, by_4, ze_4, bo_4, es_4, u_9, ag_9, sz_9, by_9, ze_9, es_9, u_22, ag_22, sz_22, by_22, ze_22, es_22, u_23, ag_23, sz_23, by_23, ze_23, es_23, u_25, ag_25, sz_25, by_25, ze_25, es_25, u_26, ag_26, sz_26, by_26, ze_26, es_26, u_27, ag_27, sz_27, by_27, ze_27, es_27]; done) | (simp only [List.append_assoc, List.cons_append, List.nil_append, pre_n, pre_c, pre_a, pre_g, pre_r]; done) | (simp only [List.length_set]; done) | (simp only [List.length_set]; omega) | assumption | decide +kernel | fail) only [↓RP, RQ, isConstA, Nat.reduceEqDiff, Nat.reduceLT, Nat.reduceAdd, Int.reduceNeg, Int.reduceLT, Int.reduceLE, Int.reduceToNat, Int.reduceEq, ↓reduceIte, ite_true, ite_false, Option.toList, Nat.reduceMul, Nat.reduceSub, Nat.reduceLeDiff, ne_eq, eq_self, u_3, ag_3, sz_3, by_3, ze_3, es_3, u_4, ag_4, sz_4, by_4, ze_4, bo_4, es_4, u_9, ag_9, sz_9, by_9, ze_9, es_9, u_22, ag_22, sz_22, by_22, ze_22, es_22, u_23, ag_23, sz_23, by_23, ze_23, es_23, u_25, ag_25, sz_25, by_25, ze_25, es_25, u_26, ag_26, sz_26, by_26, ze_26, es_26, u_27, ag_27, sz_27, by_27, ze_27, es_27, ↓AW_loop, idx_arr u_25, f38, f37, f8, f18, f7, f2, f1, f0, f9, hk0', harr2]
            exact ⟨by decide, 1, by omega, 1, _, o1, by decide, rfl, rfl, rfl, ((hu0.trans uk2).setNew h0ar).to (by simp), fun _ => rfl, fun _ => ho1 (by omega), fun h => absurd h (by decide)⟩
          · have hk1' : (k : Int) = 1 := by omega
            simp -dsimp -implicitDefEqProofs (disch := first | omega | (simp only [stT, u_3, ag_3, sz_3, by_3, ze_3, es_3, u_4, ag_4, sz_4, by_4, ze_4, bo_4, es_4, u_9, ag_9, sz_9, by_9, ze_9, es_9, u_22, ag_22, sz_22, by_22, ze_22, es_22, u_23, ag_23, sz_23, by_23, ze_23, es_23, u_25, ag_25, sz_25, by_25, ze_25, es_25, u_26, ag_26, sz_26, by_26, ze_26, es_26, u_27, ag_27, sz_27, by_27, ze_27, es_27]; done) | (simp only [List.append_assoc, List.cons_append, List.nil_append, pre_n, pre_c, pre_a, pre_g, pre_r]; done) | (simp only [List.length_set]; done) | (simp only [List.length_set]; omega) | assumption | decide +kernel | fail) only [↓RP, RQ, isConstA, Nat.reduceEqDiff, Nat.reduceLT, Nat.reduceAdd, Int.reduceNeg, Int.reduceLT, Int.reduceLE, Int.reduceToNat, Int.reduceEq, ↓reduceIte, ite_true, ite_false, Option.toList, Nat.reduceMul, Nat.reduceSub, Nat.reduceLeDiff, ne_eq, eq_self, u_3, ag_3, sz_3, by_3, ze_3, es_3, u_4, ag_4, sz_4, by_4, ze_4, bo_4, es_4, u_9, ag_9, sz_9, by_9, ze_9, es_9, u_22, ag_22, sz_22, by_22, ze_22, es_22, u_23, ag_23, sz_23, by_23, ze_23, es_23, u_25, ag_25, sz_25, by_25, ze_25, es_25, u_26, ag_26, sz_26, by_26, ze_26, es_26, u_27, ag_27, sz_27, by_27, ze_27, es_27, ↓AW_loop, idx_arr u_25, f38, f37, hjn', f8, f18, f7, f2, f1, f0, f9, hk1']
            have harr1 := uk.blk (by simp) harr
            rw [ho1 (by omega)] at harr1
            refine LW_rule (fun n fr h3 => ∃ (i N : Nat), i ≤ 2000 ∧ n = 2000 - i ∧ fget fr 65 = .int .i64 i ∧ fget fr 9 = ptrC p ∧ fget fr 18 = .int .i64 1 ∧ fget fr 8 = .int .i64 1 ∧ fget fr 0 = .int .i64 w ∧ fget fr 1 = .slice ab lb.length mb ∧ fget fr 2 = .slice ai ls.length mi ∧ fget fr 7 = .pointer (some ⟨ar, 0, none⟩) ∧
                MuxAt h3 p sb ids (outB N M).2 ∧ blkA h3 ar = some ⟨[.string (str o0), .string (str (outB N M).1)], 1, false⟩ ∧ i ≤ N ∧ N ≤ 90 * i ∧ Upd h0 h3 [] []) ?_ 2000 _ _ ⟨0, 0, by omega, rfl, ?_⟩
            · rintro n3 fr h3 ⟨i, N, hi, hn3, f65, f9, f18, f8, f0, f1, f2, f7, a3, harr3, hiN, hN9, hu3⟩
              by_cases hin : i < 2000
              · have hin' : (i : Int) < 2000 := by omega
                have hsi3 := hsi.mono hu3.toExt
                simp -dsimp -implicitDefEqProofs (disch := first | omega | (simp only [stT, u_3, ag_3, sz_3, by_3, ze_3, es_3, u_4, ag_4, sz_4, by_4, ze_4, bo_4, es_4, u_9, ag_9, sz_9, by_9, ze_9, es_9, u_22, ag_22, sz_22, by_22, ze_22, es_22, u_23, ag_23, sz_23, by_23, ze_23, es_23, u_25, ag_25, sz_25, by_25, ze_25, es_25, u_26, ag_26, sz_26, by_26, ze_26, es_26, u_27, ag_27, sz_27, by_27, ze_27, es_27]; done) | (simp only [List.append_assoc, List.cons_append, List.nil_append, pre_n, pre_c, pre_a, pre_g, pre_r]; done) | (simp only [List.length_set]; done) | (simp only [List.length_set]; omega) | assumption | decide +kernel | fail) only [↓RP, RQ, isConstA, Nat.reduceEqDiff, Nat.reduceLT, Nat.reduceAdd, Int.reduceNeg, Int.reduceLT, Int.reduceLE, Int.reduceToNat, Int.reduceEq, ↓reduceIte, ite_true, ite_false, Option.toList, Nat.reduceMul, Nat.reduceSub, Nat.reduceLeDiff, ne_eq, eq_self, u_3, ag_3, sz_3, by_3, ze_3, es_3, u_4, ag_4, sz_4, by_4, ze_4, bo_4, es_4, u_9, ag_9, sz_9, by_9, ze_9, es_9, u_22, ag_22, sz_22, by_22, ze_22, es_22, u_23, ag_23, sz_23, by_23, ze_23, es_23, u_25, ag_25, sz_25, by_25, ze_25, es_25, u_26, ag_26, sz_26, by_26, ze_26, es_26, u_27, ag_27, sz_27, by_27, ze_27, es_27, ↓AW_loop, idx_arr u_25, f65, f9, f18, f8, f7, f2, hin', harr3]
                refine ⟨by decide +kernel, ?_⟩
                (repeat (refine And.intro (by omega) ?_))
                refine FW.mono (at_q ls i 20 (by omega) hsi3 hls) (fun v h4 hq => ?_)
                obtain ⟨rfl, e4⟩ := hq
                have harr4 := e4.blk harr3
                refine DQ_fx1 (t := 9) (u := 69) (v := .pointer (some ⟨ar, 1, none⟩)) (by kernel_rfl) (by simp -dsimp -implicitDefEqProofs (disch := first | omega | (simp only [stT, u_3, ag_3, sz_3, by_3, ze_3, es_3, u_4, ag_4, sz_4, by_4, ze_4, bo_4, es_4, u_9, ag_9, sz_9, by_9, ze_9, es_9, u_22, ag_22, sz_22, by_22, ze_22, es_22, u_23, ag_23, sz_23, by_23, ze_23, es_23, u_25, ag_25, sz_25, by_25, ze_25, es_25, u_26, ag_26, sz_26, by_26, ze_26, es_26, u_27, ag_27, sz_27, by_27, ze_27, es_27]; done) | (simp only [List.append_assoc, List.cons_append, List.nil_append, pre_n, pre_c, pre_a, pre_g, pre_r]; done) | (simp only [List.length_set]; done) | (simp only [List.length_set]; omega) | assumption | decide +kernel | fail) only [↓RP, RQ, isConstA, Nat.reduceEqDiff, Nat.reduceLT, Nat.reduceAdd, Int.reduceNeg, Int.reduceLT, Int.reduceLE, Int.reduceToNat, Int.reduceEq, ↓reduceIte, ite_true, ite_false, Option.toList, Nat.reduceMul, Nat.reduceSub, Nat.reduceLeDiff, ne_eq, eq_self, u_3, ag_3, sz_3, by_3, ze_3, es_3, u_4, ag_4, sz_4, by_4, ze_4, bo_4, es_4, u_9, ag_9, sz_9, by_9, ze_9, es_9, u_22, ag_22, sz_22, by_22, ze_22, es_22, u_23, ag_23, sz_23, by_23, ze_23, es_23, u_25, ag_25, sz_25, by_25, ze_25, es_25, u_26, ag_26, sz_26, by_26, ze_26, es_26, u_27, ag_27, sz_27, by_27, ze_27, es_27, ↓AW_loop, idx_arr u_25, f65, f9, f18, f8, f7, f2]) ?_ ?_
                · rw [loadA_eq, loadA_eq, harr3, harr4]
                · have hmx : foldA max2A (Value.int .i64 0) [.int .i64 (atS ls i 20)] = some (.int .i64 (((max 0 (atS ls i 20)).toNat : Nat) : Int)) := by
                    simp only [foldA, max2A]; congr 2; split <;> omega
                  generalize (max 0 (atS ls i 20)).toNat = c at hmx
                  have hrem : (c : Int).tmod 90 = ((c % 90 : Nat) : Int) := (Int.ofNat_tmod _ 90).symm
                  have hadd : (1 : Int) + ((c % 90 : Nat) : Int) = ((1 + c % 90 : Nat) : Int) := by omega
                  obtain ⟨t, ht⟩ : ∃ t, 1 + c % 90 = t := ⟨_, rfl⟩
                  rw [ht] at hadd
                  simp -dsimp -implicitDefEqProofs (disch := first | omega | (simp only [stT, u_3, ag_3, sz_3, by_3, ze_3, es_3, u_4, ag_4, sz_4, by_4, ze_4, bo_4, es_4, u_9, ag_9, sz_9, by_9, ze_9, es_9, u_22, ag_22, sz_22, by_22, ze_22, es_22, u_23, ag_23, sz_23, by_23, ze_23, es_23, u_25, ag_25, sz_25, by_25, ze_25, es_25, u_26, ag_26, sz_26, by_26, ze_26, es_26, u_27, ag_27, sz_27, by_27, ze_27, es_27]; done) | (simp only [List.append_assoc, List.cons_append, List.nil_append, pre_n, pre_c, pre_a, pre_g, pre_r]; done) | (simp only [List.length_set]; done) | (simp only [List.length_set]; omega) | assumption | decide +kernel | fail) only [↓RP, RQ, isConstA, Nat.reduceEqDiff, Nat.reduceLT, Nat.reduceAdd, Int.reduceNeg, Int.reduceLT, Int.reduceLE, Int.reduceToNat, Int.reduceEq, ↓reduceIte, ite_true, ite_false, Option.toList, Nat.reduceMul, Nat.reduceSub, Nat.reduceLeDiff, ne_eq, eq_self, u_3, ag_3, sz_3, by_3, ze_3, es_3, u_4, ag_4, sz_4, by_4, ze_4, bo_4, es_4, u_9, ag_9, sz_9, by_9, ze_9, es_9, u_22, ag_22, sz_22, by_22, ze_22, es_22, u_23, ag_23, sz_23, by_23, ze_23, es_23, u_25, ag_25, sz_25, by_25, ze_25, es_25, u_26, ag_26, sz_26, by_26, ze_26, es_26, u_27, ag_27, sz_27, by_27, ze_27, es_27, ↓AW_loop, idx_arr u_25, f65, f9, f18, f8, f7, f2, hin', harr4, hmx, hrem, hadd]
                  refine FW.mono (out_q (outB N M).2 t (by omega) (a3.ext e4) (by omega) (outB_MB N M (inv.mb hw2 hnb4))) (fun v h5 hq => ?_)
                  obtain ⟨rfl, a5, u5⟩ := hq
                  have harr5 := u5.blk hfar harr4
                  have hl1 := outB_len N M
                  have hl2 := outB_len t (outB N M).2
                  have u05 := hu3.trans ((Upd.ext [] e4))
                  refine DQ_fx1 (t := 9) (u := 69) (v := .pointer (some ⟨ar, 1, none⟩)) (by kernel_rfl) (by simp -dsimp -implicitDefEqProofs (disch := first | omega | (simp only [stT, u_3, ag_3, sz_3, by_3, ze_3, es_3, u_4, ag_4, sz_4, by_4, ze_4, bo_4, es_4, u_9, ag_9, sz_9, by_9, ze_9, es_9, u_22, ag_22, sz_22, by_22, ze_22, es_22, u_23, ag_23, sz_23, by_23, ze_23, es_23, u_25, ag_25, sz_25, by_25, ze_25, es_25, u_26, ag_26, sz_26, by_26, ze_26, es_26, u_27, ag_27, sz_27, by_27, ze_27, es_27]; done) | (simp only [List.append_assoc, List.cons_append, List.nil_append, pre_n, pre_c, pre_a, pre_g, pre_r]; done) | (simp only [List.length_set]; done) | (simp only [List.length_set]; omega) | assumption | decide +kernel | fail) only [↓RP, RQ, isConstA, Nat.reduceEqDiff, Nat.reduceLT, Nat.reduceAdd, Int.reduceNeg, Int.reduceLT, Int.reduceLE, Int.reduceToNat, Int.reduceEq, ↓reduceIte, ite_true, ite_false, Option.toList, Nat.reduceMul, Nat.reduceSub, Nat.reduceLeDiff, ne_eq, eq_self, u_3, ag_3, sz_3, by_3, ze_3, es_3, u_4, ag_4, sz_4, by_4, ze_4, bo_4, es_4, u_9, ag_9, sz_9, by_9, ze_9, es_9, u_22, ag_22, sz_22, by_22, ze_22, es_22, u_23, ag_23, sz_23, by_23, ze_23, es_23, u_25, ag_25, sz_25, by_25, ze_25, es_25, u_26, ag_26, sz_26, by_26, ze_26, es_26, u_27, ag_27, sz_27, by_27, ze_27, es_27, ↓AW_loop, idx_arr u_25, f65, f9, f18, f8, f7, f2]) ?_ ?_
                  · rw [loadA_eq, loadA_eq, harr4, harr5]
                  · simp -dsimp -implicitDefEqProofs (disch := first | omega | (simp only [stT, u_3, ag_3, sz_3, by_3, ze_3, es_3, u_4, ag_4, sz_4, by_4, ze_4, bo_4, es_4, u_9, ag_9, sz_9, by_9, ze_9, es_9, u_22, ag_22, sz_22, by_22, ze_22, es_22, u_23, ag_23, sz_23, by_23, ze_23, es_23, u_25, ag_25, sz_25, by_25, ze_25, es_25, u_26, ag_26, sz_26, by_26, ze_26, es_26, u_27, ag_27, sz_27, by_27, ze_27, es_27]; done) | (simp only [List.append_assoc, List.cons_append, List.nil_append, pre_n, pre_c, pre_a, pre_g, pre_r]; done) | (simp only [List.length_set]; done) | (simp only [List.length_set]; omega) | assumption | decide +kernel | fail) only [↓RP, RQ, isConstA, Nat.reduceEqDiff, Nat.reduceLT, Nat.reduceAdd, Int.reduceNeg, Int.reduceLT, Int.reduceLE, Int.reduceToNat, Int.reduceEq, ↓reduceIte, ite_true, ite_false, Option.toList, Nat.reduceMul, Nat.reduceSub, Nat.reduceLeDiff, ne_eq, eq_self, u_3, ag_3, sz_3, by_3, ze_3, es_3, u_4, ag_4, sz_4, by_4, ze_4, bo_4, es_4, u_9, ag_9, sz_9, by_9, ze_9, es_9, u_22, ag_22, sz_22, by_22, ze_22, es_22, u_23, ag_23, sz_23, by_23, ze_23, es_23, u_25, ag_25, sz_25, by_25, ze_25, es_25, u_26, ag_26, sz_26, by_26, ze_26, es_26, u_27, ag_27, sz_27, by_27, ze_27, es_27, ↓AW_loop, idx_arr u_25, f65, f9, f18, f8, f7, f2, hin', harr5]
                    have hadd2 := outB_add N t M
                    have hu5 : Upd h0 h5 [] (foot p sb ids) := (u05.to (G := foot p sb ids) (fun q hq => .inr (by
                      rcases uk.own q hq with h | h
                      · simp at h
                      · have := hu0.len; omega))).trans u5
                    refine ⟨by omega, by decide, 2000 - (i + 1), by omega, i + 1, N + t, by omega, rfl, by congr 1, f0, f1, ?_, ?_, by omega, by omega, (hu5.setNew h0ar).to (by simp)⟩
                    · rw [hadd2]
                      exact a5.same fun q hq => by rw [List.getElem?_set_ne (fun e => hfar (by rw [e]; exact hq))]
                    · rw [hadd2]
                      exact blk_setB0 (blkA_lt harr5)
              · have hin' : ¬ (i : Int) < 2000 := by omega
                simp -dsimp -implicitDefEqProofs (disch := first | omega | (simp only [stT, u_3, ag_3, sz_3, by_3, ze_3, es_3, u_4, ag_4, sz_4, by_4, ze_4, bo_4, es_4, u_9, ag_9, sz_9, by_9, ze_9, es_9, u_22, ag_22, sz_22, by_22, ze_22, es_22, u_23, ag_23, sz_23, by_23, ze_23, es_23, u_25, ag_25, sz_25, by_25, ze_25, es_25, u_26, ag_26, sz_26, by_26, ze_26, es_26, u_27, ag_27, sz_27, by_27, ze_27, es_27]; done) | (simp only [List.append_assoc, List.cons_append, List.nil_append, pre_n, pre_c, pre_a, pre_g, pre_r]; done) | (simp only [List.length_set]; done) | (simp only [List.length_set]; omega) | assumption | decide +kernel | fail) only [↓RP, RQ, isConstA, Nat.reduceEqDiff, Nat.reduceLT, Nat.reduceAdd, Int.reduceNeg, Int.reduceLT, Int.reduceLE, Int.reduceToNat, Int.reduceEq, ↓reduceIte, ite_true, ite_false, Option.toList, Nat.reduceMul, Nat.reduceSub, Nat.reduceLeDiff, ne_eq, eq_self, u_3, ag_3, sz_3, by_3, ze_3, es_3, u_4, ag_4, sz_4, by_4, ze_4, bo_4, es_4, u_9, ag_9, sz_9, by_9, ze_9, es_9, u_22, ag_22, sz_22, by_22, ze_22, es_22, u_23, ag_23, sz_23, by_23, ze_23, es_23, u_25, ag_25, sz_25, by_25, ze_25, es_25, u_26, ag_26, sz_26, by_26, ze_26, es_26, u_27, ag_27, sz_27, by_27, ze_27, es_27, ↓AW_loop, idx_arr u_25, f65, f18, hin']
                exact ⟨0, by omega, 2, o0, (outB N M).1, by decide, rfl, rfl, f0, f1, f2, f7, harr3, hu3, fun _ => ho0 (by omega), fun h => absurd h (by decide), fun _ => ⟨N, by omega, rfl⟩⟩
            · simp -dsimp -implicitDefEqProofs (disch := first | omega | (simp only [stT, u_3, ag_3, sz_3, by_3, ze_3, es_3, u_4, ag_4, sz_4, by_4, ze_4, bo_4, es_4, u_9, ag_9, sz_9, by_9, ze_9, es_9, u_22, ag_22, sz_22, by_22, ze_22, es_22, u_23, ag_23, sz_23, by_23, ze_23, es_23, u_25, ag_25, sz_25, by_25, ze_25, es_25, u_26, ag_26, sz_26, by_26, ze_26, es_26, u_27, ag_27, sz_27, by_27, ze_27, es_27]; done) | (simp only [List.append_assoc, List.cons_append, List.nil_append, pre_n, pre_c, pre_a, pre_g, pre_r]; done) | (simp only [List.length_set]; done) | (simp only [List.length_set]; omega) | assumption | decide +kernel | fail) only [↓RP, RQ, isConstA, Nat.reduceEqDiff, Nat.reduceLT, Nat.reduceAdd, Int.reduceNeg, Int.reduceLT, Int.reduceLE, Int.reduceToNat, Int.reduceEq, ↓reduceIte, ite_true, ite_false, Option.toList, Nat.reduceMul, Nat.reduceSub, Nat.reduceLeDiff, ne_eq, eq_self, u_3, ag_3, sz_3, by_3, ze_3, es_3, u_4, ag_4, sz_4, by_4, ze_4, bo_4, es_4, u_9, ag_9, sz_9, by_9, ze_9, es_9, u_22, ag_22, sz_22, by_22, ze_22, es_22, u_23, ag_23, sz_23, by_23, ze_23, es_23, u_25, ag_25, sz_25, by_25, ze_25, es_25, u_26, ag_26, sz_26, by_26, ze_26, es_26, u_27, ag_27, sz_27, by_27, ze_27, es_27, ↓AW_loop, idx_arr u_25, f18, f8, f0, f1, f2, f7, f9, hk1']
              exact ⟨am, harr1, (hu0.trans uk).to (by simp)⟩
      · simp -dsimp -implicitDefEqProofs (disch := first | omega | (simp only [stT, u_3, ag_3, sz_3, by_3, ze_3, es_3, u_4, ag_4, sz_4, by_4, ze_4, bo_4, es_4, u_9, ag_9, sz_9, by_9, ze_9, es_9, u_22, ag_22, sz_22, by_22, ze_22, es_22, u_23, ag_23, sz_23, by_23, ze_23, es_23, u_25, ag_25, sz_25, by_25, ze_25, es_25, u_26, ag_26, sz_26, by_26, ze_26, es_26, u_27, ag_27, sz_27, by_27, ze_27, es_27]; done) | (simp only [List.append_assoc, List.cons_append, List.nil_append, pre_n, pre_c, pre_a, pre_g, pre_r]; done) | (simp only [List.length_set]; done) | (simp only [List.length_set]; omega) | assumption | decide +kernel | fail) only [↓RP, RQ, isConstA, Nat.reduceEqDiff, Nat.reduceLT, Nat.reduceAdd, Int.reduceNeg, Int.reduceLT, Int.reduceLE, Int.reduceToNat, Int.reduceEq, ↓reduceIte, ite_true, ite_false, Option.toList, Nat.reduceMul, Nat.reduceSub, Nat.reduceLeDiff, ne_eq, eq_self, u_3, ag_3, sz_3, by_3, ze_3, es_3, u_4, ag_4, sz_4, by_4, ze_4, bo_4, es_4, u_9, ag_9, sz_9, by_9, ze_9, es_9, u_22, ag_22, sz_22, by_22, ze_22, es_22, u_23, ag_23, sz_23, by_23, ze_23, es_23, u_25, ag_25, sz_25, by_25, ze_25, es_25, u_26, ag_26, sz_26, by_26, ze_26, es_26, u_27, ag_27, sz_27, by_27, ze_27, es_27, ↓AW_loop, idx_arr u_25]
        exact ⟨rfl, f18, f0, f1, f2, f7, none, [], a1, Upd.refl _ _⟩
    · have hlt' : ¬ (k : Int) < 2 := by omega
      simp -dsimp -implicitDefEqProofs (disch := first | omega | (simp only [stT, u_3, ag_3, sz_3, by_3, ze_3, es_3, u_4, ag_4, sz_4, by_4, ze_4, bo_4, es_4, u_9, ag_9, sz_9, by_9, ze_9, es_9, u_22, ag_22, sz_22, by_22, ze_22, es_22, u_23, ag_23, sz_23, by_23, ze_23, es_23, u_25, ag_25, sz_25, by_25, ze_25, es_25, u_26, ag_26, sz_26, by_26, ze_26, es_26, u_27, ag_27, sz_27, by_27, ze_27, es_27]; done) | (simp only [List.append_assoc, List.cons_append, List.nil_append, pre_n, pre_c, pre_a, pre_g, pre_r]; done) | (simp only [List.length_set]; done) | (simp only [List.length_set]; omega) | assumption | decide +kernel | fail) only [↓RP, RQ, isConstA, Nat.reduceEqDiff, Nat.reduceLT, Nat.reduceAdd, Int.reduceNeg, Int.reduceLT, Int.reduceLE, Int.reduceToNat, Int.reduceEq, ↓reduceIte, ite_true, ite_false, Option.toList, Nat.reduceMul, Nat.reduceSub, Nat.reduceLeDiff, ne_eq, eq_self, u_3, ag_3, sz_3, by_3, ze_3, es_3, u_4, ag_4, sz_4, by_4, ze_4, bo_4, es_4, u_9, ag_9, sz_9, by_9, ze_9, es_9, u_22, ag_22, sz_22, by_22, ze_22, es_22, u_23, ag_23, sz_23, by_23, ze_23, es_23, u_25, ag_25, sz_25, by_25, ze_25, es_25, u_26, ag_26, sz_26, by_26, ze_26, es_26, u_27, ag_27, sz_27, by_27, ze_27, es_27, ↓AW_loop, idx_arr u_25, f18, hlt']
      refine FW.mono (fact_q hk) (fun v h2 hq => ?_)
      obtain ⟨rfl, u2⟩ := hq
      have harr2 := u2.blk (by simp) harr
      obtain ⟨N, hN, heN⟩ := hoN (by omega)
      have heq : o0 = o1 := by rw [ho0 (by omega), heN]; exact pieces_law inv (by omega) _ _ (by decide) hN
      subst heq
      simp -dsimp -implicitDefEqProofs (disch := first | omega | (simp only [stT, u_3, ag_3, sz_3, by_3, ze_3, es_3, u_4, ag_4, sz_4, by_4, ze_4, bo_4, es_4, u_9, ag_9, sz_9, by_9, ze_9, es_9, u_22, ag_22, sz_22, by_22, ze_22, es_22, u_23, ag_23, sz_23, by_23, ze_23, es_23, u_25, ag_25, sz_25, by_25, ze_25, es_25, u_26, ag_26, sz_26, by_26, ze_26, es_26, u_27, ag_27, sz_27, by_27, ze_27, es_27]; done) | (simp only [List.append_assoc, List.cons_append, List.nil_append, pre_n, pre_c, pre_a, pre_g, pre_r]; done) | (simp only [List.length_set]; done) | (simp only [List.length_set]; omega) | assumption | decide +kernel | fail) only [↓RP, RQ, isConstA, Nat.reduceEqDiff, Nat.reduceLT, Nat.reduceAdd, Int.reduceNeg, Int.reduceLT, Int.reduceLE, Int.reduceToNat, Int.reduceEq, ↓reduceIte, ite_true, ite_false, Option.toList, Nat.reduceMul, Nat.reduceSub, Nat.reduceLeDiff, ne_eq, eq_self, u_3, ag_3, sz_3, by_3, ze_3, es_3, u_4, ag_4, sz_4, by_4, ze_4, bo_4, es_4, u_9, ag_9, sz_9, by_9, ze_9, es_9, u_22, ag_22, sz_22, by_22, ze_22, es_22, u_23, ag_23, sz_23, by_23, ze_23, es_23, u_25, ag_25, sz_25, by_25, ze_25, es_25, u_26, ag_26, sz_26, by_26, ze_26, es_26, u_27, ag_27, sz_27, by_27, ze_27, es_27, ↓AW_loop, idx_arr u_25, f7, harr2]
      exact ⟨by decide, by decide⟩
  · simp -dsimp -implicitDefEqProofs (disch := first | omega | (simp only [stT, u_3, ag_3, sz_3, by_3, ze_3, es_3, u_4, ag_4, sz_4, by_4, ze_4, bo_4, es_4, u_9, ag_9, sz_9, by_9, ze_9, es_9, u_22, ag_22, sz_22, by_22, ze_22, es_22, u_23, ag_23, sz_23, by_23, ze_23, es_23, u_25, ag_25, sz_25, by_25, ze_25, es_25, u_26, ag_26, sz_26, by_26, ze_26, es_26, u_27, ag_27, sz_27, by_27, ze_27, es_27]; done) | (simp only [List.append_assoc, List.cons_append, List.nil_append, pre_n, pre_c, pre_a, pre_g, pre_r]; done) | (simp only [List.length_set]; done) | (simp only [List.length_set]; omega) | assumption | decide +kernel | fail) only [↓RP, RQ, isConstA, Nat.reduceEqDiff, Nat.reduceLT, Nat.reduceAdd, Int.reduceNeg, Int.reduceLT, Int.reduceLE, Int.reduceToNat, Int.reduceEq, ↓reduceIte, ite_true, ite_false, Option.toList, Nat.reduceMul, Nat.reduceSub, Nat.reduceLeDiff, ne_eq, eq_self, u_3, ag_3, sz_3, by_3, ze_3, es_3, u_4, ag_4, sz_4, by_4, ze_4, bo_4, es_4, u_9, ag_9, sz_9, by_9, ze_9, es_9, u_22, ag_22, sz_22, by_22, ze_22, es_22, u_23, ag_23, sz_23, by_23, ze_23, es_23, u_25, ag_25, sz_25, by_25, ze_25, es_25, u_26, ag_26, sz_26, by_26, ze_26, es_26, u_27, ag_27, sz_27, by_27, ze_27, es_27, ↓AW_loop, idx_arr u_25]
    rw [har]
    refine ⟨rfl, ?_, hul, by simp, by simp, by simp⟩
    rw [← har, ← List.append_assoc, ← List.length_append]
    exact blkA_new _ _
end Go.Abs
/- Mx26: the law MuxBack: its walk. Conditions: none. -/
set_option maxRecDepth 100000
set_option linter.unusedSimpArgs false
set_option linter.unusedVariables false
namespace Go.Abs
open Go.Proofs
theorem ids_snoc {ss : List Strm} (h : Ids ss) (s : Strm) (hs : s.id = 2 * ss.length + 1) : Ids (ss ++ [s]) := by
  intro i t ht
  by_cases hi : i < ss.length
  · rw [List.getElem?_append_left hi] at ht; exact h i t ht
  · have hl := (List.getElem?_eq_some_iff.1 ht).1
    rw [List.length_append, List.length_singleton] at hl
    have hi2 : i = ss.length := by omega
    subst hi2
    rw [List.getElem?_append_right (Nat.le_refl _), Nat.sub_self] at ht
    cases ht
    exact hs
theorem snoc_get {ss : List Strm} {n : Nat} (h : ss.length = n) (s : Strm) : (ss ++ [s])[n]? = some s := by
  rw [List.getElem?_append_right (by omega), h, Nat.sub_self]; rfl
theorem snoc_set {ss : List Strm} {n : Nat} (h : ss.length = n) (s t : Strm) : (ss ++ [s]).set n t = ss ++ [t] := by
  rw [List.set_append_right (h := by omega), h, Nat.sub_self]; rfl
theorem finK_eq {m : MuxS} {n : Nat} (hn : m.streams.length = n) (head text : List UInt8) (ht : text.length ≤ 4096) : finishM (writeM (openS m head) n (newStrm m m.next head) text) n { newStrm m m.next head with out := (newStrm m m.next head).out ++ text.take (min text.length (4096 - (newStrm m m.next head).out.length)) } = openW m head text true := by
  have h2 : text.take (min text.length 4096) = text := List.take_of_length_le (by omega)
  simp only [finishM, writeM, openS, openW, newStrm, snoc_set hn, List.length_nil, Nat.sub_zero, List.nil_append, h2]
theorem SlA.keep {α : Type} {f : α → List Value} {sz : Nat} {ro : Bool} {h h' : AHeap} {a : Option Addr} {l : List α} (s : SlA f sz ro h a l) (hk : ∀ q, q < h.length → h'[q]? = h[q]?) : SlA f sz ro h' a l := by
  rcases s with s | ⟨b, o, cells, h1, h2, h3⟩
  · exact .inl s
  · refine .inr ⟨b, o, cells, h1, ?_, h3⟩
    have hl := blkA_lt h2
    unfold blkA at h2 ⊢
    rw [hk b hl]; exact h2
/-- What a list is kept in stands while others talk. -/
theorem TW.guard {h0 h : AHeap} {pa pb : Nat} {sa sb : Option Nat} {ia ib : List Nat} {wb : Option Nat} {a b : MuxS} {W : List (List UInt8)} (t : TW (fun q => q < h0.length) h0 h pa pb sa sb ia ib wb none a b W []) : TW (fun q => q < h0.length ∨ wb = some q) h h pa pb sa sb ia ib none none a b [] [] where
  ma := t.ma
  mb := t.mb
  oa := .inl ⟨rfl, rfl⟩
  ob := .inl ⟨rfl, rfl⟩
  dab := t.dab
  da1 := fun q h => by cases h
  db1 := fun q h => by cases h
  da2 := fun q h => by cases h
  db2 := fun q h => by cases h
  dl := fun q h => by cases h
  na := fun q hq hw => by
    rcases hw with hw | hw
    · exact t.na q hq hw
    · exact t.da1 q hw hq
  nb := fun q hq hw => by
    rcases hw with hw | hw
    · exact t.nb q hq hw
    · exact t.db1 q hw hq
  n1 := fun q h => by cases h
  n2 := fun q h => by cases h
  wl := fun q hw => by
    rcases hw with hw | hw
    · exact Nat.lt_of_lt_of_le hw t.len
    · exact t.oa.lt hw
  len := Nat.le_refl _
  keep := fun q _ => rfl
theorem TW.list {Wp : Nat → Prop} {hW h H : AHeap} {pa pb : Nat} {sa sb : Option Nat} {ia ib : List Nat} {la la' lb : Option Nat} {a b : MuxS} {R R' Q : List (List UInt8)} (t : TW Wp hW h pa pb sa sb ia ib la lb a b R Q) (o : OwnV H la' (R'.map strV)) (u : Upd h H la.toList la'.toList) : TW Wp hW H pa pb sa sb ia ib la' lb a b R' Q := by
  have h1 : ∀ q, q ∈ foot pb sb ib → q ∉ la.toList := fun q hq hm => t.db1 q (by simpa using hm) hq
  refine t.readB (t.mb.upd u h1) o (fun q hq hm => ?_) ((u.from (G := la.toList ++ foot pb sb ib) (fun q hq => by simp only [List.mem_append]; exact .inl hq)).to fun q hq => ?_)
  · rcases u.own q (by simp [hq]) with h2 | h2
    · exact h1 q hm h2
    · have := t.mb.fl q hm; omega
  · rcases List.mem_append.1 hq with hq | hq
    · rcases u.own q hq with h2 | h2
      · exact .inl (by simp only [List.mem_append]; exact .inl h2)
      · exact .inr h2
    · exact .inl (by simp only [List.mem_append]; exact .inr hq)
theorem rd_ext {R W : List (List UInt8)} (hl : R.length = W.length) (h : ∀ i, i < W.length → rd R i = rd W i) : R = W := by
  apply List.ext_getElem?
  intro i
  by_cases hi : i < W.length
  · have := h i hi
    unfold rd at this
    rw [List.getElem?_eq_getElem (by omega), List.getElem?_eq_getElem hi] at this ⊢
    simpa using this
  · rw [List.getElem?_eq_none (by omega), List.getElem?_eq_none (by omega)]
theorem back_w (z : Int) (lb : List (List UInt8)) (ls : List Int) {ab ai : Option Addr} {mb mi : Nat} {h0 : AHeap} (hsb : SlA strE 1 true h0 ab lb) (hmb : ab = none → mb = 0) (hlb : lb.length < 2 ^ 50) (hsi : SlA intE 1 true h0 ai ls) (hls : ls.length < 2 ^ 50)
    (hok : ∀ x, x ∈ lb → x.length < 2 ^ 50) : FW cx 6 [.int .i64 z, .slice ab lb.length mb, .slice ai ls.length mi] h0 fun v _ => v = .bool true := by
  have hmin : foldA min2A (Value.int .i64 (lb.length : Int)) [.int .i64 4] = some (.int .i64 ((min lb.length 4 : Nat) : Int)) := by
    simp only [foldA, min2A]; congr 2; split <;> omega
  refine FW_f Try.func6 rfl (by decide +kernel) ?_
  obtain ⟨w, hw, hw1, hw2⟩ : ∃ w : Nat, max 1 (min z 256) = (w : Int) ∧ 1 ≤ w ∧ w ≤ 256 := ⟨(max 1 (min z 256)).toNat, by omega, by omega, by omega⟩
  simp -dsimp -implicitDefEqProofs (disch := first | omega | (simp only [stT, u_1, ag_1, sz_1, by_1, ze_1, es_1, u_3, ag_3, sz_3, by_3, ze_3, es_3, u_4, ag_4, sz_4, by_4, ze_4, bo_4, es_4, u_9, ag_9, sz_9, by_9, ze_9, es_9, u_22, ag_22, sz_22, by_22, ze_22, es_22, u_23, ag_23, sz_23, by_23, ze_23, es_23, u_26, ag_26, sz_26, by_26, ze_26, es_26, u_27, ag_27, sz_27, by_27, ze_27, es_27]; done) | (simp only [List.append_assoc, List.cons_append, List.nil_append, pre_n, pre_c, pre_a, pre_g, pre_r]; done) | (simp only [List.length_set]; done) | (simp only [List.length_set]; omega) | assumption | decide +kernel | fail) only [↓RP, RQ, isConstA, Nat.reduceEqDiff, Nat.reduceLT, Nat.reduceAdd, Int.reduceNeg, Int.reduceLT, Int.reduceLE, Int.reduceToNat, Int.reduceEq, ↓reduceIte, ite_true, ite_false, Option.toList, Nat.reduceMul, Nat.reduceSub, Nat.reduceLeDiff, ne_eq, eq_self, u_1, ag_1, sz_1, by_1, ze_1, es_1, u_3, ag_3, sz_3, by_3, ze_3, es_3, u_4, ag_4, sz_4, by_4, ze_4, bo_4, es_4, u_9, ag_9, sz_9, by_9, ze_9, es_9, u_22, ag_22, sz_22, by_22, ze_22, es_22, u_23, ag_23, sz_23, by_23, ze_23, es_23, u_26, ag_26, sz_26, by_26, ze_26, es_26, u_27, ag_27, sz_27, by_27, ze_27, es_27, ↓AW_loop]
  refine (within_q z 1 256 _).use' fun g => ?_
  rw [hw]
  clear hw
  simp -dsimp -implicitDefEqProofs (disch := first | omega | (simp only [stT, u_1, ag_1, sz_1, by_1, ze_1, es_1, u_3, ag_3, sz_3, by_3, ze_3, es_3, u_4, ag_4, sz_4, by_4, ze_4, bo_4, es_4, u_9, ag_9, sz_9, by_9, ze_9, es_9, u_22, ag_22, sz_22, by_22, ze_22, es_22, u_23, ag_23, sz_23, by_23, ze_23, es_23, u_26, ag_26, sz_26, by_26, ze_26, es_26, u_27, ag_27, sz_27, by_27, ze_27, es_27]; done) | (simp only [List.append_assoc, List.cons_append, List.nil_append, pre_n, pre_c, pre_a, pre_g, pre_r]; done) | (simp only [List.length_set]; done) | (simp only [List.length_set]; omega) | assumption | decide +kernel | fail) only [↓RP, RQ, isConstA, Nat.reduceEqDiff, Nat.reduceLT, Nat.reduceAdd, Int.reduceNeg, Int.reduceLT, Int.reduceLE, Int.reduceToNat, Int.reduceEq, ↓reduceIte, ite_true, ite_false, Option.toList, Nat.reduceMul, Nat.reduceSub, Nat.reduceLeDiff, ne_eq, eq_self, u_1, ag_1, sz_1, by_1, ze_1, es_1, u_3, ag_3, sz_3, by_3, ze_3, es_3, u_4, ag_4, sz_4, by_4, ze_4, bo_4, es_4, u_9, ag_9, sz_9, by_9, ze_9, es_9, u_22, ag_22, sz_22, by_22, ze_22, es_22, u_23, ag_23, sz_23, by_23, ze_23, es_23, u_26, ag_26, sz_26, by_26, ze_26, es_26, u_27, ag_27, sz_27, by_27, ze_27, es_27, ↓AW_loop]
  refine FW.mono (new_q true w hw1 hw2 _) (fun v h1 hq => ?_)
  obtain ⟨rfl, a1, e1⟩ := hq
  have ex1 : Ext h0 h1 := by rw [e1, List.append_assoc]; exact Ext.app _ _
  have hpa : h0.length ≤ (h0 ++ g).length := by simp
  have hpal : (h0 ++ g).length < h1.length := by rw [e1]; simp
  clear e1
  generalize (h0 ++ g).length = pa at a1 hpa hpal
  simp -dsimp -implicitDefEqProofs (disch := first | omega | (simp only [stT, u_1, ag_1, sz_1, by_1, ze_1, es_1, u_3, ag_3, sz_3, by_3, ze_3, es_3, u_4, ag_4, sz_4, by_4, ze_4, bo_4, es_4, u_9, ag_9, sz_9, by_9, ze_9, es_9, u_22, ag_22, sz_22, by_22, ze_22, es_22, u_23, ag_23, sz_23, by_23, ze_23, es_23, u_26, ag_26, sz_26, by_26, ze_26, es_26, u_27, ag_27, sz_27, by_27, ze_27, es_27]; done) | (simp only [List.append_assoc, List.cons_append, List.nil_append, pre_n, pre_c, pre_a, pre_g, pre_r]; done) | (simp only [List.length_set]; done) | (simp only [List.length_set]; omega) | assumption | decide +kernel | fail) only [↓RP, RQ, isConstA, Nat.reduceEqDiff, Nat.reduceLT, Nat.reduceAdd, Int.reduceNeg, Int.reduceLT, Int.reduceLE, Int.reduceToNat, Int.reduceEq, ↓reduceIte, ite_true, ite_false, Option.toList, Nat.reduceMul, Nat.reduceSub, Nat.reduceLeDiff, ne_eq, eq_self, u_1, ag_1, sz_1, by_1, ze_1, es_1, u_3, ag_3, sz_3, by_3, ze_3, es_3, u_4, ag_4, sz_4, by_4, ze_4, bo_4, es_4, u_9, ag_9, sz_9, by_9, ze_9, es_9, u_22, ag_22, sz_22, by_22, ze_22, es_22, u_23, ag_23, sz_23, by_23, ze_23, es_23, u_26, ag_26, sz_26, by_26, ze_26, es_26, u_27, ag_27, sz_27, by_27, ze_27, es_27, ↓AW_loop]
  refine FW.mono (new_q false w hw1 hw2 h1) (fun v h2 hq => ?_)
  obtain ⟨rfl, b2, e2⟩ := hq
  have ex2 : Ext h1 h2 := by rw [e2]; exact Ext.app _ _
  have a2 := a1.ext ex2
  clear e2
  have hpb : pa < h1.length := hpal
  generalize h1.length = pb at b2 hpb
  have hne : ptrC pa ≠ .pointer none := by unfold ptrC; simp
  simp -dsimp -implicitDefEqProofs (disch := first | omega | (simp only [stT, u_1, ag_1, sz_1, by_1, ze_1, es_1, u_3, ag_3, sz_3, by_3, ze_3, es_3, u_4, ag_4, sz_4, by_4, ze_4, bo_4, es_4, u_9, ag_9, sz_9, by_9, ze_9, es_9, u_22, ag_22, sz_22, by_22, ze_22, es_22, u_23, ag_23, sz_23, by_23, ze_23, es_23, u_26, ag_26, sz_26, by_26, ze_26, es_26, u_27, ag_27, sz_27, by_27, ze_27, es_27]; done) | (simp only [List.append_assoc, List.cons_append, List.nil_append, pre_n, pre_c, pre_a, pre_g, pre_r]; done) | (simp only [List.length_set]; done) | (simp only [List.length_set]; omega) | assumption | decide +kernel | fail) only [↓RP, RQ, isConstA, Nat.reduceEqDiff, Nat.reduceLT, Nat.reduceAdd, Int.reduceNeg, Int.reduceLT, Int.reduceLE, Int.reduceToNat, Int.reduceEq, ↓reduceIte, ite_true, ite_false, Option.toList, Nat.reduceMul, Nat.reduceSub, Nat.reduceLeDiff, ne_eq, eq_self, u_1, ag_1, sz_1, by_1, ze_1, es_1, u_3, ag_3, sz_3, by_3, ze_3, es_3, u_4, ag_4, sz_4, by_4, ze_4, bo_4, es_4, u_9, ag_9, sz_9, by_9, ze_9, es_9, u_22, ag_22, sz_22, by_22, ze_22, es_22, u_23, ag_23, sz_23, by_23, ze_23, es_23, u_26, ag_26, sz_26, by_26, ze_26, es_26, u_27, ag_27, sz_27, by_27, ze_27, es_27, ↓AW_loop, ptrC]
  refine FW.mono (fact_q h2) (fun v h3 hq => ?_)
  obtain ⟨rfl, u3⟩ := hq
  have ex3 := u3.toExt
  have ex03 := (ex1.trans ex2).trans ex3
  have a3 := a2.ext ex3
  have b3 := b2.ext ex3
  have hs1 := hsb.mono ex03
  simp -dsimp -implicitDefEqProofs (disch := first | omega | (simp only [stT, u_1, ag_1, sz_1, by_1, ze_1, es_1, u_3, ag_3, sz_3, by_3, ze_3, es_3, u_4, ag_4, sz_4, by_4, ze_4, bo_4, es_4, u_9, ag_9, sz_9, by_9, ze_9, es_9, u_22, ag_22, sz_22, by_22, ze_22, es_22, u_23, ag_23, sz_23, by_23, ze_23, es_23, u_26, ag_26, sz_26, by_26, ze_26, es_26, u_27, ag_27, sz_27, by_27, ze_27, es_27]; done) | (simp only [List.append_assoc, List.cons_append, List.nil_append, pre_n, pre_c, pre_a, pre_g, pre_r]; done) | (simp only [List.length_set]; done) | (simp only [List.length_set]; omega) | assumption | decide +kernel | fail) only [↓RP, RQ, isConstA, Nat.reduceEqDiff, Nat.reduceLT, Nat.reduceAdd, Int.reduceNeg, Int.reduceLT, Int.reduceLE, Int.reduceToNat, Int.reduceEq, ↓reduceIte, ite_true, ite_false, Option.toList, Nat.reduceMul, Nat.reduceSub, Nat.reduceLeDiff, ne_eq, eq_self, u_1, ag_1, sz_1, by_1, ze_1, es_1, u_3, ag_3, sz_3, by_3, ze_3, es_3, u_4, ag_4, sz_4, by_4, ze_4, bo_4, es_4, u_9, ag_9, sz_9, by_9, ze_9, es_9, u_22, ag_22, sz_22, by_22, ze_22, es_22, u_23, ag_23, sz_23, by_23, ze_23, es_23, u_26, ag_26, sz_26, by_26, ze_26, es_26, u_27, ag_27, sz_27, by_27, ze_27, es_27, ↓AW_loop, hs1.slice0 u_22 sz_9 hmb, hmin]
  refine ⟨by omega, ?_⟩
  have hs2 := hsb.take (fun _ => rfl) (min lb.length 4) (by omega)
  have hml : (lb.take (min lb.length 4)).length = min lb.length 4 := by rw [List.length_take]; omega
  obtain ⟨lt, hlt2⟩ : ∃ lt, lb.take (min lb.length 4) = lt := ⟨_, rfl⟩
  obtain ⟨nb, hnb⟩ : ∃ nb, min lb.length 4 = nb := ⟨_, rfl⟩
  have hokt : ∀ x, x ∈ lt → x.length < 2 ^ 50 := fun x hx => hok x (by rw [← hlt2] at hx; exact List.mem_of_mem_take hx)
  rw [hlt2] at hml hs2
  rw [hnb] at hml
  simp only [hnb]
  have hnb4 : nb ≤ 4 := by omega
  clear hmin
  generalize subA ab 0 1 = as2 at *
  have tw0 : TW (fun q => q < h0.length) h0 h3 pa pb none none [] [] none none (newM true w) (newM false w) [] [] := {
    ma := a3, mb := b3, oa := .inl ⟨rfl, rfl⟩, ob := .inl ⟨rfl, rfl⟩,
    dab := fun q h1 h2 => by simp [foot] at h1 h2; omega,
    da1 := fun q h => (by cases h), db1 := fun q h => (by cases h), da2 := fun q h => (by cases h), db2 := fun q h => (by cases h), dl := fun q h => (by cases h),
    na := fun q h1 h2 => by simp [foot] at h1; omega,
    nb := fun q h1 h2 => by simp [foot] at h1; omega,
    n1 := fun q h => (by cases h), n2 := fun q h => (by cases h),
    wl := fun q h => h, len := ex03.len, keep := fun q h => ex03.get h }
  refine LW_rule (fun n fr h' => ∃ (j : Nat) (m : MuxS) (sa : Option Nat) (ia : List Nat) (wb : Option Nat), j ≤ nb ∧ n = nb - j ∧ fget fr 63 = .int .i64 j ∧ fget fr 62 = .int .i64 nb ∧ fget fr 61 = .slice as2 nb nb ∧ fget fr 7 = ptrC pa ∧ fget fr 9 = ptrC pb ∧
      fget fr 2 = .slice ai ls.length mi ∧ fget fr 11 = .slice (slA wb) j j ∧ TW (fun q => q < h0.length) h0 h' pa pb sa none ia [] wb none m (newM false w) ((lt.take j).map text120) [] ∧ KI w (lt.take j) m) ?_ nb _ _ ⟨0, newM true w, none, [], none, by omega, rfl, ?_⟩
  · rintro n fr h' ⟨j, m, sa, ia, wb, hj, hn, f63, f62, f61, f7, f9, f2, f11, t, ki⟩
    by_cases hjn : j < nb
    · have hjn' : (j : Int) < nb := by omega
      obtain ⟨x, hx⟩ : ∃ x, lt[j]? = some x := ⟨_, List.getElem?_eq_getElem (by omega)⟩
      have hxl := hokt x (List.mem_of_getElem? hx)
      have hs3 := hs2.keep t.keep
      obtain ⟨b, o, cells, rfl, hb, hbX, hle, hch⟩ := hs3.get1 (g := fun z => .string (str z)) (fun _ => rfl) hx
      have htl := text120_len x
      have hhl := head3_len (text120 x)
      have hmin1 : foldA min2A (Value.int .i64 (x.length : Int)) [.int .i64 120] = some (.int .i64 ((min x.length 120 : Nat) : Int)) := by
        simp only [foldA, min2A]; congr 2; split <;> omega
      have hmin2 : foldA min2A (Value.int .i64 ((text120 x).length : Int)) [.int .i64 3] = some (.int .i64 ((min (text120 x).length 3 : Nat) : Int)) := by
        simp only [foldA, min2A]; congr 2; split <;> omega
      have hltj : (lt.take j).length = j := by rw [List.length_take]; omega
      obtain ⟨F, B, jj⟩ := ki.j
      have hnx := ki.nx
      have hct := ki.ct
      have hkl := ki.len
      have hil := t.ma.len
      have hcl := countS_le m true m.streams
      rw [hltj] at hnx hct hkl
      have hx120 : x.take (min x.length 120) = text120 x := rfl
      have hx3 : (text120 x).take (min (text120 x).length 3) = head3 (text120 x) := rfl
      simp -dsimp -implicitDefEqProofs (disch := first | omega | (simp only [stT, u_1, ag_1, sz_1, by_1, ze_1, es_1, u_3, ag_3, sz_3, by_3, ze_3, es_3, u_4, ag_4, sz_4, by_4, ze_4, bo_4, es_4, u_9, ag_9, sz_9, by_9, ze_9, es_9, u_22, ag_22, sz_22, by_22, ze_22, es_22, u_23, ag_23, sz_23, by_23, ze_23, es_23, u_26, ag_26, sz_26, by_26, ze_26, es_26, u_27, ag_27, sz_27, by_27, ze_27, es_27]; done) | (simp only [List.append_assoc, List.cons_append, List.nil_append, pre_n, pre_c, pre_a, pre_g, pre_r]; done) | (simp only [List.length_set]; done) | (simp only [List.length_set]; omega) | assumption | decide +kernel | fail) only [↓RP, RQ, isConstA, Nat.reduceEqDiff, Nat.reduceLT, Nat.reduceAdd, Int.reduceNeg, Int.reduceLT, Int.reduceLE, Int.reduceToNat, Int.reduceEq, ↓reduceIte, ite_true, ite_false, Option.toList, Nat.reduceMul, Nat.reduceSub, Nat.reduceLeDiff, ne_eq, eq_self, u_1, ag_1, sz_1, by_1, ze_1, es_1, u_3, ag_3, sz_3, by_3, ze_3, es_3, u_4, ag_4, sz_4, by_4, ze_4, bo_4, es_4, u_9, ag_9, sz_9, by_9, ze_9, es_9, u_22, ag_22, sz_22, by_22, ze_22, es_22, u_23, ag_23, sz_23, by_23, ze_23, es_23, u_26, ag_26, sz_26, by_26, ze_26, es_26, u_27, ag_27, sz_27, by_27, ze_27, es_27, ↓AW_loop, f63, f62, f61, f7, f9, f2, f11, hb, hle, hch, hjn', hmin1, hmin2, hx120, hx3]
      refine ⟨by omega, by omega, ?_⟩
      refine FW.mono (open_q m (head3 (text120 x)) t.ma jj.ab (by omega) (by omega) (by omega) (by omega) (by omega) (fun s hs => by have := ids_lt jj.ids s hs; omega)) (fun v h4 hq => ?_)
      obtain ⟨rfl, sa2, ia2, a4, u4⟩ := hq
      have hids2 : Ids (openS m (head3 (text120 x))).streams := ids_snoc jj.ids _ (by simp only [newStrm]; omega)
      have hget2 : (openS m (head3 (text120 x))).streams[j]? = some (newStrm m m.next (head3 (text120 x))) := snoc_get hkl _
      have hil2 : ia2.length = j + 1 := by rw [a4.len]; simp only [openS, List.length_append, List.length_singleton]; omega
      have hmt : min (text120 x).length (4096 - (newStrm m m.next (head3 (text120 x))).out.length) = (text120 x).length := by simp only [newStrm, List.length_nil]; omega
      simp -dsimp -implicitDefEqProofs (disch := first | omega | (simp only [stT, u_1, ag_1, sz_1, by_1, ze_1, es_1, u_3, ag_3, sz_3, by_3, ze_3, es_3, u_4, ag_4, sz_4, by_4, ze_4, bo_4, es_4, u_9, ag_9, sz_9, by_9, ze_9, es_9, u_22, ag_22, sz_22, by_22, ze_22, es_22, u_23, ag_23, sz_23, by_23, ze_23, es_23, u_26, ag_26, sz_26, by_26, ze_26, es_26, u_27, ag_27, sz_27, by_27, ze_27, es_27]; done) | (simp only [List.append_assoc, List.cons_append, List.nil_append, pre_n, pre_c, pre_a, pre_g, pre_r]; done) | (simp only [List.length_set]; done) | (simp only [List.length_set]; omega) | assumption | decide +kernel | fail) only [↓RP, RQ, isConstA, Nat.reduceEqDiff, Nat.reduceLT, Nat.reduceAdd, Int.reduceNeg, Int.reduceLT, Int.reduceLE, Int.reduceToNat, Int.reduceEq, ↓reduceIte, ite_true, ite_false, Option.toList, Nat.reduceMul, Nat.reduceSub, Nat.reduceLeDiff, ne_eq, eq_self, u_1, ag_1, sz_1, by_1, ze_1, es_1, u_3, ag_3, sz_3, by_3, ze_3, es_3, u_4, ag_4, sz_4, by_4, ze_4, bo_4, es_4, u_9, ag_9, sz_9, by_9, ze_9, es_9, u_22, ag_22, sz_22, by_22, ze_22, es_22, u_23, ag_23, sz_23, by_23, ze_23, es_23, u_26, ag_26, sz_26, by_26, ze_26, es_26, u_27, ag_27, sz_27, by_27, ze_27, es_27, ↓AW_loop, f63, f62, f61, f7, f9, f2, f11]
      refine FW.mono (write_q (openS m (head3 (text120 x))) m.next j (newStrm m m.next (head3 (text120 x))) (text120 x) a4 (by omega) jj.ab (find_ids' hids2 hget2) hget2 rfl rfl (by simp [newStrm]) (by omega)) (fun v h5 hq => ?_)
      obtain ⟨rfl, a5, u5⟩ := hq
      rw [hmt]
      simp -dsimp -implicitDefEqProofs (disch := first | omega | (simp only [stT, u_1, ag_1, sz_1, by_1, ze_1, es_1, u_3, ag_3, sz_3, by_3, ze_3, es_3, u_4, ag_4, sz_4, by_4, ze_4, bo_4, es_4, u_9, ag_9, sz_9, by_9, ze_9, es_9, u_22, ag_22, sz_22, by_22, ze_22, es_22, u_23, ag_23, sz_23, by_23, ze_23, es_23, u_26, ag_26, sz_26, by_26, ze_26, es_26, u_27, ag_27, sz_27, by_27, ze_27, es_27]; done) | (simp only [List.append_assoc, List.cons_append, List.nil_append, pre_n, pre_c, pre_a, pre_g, pre_r]; done) | (simp only [List.length_set]; done) | (simp only [List.length_set]; omega) | assumption | decide +kernel | fail) only [↓RP, RQ, isConstA, Nat.reduceEqDiff, Nat.reduceLT, Nat.reduceAdd, Int.reduceNeg, Int.reduceLT, Int.reduceLE, Int.reduceToNat, Int.reduceEq, ↓reduceIte, ite_true, ite_false, Option.toList, Nat.reduceMul, Nat.reduceSub, Nat.reduceLeDiff, ne_eq, eq_self, u_1, ag_1, sz_1, by_1, ze_1, es_1, u_3, ag_3, sz_3, by_3, ze_3, es_3, u_4, ag_4, sz_4, by_4, ze_4, bo_4, es_4, u_9, ag_9, sz_9, by_9, ze_9, es_9, u_22, ag_22, sz_22, by_22, ze_22, es_22, u_23, ag_23, sz_23, by_23, ze_23, es_23, u_26, ag_26, sz_26, by_26, ze_26, es_26, u_27, ag_27, sz_27, by_27, ze_27, es_27, ↓AW_loop, f63, f62, f61, f7, f9, f2, f11]
      have hset5 : (writeM (openS m (head3 (text120 x))) j (newStrm m m.next (head3 (text120 x))) (text120 x)).streams = m.streams ++ [{ newStrm m m.next (head3 (text120 x)) with out := (newStrm m m.next (head3 (text120 x))).out ++ (text120 x).take (min (text120 x).length (4096 - (newStrm m m.next (head3 (text120 x))).out.length)) }] := by
        simp only [writeM, openS]; rw [snoc_set hkl]
      have hids5 : Ids (writeM (openS m (head3 (text120 x))) j (newStrm m m.next (head3 (text120 x))) (text120 x)).streams := by
        rw [hset5]; exact ids_snoc jj.ids _ (by simp only [newStrm]; omega)
      have hget5 := snoc_get hkl { newStrm m m.next (head3 (text120 x)) with out := (newStrm m m.next (head3 (text120 x))).out ++ (text120 x).take (min (text120 x).length (4096 - (newStrm m m.next (head3 (text120 x))).out.length)) }
      rw [← hset5] at hget5
      refine FW.mono (finish_q _ m.next j { newStrm m m.next (head3 (text120 x)) with out := (newStrm m m.next (head3 (text120 x))).out ++ (text120 x).take (min (text120 x).length (4096 - (newStrm m m.next (head3 (text120 x))).out.length)) } a5 (by omega) jj.ab (find_ids' hids5 hget5) hget5 rfl rfl) (fun v h6 hq => ?_)
      obtain ⟨rfl, a6, u6⟩ := hq
      rw [finK_eq hkl _ _ (by omega)] at a6
      have t6 := t.stepA a6 ((u4.trans u5).trans u6)
      have ki2 := ki.step (by omega) x
      have htk : lt.take (j + 1) = lt.take j ++ [x] := by rw [List.take_add_one, hx]; rfl
      rw [← htk] at ki2
      have hol := t6.oa
      have hwl : ((lt.take j).map text120).length = j := by rw [List.length_map]; exact hltj
      rcases hol with ⟨rfl, h0'⟩ | ⟨zc, rfl, hol⟩
      · have hj0 : j = 0 := by
          have := congrArg List.length h0'
          rw [List.length_map, hwl] at this
          simpa using this
        subst hj0
        have f63' : fget fr 63 = .int .i64 0 := f63
        have f11' : fget fr 11 = .slice none 0 0 := f11
        simp -dsimp -implicitDefEqProofs (disch := first | omega | (simp only [stT, u_1, ag_1, sz_1, by_1, ze_1, es_1, u_3, ag_3, sz_3, by_3, ze_3, es_3, u_4, ag_4, sz_4, by_4, ze_4, bo_4, es_4, u_9, ag_9, sz_9, by_9, ze_9, es_9, u_22, ag_22, sz_22, by_22, ze_22, es_22, u_23, ag_23, sz_23, by_23, ze_23, es_23, u_26, ag_26, sz_26, by_26, ze_26, es_26, u_27, ag_27, sz_27, by_27, ze_27, es_27]; done) | (simp only [List.append_assoc, List.cons_append, List.nil_append, pre_n, pre_c, pre_a, pre_g, pre_r]; done) | (simp only [List.length_set]; done) | (simp only [List.length_set]; omega) | assumption | decide +kernel | fail) only [↓RP, RQ, isConstA, Nat.reduceEqDiff, Nat.reduceLT, Nat.reduceAdd, Int.reduceNeg, Int.reduceLT, Int.reduceLE, Int.reduceToNat, Int.reduceEq, ↓reduceIte, ite_true, ite_false, Option.toList, Nat.reduceMul, Nat.reduceSub, Nat.reduceLeDiff, ne_eq, eq_self, u_1, ag_1, sz_1, by_1, ze_1, es_1, u_3, ag_3, sz_3, by_3, ze_3, es_3, u_4, ag_4, sz_4, by_4, ze_4, bo_4, es_4, u_9, ag_9, sz_9, by_9, ze_9, es_9, u_22, ag_22, sz_22, by_22, ze_22, es_22, u_23, ag_23, sz_23, by_23, ze_23, es_23, u_26, ag_26, sz_26, by_26, ze_26, es_26, u_27, ag_27, sz_27, by_27, ze_27, es_27, ↓AW_loop, f63', f62, f61, f7, f9, f2, f11']
        refine ⟨nb - 1, by omega, 1, _, sa2, ia2, some (h6.length + 1), by omega, rfl, rfl, rfl, t6.list (.inr ⟨_, rfl, ?_⟩) (((Upd.refl h6 (none : Option Nat).toList).more _).to fun q hq => ?_), ki2⟩
        · rw [blk_atH rfl, htk]; rfl
        · simp at hq; subst hq; exact .inr (by omega)
      · have hzX := fun X => blkA_app X hol
        have htkA : (((lt.take j).map text120).map strV).take j = ((lt.take j).map text120).map strV := List.take_of_length_le (by rw [List.length_map, hwl]; omega)
        simp only [slA, Option.map_some] at f11
        simp -dsimp -implicitDefEqProofs (disch := first | omega | (simp only [stT, u_1, ag_1, sz_1, by_1, ze_1, es_1, u_3, ag_3, sz_3, by_3, ze_3, es_3, u_4, ag_4, sz_4, by_4, ze_4, bo_4, es_4, u_9, ag_9, sz_9, by_9, ze_9, es_9, u_22, ag_22, sz_22, by_22, ze_22, es_22, u_23, ag_23, sz_23, by_23, ze_23, es_23, u_26, ag_26, sz_26, by_26, ze_26, es_26, u_27, ag_27, sz_27, by_27, ze_27, es_27]; done) | (simp only [List.append_assoc, List.cons_append, List.nil_append, pre_n, pre_c, pre_a, pre_g, pre_r]; done) | (simp only [List.length_set]; done) | (simp only [List.length_set]; omega) | assumption | decide +kernel | fail) only [↓RP, RQ, isConstA, Nat.reduceEqDiff, Nat.reduceLT, Nat.reduceAdd, Int.reduceNeg, Int.reduceLT, Int.reduceLE, Int.reduceToNat, Int.reduceEq, ↓reduceIte, ite_true, ite_false, Option.toList, Nat.reduceMul, Nat.reduceSub, Nat.reduceLeDiff, ne_eq, eq_self, u_1, ag_1, sz_1, by_1, ze_1, es_1, u_3, ag_3, sz_3, by_3, ze_3, es_3, u_4, ag_4, sz_4, by_4, ze_4, bo_4, es_4, u_9, ag_9, sz_9, by_9, ze_9, es_9, u_22, ag_22, sz_22, by_22, ze_22, es_22, u_23, ag_23, sz_23, by_23, ze_23, es_23, u_26, ag_26, sz_26, by_26, ze_26, es_26, u_27, ag_27, sz_27, by_27, ze_27, es_27, ↓AW_loop, f63, f62, f61, f7, f9, f2, f11, hzX]
        have hzl := blkA_lt hol
        refine ⟨by omega, by omega, nb - (j + 1), by omega, j + 1, _, sa2, ia2, some (h6.length + 1), by omega, rfl, rfl, rfl, t6.list (.inr ⟨_, rfl, ?_⟩) (((((Upd.refl h6 (some zc).toList).more _).set (by simp)).more _).to fun q hq => ?_), ki2⟩
        · have := blkA_moved (h6 ++ [some (.cells ⟨[Value.string (str (text120 x))], 1, false⟩)]) zc none ⟨((lt.take (j + 1)).map text120).map strV, 1, false⟩
          rw [List.length_append, List.length_singleton] at this
          rw [← this, htkA, htk, List.map_append, List.map_append]; rfl
        · simp at hq; subst hq; exact .inr (by omega)
    · have hjn' : ¬ (j : Int) < nb := by omega
      obtain rfl : j = nb := by omega
      rw [List.take_of_length_le (by omega)] at t ki
      have hml' : lt.length = j := by omega
      obtain ⟨F, B, jj⟩ := ki.j
      have tg := t.guard
      simp -dsimp -implicitDefEqProofs (disch := first | omega | (simp only [stT, u_1, ag_1, sz_1, by_1, ze_1, es_1, u_3, ag_3, sz_3, by_3, ze_3, es_3, u_4, ag_4, sz_4, by_4, ze_4, bo_4, es_4, u_9, ag_9, sz_9, by_9, ze_9, es_9, u_22, ag_22, sz_22, by_22, ze_22, es_22, u_23, ag_23, sz_23, by_23, ze_23, es_23, u_26, ag_26, sz_26, by_26, ze_26, es_26, u_27, ag_27, sz_27, by_27, ze_27, es_27]; done) | (simp only [List.append_assoc, List.cons_append, List.nil_append, pre_n, pre_c, pre_a, pre_g, pre_r]; done) | (simp only [List.length_set]; done) | (simp only [List.length_set]; omega) | assumption | decide +kernel | fail) only [↓RP, RQ, isConstA, Nat.reduceEqDiff, Nat.reduceLT, Nat.reduceAdd, Int.reduceNeg, Int.reduceLT, Int.reduceLE, Int.reduceToNat, Int.reduceEq, ↓reduceIte, ite_true, ite_false, Option.toList, Nat.reduceMul, Nat.reduceSub, Nat.reduceLeDiff, ne_eq, eq_self, u_1, ag_1, sz_1, by_1, ze_1, es_1, u_3, ag_3, sz_3, by_3, ze_3, es_3, u_4, ag_4, sz_4, by_4, ze_4, bo_4, es_4, u_9, ag_9, sz_9, by_9, ze_9, es_9, u_22, ag_22, sz_22, by_22, ze_22, es_22, u_23, ag_23, sz_23, by_23, ze_23, es_23, u_26, ag_26, sz_26, by_26, ze_26, es_26, u_27, ag_27, sz_27, by_27, ze_27, es_27, ↓AW_loop, f63, f62, f7, f9, f2, f11, hjn']
      refine FW.mono (talk_q jj (fun p hp => by obtain ⟨b, _, rfl⟩ := List.mem_map.1 hp; exact .inl rfl) 6300 3000 (ki.phi (by omega)) (by decide) (by decide) (by decide) tg ls (fun h'' hk => hsi.keep (fun q hq => by rw [hk q (.inl hq), t.keep q hq])) hls) (fun v h7 hq => ?_)
      obtain ⟨sa7, sb7, ia7, ib7, la7, lb7, a7, b7, R, Q, F7, B7, G7, rfl, t7, j7, c7, fin7, hRl, hphi7⟩ := hq
      obtain ⟨d1, d2, d3⟩ := j7.done c7 fin7
      have hRW : R = lt.map text120 := rd_ext (by rw [hRl, d1, List.length_map, List.length_map]) (fun i hi => by
        rw [List.length_map] at hi
        obtain ⟨x, hx⟩ : ∃ x, lt[i]? = some x := ⟨_, List.getElem?_eq_getElem hi⟩
        obtain ⟨_, _, _, _, _, _, _, hrd⟩ := d3 i (planK x) (by rw [List.getElem?_map, hx]; rfl)
        rw [hrd]
        unfold rd
        rw [List.getElem?_map, hx]; rfl)
      have hwant : OwnV h7 wb ((lt.map text120).map strV) := t.oa.same (fun b hb => t7.keep b (.inr hb))
      subst hRW
      have hwl : (lt.map text120).length = j := by rw [List.length_map]; exact hml'
      rw [← hml'] at f11
      have hl4 : lt.length ≤ 4 := by omega
      clear ki tg t jj
      have t8 := t7
      simp -dsimp -implicitDefEqProofs (disch := first | omega | (simp only [stT, u_1, ag_1, sz_1, by_1, ze_1, es_1, u_3, ag_3, sz_3, by_3, ze_3, es_3, u_4, ag_4, sz_4, by_4, ze_4, bo_4, es_4, u_9, ag_9, sz_9, by_9, ze_9, es_9, u_22, ag_22, sz_22, by_22, ze_22, es_22, u_23, ag_23, sz_23, by_23, ze_23, es_23, u_26, ag_26, sz_26, by_26, ze_26, es_26, u_27, ag_27, sz_27, by_27, ze_27, es_27]; done) | (simp only [List.append_assoc, List.cons_append, List.nil_append, pre_n, pre_c, pre_a, pre_g, pre_r]; done) | (simp only [List.length_set]; done) | (simp only [List.length_set]; omega) | assumption | decide +kernel | fail) only [↓RP, RQ, isConstA, Nat.reduceEqDiff, Nat.reduceLT, Nat.reduceAdd, Int.reduceNeg, Int.reduceLT, Int.reduceLE, Int.reduceToNat, Int.reduceEq, ↓reduceIte, ite_true, ite_false, Option.toList, Nat.reduceMul, Nat.reduceSub, Nat.reduceLeDiff, ne_eq, eq_self, u_1, ag_1, sz_1, by_1, ze_1, es_1, u_3, ag_3, sz_3, by_3, ze_3, es_3, u_4, ag_4, sz_4, by_4, ze_4, bo_4, es_4, u_9, ag_9, sz_9, by_9, ze_9, es_9, u_22, ag_22, sz_22, by_22, ze_22, es_22, u_23, ag_23, sz_23, by_23, ze_23, es_23, u_26, ag_26, sz_26, by_26, ze_26, es_26, u_27, ag_27, sz_27, by_27, ze_27, es_27, ↓AW_loop, f7, f9, f2, f11]
      refine (broken_q a7 t7.ma).use' fun g1 => ?_
      rw [j7.ab]
      simp -dsimp -implicitDefEqProofs (disch := first | omega | (simp only [stT, u_1, ag_1, sz_1, by_1, ze_1, es_1, u_3, ag_3, sz_3, by_3, ze_3, es_3, u_4, ag_4, sz_4, by_4, ze_4, bo_4, es_4, u_9, ag_9, sz_9, by_9, ze_9, es_9, u_22, ag_22, sz_22, by_22, ze_22, es_22, u_23, ag_23, sz_23, by_23, ze_23, es_23, u_26, ag_26, sz_26, by_26, ze_26, es_26, u_27, ag_27, sz_27, by_27, ze_27, es_27]; done) | (simp only [List.append_assoc, List.cons_append, List.nil_append, pre_n, pre_c, pre_a, pre_g, pre_r]; done) | (simp only [List.length_set]; done) | (simp only [List.length_set]; omega) | assumption | decide +kernel | fail) only [↓RP, RQ, isConstA, Nat.reduceEqDiff, Nat.reduceLT, Nat.reduceAdd, Int.reduceNeg, Int.reduceLT, Int.reduceLE, Int.reduceToNat, Int.reduceEq, ↓reduceIte, ite_true, ite_false, Option.toList, Nat.reduceMul, Nat.reduceSub, Nat.reduceLeDiff, ne_eq, eq_self, u_1, ag_1, sz_1, by_1, ze_1, es_1, u_3, ag_3, sz_3, by_3, ze_3, es_3, u_4, ag_4, sz_4, by_4, ze_4, bo_4, es_4, u_9, ag_9, sz_9, by_9, ze_9, es_9, u_22, ag_22, sz_22, by_22, ze_22, es_22, u_23, ag_23, sz_23, by_23, ze_23, es_23, u_26, ag_26, sz_26, by_26, ze_26, es_26, u_27, ag_27, sz_27, by_27, ze_27, es_27, ↓AW_loop, f7, f9, f2, f11]
      have b8 := t7.mb.app g1
      refine (broken_q b7 b8).use' fun g2 => ?_
      rw [j7.bb]
      simp -dsimp -implicitDefEqProofs (disch := first | omega | (simp only [stT, u_1, ag_1, sz_1, by_1, ze_1, es_1, u_3, ag_3, sz_3, by_3, ze_3, es_3, u_4, ag_4, sz_4, by_4, ze_4, bo_4, es_4, u_9, ag_9, sz_9, by_9, ze_9, es_9, u_22, ag_22, sz_22, by_22, ze_22, es_22, u_23, ag_23, sz_23, by_23, ze_23, es_23, u_26, ag_26, sz_26, by_26, ze_26, es_26, u_27, ag_27, sz_27, by_27, ze_27, es_27]; done) | (simp only [List.append_assoc, List.cons_append, List.nil_append, pre_n, pre_c, pre_a, pre_g, pre_r]; done) | (simp only [List.length_set]; done) | (simp only [List.length_set]; omega) | assumption | decide +kernel | fail) only [↓RP, RQ, isConstA, Nat.reduceEqDiff, Nat.reduceLT, Nat.reduceAdd, Int.reduceNeg, Int.reduceLT, Int.reduceLE, Int.reduceToNat, Int.reduceEq, ↓reduceIte, ite_true, ite_false, Option.toList, Nat.reduceMul, Nat.reduceSub, Nat.reduceLeDiff, ne_eq, eq_self, u_1, ag_1, sz_1, by_1, ze_1, es_1, u_3, ag_3, sz_3, by_3, ze_3, es_3, u_4, ag_4, sz_4, by_4, ze_4, bo_4, es_4, u_9, ag_9, sz_9, by_9, ze_9, es_9, u_22, ag_22, sz_22, by_22, ze_22, es_22, u_23, ag_23, sz_23, by_23, ze_23, es_23, u_26, ag_26, sz_26, by_26, ze_26, es_26, u_27, ag_27, sz_27, by_27, ze_27, es_27, ↓AW_loop, f7, f9, f2, f11]
      have oa9 := t7.oa.upd ((Upd.app h7 g1 []).trans (Upd.app _ g2 [])) (fun _ _ => by simp)
      have ow9 := hwant.upd ((Upd.app h7 g1 []).trans (Upd.app _ g2 [])) (fun _ _ => by simp)
      rw [List.append_assoc] at oa9 ow9
      have hsame := same_q (lt.map text120) oa9 ow9 (by rw [List.length_map]; omega)
      rw [List.length_map] at hsame
      refine hsame.use' fun g3 => ?_
      simp -dsimp -implicitDefEqProofs (disch := first | omega | (simp only [stT, u_1, ag_1, sz_1, by_1, ze_1, es_1, u_3, ag_3, sz_3, by_3, ze_3, es_3, u_4, ag_4, sz_4, by_4, ze_4, bo_4, es_4, u_9, ag_9, sz_9, by_9, ze_9, es_9, u_22, ag_22, sz_22, by_22, ze_22, es_22, u_23, ag_23, sz_23, by_23, ze_23, es_23, u_26, ag_26, sz_26, by_26, ze_26, es_26, u_27, ag_27, sz_27, by_27, ze_27, es_27]; done) | (simp only [List.append_assoc, List.cons_append, List.nil_append, pre_n, pre_c, pre_a, pre_g, pre_r]; done) | (simp only [List.length_set]; done) | (simp only [List.length_set]; omega) | assumption | decide +kernel | fail) only [↓RP, RQ, isConstA, Nat.reduceEqDiff, Nat.reduceLT, Nat.reduceAdd, Int.reduceNeg, Int.reduceLT, Int.reduceLE, Int.reduceToNat, Int.reduceEq, ↓reduceIte, ite_true, ite_false, Option.toList, Nat.reduceMul, Nat.reduceSub, Nat.reduceLeDiff, ne_eq, eq_self, u_1, ag_1, sz_1, by_1, ze_1, es_1, u_3, ag_3, sz_3, by_3, ze_3, es_3, u_4, ag_4, sz_4, by_4, ze_4, bo_4, es_4, u_9, ag_9, sz_9, by_9, ze_9, es_9, u_22, ag_22, sz_22, by_22, ze_22, es_22, u_23, ag_23, sz_23, by_23, ze_23, es_23, u_26, ag_26, sz_26, by_26, ze_26, es_26, u_27, ag_27, sz_27, by_27, ze_27, es_27, ↓AW_loop, f7, f9, f2, f11]
      have b10 := t7.mb.app (g1 ++ (g2 ++ g3))
      have ow10 := hwant.upd (Upd.app h7 (g1 ++ (g2 ++ g3)) []) (fun _ _ => by simp)
      generalize h7 ++ (g1 ++ (g2 ++ g3)) = h10 at b10 ow10
      clear oa9 ow9 hsame b8 hwant
      have hbl := b10.len
      have hbl2 : b7.streams.length = lt.length := by rw [d1, List.length_map]
      refine FW.mono (streams_q b7 b10 (by omega)) (fun v h11 hq => ?_)
      obtain ⟨zb, rfl, oz, hz, u11⟩ := hq
      have b11 := b10.ext u11.toExt
      have ow11 := ow10.upd u11 (fun _ _ => by simp)
      rw [hbl2]
      clear d1 hRl
      obtain ⟨N, hN⟩ : ∃ N, lt.length = N := ⟨_, rfl⟩
      rw [hN] at hl4 hbl2 f11 ⊢
      simp -dsimp -implicitDefEqProofs (disch := first | omega | (simp only [stT, u_1, ag_1, sz_1, by_1, ze_1, es_1, u_3, ag_3, sz_3, by_3, ze_3, es_3, u_4, ag_4, sz_4, by_4, ze_4, bo_4, es_4, u_9, ag_9, sz_9, by_9, ze_9, es_9, u_22, ag_22, sz_22, by_22, ze_22, es_22, u_23, ag_23, sz_23, by_23, ze_23, es_23, u_26, ag_26, sz_26, by_26, ze_26, es_26, u_27, ag_27, sz_27, by_27, ze_27, es_27]; done) | (simp only [List.append_assoc, List.cons_append, List.nil_append, pre_n, pre_c, pre_a, pre_g, pre_r]; done) | (simp only [List.length_set]; done) | (simp only [List.length_set]; omega) | assumption | decide +kernel | fail) only [↓RP, RQ, isConstA, Nat.reduceEqDiff, Nat.reduceLT, Nat.reduceAdd, Int.reduceNeg, Int.reduceLT, Int.reduceLE, Int.reduceToNat, Int.reduceEq, ↓reduceIte, ite_true, ite_false, Option.toList, Nat.reduceMul, Nat.reduceSub, Nat.reduceLeDiff, ne_eq, eq_self, u_1, ag_1, sz_1, by_1, ze_1, es_1, u_3, ag_3, sz_3, by_3, ze_3, es_3, u_4, ag_4, sz_4, by_4, ze_4, bo_4, es_4, u_9, ag_9, sz_9, by_9, ze_9, es_9, u_22, ag_22, sz_22, by_22, ze_22, es_22, u_23, ag_23, sz_23, by_23, ze_23, es_23, u_26, ag_26, sz_26, by_26, ze_26, es_26, u_27, ag_27, sz_27, by_27, ze_27, es_27, ↓AW_loop, f7, f9, f2, f11]
      refine LW_rule (fun n fr h' => ∃ (k : Nat) (g : AHeap), k ≤ N ∧ n = N - k ∧ fget fr 134 = .int .i64 k ∧ fget fr 133 = .int .i64 N ∧ fget fr 132 = .slice (slA zb) N N ∧ fget fr 9 = ptrC pb ∧ fget fr 11 = .slice (slA wb) N N ∧ h' = h11 ++ g) ?_ N _ _ ⟨0, [], by omega, rfl, ?_⟩
      · rintro n fr h' ⟨k, g, hk, hn, f134, f133, f132, f9, f11, rfl⟩
        by_cases hkn : k < N
        · have hkn' : (k : Int) < N := by omega
          obtain ⟨x, hx⟩ : ∃ x, lt[k]? = some x := ⟨_, List.getElem?_eq_getElem (by omega)⟩
          obtain ⟨sb, e1, e2, e3, e4, e5, e6, e7⟩ := d3 k (planK x) (by rw [List.getElem?_map, hx]; rfl)
          have e6 := e6 rfl
          have e3 : sb.head = head3 (text120 x) := e3
          have e4 : sb.reset = false := e4
          have b12 := b11.app g
          rcases oz with ⟨_, h0'⟩ | ⟨z, rfl, hzb⟩
          · have := congrArg List.length h0'
            rw [List.length_map, hbl2] at this
            simp at this; omega
          · rcases ow11 with ⟨_, h0'⟩ | ⟨q, rfl, hqb⟩
            · have := congrArg List.length h0'
              rw [List.length_map, List.length_map] at this
              simp at this; rw [this] at hN; simp at hN; omega
            · have hzX := fun X => blkA_app X hzb
              have hqX := fun X => blkA_app X hqb
              have hzc : (b7.streams.map idV)[k]? = some (.int .i64 sb.id) := by rw [List.getElem?_map, e1]; rfl
              have hqc : ((lt.map text120).map strV)[k]? = some (.string (str (text120 x))) := by rw [List.getElem?_map, List.getElem?_map, hx]; rfl
              simp only [slA, Option.map_some] at f132 f11
              simp -dsimp -implicitDefEqProofs (disch := first | omega | (simp only [stT, u_1, ag_1, sz_1, by_1, ze_1, es_1, u_3, ag_3, sz_3, by_3, ze_3, es_3, u_4, ag_4, sz_4, by_4, ze_4, bo_4, es_4, u_9, ag_9, sz_9, by_9, ze_9, es_9, u_22, ag_22, sz_22, by_22, ze_22, es_22, u_23, ag_23, sz_23, by_23, ze_23, es_23, u_26, ag_26, sz_26, by_26, ze_26, es_26, u_27, ag_27, sz_27, by_27, ze_27, es_27]; done) | (simp only [List.append_assoc, List.cons_append, List.nil_append, pre_n, pre_c, pre_a, pre_g, pre_r]; done) | (simp only [List.length_set]; done) | (simp only [List.length_set]; omega) | assumption | decide +kernel | fail) only [↓RP, RQ, isConstA, Nat.reduceEqDiff, Nat.reduceLT, Nat.reduceAdd, Int.reduceNeg, Int.reduceLT, Int.reduceLE, Int.reduceToNat, Int.reduceEq, ↓reduceIte, ite_true, ite_false, Option.toList, Nat.reduceMul, Nat.reduceSub, Nat.reduceLeDiff, ne_eq, eq_self, u_1, ag_1, sz_1, by_1, ze_1, es_1, u_3, ag_3, sz_3, by_3, ze_3, es_3, u_4, ag_4, sz_4, by_4, ze_4, bo_4, es_4, u_9, ag_9, sz_9, by_9, ze_9, es_9, u_22, ag_22, sz_22, by_22, ze_22, es_22, u_23, ag_23, sz_23, by_23, ze_23, es_23, u_26, ag_26, sz_26, by_26, ze_26, es_26, u_27, ag_27, sz_27, by_27, ze_27, es_27, ↓AW_loop, f134, f133, f132, f9, f11, hkn', hzX, hzc]
              refine (stream_q b7 sb.id k sb b12 (by rw [b12.len, hbl2]; omega) (find_ids' j7.idsb e1) e1).use' fun g2 => ?_
              have hds : doneS sb = true := by unfold doneS; rw [e6, e5]; rfl
              rw [hds, e4, e3]
              have hhl := head3_len (text120 x)
              have hmin2 : foldA min2A (Value.int .i64 ((text120 x).length : Int)) [.int .i64 3] = some (.int .i64 ((min (text120 x).length 3 : Nat) : Int)) := by
                simp only [foldA, min2A]; congr 2; split <;> omega
              have hx3 : (text120 x).take (min (text120 x).length 3) = head3 (text120 x) := rfl
              simp -dsimp -implicitDefEqProofs (disch := first | omega | (simp only [stT, u_1, ag_1, sz_1, by_1, ze_1, es_1, u_3, ag_3, sz_3, by_3, ze_3, es_3, u_4, ag_4, sz_4, by_4, ze_4, bo_4, es_4, u_9, ag_9, sz_9, by_9, ze_9, es_9, u_22, ag_22, sz_22, by_22, ze_22, es_22, u_23, ag_23, sz_23, by_23, ze_23, es_23, u_26, ag_26, sz_26, by_26, ze_26, es_26, u_27, ag_27, sz_27, by_27, ze_27, es_27]; done) | (simp only [List.append_assoc, List.cons_append, List.nil_append, pre_n, pre_c, pre_a, pre_g, pre_r]; done) | (simp only [List.length_set]; done) | (simp only [List.length_set]; omega) | assumption | decide +kernel | fail) only [↓RP, RQ, isConstA, Nat.reduceEqDiff, Nat.reduceLT, Nat.reduceAdd, Int.reduceNeg, Int.reduceLT, Int.reduceLE, Int.reduceToNat, Int.reduceEq, ↓reduceIte, ite_true, ite_false, Option.toList, Nat.reduceMul, Nat.reduceSub, Nat.reduceLeDiff, ne_eq, eq_self, u_1, ag_1, sz_1, by_1, ze_1, es_1, u_3, ag_3, sz_3, by_3, ze_3, es_3, u_4, ag_4, sz_4, by_4, ze_4, bo_4, es_4, u_9, ag_9, sz_9, by_9, ze_9, es_9, u_22, ag_22, sz_22, by_22, ze_22, es_22, u_23, ag_23, sz_23, by_23, ze_23, es_23, u_26, ag_26, sz_26, by_26, ze_26, es_26, u_27, ag_27, sz_27, by_27, ze_27, es_27, ↓AW_loop, f134, f133, f132, f9, f11, hkn', hqX, hqc, hmin2, hx3]
              refine ⟨by decide +kernel, by omega, N - (k + 1), by omega, k + 1, g ++ g2, by omega, rfl, rfl, rfl, rfl, rfl⟩
        · have hkn' : ¬ (k : Int) < N := by omega
          simp -dsimp -implicitDefEqProofs (disch := first | omega | (simp only [stT, u_1, ag_1, sz_1, by_1, ze_1, es_1, u_3, ag_3, sz_3, by_3, ze_3, es_3, u_4, ag_4, sz_4, by_4, ze_4, bo_4, es_4, u_9, ag_9, sz_9, by_9, ze_9, es_9, u_22, ag_22, sz_22, by_22, ze_22, es_22, u_23, ag_23, sz_23, by_23, ze_23, es_23, u_26, ag_26, sz_26, by_26, ze_26, es_26, u_27, ag_27, sz_27, by_27, ze_27, es_27]; done) | (simp only [List.append_assoc, List.cons_append, List.nil_append, pre_n, pre_c, pre_a, pre_g, pre_r]; done) | (simp only [List.length_set]; done) | (simp only [List.length_set]; omega) | assumption | decide +kernel | fail) only [↓RP, RQ, isConstA, Nat.reduceEqDiff, Nat.reduceLT, Nat.reduceAdd, Int.reduceNeg, Int.reduceLT, Int.reduceLE, Int.reduceToNat, Int.reduceEq, ↓reduceIte, ite_true, ite_false, Option.toList, Nat.reduceMul, Nat.reduceSub, Nat.reduceLeDiff, ne_eq, eq_self, u_1, ag_1, sz_1, by_1, ze_1, es_1, u_3, ag_3, sz_3, by_3, ze_3, es_3, u_4, ag_4, sz_4, by_4, ze_4, bo_4, es_4, u_9, ag_9, sz_9, by_9, ze_9, es_9, u_22, ag_22, sz_22, by_22, ze_22, es_22, u_23, ag_23, sz_23, by_23, ze_23, es_23, u_26, ag_26, sz_26, by_26, ze_26, es_26, u_27, ag_27, sz_27, by_27, ze_27, es_27, ↓AW_loop, f134, f133, hkn']
      · simp -dsimp -implicitDefEqProofs (disch := first | omega | (simp only [stT, u_1, ag_1, sz_1, by_1, ze_1, es_1, u_3, ag_3, sz_3, by_3, ze_3, es_3, u_4, ag_4, sz_4, by_4, ze_4, bo_4, es_4, u_9, ag_9, sz_9, by_9, ze_9, es_9, u_22, ag_22, sz_22, by_22, ze_22, es_22, u_23, ag_23, sz_23, by_23, ze_23, es_23, u_26, ag_26, sz_26, by_26, ze_26, es_26, u_27, ag_27, sz_27, by_27, ze_27, es_27]; done) | (simp only [List.append_assoc, List.cons_append, List.nil_append, pre_n, pre_c, pre_a, pre_g, pre_r]; done) | (simp only [List.length_set]; done) | (simp only [List.length_set]; omega) | assumption | decide +kernel | fail) only [↓RP, RQ, isConstA, Nat.reduceEqDiff, Nat.reduceLT, Nat.reduceAdd, Int.reduceNeg, Int.reduceLT, Int.reduceLE, Int.reduceToNat, Int.reduceEq, ↓reduceIte, ite_true, ite_false, Option.toList, Nat.reduceMul, Nat.reduceSub, Nat.reduceLeDiff, ne_eq, eq_self, u_1, ag_1, sz_1, by_1, ze_1, es_1, u_3, ag_3, sz_3, by_3, ze_3, es_3, u_4, ag_4, sz_4, by_4, ze_4, bo_4, es_4, u_9, ag_9, sz_9, by_9, ze_9, es_9, u_22, ag_22, sz_22, by_22, ze_22, es_22, u_23, ag_23, sz_23, by_23, ze_23, es_23, u_26, ag_26, sz_26, by_26, ze_26, es_26, u_27, ag_27, sz_27, by_27, ze_27, es_27, ↓AW_loop]
        exact ⟨f9, f11⟩
  · simp -dsimp -implicitDefEqProofs (disch := first | omega | (simp only [stT, u_1, ag_1, sz_1, by_1, ze_1, es_1, u_3, ag_3, sz_3, by_3, ze_3, es_3, u_4, ag_4, sz_4, by_4, ze_4, bo_4, es_4, u_9, ag_9, sz_9, by_9, ze_9, es_9, u_22, ag_22, sz_22, by_22, ze_22, es_22, u_23, ag_23, sz_23, by_23, ze_23, es_23, u_26, ag_26, sz_26, by_26, ze_26, es_26, u_27, ag_27, sz_27, by_27, ze_27, es_27]; done) | (simp only [List.append_assoc, List.cons_append, List.nil_append, pre_n, pre_c, pre_a, pre_g, pre_r]; done) | (simp only [List.length_set]; done) | (simp only [List.length_set]; omega) | assumption | decide +kernel | fail) only [↓RP, RQ, isConstA, Nat.reduceEqDiff, Nat.reduceLT, Nat.reduceAdd, Int.reduceNeg, Int.reduceLT, Int.reduceLE, Int.reduceToNat, Int.reduceEq, ↓reduceIte, ite_true, ite_false, Option.toList, Nat.reduceMul, Nat.reduceSub, Nat.reduceLeDiff, ne_eq, eq_self, u_1, ag_1, sz_1, by_1, ze_1, es_1, u_3, ag_3, sz_3, by_3, ze_3, es_3, u_4, ag_4, sz_4, by_4, ze_4, bo_4, es_4, u_9, ag_9, sz_9, by_9, ze_9, es_9, u_22, ag_22, sz_22, by_22, ze_22, es_22, u_23, ag_23, sz_23, by_23, ze_23, es_23, u_26, ag_26, sz_26, by_26, ze_26, es_26, u_27, ag_27, sz_27, by_27, ze_27, es_27, ↓AW_loop]
    exact ⟨rfl, rfl, rfl, tw0, KI.new hw1 hw2⟩
end Go.Abs
/- Mx27: the law MuxReset: its walk. Conditions: none. -/
set_option maxRecDepth 100000
set_option linter.unusedSimpArgs false
set_option linter.unusedVariables false
namespace Go.Abs
open Go.Proofs
theorem write_done (m : MuxS) (id i : Nat) (s : Strm) (text : List UInt8) {h : AHeap} {p : Nat} {sb : Option Nat} {ids : List Nat} (a : MuxAt h p sb ids m) (hl : ids.length < 2 ^ 40) (hb : m.broken = false) (hf : findS m id = (i : Int)) (hs : m.streams[i]? = some s) (hr : s.reset = true) :
    Quiet cx 12 [ptrC p, .int .i64 id, .string (str text)] h (.tuple #[.int .i64 0, .int .i64 16]) := by
  refine FW_f Try.func12 rfl (by decide +kernel) ?_
  simp -dsimp -implicitDefEqProofs (disch := first | omega | (simp only [stT, u_2, ag_2, sz_2, by_2, ze_2, es_2, u_3, ag_3, sz_3, by_3, ze_3, es_3, u_4, ag_4, sz_4, by_4, ze_4, bo_4, es_4, u_9, ag_9, sz_9, by_9, ze_9, es_9, u_26, ag_26, sz_26, by_26, ze_26, es_26, u_27, ag_27, sz_27, by_27, ze_27, es_27, u_63, f_63_0, f_63_1, f_63_2, f_63_3, f_63_4, f_63_5, f_63_6, f_63_7, f_63_8, f_63_9, f_63_10, ag_63, sz_63, by_63, ze_63, pl_63, es_63]; done) | (simp only [List.append_assoc, List.cons_append, List.nil_append, pre_n, pre_c, pre_a, pre_g, pre_r]; done) | (simp only [List.length_set]; done) | (simp only [List.length_set]; omega) | assumption | decide +kernel | fail) only [↓RP, RQ, isConstA, Nat.reduceEqDiff, Nat.reduceLT, Nat.reduceAdd, Int.reduceNeg, Int.reduceLT, Int.reduceLE, Int.reduceToNat, Int.reduceEq, ↓reduceIte, ite_true, ite_false, Option.toList, Nat.reduceMul, Nat.reduceSub, Nat.reduceLeDiff, ne_eq, eq_self, u_2, ag_2, sz_2, by_2, ze_2, es_2, u_3, ag_3, sz_3, by_3, ze_3, es_3, u_4, ag_4, sz_4, by_4, ze_4, bo_4, es_4, u_9, ag_9, sz_9, by_9, ze_9, es_9, u_26, ag_26, sz_26, by_26, ze_26, es_26, u_27, ag_27, sz_27, by_27, ze_27, es_27, u_63, f_63_0, f_63_1, f_63_2, f_63_3, f_63_4, f_63_5, f_63_6, f_63_7, f_63_8, f_63_9, f_63_10, ag_63, sz_63, by_63, ze_63, pl_63, es_63, ↓AW_loop]
  refine (usable_q m id a hl).use' fun g => ?_
  have he : usableS m id = 16 := by
    unfold usableS
    rw [if_neg (by rw [hb]; simp), hf, if_neg (by omega), Int.toNat_natCast, hs]
    simp only
    rw [if_pos (.inr hr)]
  rw [he]
  simp -dsimp -implicitDefEqProofs (disch := first | omega | (simp only [stT, u_2, ag_2, sz_2, by_2, ze_2, es_2, u_3, ag_3, sz_3, by_3, ze_3, es_3, u_4, ag_4, sz_4, by_4, ze_4, bo_4, es_4, u_9, ag_9, sz_9, by_9, ze_9, es_9, u_26, ag_26, sz_26, by_26, ze_26, es_26, u_27, ag_27, sz_27, by_27, ze_27, es_27, u_63, f_63_0, f_63_1, f_63_2, f_63_3, f_63_4, f_63_5, f_63_6, f_63_7, f_63_8, f_63_9, f_63_10, ag_63, sz_63, by_63, ze_63, pl_63, es_63]; done) | (simp only [List.append_assoc, List.cons_append, List.nil_append, pre_n, pre_c, pre_a, pre_g, pre_r]; done) | (simp only [List.length_set]; done) | (simp only [List.length_set]; omega) | assumption | decide +kernel | fail) only [↓RP, RQ, isConstA, Nat.reduceEqDiff, Nat.reduceLT, Nat.reduceAdd, Int.reduceNeg, Int.reduceLT, Int.reduceLE, Int.reduceToNat, Int.reduceEq, ↓reduceIte, ite_true, ite_false, Option.toList, Nat.reduceMul, Nat.reduceSub, Nat.reduceLeDiff, ne_eq, eq_self, u_2, ag_2, sz_2, by_2, ze_2, es_2, u_3, ag_3, sz_3, by_3, ze_3, es_3, u_4, ag_4, sz_4, by_4, ze_4, bo_4, es_4, u_9, ag_9, sz_9, by_9, ze_9, es_9, u_26, ag_26, sz_26, by_26, ze_26, es_26, u_27, ag_27, sz_27, by_27, ze_27, es_27, u_63, f_63_0, f_63_1, f_63_2, f_63_3, f_63_4, f_63_5, f_63_6, f_63_7, f_63_8, f_63_9, f_63_10, ag_63, sz_63, by_63, ze_63, pl_63, es_63, ↓AW_loop]
  exact Ext.app _ _
/-- The first end of MuxReset, ahead of the talk. -/
def resetA (y : List UInt8) : MuxS := ⟨true, 64, 5, [⟨1, [120], [], [], 64, 64, 0, false, false, false, true⟩, ⟨3, [121], y, [], 64, 64, 0, true, false, false, false⟩], frameS 2 1 [120] ++ frameS 2 3 [121] ++ frameS 4 1 [], [], 0, [], false⟩
def resetB : List Strm := [⟨1, [120], [], [], 64, 64, 0, false, false, false, true⟩, ⟨3, [121], [], [], 64, 64, 0, false, false, false, false⟩]
def resetT (y : List UInt8) : List Pl := [⟨[], [120], false, true⟩, ⟨y, [121], true, false⟩]
def resetF : List Fr := [⟨2, 1, [120]⟩, ⟨2, 3, [121]⟩, ⟨4, 1, []⟩]
theorem reset_app : appL false 64 [] resetF = some resetB := by
  have e1 : stepL false 64 [] ⟨2, 1, [120]⟩ = some [newStrm (mk false 64 []) 1 [120]] := open_ok (B := []) (fun i s h => by simp at h) (by decide) (by decide)
  have e2 : stepL false 64 [newStrm (mk false 64 []) 1 [120]] ⟨2, 3, [121]⟩ = some [newStrm (mk false 64 []) 1 [120], newStrm (mk false 64 []) 3 [121]] :=
    open_ok (B := [newStrm (mk false 64 []) 1 [120]]) (fun i s h => by
      match i, h with
      | 0, h => cases h; rfl) (by decide) (by decide)
  have hids : Ids [newStrm (mk false 64 []) 1 [120], newStrm (mk false 64 []) 3 [121]] := fun i s h => by
    match i, h with
    | 0, h => cases h; rfl
    | 1, h => cases h; rfl
  have e3 : stepL false 64 [newStrm (mk false 64 []) 1 [120], newStrm (mk false 64 []) 3 [121]] ⟨4, 1, []⟩ = some resetB :=
    stepL_iff.2 (.inr ⟨by decide, by decide, by decide, 0, newStrm (mk false 64 []) 1 [120], find_at (i := 0) (s := newStrm (mk false 64 []) 1 [120]) hids rfl, rfl, bodyE_iff.2 ⟨by simp, by simp, by simp, by simp⟩, rfl⟩)
  unfold resetF
  rw [appL, e1]
  simp only
  rw [appL, e2]
  simp only
  rw [appL, e3]
  rfl
theorem J.reset (y : List UInt8) (hy : y.length ≤ 100) : J 64 (resetT y) [] [] [] (resetA y) (newM false 64) resetF resetB [] := by
  refine ⟨rfl, rfl, rfl, rfl, rfl, rfl, by decide, by decide, rfl, by simp [resetT], fun t h => ?_, fun i s h => ?_, rfl, fun f h => ?_, reset_app, rfl, fun f h => by simp at h, rfl, fun i sa sb t h1 h2 h3 => ?_, fun s h => by simp [newM] at h, by simp [newM], by simp [resetA], by simp [newM]⟩
  · simp only [resetT, List.mem_cons, List.not_mem_nil, or_false] at h
    rcases h with rfl | rfl
    · exact ⟨fun _ => rfl, by simp⟩
    · exact ⟨fun h => (by cases h), by simp only; omega⟩
  · match i, h with
    | 0, h => cases h; rfl
    | 1, h => cases h; rfl
    | n + 2, h => simp [resetA] at h
  · simp only [resetF, List.mem_cons, List.not_mem_nil, or_false] at h
    rcases h with rfl | rfl | rfl <;> exact ⟨by decide, by decide, by decide⟩
  · match i, h1, h2, h3 with
    | 0, h1, h2, h3 =>
      cases h1; cases h2; cases h3
      exact ⟨rfl, rfl, rfl, rfl, rfl, rfl, rfl, rfl, rfl, fun h => (by cases h), rfl, rfl, rfl, rfl, Nat.le_refl _⟩
    | 1, h1, h2, h3 =>
      cases h1; cases h2; cases h3
      exact ⟨rfl, rfl, rfl, rfl, rfl, rfl, rfl, rfl, rfl, fun h => (by cases h), rfl, rfl, rfl, rfl, Nat.le_refl _⟩
    | n + 2, h1, h2, h3 => simp [resetA] at h1
theorem reset_phi (y : List UInt8) (hy : y.length ≤ 100) : Phi (resetT y) [] (resetA y) (newM false 64) + 5 ≤ 2100 := by
  have h1 := left_le (resetT y) 100 (fun t ht => by
    simp only [resetT, List.mem_cons, List.not_mem_nil, or_false] at ht
    rcases ht with rfl | rfl
    · simp
    · exact hy)
  have h2 : (resetT y).length = 2 := rfl
  rw [h2] at h1
  have h3 : pA (resetA y) ≤ 622 := by
    unfold pA resetA
    simp only [List.length_append, frameS_len, List.map_cons, List.map_nil, List.sum_cons, List.sum_nil, cA, List.length_nil, List.length_cons]
    simp only [Bool.false_eq_true, or_false, or_self, if_true, if_false]
    omega
  unfold Phi
  simp only [newM, List.length_nil]
  omega
def text100 (b : List UInt8) : List UInt8 := b.take (min b.length 100)
theorem text100_len (b : List UInt8) : (text100 b).length ≤ 100 := by unfold text100; rw [List.length_take]; omega
theorem reset_w (la lb : List UInt8) (ls : List Int) {ai : Option Addr} {mi : Nat} {h0 : AHeap} (hla : la.length < 2 ^ 50) (hlb : lb.length < 2 ^ 50) (hsi : SlA intE 1 true h0 ai ls) (hls : ls.length < 2 ^ 50) :
    FW cx 7 [.string (str la), .string (str lb), .slice ai ls.length mi] h0 fun v _ => v = .bool true := by
  have hmin1 : foldA min2A (Value.int .i64 (la.length : Int)) [.int .i64 100] = some (.int .i64 ((min la.length 100 : Nat) : Int)) := by
    simp only [foldA, min2A]; congr 2; split <;> omega
  have hmin2 : foldA min2A (Value.int .i64 (lb.length : Int)) [.int .i64 100] = some (.int .i64 ((min lb.length 100 : Nat) : Int)) := by
    simp only [foldA, min2A]; congr 2; split <;> omega
  have hx1 : la.take (min la.length 100) = text100 la := rfl
  have hx2 : lb.take (min lb.length 100) = text100 lb := rfl
  refine FW_f Try.func7 rfl (by decide +kernel) ?_
  simp -dsimp -implicitDefEqProofs (disch := first | omega | (simp only [stT, u_3, ag_3, sz_3, by_3, ze_3, es_3, u_4, ag_4, sz_4, by_4, ze_4, bo_4, es_4, u_9, ag_9, sz_9, by_9, ze_9, es_9, u_22, ag_22, sz_22, by_22, ze_22, es_22, u_23, ag_23, sz_23, by_23, ze_23, es_23, u_26, ag_26, sz_26, by_26, ze_26, es_26, u_27, ag_27, sz_27, by_27, ze_27, es_27]; done) | (simp only [List.append_assoc, List.cons_append, List.nil_append, pre_n, pre_c, pre_a, pre_g, pre_r]; done) | (simp only [List.length_set]; done) | (simp only [List.length_set]; omega) | assumption | decide +kernel | fail) only [↓RP, RQ, isConstA, Nat.reduceEqDiff, Nat.reduceLT, Nat.reduceAdd, Int.reduceNeg, Int.reduceLT, Int.reduceLE, Int.reduceToNat, Int.reduceEq, ↓reduceIte, ite_true, ite_false, Option.toList, Nat.reduceMul, Nat.reduceSub, Nat.reduceLeDiff, ne_eq, eq_self, u_3, ag_3, sz_3, by_3, ze_3, es_3, u_4, ag_4, sz_4, by_4, ze_4, bo_4, es_4, u_9, ag_9, sz_9, by_9, ze_9, es_9, u_22, ag_22, sz_22, by_22, ze_22, es_22, u_23, ag_23, sz_23, by_23, ze_23, es_23, u_26, ag_26, sz_26, by_26, ze_26, es_26, u_27, ag_27, sz_27, by_27, ze_27, es_27, ↓AW_loop]
  refine FW.mono (new_q true 64 (by decide) (by decide) _) (fun v h1 hq => ?_)
  obtain ⟨rfl, a1, e1⟩ := hq
  have ex1 : Ext h0 h1 := by rw [e1]; exact Ext.app _ _
  have hpal : h0.length < h1.length := by rw [e1]; simp
  clear e1
  obtain ⟨pa, hpa⟩ : ∃ pa, h0.length = pa := ⟨_, rfl⟩
  rw [hpa] at a1 hpal ⊢
  simp -dsimp -implicitDefEqProofs (disch := first | omega | (simp only [stT, u_3, ag_3, sz_3, by_3, ze_3, es_3, u_4, ag_4, sz_4, by_4, ze_4, bo_4, es_4, u_9, ag_9, sz_9, by_9, ze_9, es_9, u_22, ag_22, sz_22, by_22, ze_22, es_22, u_23, ag_23, sz_23, by_23, ze_23, es_23, u_26, ag_26, sz_26, by_26, ze_26, es_26, u_27, ag_27, sz_27, by_27, ze_27, es_27]; done) | (simp only [List.append_assoc, List.cons_append, List.nil_append, pre_n, pre_c, pre_a, pre_g, pre_r]; done) | (simp only [List.length_set]; done) | (simp only [List.length_set]; omega) | assumption | decide +kernel | fail) only [↓RP, RQ, isConstA, Nat.reduceEqDiff, Nat.reduceLT, Nat.reduceAdd, Int.reduceNeg, Int.reduceLT, Int.reduceLE, Int.reduceToNat, Int.reduceEq, ↓reduceIte, ite_true, ite_false, Option.toList, Nat.reduceMul, Nat.reduceSub, Nat.reduceLeDiff, ne_eq, eq_self, u_3, ag_3, sz_3, by_3, ze_3, es_3, u_4, ag_4, sz_4, by_4, ze_4, bo_4, es_4, u_9, ag_9, sz_9, by_9, ze_9, es_9, u_22, ag_22, sz_22, by_22, ze_22, es_22, u_23, ag_23, sz_23, by_23, ze_23, es_23, u_26, ag_26, sz_26, by_26, ze_26, es_26, u_27, ag_27, sz_27, by_27, ze_27, es_27, ↓AW_loop]
  refine FW.mono (new_q false 64 (by decide) (by decide) h1) (fun v h2 hq => ?_)
  obtain ⟨rfl, b2, e2⟩ := hq
  have ex2 : Ext h1 h2 := by rw [e2]; exact Ext.app _ _
  have a2 := a1.ext ex2
  clear e2
  have hpb : pa < h1.length := hpal
  generalize h1.length = pb at b2 hpb
  simp -dsimp -implicitDefEqProofs (disch := first | omega | (simp only [stT, u_3, ag_3, sz_3, by_3, ze_3, es_3, u_4, ag_4, sz_4, by_4, ze_4, bo_4, es_4, u_9, ag_9, sz_9, by_9, ze_9, es_9, u_22, ag_22, sz_22, by_22, ze_22, es_22, u_23, ag_23, sz_23, by_23, ze_23, es_23, u_26, ag_26, sz_26, by_26, ze_26, es_26, u_27, ag_27, sz_27, by_27, ze_27, es_27]; done) | (simp only [List.append_assoc, List.cons_append, List.nil_append, pre_n, pre_c, pre_a, pre_g, pre_r]; done) | (simp only [List.length_set]; done) | (simp only [List.length_set]; omega) | assumption | decide +kernel | fail) only [↓RP, RQ, isConstA, Nat.reduceEqDiff, Nat.reduceLT, Nat.reduceAdd, Int.reduceNeg, Int.reduceLT, Int.reduceLE, Int.reduceToNat, Int.reduceEq, ↓reduceIte, ite_true, ite_false, Option.toList, Nat.reduceMul, Nat.reduceSub, Nat.reduceLeDiff, ne_eq, eq_self, u_3, ag_3, sz_3, by_3, ze_3, es_3, u_4, ag_4, sz_4, by_4, ze_4, bo_4, es_4, u_9, ag_9, sz_9, by_9, ze_9, es_9, u_22, ag_22, sz_22, by_22, ze_22, es_22, u_23, ag_23, sz_23, by_23, ze_23, es_23, u_26, ag_26, sz_26, by_26, ze_26, es_26, u_27, ag_27, sz_27, by_27, ze_27, es_27, ↓AW_loop, ptrC]
  refine FW.mono (fact_q h2) (fun v h3 hq => ?_)
  obtain ⟨rfl, u3⟩ := hq
  have ex3 := u3.toExt
  have ex03 := (ex1.trans ex2).trans ex3
  have a3 := a2.ext ex3
  have b3 := b2.ext ex3
  have tw0 : TW (fun q => q < h0.length) h0 h3 pa pb none none [] [] none none (newM true 64) (newM false 64) [] [] := {
    ma := a3, mb := b3, oa := .inl ⟨rfl, rfl⟩, ob := .inl ⟨rfl, rfl⟩,
    dab := fun q h1 h2 => by simp [foot] at h1 h2; omega,
    da1 := fun q h => (by cases h), db1 := fun q h => (by cases h), da2 := fun q h => (by cases h), db2 := fun q h => (by cases h), dl := fun q h => (by cases h),
    na := fun q h1 h2 => by simp [foot] at h1; omega,
    nb := fun q h1 h2 => by simp [foot] at h1; omega,
    n1 := fun q h => (by cases h), n2 := fun q h => (by cases h),
    wl := fun q h => h, len := ex03.len, keep := fun q h => ex03.get h }
  simp -dsimp -implicitDefEqProofs (disch := first | omega | (simp only [stT, u_3, ag_3, sz_3, by_3, ze_3, es_3, u_4, ag_4, sz_4, by_4, ze_4, bo_4, es_4, u_9, ag_9, sz_9, by_9, ze_9, es_9, u_22, ag_22, sz_22, by_22, ze_22, es_22, u_23, ag_23, sz_23, by_23, ze_23, es_23, u_26, ag_26, sz_26, by_26, ze_26, es_26, u_27, ag_27, sz_27, by_27, ze_27, es_27]; done) | (simp only [List.append_assoc, List.cons_append, List.nil_append, pre_n, pre_c, pre_a, pre_g, pre_r]; done) | (simp only [List.length_set]; done) | (simp only [List.length_set]; omega) | assumption | decide +kernel | fail) only [↓RP, RQ, isConstA, Nat.reduceEqDiff, Nat.reduceLT, Nat.reduceAdd, Int.reduceNeg, Int.reduceLT, Int.reduceLE, Int.reduceToNat, Int.reduceEq, ↓reduceIte, ite_true, ite_false, Option.toList, Nat.reduceMul, Nat.reduceSub, Nat.reduceLeDiff, ne_eq, eq_self, u_3, ag_3, sz_3, by_3, ze_3, es_3, u_4, ag_4, sz_4, by_4, ze_4, bo_4, es_4, u_9, ag_9, sz_9, by_9, ze_9, es_9, u_22, ag_22, sz_22, by_22, ze_22, es_22, u_23, ag_23, sz_23, by_23, ze_23, es_23, u_26, ag_26, sz_26, by_26, ze_26, es_26, u_27, ag_27, sz_27, by_27, ze_27, es_27, ↓AW_loop, hmin1, hmin2, hx1, hx2]
  refine ⟨by decide +kernel, by omega, by omega, ?_⟩
  have htl1 := text100_len la
  have htl2 := text100_len lb
  generalize text100 la = x1 at *
  generalize text100 lb = y1 at *
  have ha1 := tw0.ma
  refine FW.mono (open_q (newM true 64) [120] ha1 rfl (by decide) (by decide) (by decide) (by decide) (by decide) (fun s hs => by simp [newM] at hs)) (fun v h4 hq => ?_)
  obtain ⟨rfl, sa4, ia4, a4, u4⟩ := hq
  have hl4 : ia4.length = 1 := a4.len
  simp -dsimp -implicitDefEqProofs (disch := first | omega | (simp only [stT, u_3, ag_3, sz_3, by_3, ze_3, es_3, u_4, ag_4, sz_4, by_4, ze_4, bo_4, es_4, u_9, ag_9, sz_9, by_9, ze_9, es_9, u_22, ag_22, sz_22, by_22, ze_22, es_22, u_23, ag_23, sz_23, by_23, ze_23, es_23, u_26, ag_26, sz_26, by_26, ze_26, es_26, u_27, ag_27, sz_27, by_27, ze_27, es_27]; done) | (simp only [List.append_assoc, List.cons_append, List.nil_append, pre_n, pre_c, pre_a, pre_g, pre_r]; done) | (simp only [List.length_set]; done) | (simp only [List.length_set]; omega) | assumption | decide +kernel | fail) only [↓RP, RQ, isConstA, Nat.reduceEqDiff, Nat.reduceLT, Nat.reduceAdd, Int.reduceNeg, Int.reduceLT, Int.reduceLE, Int.reduceToNat, Int.reduceEq, ↓reduceIte, ite_true, ite_false, Option.toList, Nat.reduceMul, Nat.reduceSub, Nat.reduceLeDiff, ne_eq, eq_self, u_3, ag_3, sz_3, by_3, ze_3, es_3, u_4, ag_4, sz_4, by_4, ze_4, bo_4, es_4, u_9, ag_9, sz_9, by_9, ze_9, es_9, u_22, ag_22, sz_22, by_22, ze_22, es_22, u_23, ag_23, sz_23, by_23, ze_23, es_23, u_26, ag_26, sz_26, by_26, ze_26, es_26, u_27, ag_27, sz_27, by_27, ze_27, es_27, ↓AW_loop, newM, ite_true]
  refine FW.mono (open_q (openS (newM true 64) [120]) [121] a4 rfl (by decide) (by decide) (by omega) (by decide) (by decide) (fun s hs => by simp [openS, newM, newStrm] at hs; subst hs; decide)) (fun v h5 hq => ?_)
  obtain ⟨rfl, sa5, ia5, a5, u5⟩ := hq
  have hl5 : ia5.length = 2 := a5.len
  simp -dsimp -implicitDefEqProofs (disch := first | omega | (simp only [stT, u_3, ag_3, sz_3, by_3, ze_3, es_3, u_4, ag_4, sz_4, by_4, ze_4, bo_4, es_4, u_9, ag_9, sz_9, by_9, ze_9, es_9, u_22, ag_22, sz_22, by_22, ze_22, es_22, u_23, ag_23, sz_23, by_23, ze_23, es_23, u_26, ag_26, sz_26, by_26, ze_26, es_26, u_27, ag_27, sz_27, by_27, ze_27, es_27]; done) | (simp only [List.append_assoc, List.cons_append, List.nil_append, pre_n, pre_c, pre_a, pre_g, pre_r]; done) | (simp only [List.length_set]; done) | (simp only [List.length_set]; omega) | assumption | decide +kernel | fail) only [↓RP, RQ, isConstA, Nat.reduceEqDiff, Nat.reduceLT, Nat.reduceAdd, Int.reduceNeg, Int.reduceLT, Int.reduceLE, Int.reduceToNat, Int.reduceEq, ↓reduceIte, ite_true, ite_false, Option.toList, Nat.reduceMul, Nat.reduceSub, Nat.reduceLeDiff, ne_eq, eq_self, u_3, ag_3, sz_3, by_3, ze_3, es_3, u_4, ag_4, sz_4, by_4, ze_4, bo_4, es_4, u_9, ag_9, sz_9, by_9, ze_9, es_9, u_22, ag_22, sz_22, by_22, ze_22, es_22, u_23, ag_23, sz_23, by_23, ze_23, es_23, u_26, ag_26, sz_26, by_26, ze_26, es_26, u_27, ag_27, sz_27, by_27, ze_27, es_27, ↓AW_loop, newM, openS, ite_true]
  refine FW.mono (write_q (openS (openS (newM true 64) [120]) [121]) 1 0 (newStrm (newM true 64) 1 [120]) x1 a5 (by omega) rfl rfl rfl rfl rfl (by decide) (by omega)) (fun v h6 hq => ?_)
  obtain ⟨rfl, a6, u6⟩ := hq
  simp -dsimp -implicitDefEqProofs (disch := first | omega | (simp only [stT, u_3, ag_3, sz_3, by_3, ze_3, es_3, u_4, ag_4, sz_4, by_4, ze_4, bo_4, es_4, u_9, ag_9, sz_9, by_9, ze_9, es_9, u_22, ag_22, sz_22, by_22, ze_22, es_22, u_23, ag_23, sz_23, by_23, ze_23, es_23, u_26, ag_26, sz_26, by_26, ze_26, es_26, u_27, ag_27, sz_27, by_27, ze_27, es_27]; done) | (simp only [List.append_assoc, List.cons_append, List.nil_append, pre_n, pre_c, pre_a, pre_g, pre_r]; done) | (simp only [List.length_set]; done) | (simp only [List.length_set]; omega) | assumption | decide +kernel | fail) only [↓RP, RQ, isConstA, Nat.reduceEqDiff, Nat.reduceLT, Nat.reduceAdd, Int.reduceNeg, Int.reduceLT, Int.reduceLE, Int.reduceToNat, Int.reduceEq, ↓reduceIte, ite_true, ite_false, Option.toList, Nat.reduceMul, Nat.reduceSub, Nat.reduceLeDiff, ne_eq, eq_self, u_3, ag_3, sz_3, by_3, ze_3, es_3, u_4, ag_4, sz_4, by_4, ze_4, bo_4, es_4, u_9, ag_9, sz_9, by_9, ze_9, es_9, u_22, ag_22, sz_22, by_22, ze_22, es_22, u_23, ag_23, sz_23, by_23, ze_23, es_23, u_26, ag_26, sz_26, by_26, ze_26, es_26, u_27, ag_27, sz_27, by_27, ze_27, es_27, ↓AW_loop, newM, openS, ite_true]
  refine FW.mono (write_q (writeM (openS (openS (newM true 64) [120]) [121]) 0 (newStrm (newM true 64) 1 [120]) x1) 3 1 (newStrm (newM true 64) 3 [121]) y1 a6 (by omega) rfl rfl rfl rfl rfl (by decide) (by omega)) (fun v h7 hq => ?_)
  obtain ⟨rfl, a7, u7⟩ := hq
  simp -dsimp -implicitDefEqProofs (disch := first | omega | (simp only [stT, u_3, ag_3, sz_3, by_3, ze_3, es_3, u_4, ag_4, sz_4, by_4, ze_4, bo_4, es_4, u_9, ag_9, sz_9, by_9, ze_9, es_9, u_22, ag_22, sz_22, by_22, ze_22, es_22, u_23, ag_23, sz_23, by_23, ze_23, es_23, u_26, ag_26, sz_26, by_26, ze_26, es_26, u_27, ag_27, sz_27, by_27, ze_27, es_27]; done) | (simp only [List.append_assoc, List.cons_append, List.nil_append, pre_n, pre_c, pre_a, pre_g, pre_r]; done) | (simp only [List.length_set]; done) | (simp only [List.length_set]; omega) | assumption | decide +kernel | fail) only [↓RP, RQ, isConstA, Nat.reduceEqDiff, Nat.reduceLT, Nat.reduceAdd, Int.reduceNeg, Int.reduceLT, Int.reduceLE, Int.reduceToNat, Int.reduceEq, ↓reduceIte, ite_true, ite_false, Option.toList, Nat.reduceMul, Nat.reduceSub, Nat.reduceLeDiff, ne_eq, eq_self, u_3, ag_3, sz_3, by_3, ze_3, es_3, u_4, ag_4, sz_4, by_4, ze_4, bo_4, es_4, u_9, ag_9, sz_9, by_9, ze_9, es_9, u_22, ag_22, sz_22, by_22, ze_22, es_22, u_23, ag_23, sz_23, by_23, ze_23, es_23, u_26, ag_26, sz_26, by_26, ze_26, es_26, u_27, ag_27, sz_27, by_27, ze_27, es_27, ↓AW_loop, newM, openS, ite_true]
  refine FW.mono (finish_q _ 3 1 { newStrm (newM true 64) 3 [121] with out := (newStrm (newM true 64) 3 [121]).out ++ y1.take (min y1.length (4096 - (newStrm (newM true 64) 3 [121]).out.length)) } a7 (by omega) rfl rfl rfl rfl rfl) (fun v h8 hq => ?_)
  obtain ⟨rfl, a8, u8⟩ := hq
  simp -dsimp -implicitDefEqProofs (disch := first | omega | (simp only [stT, u_3, ag_3, sz_3, by_3, ze_3, es_3, u_4, ag_4, sz_4, by_4, ze_4, bo_4, es_4, u_9, ag_9, sz_9, by_9, ze_9, es_9, u_22, ag_22, sz_22, by_22, ze_22, es_22, u_23, ag_23, sz_23, by_23, ze_23, es_23, u_26, ag_26, sz_26, by_26, ze_26, es_26, u_27, ag_27, sz_27, by_27, ze_27, es_27]; done) | (simp only [List.append_assoc, List.cons_append, List.nil_append, pre_n, pre_c, pre_a, pre_g, pre_r]; done) | (simp only [List.length_set]; done) | (simp only [List.length_set]; omega) | assumption | decide +kernel | fail) only [↓RP, RQ, isConstA, Nat.reduceEqDiff, Nat.reduceLT, Nat.reduceAdd, Int.reduceNeg, Int.reduceLT, Int.reduceLE, Int.reduceToNat, Int.reduceEq, ↓reduceIte, ite_true, ite_false, Option.toList, Nat.reduceMul, Nat.reduceSub, Nat.reduceLeDiff, ne_eq, eq_self, u_3, ag_3, sz_3, by_3, ze_3, es_3, u_4, ag_4, sz_4, by_4, ze_4, bo_4, es_4, u_9, ag_9, sz_9, by_9, ze_9, es_9, u_22, ag_22, sz_22, by_22, ze_22, es_22, u_23, ag_23, sz_23, by_23, ze_23, es_23, u_26, ag_26, sz_26, by_26, ze_26, es_26, u_27, ag_27, sz_27, by_27, ze_27, es_27, ↓AW_loop, newM, openS, ite_true]
  refine FW.mono (reset_q _ 1 0 { newStrm (newM true 64) 1 [120] with out := (newStrm (newM true 64) 1 [120]).out ++ x1.take (min x1.length (4096 - (newStrm (newM true 64) 1 [120]).out.length)) } a8 (by omega) rfl rfl rfl rfl (by simp only [finishM, writeM, openS, newM, frameS, List.nil_append, List.length_append, List.length_cons, List.length_nil]; omega)) (fun v h9 hq => ?_)
  obtain ⟨rfl, a9, u9⟩ := hq
  have hst : resetM (finishM (writeM (writeM (openS (openS (newM true 64) [120]) [121]) 0 (newStrm (newM true 64) 1 [120]) x1) 1 (newStrm (newM true 64) 3 [121]) y1) 1 { newStrm (newM true 64) 3 [121] with out := (newStrm (newM true 64) 3 [121]).out ++ y1.take (min y1.length (4096 - (newStrm (newM true 64) 3 [121]).out.length)) }) 0 { newStrm (newM true 64) 1 [120] with out := (newStrm (newM true 64) 1 [120]).out ++ x1.take (min x1.length (4096 - (newStrm (newM true 64) 1 [120]).out.length)) } 1 = resetA y1 := by
    have h2 : y1.take (min y1.length 4096) = y1 := List.take_of_length_le (by omega)
    simp only [resetM, finishM, writeM, openS, newM, newStrm, resetA, List.length_nil, Nat.sub_zero, List.nil_append, h2, List.cons_append, List.set_cons_zero, List.set_cons_succ, if_true]
  rw [hst] at a9
  have t9 := tw0.stepA a9 (((((u4.trans u5).trans u6).trans u7).trans u8).trans u9)
  have jj := J.reset y1 htl2
  have tg := t9.guard
  simp -dsimp -implicitDefEqProofs (disch := first | omega | (simp only [stT, u_3, ag_3, sz_3, by_3, ze_3, es_3, u_4, ag_4, sz_4, by_4, ze_4, bo_4, es_4, u_9, ag_9, sz_9, by_9, ze_9, es_9, u_22, ag_22, sz_22, by_22, ze_22, es_22, u_23, ag_23, sz_23, by_23, ze_23, es_23, u_26, ag_26, sz_26, by_26, ze_26, es_26, u_27, ag_27, sz_27, by_27, ze_27, es_27]; done) | (simp only [List.append_assoc, List.cons_append, List.nil_append, pre_n, pre_c, pre_a, pre_g, pre_r]; done) | (simp only [List.length_set]; done) | (simp only [List.length_set]; omega) | assumption | decide +kernel | fail) only [↓RP, RQ, isConstA, Nat.reduceEqDiff, Nat.reduceLT, Nat.reduceAdd, Int.reduceNeg, Int.reduceLT, Int.reduceLE, Int.reduceToNat, Int.reduceEq, ↓reduceIte, ite_true, ite_false, Option.toList, Nat.reduceMul, Nat.reduceSub, Nat.reduceLeDiff, ne_eq, eq_self, u_3, ag_3, sz_3, by_3, ze_3, es_3, u_4, ag_4, sz_4, by_4, ze_4, bo_4, es_4, u_9, ag_9, sz_9, by_9, ze_9, es_9, u_22, ag_22, sz_22, by_22, ze_22, es_22, u_23, ag_23, sz_23, by_23, ze_23, es_23, u_26, ag_26, sz_26, by_26, ze_26, es_26, u_27, ag_27, sz_27, by_27, ze_27, es_27, ↓AW_loop]
  refine FW.mono (talk_q jj (fun p hp => by
    simp only [resetT, List.mem_cons, List.not_mem_nil, or_false] at hp
    rcases hp with rfl | rfl
    · exact .inr rfl
    · exact .inl rfl) 2100 500 (reset_phi y1 htl2) (by decide) (by decide) (by decide) tg ls (fun h'' hk => hsi.keep (fun q hq => by rw [hk q (.inl hq), t9.keep q hq])) hls) (fun v h10 hq => ?_)
  obtain ⟨sa7, sb7, ia7, ib7, la7, lb7, a7, b7, R, Q, F7, B7, G7, rfl, t10, j7, c7, fin7, hRl, hphi7⟩ := hq
  obtain ⟨d1, d2, d3⟩ := j7.done c7 fin7
  obtain ⟨sx, x01, x02, x03, x04, x05, x06, x07⟩ := d3 0 ⟨[], [120], false, true⟩ rfl
  obtain ⟨sy, y01, y02, y03, y04, y05, y06, y07⟩ := d3 1 ⟨y1, [121], true, false⟩ rfl
  have y06 := y06 rfl
  have hRW : R = [[], y1] := rd_ext (by rw [hRl, d1]; rfl) (fun i hi => by
    match i, hi with
    | 0, _ => rw [x07]; rfl
    | 1, _ => rw [y07]; rfl
    | n + 2, h => exact absurd h (by simp))
  subst hRW
  have hbl := t10.mb.len
  rw [d1, show (resetT y1).length = 2 from rfl] at hbl
  have hds : doneS sy = true := by unfold doneS; rw [y06, y05]; rfl
  have y04 : sy.reset = false := y04
  have x04 : sx.reset = true := x04
  obtain ⟨ssx, hsx⟩ : ∃ s, a7.streams[0]? = some s := ⟨_, List.getElem?_eq_getElem (by rw [j7.n, show (resetT y1).length = 2 from rfl]; decide)⟩
  obtain ⟨_, tx, _, htx, rx⟩ := j7.at hsx
  cases htx
  have hrx : ssx.reset = true := rx.rs
  have hidx : ssx.id = 1 := j7.ids 0 ssx hsx
  have hal := t10.ma.len
  rw [j7.n, show (resetT y1).length = 2 from rfl] at hal
  simp -dsimp -implicitDefEqProofs (disch := first | omega | (simp only [stT, u_3, ag_3, sz_3, by_3, ze_3, es_3, u_4, ag_4, sz_4, by_4, ze_4, bo_4, es_4, u_9, ag_9, sz_9, by_9, ze_9, es_9, u_22, ag_22, sz_22, by_22, ze_22, es_22, u_23, ag_23, sz_23, by_23, ze_23, es_23, u_26, ag_26, sz_26, by_26, ze_26, es_26, u_27, ag_27, sz_27, by_27, ze_27, es_27]; done) | (simp only [List.append_assoc, List.cons_append, List.nil_append, pre_n, pre_c, pre_a, pre_g, pre_r]; done) | (simp only [List.length_set]; done) | (simp only [List.length_set]; omega) | assumption | decide +kernel | fail) only [↓RP, RQ, isConstA, Nat.reduceEqDiff, Nat.reduceLT, Nat.reduceAdd, Int.reduceNeg, Int.reduceLT, Int.reduceLE, Int.reduceToNat, Int.reduceEq, ↓reduceIte, ite_true, ite_false, Option.toList, Nat.reduceMul, Nat.reduceSub, Nat.reduceLeDiff, ne_eq, eq_self, u_3, ag_3, sz_3, by_3, ze_3, es_3, u_4, ag_4, sz_4, by_4, ze_4, bo_4, es_4, u_9, ag_9, sz_9, by_9, ze_9, es_9, u_22, ag_22, sz_22, by_22, ze_22, es_22, u_23, ag_23, sz_23, by_23, ze_23, es_23, u_26, ag_26, sz_26, by_26, ze_26, es_26, u_27, ag_27, sz_27, by_27, ze_27, es_27, ↓AW_loop, ptrC]
  have q1 := stream_q b7 sx.id 0 sx t10.mb (by omega) (find_ids' j7.idsb x01) x01
  rw [x02] at q1
  refine q1.use' fun g1 => ?_
  simp -dsimp -implicitDefEqProofs (disch := first | omega | (simp only [stT, u_3, ag_3, sz_3, by_3, ze_3, es_3, u_4, ag_4, sz_4, by_4, ze_4, bo_4, es_4, u_9, ag_9, sz_9, by_9, ze_9, es_9, u_22, ag_22, sz_22, by_22, ze_22, es_22, u_23, ag_23, sz_23, by_23, ze_23, es_23, u_26, ag_26, sz_26, by_26, ze_26, es_26, u_27, ag_27, sz_27, by_27, ze_27, es_27]; done) | (simp only [List.append_assoc, List.cons_append, List.nil_append, pre_n, pre_c, pre_a, pre_g, pre_r]; done) | (simp only [List.length_set]; done) | (simp only [List.length_set]; omega) | assumption | decide +kernel | fail) only [↓RP, RQ, isConstA, Nat.reduceEqDiff, Nat.reduceLT, Nat.reduceAdd, Int.reduceNeg, Int.reduceLT, Int.reduceLE, Int.reduceToNat, Int.reduceEq, ↓reduceIte, ite_true, ite_false, Option.toList, Nat.reduceMul, Nat.reduceSub, Nat.reduceLeDiff, ne_eq, eq_self, u_3, ag_3, sz_3, by_3, ze_3, es_3, u_4, ag_4, sz_4, by_4, ze_4, bo_4, es_4, u_9, ag_9, sz_9, by_9, ze_9, es_9, u_22, ag_22, sz_22, by_22, ze_22, es_22, u_23, ag_23, sz_23, by_23, ze_23, es_23, u_26, ag_26, sz_26, by_26, ze_26, es_26, u_27, ag_27, sz_27, by_27, ze_27, es_27, ↓AW_loop, ptrC]
  have q2 := stream_q b7 sy.id 1 sy (t10.mb.app g1) (by omega) (find_ids' j7.idsb y01) y01
  rw [y02] at q2
  refine q2.use' fun g2 => ?_
  rw [hds, y04, x04]
  simp -dsimp -implicitDefEqProofs (disch := first | omega | (simp only [stT, u_3, ag_3, sz_3, by_3, ze_3, es_3, u_4, ag_4, sz_4, by_4, ze_4, bo_4, es_4, u_9, ag_9, sz_9, by_9, ze_9, es_9, u_22, ag_22, sz_22, by_22, ze_22, es_22, u_23, ag_23, sz_23, by_23, ze_23, es_23, u_26, ag_26, sz_26, by_26, ze_26, es_26, u_27, ag_27, sz_27, by_27, ze_27, es_27]; done) | (simp only [List.append_assoc, List.cons_append, List.nil_append, pre_n, pre_c, pre_a, pre_g, pre_r]; done) | (simp only [List.length_set]; done) | (simp only [List.length_set]; omega) | assumption | decide +kernel | fail) only [↓RP, RQ, isConstA, Nat.reduceEqDiff, Nat.reduceLT, Nat.reduceAdd, Int.reduceNeg, Int.reduceLT, Int.reduceLE, Int.reduceToNat, Int.reduceEq, ↓reduceIte, ite_true, ite_false, Option.toList, Nat.reduceMul, Nat.reduceSub, Nat.reduceLeDiff, ne_eq, eq_self, u_3, ag_3, sz_3, by_3, ze_3, es_3, u_4, ag_4, sz_4, by_4, ze_4, bo_4, es_4, u_9, ag_9, sz_9, by_9, ze_9, es_9, u_22, ag_22, sz_22, by_22, ze_22, es_22, u_23, ag_23, sz_23, by_23, ze_23, es_23, u_26, ag_26, sz_26, by_26, ze_26, es_26, u_27, ag_27, sz_27, by_27, ze_27, es_27, ↓AW_loop, ptrC]
  have am := (t10.ma.app g1).app g2
  rw [List.append_assoc] at am
  have q3 := write_done a7 ssx.id 0 ssx [122] am (by omega) j7.ab (find_ids' j7.ids hsx) hsx hrx
  rw [hidx] at q3
  refine q3.use' fun g3 => ?_
  simp -dsimp -implicitDefEqProofs (disch := first | omega | (simp only [stT, u_3, ag_3, sz_3, by_3, ze_3, es_3, u_4, ag_4, sz_4, by_4, ze_4, bo_4, es_4, u_9, ag_9, sz_9, by_9, ze_9, es_9, u_22, ag_22, sz_22, by_22, ze_22, es_22, u_23, ag_23, sz_23, by_23, ze_23, es_23, u_26, ag_26, sz_26, by_26, ze_26, es_26, u_27, ag_27, sz_27, by_27, ze_27, es_27]; done) | (simp only [List.append_assoc, List.cons_append, List.nil_append, pre_n, pre_c, pre_a, pre_g, pre_r]; done) | (simp only [List.length_set]; done) | (simp only [List.length_set]; omega) | assumption | decide +kernel | fail) only [↓RP, RQ, isConstA, Nat.reduceEqDiff, Nat.reduceLT, Nat.reduceAdd, Int.reduceNeg, Int.reduceLT, Int.reduceLE, Int.reduceToNat, Int.reduceEq, ↓reduceIte, ite_true, ite_false, Option.toList, Nat.reduceMul, Nat.reduceSub, Nat.reduceLeDiff, ne_eq, eq_self, u_3, ag_3, sz_3, by_3, ze_3, es_3, u_4, ag_4, sz_4, by_4, ze_4, bo_4, es_4, u_9, ag_9, sz_9, by_9, ze_9, es_9, u_22, ag_22, sz_22, by_22, ze_22, es_22, u_23, ag_23, sz_23, by_23, ze_23, es_23, u_26, ag_26, sz_26, by_26, ze_26, es_26, u_27, ag_27, sz_27, by_27, ze_27, es_27, ↓AW_loop, ptrC]
  have bm := t10.mb.app (g1 ++ (g2 ++ g3))
  refine (broken_q b7 bm).use' fun g4 => ?_
  rw [j7.bb]
  have oa := t10.oa.upd (Upd.app h10 (g1 ++ (g2 ++ (g3 ++ g4))) []) (fun _ _ => by simp)
  rcases oa with ⟨_, h0'⟩ | ⟨q, rfl, hq⟩
  · simp at h0'
  · have c2 : ((2 : Nat) : Int) = 2 := rfl
    simp -dsimp -implicitDefEqProofs (disch := first | omega | (simp only [stT, u_3, ag_3, sz_3, by_3, ze_3, es_3, u_4, ag_4, sz_4, by_4, ze_4, bo_4, es_4, u_9, ag_9, sz_9, by_9, ze_9, es_9, u_22, ag_22, sz_22, by_22, ze_22, es_22, u_23, ag_23, sz_23, by_23, ze_23, es_23, u_26, ag_26, sz_26, by_26, ze_26, es_26, u_27, ag_27, sz_27, by_27, ze_27, es_27]; done) | (simp only [List.append_assoc, List.cons_append, List.nil_append, pre_n, pre_c, pre_a, pre_g, pre_r]; done) | (simp only [List.length_set]; done) | (simp only [List.length_set]; omega) | assumption | decide +kernel | fail) only [↓RP, RQ, isConstA, Nat.reduceEqDiff, Nat.reduceLT, Nat.reduceAdd, Int.reduceNeg, Int.reduceLT, Int.reduceLE, Int.reduceToNat, Int.reduceEq, ↓reduceIte, ite_true, ite_false, Option.toList, Nat.reduceMul, Nat.reduceSub, Nat.reduceLeDiff, ne_eq, eq_self, u_3, ag_3, sz_3, by_3, ze_3, es_3, u_4, ag_4, sz_4, by_4, ze_4, bo_4, es_4, u_9, ag_9, sz_9, by_9, ze_9, es_9, u_22, ag_22, sz_22, by_22, ze_22, es_22, u_23, ag_23, sz_23, by_23, ze_23, es_23, u_26, ag_26, sz_26, by_26, ze_26, es_26, u_27, ag_27, sz_27, by_27, ze_27, es_27, ↓AW_loop, ptrC, hq, slA, Option.map_some, strV, List.map_cons, List.map_nil, c2]

end Go.Abs
/- MxRow4: MuxReset: a stream that is reset delivers nothing more, and the others are unaffected, for every input. Conditions: none. -/
set_option maxRecDepth 100000
set_option linter.unusedVariables false
namespace Go.Proofs.Ytknhmkijmbcnhaa.muxReset
open Go.ChangeShapes Go.WideShapes Go.ChangeAt Go.RowKit Go.Abs
open Go.ChangeMaps (open_string shut_string)
theorem own : ownKnob Try.prog.godebug = none := by kernel_rfl
theorem laidOut : laidOutB Try.prog = true := by kernel_rfl
theorem lifted (os : Os) (started : os.Started) (H : Type) (enc : TypeId × Value → H) :
    ReturnsInHanded {} Try.checked os 7 .any (Rows.muxResetSpec.pre6 enc Try.prog Try.f7 Rows.muxResetRow.domain false) (Rows.muxResetSpec.post enc Try.prog Try.f7 false true false false) := by
  refine returnsInHanded_of_change_sized (C := Try.checked) own started (by kernel_rfl) Try.func7
    (ChangeSpec.witness6 (enc := enc) (C := Try.checked) false ⟨#[], #[.string ByteArray.empty, .string ByteArray.empty, .slice none 0 0], []⟩ 8 (by kernel_rfl) (by kernel_rfl) (by kernel_rfl) (by kernel_rfl)) ?_
  intro W base args ds gs before hval0 hW hcnd hsz0 _
  have hsz : (DataW.weightsEach Try.prog (Try.f7.params.toList ++ Rows.muxResetSpec.plain.varTypes Try.prog) (ds ++ gs)).all (· ≤ reachBytes) = true := hsz0
  have hval : ∀ (j : Nat) t v, Try.f7.params[j]? = some t → args[j]? = some v → Value.okWide Try.prog W .any base t v := hval0
  have hW' := hW
  obtain ⟨p, q, hA0, hV, rfl, hfz, hnd⟩ := hW
  have hA : DataW.TrodAll enc Try.prog W 0 (fun _ => true) true Try.f7.params.toList args.toList ds p := hA0
  rw [Try.params7] at hA hval hsz
  obtain ⟨v0, vs0, d0, ds0, p0, q0, hargs, rfl, rfl, t0, r0⟩ := trodAll_cons hA
  obtain ⟨v1, vs1, d1, ds1, p1, q1, rfl, rfl, rfl, t1, r1⟩ := trodAll_cons r0
  obtain ⟨v2, vs2, d2, ds2, p2, q2, rfl, rfl, rfl, t2, r2⟩ := trodAll_cons r1
  obtain ⟨rfl, rfl, rfl⟩ := trodAll_nil r2
  obtain rfl : args = #[v0, v1, v2] := by cases args; simp_all
  obtain ⟨rfl, rfl⟩ := trodVars_none hV
  have laid0 := Laid.start (G := cx.G) (w := W) (B := W.heap.size) rfl (Nat.le_refl _)
  have lt0 : ∀ x ∈ p0, x.block < W.heap.size := by obtain ⟨n, hn⟩ := t0; exact DataW.trod_lt n _ _ _ hn
  have tt0 := t0
  obtain ⟨y0, rfl, rfl, rfl, w0⟩ := open_string Try.underlying9 (hval 0 9 v0 rfl rfl) tt0
  have b0 : y0.size ≤ 140737488351232 := by have z := sized_string hsz (j := 0) (t := 9) rfl rfl; rw [Array.length_toList] at z; exact z
  obtain ⟨z0, rfl, zl0⟩ := str_of y0
  rw [← zl0] at b0
  have lt1 : ∀ x ∈ p1, x.block < W.heap.size := by obtain ⟨n, hn⟩ := t1; exact DataW.trod_lt n _ _ _ hn
  have tt1 := t1
  obtain ⟨y1, rfl, rfl, rfl, w1⟩ := open_string Try.underlying9 (hval 1 9 v1 rfl rfl) tt1
  have b1 : y1.size ≤ 140737488351232 := by have z := sized_string hsz (j := 1) (t := 9) rfl rfl; rw [Array.length_toList] at z; exact z
  obtain ⟨z1, rfl, zl1⟩ := str_of y1
  rw [← zl1] at b1
  have lt2 : ∀ x ∈ p2, x.block < W.heap.size := by obtain ⟨n, hn⟩ := t2; exact DataW.trod_lt n _ _ _ hn
  have tt2 := t2
  have ok2 : Cell.ok Try.prog W .any base 23 v2 := by have := hval 2 23 v2 rfl rfl; simpa only [Value.okWide, u_23, Cell.okWide] using this
  obtain ⟨E2, g2, va2, l2, le2, laid1, vr2, sl2, by2, oks2⟩ := laid0.slice (f := intE) (ok := (fun _ => True)) flat3 (by decide) u_23 (by rw [cells3]; decide) intE_inv intE_pl (fun x => by rw [cells3]; rfl) ok2 t2 (weightsEach_get hsz (i := 2) rfl rfl)
  rw [cells3] at sl2
  rw [bytes3] at by2
  obtain ⟨a2, m2, rfl, am2, sa2⟩ := sl2.split
  have hfw := reset_w (mi := m2) z0 z1 l2 (by omega) (by omega) sa2 (by omega)
  refine (law_calls cx cx_mixed (cx_prim _) (f := 7) rfl hfw laid1 (LR.cons (.string _) (LR.cons (.string _) (LR.cons vr2 (LR.nil _))))).mono fun e W' ⟨he, bel⟩ => ?_
  subst he
  exact ⟨_, rfl, _, _, _, [], _, [], hW', trodAll_mk1 (shut_bool Try.underlying4 _), (trodAll_cons_mk (Below.trod laidOut (by kernel_rfl) (of_decide_eq_true (by kernel_rfl)) t0 bel lt0) (trodAll_cons_mk (Below.trod laidOut (by kernel_rfl) (of_decide_eq_true (by kernel_rfl)) t1 bel lt1) (trodAll_cons_mk (Below.trod laidOut (by kernel_rfl) (of_decide_eq_true (by kernel_rfl)) t2 bel lt2) trodAll_mk0))), rfl, bel.frame _, fun h => by cases h⟩
theorem over : Rows.muxResetRow.holds Try.pinned (OpenSpec.ofChange Rows.muxResetSpec) :=
  OpenClaim.holds_of_wide 7 Try.f7 rfl rfl rfl rfl rfl rfl rfl ⟨rfl, rfl, rfl, rfl, rfl⟩ rfl rfl rfl rfl rfl (by kernel_rfl) Try.func7 (by kernel_rfl)
    (of_decide_eq_true (by kernel_rfl)) (by unfold Func.isWrapper; first | (rw [if_pos (by decide +kernel)]; kernel_rfl) | (rw [if_neg (by decide +kernel)]; exact ⟨rfl, rfl⟩))
    (fun os started H enc _ => lifted os started H enc)
theorem proved : Rows.MuxResetSaid := over
end Go.Proofs.Ytknhmkijmbcnhaa.muxReset
namespace Go.Proofs.Ytknhmkijmbcnhaa
/-- The law, under a short name. -/
theorem muxReset_holds : Rows.MuxResetSaid := muxReset.proved
#print axioms muxReset_holds
end Go.Proofs.Ytknhmkijmbcnhaa
